/- What is proved here: a part of the proof that the statement of this claim holds (several texts of wip/, laid together). -/
import Derived.Test.YtjapbkodhfpbbaaGreatV5
import Derived.WalkKit
import Derived.Tactics2
import Derived.Deep.RegionWith
import Derived.Laws.Rows
namespace Go.Proofs.YtjapbkodhfpbbaaGreat.E
open Go
set_option linter.constructorNameAsVariable false
set_option linter.unusedVariables false
set_option maxRecDepth 100000
set_option linter.unusedSimpArgs false
set_option linter.unusedSectionVars false
noncomputable section
def z1q:zbb:=z1o
theorem zCt:zS z1q:=z1p
theorem z2u (h:Host)(b:List Entry)(m g c a:Int)(e:Bool):(lookOf h b m g c a e).2.2=zb2 h m g c a:=by cases d:zb2 h m g c a;{rw [zh5 d]};{rw [zIg d];unfold zgI zeZ;generalize ziw b m g c a=x;cases x;{generalize zeN _ m g c a=y;cases y<;>rfl};{rfl}}
theorem z88 {h:Host}{m g c a:Int}(b:List Entry)(i:Bool)(f:SmH h)(d:zb2 h m g c a=true):SmM (lookOf h b m g c a i).1.Memory:=by have hg:zbY h m g=true:=(by unfold zb2 at d;cases e:zbY h m g;{rw [e]at d;cases d};{rfl});exact(ztN f hg).shape.1.1
def zCV (h:Host)(m g a n:Int):Host×Int×Bool:=lookOf h h.IoBuffer m g (zbk a) n true
def zhI (h:Host)(m g a v:Int):Bool:=bif zk a 0 15 then (cond (zk v 0 99) (zb2 h m g (zbk a) 2) false) else false
def zqv (h:Host)(m g a v:Int):Host:=bif zhI h m g a v then { (zCV h m g a 2).1 with Memory:=zbQ (zCV h m g a 2).1.Memory (zCV h m g a 2).2.1 (zdx a) v} else h
def zgG (h:Host)(m g a:Int):Bool:=bif zk a 0 15 then zb2 h m g (zbk a) 1 else false
def zn2 (h:Host)(m g a:Int):Host:=bif zgG h m g a then (zCV h m g a 1).1 else h
def zsa (h:Host)(m g a:Int):Int:=bif zgG h m g a then cellAt (zCV h m g a 1).1.Memory (zCV h m g a 1).2.1 (zdx a) else 0
@[simp] abbrev zw5 (h:Host)(m g a v:Int):Bool:=pc (zdI h)
@[simp] abbrev zry (h:Host)(m g a v:Int):Host:=zqv h m g a v
@[simp] abbrev zrz (h:Host)(m g a v:Int):Bool:=zhI h m g a v
@[simp] abbrev zu3 (h:Host)(m g a:Int):Bool:=pc (zdI h)
@[simp] abbrev zpE (h:Host)(m g a:Int):Host:=zn2 h m g a
@[simp] abbrev zpF (h:Host)(m g a:Int):Int:=zsa h m g a
@[simp] abbrev zpG (h:Host)(m g a:Int):Bool:=zgG h m g a
def zAW:Run:=rF5 dH dI dI dI dI λb c d e f=>(zw5 b c d e f,[aH<|zry b c d e f,aB<|zrz b c d e f])
def zFG (N:Nat)(g:Host)(c d:Int)(a e:Int):OA:=
 let b:=zl g;let h:=zk1 b b.IoBuffer c d (zb0 a) 2 true;let f:=zfY b b.IoBuffer c d (zb0 a) 2 true; (oN (zbC g)<|oN (zO a 0 15)<|cond (nB<|zk a 0 15) (some [aH b,aB false])<|oN (zO e 0 99)<|cond (nB<|zk e 0 99) (some [aH b,aB false])<|oN (zbX a)<|oN (zk2 b b.IoBuffer c d (zb0 a) 2 true)<|cond (nB<|zhY b b.IoBuffer c d (zb0 a) 2 true) (some [aH f,aB false])<|oN (zbX a)<|oN (zfk f.Memory h (zdf a) e)<|some [aH ({f with Memory:=(zft f.Memory h (zdf a) e)}:Host),aB true])
theorem zRy (a:Host)(c d:Int)(b e:Int)(f:zw5 a c d b e=true):∃N,zFG N a c d b e=some [aH<|zry a c d b e,aB<|zrz a c d b e]:=by
 have h:=(zU a).1 (zQ.1 f);refine⟨0,?_⟩;unfold zFG zry zrz zqv zhI oN nB;conv=>zeta
 refine must f (must rfl ?_);rw[show zk b 0 15=zk b 0 15 from rfl];cases i:zk b 0 15;{rfl};{refine zdp rfl (must rfl ?_);rw[show zk e 0 99=zk e 0 99 from rfl];cases j:zk e 0 99;{rfl};{refine zdp rfl (must rfl (must f ?_));rw[show zhY (zl a) (zl a).IoBuffer c d (zb0 b) 2 true=zb2 a c d (zbk b) 2 from z2u _ _ _ _ _ _ _];cases g:zb2 a c d (zbk b) 2;{rw [show zfY (zl a) (zl a).IoBuffer c d (zb0 b) 2 true=a from congrArg Prod.fst (zh5 g)];rfl};{exact zdp rfl (must rfl (must (zbw<|z88 a.IoBuffer true h g) rfl))}}}
theorem zKr:vM 85 zAW:=kF5 zCt zA zcc zdA (zx []) zRy
def zyv:Run:=rF4 dH dI dI dI λb c d e=>(zu3 b c d e,[aH<|zpE b c d e,aI<|zpF b c d e,aB<|zpG b c d e])
def zB3 (N:Nat)(f:Host)(c d a:Int):OA:=
 let b:=zl f;let g:=zk1 b b.IoBuffer c d (zb0 a) 1 true;let e:=zfY b b.IoBuffer c d (zb0 a) 1 true; (oN (zbC f)<|oN (zO a 0 15)<|cond (nB<|zk a 0 15) (some [aH b,aI 0,aB false])<|oN (zbX a)<|oN (zk2 b b.IoBuffer c d (zb0 a) 1 true)<|cond (nB<|zhY b b.IoBuffer c d (zb0 a) 1 true) (some [aH e,aI 0,aB false])<|oN (zbX a)<|oN (zfv e.Memory g<|zdf a)<|some [aH e,aI<|zgB e.Memory g<|zdf a,aB true])
theorem zOt (a:Host)(c d b:Int)(e:zu3 a c d b=true):∃N,zB3 N a c d b=some [aH<|zpE a c d b,aI<|zpF a c d b,aB<|zpG a c d b]:=by
 have h:=(zU a).1 (zQ.1 e);refine⟨0,?_⟩;unfold zB3 zpE zpF zpG zn2 zsa zgG oN nB;conv=>zeta
 refine must e (must rfl ?_);rw[show zk b 0 15=zk b 0 15 from rfl];cases g:zk b 0 15;{rfl};{refine zdp rfl (must rfl (must e ?_));rw[show zhY (zl a) (zl a).IoBuffer c d (zb0 b) 1 true=zb2 a c d (zbk b) 1 from z2u _ _ _ _ _ _ _];cases f:zb2 a c d (zbk b) 1;{rw [show zfY (zl a) (zl a).IoBuffer c d (zb0 b) 1 true=a from congrArg Prod.fst (zh5 f)];rfl};{exact zdp rfl (must rfl (must rfl rfl))}}
theorem zHI:vM 86 zyv:=kF4 zCt zA zcc zdA (zx []) zOt
def z1r:zbb:=[(85,zAW),(86,zyv)]++z1q
theorem z1s:zS z1r:=zi zKr (zi zHI zCt)
def z1t:zbb:=[(394,zqM),(347,zmt)]++z1r
theorem zPT:zS z1t:=zi zuu (zi zn0 z1s)
def zkW:Kept:=⟨rp 4 false,zlU⟩
@[simp] abbrev zw9 (n:Int):Bool:=ieq n 4
@[simp] abbrev zwr (n:Int):Kept:=zkW
def zA0:Run:=rF1 dI λb=>(zw9 b,[aT .kept<|zwr b])
def zWm (N:Nat)(b:Int):OA:=
 let a:=ln<|zhH b; (oN (zjN b)<|oN (cond (few a) (ieq a a) false)<|some [aT .kept (⟨rp a false,zhH b⟩:Kept)])
theorem zRC (a:Int)(b:zw9 a=true):∃N,zWm N a=some [aT .kept<|zwr a]:=by refine⟨0,?_⟩;have h:a=4:=qD b;subst h;change _=_;kernel_rfl
theorem zKv:vM 411 zA0:=kF1 zPT zA zcc zdA (zx []) zRC
def z1u:zbb:=[(411,zA0)]++z1t
theorem zPU:zS z1u:=zi zKv zPT
def zvc:List Slot:=List.replicate 8 ⟨-1,0⟩
def zhw (a:List (List Ins)):Mon:=⟨zvc,zOG,rp 8 false,(a.take 2).map zfx,[],0,0,(a.take 2).map λ_=>zkW,0⟩
theorem zLu {d a b q:Type}(m:Nat)(f:d->a)(g:d->b)(K:List a×List b->Option q):∀(l:List d) (i:Nat) (u:List a×List b),u.1.length+l.length<=2147483648->u.2.length+l.length<=2147483648->
 goL (λ(i:Nat) x (u:List a×List b) k=>bif ilt (i:Int) (m:Int) then (cond (few<|ln<|ap u.1 [f x]) (cond (few<|ln<|ap u.2 [g x]) (k (ap u.1 [f x],ap u.2 [g x])) none) none) else K u) K l i u=K (u.1++(l.take<|m-i).map f,u.2++(l.take<|m-i).map g)
 |[],i,u,_,_=>by simp[goL]
 |x::l,i,u,n,p=>by simp only[qZ]at n p;have e:few (ln<|ap u.1 [f x])=true:=zgu (by simp[ap];omega);have j:few (ln<|ap u.2 [g x])=true:=zgu (by simp[ap];omega);by_cases h:i<m;{have c:ilt (i:Int) (m:Int)=true:=qI (by omega);simp only[goL,c,e,j,cT];rw[zLu m f g K l (i+1) _ (by simp[ap];omega) (by simp[ap];omega)];rw[show m-i=m-(i+1)+1 by omega];simp[ap]};{have c:ilt (i:Int) (m:Int)=false:=qK (by omega);simp only[goL,c,cF];rw[show m-i=0 by omega];simp}
def z2B (u:List Guest×List Kept):OA:=some [AV.agg<|Ty.cells .mon (⟨zvc,zOG,rp 8 false,u.1,[],0,0,u.2,0⟩:Mon)]
@[simp] abbrev ztw (a:List (List Ins)):Bool:=pc (z9M a)
@[simp] abbrev zIw (a:List (List Ins)):Mon:=zhw a
def zDu:Run:=rF1 (dS<|.sl .ins) λb=>(ztw b,[aT .mon<|zIw b])
def zJg (N:Nat)(k:lP):OA:=
 (oN (zjN 8)<|oN (zpH 8)<|oN (cond (few 8) (ieq 8 8) false)<|iter (σ:=(Int×Int×Int×Int×Int×Int×Int×lP×lS×lM×lB×lG×(List Int)×lK×lS×lM×lB×lG×(List Int)×lK×Unit)) N (λl a=>let j:=a.2.2.2.2.2.2.2.2.2.2.2.2.2.2.1;let i:=a.2.2.2.2.2.2.2.2.2.2.2.2.2.2.2.1;let h:=a.2.2.2.2.2.2.2.2.2.2.2.2.2.2.2.2.1;let g:=a.2.2.2.2.2.2.2.2.2.2.2.2.2.2.2.2.2.1;let f:=a.2.2.2.2.2.2.2.2.2.2.2.2.2.2.2.2.2.2.1;let b:=a.2.2.2.2.2.2.2.1;let c:=a.2.2.2.2.2.2.2.2.2.2.2.2.2.2.2.2.2.2.2.1;let e:=ap g [zcC<|ix b a.1 []];let d:=aT .mon (⟨j,i,h,g,f,a.2.2.2.2.1,a.2.2.2.2.2.1,c,a.2.2.2.2.2.2.1⟩:Mon); (cond (ilt a.1<|ln b) (cond (ilt a.1 2) (oN (inb a.1<|ln b)<|oN (zjL<|ix b a.1 [])<|oN (few<|ln e)<|oN (zw9 4)<|oN (few<|ln<|ap c [zwr 4])<|l (zM .i64 a.1 1,a.2.1,a.2.2.1,a.2.2.2.1,a.2.2.2.2.1,a.2.2.2.2.2.1,a.2.2.2.2.2.2.1,b,a.2.2.2.2.2.2.2.2.1,a.2.2.2.2.2.2.2.2.2.1,a.2.2.2.2.2.2.2.2.2.2.1,a.2.2.2.2.2.2.2.2.2.2.2.1,a.2.2.2.2.2.2.2.2.2.2.2.2.1,a.2.2.2.2.2.2.2.2.2.2.2.2.2.1,j,i,h,e,f,ap c [zwr 4],()))<|some [d])<|some [d])) (0,0,0,0,0,0,0,k,[],[],[],[],[],[],zhH 8,zkm 8,rp 8 false,[],[],[],()))
def zV2:=zx [(370,0,{n:=36,tm:=[(0,.sl 0 []),(2,.lp 0 0),(3,.lp 1 0),(4,ti)],lo:=[(0,[.sl 1 [],.sl 2 [],.sl 3 [],.sl 4 [],.sl 5 [],ti,ti,.sl 6 [],ti]),(1,[.sl 7 [],.sl 8 [],.sl 9 [],.sl 10 [],.sl 11 [],ti,ti,.sl 12 [],ti])],ro:=[(0,.sl .ins,false),(1,.slot,true),(2,.sl .int,true),(3,.bool,true),(4,.guest,true),(5,.int,true),(6,.kept,true),(7,.slot,true),(8,.sl .int,true),(9,.bool,true),(10,.guest,true),(11,.int,true),(12,.kept,true)]})]
theorem zUg (a:List lI)(f:ztw a=true):∃N,zJg N a=some [aT .mon<|zIw a]:=by
 have e:=zQ.1 f;have c:=zdj e.1;refine zcA λN d=>?_;unfold zJg oN;conv=>zeta
 refine must rfl (must rfl (must rfl ?_));refine(zbm a (λi (t:lG×lK)=>((i:Int),0,0,0,0,0,0,a,[],[],[],[],[],[],zhH 8,zkm 8,rp 8 false,t.1,[],t.2,())) _ (λi (x:List Ins) (u:List Guest×List Kept) h=>bif ilt (i:Int) ((2:Nat):Int) then (cond (few<|ln<|ap u.1 [zfx x]) (cond (few<|ln<|ap u.2 [zkW]) (h (ap u.1 [zfx x],ap u.2 [zkW])) none) none) else z2B u) (λ(t:lG×lK)=>some [.agg<|Ty.cells .mon (⟨zhH 8,zkm 8,rp 8 false,t.1,[],0,0,t.2,0⟩:Mon)]) (λi b t rec=>?_) (λt rec=>?_) _ ([],[])<|d c.1).trans ?_;{simp only [zbG b,zbi b,zbp b,zbh b c.1,cT];have g:zjL a[i]=true:=zbw (e.2 _<|jK b);simp only[g,cT];rfl};{simp only [zbt,cF]};exact zLu 2 zfx (λ_=>zkW) z2B a 0 ([],[]) (by simpa using c.2) (by simpa using c.2)
theorem zNA:vM 370 zDu:=kF1 zPU zA zcc zdA zV2 zUg
def z1v:zbb:=[(370,zDu)]++z1u
theorem zPV:zS z1v:=zi zNA zPU
def zZX:List (List Int):=List.replicate 12 [0,0,0,0]
def zgf (a:List (List<|List Ins)):Host:=⟨zZX,(a.take 3).map zhw,[],[]⟩
def zJy (a:List (List<|List Ins)):Prop:=a.length<=1048576/\∀p∈a,z9M p
@[simp] abbrev zw6 (a:List (List<|List Ins)):Bool:=pc (zJy a)
@[simp] abbrev zhQ (a:List (List<|List Ins)):Host:=zgf a
def zX7 (t:List Mon):OA:=some [AV.agg<|zbl ⟨zZX,t,[],[]⟩]
def zAX:Run:=rF1 (dS<|.sl<|.sl .ins) λb=>(zw6 b,[aH<|zhQ b])
def zFH (N:Nat)(d:lQ):OA:=
 (oN (zpH 12)<|iter (σ:=(Int×lQ×lM×lN×lE×lE×lM×lN×lE×lE×Unit)) N (λe a=>let c:=ap a.2.2.2.2.2.2.2.1 [zIw<|ix a.2.1 a.1 []];let b:=aH (⟨a.2.2.2.2.2.2.1,a.2.2.2.2.2.2.2.1,a.2.2.2.2.2.2.2.2.1,a.2.2.2.2.2.2.2.2.2.1⟩:Host); (cond (ilt a.1<|ln a.2.1) (cond (ilt a.1 3) (oN (inb a.1<|ln a.2.1)<|oN (ztw<|ix a.2.1 a.1 [])<|oN (few<|ln c)<|e (zM .i64 a.1 1,a.2.1,a.2.2.1,a.2.2.2.1,a.2.2.2.2.1,a.2.2.2.2.2.1,a.2.2.2.2.2.2.1,c,a.2.2.2.2.2.2.2.2.1,a.2.2.2.2.2.2.2.2.2.1,()))<|some [b])<|some [b])) (0,d,[],[],[],[],zkm 12,[],[],[],()))
def zR8:=zx [(273,0,{n:=28,tm:=[(0,.sl 0 []),(2,.lp 0 0),(3,.lp 1 0),(4,ti)],lo:=[(0,[.sl 1 [],.sl 2 [],.sl 3 [],.sl 4 []]),(1,[.sl 5 [],.sl 6 [],.sl 7 [],.sl 8 []])],ro:=[(0,.sl<|.sl .ins,false),(1,.sl .int,true),(2,.mon,true),(3,.entry,true),(4,.entry,true),(5,.sl .int,true),(6,.mon,true),(7,.entry,true),(8,.entry,true)]})]
theorem zRz (a:List lP)(f:zw6 a=true):∃N,zFH N a=some [aH<|zhQ a]:=by
 have e:=zQ.1 f;have d:=zdj e.1;refine zcA λN c=>?_;unfold zFH oN;conv=>zeta
 refine must rfl ?_;refine(zbm a (λi (t:lN)=>((i:Int),a,[],[],[],[],zkm 12,t,[],[],())) _ (λi (x:List lI) (t:List Mon) h=>bif ilt (i:Int) ((3:Nat):Int) then (cond (few<|ln<|ap t [zhw x]) (h<|ap t [zhw x]) none) else zX7 t) (λ(t:lN)=>some [.agg<|zbl (⟨zkm 12,t,[],[]⟩:Host)]) (λi b t rec=>?_) (λt rec=>?_) _ ([])<|c d.1).trans ?_;{simp only [zbG b,zbi b,zbp b,zbh b d.1,cT];have g:ztw a[i]=true:=zbw (e.2 _<|jK b);simp only[g,cT];rfl};{simp only [zbt,cF]};exact zQj 3 zhw zX7 a 0 [] (by simpa using d.2)
theorem zKs:vM 273 zAX:=kF1 zPV zA zcc zdA zR8 zRz
def z1w:zbb:=[(273,zAX)]++z1v
theorem zPW:zS z1w:=zi zKs zPV
def zjq:Nat->Nat->Kept->Kept
 | 0,_,k=>k
 |n+1,i,k=>zjq n (i+1) (zb4 k (i:Int))
def zj7 (k:Kept):Kept:=zjq k.Known.length 0 k
theorem zZw (k:Kept)(p:Int):(zb4 k p).Known.length=k.Known.length:=by unfold zb4;cases zdB k p;{rfl};{exact zhy _ _ _}
theorem zxi:∀(n i:Nat) (k:Kept),SmK k->SmK (zjq n i k)
 | 0,_,_,h=>h
 |n+1,i,k,h=>zxi n (i+1) _ (zqd h)
@[simp] abbrev zw3 (k:Kept):Kept:=zj7 k
def zwd:Run:=rF1 (dT .kept) λb=>(zeI b,[aT .kept<|zw3 b])
def zAt (N:Nat)(c:Kept):OA:=
 (oN (zgQ c)<|iter (σ:=(Int×lB×lS×lB×lS×Unit)) N (λd a=>let b:=(⟨a.2.1,a.2.2.1⟩:Kept); (cond (ilt a.1<|ln a.2.1) (oN (zdQ b a.1)<|d (zM .i64 a.1 1,(zhr b a.1).Known,(zhr b a.1).Slots,a.2.2.2.1,a.2.2.2.2.1,()))<|some [aT .kept b])) (0,(zd1 c).Known,(zd1 c).Slots,[],[],()))
def zMy:=zx [(337,0,{n:=17,tm:=[(1,.lp 0 0),(2,.lp 1 0),(3,ti)],lo:=[(0,[.sl 0 [],.sl 1 []]),(1,[.sl 2 [],.sl 3 []])],ro:=[(0,.bool,true),(1,.slot,true),(2,.bool,true),(3,.slot,true)]})]
theorem zLp (a:Kept)(g:zeI a=true):∃N,zAt N a=some [aT .kept<|zw3 a]:=by
 have d:=zQ.1 g;have f:=zdj d.1;refine zcA λN c=>?_;unfold zAt oN;conv=>zeta
 refine must (zbq<|(zxD _).2 d) ?_;refine(zEe a.Known.length (λi (k:Kept)=>((i:Int),k.Known,k.Slots,[],[],())) _ (λi k=>SmK k/\k.Known.length=a.Known.length) (λi k=>some [AV.agg<|Ty.cells .kept<|zjq (a.Known.length-i) i k]) (λi k rec e b h=>?_) (λk rec b=>?_) N 0 a ⟨d,rfl⟩ (j3 _)<|c f.1).trans rfl;{refine must (zbG (by rw[b.2];exact e)) (must (zbw b.1) ?_);have q:=h (zb4 k (i:Int)) ⟨zqd b.1,by rw[zZw];exact b.2⟩;rw[show a.Known.length-i=a.Known.length-(i+1)+1 by omega];rw[zbh e f.1];exact q};{refine zdp (by show ilt (a.Known.length:Int) (ln k.Known)=false;rw[ln,b.2];exact qK (by omega)) ?_;rw[k7];rfl}
theorem zEJ:vM 337 zwd:=kF1 zPW zA zcc zdA zMy zLp
def z1x:zbb:=[(337,zwd)]++z1w
theorem zPX:zS z1x:=zi zEJ zPW
def zvw:Nat->Nat->List Kept->List Kept
 | 0,_,l=>l
 |n+1,j,l=>zvw n (j+1) (up l (j:Int)<|zj7<|ix l (j:Int) kZ)
def zvx (x:Mon)(n j:Nat):Mon:={x with Tables:=zvw n j x.Tables}
def zoG:Nat->Nat->List Mon->List Mon
 | 0,_,t=>t
 |n+1,i,t=>zoG n (i+1) (up t (i:Int)<|zvx (ix t (i:Int) mZ) (ix t (i:Int) mZ).Tables.length 0)
def cold (h:Host):Host:=⟨h.Memory,zoG h.Mons.length 0 h.Mons,[],[]⟩
theorem zMa:∀(n j:Nat) (l:List Kept),j+n<=l.length->zCf l->zCf (zvw n j l)
 | 0,_,_,_,h=>h
 |n+1,j,l,b,h=>by have a:j<l.length:=(by omega);refine zMa n (j+1) _ (by rw[zhy];omega) (zyI h<|zxi _ _ _ ?_);rw[zbp a];exact h.2 _ (jK a)
theorem zMc {x:Mon}(h:zf1 x){n j:Nat}(a:j+n<=x.Tables.length):zf1 (zvx x n j):=⟨h.1,h.2.1,h.2.2.1,h.2.2.2.1,h.2.2.2.2.1,zMa n j _ a h.2.2.2.2.2⟩
@[simp] abbrev zU7 (h:Host):Host:=cold h
def zLR:Run:=rF1 dH λb=>(zbC b,[aH<|zU7 b])
def zSB (N:Nat)(d:Host):OA:=
 (oN (zbC d)<|iter (σ:=(Int×lM×lN×lE×lE×lM×lN×lE×lE×Unit)) N (λg b=>cond (ilt b.1<|ln b.2.2.1) (iter (σ:=(Int×Int×lM×lN×lE×lE×lM×lN×lE×lE×Unit)) N (λh a=>let e:=inb a.1<|ln a.2.2.2.1;let c:=ix a.2.2.2.1 a.1 zh;let f:=ix c.Tables a.2.1 zeC; (oN e<|cond (ilt a.2.1<|ln c.Tables) (oN e<|oN e<|oN (inb a.2.1<|ln c.Tables)<|oN (zeI f)<|oN (inb a.2.1<|ln c.Tables)<|share (up a.2.2.2.1 a.1 ({c with Tables:=(up c.Tables a.2.1<|zw3 f)}:Mon)) λi=>h (a.1,zM .i64 a.2.1 1,a.2.2.1,i,a.2.2.2.2.1,a.2.2.2.2.2.1,a.2.2.2.2.2.2.1,a.2.2.2.2.2.2.2.1,a.2.2.2.2.2.2.2.2.1,a.2.2.2.2.2.2.2.2.2.1,()))<|g (zM .i64 a.1 1,a.2.2.1,a.2.2.2.1,a.2.2.2.2.1,a.2.2.2.2.2.1,a.2.2.2.2.2.2.1,a.2.2.2.2.2.2.2.1,a.2.2.2.2.2.2.2.2.1,a.2.2.2.2.2.2.2.2.2.1,()))) (b.1,0,b.2.1,b.2.2.1,b.2.2.2.1,b.2.2.2.2.1,b.2.2.2.2.2.1,b.2.2.2.2.2.2.1,b.2.2.2.2.2.2.2.1,b.2.2.2.2.2.2.2.2.1,()))<|some [aH (⟨b.2.1,b.2.2.1,[],[]⟩:Host)]) (0,(zl d).Memory,(zl d).Mons,(zl d).Buffer,(zl d).IoBuffer,[],[],[],[],()))
def z0V:=zx [(202,0,{n:=48,tm:=[(1,.lp 0 0),(2,.lp 1 0),(3,ti)],lo:=[(0,[.sl 0 [],.sl 1 [],.sl 2 [],.sl 3 []]),(1,[.sl 4 [],.sl 5 [],.sl 6 [],.sl 7 []])],ro:=[(0,.sl .int,true),(1,.mon,true),(2,.entry,true),(3,.entry,true),(4,.sl .int,true),(5,.mon,true),(6,.entry,true),(7,.entry,true)]}),(202,2,{n:=48,tm:=[(1,.lp 0 0),(2,.lp 1 0),(3,ti),(4,ti)],lo:=[(0,[.sl 0 [],.sl 1 [],.sl 2 [],.sl 3 []]),(1,[.sl 4 [],.sl 5 [],.sl 6 [],.sl 7 []])],ro:=[(0,.sl .int,true),(1,.mon,true),(2,.entry,true),(3,.entry,true),(4,.sl .int,true),(5,.mon,true),(6,.entry,true),(7,.entry,true)]})]
theorem zZV (a:Host)(m:zbC a=true):∃N,zSB N a=some [aH<|zU7 a]:=by
 have v:=(zU a).1 (zQ.1 m);have s:=zdj v.2.1.1;refine zcA λN f=>?_;unfold zSB oN;conv=>zeta
 refine must m ?_;refine(zEe a.Mons.length (λi (t:List Mon)=>((i:Int),a.Memory,t,a.Buffer,a.IoBuffer,[],[],[],[],())) _ (λi t=>zrU t/\t.length=a.Mons.length) (λi t=>some [AV.agg<|zbl ⟨a.Memory,zoG (a.Mons.length-i) i t,[],[]⟩]) (λi t rec n e x=>?_) (λt rec e=>?_) N 0 a.Mons ⟨v.2.1,rfl⟩ (j3 _)<|f s.1).trans rfl
 .have hit:i<t.length:=(by rw[e.2];exact n);have l:zf1 (ix t (i:Int) mZ):=by rw[zbp hit];exact e.1.2 _ (jK hit)
  have r:=zdj l.2.2.2.2.2.1;refine must (zbG hit) ?_;refine(zEe (ix t (i:Int) mZ).Tables.length (λj (u:List Mon)=>((i:Int),(j:Int),a.Memory,u,a.Buffer,a.IoBuffer,[],[],[],[],()))
   _ (λj u=>u.length=t.length/\zf1 (ix u (i:Int) mZ)/\(ix u (i:Int) mZ).Tables.length=(ix t (i:Int) mZ).Tables.length)
   (λj u=>rec (((i+1:Nat):Int),a.Memory,up u (i:Int)<|zvx (ix u (i:Int) mZ) ((ix t (i:Int) mZ).Tables.length-j) j,a.Buffer,a.IoBuffer,[],[],[],[],()))
   (λj u h p c k=>?_) (λu h c=>?_) N 0 t ⟨rfl,l,rfl⟩ (j3 _) (f r.1)).trans ?_
  .have b:i<u.length:=(by rw[c.1];exact hit);have d:j<(ix u (i:Int) mZ).Tables.length:=(by rw[c.2.2];exact p);have g:SmK (ix (ix u (i:Int) mZ).Tables (j:Int) kZ):=by rw[zbp d];exact c.2.1.2.2.2.2.2.2 _ (jK d)
   refine must (zbi b) (must (zbG d)<|must (zbi b)<|must (zbi b)<|must (zbi d)<|must (zbw g)<|must (zbi d)<|shr ?_);have w:zf1 {ix u (i:Int) mZ with Tables:=up (ix u (i:Int) mZ).Tables (j:Int) (zj7<|ix (ix u (i:Int) mZ).Tables (j:Int) kZ)} :=
    ⟨c.2.1.1,c.2.1.2.1,c.2.1.2.2.1,c.2.1.2.2.2.1,c.2.1.2.2.2.2.1,zyI c.2.1.2.2.2.2.2<|zxi _ _ _ g⟩
   have q:=k (up u (i:Int) {ix u (i:Int) mZ with Tables:=up (ix u (i:Int) mZ).Tables (j:Int) (zj7<|ix (ix u (i:Int) mZ).Tables (j:Int) kZ)}) ⟨by rw[zhy];exact c.1,by rw[zel b];exact w,by rw[zel b];simp only[zhy];exact c.2.2⟩;rw[zbh p r.1];refine q.trans ?_;rw[zel b,zwA,show (ix t (i:Int) mZ).Tables.length-j=(ix t (i:Int) mZ).Tables.length-(j+1)+1 by omega];rfl
  {have b:i<u.length:=(by rw[c.1];exact hit);refine must (zbi b) (zdp (by show ilt ((ix t (i:Int) mZ).Tables.length:Int) (ln (ix u (i:Int) mZ).Tables)=false;rw[ln,c.2.2];exact qK (by omega)) ?_);rw[zbh n s.1,k7];show rec (_,a.Memory,u,_)=rec (_,a.Memory,up u (i:Int)<|ix u (i:Int) mZ,_);rw[zPf b]};{have q:=x (up t (i:Int)<|zvx (ix t (i:Int) mZ) (ix t (i:Int) mZ).Tables.length 0) ⟨zj2 e.1<|zMc l (by omega),by rw[zhy];exact e.2⟩;refine q.trans ?_;rw[show a.Mons.length-i=a.Mons.length-(i+1)+1 by omega];rfl}
 {refine zdp (by show ilt (a.Mons.length:Int) (ln t)=false;rw[ln,e.2];exact qK (by omega)) ?_;rw[k7];rfl}
theorem zTD:vM 202 zLR:=kF1 zPX zA zcc zdA z0V zZV
def z1y:zbb:=[(202,zLR)]++z1x
theorem z1z:zS z1y:=zi zTD zPX
def z1A:zbb:=z1y
theorem zPY:zS z1A:=z1z
theorem zBh:∀(n i:Nat) (t:List Mon),i+n<=t.length->zrU t->zrU (zoG n i t)
 | 0,_,_,_,h=>h
 |n+1,i,t,b,h=>by have a:i<t.length:=(by omega);refine zBh n (i+1) _ (by rw[zhy];omega) (zj2 h<|zMc ?_ (by omega));rw[zbp a];exact h.2 _ (jK a)
theorem z5K {h:Host}(a:SmH h):SmH (cold h):=⟨a.1,zBh _ _ _ (by omega) a.2.1,by simp[cold],by simp[cold]⟩
theorem zod {h:Host}{m:Int}{b:Bare}(c:SmH h)(d:zc3 h m=true->SmB b):SmH (zir h m b):=by unfold zir;cases a:zc3 h m;{exact c};{exact zIB c (zcP.1 a).2 (d a).2.1}
theorem z3s {h:Host}{m g p:Int}(c:SmH h):SmH (zlo h m g p):=by unfold zlo;cases e:zc3 h m;{exact c};{cases l:zcq (zK h m) g (hasB p 4);{exact c};{have d:=(zcP.1 e).2;have f:=zIA c d;have k:SmB (chg (zK h m) g (hasB p 4)<|zei (gAt (zK h m) g) p):=zqW f (zL8 _<|zjW _ f);have b:=zIB c d k.2.1;have i:=zSO (chg (zK h m) g (hasB p 4)<|zei (gAt (zK h m) g) p) d;have j:=zP6 c e (chg (zK h m) g (hasB p 4)<|zei (gAt (zK h m) g) p) l;have a:=b.2.1.2 _ (zbK i mZ);simp only[cT];exact⟨b.1,zj2 b.2.1 ⟨a.1,a.2.1,a.2.2.1,a.2.2.2.1,a.2.2.2.2.1,zyI a.2.2.2.2.2<|zqd<|a.2.2.2.2.2.2 _<|zbK j _⟩,qT (zze _ _ _) b.2.2.1,qT (zze _ _ _) b.2.2.2⟩}}
theorem z5L {h:Host}{m p c v:Int}(e:SmH h):SmH (zn1 h m p c v):=by unfold zn1;cases a:zf5 h m p c v;{exact e};{have f:zcN h m p=true:=(by unfold zf5 at a;cases b:zcN h m p;{rw [b]at a;cases a};{rfl});obtain⟨g,i,b⟩:=zkX.1 f;have d:=(zva (n:=2) (zf4 e g) i b).1.1;exact⟨zz2 d.1,d.2⟩}
theorem zUx {h:Host}{m g c a:Int}(b:List Entry)(i:Bool)(f:SmH h)(d:zb2 h m g c a=true):SmH (lookOf h b m g c a i).1:=by have hg:zbY h m g=true:=(by unfold zb2 at d;cases e:zbY h m g;{rw [e]at d;cases d};{rfl});exact(ztN f hg).shape.1
theorem z9B {h:Host}{m g a v:Int}(e:SmH h):SmH (zqv h m g a v):=by unfold zqv;cases b:zhI h m g a v;{exact e};{have f:zb2 h m g (zbk a) 2=true:=(by unfold zhI at b;cases c:zk a 0 15;{rw [c]at b;cases b};{cases d:zk v 0 99;{rw [c,d]at b;cases b};{rw [c,d]at b;exact b}});have c:=zUx h.IoBuffer true e f;exact⟨zz2 c.1,c.2⟩}
theorem z5M {h:Host}{m g a:Int}(d:SmH h):SmH (zn2 h m g a):=by unfold zn2;cases b:zgG h m g a;{exact d};{have e:zb2 h m g (zbk a) 1=true:=(by unfold zgG at b;cases c:zk a 0 15;{rw [c]at b;cases b};{rw [c]at b;exact b});exact zUx h.IoBuffer true d e}
theorem z9C {h:Host}{m p:Int}(a:SmH h):SmH (zqB h m p):=by unfold zqB;cases b:zcN h m p;{exact a};{obtain⟨c,d,e⟩:=zkX.1 b;cases zk7 h m p;{exact(zL2 (zf4 a c).1 d).1};{exact a}}
theorem zbaJ {h:Host}{m p:Int}(a:SmH h):SmH (zuE h m p):=by unfold zuE;cases b:zcN h m p;{exact a};{obtain⟨c,d,e⟩:=zkX.1 b;cases zk7 h m p;{exact a};{exact(zkO (zf4 a c) d e).1.1}}
theorem z3w {h:Host}{m t:Int}(a:SmH h):SmH (zku h m t):=by unfold zku;cases zck h;{exact a};{cases c:hasB m (ln h.Mons);{exact a};{cases zk t 0 3;{exact a};{have b:zf1 (ix h.Mons m mZ):=a.2.1.2 _ (zbK c mZ);exact⟨a.1,zj2 a.2.1 ⟨b.1,b.2.1,b.2.2.1,b.2.2.2.1,b.2.2.2.2.1,b.2.2.2.2.2⟩,a.2.2⟩}}}
def zux (h:Host)(a:GAct):Host:=bif ieq a.Kind 1 then (zbg h a.M a.G).1 else (cond (ieq a.Kind 2) (znf h a.M a.G a.X ⟨a.Y,a.Z⟩)<|cond (ieq a.Kind 3) (zlo h a.M a.G a.X)<|cond (ieq a.Kind 4) (zjy h a.M a.G a.X)<|cond (ieq a.Kind 5) (zjC h a.M a.G)<|cond (ieq a.Kind 6) (zjA h a.M a.G a.X)<|cond (ieq a.Kind 7) (znd h a.M a.G ⟨a.X,a.Y,ieq a.Z 1⟩)<|cond (ieq a.Kind 8) (zn1 h a.M a.X a.Y a.Z)<|cond (ieq a.Kind 9) (zlt h a.M a.X)<|cond (ieq a.Kind 10) (zna h a.M)<|cond (ieq a.Kind 11) (zqv h a.M a.G a.X a.Y)<|zn2 h a.M a.G a.X)
def zCT (h:Host)(a:GAct):Told:=bif ieq a.Kind 1 then ⟨(zbg h a.M a.G).2,0⟩ else (cond (ieq a.Kind 2) ⟨zng h a.M a.G a.X ⟨a.Y,a.Z⟩,0⟩<|cond (ieq a.Kind 3) ⟨zkC h a.M a.G a.X,0⟩<|cond (ieq a.Kind 4) ⟨zjz h a.M a.G a.X,0⟩<|cond (ieq a.Kind 5) ⟨zjD h a.M a.G,0⟩<|cond (ieq a.Kind 6) ⟨zjB h a.M a.G a.X,0⟩<|cond (ieq a.Kind 7) ⟨zne h a.M a.G ⟨a.X,a.Y,ieq a.Z 1⟩,0⟩<|cond (ieq a.Kind 8) ⟨zf5 h a.M a.X a.Y a.Z,0⟩<|cond (ieq a.Kind 9) ⟨zlu h a.M a.X,0⟩<|cond (ieq a.Kind 10) ⟨znc h a.M,znb h a.M⟩<|cond (ieq a.Kind 11) ⟨zhI h a.M a.G a.X a.Y,0⟩<|⟨zgG h a.M a.G a.X,zsa h a.M a.G a.X⟩)
def znk (h:Host)(a:GAct):Host:=bif ieq a.Kind 13 then zqB h a.M a.X else (cond (ieq a.Kind 14) (zuE h a.M a.X)<|cond (ieq a.Kind 15) (zun h a.M a.X)<|cond (ieq a.Kind 16) (zku h a.M a.X)<|cold h)
def zLC (h:Host)(a:GAct):Told:=bif ieq a.Kind 13 then ⟨zDh h a.M a.X,0⟩ else (cond (ieq a.Kind 14) ⟨zIk h a.M a.X,0⟩<|cond (ieq a.Kind 15) ⟨zcN h a.M a.X,0⟩<|cond (ieq a.Kind 16) ⟨zzY h a.M a.X,0⟩<|⟨true,0⟩)
def zfa (h:Host)(a:GAct):Host:=bif zk a.Kind 1 17 then (cond (zk a.Kind 13 17) (znk h a)<|zux h a) else h
def zkc (h:Host)(a:GAct):Told:=bif zk a.Kind 1 17 then (cond (zk a.Kind 13 17) (zLC h a)<|zCT h a) else ⟨false,0⟩
theorem z3v {h:Host}{a:GAct}(b:SmH h):SmH (znk h a):=by unfold znk;cases ieq a.Kind 13;{cases ieq a.Kind 14;{cases ieq a.Kind 15;{cases ieq a.Kind 16;{exact z5K b};{exact z3w b}};{exact z3t b}};{exact zbaJ b}};{exact z9C b}
theorem z3u {h:Host}{a:GAct}(c:SmH h):SmH (zux h a):=by have d:zc3 h a.M=true->SmB (zK h a.M):=λb=>zIA c (zcP.1 b).2;unfold zux;cases ieq a.Kind 1;{cases ieq a.Kind 2;{cases ieq a.Kind 3;{cases ieq a.Kind 4;{cases ieq a.Kind 5;{cases ieq a.Kind 6;{cases ieq a.Kind 7;{cases ieq a.Kind 8;{cases ieq a.Kind 9;{cases ieq a.Kind 10;{cases ieq a.Kind 11;{exact z5M c};{exact z9B c}};{exact zod c (λb=>zYu (d b))}};{exact zod c (λb=>zVw _ (d b))}};{exact z5L c}};{exact zod c (λb=>zYv _ _ (d b))}};{exact zod c (λb=>zL5 _ _ (d b))}};{exact zod c (λb=>zL6 _ (d b))}};{exact zod c (λb=>zL4 _ _ (d b))}};{exact z3s c}};{exact zod c (λb=>zYw _ _ _ (d b))}};{exact(zDH a.M a.G c).sm}
theorem zYz {h:Host}{a:GAct}(b:SmH h):SmH (zfa h a):=by unfold zfa;cases zk a.Kind 1 17;{exact b};{cases zk a.Kind 13 17;{exact z3u b};{exact z3v b}}
@[simp] abbrev zin (h:Host)(a:GAct):Bool:=pc (zdI h)
@[simp] abbrev zlS (h:Host)(a:GAct):Host:=znk h a
@[simp] abbrev zjV (h:Host)(a:GAct):Told:=zLC h a
def zyA:Run:=rF2 dH (dT .act) λb c=>(zin b c,[aH<|zlS b c,aT .told<|zjV b c])
def zCe (N:Nat)(c:Host)(a:GAct):OA:=
 (cond (ieq a.Kind 13) (oN (ziN c a.M a.X)<|some [aH<|zrA c a.M a.X,.agg [.b<|zrB c a.M a.X,.i .i64 0]])<|cond (ieq a.Kind 14) (oN (ziN c a.M a.X)<|some [aH<|ztx c a.M a.X,.agg [.b<|zty c a.M a.X,.i .i64 0]])<|cond (ieq a.Kind 15) (oN (ziN c a.M a.X)<|some [aH<|zwh c a.M a.X,.agg [.b<|zgj c a.M a.X,.i .i64 0]])<|cond (ieq a.Kind 16) (oN (zu4 c a.M a.X)<|some [aH<|zpJ c a.M a.X,.agg [.b<|zpK c a.M a.X,.i .i64 0]])<|oN (zbC c)<|some [aH<|zU7 c,.agg [.b true,.i .i64 0]])
theorem zOC (a:Host)(b:GAct)(c:zin a b=true):∃N,zCe N a b=some [aH<|zlS a b,aT .told<|zjV a b]:=by have d:=zQ.1 c;refine⟨0,?_⟩;unfold zCe oN;refine br (λ_=>mu ?_) (λ_=>br (λ_=>mu ?_) λ_=>br (λ_=>mu ?_) λ_=>br (λ_=>mu ?_) λ_=>mu ?_);all_goals first|rfl|(simp only [*,zlS,zjV,znk,zLC,cT,cF]<;>rfl)|simp_all[Ty.cells,zlS,zjV,znk,zLC]
theorem zHY:vM 74 zyA:=kF2 zPY zA zcc zdA (zx []) zOC
def z1B:zbb:=[(74,zyA),(25,zGr),(13,zAZ),(23,zGs)]++z1A
theorem zPZ:zS z1B:=zi zHY (zi zQX<|zi zKu<|zi zQY zPY)
@[simp] abbrev znn (h:Host)(a:GAct):Host:=zfa h a
@[simp] abbrev zno (h:Host)(a:GAct):Told:=zkc h a
def zsN:Run:=rF2 dH (dT .act) λb c=>(zin b c,[aH<|znn b c,aT .told<|zno b c])
def zFE (N:Nat)(c:Host)(a:GAct):OA:=
 let d:=(⟨a.Y,a.Z⟩:Slot); (oN (zop a)<|cond (nB<|zyB a) (oN (zbC c)<|some [aH<|zl c,.agg [.b false,.i .i64 0]])<|oN (zw8 a.Kind)<|cond (zsj a.Kind) (oN (zin c a)<|some [aH<|zlS c a,.agg [.b (zjV c a).Ok,.i .i64 (zjV c a).N]])<|cond (ieq a.Kind 1) (oN (zcT c a.M a.G)<|some [aH<|zcl c a.M a.G,.agg [.b<|zcm c a.M a.G,.i .i64 0]])<|cond (ieq a.Kind 2) (oN (zw7 c a.M a.G a.X d)<|some [aH<|znf c a.M a.G a.X d,.agg [.b<|zng c a.M a.G a.X d,.i .i64 0]])<|cond (ieq a.Kind 3) (oN (zsV c a.M a.G a.X)<|some [aH<|znL c a.M a.G a.X,.agg [.b<|zkC c a.M a.G a.X,.i .i64 0]])<|cond (ieq a.Kind 4) (oN (zqP c a.M a.G a.X)<|some [aH<|zjy c a.M a.G a.X,.agg [.b<|zjz c a.M a.G a.X,.i .i64 0]])<|cond (ieq a.Kind 5) (oN (zqR c a.M a.G)<|some [aH<|zjC c a.M a.G,.agg [.b<|zjD c a.M a.G,.i .i64 0]])<|cond (ieq a.Kind 6) (oN (zqQ c a.M a.G a.X)<|some [aH<|zjA c a.M a.G a.X,.agg [.b<|zjB c a.M a.G a.X,.i .i64 0]])<|cond (ieq a.Kind 7) (oN (zop a)<|oN (zw4 c a.M a.G<|zqN a)<|some [aH<|znd c a.M a.G<|zqN a,.agg [.b<|zne c a.M a.G<|zqN a,.i .i64 0]])<|cond (ieq a.Kind 8) (oN (zu0 c a.M a.X a.Y a.Z)<|some [aH<|zpC c a.M a.X a.Y a.Z,.agg [.b<|zpD c a.M a.X a.Y a.Z,.i .i64 0]])<|cond (ieq a.Kind 9) (oN (zu1 c a.M a.X)<|some [aH<|zlt c a.M a.X,.agg [.b<|zlu c a.M a.X,.i .i64 0]])<|cond (ieq a.Kind 10) (oN (zgX c a.M)<|some [aH<|zna c a.M,.agg [.b<|znc c a.M,.i .i64<|znb c a.M]])<|cond (ieq a.Kind 11) (oN (zw5 c a.M a.G a.X a.Y)<|some [aH<|zry c a.M a.G a.X a.Y,.agg [.b<|zrz c a.M a.G a.X a.Y,.i .i64 0]])<|oN (zu3 c a.M a.G a.X)<|some [aH<|zpE c a.M a.G a.X,.agg [.b<|zpG c a.M a.G a.X,.i .i64<|zpF c a.M a.G a.X]])
theorem zRw (a:Host)(b:GAct)(c:zin a b=true):∃N,zFE N a b=some [aH<|znn a b,aT .told<|zno a b]:=by
 have d:=zQ.1 c;refine⟨0,?_⟩;unfold zFE oN nB;conv=>zeta
 refine must rfl (brN (λ_=>mu ?_) λ_=>must rfl (br (λ_=>mu ?_) λ_=>br (λ_=>mu ?_) λ_=>br (λ_=>mu ?_) λ_=>br (λ_=>mu ?_) λ_=>br (λ_=>mu ?_) λ_=>br (λ_=>mu ?_) λ_=>br (λ_=>mu ?_) λ_=>br (λ_=>must rfl (mu ?_)) λ_=>br (λ_=>mu ?_) λ_=>br (λ_=>mu ?_) λ_=>br (λ_=>mu ?_) λ_=>br (λ_=>mu ?_) λ_=>mu ?_));all_goals first|rfl|(simp only [*,znn,zno,zfa,zkc,zux,zCT,cT,cF]<;>rfl)|simp_all[Ty.cells,znn,zno,zfa,zkc,zux,zCT]
theorem zvP:vM 14 zsN:=kF2 zPZ zA zcc zdA (zx []) zRw
def z1C:zbb:=[(14,zsN)]++z1B
theorem zP0:zS z1C:=zi zvP zPZ
def zDn:List GAct->Host×List Told->Host×List Told
 |[],u=>u
 |a::l,u=>zDn l (zfa u.1 a,ap u.2 [zkc u.1 a])
def zzq (a:List (List<|List Ins))(l:List GAct):Host×List Told:=zDn (l.take 80) (zgf a,[])
abbrev HSt:Type:=(List Told)×(List<|List Int)×(List Mon)×(List Entry)×(List Entry)
def hOf (t:HSt):Host:=⟨t.2.1,t.2.2.1,t.2.2.2.1,t.2.2.2.2⟩
def tOf (u:Host×List Told):HSt:=(u.2,u.1.Memory,u.1.Mons,u.1.Buffer,u.1.IoBuffer)
def zzI (t:HSt):OA:=some [AV.agg<|zbl<|hOf t,AV.one<|.s .told t.1]
theorem zYA {e:List (List<|List Ins)}(h:zJy e):SmH (zgf e):=by refine⟨show SmM zZX from ⟨by decide,by decide⟩,⟨?_,?_⟩,by simp[zgf],by simp[zgf]⟩;{simp only [zgf,uK,u2];omega};{intro x d;simp only[zgf,jE]at d;obtain⟨p,f,rfl⟩:=d;have b:=h.2 p (jT f);refine⟨show zvc.length<=1048576 by decide,show SmM zOG from ⟨by decide,by decide⟩,show (rp 8 false).length<=1048576 by decide,⟨?_,?_⟩,by simp[zhw],⟨?_,?_⟩⟩;{simp only [zhw,uK,u2];omega};{intro y a;simp only[zhw,jE]at a;obtain⟨q,c,rfl⟩:=a;exact⟨b.2 q<|jT c,show zlU.length<=1048576 by decide,show zlU.length<=1048576 by decide,by simp[zfx]⟩};{simp only [zhw,uK,u2];omega};{intro y a;simp only[zhw,jE]at a;obtain⟨q,c,rfl⟩:=a;exact⟨show (rp 4 false).length<=1048576 by decide,show zlU.length<=1048576 by decide⟩}}
theorem zGc {c:Host->GAct->Bool}(d:∀h a,SmH h->c h a=true)(m:Nat):∀(l:List GAct) (i:Nat) (u:Host×List Told),SmH u.1->u.2.length+l.length<=2147483648->
 goL (λ(i:Nat) x (t:HSt) n=>bif ilt (i:Int) (m:Int) then (cond (c (hOf t) x) (cond (few<|ln<|ap t.1 [zkc (hOf t) x]) (n (ap t.1 [zkc (hOf t) x],(zfa (hOf t) x).Memory,(zfa (hOf t) x).Mons,(zfa (hOf t) x).Buffer,(zfa (hOf t) x).IoBuffer)) none) none) else zzI t) zzI l i (tOf u)=zzI (tOf<|zDn (l.take<|m-i) u)
 |[],i,u,_,_=>by simp[goL,zDn]
 |a::l,i,u,e,k=>by simp only[qZ]at k;have g:few (ln<|ap u.2 [zkc u.1 a])=true:=zgu (by simp[ap];omega);have j:hOf (tOf u)=u.1:=rfl;have f:(tOf u).1=u.2:=rfl;by_cases h:i<m;{have b:ilt (i:Int) (m:Int)=true:=qI (by omega);simp only[goL,b,j,f,g,d _ _ e,cT];refine(zGc d m l (i+1) (zfa u.1 a,ap u.2 [zkc u.1 a]) (zYz e) (by simp[ap];omega)).trans ?_;rw[show m-i=m-(i+1)+1 by omega];rfl};{have b:ilt (i:Int) (m:Int)=false:=qK (by omega);simp only[goL,b,cF];rw[show m-i=0 by omega];rfl}
@[simp] abbrev zuZ (a:List (List<|List Ins))(l:List GAct):Bool:=pc (zJy a/\l.length<=1048576)
@[simp] abbrev zuY (a:List (List<|List Ins))(l:List GAct):Host:=(zzq a l).1
@[simp] abbrev zDB (a:List (List<|List Ins))(l:List GAct):List Told:=(zzq a l).2
def zys:Run:=rF2 (dS<|.sl<|.sl .ins) (dS .act) λb c=>(zuZ b c,[aH<|zuY b c,aS .told<|zDB b c])
def zB0 (N:Nat)(b:lQ)(g:lA):OA:=
 (oN (zw6 b)<|iter (σ:=(Int×lA×lT×lM×lN×lE×lE×lM×lN×lE×lE×Unit)) N (λh a=>let e:=ix a.2.1 a.1 zbbn;let c:=(⟨a.2.2.2.2.2.2.2.1,a.2.2.2.2.2.2.2.2.1,a.2.2.2.2.2.2.2.2.2.1,a.2.2.2.2.2.2.2.2.2.2.1⟩:Host);let f:=ap a.2.2.1 [zno c e];let d:=znn c e; (cond (ilt a.1<|ln a.2.1) (cond (ilt a.1 80) (oN (inb a.1<|ln a.2.1)<|oN (zin c e)<|oN (few<|ln f)<|h (zM .i64 a.1 1,a.2.1,f,a.2.2.2.1,a.2.2.2.2.1,a.2.2.2.2.2.1,a.2.2.2.2.2.2.1,d.Memory,d.Mons,d.Buffer,d.IoBuffer,()))<|some [aH c,aS .told a.2.2.1])<|some [aH c,aS .told a.2.2.1])) (0,g,[],[],[],[],[],(zhQ b).Memory,(zhQ b).Mons,(zhQ b).Buffer,(zhQ b).IoBuffer,()))
def zO7:=zx [(137,0,{n:=39,tm:=[(1,.sl 0 []),(4,.lp 0 0),(6,.lp 1 0),(7,.sl 1 []),(8,ti)],lo:=[(0,[.sl 2 [],.sl 3 [],.sl 4 [],.sl 5 []]),(1,[.sl 6 [],.sl 7 [],.sl 8 [],.sl 9 []])],ro:=[(0,.act,false),(1,.told,true),(2,.sl .int,true),(3,.mon,true),(4,.entry,true),(5,.entry,true),(6,.sl .int,true),(7,.mon,true),(8,.entry,true),(9,.entry,true)]})]
theorem zOq (b:List lP)(c:List GAct)(k:zuZ b c=true):∃N,zB0 N b c=some [aH<|zuY b c,aS .told<|zDB b c]:=by
 obtain⟨j,g⟩:=zQ.1 k;have f:=zdj g;refine zcA λN e=>?_;unfold zB0 oN;conv=>zeta
 refine must (zbw j) ?_;refine(zbm c (λi (t:lT×lM×lN×lE×lE)=>((i:Int),c,t.1,[],[],[],[],t.2.1,t.2.2.1,t.2.2.2.1,t.2.2.2.2,())) _ (λi (x:GAct) (t:HSt) m=>bif ilt (i:Int) ((80:Nat):Int) then (cond (zin (hOf t) x) (cond (few<|ln<|ap t.1 [zkc (hOf t) x]) (m (ap t.1 [zkc (hOf t) x],(zfa (hOf t) x).Memory,(zfa (hOf t) x).Mons,(zfa (hOf t) x).Buffer,(zfa (hOf t) x).IoBuffer)) none) none) else zzI t) (λ(t:lT×lM×lN×lE×lE)=>some [.agg<|zbl (⟨t.2.1,t.2.2.1,t.2.2.2.1,t.2.2.2.2⟩:Host),.one<|.s .told t.1]) (λi d t rec=>?_) (λt rec=>?_) _ ([],(zhQ b).Memory,(zhQ b).Mons,(zhQ b).Buffer,(zhQ b).IoBuffer)<|e f.1).trans ?_;{simp only [zbG d,zbi d,zbp d,zbh d f.1,cT];rfl};{simp only [zbt,cF]};exact zGc (λh a l=>zbw ((zU h).2 l)) 80 c 0 (zgf b,[]) (zYA j) (by simpa using f.2)
theorem zHF:vM 137 zys:=kF2 zP0 zA zcc zdA zO7 zOq
def zS5:zbb:=[(137,zys)]++z1C
theorem zwT:zS zS5:=zi zHF zP0
def zDX (h:Host):Prop:=∃a l,zJy a/\(1<=a.length/\∀p∈a,1<=p.length/\∀x∈p,zdw x=true)/\h=(zzq a l).1
theorem zIt {p:List Ins}(h:zdw p=true):p.length<=12:=by unfold zdw at h;cases a:p.all zeD with|false=>rw[a]at h;cases h|true=>rw[a,cT]at h;have b:=(zfA.1 h).2;unfold ln at b;omega
def zwI (N:Nat)(c:Cur)  : OA :=
 let a:=({ (zmJ c) with b:=c.b}:Cur); (oN (zp7 c)<|oN (znv a 20)<|oN (zuZ (zu8 c)<|zsk a 20)<|some [.agg [.s .u8 c.b,.i .i64 (znw a 20).i,.i .i64 (znw a 20).h],aH<|zuY (zu8 c)<|zsk a 20])
def zp8 (c:Cur)(s:Cur)(a:Host):Prop:=(∃N,zwI N c=some (AV.agg (zb1 s)::[aH a]))/\(s.b=c.b/\0<=s.i)/\(zDX a)
def zfW (c:Cur)  : Bool:=wC (zp8 c)
def zi7 (c:Cur)  : Cur:=wS (zp8 c)
def zhV (c:Cur)  : Host:=wV (zp8 c)
theorem zxe {c:Cur}(h:zfW c=true):zp8 c (zi7 c) (zhV c):=wG h
theorem zXp (c:Cur)  : 0<=(zi7 c).i:=wP λh=>h.2.1.2
theorem zXo (c:Cur)(h:∃N,Ends (wE (λa=>aH a) c.b λa=>zDX a)<|zwI N c):zfW c=true:=wI (λ_ _ h=>h) h
def zyg:zea:=rP0 λc=>(zfW c,zi7 c,[aH<|zhV c])
theorem zKR:zbV Tryz.prog 47 [false,true,true] zyg:=hP0 zwT zZ zUR zq (zx []) (λ_ h=>(zxe h).1)
theorem zKY {c:Cur}(h:zbe c):zfW c=true:=by
 refine zXo c ⟨0,?_⟩;have e:zbe {zmJ c with b:=c.b}:=zbS h (z0x _);have a:=(zLX<|z6b h).2.2;have f:=(zGA<|z02 e (m:=20) (by omega) (by omega)).2.2;unfold zwI oN;conv=>zeta
 have i:(zsk {zmJ c with b:=c.b} 20).length<=65:=by unfold ln at f;omega
 have S:zJy (zu8 c):=⟨by omega,λp d=>by
  have g:=a.2.2 p d;exact⟨by omega,λx j=>by have:=zIt (g.2.2 x j);omega⟩⟩
 exact zF (z6b h) (zF (z02 e (by omega) (by omega))<|zF (zbw ⟨S,qT i (by decide)⟩)<|zbO aH (zXr _ _) ⟨_,_,S,⟨a.1,λp d=>⟨(a.2.2 p d).1,(a.2.2 p d).2.2⟩⟩,rfl⟩)
def z0a:zcU:=[(47,[false,true,true],zyg)]++z7F
theorem zuG:zb5 z0a:=zcp zUR (by
 intro x a;simp only[qG,qN,or_false]at a;rcases a with rfl
 .exact zKR)
theorem zTr {f c b:Type}{G:b->Prop}{a:Nat->f->c->(c->Option b)->Option b}{K:c->Option b}(e:∀i x t g,(∀t,Ends G<|g t)->Ends G (a i x t g))(d:∀t,Ends G<|K t):∀(l:List f) (i:Nat) (t:c),Ends G (goL a K l i t)
 |[],i,t=>d t
 |x::l,i,t=>e i x t _ (λt=>zTr e d l (i+1) t)
def zoy (N:Nat)(c:List Int):OA:=
 (iter (σ:=(Int×Int×(List Int)×lM×lN×lE×lE×Unit)) N (λd a=>let b:=(⟨a.2.2.1,0,a.1⟩:Cur); (cond (ilt a.2.1<|ln a.2.2.1) (cond (ilt a.2.1 4000) (oN (inb a.2.1<|ln a.2.2.1)<|d (wand .i64 (zM .i64 (zM .i64 (zk5 .i64 a.1 131)<|wcv .i64<|ix a.2.2.1 a.2.1 0) 7) 1073741823,zM .i64 a.2.1 1,a.2.2.1,a.2.2.2.1,a.2.2.2.2.1,a.2.2.2.2.2.1,a.2.2.2.2.2.2.1,()))<|oN (zfW b)<|some [aH<|zhV b])<|oN (zfW b)<|some [aH<|zhV b])) (zM .i64 94701<|ln c,0,c,[],[],[],[],()))
def zO6:=zx [(48,0,{n:=32,tm:=[(0,.sl 0 []),(3,ti),(4,ti)],lo:=[(0,[.sl 1 [],.sl 2 [],.sl 3 [],.sl 4 []])],ro:=[(0,.u8,false),(1,.sl .int,true),(2,.mon,true),(3,.entry,true),(4,.entry,true)],sk:=[(0,2,0,.lp 0 0)]})]
def zsU (b:List Int)(a:Host):Prop:=(∃N,zoy N b=some [aH a])/\(zDX a)
def zjJ (a:List Int):Bool:=uC (T:=Host) (λr=>zsU a r)
def zU9 (a:List Int):Host:=uV (λr=>zsU a r)
def zpA (a:List Int):Host:=(zU9 a)
theorem zDA {a:List Int}(h:zjJ a=true):zsU a (zpA a):=uG h
theorem zU8 (c:List Int)(h:∃N,Ends (λa=>∃b,a=[aH b]/\(zDX b))<|zoy N c):zjJ c=true:=by obtain⟨N,a,e,b,rfl,h⟩:=h;exact zbw ⟨b,⟨N,e⟩,h⟩
def zyr:Run:=rF1 (dS .u8) λb=>(zjJ b,[aH<|zpA b])
theorem zOo (a:List Int)(b:zjJ a=true):∃N,zoy N a=some [aH<|zpA a]:=by exact(zDA b).1
theorem zHE:vM 8 zyr:=kF1 zwT zZ zuG zq zO6 zOo
theorem zJR {b:List Int}(h:b.length<=big):zjJ b=true:=by
 refine zU8 b (zcA λN e=>?_);unfold zoy oN;conv=>zeta
 have c:∀t,Ends (λa=>∃g,a=[aH g]/\zDX g) (cond (zfW ⟨b,0,t⟩) (some [aH<|zhV ⟨b,0,t⟩]) none):=λt=>
  have f:zbe ⟨b,0,t⟩:=⟨kB 0,h⟩
  zF (zKY f) ⟨_,rfl,_,rfl,(zxe<|zKY f).2.2⟩
 refine(congrArg (Ends _)<|zbm b (λi (t:Int)=>(t,(i:Int),b,[],[],[],[],())) _ (λi x (t:Int) j=>bif ilt (i:Int) 4000 then j (wand .i64 (zM .i64 (zM .i64 (zk5 .i64 t 131)<|wcv .i64 x) 7) 1073741823) else (cond (zfW ⟨b,0,t⟩) (some [aH<|zhV ⟨b,0,t⟩]) none)) (λ(t:Int)=>cond (zfW ⟨b,0,t⟩) (some [aH<|zhV ⟨b,0,t⟩]) none) (λi d t rec=>?_) (λt rec=>?_) N (zM .i64 94701<|ln b)<|e h).mpr ?_;{simp only [zbG d,zbi d,zbp d,zbh d h,cT]};{simp only [zbt,cF]};exact zTr (λi x t j k=>zbE (λ_=>k _) λ_=>c t) c _ _ _
def z1f:zbb:=[(8,zyr)]++zS5
theorem z1g:zS z1f:=zi zHE zwT
instance:Inhabited Slot:=⟨⟨0,0⟩⟩
instance:Inhabited Entry:=⟨⟨0,0,0,0⟩⟩
instance:Inhabited GExit:=⟨⟨0,0,false,0⟩⟩
instance:Inhabited Guest:=⟨⟨[],0,0,[],[],⟨0,0,false⟩,0,⟨0,0,false,0⟩,false,[]⟩⟩
theorem zvv {c:Cur}(h:zbe c){n m:Int}(a:0<n)(b:n<=m):inb (zn c n) m=true:=by have:=zfw h a;exact qI (by omega)
theorem zCm {c:Cur}(h:zbe c){n m:Int}(a:0<n)(b:n<=m+1):inr 0 (zn c n) m=true:=by have:=zfw h a;exact qI (by omega)
theorem zC9 {a:Type}(l:List a)(n:Int):(tk l n).length<=l.length:=by simp[tk];omega
theorem ziJ {a:Type}(l:List a)(n:Int)(x:a):(up l n x).length=l.length:=by simp[up]
theorem z4V {a:Type}(l:List a)(n:Int):ln (tk l n)<=ln l:=by have:=zC9 l n;unfold ln;omega
theorem z4W {a:Type}(l:List a)(n:Int)(x:a):ln (up l n x)=ln l:=by unfold ln;rw[ziJ]
def I64 (x:Int):Prop:=-9223372036854775808<=x/\x<=9223372036854775807
theorem zUC {f:Type}{c:Cur}(h:zbe c){P:f->Prop}{m:Int}(r:0<=m)(I:m<=1000){fc:Cur->Bool}{fs:Cur->Cur}{fv:Cur->f}(z:∀{c:Cur},zbe c->fc c=true)(C:∀c,0<=(fs c).i)(hg:∀{c:Cur},zbe c->P (fv c)){G:Ans->Prop}{R:Cur->List f->Ans}(w:∀s l,s.b=c.b->0<=s.i->ln l=m->(∀x∈l,P x)->G (R s l)){j:Type}(S:Int->Int×Int×List f->j){F:(j->OA)->j->OA}(v:∀rec t i k l,F rec (S t (i,k,l))=bif ilt t m then (cond (fc ⟨c.b,i,k⟩) (cond (few<|ln<|ap l [fv ⟨c.b,i,k⟩]) (rec<|S (zM .i64 t 1) ((fs ⟨c.b,i,k⟩).i,(fs ⟨c.b,i,k⟩).h,ap l [fv ⟨c.b,i,k⟩])) none) none) else some (R ⟨c.b,i,k⟩ l)):Ends G (iter 1002 F<|S 0 (c.i,c.h,[])):=by refine zjm (λn s=>∃t i k l,s=S t (i,k,l)/\t+(n:Int)=1000/\0<=t/\t<=m/\0<=i/\(∀x∈l,P x)/\ln l=t) ?_ 1002 1000 _ ⟨0,c.i,c.h,[],rfl,rfl,kB 0,r,h.1,by simp,rfl⟩ (by omega);rintro n s rec ⟨t,i,k,l,rfl,D,u,E,p,q,H⟩ d;rw[v];have a:zbe ⟨c.b,i,k⟩:=zbS h p;refine zbE (λg=>?_) (λg=>?_);{have B:t<m:=qD g;have J:=zh8 (y:=1) u (by omega) (by omega) (by omega);refine zF (z a) (zF (zjo (by rw[zhd];omega))<|d (n-1) _ (by omega) ⟨_,_,_,_,rfl,by omega,by omega,by omega,C _,?_,by rw[zhd];omega⟩);intro x e;rcases jH.1 e with e|e;{exact q x e};{rw [qF.1 e];exact hg a}};{have A:¬ t<m:=jR g;exact zuh (w _ l rfl p (by omega) q)}
def zsv (N:Nat)(c:Cur)  : OA :=
 let a:=zX c [3,3,1,2,0,3,1,-1,4,9223372036854775807]; (oN (zbr c [3,3,1,2,0,3,1,-1,4,9223372036854775807])<|some [.agg [.s .u8 c.b,.i .i64 a.i,.i .i64 a.h],aI<|zbn c [3,3,1,2,0,3,1,-1,4,9223372036854775807]])
def zmE (c:Cur)(s:Cur)(a:Int):Prop:=(∃N,zsv N c=some (AV.agg (zb1 s)::[aI a]))/\(s.b=c.b/\0<=s.i)/\(True)
def zkI (c:Cur)  : Bool:=wC (zmE c)
def zkJ (c:Cur)  : Cur:=wS (zmE c)
def zrC (c:Cur)  : Int:=wV (zmE c)
theorem zRU {c:Cur}(h:zkI c=true):zmE c (zkJ c) (zrC c):=wG h
theorem zRW (c:Cur)  : 0<=(zkJ c).i:=wP λh=>h.2.1.2
theorem zRV (c:Cur)(h:∃N,Ends (wE (λa=>aI a) c.b λa=>True)<|zsv N c):zkI c=true:=wI (λ_ _ h=>h) h
def zuI:zea:=rP0 λc=>(zkI c,zkJ c,[aI<|zrC c])
theorem zEU:zbV Tryz.prog 372 [false,true,true] zuI:=hP0 zee zZ zuG zq (zx []) (λ_ h=>(zRU h).1)
theorem z5u {c:Cur}(h:zbe c):zkI c=true:=by
 refine zRV c ⟨0,?_⟩;unfold zsv oN;conv=>zeta
 exact zF (zfh h (by simp)) (zbO aI (zb3 _ _) trivial)
def z7H:zcU:=[(372,[false,true,true],zuI)]++z0a
theorem zUT:zb5 z7H:=zcp zuG (by
 intro x a;simp only[qG,qN,or_false]at a;rcases a with rfl
 .exact zEU)
def z6I:zbb:=[(258,zlF),(236,ziM),(351,zjH),(353,zkE)]++zML
theorem zeG:zS z6I:=zi zxP (zi zs7<|zi zus<|zi zvQ zee)
def zwD (N:Nat)(c:Cur)(d:Int):OA:=
 let e:=({ (zT c 5) with b:=c.b}:Cur);let a:=({ (zf e d) with b:=c.b}:Cur); (oN (zc7 c 5)<|cond (zdh c 5) (oN zbP<|some [.agg [.s .u8 c.b,.i .i64 (zT c 5).i,.i .i64 (zT c 5).h],.agg [.i .i64 zbf.Page,.i .i64 zbf.Rights]])<|oN (zB e d)<|oN (zbr a [3,3,3,1,2])<|some [.agg [.s .u8 c.b,.i .i64 (zX a [3,3,3,1,2]).i,.i .i64 (zX a [3,3,3,1,2]).h],.agg [.i .i64<|zn e d,.i .i64<|zbn a [3,3,3,1,2]]])
def zpT (c:Cur)(a:Int)(s:Cur)(d:Slot):Prop:=(∃N,zwD N c a=some (AV.agg (zb1 s)::[aT .slot d]))/\(s.b=c.b/\0<=s.i)/\(0<a->a<=1000->I64 d.Page)
def zi2 (c:Cur)(a:Int):Bool:=wC (zpT c a)
def zgO (c:Cur)(a:Int):Cur:=wS (zpT c a)
def zgq (c:Cur)(a:Int):Slot:=wV (zpT c a)
theorem zxa {c:Cur}{a:Int}(h:zi2 c a=true):zpT c a (zgO c a) (zgq c a):=wG h
theorem zGy (c:Cur)(a:Int):0<=(zgO c a).i:=wP λh=>h.2.1.2
theorem zXg (c:Cur)(a:Int)(h:∃N,Ends (wE (λd=>aT .slot d) c.b λd=>0<a->a<=1000->I64 d.Page)<|zwD N c a):zi2 c a=true:=wI (λ_ _ h=>h) h
def zyb:zea:=rP1 dI λc b=>(zi2 c b,zgO c b,[aT .slot<|zgq c b])
theorem zKG:zbV Tryz.prog 371 [false,true,true] zyb:=hP1 zeG zZ zUT zq (zx []) (λ_ _ h=>(zxa h).1)
theorem zL3 {c:Cur}(h:zbe c)(a:Int):zi2 c a=true:=by
 refine zXg c a ⟨0,?_⟩;unfold zwD oN;conv=>zeta
 have d:zbe {zT c 5 with b:=c.b}:=zbS h (zcr _ _);have g:zbe {zf {zT c 5 with b:=c.b} a with b:=c.b}:=zbS h (zG _ _);refine zF (zjF h 5) (zbE (λ_=>zF rfl (zbO (aT .slot) (v:=⟨_,_⟩) (zcr _ _) λ_ _=>?_)) λ_=>zF (zbz d a) (zF (zfh g (by simp))<|zbO (aT .slot) (v:=⟨_,_⟩) (zb3 _ _) λe f=>?_));{exact⟨by decide,by decide⟩};{have:=zfw d e;exact⟨Int.le_trans (by decide) this.1,Int.le_trans (vL this.2) (by omega)⟩}
def z7I:zcU:=[(371,[false,true,true],zyb)]++z7H
theorem zIo:zb5 z7I:=zcp zUT (by
 intro x a;simp only[qG,qN,or_false]at a;rcases a with rfl
 .exact zKG)
def zyP (N:Nat)(c:Cur)(a:Int):OA:=
 let e:=({ (zgO c a) with b:=c.b}:Cur);let d:=({ (zf e 12) with b:=c.b}:Cur);let f:=zX d [-1,-2,a,9223372036854775807,-9223372036854775808]; (oN (zi2 c a)<|oN (zB e 12)<|cond (ieq (zn e 12) 0) (oN (zbr d [-1,-2,a,9223372036854775807,-9223372036854775808])<|some [.agg [.s .u8 c.b,.i .i64 f.i,.i .i64 f.h],.agg [.i .i64<|zbn d [-1,-2,a,9223372036854775807,-9223372036854775808],.i .i64 (zgq c a).Rights]])<|cond (ieq (zn e 12) 1) (oN (zkI d)<|some [.agg [.s .u8 c.b,.i .i64 (zkJ d).i,.i .i64 (zkJ d).h],.agg [.i .i64 (zgq c a).Page,.i .i64<|zrC d]])<|some [.agg [.s .u8 c.b,.i .i64 (zf e 12).i,.i .i64 (zf e 12).h],.agg [.i .i64 (zgq c a).Page,.i .i64 (zgq c a).Rights]])
def zrD (c:Cur)(a:Int)(s:Cur)(d:Slot):Prop:=(∃N,zyP N c a=some (AV.agg (zb1 s)::[aT .slot d]))/\(s.b=c.b/\0<=s.i)/\(0<a->a<=1000->I64 d.Page)
def zpR (c:Cur)(a:Int):Bool:=wC (zrD c a)
def zpS (c:Cur)(a:Int):Cur:=wS (zrD c a)
def zIx (c:Cur)(a:Int):Slot:=wV (zrD c a)
theorem zLT {c:Cur}{a:Int}(h:zpR c a=true):zrD c a (zpS c a) (zIx c a):=wG h
theorem z0g (c:Cur)(a:Int):0<=(zpS c a).i:=wP λh=>h.2.1.2
theorem z0f (c:Cur)(a:Int)(h:∃N,Ends (wE (λd=>aT .slot d) c.b λd=>0<a->a<=1000->I64 d.Page)<|zyP N c a):zpR c a=true:=wI (λ_ _ h=>h) h
def zAF:zea:=rP1 dI λc b=>(zpR c b,zpS c b,[aT .slot<|zIx c b])
theorem zNM:zbV Tryz.prog 277 [false,true,true] zAF:=hP1 zeG zZ zIo zq (zx []) (λ_ _ h=>(zLT h).1)
theorem zPK {c:Cur}(h:zbe c)(a:Int):zpR c a=true:=by
 refine z0f c a ⟨0,?_⟩;unfold zyP oN;conv=>zeta
 have d:zbe {zgO c a with b:=c.b}:=zbS h (zGy _ _);have f:zbe {zf {zgO c a with b:=c.b} 12 with b:=c.b}:=zbS h (zG _ _);have g:=(zxa<|zL3 h a).2.2;refine zF (zL3 h a) (zF (zbz d 12)<|zbE (λ_=>zF (zfh f (by simp)) (zbO (aT .slot) (v:=⟨zbn _ _,(zgq c a).Rights⟩) (zb3 _ _) λe i=>?_)) λ_=>zbE (λ_=>zF (z5u f) (zbO (aT .slot) (v:=⟨(zgq c a).Page,zrC _⟩) (zRW _) λe d=>g e d)) λ_=>zbO (aT .slot) (v:=⟨(zgq c a).Page,(zgq c a).Rights⟩) (zG _ _) λe d=>g e d);have j:=zYm f (l:=[-1,-2,a,9223372036854775807,-9223372036854775808]) (by simp);simp only[qG,qN,or_false]at j;unfold I64;dsimp only;omega
def ztY (N:Nat)(c:Cur)(g j:Int):OA:=
 (iter (σ:=(Int×Int×Int×Int×Int×lS×(List Int)×Unit)) N (λk a=>let e:=a.2.2.2.2.2.2.1;let d:=(⟨e,a.2.2.2.1,a.2.2.2.2.1⟩:Cur);let f:=ap a.2.2.2.2.2.1 [zgq d a.2.1]; (cond (ilt a.2.2.1 a.1) (oN (zi2 d a.2.1)<|oN (few<|ln f)<|k (a.1,a.2.1,zM .i64 a.2.2.1 1,(zgO d a.2.1).i,(zgO d a.2.1).h,f,e,()))<|some [.agg [.s .u8 e,.i .i64 a.2.2.2.1,.i .i64 a.2.2.2.2.1],aS .slot a.2.2.2.2.2.1])) (g,j,0,c.i,c.h,[],c.b,()))
def zPa:=zx [(276,0,{n:=22,tm:=[(0,.lp 0 0),(1,ti),(2,ti),(7,.sl 0 []),(8,ti)],lo:=[(0,[.sl 1 [],ti,ti])],ro:=[(0,.slot,true),(1,.u8,false)]})]
def znN (c:Cur)(a:Int)(d:Int)(s:Cur)(e:List Slot):Prop:=(∃N,ztY N c a d=some (AV.agg (zb1 s)::[aS .slot e]))/\(s.b=c.b/\0<=s.i)/\(0<=a->a<=1000->ln e=a/\(0<d->d<=1000->∀s∈e,I64 s.Page))
def zik (c:Cur)(a:Int)(b:Int):Bool:=wC (znN c a b)
def zJ (c:Cur)(a:Int)(b:Int):Cur:=wS (znN c a b)
def zdP (c:Cur)(a:Int)(b:Int):List Slot:=wV (znN c a b)
theorem zu5 {c:Cur}{a:Int}{b:Int}(h:zik c a b=true):znN c a b (zJ c a b) (zdP c a b):=wG h
theorem zil (c:Cur)(a:Int)(b:Int):0<=(zJ c a b).i:=wP λh=>h.2.1.2
theorem zVc (c:Cur)(a:Int)(d:Int)(h:∃N,Ends (wE (λe=>aS .slot e) c.b λe=>0<=a->a<=1000->ln e=a/\(0<d->d<=1000->∀s∈e,I64 s.Page))<|ztY N c a d):zik c a d=true:=wI (λ_ _ h=>h) h
def zvX:zea:=rP2 dI dI λc b d=>(zik c b d,zJ c b d,[aS .slot<|zdP c b d])
theorem zHR:zbV Tryz.prog 276 [false,true,true] zvX:=hP2 zeG zZ zIo zq zPa (λ_ _ _ h=>(zu5 h).1)
theorem zyK {c:Cur}(h:zbe c){d:Int}(g:0<=d)(j:d<=1000)(a:Int):zik c d a=true:=by
 refine zVc c d a ⟨1002,?_⟩;unfold ztY oN;conv=>zeta
 exact zUC h (P:=λs=>0<a->a<=1000->I64 s.Page) g j (fc:=λc=>zi2 c a) (fs:=λc=>zgO c a) (fv:=λc=>zgq c a) (R:=λs l=>AV.agg (zb1 s)::[aS .slot l]) (λh=>zL3 h a) (λc=>zGy c a) (λh=>(zxa<|zL3 h a).2.2) (λs l m n p q=>⟨s,l,rfl,⟨m,n⟩,λ_ _=>⟨p,λe f s r=>q s r e f⟩⟩) ((λi t=>(d,a,(i:Int),t.1,t.2.1,t.2.2,c.b,())):Int->Int×Int×List Slot->_) (λrec t i k l=>rfl)
theorem z9E {c:Cur}(h:zbe c){n m:Int}(a:0<=n)(b:n<=1000)(d:0<m)(e:m<=1000):ln (zdP c n m)=n/\∀s∈zdP c n m,I64 s.Page:=by have g:=(zu5<|zyK h a b m).2.2 a b;exact⟨g.1,g.2 d e⟩
def z7J:zcU:=[(277,[false,true,true],zAF),(276,[false,true,true],zvX)]++z7I
theorem zIp:zb5 z7J:=zcp zIo (by
 intro x a;simp only[qG,qN,or_false]at a;rcases a with rfl|rfl
 .exact zNM
 .exact zHR)
def zoz (N:Nat)(c:Cur)(a d:Int):OA:=
 let g:=zdP c a d;let f:=({ (zJ c a d) with b:=c.b}:Cur);let e:=({ (zf f 8) with b:=c.b}:Cur);let k:=zn e a;let j:=({ (zf e a) with b:=c.b}:Cur); (oN (zik c a d)<|oN (zB f 8)<|cond (ieq (zn f 8) 0) (oN (zB e a)<|oN (zpR j d)<|oN (inb k<|ln g)<|share (up g k<|zIx j d) λl=>some [.agg [.s .u8 c.b,.i .i64 (zpS j d).i,.i .i64 (zpS j d).h],aS .slot l])<|cond (ieq (zn f 8) 1) (oN (zB e a)<|oN (inr 0 k<|ln g)<|some [.agg [.s .u8 c.b,.i .i64 (zf e a).i,.i .i64 (zf e a).h],aS .slot<|tk g k])<|some [.agg [.s .u8 c.b,.i .i64 (zf f 8).i,.i .i64 (zf f 8).h],aS .slot g])
def zkp (c:Cur)(a:Int)(d:Int)(s:Cur)(e:List Slot):Prop:=(∃N,zoz N c a d=some (AV.agg (zb1 s)::[aS .slot e]))/\(s.b=c.b/\0<=s.i)/\(0<a->a<=1000->ln e<=a/\(0<d->d<=1000->∀s∈e,I64 s.Page))
def zgb (c:Cur)(a:Int)(b:Int):Bool:=wC (zkp c a b)
def zhh (c:Cur)(a:Int)(b:Int):Cur:=wS (zkp c a b)
def zfu (c:Cur)(a:Int)(b:Int):List Slot:=wV (zkp c a b)
theorem zpP {c:Cur}{a:Int}{b:Int}(h:zgb c a b=true):zkp c a b (zhh c a b) (zfu c a b):=wG h
theorem zpQ (c:Cur)(a:Int)(b:Int):0<=(zhh c a b).i:=wP λh=>h.2.1.2
theorem zLS (c:Cur)(a:Int)(d:Int)(h:∃N,Ends (wE (λe=>aS .slot e) c.b λe=>0<a->a<=1000->ln e<=a/\(0<d->d<=1000->∀s∈e,I64 s.Page))<|zoz N c a d):zgb c a d=true:=wI (λ_ _ h=>h) h
def zsg:zea:=rP2 dI dI λc b d=>(zgb c b d,zhh c b d,[aS .slot<|zfu c b d])
theorem zBy:zbV Tryz.prog 140 [false,true,true] zsg:=hP2 zeG zZ zIp zq (zx []) (λ_ _ _ h=>(zpP h).1)
theorem zoC {c:Cur}(h:zbe c){n:Int}(a:0<n)(j:n<=1000)(m:Int):zgb c n m=true:=by
 refine zLS c n m ⟨0,?_⟩;unfold zoz oN;conv=>zeta
 have l:zbe {zJ c n m with b:=c.b}:=zbS h (zil _ _ _);have i:zbe {zf {zJ c n m with b:=c.b} 8 with b:=c.b}:=zbS h (zG _ _);have k:zbe {zf {zf {zJ c n m with b:=c.b} 8 with b:=c.b} n with b:=c.b}:=zbS h (zG _ _);have g:=(zu5<|zyK h (vL a) j m).2.2 (vL a) j;generalize zdP c n m=T at g;refine zF (zyK h (vL a) j m) (zF (zbz l 8)<|zbE (λ_=>zF (zbz i n) (zF (zPK k m)<|zF (zvv i a (by omega))<|zmb<|zbO (aS .slot) (z0g _ _) λ_ _=>⟨by rw[z4W];omega,λe f s d=>?_⟩)) λ_=>zbE (λ_=>zF (zbz i n) (zF (zCm i a (by omega))<|zbO (aS .slot) (zG _ _) λ_ _=>⟨?_,λe f s d=>g.2 e f s (jT d)⟩)) λ_=>zbO (aS .slot) (zG _ _) λ_ _=>⟨by omega,g.2⟩);{rcases qX d with d|rfl;{exact g.2 e f s d};{exact(zLT<|zPK k m).2.2 e f}};{have:=z4V T;exact Int.le_trans (this _) (by omega)}
def zwE (N:Nat)(c:Cur)  : OA :=
 (iter (σ:=(Int×Int×Int×(List Int)×(List Int)×Unit)) N (λf a=>let d:=(⟨a.2.2.2.2.1,a.2.1,a.2.2.1⟩:Cur);let e:=ap a.2.2.2.1 [zn d 100]; (cond (ilt a.1 4) (oN (zB d 100)<|oN (few<|ln e)<|f (zM .i64 a.1 1,(zf d 100).i,(zf d 100).h,e,a.2.2.2.2.1,()))<|some [.agg [.s .u8 a.2.2.2.2.1,.i .i64 a.2.1,.i .i64 a.2.2.1],aS .int a.2.2.2.1])) (0,c.i,c.h,[],c.b,()))
def zSb:=zx [(278,0,{n:=16,tm:=[(0,.lp 0 0),(3,.sl 0 []),(4,ti)],lo:=[(0,[.sl 1 [],ti,ti])],ro:=[(0,.int,true),(1,.u8,false)]})]
def zpV (c:Cur)(s:Cur)(a:List Int):Prop:=(∃N,zwE N c=some (AV.agg (zb1 s)::[aS .int a]))/\(s.b=c.b/\0<=s.i)/\(a.length=4)
def zi3 (c:Cur)  : Bool:=wC (zpV c)
def zfU (c:Cur)  : Cur:=wS (zpV c)
def zor (c:Cur)  : List Int:=wV (zpV c)
theorem zxb {c:Cur}(h:zi3 c=true):zpV c (zfU c) (zor c):=wG h
theorem zGz (c:Cur)  : 0<=(zfU c).i:=wP λh=>h.2.1.2
theorem zXh (c:Cur)(h:∃N,Ends (wE (λa=>aS .int a) c.b λa=>a.length=4)<|zwE N c):zi3 c=true:=wI (λ_ _ h=>h) h
def zyc:zea:=rP0 λc=>(zi3 c,zfU c,[aS .int<|zor c])
theorem zKI:zbV Tryz.prog 278 [false,true,true] zyc:=hP0 zeG zZ zIp zq zSb (λ_ h=>(zxb h).1)
theorem zLI {c:Cur}(h:zbe c):zi3 c=true:=by
 refine zXh c ⟨1002,?_⟩;unfold zwE oN;conv=>zeta
 exact zUC h (P:=λ_=>True) (m:=4) (by omega) (by omega) (fc:=λc=>zB c 100) (fs:=λc=>zf c 100) (fv:=λc=>zn c 100) (R:=λs l=>AV.agg (zb1 s)::[aS .int l]) (λh=>zbz h _) (λc=>zG c _) (λ_=>trivial) (λs l a d e f=>⟨s,l,rfl,⟨a,d⟩,by unfold ln at e;omega⟩) ((λi t=>((i:Int),t.1,t.2.1,t.2.2,c.b,())):Int->Int×Int×List Int->_) (λrec t i k l=>rfl)
def z7K:zcU:=[(140,[false,true,true],zsg),(278,[false,true,true],zyc)]++z7J
theorem zIq:zb5 z7K:=zcp zIp (by
 intro x a;simp only[qG,qN,or_false]at a;rcases a with rfl|rfl
 .exact zBy
 .exact zKI)
def zyQ (N:Nat)(c:Cur)(f:Int):OA:=
 (iter (σ:=(Int×Int×Int×Int×lM×(List Int)×Unit)) N (λg a=>let d:=(⟨a.2.2.2.2.2.1,a.2.2.1,a.2.2.2.1⟩:Cur);let e:=ap a.2.2.2.2.1 [zor d]; (cond (ilt a.2.1 a.1) (oN (zi3 d)<|oN (few<|ln e)<|g (a.1,zM .i64 a.2.1 1,(zfU d).i,(zfU d).h,e,a.2.2.2.2.2.1,()))<|some [.agg [.s .u8 a.2.2.2.2.2.1,.i .i64 a.2.2.1,.i .i64 a.2.2.2.1],aS (.sl .int) a.2.2.2.2.1])) (f,0,c.i,c.h,[],c.b,()))
def zV7:=zx [(224,0,{n:=19,tm:=[(0,.lp 0 0),(1,ti),(5,.sl 0 []),(6,ti)],lo:=[(0,[.sl 1 [],ti,ti])],ro:=[(0,.sl .int,true),(1,.u8,false)]})]
def zrF (c:Cur)(a:Int)(s:Cur)(d:List (List Int)):Prop:=(∃N,zyQ N c a=some (AV.agg (zb1 s)::[aS (.sl .int) d]))/\(s.b=c.b/\0<=s.i)/\(0<=a->a<=1000->ln d=a/\∀r∈d,r.length=4)
def ziQ (c:Cur)(a:Int):Bool:=wC (zrF c a)
def zmF (c:Cur)(a:Int):Cur:=wS (zrF c a)
def zu6 (c:Cur)(a:Int):List (List Int):=wV (zrF c a)
theorem zzS {c:Cur}{a0:Int}(h:ziQ c a0=true):zrF c a0 (zmF c a0) (zu6 c a0):=wG h
theorem z0k (c:Cur)(a0:Int):0<=(zmF c a0).i:=wP λh=>h.2.1.2
theorem z0j (c:Cur)(a:Int)(h:∃N,Ends (wE (λd=>aS (.sl .int) d) c.b λd=>(0<=a->a<=1000->ln d=a/\∀r∈d,r.length=4))<|zyQ N c a):ziQ c a=true:=wI (λ_ _ h=>h) h
def zAG:zea:=rP1 dI λc b=>(ziQ c b,zmF c b,[aS (.sl .int)<|zu6 c b])
theorem zxQ:zbV Tryz.prog 224 [false,true,true] zAG:=hP1 zeG zZ zIq zq zV7 (λ_ _ h=>(zzS h).1)
theorem zba7 {c:Cur}(h:zbe c){a0:Int}(a:0<=a0)(d:a0<=1000):ziQ c a0=true:=by
 refine z0j c a0 ⟨1002,?_⟩;unfold zyQ oN;conv=>zeta
 exact zUC h (P:=λr=>r.length=4) a d (fc:=zi3) (fs:=zfU) (fv:=zor) (R:=λs l=>AV.agg (zb1 s)::[aS (.sl .int) l]) zLI zGz (λh=>(zxb<|zLI h).2.2) (λs l e f g j=>⟨s,l,rfl,⟨e,f⟩,λ_ _=>⟨g,j⟩⟩) ((λi t=>(a0,(i:Int),t.1,t.2.1,t.2.2,c.b,())):Int->Int×Int×List (List Int)->_) (λrec t i k l=>rfl)
def ztZ (N:Nat)(c:Cur)  : OA :=
 let d:=zor c;let e:=({ (zfU c) with b:=c.b}:Cur);let f:=zf e 6;let a:=({f with b:=c.b}:Cur);let g:=({ (zf a 4) with b:=c.b}:Cur); (oN (zi3 c)<|oN (zB e 6)<|cond (ieq (zn e 6) 0) (oN (zB a 4)<|oN (inr 0 (zn a 4)<|ln d)<|some [.agg [.s .u8 c.b,.i .i64 (zf a 4).i,.i .i64 (zf a 4).h],aS .int<|tk d<|zn a 4])<|cond (ieq (zn e 6) 1) (oN (zB a 4)<|oN (zbr g [-1,99,100])<|oN (inb (zn a 4)<|ln d)<|share (up d (zn a 4)<|zbn g [-1,99,100]) λj=>some [.agg [.s .u8 c.b,.i .i64 (zX g [-1,99,100]).i,.i .i64 (zX g [-1,99,100]).h],aS .int j])<|cond (ieq (zn e 6) 2) (oN (few<|ln<|ap d [1])<|some [.agg [.s .u8 c.b,.i .i64 f.i,.i .i64 f.h],aS .int<|ap d [1]])<|some [.agg [.s .u8 c.b,.i .i64 f.i,.i .i64 f.h],aS .int d])
def znO (c:Cur)(s:Cur)(a:List Int):Prop:=(∃N,ztZ N c=some (AV.agg (zb1 s)::[aS .int a]))/\(s.b=c.b/\0<=s.i)/\(a.length<=5)
def zlJ (c:Cur)  : Bool:=wC (znO c)
def zlK (c:Cur)  : Cur:=wS (znO c)
def ztA (c:Cur)  : List Int:=wV (znO c)
theorem zDD {c:Cur}(h:zlJ c=true):znO c (zlK c) (ztA c):=wG h
theorem zVe (c:Cur)  : 0<=(zlK c).i:=wP λh=>h.2.1.2
theorem zVd (c:Cur)(h:∃N,Ends (wE (λa=>aS .int a) c.b λa=>a.length<=5)<|ztZ N c):zlJ c=true:=wI (λ_ _ h=>h) h
def zvY:zea:=rP0 λc=>(zlJ c,zlK c,[aS .int<|ztA c])
theorem zHS:zbV Tryz.prog 141 [false,true,true] zvY:=hP0 zeG zZ zIq zq (zx []) (λ_ h=>(zDD h).1)
theorem zXT {c:Cur}(h:zbe c):zlJ c=true:=by
 refine zVd c ⟨0,?_⟩;unfold ztZ oN;conv=>zeta
 have e:zbe {zfU c with b:=c.b}:=zbS h (zGz _);have a:zbe {zf {zfU c with b:=c.b} 6 with b:=c.b}:=zbS h (zG _ _);have f:zbe {zf {zf {zfU c with b:=c.b} 6 with b:=c.b} 4 with b:=c.b}:=zbS h (zG _ _);have g:=(zxb<|zLI h).2.2;generalize zor c=T at g;have d:ln T=4:=(by unfold ln;omega);refine zF (zLI h) (zF (zbz e 6)<|zbE (λ_=>zF (zbz a 4) (zF (zCm a (by omega) (by omega))<|zbO (aS .int) (zG _ _)<|qT (zC9 T _) (by omega))) λ_=>zbE (λ_=>zF (zbz a 4) (zF (zfh f (by simp))<|zF (zvv a (by omega) (by omega))<|zmb<|zbO (aS .int) (zb3 _ _) (by rw[ziJ];omega))) λ_=>zbE (λ_=>zF (zjo (by rw[zhd];omega)) (zbO (aS .int) (zG _ _) ?_)) λ_=>zbO (aS .int) (zG _ _) (by omega));simp[ap];omega
def z7L:zcU:=[(224,[false,true,true],zAG),(141,[false,true,true],zvY)]++z7K
theorem zUU:zb5 z7L:=zcp zIq (by
 intro x a;simp only[qG,qN,or_false]at a;rcases a with rfl|rfl
 .exact zxQ
 .exact zHS)
def zsx (N:Nat)(c:Cur)  : OA :=
 let d:=({ (zgR c) with b:=c.b}:Cur);let a:=({ (zf d 10) with b:=c.b}:Cur);let e:=zX a [-1,0,12,15,16,99,100,9223372036854775807]; (oN (zkq c)<|oN (zB d 10)<|cond (ieq (zn d 10) 0) (oN (zB a 11)<|some [.agg [.s .u8 c.b,.i .i64 (zf a 11).i,.i .i64 (zf a 11).h],.agg [.i .i64<|wsub .i64 (zn a 11) 1,.i .i64 (zgD c).X]])<|cond (ieq (zn d 10) 1) (oN (zbr a [-1,0,12,15,16,99,100,9223372036854775807])<|some [.agg [.s .u8 c.b,.i .i64 e.i,.i .i64 e.h],.agg [.i .i64 (zgD c).Op,.i .i64<|zbn a [-1,0,12,15,16,99,100,9223372036854775807]]])<|some [.agg [.s .u8 c.b,.i .i64 (zf d 10).i,.i .i64 (zf d 10).h],.agg [.i .i64 (zgD c).Op,.i .i64 (zgD c).X]])
def zmI (c:Cur)(s:Cur)(a:Ins):Prop:=(∃N,zsx N c=some (AV.agg (zb1 s)::[aT .ins a]))/\(s.b=c.b/\0<=s.i)/\(True)
def zkM (c:Cur)  : Bool:=wC (zmI c)
def zkN (c:Cur)  : Cur:=wS (zmI c)
def zxc (c:Cur)  : Ins:=wV (zmI c)
theorem zRZ {c:Cur}(h:zkM c=true):zmI c (zkN c) (zxc c):=wG h
theorem zR1 (c:Cur)  : 0<=(zkN c).i:=wP λh=>h.2.1.2
theorem zR0 (c:Cur)(h:∃N,Ends (wE (λa=>aT .ins a) c.b λa=>True)<|zsx N c):zkM c=true:=wI (λ_ _ h=>h) h
def zuK:zea:=rP0 λc=>(zkM c,zkN c,[aT .ins<|zxc c])
theorem zEW:zbV Tryz.prog 373 [false,true,true] zuK:=hP0 zeG zZ zUU zq (zx []) (λ_ h=>(zRZ h).1)
theorem z3M {c:Cur}(h:zbe c):zkM c=true:=by
 refine zR0 c ⟨0,?_⟩;unfold zsx oN;conv=>zeta
 have d:zbe {zgR c with b:=c.b}:=zbS h (zzT _);have a:zbe {zf {zgR c with b:=c.b} 10 with b:=c.b}:=zbS h (zG _ _);exact zF (zSn h) (zF (zbz d 10)<|zbE (λ_=>zF (zbz a 11) (zbO (aT .ins) (v:=⟨wsub .i64 _ 1,(zgD c).X⟩) (zG _ _) trivial)) λ_=>zbE (λ_=>zF (zfh a (by simp)) (zbO (aT .ins) (v:=⟨(zgD c).Op,zbn _ _⟩) (zb3 _ _) trivial)) λ_=>zbO (aT .ins) (v:=zgD c) (zG _ _) trivial)
def z7M:zcU:=[(373,[false,true,true],zuK)]++z7L
theorem zzO:zb5 z7M:=zcp zUU (by
 intro x a;simp only[qG,qN,or_false]at a;rcases a with rfl
 .exact zEW)
def zqk (N:Nat)(c:Cur)  : OA :=
 let e:=zb9 c;let g:=({ (zbc c) with b:=c.b}:Cur);let k:=zf g 8;let d:=({k with b:=c.b}:Cur); (oN (zhU c)<|oN (zB g 8)<|cond (ieq (zn g 8) 0) (oN (zkM d)<|oN (inb 0<|ln e)<|share (up e 0<|zxc d) λm=>some [.agg [.s .u8 c.b,.i .i64 (zkN d).i,.i .i64 (zkN d).h],aS .ins m])<|cond (ieq (zn g 8) 1) (iter (σ:=(Int×Int×lI×(List Int)×Unit)) N (λl a=>let j:=(⟨a.2.2.2.1,a.1,a.2.1⟩:Cur);let f:=({ (zf j 2) with b:=a.2.2.2.1}:Cur); (oN (zB j 2)<|cond (ilt (ln a.2.2.1)<|zM .i64 12<|zn j 2) (oN (zkq f)<|oN (few<|ln<|ap a.2.2.1 [zgD f])<|l ((zgR f).i,(zgR f).h,ap a.2.2.1 [zgD f],a.2.2.2.1,()))<|some [.agg [.s .u8 a.2.2.2.1,.i .i64 (zf j 2).i,.i .i64 (zf j 2).h],aS .ins a.2.2.1])) (k.i,k.h,e,c.b,()))<|cond (ieq (zn g 8) 2) (oN (zB d 2)<|oN (inr 0 (zn d 2)<|ln e)<|some [.agg [.s .u8 c.b,.i .i64 (zf d 2).i,.i .i64 (zf d 2).h],aS .ins<|tk e<|zn d 2])<|some [.agg [.s .u8 c.b,.i .i64 k.i,.i .i64 k.h],aS .ins e])
def zIK:=zx [(279,1,{n:=34,tm:=[(0,.lp 0 0),(3,.sl 0 [])],lo:=[(0,[.sl 1 [],ti,ti])],ro:=[(0,.ins,true),(1,.u8,false)]})]
def zlf (c:Cur)(s:Cur)(a:List Ins):Prop:=(∃N,zqk N c=some (AV.agg (zb1 s)::[aS .ins a]))/\(s.b=c.b/\0<=s.i)/\(a.length<=13)
def zjO (c:Cur)  : Bool:=wC (zlf c)
def zjP (c:Cur)  : Cur:=wS (zlf c)
def zpW (c:Cur)  : List Ins:=wV (zlf c)
theorem zyF {c:Cur}(h:zjO c=true):zlf c (zjP c) (zpW c):=wG h
theorem zOT (c:Cur)  : 0<=(zjP c).i:=wP λh=>h.2.1.2
theorem zOS (c:Cur)(h:∃N,Ends (wE (λa=>aS .ins a) c.b λa=>a.length<=13)<|zqk N c):zjO c=true:=wI (λ_ _ h=>h) h
def zta:zea:=rP0 λc=>(zjO c,zjP c,[aS .ins<|zpW c])
theorem zCQ:zbV Tryz.prog 279 [false,true,true] zta:=hP0 zeG zZ zzO zq zIK (λ_ h=>(zyF h).1)
theorem zPJ {c:Cur}(h:zbe c):zjO c=true:=by
 refine zOS c ⟨1002,?_⟩;unfold zqk oN;conv=>zeta
 have B:zbe {zbc c with b:=c.b}:=zbS h (zi5 _);have q:zbe {zf {zbc c with b:=c.b} 8 with b:=c.b}:=zbS h (zG _ _);have g:=(zrI<|zDj h).2.2;have p:=zIt g;have j:1<=(zb9 c).length:=(by unfold zdw at g;cases d:(zb9 c).all zeD with|false=>rw[d] at g;cases g|true=>rw[d,cT] at g;have:=(zfA.1 g).1;unfold ln at this;omega);generalize zb9 c=T at p j;have y:1<=ln T/\ln T<=12:=(by unfold ln;omega);have e:(2:Int)<=ln T+1:=(by omega);refine zF (zDj h) (zF (zbz B 8)<|zbE (λ_=>zF (z3M q) (zF (qI (by omega))<|zmb<|zbO (aS .ins) (zR1 _) (by rw[ziJ];omega))) λ_=>zbE (λ_=>?_) λ_=>zbE (λ_=>zF (zbz q 2) (zF (zCm q (n:=2) (by omega) e)<|zbO (aS .ins) (zG _ _)<|qT (zC9 T _) (by omega))) λ_=>zbO (aS .ins) (zG _ _) (by omega));{refine zjm (λn s=>s.2.2.1.length+n=13/\0<=s.1/\s.2.2.2.1=c.b) ?_ 1002 (13-T.length) _ ⟨by dsimp only;omega,zG _ _,rfl⟩ (by omega);rintro n ⟨i,k,l,b,u⟩ rec ⟨v,r,t⟩ m;dsimp only at v r t ⊢;subst t;have a:zbe ⟨c.b,i,k⟩:=zbS h r;have A:=zfw a (n:=2) (by omega);have z:=zh8 (x:=12) (by omega) (by omega) A.1 (by omega);have w:zbe {zf ⟨c.b,i,k⟩ 2 with b:=c.b}:=zbS h (zG _ _);refine zF (zbz a 2) (zbE (λd=>?_) λd=>?_);{have f:ln l<zM .i64 12 (zn ⟨c.b,i,k⟩ 2):=qD d;rw[z]at f;unfold ln at f;exact zF (zSn w) (zF (zjo (by rw[zhd];unfold ln;omega))<|m (n-1) _ (by omega) ⟨by simp[ap];omega,zzT _,rfl⟩)};{exact zbO (aS .ins) (zG _ _) (by omega)}}
def zyS (N:Nat)(c:Cur)  : OA :=
 let a:=zcI c;let e:=({ (zcn c) with b:=c.b}:Cur);let f:=zf e 8;let d:=({f with b:=c.b}:Cur);let g:=zX d [-1,255,256,9223372036854775807]; (oN (zkr c)<|oN (zB e 8)<|cond (ieq (zn e 8) 0) (oN (zbr d [-1,2,3,4])<|some [.agg [.s .u8 c.b,.i .i64 (zX d [-1,2,3,4]).i,.i .i64 (zX d [-1,2,3,4]).h],.agg [.i .i64<|zbn d [-1,2,3,4],.i .i64 a.Post,.b a.Open]])<|cond (ieq (zn e 8) 1) (oN (zbr d [-1,255,256,9223372036854775807])<|some [.agg [.s .u8 c.b,.i .i64 g.i,.i .i64 g.h],.agg [.i .i64 a.Traps,.i .i64<|zbn d [-1,255,256,9223372036854775807],.b a.Open]])<|cond (ieq (zn e 8) 2) (some [.agg [.s .u8 c.b,.i .i64 f.i,.i .i64 f.h],.agg [.i .i64 a.Traps,.i .i64 a.Post,.b<|nB a.Open]])<|some [.agg [.s .u8 c.b,.i .i64 f.i,.i .i64 f.h],.agg [.i .i64 a.Traps,.i .i64 a.Post,.b a.Open]])
def zrJ (c:Cur)(s:Cur)(a:Ctl):Prop:=(∃N,zyS N c=some (AV.agg (zb1 s)::[.agg<|zmR a]))/\(s.b=c.b/\0<=s.i)/\(True)
def zpY (c:Cur)  : Bool:=wC (zrJ c)
def zpZ (c:Cur)  : Cur:=wS (zrJ c)
def zzU (c:Cur)  : Ctl:=wV (zrJ c)
theorem z0m {c:Cur}(h:zpY c=true):zrJ c (zpZ c) (zzU c):=wG h
theorem z0o (c:Cur)  : 0<=(zpZ c).i:=wP λh=>h.2.1.2
theorem z0n (c:Cur)(h:∃N,Ends (wE (λa=>.agg (zmR a)) c.b λa=>True)<|zyS N c):zpY c=true:=wI (λ_ _ h=>h) h
def zAI:zea:=rP0 λc=>(zpY c,zpZ c,[.agg<|zmR<|zzU c])
theorem zNR:zbV Tryz.prog 280 [false,true,true] zAI:=hP0 zeG zZ zzO zq (zx []) (λ_ h=>(z0m h).1)
theorem z3L {c:Cur}(h:zbe c):zpY c=true:=by
 refine z0n c ⟨0,?_⟩;unfold zyS oN nB;conv=>zeta
 have d:zbe {zcn c with b:=c.b}:=zbS h (zzV _);have a:zbe {zf {zcn c with b:=c.b} 8 with b:=c.b}:=zbS h (zG _ _);exact zF (zY5 h) (zF (zbz d 8)<|zbE (λ_=>zF (zfh a (by simp)) (zbO (λx=>AV.agg (zmR x)) (v:=⟨zbn _ _,(zcI c).Post,(zcI c).Open⟩) (zb3 _ _) trivial)) λ_=>zbE (λ_=>zF (zfh a (by simp)) (zbO (λx=>AV.agg (zmR x)) (v:=⟨(zcI c).Traps,zbn _ _,(zcI c).Open⟩) (zb3 _ _) trivial)) λ_=>zbE (λ_=>zbO (λx=>AV.agg (zmR x)) (v:=⟨(zcI c).Traps,(zcI c).Post,bif (zcI c).Open then false else true⟩) (zG _ _) trivial) λ_=>zbO (λx=>AV.agg (zmR x)) (v:=(zcI c)) (zG _ _) trivial)
def zwG (N:Nat)(c:Cur)  : OA :=
 let f:=zf c 5;let d:=({f with b:=c.b}:Cur);let j:=zf d 100;let a:=zn d 100;let e:=({ (zf d 4) with b:=c.b}:Cur);let g:=zeq (zn d 4)<|zdh e 2; (oN (zB c 5)<|cond (ieq (zn c 5) 0) (oN (zB d 4)<|oN (zc7 e 2)<|oN (zgo (zn d 4)<|zdh e 2)<|some [.agg [.s .u8 c.b,.i .i64 (zT e 2).i,.i .i64 (zT e 2).h],.agg [.i .i64 g.Kind,.i .i64 g.Page,.b g.Write,.i .i64 g.N]])<|cond (ieq (zn c 5) 1) (oN (zB d 100)<|oN (zeL a)<|some [.agg [.s .u8 c.b,.i .i64 j.i,.i .i64 j.h],.agg [.i .i64 (zeB a).Kind,.i .i64 (zeB a).Page,.b (zeB a).Write,.i .i64 (zeB a).N]])<|cond (ieq (zn c 5) 2) (oN (zB d 100)<|oN (zeL a)<|some [.agg [.s .u8 c.b,.i .i64 j.i,.i .i64 j.h],.agg [.i .i64 (zfI a).Kind,.i .i64 (zfI a).Page,.b (zfI a).Write,.i .i64 (zfI a).N]])<|cond (ieq (zn c 5) 3) (some [.agg [.s .u8 c.b,.i .i64 f.i,.i .i64 f.h],.agg [.i .i64 4,.i .i64 0,.b false,.i .i64 0]])<|some [.agg [.s .u8 c.b,.i .i64 f.i,.i .i64 f.h],.agg [.i .i64 0,.i .i64 0,.b false,.i .i64 0]])
def zp2 (c:Cur)(s:Cur)(a:GExit):Prop:=(∃N,zwG N c=some (AV.agg (zb1 s)::[.agg<|zgt a]))/\(s.b=c.b/\0<=s.i)/\(True)
def zi6 (c:Cur)  : Bool:=wC (zp2 c)
def zfV (c:Cur)  : Cur:=wS (zp2 c)
def zcf (c:Cur)  : GExit:=wV (zp2 c)
theorem zXj {c:Cur}(h:zi6 c=true):zp2 c (zfV c) (zcf c):=wG h
theorem zxd (c:Cur)  : 0<=(zfV c).i:=wP λh=>h.2.1.2
theorem zXk (c:Cur)(h:∃N,Ends (wE (λa=>.agg (zgt a)) c.b λa=>True)<|zwG N c):zi6 c=true:=wI (λ_ _ h=>h) h
def zye:zea:=rP0 λc=>(zi6 c,zfV c,[.agg<|zgt<|zcf c])
theorem zKL:zbV Tryz.prog 349 [false,true,true] zye:=hP0 zeG zZ zzO zq (zx []) (λ_ h=>(zXj h).1)
theorem zTj {c:Cur}(h:zbe c):zi6 c=true:=by
 refine zXk c ⟨0,?_⟩;unfold zwG oN;conv=>zeta
 have a:zbe {zf c 5 with b:=c.b}:=zbS h (zG _ _);have d:zbe {zf {zf c 5 with b:=c.b} 4 with b:=c.b}:=zbS h (zG _ _);exact zF (zbz h 5) (zbE (λ_=>zF (zbz a 4) (zF (zjF d 2) (zF rfl (zbO (λx=>AV.agg (zgt x)) (v:=zeq _ _) (zcr _ _) trivial)))) λ_=>zbE (λ_=>zF (zbz a 100) (zF rfl (zbO (λx=>AV.agg (zgt x)) (v:=zeB _) (zG _ _) trivial))) λ_=>zbE (λ_=>zF (zbz a 100) (zF rfl (zbO (λx=>AV.agg (zgt x)) (v:=zfI _) (zG _ _) trivial))) λ_=>zbE (λ_=>zbO (λx=>AV.agg (zgt x)) (v:=⟨4,0,false,0⟩) (zG _ _) trivial) λ_=>zbO (λx=>AV.agg (zgt x)) (v:=⟨0,0,false,0⟩) (zG _ _) trivial)
def z7N:zcU:=[(279,[false,true,true],zta),(280,[false,true,true],zAI),(349,[false,true,true],zye)]++z7M
theorem zqE:zb5 z7N:=zcp zzO (by
 intro x a;simp only[qG,qN,or_false]at a;rcases a with rfl|rfl|rfl
 .exact zCQ
 .exact zNR
 .exact zKL)
def zyU (N:Nat)(c:Cur)  : OA :=
 let a:=zcf c;let e:=({ (zfV c) with b:=c.b}:Cur);let d:=({ (zf e 8) with b:=c.b}:Cur); (oN (zi6 c)<|oN (zB e 8)<|cond (ieq (zn e 8) 0) (oN (zB d 7)<|some [.agg [.s .u8 c.b,.i .i64 (zf d 7).i,.i .i64 (zf d 7).h],.agg [.i .i64<|wsub .i64 (zn d 7) 1,.i .i64 a.Page,.b a.Write,.i .i64 a.N]])<|cond (ieq (zn e 8) 1) (oN (zbr d [-1,3,4])<|some [.agg [.s .u8 c.b,.i .i64 (zX d [-1,3,4]).i,.i .i64 (zX d [-1,3,4]).h],.agg [.i .i64 a.Kind,.i .i64<|zbn d [-1,3,4],.b a.Write,.i .i64 a.N]])<|cond (ieq (zn e 8) 2) (oN (zbr d [-1,99,100])<|some [.agg [.s .u8 c.b,.i .i64 (zX d [-1,99,100]).i,.i .i64 (zX d [-1,99,100]).h],.agg [.i .i64 a.Kind,.i .i64 a.Page,.b a.Write,.i .i64<|zbn d [-1,99,100]]])<|some [.agg [.s .u8 c.b,.i .i64 (zf e 8).i,.i .i64 (zf e 8).h],.agg [.i .i64 a.Kind,.i .i64 a.Page,.b a.Write,.i .i64 a.N]])
def zrL (c:Cur)(s:Cur)(a:GExit):Prop:=(∃N,zyU N c=some (AV.agg (zb1 s)::[.agg<|zgt a]))/\(s.b=c.b/\0<=s.i)/\(True)
def zp0 (c:Cur)  : Bool:=wC (zrL c)
def zp1 (c:Cur)  : Cur:=wS (zrL c)
def zzW (c:Cur)  : GExit:=wV (zrL c)
theorem z0r {c:Cur}(h:zp0 c=true):zrL c (zp1 c) (zzW c):=wG h
theorem z0t (c:Cur)  : 0<=(zp1 c).i:=wP λh=>h.2.1.2
theorem z0s (c:Cur)(h:∃N,Ends (wE (λa=>.agg (zgt a)) c.b λa=>True)<|zyU N c):zp0 c=true:=wI (λ_ _ h=>h) h
def zAK:zea:=rP0 λc=>(zp0 c,zp1 c,[.agg<|zgt<|zzW c])
theorem zNT:zbV Tryz.prog 281 [false,true,true] zAK:=hP0 zeG zZ zqE zq (zx []) (λ_ h=>(z0r h).1)
theorem z03 {c:Cur}(h:zbe c):zp0 c=true:=by
 refine z0s c ⟨0,?_⟩;unfold zyU oN;conv=>zeta
 have d:zbe {zfV c with b:=c.b}:=zbS h (zxd _);have a:zbe {zf {zfV c with b:=c.b} 8 with b:=c.b}:=zbS h (zG _ _);exact zF (zTj h) (zF (zbz d 8)<|zbE (λ_=>zF (zbz a 7) (zbO (λx=>AV.agg (zgt x)) (v:=⟨wsub .i64 _ 1,(zcf c).Page,(zcf c).Write,(zcf c).N⟩) (zG _ _) trivial)) λ_=>zbE (λ_=>zF (zfh a (by simp)) (zbO (λx=>AV.agg (zgt x)) (v:=⟨(zcf c).Kind,zbn _ _,(zcf c).Write,(zcf c).N⟩) (zb3 _ _) trivial)) λ_=>zbE (λ_=>zF (zfh a (by simp)) (zbO (λx=>AV.agg (zgt x)) (v:=⟨(zcf c).Kind,(zcf c).Page,(zcf c).Write,zbn _ _⟩) (zb3 _ _) trivial)) λ_=>zbO (λx=>AV.agg (zgt x)) (v:=(zcf c)) (zG _ _) trivial)
def zwH (N:Nat)(c:Cur)  : OA :=
 let a:=({ (zf c 256) with b:=c.b}:Cur);let d:=({ (zf a 256) with b:=c.b}:Cur);let e:=zX d [0,1,128,255,zn c 256,zn a 256,-1,256,9223372036854775807]; (oN (zB c 256)<|oN (zB a 256)<|oN (zbr d [0,1,128,255,zn c 256,zn a 256,-1,256,9223372036854775807])<|some [.agg [.s .u8 c.b,.i .i64 e.i,.i .i64 e.h],aI<|zbn d [0,1,128,255,zn c 256,zn a 256,-1,256,9223372036854775807]])
def zp3 (c:Cur)(s:Cur)(a:Int):Prop:=(∃N,zwH N c=some (AV.agg (zb1 s)::[aI a]))/\(s.b=c.b/\0<=s.i)/\(True)
def znt (c:Cur)  : Bool:=wC (zp3 c)
def znu (c:Cur)  : Cur:=wS (zp3 c)
def zwt (c:Cur)  : Int:=wV (zp3 c)
theorem zXl {c:Cur}(h:znt c=true):zp3 c (znu c) (zwt c):=wG h
theorem zXn (c:Cur)  : 0<=(znu c).i:=wP λh=>h.2.1.2
theorem zXm (c:Cur)(h:∃N,Ends (wE (λa=>aI a) c.b λa=>True)<|zwH N c):znt c=true:=wI (λ_ _ h=>h) h
def zyf:zea:=rP0 λc=>(znt c,znu c,[aI<|zwt c])
theorem zKM:zbV Tryz.prog 223 [false,true,true] zyf:=hP0 zeG zZ zqE zq (zx []) (λ_ h=>(zXl h).1)
theorem zbaB {c:Cur}(h:zbe c):znt c=true:=by
 refine zXm c ⟨0,?_⟩;unfold zwH oN;conv=>zeta
 have a:zbe {zf c 256 with b:=c.b}:=zbS h (zG _ _);have d:zbe {zf {zf c 256 with b:=c.b} 256 with b:=c.b}:=zbS h (zG _ _);exact zF (zbz h 256) (zF (zbz a 256)<|zF (zfh d (by simp))<|zbO aI (zb3 _ _) trivial)
def zt1 (N:Nat)(c:Cur)  : OA :=
 let a:=zX c [0,1,2,3,0,1,-1,4,9223372036854775807]; (oN (zbr c [0,1,2,3,0,1,-1,4,9223372036854775807])<|some [.agg [.s .u8 c.b,.i .i64 a.i,.i .i64 a.h],aI<|zbn c [0,1,2,3,0,1,-1,4,9223372036854775807]])
def znQ (c:Cur)(s:Cur)(a:Int):Prop:=(∃N,zt1 N c=some (AV.agg (zb1 s)::[aI a]))/\(s.b=c.b/\0<=s.i)/\(True)
def zlL (c:Cur)  : Bool:=wC (znQ c)
def zlM (c:Cur)  : Cur:=wS (znQ c)
def ztB (c:Cur)  : Int:=wV (znQ c)
theorem zVh {c:Cur}(h:zlL c=true):znQ c (zlM c) (ztB c):=wG h
theorem zVj (c:Cur)  : 0<=(zlM c).i:=wP λh=>h.2.1.2
theorem zVi (c:Cur)(h:∃N,Ends (wE (λa=>aI a) c.b λa=>True)<|zt1 N c):zlL c=true:=wI (λ_ _ h=>h) h
def zv0:zea:=rP0 λc=>(zlL c,zlM c,[aI<|ztB c])
theorem zHU:zbV Tryz.prog 143 [false,true,true] zv0:=hP0 zeG zZ zqE zq (zx []) (λ_ h=>(zVh h).1)
theorem z9G {c:Cur}(h:zbe c):zlL c=true:=by
 refine zVi c ⟨0,?_⟩;unfold zt1 oN;conv=>zeta
 exact zF (zfh h (by simp)) (zbO aI (zb3 _ _) trivial)
def zCb (N:Nat)(c:Cur)  : OA :=
 let a:=zX c [0,0,1,1,2,-1,9223372036854775807]; (oN (zbr c [0,0,1,1,2,-1,9223372036854775807])<|some [.agg [.s .u8 c.b,.i .i64 a.i,.i .i64 a.h],aI<|zbn c [0,0,1,1,2,-1,9223372036854775807]])
def ztC (c:Cur)(s:Cur)(a:Int):Prop:=(∃N,zCb N c=some (AV.agg (zb1 s)::[aI a]))/\(s.b=c.b/\0<=s.i)/\(True)
def zos (c:Cur)  : Bool:=wC (ztC c)
def zlO (c:Cur)  : Cur:=wS (ztC c)
def ztT (c:Cur)  : Int:=wV (ztC c)
theorem z3d {c:Cur}(h:zos c=true):ztC c (zlO c) (ztT c):=wG h
theorem z3f (c:Cur)  : 0<=(zlO c).i:=wP λh=>h.2.1.2
theorem z3e (c:Cur)(h:∃N,Ends (wE (λa=>aI a) c.b λa=>True)<|zCb N c):zos c=true:=wI (λ_ _ h=>h) h
def zDk:zea:=rP0 λc=>(zos c,zlO c,[aI<|ztT c])
theorem zQ9:zbV Tryz.prog 114 [false,true,true] zDk:=hP0 zeG zZ zqE zq (zx []) (λ_ h=>(z3d h).1)
theorem z9N {c:Cur}(h:zbe c):zos c=true:=by
 refine z3e c ⟨0,?_⟩;unfold zCb oN;conv=>zeta
 exact zF (zfh h (by simp)) (zbO aI (zb3 _ _) trivial)
def zt0 (N:Nat)(c:Cur)  : OA :=
 let e:=({ (zf c 3) with b:=c.b}:Cur);let d:=({ (zf e 4) with b:=c.b}:Cur);let a:=({ (zf d 6) with b:=c.b}:Cur); (oN (zB c 3)<|oN (zB e 4)<|oN (zB d 6)<|oN (zB a 3)<|some [.agg [.s .u8 c.b,.i .i64 (zf a 3).i,.i .i64 (zf a 3).h],.agg [.i .i64<|zM .i64 1<|zn c 3,.i .i64<|zn e 4,.i .i64<|zn d 6,.i .i64<|zM .i64 1<|zn a 3]])
def znP (c:Cur)(s:Cur)(a:Entry):Prop:=(∃N,zt0 N c=some (AV.agg (zb1 s)::[aT .entry a]))/\(s.b=c.b/\0<=s.i)/\(True)
def zim (c:Cur)  : Bool:=wC (znP c)
def zg7 (c:Cur)  : Cur:=wS (znP c)
def zmH (c:Cur)  : Entry:=wV (znP c)
theorem zVf {c:Cur}(h:zim c=true):znP c (zg7 c) (zmH c):=wG h
theorem zu7 (c:Cur)  : 0<=(zg7 c).i:=wP λh=>h.2.1.2
theorem zVg (c:Cur)(h:∃N,Ends (wE (λa=>aT .entry a) c.b λa=>True)<|zt0 N c):zim c=true:=wI (λ_ _ h=>h) h
def zvZ:zea:=rP0 λc=>(zim c,zg7 c,[aT .entry<|zmH c])
theorem zHT:zbV Tryz.prog 262 [false,true,true] zvZ:=hP0 zeG zZ zqE zq (zx []) (λ_ h=>(zVf h).1)
theorem zMP {c:Cur}(h:zbe c):zim c=true:=by
 refine zVg c ⟨0,?_⟩;unfold zt0 oN;conv=>zeta
 have a:zbe {zf c 3 with b:=c.b}:=zbS h (zG _ _);have d:zbe {zf {zf c 3 with b:=c.b} 4 with b:=c.b}:=zbS h (zG _ _);have e:zbe {zf {zf {zf c 3 with b:=c.b} 4 with b:=c.b} 6 with b:=c.b}:=zbS h (zG _ _);exact zF (zbz h 3) (zF (zbz a 4)<|zF (zbz d 6)<|zF (zbz e 3)<|zbO (aT .entry) (v:=⟨_,_,_,_⟩) (zG _ _) trivial)
def z7O:zcU:=[(281,[false,true,true],zAK),(223,[false,true,true],zyf),(143,[false,true,true],zv0),(114,[false,true,true],zDk),(262,[false,true,true],zvZ)]++z7N
theorem z5n:zb5 z7O:=zcp zqE (by
 intro x a;simp only[qG,qN,or_false]at a;rcases a with rfl|rfl|rfl|rfl|rfl
 .exact zNT
 .exact zKM
 .exact zHU
 .exact zQ9
 .exact zHT)
section
open Go Go.RowKit
structure Cw (w0:World) (blk:Nat) (u:Value) (c:Cur) (w:World):Prop where
 os:w.os=w0.os
 tape:w.tape=w0.tape
 output:w.output=w0.output
 size:w0.heap.size<=w.heap.size
 keep:∀b,b<w0.heap.size->b≠blk->w.heap[b]?=w0.heap[b]?
 cur:∃e,w.heap[blk]?=some (.cells #[u,.int .i64 c.i,.int .i64 c.h] e (0,0))
theorem Cw.trans {g w1 h:World}{blk:Nat}{u:Value}{i d:Cur}(a:Cw g blk u i w1)(c:Cw w1 blk u d h):Cw g blk u d h :=
 ⟨c.os.trans a.os,c.tape.trans a.tape,c.output.trans a.output,qT a.size c.size,λb e f=>(c.keep b (jC e a.size) f).trans (a.keep b e f),c.cur⟩
theorem Cw.drew {a w:World}{blk:Nat}{u:Value}{c:Cur}(h:Cw a blk u c w):Cw a blk u c w.drew:=⟨h.os,h.tape,h.output,h.size,h.keep,h.cur⟩
theorem Cw.at (w:World)(blk:Nat)(u:Value)(c:Cur)(h:∃e,w.heap[blk]?=some (.cells #[u,.int .i64 c.i,.int .i64 c.h] e (0,0))):Cw w blk u c w:=⟨rfl,rfl,rfl,qW _,λ_ _ _=>rfl,h⟩
theorem Cw.alloc {d w:World}{blk:Nat}{u:Value}{c:Cur}(h:Cw d blk u c w)(a:blk<w.heap.size)(o:Obj):Cw d blk u c (w.alloc o):=
 ⟨h.os,h.tape,h.output,qT h.size (by simp),λb a g=>(heap_alloc_old w o<|jC a h.size).trans (h.keep b a g),by obtain⟨e,f⟩:=h.cur;exact⟨e,(heap_alloc_old w o a).trans f⟩⟩
theorem Cw.lt {b w:World}{blk:Nat}{u:Value}{c:Cur}(h:Cw b blk u c w):blk<w.heap.size:=by obtain⟨e,a⟩:=h.cur;exact(qO.1 a).1
theorem zG9 {P:Program}{f:FuncId}{y:List CV->List AV->Option (Bool×List CV×List AV)}(V:zbV P f [false,true,true] y){w:World}{blk:Nat}{u:Value}{c c2:Cur}{z:zY}(q:∃e,w.heap[blk]?=some (.cells #[u,.int .i64 c.i,.int .i64 c.h] e (0,0)))(hu:Rep false w u (.s .u8 c.b) z)(W:∀x,z x->x<w.heap.size/\x≠blk){avs rs:List AV}{xs:List Value}{Ka:zY}(l:zdH false w (zD avs) xs λ_=>Ka)(p:∀x,Ka x->x<w.heap.size/\x≠blk)(hr:y (zb1 c) avs=some (true,zb1 c2,rs)) :
 Calls P f (#[.pointer<|some ⟨blk,0,none⟩]++(zbZ avs xs).toArray) w λe B=>∃C A,e = .returned (zkh<|zbZ rs C)/\Cw w blk u c2 B/\ztG (zo2 f) B (zD rs) C A/\(∀i x,i<(zD rs).length->A i x->w.heap.size<=x/\x<B.heap.size):=by
 obtain⟨e,Y⟩:=q;refine(V.2 w blk _ e (zb1 c) (λj x=>j=0/\z x) avs xs Ka (zb1 c2) rs Y rfl rfl ?_ ?_ ?_ l ?_ hr).mono ?_
 .intro j cv v m k
  match j,m,k with
  | 0,m,k=>cases m;cases k;exact hu.weak (λx l=>⟨rfl,l⟩)
  | 1,m,k=>cases m;cases k;exact .i _ _ _
  | 2,m,k=>cases m;cases k;exact .i _ _ _
  |j+3,m,k=>simp[zb1]at m
 .intro j x _ l;exact W x l.2
 .intro i j x r t n hne l hx2;have:i=0:=l.1;subst this;simp[zbd]at n
 .intro x l;refine⟨(p x l).1,(p x l).2,λj t n d=>?_⟩;have:j=0:=d.1;subst this;simp[zbd]at n
 .intro E B hp;cases E with
  |panicked _=>exact hp.elim
  |outgrown=>exact hp.elim
  |returned v=>
   obtain⟨Q,R,S,T,U,a,G,K',C,A,I,L,g3,F,M,N,g7,O,g9,J,K⟩:=hp;have g:∀i x,i<(zb1 c).length->zbd [false,true,true] i->¬ ((λ(j:Nat) x=>j=0/\z x) i x):=by intro i x r n d;have:i=0:=d.1;subst this;simp[zbd]at n
   have k:a = #[u,.int .i64 c2.i,.int .i64 c2.h]:=by
    have hs:a.size=3:=L;have D:=(F 0 _ (a[0]'(by omega)) rfl (jI _)).2 (by simp[zbd]);have H:=F 1 _ (a[1]'(by omega)) rfl (jI _);have E:=F 2 _ (a[2]'(by omega)) rfl (jI _);have D:u=a[0]'(by omega):=(by simpa using D);apply Array.ext;{exact hs}
    .intro i r hi2
     match i,r with
     | 0,_=>exact D.symm
     | 1,_=>exact H
     | 2,_=>exact E
     |i+3,h=>omega
   subst k;refine⟨C,A,by rw[N],⟨Q,R,S,T,λb X Z=>U b X Z λj t n d=>g j b t n d,G,I⟩,M,λi x r d=>?_⟩;obtain⟨k1,k2,k3⟩:=O i x r d;rcases k3 with⟨j,t,n,d⟩|d;{exact absurd d (g j x t n)};{exact⟨d,k1⟩}
def ze8 (c:Cur):List (List Int):=zu6 c 3
def zzE (c:Cur):Cur:={zmF c 3 with b:=c.b}
def zZP (c:Cur):Int:=zn (zzE c) 8
def zio (c:Cur):Cur:={zf (zzE c) 8 with b:=c.b}
def zZO (c:Cur):Int:=zn (zio c) 3
def ztk (c:Cur):Cur:={zf (zio c) 3 with b:=c.b}
def l04n (c:Cur):Int:=zn (ztk c) 4
def zZM (c:Cur):Cur:={zf (ztk c) 4 with b:=c.b}
def zuy (c:Cur):Int:=zbn (zio c) [-1,100]
def zZN (c:Cur):Cur:={zX (zio c) [-1,100] with b:=c.b}
def zoA (_:Nat)(c:Cur):OA:=
 bif ziQ c 3 then (bif zB (zzE c) 8 then (bif ieq (zZP c) 0 then (cond (zB (zio c) 3) (cond (zB (ztk c) 4) (some (AV.agg (zb1<|zZM c)::[aS (.sl .int)<|up (ze8 c) (zZO c)<|tk (ix (ze8 c) 0 [])<|l04n c])) none) none)
  else (bif ieq (zZP c) 1 then (cond (zbr (zio c) [-1,100]) (some (AV.agg (zb1<|zZN c)::[aS (.sl .int)<|up (ze8 c) 1<|up (ix (ze8 c) 1 []) 2<|zuy c])) none)
  else (cond (ieq (zZP c) 2) (cond (zB (zio c) 3) (some (AV.agg (zb1<|ztk c)::[aS (.sl .int)<|tk (ze8 c)<|zZO c])) none)<|some (AV.agg (zb1<|zio c)::[aS (.sl .int)<|ze8 c])))) else none) else none
def zrE (c:Cur)(s:Cur)(a:List (List Int)):Prop:=(∃N,zoA N c=some (AV.agg (zb1 s)::[aS (.sl .int) a]))/\(s.b=c.b/\0<=s.i)/\(a.length<=3/\∀r∈a,r.length<=4)
def zpU (c:Cur)  : Bool:=wC (zrE c)
def ziP (c:Cur)  : Cur:=wS (zrE c)
def zqS (c:Cur)  : List (List Int):=wV (zrE c)
theorem zLU {c:Cur}(h:zpU c=true):zrE c (ziP c) (zqS c):=wG h
theorem z0i (c:Cur)  : 0<=(ziP c).i:=wP λh=>h.2.1.2
theorem z0h (c:Cur)(h:∃N,Ends (wE (λa=>aS (.sl .int) a) c.b λa=>a.length<=3/\∀r∈a,r.length<=4)<|zoA N c):zpU c=true:=wI (λ_ _ h=>h) h
def zsG:zea:=rP0 λc=>(zpU c,ziP c,[aS (.sl .int)<|zqS c])
theorem z5d {w:World}{blk:Nat}{u:Value}{c:Cur}{l:zY}{n:Int}(g:∃e,w.heap[blk]?=some (.cells #[u,.int .i64 c.i,.int .i64 c.h] e (0,0)))(t:Rep false w u (.s .u8 c.b) l)(q:∀x,l x->x<w.heap.size/\x≠blk)(r:ziQ c n=true) :
 Calls Tryz.prog 224 #[.pointer<|some ⟨blk,0,none⟩,.int .i64 n] w λe k=>∃v j,e = .returned v/\Cw w blk u {zmF c n with b:=c.b} k/\Rep true k v (.s (.sl .int)<|zu6 c n) j/\(∀x,j x->w.heap.size<=x/\x<k.heap.size):=by
 have:=zG9 (c:=c) (c2:=zmF c n) zxQ g t q (avs:=[.one<|.i .i64 n]) (rs:=[aS (.sl .int)<|zu6 c n]) (xs:=[.int .i64 n]) (Ka:=λ_=>False) ⟨rfl,λi A x a d=>by
  match i,a,d with
  | 0,a,d=>cases a;cases d;exact .i _ _ _
  |i+1,a,d=>simp at d⟩ (λx d=>d.elim) (by show some (ziQ ⟨c.b,c.i,c.h⟩ n,_,_)=_;rw[show (⟨c.b,c.i,c.h⟩:Cur)=c from rfl,r])
 refine Calls.mono this ?_
 rintro e k ⟨z,j,rfl,f,m,p⟩
 match z,m.1 with
 |[y],_=>exact⟨y,j 0,rfl,⟨f.os,f.tape,f.output,f.size,f.keep,f.cur⟩,m.2 0 _ y rfl rfl,λx d=>p 0 x (by simp[zD,AV.cvs]) d⟩
theorem zte {w:World}{blk:Nat}{u:Value}{c:Cur}{j:zY}{n:Int}(g:∃e,w.heap[blk]?=some (.cells #[u,.int .i64 c.i,.int .i64 c.h] e (0,0)))(r:Rep false w u (.s .u8 c.b) j)(p:∀x,j x->x<w.heap.size/\x≠blk)(q:zB c n=true) :
 Calls Tryz.prog 106 #[.pointer<|some ⟨blk,0,none⟩,.int .i64 n] w λe l=>e = .returned (.int .i64<|zn c n)/\Cw w blk u {zf c n with b:=c.b} l:=by
 have:=zG9 (c:=c) (c2:=zf c n) zuv g r p (avs:=[.one<|.i .i64 n]) (rs:=[aI<|zn c n]) (xs:=[.int .i64 n]) (Ka:=λ_=>False) ⟨rfl,λi z x a d=>by
  match i,a,d with
  | 0,a,d=>cases a;cases d;exact .i _ _ _
  |i+1,a,d=>simp at d⟩ (λx d=>d.elim) (by show some (zB ⟨c.b,c.i,c.h⟩ n,_,_)=_;rw[show (⟨c.b,c.i,c.h⟩:Cur)=c from rfl,q])
 refine Calls.mono this ?_
 rintro e l ⟨t,v,rfl,f,k,A⟩
 match t,k.1,k.2 with
 |[y],_,m=>have:=(m 0 _ y rfl rfl).int_inv;subst this;exact⟨rfl,f.os,f.tape,f.output,f.size,f.keep,f.cur⟩
theorem z2R {w:World}{blk:Nat}{u:Value}{c:Cur}{k:zY}{l:List Int}{v:Value}{Ka:zY}(f:∃e,w.heap[blk]?=some (.cells #[u,.int .i64 c.i,.int .i64 c.h] e (0,0)))(t:Rep false w u (.s .u8 c.b) k)(q:∀x,k x->x<w.heap.size/\x≠blk)(r:zbr c l=true)(z:Rep false w v (.s .int l) Ka)(j:∀x,Ka x->x<w.heap.size/\x≠blk) :
 Calls Tryz.prog 144 #[.pointer<|some ⟨blk,0,none⟩,v] w λe n=>e = .returned (.int .i64<|zbn c l)/\Cw w blk u {zX c l with b:=c.b} n:=by
 have:=zG9 (c:=c) (c2:=zX c l) zr9 f t q (avs:=[.one<|.s .int l]) (rs:=[aI<|zbn c l]) (xs:=[v]) (Ka:=Ka) ⟨rfl,λi C x a g=>by
  match i,a,g with
  | 0,a,g=>cases a;cases g;exact z
  |i+1,a,g=>simp at g⟩ j (by show some (zbr ⟨c.b,c.i,c.h⟩ l,_,_)=_;rw[show (⟨c.b,c.i,c.h⟩:Cur)=c from rfl,r])
 refine Calls.mono this ?_
 rintro e n ⟨A,B,rfl,d,m,D⟩
 match A,m.1,m.2 with
 |[y],_,p=>have:=(p 0 _ y rfl rfl).int_inv;subst this;exact⟨rfl,d.os,d.tape,d.output,d.size,d.keep,d.cur⟩
theorem z2Y {w:World}{v:Value}{l:List (List Int)}{K:zY}(h:Rep true w v (.s (.sl .int) l) K)(n:l.length=3):∃(b off cap:Nat) (arr:Array Value) (e:TypeId) (V:Nat->Value) (c:Nat->zY),v = .slice (some ⟨b,off,none⟩) 3 cap/\w.heap[b]?=some (.cells arr e (0,0))/\3<=cap/\off+cap<=arr.size/\K b/\
 (∀i x,i<3->c i x->K x/\x≠b)/\(∀i g x,i<3->g<3->c i x->c g x->i=g)/\(∀i,i<3->arr[off+i]?=some (V i))/\∀i x,l[i]?=some x->Rep true w (V i) (.s .int x) (c i):=by
 cases h with
 |nil=>simp at n
 |void _ _ _ B=>cases B
 |sl _ _ b off cap arr e E V c _ y k r p f u a d C z=>have:=k rfl;subst this;have t:Ty.width (.sl .int)=1:=rfl;rw[t,uY]at f;refine⟨b,off,cap,arr,e,λi=>V i 0,λi=>c i 0,by rw[n],y,by omega,f,u,λi x q j=>⟨(a i 0 x (by omega) (by decide) j).1,(a i 0 x (by omega) (by decide) j).2 rfl⟩,λi g x q A j m=>(d rfl i 0 g 0 x (by omega) (by decide) (by omega) (by decide) j m).1,λi q=>?_,λi x D=>z i x D 0 _ rfl⟩;have:=C i 0 (by omega) (by decide);rwa [t,uY,jW] at this
theorem zU6 {w:World}{v:Value}{l:List Int}{K:zY}(h:Rep true w v (.s .int l) K)(d:l.length=4):∃(b off cap:Nat) (arr:Array Value) (e:TypeId),v = .slice (some ⟨b,off,none⟩) 4 cap/\w.heap[b]?=some (.cells arr e (0,0))/\4<=cap/\off+cap<=arr.size/\K b/\
 ∀i x,l[i]?=some x->arr[off+i]?=some (.int .i64 x):=by
 cases h with
 |nil=>simp at d
 |void _ _ _ u=>cases u
 |sl _ _ b off cap arr e A V z _ q c j f a p k g y r=>have:=c rfl;subst this;have m:Ty.width .int=1:=rfl;rw[m,uY]at a;refine⟨b,off,cap,arr,e,by rw[d],q,by omega,a,p,λi x n=>?_⟩;have t:i<l.length:=(qA.1 n).1;have:=y i 0 t (by decide);rw[m,uY,jW] at this;rw[this,(r i x n 0 (.i .i64 x) rfl).int_inv]
theorem zIu {o:Bool}{w:World}{b off cap:Nat}{arr:Array Value}{e:TypeId}(g:w.heap[b]?=some (.cells arr e (0,0))){l:List Int}(r:l.length<=1000)(c:l.length<=cap)(m:off+cap<=arr.size)(n:∀i x,l[i]?=some x->arr[off+i]?=some (.int .i64 x)):Rep o w (.slice (some ⟨b,off,none⟩) l.length cap) (.s .int l) (λx=>x=b):=by
 refine .sl .int l b off cap arr e (0,0) (λi j=>.int .i64 (l.getD i 0)) (λ_ _ _=>False) _ g (λ_=>rfl) (by rw[zl6];omega) c (by show off+cap*1<=arr.size;omega) rfl (λi j x _ _ h=>h.elim) (λ_ i j t u x _ _ _ _ h=>h.elim) (λi j f k=>?_) (λi x p j q a=>?_);{have d:j=0:=(by have:j<1:=k;omega);subst d;have:=n i _ (qB f);show arr[off+i*1+0]?=_;rw[uY,jW,this];simp[List.getD,qB f]}
 .match j,a with
  | 0,a=>cases a;have:l.getD i 0=x:=(by simp[List.getD,p]);show Rep o w (.int .i64<|l.getD i 0) _ _;rw[this];exact .i _ _ _
  |j+1,a=>simp[Ty.cells]at a
theorem zIv {w:World}{b off cap:Nat}{arr:Array Value}{e:TypeId}(n:w.heap[b]?=some (.cells arr e (0,0))){l:List (List Int)}(A:l.length<=1000)(c:l.length<=cap)(t:off+cap<=arr.size)(V:Nat->Value){K:zY}(f:K b)(u:∀i,i<l.length->arr[off+i]?=some (V i))(r:∀i x,l[i]?=some x->∃d,Rep false w (V i) (.s .int x) d/\∀y,d y->K y):Rep false w (.slice (some ⟨b,off,none⟩) l.length cap) (.s (.sl .int) l) K:=by
 refine .sl (.sl .int) l b off cap arr e (0,0) (λi _=>V i) (λ_ _=>K) _ n (λ_=>rfl) (by rw[zl6];omega) c (by show off+cap*1<=arr.size;omega) f (λi j x _ _ h=>⟨h,λh=>by cases h⟩) (λh=>by cases h) (λi j p q=>?_) (λi x v j z a=>?_);{have g:j=0:=(by have:j<1:=q;omega);subst g;show arr[off+i*1+0]?=_;rw[uY,jW];exact u i p}
 .match j,a with
  | 0,a=>cases a;obtain⟨d,k,m⟩:=r i x v;exact k.weak m
  |j+1,a=>simp[Ty.cells]at a
theorem zvI {w:World}{b o:Nat}{arr:Array Value}{e:TypeId}(a:w.heap[b]?=some (.cells arr e (0,0))):w.frozen? ⟨b,o,none⟩=false:=by simp[World.frozen?,a]
set_option maxHeartbeats 3000000 in
theorem zWM {w:World}{blk:Nat}{u:Value}{c:Cur}{K0:zY}{r:Ans}(N:Nat)(b5:∃e,w.heap[blk]?=some (.cells #[u,.int .i64 c.i,.int .i64 c.h] e (0,0)))(hu:Rep false w u (.s .u8 c.b) K0)(hK:∀x,K0 x->x<w.heap.size/\x≠blk)(hE:zoA N c=some r) :
 Calls Tryz.prog 145 #[.pointer<|some ⟨blk,0,none⟩] w λe p=>∃c2 l v Kr,r=AV.agg (zb1 c2)::[aS (.sl .int) l]/\e = .returned v/\Cw w blk u c2 p/\Rep false p v (.s (.sl .int) l) Kr/\(∀x,Kr x->w.heap.size<=x/\x<p.heap.size):=by
 unfold zoA at hE;cases hm:ziQ c 3 with
 |false=>rw[hm]at hE;cases hE
 |true=>
 cases K:zB (zzE c) 8 with
 |false=>rw[hm,K]at hE;cases hE
 |true=>
 rw[hm,K,cT,cT]at hE;have a7:∀{p:World} {O:Cur},Cw w blk u O p->O.b=c.b->Rep false p u (.s .u8 O.b) K0/\∀x,K0 x->x<p.heap.size/\x≠blk:=by intro p O h e;rw[e];exact⟨hu.frame λx d=>h.keep x (hK x d).1 (hK x d).2,λx d=>⟨jC (hK x d).1 h.size,(hK x d).2⟩⟩
 have hM:=(zzS hm).2.2 (by omega) (by omega)
 have a8:(ze8 c).length=3:=by have:=hM.1;unfold ln at this;unfold ze8;omega
 have h5:=(zij K).2.2 (by omega)
 obtain⟨k,hk⟩:∃k,zn (zzE c) 8=k:=⟨_,rfl⟩;have f1:zZP c=k:=hk;rw[f1]at hE
 go_enter Tryz.func145,Tryz.ntmps145
 go_wp2_with fail
 refine(z5d b5 hu hK hm).mono ?_
 rintro e L ⟨v,K1,rfl,F,b3,m⟩
 have b3:Rep true L v (.s (.sl .int)<|ze8 c) K1:=b3;have F:Cw w blk u (zzE c) L:=F;obtain⟨E,t,a3,d7,e0,V,Kc,rfl,c3,g9,d1,Z,G,e9,hV,c1⟩:=z2Y b3 a8;have h3:blk<w.heap.size:=by obtain⟨e,he⟩:=b5;exact(qO.1 he).1
 have e5:E≠blk:=by have:=(m E Z).1;omega
 have cellAt:∀{p:World} {O:Cur},Cw L blk u O p->p.heap[E]?=some (.cells d7 e0 (0,0)):=λh=>(h.keep E (m E Z).2 e5).trans c3
 go_wp2_with fail
 obtain⟨g1,f2⟩:=a7 F rfl;refine(zte F.cur g1 f2 K).mono ?_;rw[hk]
 rintro e X ⟨rfl,B⟩
 have B:Cw L blk u (zio c) X:=B;obtain⟨g2,f3⟩:=a7 (F.trans B) rfl;have g0:=B.size;have g8:w.heap.size<=E/\E<L.heap.size:=m E Z
 have b2:∀{p:World} (i:Nat) (x:List Int),(∀b,Kc i b->b<L.heap.size->b≠blk->b≠E->p.heap[b]?=L.heap[b]?)->i<3->(ze8 c)[i]?=some x->Rep false p (V i) (.s .int x) (Kc i)/\∀y,Kc i y->w.heap.size<=y/\y<L.heap.size:=by intro p i x hf P d;refine⟨((c1 i x d).frame λy S=>?_).ro,λy S=>m y (G i y P S).1⟩;have:=m y (G i y P S).1;exact hf y S this.2 (by omega) (G i y P S).2
 go_wp2_with fail
 .have h0:ieq k 0=true:=by assumption
  rw[h0,cT]at hE;cases J:zB (zio c) 3 with
  |false=>rw[J]at hE;cases hE
  |true=>
  cases b4:zB (ztk c) 4 with
  |false=>rw[J,b4]at hE;cases hE
  |true=>
   rw[J,b4,cT,cT]at hE;have hj:=(zij J).2.2 (by omega);obtain⟨j,a0⟩:=uT hj.1;have c8:zZO c=(j:Int):=a0;have hn:=(zij b4).2.2 (by omega);obtain⟨n,c9⟩:=uT hn.1;have f8:l04n c=(n:Int):=c9;rw[c8,f8]at hE;rw[a0]at hj;rw[c9]at hn;have e6:j<3:=(by omega);have h6:n<4:=(by omega);obtain⟨R0,c0⟩:∃R0,(ze8 c)[0]?=some R0:=⟨_,qB (by omega)⟩;have e2:R0.length=4:=hM.2 R0 (qJ c0);obtain⟨f,a,g,T,e1,f0,c4,c6,a9,D,W⟩:=zU6 (c1 0 R0 c0) e2;have Q:∀{p:World} {O:Cur},Cw L blk u O p->p.cell? ⟨E,t,none⟩=some (.slice (some ⟨f,a,none⟩) 4 g):=λh=>(by have:=hV 0 (by omega);rw[jW,f0] at this;rw[cell_of_block<|cellAt h];exact this);have b7:∀{p:World} {O:Cur},Cw L blk u O p->p.cell? ⟨E,t+j,none⟩=some (V j)/\p.frozen? ⟨E,t+j,none⟩=false:=λh=>by rw[cell_of_block<|cellAt h];exact⟨hV j e6,zvI<|cellAt h⟩
   have d8:∀{I:World},Cw L blk u (zZM c) I->∃c2 l v Kr,r=AV.agg (zb1 c2)::[aS (.sl .int) l]/\Ending.returned (.slice (some ⟨E,t,none⟩) 3 a3) = .returned v/\Cw w blk u c2 (I.setCell ⟨E,t+j,none⟩<|.slice (some ⟨f,a,none⟩) n g)/\Rep false (I.setCell ⟨E,t+j,none⟩<|.slice (some ⟨f,a,none⟩) n g) v (.s (.sl .int) l) Kr/\
    (∀x,Kr x->w.heap.size<=x/\x<(I.setCell ⟨E,t+j,none⟩<|.slice (some ⟨f,a,none⟩) n g).heap.size):=by
    intro I h4;have hz:=h4.size;have a6:=m f (G 0 f (by omega) D).1
    have U:f≠blk:=by omega
    have a5:f≠E:=(G 0 f (by omega) D).2
    have ho:∀b,b≠E->(I.setCell ⟨E,t+j,none⟩<|.slice (some ⟨f,a,none⟩) n g).heap[b]?=I.heap[b]?:=λb K=>heap_setCell_other I _ b _ K;have d0:=heap_setCell_same I E (t+j) d7 e0 (.slice (some ⟨f,a,none⟩) n g) (cellAt h4);have A:=F.trans h4;refine⟨_,_,_,K1,(Option.some.inj hE).symm,rfl,⟨A.os,A.tape,A.output,by rw[World.size_setCell];exact A.size,λb K hn=>(ho b (by omega)).trans (A.keep b K hn),by obtain⟨e,he⟩:=A.cur;exact⟨e,(ho blk λh=>e5 h.symm).trans he⟩⟩,?_,λx d=>⟨(m x d).1,by rw[World.size_setCell];have:=m x d;omega⟩⟩
    have c7:ix (ze8 c) 0 []=R0:=by unfold ix;simp[List.getD,c0]
    have a1:(up (ze8 c) (j:Int)<|tk (ix (ze8 c) 0 []) (n:Int)).length=3:=by rw[ziJ];exact a8
    have:=zIv d0 (l:=up (ze8 c) (j:Int) (tk (ix (ze8 c) 0 []) (n:Int))) (by omega) (cap:=a3) (off:=t) (by omega) (by simpa using d1) (λi=>if i=j then .slice (some ⟨f,a,none⟩) n g else V i) Z (λi P=>by
     rw[a1]at P;rw[k8]
     by_cases M:i=j
     .subst M;rw[if_pos rfl,if_pos (by omega),if_pos rfl]
     .rw [if_neg (by omega),if_neg M]
      exact hV i P) (λi x d=>by
     have P:i<3:=by rw[<- a1];exact(qA.1 d).1
     unfold up at d;rw[q9]at d
     by_cases M:i=j
     .subst M;rw[kG,if_pos rfl,if_pos (by omega),c7]at d
      cases d;refine⟨λx=>x=f,?_,λy S=>by rw[S];exact(G 0 f (by omega) D).1⟩
      have hl:(tk R0 (n:Int)).length=n:=by simp[tk];omega
      have:=zIu (o:=false) (w:=I.setCell ⟨E,t+i,none⟩ (.slice (some ⟨f,a,none⟩) n g)) (b:=f) (off:=a) (cap:=g) (arr:=T) (e:=e1) ((ho f a5).trans ((h4.keep f a6.2 U).trans c4)) (l:=tk R0 (n:Int)) (by omega) (by omega) a9 (λq z hq=>by
       unfold tk at hq;rw[jJ]at hq;split at hq
       .exact W q z hq
       .cases hq)
      rw[hl] at this;rw[if_pos rfl];exact this
     .rw [kG,if_neg (by omega)]at d
      rw[if_neg M];exact⟨Kc i,(b2 i x (λb _ K hn c3=>(ho b c3).trans (h4.keep b K hn)) P d).1,λy S=>(G i y P S).1⟩)
    rw[a1] at this;exact this
   have Y:Cw L blk u (zio c) X.drew:=B.drew;obtain⟨e8,e7⟩:=a7 (F.trans Y) rfl;have d2:=Q Y
   go_region_with (first
    |(go_at_call_of 106 (Value.int IntKind.i64 3);refine(zte (c:=zio c) (n:=3) Y.cur e8 e7 J).mono ?_;rw[a0];rintro e w3 ⟨rfl,H⟩;have H:Cw X.drew blk u (ztk c) w3:=H;have C:=Y.trans H;have d3:=Q C;obtain⟨g3,f4⟩:=a7 (F.trans C) rfl)
    |(go_at_call_of 106 (Value.int IntKind.i64 4);refine(zte (c:=ztk c) (n:=4) C.cur g3 f4 b4).mono ?_;rw[c9];rintro e I ⟨rfl,b8⟩;have b8:Cw w3 blk u (zZM c) I:=b8;have b9:=C.trans b8;have d4:=Q b9;obtain⟨d5,d6⟩:=b7 b9))
   (all_goals go_wp2);(all_goals go_ret);all_goals exact d8 b9
 .have h0:ieq k 0=false:=by assumption
  have h1:ieq k 1=true:=by assumption
  rw[h0,h1,cF,cT]at hE;cases c5:zbr (zio c) [-1,100] with
  |false=>rw[c5]at hE;cases hE
  |true=>
   rw[c5,cT]at hE;obtain⟨R1,a4⟩:∃R1,(ze8 c)[1]?=some R1:=⟨_,qB (by omega)⟩;have e3:R1.length=4:=hM.2 R1 (qJ a4);obtain⟨f,a,g,T,e1,e4,c4,c6,a9,D,W⟩:=zU6 (c1 1 R1 a4) e3;have a6:=m f (G 1 f (by omega) D).1;have U:f≠blk:=(by omega);have a5:f≠E:=(G 1 f (by omega) D).2;have R:∀{p:World} {O:Cur},Cw L blk u O p->p.cell? ⟨E,t+1,none⟩=some (.slice (some ⟨f,a,none⟩) 4 g):=λh=>(by have:=hV 1 (by omega);rw[e4] at this;rw[cell_of_block<|cellAt h];exact this);have a2:∀{p:World} {O:Cur},Cw L blk u O p->p.heap[f]?=some (.cells T e1 (0,0)):=λh=>(h.keep f a6.2 U).trans c4;have b6:∀{p:World} {O:Cur},Cw L blk u O p->p.cell? ⟨f,a+2,none⟩=some (.int .i64 R1[2])/\p.frozen? ⟨f,a+2,none⟩=false:=λh=>by rw[cell_of_block<|a2 h];exact⟨W 2 _<|qB (by omega),zvI<|a2 h⟩
   have Y:Cw L blk u (zio c) X.drew:=B.drew;have d2:=R Y;have d9:∀{I:World},Cw L blk u (zZN c) I->∃c2 l v Kr,r=AV.agg (zb1 c2)::[aS (.sl .int) l]/\Ending.returned (.slice (some ⟨E,t,none⟩) 3 a3) = .returned v/\Cw w blk u c2 (I.setCell ⟨f,a+2,none⟩<|.int .i64<|zuy c)/\Rep false (I.setCell ⟨f,a+2,none⟩<|.int .i64<|zuy c) v (.s (.sl .int) l) Kr/\
    (∀x,Kr x->w.heap.size<=x/\x<(I.setCell ⟨f,a+2,none⟩<|.int .i64<|zuy c).heap.size):=by
    intro I h4;have hz:=h4.size;have ho:∀b,b≠f->(I.setCell ⟨f,a+2,none⟩<|.int .i64<|zuy c).heap[b]?=I.heap[b]?:=λb K=>heap_setCell_other I _ b _ K;have d0:=heap_setCell_same I f (a+2) T e1 (.int .i64<|zuy c) (a2 h4);have A:=F.trans h4;refine⟨_,_,_,K1,(Option.some.inj hE).symm,rfl,⟨A.os,A.tape,A.output,by rw[World.size_setCell];exact A.size,λb K hn=>(ho b (by omega)).trans (A.keep b K hn),by obtain⟨e,he⟩:=A.cur;exact⟨e,(ho blk λh=>U h.symm).trans he⟩⟩,?_,λx d=>⟨(m x d).1,by rw[World.size_setCell];have:=m x d;omega⟩⟩
    have c7:ix (ze8 c) 1 []=R1:=by unfold ix;show (ze8 c).getD 1 []=R1;simp[List.getD,a4]
    have a1:(up (ze8 c) 1<|up (ix (ze8 c) 1 []) 2<|zuy c).length=3:=by rw[ziJ];exact a8
    have:=zIv ((ho E λh=>a5 h.symm).trans (cellAt h4)) (l:=up (ze8 c) 1 (up (ix (ze8 c) 1 []) 2<|zuy c)) (by omega) (cap:=a3) (off:=t) (by omega) d1 V Z (λi P=>hV i (by omega)) (λi x d=>by
     have P:i<3:=by rw[<- a1];exact(qA.1 d).1
     unfold up at d;rw[q9]at d
     by_cases M:i=1
     .subst M;rw[show (1:Int).toNat=1 from rfl,if_pos rfl,if_pos (by omega),c7]at d
      cases d;refine⟨λx=>x=f,?_,λy S=>by rw[S];exact(G 1 f (by omega) D).1⟩
      have hl:(List.set R1 (2:Int).toNat<|zuy c).length=4:=by simp;omega
      have:=zIu (o:=false) (w:=I.setCell ⟨f,a+2,none⟩ (.int .i64<|zuy c)) (b:=f) (off:=a) (cap:=g) d0 (l:=List.set R1 (2:Int).toNat (zuy c)) (by omega) (by omega) (by simpa using a9) (λq z hq=>by
       rw[q9]at hq;rw[k8]
       by_cases f9:q=2
       .subst f9;rw[show (2:Int).toNat=2 from rfl,if_pos rfl,if_pos (by omega)]at hq
        cases hq;rw[if_pos rfl,if_pos (by omega)]
       .rw [show (2:Int).toNat=2 from rfl,if_neg (by omega)]at hq
        rw[if_neg (by omega)]
        exact W q z hq)
      rw[hl] at this;rw[e4];exact this
     .rw [show (1:Int).toNat=1 from rfl,if_neg (by omega)]at d
      refine⟨Kc i,(b2 i x (λb f6 K hn g7=>?_) P d).1,λy S=>(G i y P S).1⟩;exact(ho b λe=>M (e9 i 1 b P (by omega) f6 (by rw[e];exact D))).trans (h4.keep b K hn))
    rw[a1] at this;exact this
   have hA:Cw L blk u (zio c) (X.alloc<|Obj.cells #[Value.int .i64<|-1,Value.int .i64 100] 3).drew:=(B.alloc B.lt _).drew;obtain⟨g4,f5⟩:=a7 (F.trans hA) rfl;have dA:=R hA;have g5:Rep false (X.alloc<|Obj.cells #[Value.int .i64<|-1,Value.int .i64 100] 3).drew (.slice (some ⟨X.heap.size,0,none⟩) 2 2) (.s .int [-1,100]) (λx=>x=X.heap.size):=by
    have hh:(X.alloc<|Obj.cells #[Value.int .i64<|-1,Value.int .i64 100] 3).drew.heap[X.heap.size]?=some (.cells #[Value.int .i64<|-1,Value.int .i64 100] 3 (0,0)):=heap_alloc_new X _;exact zIu (o:=false) hh (l:=[-1,100]) (cap:=2) (off:=0) (by decide) (by decide) (by decide) (λi x d=>by
     match i,d with
     | 0,d=>cases d;rfl
     | 1,d=>cases d;rfl
     |i+2,d=>simp at d)
   go_region_with (first
    |(go_at_call_of 144 (Value.slice (some ⟨X.heap.size,0,none⟩) 2 2);refine(z2R (c:=zio c) (l:=[-1,100]) hA.cur g4 f5 c5 g5 (λx d=>by rw[d];exact⟨by simp,Nat.ne_of_gt B.lt⟩)).mono ?_;rintro e w3 ⟨rfl,H⟩;have H:Cw (X.alloc<|Obj.cells #[Value.int .i64<|-1,Value.int .i64 100] 3).drew blk u (zZN c) w3:=H;have C:=hA.trans H;have d3:=R C;obtain⟨d4,d5⟩:=b6 C))
   (all_goals go_wp2);(all_goals go_ret);all_goals exact d9 C
 .have h0:ieq k 0=false:=by assumption
  have h1:ieq k 1=false:=by assumption
  have h2:ieq k 2=true:=by assumption
  rw[h0,h1,h2,cF,cF,cT]at hE;cases J:zB (zio c) 3 with
  |false=>rw[J]at hE;cases hE
  |true=>
   rw[J,cT]at hE;have hj:=(zij J).2.2 (by omega);obtain⟨j,a0⟩:=uT hj.1;have c8:zZO c=(j:Int):=a0;rw[c8]at hE;refine(zte B.cur g2 f3 J).mono ?_;rw[a0];rintro e w3 ⟨rfl,H⟩;have H:Cw X blk u (ztk c) w3:=H;go_wp2;go_ret;have e6:j<3:=(by omega);have f7:(tk (ze8 c) (j:Int)).length=j:=(by simp[tk];omega);have C:=B.trans H;refine⟨_,_,_,K1,(Option.some.inj hE).symm,rfl,F.trans C,?_,λx d=>⟨(m x d).1,by have:=m x d;have:=C.size;omega⟩⟩
   have:=zIv (cellAt C) (l:=tk (ze8 c) (j:Int)) (by omega) (cap:=a3) (off:=t) (by omega) d1 V Z (λi P=>hV i (by omega)) (λi x d=>by
    have P:i<(tk (ze8 c) (j:Int)).length:=(qA.1 d).1;have g6:(ze8 c)[i]?=some x:=by unfold tk at d;rw[jJ]at d;split at d;{exact d};{cases d}
    exact⟨Kc i,(b2 i x (λb _ K hn _=>C.keep b K hn) (by omega) g6).1,λy S=>(G i y (by omega) S).1⟩)
   rw[f7] at this;exact this
 .have h0:ieq k 0=false:=by assumption
  have h1:ieq k 1=false:=by assumption
  have h2:ieq k 2=false:=by assumption
  rw[h0,h1,h2,cF,cF,cF]at hE
  go_ret
  exact⟨_,_,_,K1,(Option.some.inj hE).symm,rfl,F.trans B,(b3.frame λx d=>B.keep x (m x d).2 (by have:=m x d;omega)).ro,λx d=>⟨(m x d).1,by have:=m x d;omega⟩⟩
theorem zTN {c:Cur}(h:zbe c):zpU c=true:=by
 refine z0h c ⟨0,?_⟩;unfold zoA;have t:=zba7 h (a0:=3) (by omega) (by omega);have y:zbe (zzE c):=zbS h (z0k _ _);have k:zbe (zio c):=zbS h (zG _ _);have z:zbe (ztk c):=zbS h (zG _ _);have p:=(zzS t).2.2 (by omega) (by omega);have A:(ze8 c).length=3:=(by have:=p.1;unfold ln at this;unfold ze8;omega);have f:∀r∈ze8 c,r.length<=4:=λr f=>kY (p.2 r f);have u:∀n,(ix (ze8 c) n []).length<=4:=(by intro n;unfold ix List.getD;cases e:(ze8 c)[n.toNat]? with|none=>simp|some r=>exact f r (qJ e));have g:∀(n:Int) (r:List Int),r.length<=4->∀q∈up (ze8 c) n r,q.length<=4:=by intro n r j q e;rcases qX e with e|rfl;{exact f q e};{exact j}
 have d:∀(s:Cur) (l:List (List Int)),s.b=c.b->0<=s.i->l.length<=3->(∀r∈l,r.length<=4)->Ends (λa=>∃s m,a=(AV.agg (zb1 s)::[aS (.sl .int) m])/\(s.b=c.b/\0<=s.i)/\(m.length<=3/\∀r∈m,r.length<=4)) (some (AV.agg (zb1 s)::[aS (.sl .int) l])):=
  λs l v w x j=>⟨_,rfl,s,l,rfl,⟨v,w⟩,x,j⟩
 exact zF t (zF (zbz y 8) (zbE (λ_=>zF (zbz k 3) (zF (zbz z 4) (d _ _ rfl (zG _ _) (by rw[ziJ];omega) (g _ _<|qT (zC9 _ _)<|u _))))
  (λ_=>zbE (λ_=>zF (zfh k (by simp)) (d _ _ rfl (zb3 _ _) (by rw[ziJ];omega) (g _ _ (by rw[ziJ];exact u _)))) λ_=>zbE (λ_=>zF (zbz k 3) (d _ _ rfl (zG _ _) (qT (zC9 _ _) (by omega)) λr e=>f r (jT e))) λ_=>d _ _ rfl (zG _ _) (by omega) f)))
theorem zNN:zbV Tryz.prog 145 [false,true,true] zsG:=by
 refine⟨zje (by kernel_rfl),?_⟩;intro w blk d e cs K T xs Ka U rs D P a4 k A X n W g;unfold zsG rP0 at g;obtain⟨⟨p,q,r⟩,rfl,g⟩:=z2M g;obtain⟨rfl,R,rfl,rfl⟩:=zvU g;dsimp only at R ⊢;have hs:d.size=3:=P;have M:xs=[]:=List.eq_nil_of_length_eq_zero n.1;subst M;obtain⟨N,hE⟩:=(zLU R).1;have v1:=(k 1 _ (d[1]'(by omega)) rfl (jI _)).int_inv;have v2:=(k 2 _ (d[2]'(by omega)) rfl (jI _)).int_inv
 have m:d = #[d[0]'(by omega),.int .i64 q,.int .i64 r]:=by
  apply Array.ext;{exact hs}
  .intro i E hi2
   match i,E with
   | 0,_=>rfl
   | 1,_=>exact v1
   | 2,_=>exact v2
   |i+3,h=>omega
 have hu:=k 0 _ (d[0]'(by omega)) rfl (jI _);have f:Rep false w (d[0]'(by omega)) (.s .u8 p) (K 0):=hu;generalize d[0]'(by omega)=u at m f;subst m;refine(zWM (c:=⟨p,q,r⟩) (u:=u) (K0:=K 0) N ⟨e,D⟩ f (λx n=>A 0 x (show 0<3 by decide) n) hE).mono ?_;rintro e2 w' ⟨z,l,v,S,hr,rfl,y,Y,t⟩;have B:AV.agg (zb1<|ziP ⟨p,q,r⟩)::[aS (.sl .int)<|zqS ⟨p,q,r⟩]=AV.agg (zb1 z)::[aS (.sl .int) l]:=hr;simp only[List.cons.injEq,AV.agg.injEq,AV.one.injEq,and_true]at B;obtain⟨C,I⟩:=B;have I:zqS ⟨p,q,r⟩=l:=(by cases I;rfl);subst I;have O:ziP ⟨p,q,r⟩=z:=(by have C:=C;simp only[zb1,List.cons.injEq,CV.s.injEq,CV.i.injEq,true_and,and_true,heq_eq_eq]at C;obtain⟨F,G,H⟩:=C;generalize ziP ⟨p,q,r⟩=s at F G H;obtain⟨a1,a2,a3⟩:=s;obtain⟨b1,b2,b3⟩:=z;simp only at F G H;rw[F,G,H]);rw[O];obtain⟨V,J⟩:=y.cur;refine⟨y.os,y.tape,y.output,y.size,λb D hn _=>y.keep b D hn,#[u,.int .i64 z.i,.int .i64 z.h],V,λ_ _=>False,[v],λ_=>S,J,rfl,rfl,?_,⟨rfl,λi Q x a n=>?_⟩,rfl,λj x _ h=>h.elim,λi x E L=>⟨(t x L).2,?_,.inr (t x L).1⟩,λi j x _ _ _ h=>h.elim,?_,λi j x _ _ h=>h.elim⟩
 .intro j Q u' a f
  match j,a,f with
  | 0,a,f=>cases a;exact⟨λh=>by simp[zbd]at h,λ_=>f⟩
  | 1,a,f=>cases a;cases f;rfl
  | 2,a,f=>cases a;cases f;rfl
  |j+3,a,f=>simp[zb1]at a
 .match i,a,n with
  | 0,a,n=>cases a;cases n;exact Y
  |i+1,a,n=>simp at n
 {have:=(qO.1 D).1;have:=(t x L).1;omega};{intro i j Q x E ho Z a0 _;have h1:i<1:=(qA.1 E).1;have h2:j<1:=Z;omega}
def z7P:zcU:=[(145,[false,true,true],zsG)]++z7O
theorem zUV:zb5 z7P:=zcp z5n (by
 intro x a;simp only[qG,qN,or_false]at a;rcases a with rfl
 .exact zNN)
end
def zbaX:zbb:=[(347,zmt),(261,zjI)]++z6I
theorem zG1:zS zbaX:=zi zn0 (zi zut zeG)
theorem zD3 {g:Type}{c e:Cur}(h:zbe c)(j:0<=e.i){P:g->Prop}{q:Int}(A:0<q)(M:q<=1000){fc:Cur->Bool}{fs:Cur->Cur}{fv:Cur->g}(E:∀{c:Cur},zbe c->fc c=true)(H:∀c,0<=(fs c).i)(hg:∀{c:Cur},zbe c->P (fv c)){G:Ans->Prop}{l0:List g}{z:Nat}(O:l0.length<=z)(I:z<=1000)(m:∀x∈l0,P x){p:Type}(S:Nat->Int×Int×Int×List g->p){F:(p->OA)->p->OA}(D:∀rec t i k l,∃r,F rec (S 0 (t,i,k,l))=(bif zB ⟨c.b,i,k⟩ q then (bif ilt t (zn ⟨c.b,i,k⟩ q) then (bif fc { zf ⟨c.b,i,k⟩ q with b:=c.b } then (bif few (ln (ap l [fv { zf ⟨c.b,i,k⟩ q with b:=c.b }])) then
        rec (S 0 (zM .i64 t 1,(fs {zf ⟨c.b,i,k⟩ q with b:=c.b}).i,(fs {zf ⟨c.b,i,k⟩ q with b:=c.b}).h,ap l [fv {zf ⟨c.b,i,k⟩ q with b:=c.b}])) else none) else none) else some r) else none)/\(ln l<=z+q->(∀x∈l,P x)->G r)):Ends G (iter 1002 F (S 0 (0,e.i,e.h,l0))):=by
 refine zjm (fun n s=>∃t i k l,s=S 0 (t,i,k,l)/\t+(n:Int)=1000/\0<=t/\t<=q/\0<=i/\(∀x∈l,P x)/\ln l<=z+t) ?_ 1002 1000 _ ⟨0,e.i,e.h,l0,rfl,rfl,kB 0,by omega,j,m,by unfold ln;omega⟩ (by omega)
 rintro n s rec ⟨t,i,k,l,rfl,J,B,K,C,u,L⟩ f
 obtain⟨r,hF1,hF2⟩:=D rec t i k l;rw[hF1];have a:zbe ⟨c.b,i,k⟩:=zbS h C;have d:=zfw a A;have v:zbe {zf ⟨c.b,i,k⟩ q with b:=c.b}:=zbS h (zG _ _);refine zF (zbz a _) (zbE (fun w=>?_) (fun w=>?_))
 .have hlt:t<zn ⟨c.b,i,k⟩ q:=qD w;have N:=zh8 (y:=1) B (by omega) (by omega) (by omega)
  refine zF (E v) (zF (zjo (by rw[zhd];omega)) (f (n-1) _ (by omega) ⟨_,_,_,_,rfl,by omega,by omega,by omega,H _,?_,by rw[zhd];omega⟩))
  intro x d;rcases jH.1 d with d|d
  .exact u x d
  .rw [qF.1 d];exact hg v
 .exact zuh (hF2 (by omega) u)
theorem zbai {c d:Cur}(h:zbe c)(f:0<=d.i){m q x:Int}(t:0<q)(g:0<=m)(D:m+q<=1000){G:Ans->Prop}{l0:List Int}(B:ln l0<=m+q){j:Type}(S:Nat->Int×Int×List Int->j){F:(j->OA)->j->OA}(w:∀rec i k l,∃r,F rec (S 0 (i,k,l))=(bif zB ⟨c.b,i,k⟩ q then (bif ilt (ln l) (zM .i64 m (zn ⟨c.b,i,k⟩ q)) then (bif few (ln (ap l [x])) then
        rec (S 0 ((zf ⟨c.b,i,k⟩ q).i,(zf ⟨c.b,i,k⟩ q).h,ap l [x])) else none) else some r) else none)/\(ln l<=m+q->G r)):Ends G (iter 1002 F (S 0 (d.i,d.h,l0))):=by
 refine zjm (fun n s=>∃i k l,s=S 0 (i,k,l)/\ln l+(n:Int)=1000/\0<=i/\ln l<=m+q) ?_ 1002 (1000-ln l0).toNat _ ⟨d.i,d.h,l0,rfl,by unfold ln at *;omega,f,B⟩ (by unfold ln at *;omega)
 rintro n s rec ⟨i,k,l,rfl,C,u,v⟩ e
 obtain⟨r,hF1,hF2⟩:=w rec i k l;rw[hF1];have a:zbe ⟨c.b,i,k⟩:=zbS h u;have A:=zfw a t;have z:=zh8 (x:=m) (y:=zn ⟨c.b,i,k⟩ q) g (by omega) A.1 (by omega)
 refine zF (zbz a _) (zbE (fun p=>?_) (fun p=>?_))
 .have hlt:ln l<zM .i64 m (zn ⟨c.b,i,k⟩ q):=qD p;rw[z]at hlt;exact zF (zjo (by rw[zhd];omega)) (e (n-1) _ (by unfold ln at *;omega) ⟨_,_,_,rfl,by rw[zhd];omega,zG _ _,by rw[zhd];omega⟩)
 .exact zuh (hF2 v)
def GuS (g:Guest):Prop:=g.Prog.length<=13/\g.Written.length<=4/\g.Live.length<=4/\g.Seen.length<=50
theorem zDO {c:Cur}(h:zbe c):(zdP c 4 8).length<=4:=by have:=(z9E h (n:=4) (m:=8) (by omega) (by omega) (by omega) (by omega)).1;unfold ln at this;omega
def zt2 (N:Nat)(c:Cur)  : OA :=
 let C:=({ (zbc c) with b:=c.b}:Cur);let v:=zdP C 4 8;let d:=zcC<|zb9 c;let y9:=({ (zJ C 4 8) with b:=c.b}:Cur);let x:=zdP y9 4 8;let y2:=({ (zJ y9 4 8) with b:=c.b}:Cur);let w:=zn y2 100;let B:=({ (zf y2 100) with b:=c.b}:Cur);let y:=zn B 4;let y0:=({ (zf B 4) with b:=c.b}:Cur);let I:=({ (zcn y0) with b:=c.b}:Cur);let e:=zcI y0;let A:=({ (zT I 3) with b:=c.b}:Cur);let H:=({ (zf A 256) with b:=c.b}:Cur);let r:=({ (zT A 4) with b:=c.b}:Cur);let u:=({ (zfV r) with b:=c.b}:Cur);let q:=({ (zT H 4) with b:=c.b}:Cur);let t:=({ (zfV q) with b:=c.b}:Cur); (oN (zhU c)<|oN (zjL<|zb9 c)<|oN (zik C 4 8)<|oN (zik y9 4 8)<|oN (zB y2 100)<|oN (zB B 4)<|oN (zkr y0)<|oN (zc7 I 3)<|cond (zdh I 3) (oN (zB A 256)<|oN (zc7 H 4)<|cond (zdh H 4) (oN (zi6 q)<|oN (zc7 t 12)<|iter (σ:=(Int×Int×Int×Int×Int×Int×Int×Bool×Int×Int×Int×Bool×Int×Bool×Int×Int×Int×Int×Bool×Int×Int×Int×Bool×Int×Bool×(List Int)×lI×lS×lS×(List Int)×lI×lS×lS×(List Int)×Unit)) N (λz a=>let d6:=a.2.2.2.2.2.2.2.2.2.2.2.2.2.2.1;let d2:=a.2.2.2.2.2.2.2.2.2.2.2.2.2.2.2.1;let c8:=a.2.2.2.2.2.2.2.2.2.2.2.2.2.2.2.2.1;let c4:=a.2.2.2.2.2.2.2.2.2.2.2.2.2.2.2.2.2.1;let c0:=a.2.2.2.2.2.2.2.2.2.2.2.2.2.2.2.2.2.2.1;let b6:=a.2.2.2.2.2.2.2.2.2.2.2.2.2.2.2.2.2.2.2.1;let b2:=a.2.2.2.2.2.2.2.2.2.2.2.2.2.2.2.2.2.2.2.2.1;let a8:=a.2.2.2.2.2.2.2.2.2.2.2.2.2.2.2.2.2.2.2.2.2.1;let a4:=a.2.2.2.2.2.2.2.2.2.2.2.2.2.2.2.2.2.2.2.2.2.2.1;let a0:=a.2.2.2.2.2.2.2.2.2.2.2.2.2.2.2.2.2.2.2.2.2.2.2.1;let W:=a.2.2.2.2.2.2.2.2.2.2.2.2.2.2.2.2.2.2.2.2.2.2.2.2.1;let S:=a.2.2.2.2.2.2.2.2.2.2.2.2.2.2.2.2.2.2.2.2.2.2.2.2.2.2.2.2.2.2.1;let O:=a.2.2.2.2.2.2.2.2.2.2.2.2.2.2.2.2.2.2.2.2.2.2.2.2.2.2.2.2.2.2.2.1;let J:=a.2.2.2.2.2.2.2.2.2.2.2.2.2.2.2.2.2.2.2.2.2.2.2.2.2.2.2.2.2.2.2.2.1;let D:=a.2.2.2.2.2.2.2.2.2.2.2.2.2.2.2.2.2.2.2.2.2.2.2.2.2.2.2.2.2.2.2.2.2.1;let y4:=a.2.2.2.2.2.2.2.2.2.2.2.2.2.2.2.2.2.2.2.2.2.2.2.2.2.1;let l:=(⟨y4,a.2.1,a.2.2.1⟩:Cur);let f:=({ (zf l 4) with b:=y4}:Cur); (oN (zB l 4)<|cond (ilt a.1<|zn l 4) (oN (zB f 100)<|oN (few<|ln<|ap D [zn f 100])<|z (zM .i64 a.1 1,(zf f 100).i,(zf f 100).h,a.2.2.2.1,a.2.2.2.2.1,a.2.2.2.2.2.1,a.2.2.2.2.2.2.1,a.2.2.2.2.2.2.2.1,a.2.2.2.2.2.2.2.2.1,a.2.2.2.2.2.2.2.2.2.1,a.2.2.2.2.2.2.2.2.2.2.1,a.2.2.2.2.2.2.2.2.2.2.2.1,a.2.2.2.2.2.2.2.2.2.2.2.2.1,a.2.2.2.2.2.2.2.2.2.2.2.2.2.1,d6,d2,c8,c4,c0,b6,b2,a8,a4,a0,W,y4,a.2.2.2.2.2.2.2.2.2.2.2.2.2.2.2.2.2.2.2.2.2.2.2.2.2.2.1,a.2.2.2.2.2.2.2.2.2.2.2.2.2.2.2.2.2.2.2.2.2.2.2.2.2.2.2.1,a.2.2.2.2.2.2.2.2.2.2.2.2.2.2.2.2.2.2.2.2.2.2.2.2.2.2.2.2.1,a.2.2.2.2.2.2.2.2.2.2.2.2.2.2.2.2.2.2.2.2.2.2.2.2.2.2.2.2.2.1,S,O,J,ap D [zn f 100],()))<|some [.agg [.s .u8 y4,.i .i64 (zf l 4).i,.i .i64 (zf l 4).h],aT .guest (⟨S,d6,d2,O,J,⟨c8,c4,c0⟩,b6,⟨b2,a8,a4,a0⟩,W,D⟩:Guest)])) (0,(zT t 12).i,(zT t 12).h,0,0,0,0,false,0,0,0,false,0,false,w,y,e.Traps,e.Post,e.Open,zn A 256,(zcf q).Kind,(zcf q).Page,(zcf q).Write,(zcf q).N,zdh t 12,c.b,[],[],[],[],d.Prog,v,x,d.Seen,()))<|oN (zc7 q 12)<|iter (σ:=(Int×Int×Int×Int×Int×Int×Int×Bool×Int×Int×Int×Bool×Int×Bool×Int×Int×Int×Int×Bool×Int×Int×Int×Bool×Int×Bool×(List Int)×lI×lS×lS×(List Int)×lI×lS×lS×(List Int)×Unit)) N (λz a=>let d7:=a.2.2.2.2.2.2.2.2.2.2.2.2.2.2.1;let d3:=a.2.2.2.2.2.2.2.2.2.2.2.2.2.2.2.1;let c9:=a.2.2.2.2.2.2.2.2.2.2.2.2.2.2.2.2.1;let c5:=a.2.2.2.2.2.2.2.2.2.2.2.2.2.2.2.2.2.1;let c1:=a.2.2.2.2.2.2.2.2.2.2.2.2.2.2.2.2.2.2.1;let b7:=a.2.2.2.2.2.2.2.2.2.2.2.2.2.2.2.2.2.2.2.1;let b3:=a.2.2.2.2.2.2.2.2.2.2.2.2.2.2.2.2.2.2.2.2.1;let a9:=a.2.2.2.2.2.2.2.2.2.2.2.2.2.2.2.2.2.2.2.2.2.1;let a5:=a.2.2.2.2.2.2.2.2.2.2.2.2.2.2.2.2.2.2.2.2.2.2.1;let a1:=a.2.2.2.2.2.2.2.2.2.2.2.2.2.2.2.2.2.2.2.2.2.2.2.1;let X:=a.2.2.2.2.2.2.2.2.2.2.2.2.2.2.2.2.2.2.2.2.2.2.2.2.1;let T:=a.2.2.2.2.2.2.2.2.2.2.2.2.2.2.2.2.2.2.2.2.2.2.2.2.2.2.2.2.2.2.1;let P:=a.2.2.2.2.2.2.2.2.2.2.2.2.2.2.2.2.2.2.2.2.2.2.2.2.2.2.2.2.2.2.2.1;let K:=a.2.2.2.2.2.2.2.2.2.2.2.2.2.2.2.2.2.2.2.2.2.2.2.2.2.2.2.2.2.2.2.2.1;let E:=a.2.2.2.2.2.2.2.2.2.2.2.2.2.2.2.2.2.2.2.2.2.2.2.2.2.2.2.2.2.2.2.2.2.1;let y5:=a.2.2.2.2.2.2.2.2.2.2.2.2.2.2.2.2.2.2.2.2.2.2.2.2.2.1;let m:=(⟨y5,a.2.1,a.2.2.1⟩:Cur);let g:=({ (zf m 4) with b:=y5}:Cur); (oN (zB m 4)<|cond (ilt a.1<|zn m 4) (oN (zB g 100)<|oN (few<|ln<|ap E [zn g 100])<|z (zM .i64 a.1 1,(zf g 100).i,(zf g 100).h,a.2.2.2.1,a.2.2.2.2.1,a.2.2.2.2.2.1,a.2.2.2.2.2.2.1,a.2.2.2.2.2.2.2.1,a.2.2.2.2.2.2.2.2.1,a.2.2.2.2.2.2.2.2.2.1,a.2.2.2.2.2.2.2.2.2.2.1,a.2.2.2.2.2.2.2.2.2.2.2.1,a.2.2.2.2.2.2.2.2.2.2.2.2.1,a.2.2.2.2.2.2.2.2.2.2.2.2.2.1,d7,d3,c9,c5,c1,b7,b3,a9,a5,a1,X,y5,a.2.2.2.2.2.2.2.2.2.2.2.2.2.2.2.2.2.2.2.2.2.2.2.2.2.2.1,a.2.2.2.2.2.2.2.2.2.2.2.2.2.2.2.2.2.2.2.2.2.2.2.2.2.2.2.1,a.2.2.2.2.2.2.2.2.2.2.2.2.2.2.2.2.2.2.2.2.2.2.2.2.2.2.2.2.1,a.2.2.2.2.2.2.2.2.2.2.2.2.2.2.2.2.2.2.2.2.2.2.2.2.2.2.2.2.2.1,T,P,K,ap E [zn g 100],()))<|some [.agg [.s .u8 y5,.i .i64 (zf m 4).i,.i .i64 (zf m 4).h],aT .guest (⟨T,d7,d3,P,K,⟨c9,c5,c1⟩,b7,⟨b3,a9,a5,a1⟩,X,E⟩:Guest)])) (0,(zT q 12).i,(zT q 12).h,0,0,0,0,false,0,0,0,false,0,false,w,y,e.Traps,e.Post,e.Open,zn A 256,d.Exit.Kind,d.Exit.Page,d.Exit.Write,d.Exit.N,zdh q 12,c.b,[],[],[],[],d.Prog,v,x,d.Seen,()))<|oN (zc7 A 4)<|cond (zdh A 4) (oN (zi6 r)<|oN (zc7 u 12)<|iter (σ:=(Int×Int×Int×Int×Int×Int×Int×Bool×Int×Int×Int×Bool×Int×Bool×Int×Int×Int×Int×Bool×Int×Int×Int×Bool×Int×Bool×(List Int)×lI×lS×lS×(List Int)×lI×lS×lS×(List Int)×Unit)) N (λz a=>let d8:=a.2.2.2.2.2.2.2.2.2.2.2.2.2.2.1;let d4:=a.2.2.2.2.2.2.2.2.2.2.2.2.2.2.2.1;let d0:=a.2.2.2.2.2.2.2.2.2.2.2.2.2.2.2.2.1;let c6:=a.2.2.2.2.2.2.2.2.2.2.2.2.2.2.2.2.2.1;let c2:=a.2.2.2.2.2.2.2.2.2.2.2.2.2.2.2.2.2.2.1;let b8:=a.2.2.2.2.2.2.2.2.2.2.2.2.2.2.2.2.2.2.2.1;let b4:=a.2.2.2.2.2.2.2.2.2.2.2.2.2.2.2.2.2.2.2.2.1;let b0:=a.2.2.2.2.2.2.2.2.2.2.2.2.2.2.2.2.2.2.2.2.2.1;let a6:=a.2.2.2.2.2.2.2.2.2.2.2.2.2.2.2.2.2.2.2.2.2.2.1;let a2:=a.2.2.2.2.2.2.2.2.2.2.2.2.2.2.2.2.2.2.2.2.2.2.2.1;let Y:=a.2.2.2.2.2.2.2.2.2.2.2.2.2.2.2.2.2.2.2.2.2.2.2.2.1;let U:=a.2.2.2.2.2.2.2.2.2.2.2.2.2.2.2.2.2.2.2.2.2.2.2.2.2.2.2.2.2.2.1;let Q:=a.2.2.2.2.2.2.2.2.2.2.2.2.2.2.2.2.2.2.2.2.2.2.2.2.2.2.2.2.2.2.2.1;let L:=a.2.2.2.2.2.2.2.2.2.2.2.2.2.2.2.2.2.2.2.2.2.2.2.2.2.2.2.2.2.2.2.2.1;let F:=a.2.2.2.2.2.2.2.2.2.2.2.2.2.2.2.2.2.2.2.2.2.2.2.2.2.2.2.2.2.2.2.2.2.1;let y6:=a.2.2.2.2.2.2.2.2.2.2.2.2.2.2.2.2.2.2.2.2.2.2.2.2.2.1;let n:=(⟨y6,a.2.1,a.2.2.1⟩:Cur);let j:=({ (zf n 4) with b:=y6}:Cur); (oN (zB n 4)<|cond (ilt a.1<|zn n 4) (oN (zB j 100)<|oN (few<|ln<|ap F [zn j 100])<|z (zM .i64 a.1 1,(zf j 100).i,(zf j 100).h,a.2.2.2.1,a.2.2.2.2.1,a.2.2.2.2.2.1,a.2.2.2.2.2.2.1,a.2.2.2.2.2.2.2.1,a.2.2.2.2.2.2.2.2.1,a.2.2.2.2.2.2.2.2.2.1,a.2.2.2.2.2.2.2.2.2.2.1,a.2.2.2.2.2.2.2.2.2.2.2.1,a.2.2.2.2.2.2.2.2.2.2.2.2.1,a.2.2.2.2.2.2.2.2.2.2.2.2.2.1,d8,d4,d0,c6,c2,b8,b4,b0,a6,a2,Y,y6,a.2.2.2.2.2.2.2.2.2.2.2.2.2.2.2.2.2.2.2.2.2.2.2.2.2.2.1,a.2.2.2.2.2.2.2.2.2.2.2.2.2.2.2.2.2.2.2.2.2.2.2.2.2.2.2.1,a.2.2.2.2.2.2.2.2.2.2.2.2.2.2.2.2.2.2.2.2.2.2.2.2.2.2.2.2.1,a.2.2.2.2.2.2.2.2.2.2.2.2.2.2.2.2.2.2.2.2.2.2.2.2.2.2.2.2.2.1,U,Q,L,ap F [zn j 100],()))<|some [.agg [.s .u8 y6,.i .i64 (zf n 4).i,.i .i64 (zf n 4).h],aT .guest (⟨U,d8,d4,Q,L,⟨d0,c6,c2⟩,b8,⟨b4,b0,a6,a2⟩,Y,F⟩:Guest)])) (0,(zT u 12).i,(zT u 12).h,0,0,0,0,false,0,0,0,false,0,false,w,y,e.Traps,e.Post,e.Open,d.Pending,(zcf r).Kind,(zcf r).Page,(zcf r).Write,(zcf r).N,zdh u 12,c.b,[],[],[],[],d.Prog,v,x,d.Seen,()))<|oN (zc7 r 12)<|iter (σ:=(Int×Int×Int×Int×Int×Int×Int×Bool×Int×Int×Int×Bool×Int×Bool×Int×Int×Int×Int×Bool×Int×Int×Int×Bool×Int×Bool×(List Int)×lI×lS×lS×(List Int)×lI×lS×lS×(List Int)×Unit)) N (λz a=>let d9:=a.2.2.2.2.2.2.2.2.2.2.2.2.2.2.1;let d5:=a.2.2.2.2.2.2.2.2.2.2.2.2.2.2.2.1;let d1:=a.2.2.2.2.2.2.2.2.2.2.2.2.2.2.2.2.1;let c7:=a.2.2.2.2.2.2.2.2.2.2.2.2.2.2.2.2.2.1;let c3:=a.2.2.2.2.2.2.2.2.2.2.2.2.2.2.2.2.2.2.1;let b9:=a.2.2.2.2.2.2.2.2.2.2.2.2.2.2.2.2.2.2.2.1;let b5:=a.2.2.2.2.2.2.2.2.2.2.2.2.2.2.2.2.2.2.2.2.1;let b1:=a.2.2.2.2.2.2.2.2.2.2.2.2.2.2.2.2.2.2.2.2.2.1;let a7:=a.2.2.2.2.2.2.2.2.2.2.2.2.2.2.2.2.2.2.2.2.2.2.1;let a3:=a.2.2.2.2.2.2.2.2.2.2.2.2.2.2.2.2.2.2.2.2.2.2.2.1;let Z:=a.2.2.2.2.2.2.2.2.2.2.2.2.2.2.2.2.2.2.2.2.2.2.2.2.1;let V:=a.2.2.2.2.2.2.2.2.2.2.2.2.2.2.2.2.2.2.2.2.2.2.2.2.2.2.2.2.2.2.1;let R:=a.2.2.2.2.2.2.2.2.2.2.2.2.2.2.2.2.2.2.2.2.2.2.2.2.2.2.2.2.2.2.2.1;let M:=a.2.2.2.2.2.2.2.2.2.2.2.2.2.2.2.2.2.2.2.2.2.2.2.2.2.2.2.2.2.2.2.2.1;let G:=a.2.2.2.2.2.2.2.2.2.2.2.2.2.2.2.2.2.2.2.2.2.2.2.2.2.2.2.2.2.2.2.2.2.1;let y7:=a.2.2.2.2.2.2.2.2.2.2.2.2.2.2.2.2.2.2.2.2.2.2.2.2.2.1;let p:=(⟨y7,a.2.1,a.2.2.1⟩:Cur);let k:=({ (zf p 4) with b:=y7}:Cur); (oN (zB p 4)<|cond (ilt a.1<|zn p 4) (oN (zB k 100)<|oN (few<|ln<|ap G [zn k 100])<|z (zM .i64 a.1 1,(zf k 100).i,(zf k 100).h,a.2.2.2.1,a.2.2.2.2.1,a.2.2.2.2.2.1,a.2.2.2.2.2.2.1,a.2.2.2.2.2.2.2.1,a.2.2.2.2.2.2.2.2.1,a.2.2.2.2.2.2.2.2.2.1,a.2.2.2.2.2.2.2.2.2.2.1,a.2.2.2.2.2.2.2.2.2.2.2.1,a.2.2.2.2.2.2.2.2.2.2.2.2.1,a.2.2.2.2.2.2.2.2.2.2.2.2.2.1,d9,d5,d1,c7,c3,b9,b5,b1,a7,a3,Z,y7,a.2.2.2.2.2.2.2.2.2.2.2.2.2.2.2.2.2.2.2.2.2.2.2.2.2.2.1,a.2.2.2.2.2.2.2.2.2.2.2.2.2.2.2.2.2.2.2.2.2.2.2.2.2.2.2.1,a.2.2.2.2.2.2.2.2.2.2.2.2.2.2.2.2.2.2.2.2.2.2.2.2.2.2.2.2.1,a.2.2.2.2.2.2.2.2.2.2.2.2.2.2.2.2.2.2.2.2.2.2.2.2.2.2.2.2.2.1,V,R,M,ap G [zn k 100],()))<|some [.agg [.s .u8 y7,.i .i64 (zf p 4).i,.i .i64 (zf p 4).h],aT .guest (⟨V,d9,d5,R,M,⟨d1,c7,c3⟩,b9,⟨b5,b1,a7,a3⟩,Z,G⟩:Guest)])) (0,(zT r 12).i,(zT r 12).h,0,0,0,0,false,0,0,0,false,0,false,w,y,e.Traps,e.Post,e.Open,d.Pending,d.Exit.Kind,d.Exit.Page,d.Exit.Write,d.Exit.N,zdh r 12,c.b,[],[],[],[],d.Prog,v,x,d.Seen,()))
def zPb:=zx [(222,0,{n:=50,tm:=[(0,.lp 0 0),(2,.lp 1 0),(3,.lp 2 0),(4,ti)],lo:=[(0,[.sl 0 [],ti,ti]),(1,[.sl 1 [],ti,ti,.sl 2 [],.sl 3 [],ti,ti,.b,ti,ti,ti,.b,ti,.b,.sl 4 []]),(2,[.sl 5 [],ti,ti,.sl 6 [],.sl 7 [],ti,ti,.b,ti,ti,ti,.b,ti,.b,.sl 8 []])],ro:=[(0,.u8,false),(1,.ins,true),(2,.slot,true),(3,.slot,true),(4,.int,true),(5,.ins,true),(6,.slot,true),(7,.slot,true),(8,.int,true)]})]
def znR (c:Cur)(s:Cur)(a:Guest):Prop:=(∃N,zt2 N c=some (AV.agg (zb1 s)::[aT .guest a]))/\(s.b=c.b/\0<=s.i)/\(GuS a/\a.Seen.length<=4)
def zlN (c:Cur)  : Bool:=wC (znR c)
def zjQ (c:Cur)  : Cur:=wS (znR c)
def zce (c:Cur)  : Guest:=wV (znR c)
theorem zDE {c:Cur}(h:zlN c=true):znR c (zjQ c) (zce c):=wG h
theorem zVm (c:Cur)  : 0<=(zjQ c).i:=wP λh=>h.2.1.2
theorem zVk (c:Cur)(h:∃N,Ends (wE (λa=>aT .guest a) c.b λa=>GuS a/\a.Seen.length<=4)<|zt2 N c):zlN c=true:=wI (λ_ _ h=>h) h
def zv1:zea:=rP0 λc=>(zlN c,zjQ c,[aT .guest<|zce c])
theorem zHV:zbV Tryz.prog 222 [false,true,true] zv1:=hP0 zG1 zZ zUV zq zPb (λ_ h=>(zDE h).1)
theorem zTg {c:Cur}(h:zbe c):zlN c=true:=by
 refine zVk c ⟨1002,?_⟩;unfold zt2 oN;conv=>zeta
 have f:=zDj h;have j:=zIt (zrI f).2.2;have e:zjL (zb9 c)=true:=zbw (by omega);have q:∀{s:Cur},0<=s.i->zbe {s with b:=c.b}:=fun g=>zbS h g;have d:GuS ⟨zb9 c,0,0,[],[],⟨0,0,false⟩,0,⟨0,0,false,0⟩,false,[]⟩:=⟨by dsimp only;omega,by simp,by simp,by simp⟩
 refine zF f (zF e (zF (zyK (q (zi5 _)) (by omega) (by omega) _) (zF (zyK (q (zil _ _ _)) (by omega) (by omega) _) (zF (zbz (q (zil _ _ _)) _) (zF (zbz (q (zG _ _)) _) (zF (zY5 (q (zG _ _))) (zF (zjF (q (zzV _)) _)
  (zbE (fun _=>zF (zbz (q (zcr _ _)) _) (zF (zjF (q (zG _ _)) _) (zbE (fun _=>zF (zTj (q (zcr _ _))) (zF (zjF (q (zxd _)) _) ?_)) (fun _=>zF (zjF (q (zcr _ _)) _) ?_))))
   (fun _=>zF (zjF (q (zcr _ _)) _) (zbE (fun _=>zF (zTj (q (zcr _ _))) (zF (zjF (q (zxd _)) _) ?_)) (fun _=>zF (zjF (q (zcr _ _)) _) ?_)))))))))))
 .exact zD3 h (zcr _ _) (P:=fun _=>True) (q:=4) (by omega) (by omega) (fc:=fun c=>zB c 100) (fs:=fun c=>zf c 100) (fv:=fun c=>zn c 100) (fun h=>zbz h _) (fun c=>zG c _) (fun _=>trivial) (z:=0) (l0:=(zcC (zb9 c)).Seen) (qW 0) (by omega) (by simp) ((fun _ t=>(t.1,t.2.1,t.2.2.1,0,0,0,0,false,0,0,0,false,0,false,(zn ({ (zJ ({ (zJ ({ (zbc c) with b:=c.b }:Cur) 4 8) with b:=c.b }:Cur) 4 8) with b:=c.b }:Cur) 100),(zn ({ (zf ({ (zJ ({ (zJ ({ (zbc c) with b:=c.b }:Cur) 4 8) with b:=c.b }:Cur) 4 8) with b:=c.b }:Cur) 100) with b:=c.b }:Cur) 4),(zcI ({ (zf ({ (zf ({ (zJ ({ (zJ ({ (zbc c) with b:=c.b }:Cur) 4 8) with b:=c.b }:Cur) 4 8) with b:=c.b }:Cur) 100) with b:=c.b }:Cur) 4) with b:=c.b }:Cur)).Traps,(zcI ({ (zf ({ (zf ({ (zJ ({ (zJ ({ (zbc c) with b:=c.b }:Cur) 4 8) with b:=c.b }:Cur) 4 8) with b:=c.b }:Cur) 100) with b:=c.b }:Cur) 4) with b:=c.b }:Cur)).Post,(zcI ({ (zf ({ (zf ({ (zJ ({ (zJ ({ (zbc c) with b:=c.b }:Cur) 4 8) with b:=c.b }:Cur) 4 8) with b:=c.b }:Cur) 100) with b:=c.b }:Cur) 4) with b:=c.b }:Cur)).Open,(zn ({ (zT ({ (zcn ({ (zf ({ (zf ({ (zJ ({ (zJ ({ (zbc c) with b:=c.b }:Cur) 4 8) with b:=c.b }:Cur) 4 8) with b:=c.b }:Cur) 100) with b:=c.b }:Cur) 4) with b:=c.b }:Cur)) with b:=c.b }:Cur) 3) with b:=c.b }:Cur) 256),(zcf ({ (zT ({ (zf ({ (zT ({ (zcn ({ (zf ({ (zf ({ (zJ ({ (zJ ({ (zbc c) with b:=c.b }:Cur) 4 8) with b:=c.b }:Cur) 4 8) with b:=c.b }:Cur) 100) with b:=c.b }:Cur) 4) with b:=c.b }:Cur)) with b:=c.b }:Cur) 3) with b:=c.b }:Cur) 256) with b:=c.b }:Cur) 4) with b:=c.b }:Cur)).Kind,(zcf ({ (zT ({ (zf ({ (zT ({ (zcn ({ (zf ({ (zf ({ (zJ ({ (zJ ({ (zbc c) with b:=c.b }:Cur) 4 8) with b:=c.b }:Cur) 4 8) with b:=c.b }:Cur) 100) with b:=c.b }:Cur) 4) with b:=c.b }:Cur)) with b:=c.b }:Cur) 3) with b:=c.b }:Cur) 256) with b:=c.b }:Cur) 4) with b:=c.b }:Cur)).Page,(zcf ({ (zT ({ (zf ({ (zT ({ (zcn ({ (zf ({ (zf ({ (zJ ({ (zJ ({ (zbc c) with b:=c.b }:Cur) 4 8) with b:=c.b }:Cur) 4 8) with b:=c.b }:Cur) 100) with b:=c.b }:Cur) 4) with b:=c.b }:Cur)) with b:=c.b }:Cur) 3) with b:=c.b }:Cur) 256) with b:=c.b }:Cur) 4) with b:=c.b }:Cur)).Write,(zcf ({ (zT ({ (zf ({ (zT ({ (zcn ({ (zf ({ (zf ({ (zJ ({ (zJ ({ (zbc c) with b:=c.b }:Cur) 4 8) with b:=c.b }:Cur) 4 8) with b:=c.b }:Cur) 100) with b:=c.b }:Cur) 4) with b:=c.b }:Cur)) with b:=c.b }:Cur) 3) with b:=c.b }:Cur) 256) with b:=c.b }:Cur) 4) with b:=c.b }:Cur)).N,(zdh ({ (zfV ({ (zT ({ (zf ({ (zT ({ (zcn ({ (zf ({ (zf ({ (zJ ({ (zJ ({ (zbc c) with b:=c.b }:Cur) 4 8) with b:=c.b }:Cur) 4 8) with b:=c.b }:Cur) 100) with b:=c.b }:Cur) 4) with b:=c.b }:Cur)) with b:=c.b }:Cur) 3) with b:=c.b }:Cur) 256) with b:=c.b }:Cur) 4) with b:=c.b }:Cur)) with b:=c.b }:Cur) 12),c.b,[],[],[],[],(zcC (zb9 c)).Prog,(zdP ({ (zbc c) with b:=c.b }:Cur) 4 8),(zdP ({ (zJ ({ (zbc c) with b:=c.b }:Cur) 4 8) with b:=c.b }:Cur) 4 8),t.2.2.2,())):Nat->Int×Int×Int×List Int->_)
   (fun rec t i k l=>⟨_,rfl,fun a _=>⟨⟨_,_,_⟩,_,rfl,⟨rfl,zG _ _⟩,⟨⟨d.1,zDO (q (zi5 _)),zDO (q (zil _ _ _)),by unfold ln at a;dsimp only;omega⟩,by unfold ln at a;dsimp only;omega⟩⟩⟩)
 .exact zD3 h (zcr _ _) (P:=fun _=>True) (q:=4) (by omega) (by omega) (fc:=fun c=>zB c 100) (fs:=fun c=>zf c 100) (fv:=fun c=>zn c 100) (fun h=>zbz h _) (fun c=>zG c _) (fun _=>trivial) (z:=0) (l0:=(zcC (zb9 c)).Seen) (qW 0) (by omega) (by simp) ((fun _ t=>(t.1,t.2.1,t.2.2.1,0,0,0,0,false,0,0,0,false,0,false,(zn ({ (zJ ({ (zJ ({ (zbc c) with b:=c.b }:Cur) 4 8) with b:=c.b }:Cur) 4 8) with b:=c.b }:Cur) 100),(zn ({ (zf ({ (zJ ({ (zJ ({ (zbc c) with b:=c.b }:Cur) 4 8) with b:=c.b }:Cur) 4 8) with b:=c.b }:Cur) 100) with b:=c.b }:Cur) 4),(zcI ({ (zf ({ (zf ({ (zJ ({ (zJ ({ (zbc c) with b:=c.b }:Cur) 4 8) with b:=c.b }:Cur) 4 8) with b:=c.b }:Cur) 100) with b:=c.b }:Cur) 4) with b:=c.b }:Cur)).Traps,(zcI ({ (zf ({ (zf ({ (zJ ({ (zJ ({ (zbc c) with b:=c.b }:Cur) 4 8) with b:=c.b }:Cur) 4 8) with b:=c.b }:Cur) 100) with b:=c.b }:Cur) 4) with b:=c.b }:Cur)).Post,(zcI ({ (zf ({ (zf ({ (zJ ({ (zJ ({ (zbc c) with b:=c.b }:Cur) 4 8) with b:=c.b }:Cur) 4 8) with b:=c.b }:Cur) 100) with b:=c.b }:Cur) 4) with b:=c.b }:Cur)).Open,(zn ({ (zT ({ (zcn ({ (zf ({ (zf ({ (zJ ({ (zJ ({ (zbc c) with b:=c.b }:Cur) 4 8) with b:=c.b }:Cur) 4 8) with b:=c.b }:Cur) 100) with b:=c.b }:Cur) 4) with b:=c.b }:Cur)) with b:=c.b }:Cur) 3) with b:=c.b }:Cur) 256),(zcC (zb9 c)).Exit.Kind,(zcC (zb9 c)).Exit.Page,(zcC (zb9 c)).Exit.Write,(zcC (zb9 c)).Exit.N,(zdh ({ (zT ({ (zf ({ (zT ({ (zcn ({ (zf ({ (zf ({ (zJ ({ (zJ ({ (zbc c) with b:=c.b }:Cur) 4 8) with b:=c.b }:Cur) 4 8) with b:=c.b }:Cur) 100) with b:=c.b }:Cur) 4) with b:=c.b }:Cur)) with b:=c.b }:Cur) 3) with b:=c.b }:Cur) 256) with b:=c.b }:Cur) 4) with b:=c.b }:Cur) 12),c.b,[],[],[],[],(zcC (zb9 c)).Prog,(zdP ({ (zbc c) with b:=c.b }:Cur) 4 8),(zdP ({ (zJ ({ (zbc c) with b:=c.b }:Cur) 4 8) with b:=c.b }:Cur) 4 8),t.2.2.2,())):Nat->Int×Int×Int×List Int->_)
   (fun rec t i k l=>⟨_,rfl,fun a _=>⟨⟨_,_,_⟩,_,rfl,⟨rfl,zG _ _⟩,⟨⟨d.1,zDO (q (zi5 _)),zDO (q (zil _ _ _)),by unfold ln at a;dsimp only;omega⟩,by unfold ln at a;dsimp only;omega⟩⟩⟩)
 .exact zD3 h (zcr _ _) (P:=fun _=>True) (q:=4) (by omega) (by omega) (fc:=fun c=>zB c 100) (fs:=fun c=>zf c 100) (fv:=fun c=>zn c 100) (fun h=>zbz h _) (fun c=>zG c _) (fun _=>trivial) (z:=0) (l0:=(zcC (zb9 c)).Seen) (qW 0) (by omega) (by simp) ((fun _ t=>(t.1,t.2.1,t.2.2.1,0,0,0,0,false,0,0,0,false,0,false,(zn ({ (zJ ({ (zJ ({ (zbc c) with b:=c.b }:Cur) 4 8) with b:=c.b }:Cur) 4 8) with b:=c.b }:Cur) 100),(zn ({ (zf ({ (zJ ({ (zJ ({ (zbc c) with b:=c.b }:Cur) 4 8) with b:=c.b }:Cur) 4 8) with b:=c.b }:Cur) 100) with b:=c.b }:Cur) 4),(zcI ({ (zf ({ (zf ({ (zJ ({ (zJ ({ (zbc c) with b:=c.b }:Cur) 4 8) with b:=c.b }:Cur) 4 8) with b:=c.b }:Cur) 100) with b:=c.b }:Cur) 4) with b:=c.b }:Cur)).Traps,(zcI ({ (zf ({ (zf ({ (zJ ({ (zJ ({ (zbc c) with b:=c.b }:Cur) 4 8) with b:=c.b }:Cur) 4 8) with b:=c.b }:Cur) 100) with b:=c.b }:Cur) 4) with b:=c.b }:Cur)).Post,(zcI ({ (zf ({ (zf ({ (zJ ({ (zJ ({ (zbc c) with b:=c.b }:Cur) 4 8) with b:=c.b }:Cur) 4 8) with b:=c.b }:Cur) 100) with b:=c.b }:Cur) 4) with b:=c.b }:Cur)).Open,(zcC (zb9 c)).Pending,(zcf ({ (zT ({ (zT ({ (zcn ({ (zf ({ (zf ({ (zJ ({ (zJ ({ (zbc c) with b:=c.b }:Cur) 4 8) with b:=c.b }:Cur) 4 8) with b:=c.b }:Cur) 100) with b:=c.b }:Cur) 4) with b:=c.b }:Cur)) with b:=c.b }:Cur) 3) with b:=c.b }:Cur) 4) with b:=c.b }:Cur)).Kind,(zcf ({ (zT ({ (zT ({ (zcn ({ (zf ({ (zf ({ (zJ ({ (zJ ({ (zbc c) with b:=c.b }:Cur) 4 8) with b:=c.b }:Cur) 4 8) with b:=c.b }:Cur) 100) with b:=c.b }:Cur) 4) with b:=c.b }:Cur)) with b:=c.b }:Cur) 3) with b:=c.b }:Cur) 4) with b:=c.b }:Cur)).Page,(zcf ({ (zT ({ (zT ({ (zcn ({ (zf ({ (zf ({ (zJ ({ (zJ ({ (zbc c) with b:=c.b }:Cur) 4 8) with b:=c.b }:Cur) 4 8) with b:=c.b }:Cur) 100) with b:=c.b }:Cur) 4) with b:=c.b }:Cur)) with b:=c.b }:Cur) 3) with b:=c.b }:Cur) 4) with b:=c.b }:Cur)).Write,(zcf ({ (zT ({ (zT ({ (zcn ({ (zf ({ (zf ({ (zJ ({ (zJ ({ (zbc c) with b:=c.b }:Cur) 4 8) with b:=c.b }:Cur) 4 8) with b:=c.b }:Cur) 100) with b:=c.b }:Cur) 4) with b:=c.b }:Cur)) with b:=c.b }:Cur) 3) with b:=c.b }:Cur) 4) with b:=c.b }:Cur)).N,(zdh ({ (zfV ({ (zT ({ (zT ({ (zcn ({ (zf ({ (zf ({ (zJ ({ (zJ ({ (zbc c) with b:=c.b }:Cur) 4 8) with b:=c.b }:Cur) 4 8) with b:=c.b }:Cur) 100) with b:=c.b }:Cur) 4) with b:=c.b }:Cur)) with b:=c.b }:Cur) 3) with b:=c.b }:Cur) 4) with b:=c.b }:Cur)) with b:=c.b }:Cur) 12),c.b,[],[],[],[],(zcC (zb9 c)).Prog,(zdP ({ (zbc c) with b:=c.b }:Cur) 4 8),(zdP ({ (zJ ({ (zbc c) with b:=c.b }:Cur) 4 8) with b:=c.b }:Cur) 4 8),t.2.2.2,())):Nat->Int×Int×Int×List Int->_)
   (fun rec t i k l=>⟨_,rfl,fun a _=>⟨⟨_,_,_⟩,_,rfl,⟨rfl,zG _ _⟩,⟨⟨d.1,zDO (q (zi5 _)),zDO (q (zil _ _ _)),by unfold ln at a;dsimp only;omega⟩,by unfold ln at a;dsimp only;omega⟩⟩⟩)
 .exact zD3 h (zcr _ _) (P:=fun _=>True) (q:=4) (by omega) (by omega) (fc:=fun c=>zB c 100) (fs:=fun c=>zf c 100) (fv:=fun c=>zn c 100) (fun h=>zbz h _) (fun c=>zG c _) (fun _=>trivial) (z:=0) (l0:=(zcC (zb9 c)).Seen) (qW 0) (by omega) (by simp) ((fun _ t=>(t.1,t.2.1,t.2.2.1,0,0,0,0,false,0,0,0,false,0,false,(zn ({ (zJ ({ (zJ ({ (zbc c) with b:=c.b }:Cur) 4 8) with b:=c.b }:Cur) 4 8) with b:=c.b }:Cur) 100),(zn ({ (zf ({ (zJ ({ (zJ ({ (zbc c) with b:=c.b }:Cur) 4 8) with b:=c.b }:Cur) 4 8) with b:=c.b }:Cur) 100) with b:=c.b }:Cur) 4),(zcI ({ (zf ({ (zf ({ (zJ ({ (zJ ({ (zbc c) with b:=c.b }:Cur) 4 8) with b:=c.b }:Cur) 4 8) with b:=c.b }:Cur) 100) with b:=c.b }:Cur) 4) with b:=c.b }:Cur)).Traps,(zcI ({ (zf ({ (zf ({ (zJ ({ (zJ ({ (zbc c) with b:=c.b }:Cur) 4 8) with b:=c.b }:Cur) 4 8) with b:=c.b }:Cur) 100) with b:=c.b }:Cur) 4) with b:=c.b }:Cur)).Post,(zcI ({ (zf ({ (zf ({ (zJ ({ (zJ ({ (zbc c) with b:=c.b }:Cur) 4 8) with b:=c.b }:Cur) 4 8) with b:=c.b }:Cur) 100) with b:=c.b }:Cur) 4) with b:=c.b }:Cur)).Open,(zcC (zb9 c)).Pending,(zcC (zb9 c)).Exit.Kind,(zcC (zb9 c)).Exit.Page,(zcC (zb9 c)).Exit.Write,(zcC (zb9 c)).Exit.N,(zdh ({ (zT ({ (zT ({ (zcn ({ (zf ({ (zf ({ (zJ ({ (zJ ({ (zbc c) with b:=c.b }:Cur) 4 8) with b:=c.b }:Cur) 4 8) with b:=c.b }:Cur) 100) with b:=c.b }:Cur) 4) with b:=c.b }:Cur)) with b:=c.b }:Cur) 3) with b:=c.b }:Cur) 4) with b:=c.b }:Cur) 12),c.b,[],[],[],[],(zcC (zb9 c)).Prog,(zdP ({ (zbc c) with b:=c.b }:Cur) 4 8),(zdP ({ (zJ ({ (zbc c) with b:=c.b }:Cur) 4 8) with b:=c.b }:Cur) 4 8),t.2.2.2,())):Nat->Int×Int×Int×List Int->_)
   (fun rec t i k l=>⟨_,rfl,fun a _=>⟨⟨_,_,_⟩,_,rfl,⟨rfl,zG _ _⟩,⟨⟨d.1,zDO (q (zi5 _)),zDO (q (zil _ _ _)),by unfold ln at a;dsimp only;omega⟩,by unfold ln at a;dsimp only;omega⟩⟩⟩)
def z7Q:zcU:=[(222,[false,true,true],zv1)]++z7P
theorem zIr:zb5 z7Q:=zcp zUV (by
 intro x a;simp only[qG,qN,or_false]at a;rcases a with rfl
 .exact zHV)
def zyV (N:Nat)(c:Cur)  : OA :=
 let e:=zce c;let B:=({ (zjQ c) with b:=c.b}:Cur);let f:=zf B 14;let j:=zn B 14;let d:=({f with b:=c.b}:Cur);let g:=zhh d 4 8;let p:=zX d [-1,12,13,9223372036854775807]; (oN (zlN c)<|oN (zB B 14)<|cond (ieq j 0) (oN (zjO d)<|some [.agg [.s .u8 c.b,.i .i64 (zjP d).i,.i .i64 (zjP d).h],aT .guest ({e with Prog:=(zpW d)}:Guest)])<|cond (ieq j 1) (oN (zbr d [-1,100])<|some [.agg [.s .u8 c.b,.i .i64 (zX d [-1,100]).i,.i .i64 (zX d [-1,100]).h],aT .guest ({e with A:=(zbn d [-1,100])}:Guest)])<|cond (ieq j 2) (oN (zbr d [-1,12,13,9223372036854775807])<|some [.agg [.s .u8 c.b,.i .i64 p.i,.i .i64 p.h],aT .guest ({e with Pc:=(zbn d [-1,12,13,9223372036854775807])}:Guest)])<|cond (ieq j 3) (oN (zgb d 4 8)<|some [.agg [.s .u8 c.b,.i .i64 g.i,.i .i64 g.h],aT .guest ({e with Live:=(zfu d 4 8)}:Guest)])<|cond (ieq j 4) (oN (zpY d)<|some [.agg [.s .u8 c.b,.i .i64 (zpZ d).i,.i .i64 (zpZ d).h],aT .guest ({e with Ctl:=(zzU d)}:Guest)])<|cond (ieq j 5) (oN (znt d)<|some [.agg [.s .u8 c.b,.i .i64 (znu d).i,.i .i64 (znu d).h],aT .guest ({e with Pending:=(zwt d)}:Guest)])<|cond (ieq j 6) (oN (zp0 d)<|some [.agg [.s .u8 c.b,.i .i64 (zp1 d).i,.i .i64 (zp1 d).h],aT .guest ({e with Exit:=(zzW d)}:Guest)])<|cond (ieq j 7) (iter (σ:=(Int×Int×Int×Int×Int×Int×Bool×Int×Int×Int×Bool×Int×Bool×Int×Int×Int×Int×Bool×Int×Int×Int×Bool×Int×Bool×(List Int)×lI×lS×lS×(List Int)×lI×lS×lS×(List Int)×Unit)) N (λG a=>let y:=a.2.2.2.2.2.2.2.2.2.2.2.2.2.1;let x:=a.2.2.2.2.2.2.2.2.2.2.2.2.2.2.1;let w:=a.2.2.2.2.2.2.2.2.2.2.2.2.2.2.2.1;let v:=a.2.2.2.2.2.2.2.2.2.2.2.2.2.2.2.2.1;let u:=a.2.2.2.2.2.2.2.2.2.2.2.2.2.2.2.2.2.1;let t:=a.2.2.2.2.2.2.2.2.2.2.2.2.2.2.2.2.2.2.1;let r:=a.2.2.2.2.2.2.2.2.2.2.2.2.2.2.2.2.2.2.2.1;let q:=a.2.2.2.2.2.2.2.2.2.2.2.2.2.2.2.2.2.2.2.2.1;let n:=a.2.2.2.2.2.2.2.2.2.2.2.2.2.2.2.2.2.2.2.2.2.1;let m:=a.2.2.2.2.2.2.2.2.2.2.2.2.2.2.2.2.2.2.2.2.2.2.1;let l:=a.2.2.2.2.2.2.2.2.2.2.2.2.2.2.2.2.2.2.2.2.2.2.2.1;let F:=a.2.2.2.2.2.2.2.2.2.2.2.2.2.2.2.2.2.2.2.2.2.2.2.2.2.2.2.2.2.1;let E:=a.2.2.2.2.2.2.2.2.2.2.2.2.2.2.2.2.2.2.2.2.2.2.2.2.2.2.2.2.2.2.1;let D:=a.2.2.2.2.2.2.2.2.2.2.2.2.2.2.2.2.2.2.2.2.2.2.2.2.2.2.2.2.2.2.2.1;let C:=a.2.2.2.2.2.2.2.2.2.2.2.2.2.2.2.2.2.2.2.2.2.2.2.2.1;let z:=a.2.2.2.2.2.2.2.2.2.2.2.2.2.2.2.2.2.2.2.2.2.2.2.2.2.2.2.2.2.2.2.2.1;let k:=(⟨C,a.1,a.2.1⟩:Cur); (oN (zB k 3)<|cond (ilt (ln z)<|zM .i64 39<|zn k 3) (oN (few<|ln<|ap z [1])<|G ((zf k 3).i,(zf k 3).h,a.2.2.1,a.2.2.2.1,a.2.2.2.2.1,a.2.2.2.2.2.1,a.2.2.2.2.2.2.1,a.2.2.2.2.2.2.2.1,a.2.2.2.2.2.2.2.2.1,a.2.2.2.2.2.2.2.2.2.1,a.2.2.2.2.2.2.2.2.2.2.1,a.2.2.2.2.2.2.2.2.2.2.2.1,a.2.2.2.2.2.2.2.2.2.2.2.2.1,y,x,w,v,u,t,r,q,n,m,l,C,a.2.2.2.2.2.2.2.2.2.2.2.2.2.2.2.2.2.2.2.2.2.2.2.2.2.1,a.2.2.2.2.2.2.2.2.2.2.2.2.2.2.2.2.2.2.2.2.2.2.2.2.2.2.1,a.2.2.2.2.2.2.2.2.2.2.2.2.2.2.2.2.2.2.2.2.2.2.2.2.2.2.2.1,a.2.2.2.2.2.2.2.2.2.2.2.2.2.2.2.2.2.2.2.2.2.2.2.2.2.2.2.2.1,F,E,D,ap z [1],()))<|some [.agg [.s .u8 C,.i .i64 (zf k 3).i,.i .i64 (zf k 3).h],aT .guest (⟨F,y,x,E,D,⟨w,v,u⟩,t,⟨r,q,n,m⟩,l,z⟩:Guest)])) (f.i,f.h,0,0,0,0,false,0,0,0,false,0,false,e.A,e.Pc,e.Ctl.Traps,e.Ctl.Post,e.Ctl.Open,e.Pending,e.Exit.Kind,e.Exit.Page,e.Exit.Write,e.Exit.N,e.Halted,c.b,[],[],[],[],e.Prog,e.Written,e.Live,e.Seen,()))<|cond (ieq j 8) (oN (zgb d 4 8)<|some [.agg [.s .u8 c.b,.i .i64 g.i,.i .i64 g.h],aT .guest ({e with Written:=(zfu d 4 8)}:Guest)])<|some [.agg [.s .u8 c.b,.i .i64 f.i,.i .i64 f.h],aT .guest e])
def zV8:=zx [(142,1,{n:=65,tm:=[(0,.lp 0 0),(2,.lp 1 0),(3,.lp 2 0)],lo:=[(0,[.sl 0 [],ti,ti]),(1,[.sl 1 [],ti,ti,.sl 2 [],.sl 3 [],ti,ti,.b,ti,ti,ti,.b,ti,.b,.sl 4 []]),(2,[.sl 5 [],ti,ti,.sl 6 [],.sl 7 [],ti,ti,.b,ti,ti,ti,.b,ti,.b,.sl 8 []])],ro:=[(0,.u8,false),(1,.ins,true),(2,.slot,true),(3,.slot,true),(4,.int,true),(5,.ins,true),(6,.slot,true),(7,.slot,true),(8,.int,true)]})]
def zrM (c:Cur)(s:Cur)(a:Guest):Prop:=(∃N,zyV N c=some (AV.agg (zb1 s)::[aT .guest a]))/\(s.b=c.b/\0<=s.i)/\(GuS a)
def zp4 (c:Cur)  : Bool:=wC (zrM c)
def zp5 (c:Cur)  : Cur:=wS (zrM c)
def zzX (c:Cur)  : Guest:=wV (zrM c)
theorem zLW {c:Cur}(h:zp4 c=true):zrM c (zp5 c) (zzX c):=wG h
theorem z0v (c:Cur)  : 0<=(zp5 c).i:=wP λh=>h.2.1.2
theorem z0u (c:Cur)(h:∃N,Ends (wE (λa=>aT .guest a) c.b λa=>GuS a)<|zyV N c):zp4 c=true:=wI (λ_ _ h=>h) h
def zAL:zea:=rP0 λc=>(zp4 c,zp5 c,[aT .guest<|zzX c])
theorem zNU:zbV Tryz.prog 142 [false,true,true] zAL:=hP0 zG1 zZ zIr zq zV8 (λ_ h=>(zLW h).1)
theorem zJA {c:Cur}(h:zbe c):zp4 c=true:=by
 refine z0u c ⟨1002,?_⟩;unfold zyV oN;conv=>zeta
 have q:∀{s:Cur},0<=s.i->zbe {s with b:=c.b}:=λr=>zbS h r;have a:zbe {zf {zjQ c with b:=c.b} 14 with b:=c.b}:=q (zG _ _);obtain⟨⟨d,e,f,g⟩,w⟩:=(zDE<|zTg h).2.2;have p:(zfu {zf {zjQ c with b:=c.b} 14 with b:=c.b} 4 8).length<=4:=by have:=((zpP<|zoC a (n:=4) (by omega) (by omega) 8).2.2 (by omega) (by omega)).1;unfold ln at this;omega
 have j:=(zyF<|zPJ a).2.2;refine zF (zTg h) (zF (zbz (q<|zVm _) _) (zbE (λ_=>zF (zPJ a) (zbO (aT .guest) (v:={zce c with Prog:=zpW _}) (zOT _) ⟨j,e,f,g⟩))
  (λ_=>zbE (λ_=>zF (zfh a (by simp)) (zbO (aT .guest) (v:={zce c with A:=zbn _ _}) (zb3 _ _) ⟨d,e,f,g⟩))
  (λ_=>zbE (λ_=>zF (zfh a (by simp)) (zbO (aT .guest) (v:={zce c with Pc:=zbn _ _}) (zb3 _ _) ⟨d,e,f,g⟩))
  (λ_=>zbE (λ_=>zF (zoC a (by omega) (by omega) _) (zbO (aT .guest) (v:={zce c with Live:=zfu _ _ _}) (zpQ _ _ _) ⟨d,e,p,g⟩))
  (λ_=>zbE (λ_=>zF (z3L a) (zbO (aT .guest) (v:={zce c with Ctl:=zzU _}) (z0o _) ⟨d,e,f,g⟩))
  (λ_=>zbE (λ_=>zF (zbaB a) (zbO (aT .guest) (v:={zce c with Pending:=zwt _}) (zXn _) ⟨d,e,f,g⟩))
  (λ_=>zbE (λ_=>zF (z03 a) (zbO (aT .guest) (v:={zce c with Exit:=zzW _}) (z0t _) ⟨d,e,f,g⟩))
  (λ_=>zbE (λ_=>?_)
  (λ_=>zbE (λ_=>zF (zoC a (by omega) (by omega) _) (zbO (aT .guest) (v:={zce c with Written:=zfu _ _ _}) (zpQ _ _ _) ⟨d,p,f,g⟩))
  (λ_=>zbO (aT .guest) (v:=zce c) (zG _ _) ⟨d,e,f,g⟩)))))))))))
 exact zbai h (zG _ _) (m:=39) (q:=3) (x:=1) (by omega) (by omega) (by omega) (l0:=(zce c).Seen) (by unfold ln;omega) ((λ_ t=>(t.1,t.2.1,0,0,0,0,false,0,0,0,false,0,false,(zce c).A,(zce c).Pc,(zce c).Ctl.Traps,(zce c).Ctl.Post,(zce c).Ctl.Open,(zce c).Pending,(zce c).Exit.Kind,(zce c).Exit.Page,(zce c).Exit.Write,(zce c).Exit.N,(zce c).Halted,c.b,[],[],[],[],(zce c).Prog,(zce c).Written,(zce c).Live,t.2.2,())):Nat->Int×Int×List Int->_)
  (λrec i k l=>⟨_,rfl,λu=>⟨⟨_,_,_⟩,_,rfl,⟨rfl,zG _ _⟩,⟨d,e,f,by unfold ln at u;dsimp only;omega⟩⟩⟩)
theorem z9o (b:List Entry)(e:Entry)(h:b.length<=1048576):(zo4 b e).length<=6:=by have c:=(zuM e h).2;unfold zo4;generalize ap (zcQ b e.Tag e.Page) [e]=l at c;cases a:igt (ln l) 6 with|false=>have:¬ ln l>6:=jR a;rw[cF];unfold ln at this;omega|true=>rw[cT,zq3 (by unfold ln;omega) (by unfold ln;omega)];have:ln l>6:=qD a;simp only[dp,u1];unfold ln at *;omega
def zsw (N:Nat)(c:Cur)  : OA :=
 (iter (σ:=(Int×Int×Int×lE×(List Int)×Unit)) N (λl d=>let e:=d.2.2.2.2.1;let j:=(⟨e,d.2.1,d.2.2.1⟩:Cur);let a:=({ (zf j 9) with b:=e}:Cur);let g:=({ (zT a 8) with b:=e}:Cur);let f:=({ (zg7 g) with b:=e}:Cur);let k:=ap d.2.2.2.1 [zmH g,zmH f]; (oN (zB j 9)<|cond (ilt d.1<|zn j 9) (oN (zim a)<|oN (zg5 d.2.2.2.1<|zmH a)<|l (zM .i64 d.1 1,(zg7 a).i,(zg7 a).h,zgM d.2.2.2.1<|zmH a,e,()))<|oN (zc7 a 8)<|cond (zdh a 8) (oN (zim g)<|oN (zim f)<|oN (few<|ln k)<|some [.agg [.s .u8 e,.i .i64 (zg7 f).i,.i .i64 (zg7 f).h],aS .entry k])<|some [.agg [.s .u8 e,.i .i64 (zT a 8).i,.i .i64 (zT a 8).h],aS .entry d.2.2.2.1])) (0,c.i,c.h,[],c.b,()))
def zMz:=zx [(117,0,{n:=26,tm:=[(0,.lp 0 0),(3,.sl 0 []),(4,ti)],lo:=[(0,[.sl 1 [],ti,ti])],ro:=[(0,.entry,true),(1,.u8,false)]})]
def zmG (c:Cur)(s:Cur)(a:List Entry):Prop:=(∃N,zsw N c=some (AV.agg (zb1 s)::[aS .entry a]))/\(s.b=c.b/\0<=s.i)/\(a.length<=8)
def zkK (c:Cur)  : Bool:=wC (zmG c)
def zkL (c:Cur)  : Cur:=wS (zmG c)
def zrG (c:Cur)  : List Entry:=wV (zmG c)
theorem zBg {c:Cur}(h:zkK c=true):zmG c (zkL c) (zrG c):=wG h
theorem zRY (c:Cur)  : 0<=(zkL c).i:=wP λh=>h.2.1.2
theorem zRX (c:Cur)(h:∃N,Ends (wE (λa=>aS .entry a) c.b λa=>a.length<=8)<|zsw N c):zkK c=true:=wI (λ_ _ h=>h) h
def zuJ:zea:=rP0 λc=>(zkK c,zkL c,[aS .entry<|zrG c])
theorem zEV:zbV Tryz.prog 117 [false,true,true] zuJ:=hP0 zG1 zZ zIr zq zMz (λ_ h=>(zBg h).1)
theorem zSR {c:Cur}(h:zbe c):zkK c=true:=by
 refine zRX c ⟨1002,?_⟩;unfold zsw oN;conv=>zeta
 refine zjm (λn s=>∃t i k l,s=(((λ_ t=>(t.1,t.2.1,t.2.2.1,t.2.2.2,c.b,())):Nat->Int×Int×Int×List Entry->_) 0 (t,i,k,l))/\t+(n:Int)=10/\0<=t/\0<=i/\l.length<=6) ?_ 1002 10 _ ⟨0,c.i,c.h,[],rfl,rfl,kB 0,h.1,by simp⟩ (by omega);rintro n s rec ⟨t,i,k,l,rfl,p,g,j,r⟩ d;dsimp only;have a:zbe ⟨c.b,i,k⟩:=zbS h j;have v:=zfw a (n:=9) (by omega);have q:∀{s:Cur},0<=s.i->zbe {s with b:=c.b}:=λf=>zbS h f;refine zF (zbz a 9) (zbE (λe=>?_) λe=>?_);{have m:t<zn ⟨c.b,i,k⟩ 9:=qD e;have u:=zh8 (y:=1) g (by omega) (by omega) (by omega);exact zF (zMP<|q<|zG _ _) (zF (zbw (by omega))<|d (n-1) _ (by omega) ⟨zM .i64 t 1,_,_,_,rfl,by omega,by omega,zu7 _,z9o _ _ (by omega)⟩)};{refine zF (zjF (q<|zG _ _) 8) (zbE (λ_=>zF (zMP<|q<|zcr _ _) (zF (zMP<|q<|zu7 _)<|zF (zjo ?_)<|zbO (aS .entry) (zu7 _) ?_)) λ_=>zbO (aS .entry) (zcr _ _) (by omega));{simp only [ln,ap,j9,qZ,kN];omega};{simp only [ap,j9,qZ,kN];omega}}
def z7R:zcU:=[(142,[false,true,true],zAL),(117,[false,true,true],zuJ)]++z7Q
theorem zUW:zb5 z7R:=zcp zIr (by
 intro x a;simp only[qG,qN,or_false]at a;rcases a with rfl|rfl
 .exact zNU
 .exact zEV)
def zJB (b:Bare)(a:GAct):Bare:=bif ieq a.Kind 1 then ze5 b a.G else (cond (ieq a.Kind 2) (chg b a.G (zxf a.X ⟨a.Y,a.Z⟩)<|zDI (gAt b a.G) a.X ⟨a.Y,a.Z⟩)<|cond (ieq a.Kind 3) (chg b a.G (hasB a.X 4)<|zei (gAt b a.G) a.X)<|cond (ieq a.Kind 4) (chg b a.G (zwN (gAt b a.G) a.X)<|zy0 (gAt b a.G) a.X)<|cond (ieq a.Kind 5) (chg b a.G (zDl<|gAt b a.G)<|zzP<|gAt b a.G)<|cond (ieq a.Kind 6) (chg b a.G (zii (gAt b a.G).Pending a.X)<|zoR (gAt b a.G) a.X)<|cond (ieq a.Kind 7) (chg b a.G (zl8 ⟨a.X,a.Y,ieq a.Z 1⟩)<|zMK (gAt b a.G) ⟨a.X,a.Y,ieq a.Z 1⟩)<|cond (ieq a.Kind 8) (zSp b a.X a.Y a.Z)<|cond (ieq a.Kind 9) (zk8 b a.X)<|cond (ieq a.Kind 10) (znU b)<|cond (ieq a.Kind 11) (zZn b a.G a.X a.Y)<|b)
def zJC (b:Bare)(a:GAct):Told:=bif ieq a.Kind 1 then ⟨zg9 b a.G,0⟩ else (cond (ieq a.Kind 2) ⟨zcq b a.G<|zxf a.X ⟨a.Y,a.Z⟩,0⟩<|cond (ieq a.Kind 3) ⟨zcq b a.G<|hasB a.X 4,0⟩<|cond (ieq a.Kind 4) ⟨zcq b a.G<|zwN (gAt b a.G) a.X,0⟩<|cond (ieq a.Kind 5) ⟨zcq b a.G<|zDl<|gAt b a.G,0⟩<|cond (ieq a.Kind 6) ⟨zcq b a.G<|zii (gAt b a.G).Pending a.X,0⟩<|cond (ieq a.Kind 7) ⟨zcq b a.G<|zl8 ⟨a.X,a.Y,ieq a.Z 1⟩,0⟩<|cond (ieq a.Kind 8) ⟨zx8 b a.X a.Y a.Z,0⟩<|cond (ieq a.Kind 9) ⟨zgg b a.X,0⟩<|cond (ieq a.Kind 10) ⟨zny b,zt4 b⟩<|cond (ieq a.Kind 11) ⟨zzc b a.G a.X a.Y,0⟩<|⟨zoJ b a.G a.X 1,zSt b a.G a.X⟩)
def zJD (l:List Bare)(a:GAct):List Bare:=bif zk a.Kind 1 17 then (cond (zk a.Kind 13 17) l<|cond (hasB a.M<|ln l) (up l a.M<|zJB (ix l a.M zWj) a) l) else l
def zYW (l:List Bare)(a:GAct):Told:=bif zk a.Kind 1 17 then (cond (zk a.Kind 13 17) ⟨false,0⟩<|cond (hasB a.M<|ln l) (zJC (ix l a.M zWj) a)<|cond (ieq a.Kind 10) ⟨false,-1⟩ ⟨false,0⟩) else ⟨false,0⟩
theorem zI {i n:Int}:hasB i n=true↔0<=i/\i<n:=by unfold hasB;exact decide_eq_true_iff
theorem zcX {x a b:Int}:zk x a b=true↔a<=x/\x<=b:=by simp[zk,ige,ile]
theorem zbx {x y:Int}:ieq x y=true↔x=y:=by simp[ieq]
theorem zxU {x y:Int}:ine x y=true↔x≠y:=by simp[ine]
theorem zb6 {x y:Int}:ieq x y=false↔x≠y:=by simp[ieq]
theorem zcj {a b:Bool}:(cond a b false)=true↔a=true/\b=true:=by cases a<;>simp
theorem zbU {a:Type}(l:List a)(i:Int)(x:a):(up l i x).length=l.length:=by simp[up]
theorem zec {a:Type}(l:List a)(i:Int)(x:a):ln (up l i x)=ln l:=by simp[up,ln]
theorem zzD {a:Type}{l:List a}{i:Int}(h:hasB i (ln l)=true)(d:a):∃k:Nat,∃b:k<l.length,i=(k:Int)/\ix l i d=l[k]:=by rw[zI]at h;unfold ln at h;refine⟨i.toNat,by omega,by omega,?_⟩;simp[ix,List.getD,qB (show i.toNat<l.length by omega)]
theorem zm6 {a:Type}{l:List a}{k:Nat}(h:k<l.length)(d:a):ix l (k:Int) d=l[k]:=by simp[ix,List.getD,qB h]
theorem zmh {a:Type}{l:List a}{i:Int}(h:hasB i (ln l)=true)(d:a):ix l i d∈l:=by obtain⟨k,b,_,e⟩:=zzD h d;rw[e];exact jK b
theorem zDc {a:Type}{l:List a}{x:a}(h:x∈l)(d:a):∃i,hasB i (ln l)=true/\ix l i d=x:=by obtain⟨k,b,e⟩:=List.mem_iff_getElem.1 h;exact⟨(k:Int),zI.2 (by unfold ln;omega),(zm6 b d).trans e⟩
theorem zbj {a:Type}{l:List a}{i:Int}(h:hasB i (ln l)=true)(x d:a):ix (up l i x) i d=x:=by rw[zI]at h;unfold ln at h;simp[ix,up,List.getD,show i.toNat<l.length by omega]
theorem zby {a:Type}{l:List a}{i j:Int}(b:0<=i)(c:0<=j)(h:i≠j)(x d:a):ix (up l i x) j d=ix l j d:=by have:i.toNat≠j.toNat:=(by omega);simp[ix,up,List.getD,q9,this]
theorem z3D {a:Type}(l:List a)(i:Int)(x y:a):up (up l i x) i y=up l i y:=by simp[up]
theorem zOD {a:Type}{l m:List a}(d:a)(h:l.length=m.length)(e:∀i,hasB i (ln l)=true->ix l i d=ix m i d):l=m:=by refine List.ext_getElem h λk b c=>?_;have:=e (k:Int) (zI.2 (by unfold ln;omega));rwa [zm6 b,zm6 c] at this
theorem zIL {a:Type}{l:List a}{i:Int}(h:hasB i (ln l)=true)(d:a):up l i (ix l i d)=l:=by obtain⟨k,b,rfl,e⟩:=zzD h d;rw[e];simp[up]
def cPg (x:Mon)(q:Int):Nat:=x.Outer.countP λs=>ieq s.Page q
def zfM (l:List Mon)(q:Int):Nat:=(l.map λx=>cPg x q).sum
theorem zPP {a:Type}(P:a->Bool){l:List a}{i:Int}(h:hasB i (ln l)=true)(x d:a):(up l i x).countP P+(if P (ix l i d) then 1 else 0)=l.countP P+(if P x then 1 else 0):=by
 obtain⟨k,b,rfl,e⟩:=zzD h d;rw[e];simp only[up,kG,List.countP_set b];have:(if P l[k]=true then 1 else 0)<=l.countP P:=by
  split
  .rename_i hp;exact List.countP_pos_iff.2 ⟨l[k],jK b,hp⟩
  .omega
 omega
theorem zyJ {l:List Mon}{m:Int}(h:hasB m (ln l)=true)(x:Mon)(q:Int):zfM (up l m x) q+cPg (ix l m mZ) q=zfM l q+cPg x q:=by obtain⟨k,a,rfl,e⟩:=zzD h mZ;rw[e];clear h e;unfold up;simp only[kG];induction l generalizing k with|nil=>simp at a|cons y l b=>(cases k with|zero=>simp[zfM];omega|succ k=>have:=b k (by simpa using a);simp[zfM] at this ⊢;omega)
theorem zGU {l:List Mon}{m p:Int}(a:hasB m (ln l)=true)(b:hasB p (ln (ix l m mZ).Outer)=true):1<=zfM l (ix (ix l m mZ).Outer p sZ).Page:=by have d:1<=cPg (ix l m mZ) (ix (ix l m mZ).Outer p sZ).Page:=List.countP_pos_iff.2 ⟨_,zmh b sZ,by simp[ieq]⟩;have:=zyJ a (⟨[],[],[],[],[],0,0,[],0⟩:Mon) (ix (ix l m mZ).Outer p sZ).Page;have c:cPg (⟨[],[],[],[],[],0,0,[],0⟩:Mon) (ix (ix l m mZ).Outer p sZ).Page=0:=rfl;omega
theorem z3Q {l:List Mon}{m p n k:Int}{q:Int}(b:hasB m (ln l)=true)(v:hasB p (ln (ix l m mZ).Outer)=true)(u:hasB n (ln l)=true)(f:hasB k (ln (ix l n mZ).Outer)=true)(z:(ix (ix l m mZ).Outer p sZ).Page=q)(t:(ix (ix l n mZ).Outer k sZ).Page=q)(h:zfM l q<=1):m=n/\p=k:=by have c:=zI.1 b;have d:=zI.1 u;have i:=zI.1 v;have g:=zI.1 f;have B:¬ ieq q (q+1)=true:=(by simp[ieq];omega);obtain⟨y,r⟩:∃y:Mon,y.Outer=up (ix l m mZ).Outer p ⟨q+1,0⟩:=⟨{ix l m mZ with Outer:=up (ix l m mZ).Outer p ⟨q+1,0⟩},rfl⟩;have x:=zPP (λs=>ieq s.Page q) v (⟨q+1,0⟩:Slot) sZ;simp only[z,show ieq q q=true by simp[ieq],show ieq (q+1) q=false by simp[ieq];omega,if_true,kE,if_false] at x;have C:=zyJ b y q;simp only[cPg,r] at C;have D:zfM (up l m y) q=0:=(by omega);apply Classical.byContradiction;intro A;have w:1<=zfM (up l m y) q:=(by by_cases a:m=n;{subst a;have j:p≠k:=λe=>A ⟨rfl,e⟩;have:=zGU (l:=up l m y) (m:=m) (p:=k) (by rw[zec];exact b) (by rw[zbj b,r,zec];exact f);rw[zbj b,r,zby i.1 g.1 j,t] at this;exact this};{have:=zGU (l:=up l m y) (m:=n) (p:=k) (by rw[zec];exact u) (by rw[zby c.1 d.1 a];exact f);rw[zby c.1 d.1 a,t] at this;exact this});omega
theorem zt6 {a b c:Bool}:(cond a b c)=true↔(a=true/\b=true)\/(a=false/\c=true):=by cases a<;>simp
def SOk (s:Slot):Prop:=s=noSlot\/(0<=s.Page/\s.Page<=11/\1<=s.Rights/\s.Rights<=3)
theorem zVv {a b:Slot}(c:a.Page=b.Page)(d:a.Rights=b.Rights):a=b:=by cases a;cases b;simp_all
theorem zqb {a b:Slot}:zdb a b=true↔a=b:=by simp only[zdb,qE,zbx];exact⟨λh=>zVv h.1 h.2,λh=>by rw[h];exact⟨rfl,rfl⟩⟩
theorem zsl {a b:Slot}:zdb a b=false↔a≠b:=by rw[<- Bool.not_eq_true,zqb]
theorem zYs {s:Slot}:zed s 12=true↔SOk s:=by unfold zed SOk;rw[zt6,zqb,zsl];have:wsub .i64 12 1=11:=(by decide);simp only[this,zt6,zcX];simp[igt];constructor;{rintro (h|⟨h,⟨a,b⟩,c⟩);{exact .inl h};{exact .inr ⟨a,b,c⟩}};{intro h;by_cases d:s=noSlot;{exact .inl d};{rcases h with h|⟨a,b,c⟩;{exact .inl h};{exact .inr ⟨d,⟨a,b⟩,c⟩}}}
theorem SOk.none {s:Slot}(h:SOk s)(a:s.Page = -1):s=noSlot:=by rcases h with h|h;{exact h};{omega}
theorem SOk.pos {s:Slot}(h:SOk s)(a:s.Page≠-1):0<=s.Page/\s.Page<=11/\1<=s.Rights/\s.Rights<=3:=by rcases h with h|h;{rw [h]at a;exact absurd rfl a};{exact h}
structure MOk (x:Mon):Prop where
 g1:1<=x.Guests.length
 g2:x.Guests.length<=2
 gt:x.Tables.length=x.Guests.length
 o8:x.Outer.length=8
 sl:∀s∈x.Outer,SOk s
 u8:x.Out.length=8
 d8:x.Dirty.length=8
 outs:x.Outs.length<=40
 pend:zdM x.Pending=true
 tr:zk x.Traps 0 3=true
 own:zk x.Own 0 1000000000=true
 gs:∀g∈x.Guests,zdV g=true
 fit:∀p,hasB p 8=true->zmm (ix x.Outer p sZ) (ix x.Out p [])=true
theorem zSJ {P:Nat->Bool}:∀{n i:Nat},zoB P n i=true↔∀j,i<=j->j<i+n->P j=true
 | 0,i=>by simp[zoB];intro j a b;omega
 |n+1,i=>by rw[zoB,qE,zSJ];constructor;{rintro⟨a,b⟩ j c d;by_cases e:j=i;{rw [e];exact a};{exact b j (by omega) (by omega)}};{intro h;exact⟨h i (by omega) (by omega),λj a b=>h j (by omega) (by omega)⟩}
theorem zrS {t:List Slot}{n p:Int}:zdd t n p=true↔(∀s∈t,zed s p=true)/\ln t=n:=by unfold zdd;rw[zcj,qM,zbx]
theorem z9a {x:Mon}:ze0 x=true↔MOk x:=by unfold ze0;simp only[zcj,zcX,zbx,zrS,zSJ,qM,ile,q0];constructor;{rintro⟨⟨g,i⟩,m,⟨k,l⟩,n,q,r,e,a,b,c,d⟩;unfold ln at *;refine⟨by omega,by omega,by omega,by omega,λs f=>zYs.1 (k s f),by omega,by omega,by omega,e,zcX.2 a,zcX.2 b,c,λp t=>?_⟩;have u:=zI.1 t;have:=d p.toNat (by omega) (by omega);unfold fits at this;rwa [show ((p.toNat:Nat):Int)=p by omega] at this};{intro h;obtain⟨g,i,m,k,l,n,q,r,e,a,b,c,d⟩:=h;unfold ln;exact⟨⟨by omega,by omega⟩,by omega,⟨λs f=>zYs.2 (l s f),by omega⟩,by omega,by omega,by omega,e,zcX.1 a,zcX.1 b,c,λj g i=>d (j:Int) (zI.2 (by omega))⟩}
theorem zy5 (o:List Slot)(s:Slot)(q:Int):(s::o).countP (λs=>ieq s.Page q)=o.countP (λs=>ieq s.Page q)+if s.Page=q then 1 else 0:=by rw[vI];simp[ieq]
theorem zz6:∀{o:List Slot} {u:List Bool},(∀s∈o,s.Page<u.length)->
 (∀c,zhz o u=some c↔(∀q,0<=q->o.countP (λs=>ieq s.Page q)+(if ix u q false then 1 else 0)<=1)/\
  c=(o.foldl (λu s=>bif ilt s.Page 0 then u else up u s.Page true) u))
 |[],u,h,c=>by simp[zhz];exact⟨λh=>⟨λq _=>by split<;>omega,h.symm⟩,λh=>h.2.symm⟩
 |s::o,u,h,c=>by
  unfold zhz;by_cases g:s.Page<0;{have b:ilt s.Page 0=true:=qI g;rw[b,cond_true,zz6 λy d=>h y (qY _ d)];simp only[uJ,b,cond_true];refine and_congr (forall_congr' λq=>forall_congr' λf=>?_) Iff.rfl;have e:(if s.Page=q then 1 else 0)=0:=if_neg (by omega);rw[zy5,e,jW]};{have b:ilt s.Page 0=false:=qK g;have k:=h s jB;have j:hasB s.Page (ln u)=true:=zI.2 ⟨by omega,by unfold ln;omega⟩;rw[b,cond_false];cases i:ix u s.Page false with|true=>rw[cond_true];constructor;{intro h;cases h};{rintro⟨h,_⟩;have:=h s.Page (by omega);rw[zy5,if_pos rfl,i] at this;simp at this}|false=>rw[cond_false,zz6 (λy d=>by rw[zbU];exact h y (qY _ d))];simp only[uJ,b,cond_false];refine and_congr (forall_congr' λq=>forall_congr' λf=>?_) Iff.rfl;rw[zy5];by_cases a:s.Page=q;{subst a;rw[zbj j,i];simp};{rw [zby (by omega) f a,if_neg a,jW]}}
theorem zIM:∀(o:List Slot) (u:List Bool),(o.foldl (λu s=>bif ilt s.Page 0 then u else up u s.Page true) u).length=u.length
 |[],u=>rfl
 |s::o,u=>by rw[uJ,zIM];cases ilt s.Page 0<;>simp [zbU]
theorem zPg:∀(o:List Slot) (u:List Bool) (q:Int),0<=q->(∀s∈o,s.Page<u.length)->(ix (o.foldl (λu s=>bif ilt s.Page 0 then u else up u s.Page true) u) q false=true↔ix u q false=true\/1<=o.countP λs=>ieq s.Page q)
 |[],u,q,b,h=>by simp
 |s::o,u,q,b,h=>by
  rw[uJ,zPg _ _ q b (λy f=>by have:=h y (qY _ f);cases ilt s.Page 0<;>simpa [zbU] using this),zy5];by_cases c:s.Page<0;{rw [show ilt s.Page 0=true from qI c,cond_true,if_neg (by omega),jW]};{rw [show ilt s.Page 0=false from qK c,cond_false];have e:=h s jB;have d:hasB s.Page (ln u)=true:=zI.2 ⟨by omega,by unfold ln;omega⟩;by_cases a:s.Page=q;{subst a;rw[zbj d];simp};{rw [zby (by omega) b a,if_neg a,jW]}}
theorem zzp:∀{l:List Mon} {u:List Bool},u.length=12->(zjr l u=true↔(∀x∈l,MOk x)/\∀q,0<=q->zfM l q+(if l≠[]/\ix u q false then 1 else 0)<=1)
 |[],u,c=>by simp[zjr,zfM]
 |x::l,u,c=>by
  unfold zjr;rw[zcj,z9a];constructor;{rintro⟨f,b⟩;have k:∀s∈x.Outer,s.Page<u.length:=λs n=>(by rcases f.sl s n with h|h;{rw [h,c];decide};{rw [c];omega});split at b;{rename_i B d;obtain⟨g,rfl⟩:=(zz6 k B).1 d;rw[zzp (by rw[zIM,c])]at b;obtain⟨v,w⟩:=b;refine⟨by simpa using ⟨f,v⟩,λq a=>?_⟩;have z:=g q a;have i:=w q a;have m:=zPg x.Outer u q a k;simp only[zfM,jD,uI]at i ⊢;unfold cPg at i ⊢;simp only[ne_eq,reduceCtorEq,not_false_eq_true,true_and];by_cases r:l=[];{subst r;simpa using z};{simp only [r,ne_eq,not_false_eq_true,true_and]at i;by_cases j:ix (x.Outer.foldl (λu s=>bif ilt s.Page 0 then u else up u s.Page true) u) q false=true;{rw [if_pos j]at i;omega};{rw [if_neg j]at i;have p:¬ (ix u q false=true\/1<=x.Outer.countP λs=>ieq s.Page q):=λe=>j (m.2 e);rw[not_or]at p;rw[if_neg p.1];omega}}};{cases b}}
  .rintro⟨f,b⟩;have t:MOk x:=f x jB;refine⟨t,?_⟩;have k:∀s∈x.Outer,s.Page<u.length:=λs n=>by rcases t.sl s n with h|h;{rw [h,c];decide};{rw [c];omega}
   have d:=(zz6 k _).2 ⟨λq a=>by
    have:=b q a;simp only[zfM,jD,uI,ne_eq,reduceCtorEq,not_false_eq_true,true_and] at this;unfold cPg at this;omega,rfl⟩
   rw[d];simp only;rw[zzp (by rw[zIM,c])];refine⟨λy A=>f y (qY _ A),λq a=>?_⟩;have g:=b q a;have m:=zPg x.Outer u q a k;simp only[zfM,jD,uI,ne_eq,reduceCtorEq,not_false_eq_true,true_and]at g ⊢;unfold cPg at g ⊢;split;{rename_i j;rcases m.1 j.2 with h|h;{rw [if_pos h]at g;omega};{omega}};{omega}
structure HOk (h:Host):Prop where
 m12:h.Memory.length=12
 pgs:∀c∈h.Memory,zcE c=true
 n1:1<=h.Mons.length
 n3:h.Mons.length<=3
 b1:zf2 h.Buffer=true
 b2:zf2 h.IoBuffer=true
 mons:∀x∈h.Mons,MOk x
 uq:∀q,0<=q->zfM h.Mons q<=1
theorem zkU {h:Host}:zck h=true↔HOk h:=by unfold zck ziK;simp only[zcj,zcX,zbx,qM];rw[zzp (by simp[rp])];have g:∀q,ix (rp 12 false) q false=false:=λq=>(by unfold ix rp;rw[kA,kF];split<;>rfl);simp only[g,kE,and_false,if_false,jW];unfold ln;constructor;{rintro⟨⟨e,f⟩,⟨i,j⟩,a,b,c,d⟩;exact⟨by omega,e,by omega,by omega,a,b,c,d⟩};{rintro⟨e,f,i,j,a,b,c,d⟩;exact⟨⟨f,by omega⟩,⟨by omega,by omega⟩,a,b,c,d⟩}
theorem HOk.mon {h:Host}(H:HOk h){m:Int}(a:hasB m (ln h.Mons)=true):MOk (ix h.Mons m mZ):=H.mons _ (zmh a _)
theorem MOk.hasO {x:Mon}(H:MOk x){p:Int}(a:hasB p 8=true):hasB p (ln x.Outer)=true:=by rw[ln,H.o8];exact a
theorem MOk.hasU {x:Mon}(H:MOk x){p:Int}(a:hasB p 8=true):hasB p (ln x.Out)=true:=by rw[ln,H.u8];exact a
theorem MOk.hasD {x:Mon}(H:MOk x){p:Int}(a:hasB p 8=true):hasB p (ln x.Dirty)=true:=by rw[ln,H.d8];exact a
theorem MOk.slot {x:Mon}(H:MOk x){p:Int}(a:hasB p 8=true):SOk (ix x.Outer p sZ):=H.sl _ (zmh (H.hasO a) _)
theorem HOk.uniq {h:Host}(H:HOk h){m p n k q:Int}(a:hasB m (ln h.Mons)=true)(f:hasB p 8=true)(b:hasB n (ln h.Mons)=true)(e:hasB k 8=true)(c:(ix (ix h.Mons m mZ).Outer p sZ).Page=q)(d:(ix (ix h.Mons n mZ).Outer k sZ).Page=q)(g:0<=q):m=n/\p=k :=
 z3Q a ((H.mon a).hasO f) b ((H.mon b).hasO e) c d (H.uq q g)
theorem HOk.up {h:Host}(H:HOk h){m:Int}(k:hasB m (ln h.Mons)=true){x:Mon}(l:MOk x){a:Host}(e:a.Mons=up h.Mons m x)(d:a.Memory.length=12)(f:∀c∈a.Memory,zcE c=true)(i:zf2 a.Buffer=true)(j:zf2 a.IoBuffer=true)(n:∀q,0<=q->cPg x q<=cPg (ix h.Mons m mZ) q\/zfM h.Mons q=0/\cPg x q<=1):HOk a:=by refine⟨d,f,by rw[e,zbU];exact H.n1,by rw[e,zbU];exact H.n3,i,j,λy b=>?_,λq g=>?_⟩;{rw [e]at b;unfold E.up at b;rcases qX b with h|h;{exact H.mons y h};{rw [h];exact l}};{rw [e];have p:=zyJ k x q;have r:=H.uq q g;have s:=n q g;omega}
structure KOk (k:Kept) (inner outer:List Slot):Prop where
 l1:k.Known.length=inner.length
 l2:k.Slots.length=inner.length
 at':∀i,hasB i (ln inner)=true->ix k.Slots i sZ=bif ix k.Known i false then zbB (ix inner i sZ) outer else noSlot
def TOk (x:Mon):Prop:=∀g,hasB g (ln x.Guests)=true->KOk (ix x.Tables g kZ) (ix x.Guests g gZ).Live x.Outer
structure Rt (h:Host):Prop where
 t:∀m,hasB m (ln h.Mons)=true->TOk (ix h.Mons m mZ)
 e1:∀e∈h.Buffer,zde h e=true
 e2:∀e∈h.IoBuffer,zde h e=true
structure Safe (h:Host):Prop where
 ok:HOk h
 rt:Rt h
theorem zrW {a b:Slot}:below' a b=true↔a=noSlot\/(a.Page=b.Page/\enough b.Rights a.Rights=true):=by unfold below';rw[zt6,zqb,zsl,zcj,zbx];by_cases h:a=noSlot<;>simp [h]
theorem z3E (x:Int):wand .i64 0 x=0:=by unfold wand;have:(BitVec.ofInt 64 0 &&& BitVec.ofInt 64 x)=0#64:=(by rw[show BitVec.ofInt 64 0=0#64 from rfl,BitVec.zero_and]);show IntKind.wrap .i64 ((BitVec.ofInt 64 0 &&& BitVec.ofInt 64 x).toNat:Int)=0;rw[this];rfl
theorem z3P {a:Slot}(h:below' a noSlot=true):a=noSlot:=by rcases zrW.1 h with h|⟨c,b⟩;{exact h};{refine zVv c ?_;unfold enough at b;rw[show noSlot.Rights=0 from rfl,z3E]at b;simp only[zcj,zbx]at b;exact b.2.2.symm}
theorem zgk {h:Host}{e:Entry}:zde h e=true↔hasB (zdY e.Tag) (ln h.Mons)=true/\hasB (zeO e.Tag) (ln (ix h.Mons (zdY e.Tag) mZ).Guests)=true/\
 below' ⟨e.Host,e.Rights⟩ (zbB (zbH (ix (ix h.Mons (zdY e.Tag) mZ).Guests (zeO e.Tag) gZ).Live e.Page) (ix h.Mons (zdY e.Tag) mZ).Outer)=true:=by
 unfold zde;rw[zcj,zcj]
theorem zQC {o:List Slot}{p q:Int}{s:Slot}(a:0<=p)(h:q≠p):zbH (up o p s) q=zbH o q:=by unfold zbH;rw[zec];cases b:hasB q (ln o) with|false=>rfl|true=>rw[cond_true,cond_true,zby a (zI.1 b).1<|Ne.symm h]
theorem zJN {s:Slot}{o:List Slot}{p:Int}{t:Slot}(a:0<=p)(h:s.Page≠p):zbB s (up o p t)=zbB s o:=by unfold zbB;rw[zQC a h]
theorem zY1 {s:Slot}{o:List Slot}:zbB s o=noSlot\/(zbB s o).Page=(zbH o s.Page).Page:=by unfold zbB;cases ieq s.Page (-1)<;>cases ieq (zbH o s.Page).Page (-1)<;>cases ieq (zey s.Rights (zbH o s.Page).Rights) 0<;>simp
theorem zln (k:Kept)(q:Int):(zb4 k q).Known.length=k.Known.length/\(zb4 k q).Slots.length=k.Slots.length:=by unfold zb4;cases zdB k q<;>simp [zbU]
theorem zAy:∀(l:List Int) (k:Kept),(ze9 k l).Known.length=k.Known.length/\(ze9 k l).Slots.length=k.Slots.length
 |[],k=>⟨rfl,rfl⟩
 |q::l,k=>by have a:=zAy l (zb4 k q);have b:=zln k q;exact⟨a.1.trans b.1,a.2.trans b.2⟩
theorem zwU {k:Kept}{q i:Int}(d:k.Known.length=k.Slots.length)(b:hasB i (ln k.Known)=true) :
 ix (zb4 k q).Known i false=(cond (ieq q i) false<|ix k.Known i false)/\ix (zb4 k q).Slots i sZ=(cond (ieq q i) noSlot<|ix k.Slots i sZ):=by
 have c:hasB i (ln k.Slots)=true:=by unfold ln at b ⊢;rwa [<- d]
 unfold zb4 zdB
 by_cases e:q=i
 .subst e;simp only[b,c,cond_true,ieq,beq_self_eq_true];exact⟨zbj b _ _,zbj c _ _⟩
 .rw [show ieq q i=false from zb6.2 e]
  by_cases a:hasB q (ln k.Known)=true
  .have hq':hasB q (ln k.Slots)=true:=by unfold ln at a ⊢;rwa [<- d]
   simp only[a,hq',cond_true,cond_false];exact⟨zby (zI.1 a).1 (zI.1 b).1 e _ _,zby (zI.1 a).1 (zI.1 b).1 e _ _⟩
  .rw [Bool.not_eq_true]at a;simp[a]
theorem zCB:∀(l:List Int) {k:Kept} {i:Int},k.Known.length=k.Slots.length->hasB i (ln k.Known)=true->
 (i∈l->ix (ze9 k l).Known i false=false/\ix (ze9 k l).Slots i sZ=noSlot)/\
 (i∉l->ix (ze9 k l).Known i false=ix k.Known i false/\ix (ze9 k l).Slots i sZ=ix k.Slots i sZ)
 |[],k,i,d,c=>⟨λh=>by simp at h,λ_=>⟨rfl,rfl⟩⟩
 |q::l,k,i,d,c=>by have b:=zln k q;have g:=zwU (q:=q) d c;have f:=zCB l (k:=zb4 k q) (i:=i) (by rw[b.1,b.2,d]) (by unfold ln at c ⊢;rwa [b.1]);show (_->ix (ze9 (zb4 k q) l).Known i false=_/\ix (ze9 (zb4 k q) l).Slots i sZ=_)/\(_->ix (ze9 (zb4 k q) l).Known i false=_/\ix (ze9 (zb4 k q) l).Slots i sZ=_);by_cases a:i∈l;{refine⟨λ_=>f.1 a,λh=>absurd (qY _ a) h⟩};{rw [(f.2 a).1,(f.2 a).2,g.1,g.2];by_cases e:q=i;{subst e;simp[ieq]};{rw [zb6.2 e];simp[a,Ne.symm e]}}
theorem zH0 {e:Type}{P:e->Bool}{d:e}:∀{l:List e} {n:Nat} {i:Int},i∈idxs P l n↔∃k:Nat,∃h:k<l.length,i=((n+k:Nat):Int)/\P l[k]=true
 |[],n,i=>by simp[idxs]
 |x::l,n,i=>by
  have g:=@zH0 e P d l (n+1) i;unfold idxs;constructor
  .intro h;cases f:P x with
   |true=>rw[f,cond_true,qG]at h;rcases h with h|h;{exact⟨0,by simp,by simpa using h,f⟩};{obtain⟨k,c,b,a⟩:=g.1 h;exact⟨k+1,by simpa using c,by rw[b];congr 1;omega,by simpa using a⟩}
   |false=>rw[f,cond_false]at h;obtain⟨k,c,b,a⟩:=g.1 h;exact⟨k+1,by simpa using c,by rw[b];congr 1;omega,by simpa using a⟩
  {rintro⟨k,c,b,a⟩;cases k with|zero=>simp only[List.getElem_cons_zero]at a;rw[a,cond_true,b];exact jB|succ k=>have:=g.2 ⟨k,by simpa using c,by rw[b];congr 1;omega,by simpa using a⟩;cases P x;{exact this};{exact qY _ this}}
theorem zWh {l:List Slot}{p i:Int}:i∈zDV l p↔hasB i (ln l)=true/\(ix l i sZ).Page=p:=by unfold zDV;rw[zH0 (d:=sZ)];constructor;{rintro⟨k,a,rfl,c⟩;rw[jX,zm6 a];exact⟨zI.2 (by unfold ln;omega),zbx.1 c⟩};{rintro⟨a,b⟩;obtain⟨k,f,rfl,e⟩:=zzD a sZ;exact⟨k,f,by simp,by rw[e]at b;exact zbx.2 b⟩}
theorem zZJ {k:Kept}{a b:List Slot}(h:KOk k a b){p:Int}(j:0<=p)(s:Slot):KOk (zj8 k a p) a (up b p s):=by have g:=zAy (zDV a p) k;refine⟨g.1.trans h.l1,g.2.trans h.l2,λi d=>?_⟩;have e:hasB i (ln k.Known)=true:=(by unfold ln at d ⊢;rwa [h.l1]);have f:=zCB (zDV a p) (by rw[h.l1,h.l2]) e;unfold zj8;by_cases c:(ix a i sZ).Page=p;{have:=f.1 (zWh.2 ⟨d,c⟩);rw[this.1,this.2];rfl};{have:=f.2 (λh=>c (zWh.1 h).2);rw[this.1,this.2,h.at' i d,zJN j c]}
theorem zDP (b:List Guest)(p:Int):∀(n:Nat) (a:List Kept),(zlW b p n a).length=a.length
 | 0,a=>rfl
 |n+1,a=>by rw[zlW,zbU,zDP b p n]
theorem zOX (b:List Guest)(p:Int):∀(n:Nat) (a:List Kept),n<=a.length->∀i,0<=i->ix (zlW b p n a) i kZ=if i<n then zj8 (ix a i kZ) (ix b i gZ).Live p else ix a i kZ
 | 0,a,_,i,c=>by rw[if_neg (by omega)];rfl
 |n+1,a,d,i,c=>by rw[zlW];by_cases e:i=n;{subst e;rw[zbj (by rw[ln,zDP];exact zI.2 (by omega)),if_pos (by omega),zOX b p n a (by omega) _ c,if_neg (by omega)]};{rw [zby (by omega) c<|Ne.symm e,zOX b p n a (by omega) i c];by_cases h:i<n;{rw [if_pos h,if_pos (by omega)]};{rw [if_neg h,if_neg (by omega)]}}
def zkv (x:Mon)(p:Int)(s:Slot):Mon:={zk4 x p x.Tables.length with Outer:=up x.Outer p s}
theorem z3q {x:Mon}(h:TOk x)(c:x.Tables.length=x.Guests.length){p:Int}(b:0<=p)(s:Slot):TOk (zkv x p s):=by intro g hg;have a:hasB g (ln x.Guests)=true:=hg;show KOk (ix (zlW x.Guests p x.Tables.length x.Tables) g kZ) (ix x.Guests g gZ).Live (up x.Outer p s);rw[zOX _ _ _ _ (qW _) _ (zI.1 a).1,if_pos (by have:=zI.1 a;unfold ln at this;omega)];exact zZJ (h g a) b s
theorem zs3 (h:Host)(m p:Int)(s:Slot):(zcz h m p s).Mons=up h.Mons m (zkv (ix h.Mons m mZ) p s):=by unfold zcz;cases ine (ix (ix h.Mons m zh).Outer p zW).Page (-1)<;>rfl
theorem zxh (h:Host)(m p:Int)(s:Slot):(zcz h m p s).Memory=h.Memory:=by unfold zcz;cases ine (ix (ix h.Mons m zh).Outer p zW).Page (-1)<;>rfl
theorem zQE (h:Host)(m p:Int)(s:Slot):(zcz h m p s).Buffer=(cond (ieq (ix (ix h.Mons m mZ).Outer p sZ).Page<|-1) h.Buffer<|flushed h.Buffer (ix (ix h.Mons m mZ).Outer p sZ).Page)/\
 (zcz h m p s).IoBuffer=(cond (ieq (ix (ix h.Mons m mZ).Outer p sZ).Page<|-1) h.IoBuffer<|flushed h.IoBuffer (ix (ix h.Mons m mZ).Outer p sZ).Page):=by
 unfold zcz
 by_cases e:(ix (ix h.Mons m zh).Outer p zW).Page = -1
 .rw [show ine (ix (ix h.Mons m zh).Outer p zW).Page (-1)=false by simp[ine,e],show ieq (ix (ix h.Mons m mZ).Outer p sZ).Page (-1)=true from zbx.2 e]
  exact⟨rfl,rfl⟩
 .rw [show ine (ix (ix h.Mons m zh).Outer p zW).Page (-1)=true from zxU.2 e,show ieq (ix (ix h.Mons m mZ).Outer p sZ).Page (-1)=false from zb6.2 e]
  exact⟨rfl,rfl⟩
theorem zJS {h k:Host}{m p:Int}{s:Slot}(n:hasB m (ln h.Mons)=true)(q:hasB p (ln (ix h.Mons m mZ).Outer)=true){x:Mon}(u:k.Mons=up h.Mons m x)(t:x.Guests=(ix h.Mons m mZ).Guests)(v:x.Outer=up (ix h.Mons m mZ).Outer p s){e:Entry}(w:zde h e=true)(c:(ix (ix h.Mons m mZ).Outer p sZ).Page = -1\/e.Host≠(ix (ix h.Mons m mZ).Outer p sZ).Page):zde k e=true:=by obtain⟨f,g,b⟩:=zgk.1 w;rw[zgk,u,zec];refine⟨f,?_⟩;by_cases l:m=zdY e.Tag;{rw [<- l]at f g b ⊢;rw[zbj n,t,v];refine⟨g,?_⟩;by_cases j:(zbH (ix (ix h.Mons m mZ).Guests (zeO e.Tag) gZ).Live e.Page).Page=p;{have a:zbB (zbH (ix (ix h.Mons m mZ).Guests (zeO e.Tag) gZ).Live e.Page) (ix h.Mons m mZ).Outer=noSlot\/e.Host≠(zbB (zbH (ix (ix h.Mons m mZ).Guests (zeO e.Tag) gZ).Live e.Page) (ix h.Mons m mZ).Outer).Page:=(by rcases zY1 (s:=zbH (ix (ix h.Mons m mZ).Guests (zeO e.Tag) gZ).Live e.Page) (o:=(ix h.Mons m mZ).Outer) with d|d;{exact .inl d};{rw [j]at d;have r:zbH (ix h.Mons m mZ).Outer p=ix (ix h.Mons m mZ).Outer p sZ:=(by unfold zbH;rw[q];rfl);rw[r]at d;rcases c with c|c;{left;unfold zbB;rw[j,r,c,show ieq (-1) (-1)=true from rfl];cases ieq p (-1)<;>rfl};{exact .inr (by rw[d];exact c)}});have i:(⟨e.Host,e.Rights⟩:Slot)=noSlot:=(by rcases a with a|a;{rw [a]at b;exact z3P b};{rcases zrW.1 b with h|h;{exact h};{exact absurd h.1 a}});rw[i];exact zrW.2 (.inl rfl)};{rw [zJN (zI.1 q).1 j];exact b}};{rw [zby (zI.1 n).1 (zI.1 f).1 l];exact⟨g,b⟩}
theorem zzQ {h:Host}(H:Rt h){m p:Int}(d:hasB m (ln h.Mons)=true)(q:hasB p (ln (ix h.Mons m mZ).Outer)=true)(u:(ix h.Mons m mZ).Tables.length=(ix h.Mons m mZ).Guests.length)(s:Slot):Rt (zcz h m p s):=by have c:=zQE h m p s;have i:=zs3 h m p s;have f:∀(b:List Entry),(∀e∈b,zde h e=true)->∀e∈(cond (ieq (ix (ix h.Mons m mZ).Outer p sZ).Page<|-1) b<|flushed b (ix (ix h.Mons m mZ).Outer p sZ).Page),zde (zcz h m p s) e=true:=(by intro b c e a;by_cases n:(ix (ix h.Mons m mZ).Outer p sZ).Page = -1;{rw [zbx.2 n,cond_true]at a;exact zJS d q i rfl rfl (c e a) (.inl n)};{rw [zb6.2 n,cond_false]at a;obtain⟨j,l⟩:=List.mem_filter.1 a;exact zJS d q i rfl rfl (c e j) (.inr (by simpa [ieq] using l))});refine⟨λk g=>?_,λe a=>f _ H.e1 e (by rwa [c.1]at a),λe a=>f _ H.e2 e (by rwa [c.2]at a)⟩;rw[i]at g ⊢;rw[zec]at g;by_cases r:m=k;{subst r;rw[zbj d];exact z3q (H.t m d) u (zI.1 q).1 s};{rw [zby (zI.1 d).1 (zI.1 g).1 r];exact H.t k g}
theorem zPI:∀(l a:List Entry),allI (alone<|a++l) l a.length=true↔(∀x∈l,∀y∈a,sameKey x y=false)/\l.Pairwise (λy x=>sameKey x y=false)
 |[],a=>by simp[allI]
 |x::l,a=>by have g:=zPI l (a++[x]);rw[kC,List.singleton_append,j9,k9] at g;rw[allI,qE,g,List.pairwise_cons];have h:alone (a++x::l) a.length x=true↔∀y∈a,sameKey x y=false:=(by unfold alone;rw[kO rfl,qM];simp);rw[h];constructor;{rintro⟨d,e,f⟩;refine⟨λz c y b=>?_,λz c=>e z c x (by simp),f⟩;rcases qG.1 c with rfl|c;{exact d y b};{exact e z c y (by simp[b])}};{rintro⟨d,e,f⟩;refine⟨λy b=>d x (by simp) y b,λz c y b=>?_,f⟩;rcases jH.1 b with b|b;{exact d z (by simp[c]) y b};{rw [qF.1 b];exact e z c}}
theorem zD0 {l:List Entry}:zf2 l=true↔l.Pairwise (λy x=>sameKey x y=false)/\l.length<=6:=by unfold zf2;have:=zPI l [];simp only[jP,kN] at this;have a:ile (ln l) 6=true↔l.length<=6:=(by rw[ile,q0,ln];omega);rw[zcj,this,a];simp
theorem zy4 {l:List Entry}(h:zf2 l=true)(P:Entry->Bool):zf2 (l.filter P)=true:=by rw[zD0]at h ⊢;exact⟨h.1.sublist List.filter_sublist,qT (uA _ _) h.2⟩
theorem zF0 {l:List Entry}(h:zf2 l=true)(p:Int):zf2 (flushed l p)=true:=zy4 h _
theorem zSS {x x':Mon}{p:Int}(a:hasB p (ln x.Outer)=true){s:Slot}(h:x'.Outer=up x.Outer p s)(q:Int):cPg x' q+(if (ix x.Outer p sZ).Page=q then 1 else 0)=cPg x q+(if s.Page=q then 1 else 0):=by have:=zPP (λs=>ieq s.Page q) a s sZ;simp only[zbx] at this;unfold cPg;rw[h];exact this
theorem zqr {s:Slot}(d:SOk s){c:List Int}:zmm s c=true↔(s.Page = -1->zcE c=true)/\(s.Page≠-1->enough s.Rights 1=true/\c=[]):=by unfold zmm;by_cases e:s=noSlot;{rw [zqb.2 e,cond_true,e];simp[noSlot]};{rw [zsl.2 e,cond_false,zcj];have:s.Page≠-1:=λh=>e (d.none h);have b:ile (ln c) 0=true↔c=[]:=(by rw[ile,q0,ln,<- uR];omega);rw[b];exact⟨λh=>⟨λa=>absurd a this,λ_=>h⟩,λh=>h.2 this⟩}
structure Chg (x x':Mon) (p:Int) (s:Slot) (c:List Int):Prop where
 o:x'.Outer=up x.Outer p s
 u:x'.Out=up x.Out p c
 g:x'.Guests=x.Guests
 t:x'.Tables.length=x.Tables.length
 d:x'.Dirty.length=x.Dirty.length
 a1:x'.Outs=x.Outs
 a2:x'.Pending=x.Pending
 a3:x'.Traps=x.Traps
 a4:x'.Own=x.Own
theorem MOk.chg {x i:Mon}(H:MOk x){p:Int}(a:hasB p 8=true){s:Slot}{c:List Int}(k:Chg x i p s c)(l:SOk s)(j:zmm s c=true):MOk i:=by refine⟨by rw[k.g];exact H.g1,by rw[k.g];exact H.g2,by rw[k.t,k.g];exact H.gt,by rw[k.o,zbU];exact H.o8,λy f=>?_,by rw[k.u,zbU];exact H.u8,by rw[k.d];exact H.d8,by rw[k.a1];exact H.outs,by rw[k.a2];exact H.pend,by rw[k.a3];exact H.tr,by rw[k.a4];exact H.own,by rw[k.g];exact H.gs,λq b=>?_⟩;{rw [k.o]at f;rcases qX f with h|h;{exact H.sl y h};{rw [h];exact l}};{rw [k.o,k.u];by_cases e:p=q;{subst e;rw[zbj<|H.hasO a,zbj<|H.hasU a];exact j};{rw [zby (zI.1 a).1 (zI.1 b).1 e,zby (zI.1 a).1 (zI.1 b).1 e];exact H.fit q b}}
structure Like (h r:Host):Prop where
 len:r.Mons.length=h.Mons.length
 g:∀i,hasB i (ln h.Mons)=true->(ix r.Mons i mZ).Guests=(ix h.Mons i mZ).Guests
 o:∀i,hasB i (ln h.Mons)=true->(ix r.Mons i mZ).Outs=(ix h.Mons i mZ).Outs
 p:∀i,hasB i (ln h.Mons)=true->(ix r.Mons i mZ).Pending=(ix h.Mons i mZ).Pending
 tr:∀i,hasB i (ln h.Mons)=true->(ix r.Mons i mZ).Traps=(ix h.Mons i mZ).Traps
 ow:∀i,hasB i (ln h.Mons)=true->(ix r.Mons i mZ).Own=(ix h.Mons i mZ).Own
 pg:∀i k,hasB i (ln h.Mons)=true->hasB k 8=true->zcR r i k=zcR h i k
theorem Like.refl (h:Host):Like h h:=⟨rfl,λ_ _=>rfl,λ_ _=>rfl,λ_ _=>rfl,λ_ _=>rfl,λ_ _=>rfl,λ_ _ _ _=>rfl⟩
theorem Like.trans {a b c:Host}(x:Like a b)(y:Like b c):Like a c:=by have k:∀i,hasB i (ln a.Mons)=true->hasB i (ln b.Mons)=true:=λi e=>(by unfold ln at e ⊢;rwa [x.len]);exact⟨y.len.trans x.len,λi h=>(y.g i<|k i h).trans (x.g i h),λi h=>(y.o i<|k i h).trans (x.o i h),λi h=>(y.p i<|k i h).trans (x.p i h),λi h=>(y.tr i<|k i h).trans (x.tr i h),λi h=>(y.ow i<|k i h).trans (x.ow i h),λi q h d=>(y.pg i q (k i h) d).trans (x.pg i q h d)⟩
theorem Like.has {h r:Host}(k:Like h r){i:Int}:hasB i (ln r.Mons)=hasB i (ln h.Mons):=by unfold ln;rw[k.len]
theorem zrk {h r:Host}{m:Int}:∀(n i:Nat),(∀k:Nat,i<=k->k<i+n->zcR r m (k:Int)=zcR h m (k:Int))->zcH r m n i=zcH h m n i
 | 0,i,_=>rfl
 |n+1,i,h=>by rw[zcH,zcH,h i (by omega) (by omega),zrk n (i+1) λk a b=>h k (by omega) (by omega)]
theorem Like.seen {h r:Host}(k:Like h r)(m:Int):zK r m=zK h m:=by unfold zK;rw[k.has];cases a:hasB m (ln h.Mons) with|false=>rfl|true=>simp only[cond_true];rw[k.g m a,k.o m a,k.p m a,zrk 8 0 λj b c=>k.pg m j a (zI.2 (by omega))]
theorem zoo {h:Host}{m p:Int}(a:hasB m (ln h.Mons)=true)(c:hasB p 8=true)(b:hasB p (ln (ix h.Mons m mZ).Outer)=true) :
 zcR h m p=bif ieq (ix (ix h.Mons m mZ).Outer p sZ).Page (-1) then zcG (ix h.Mons m mZ).Out p else zcG h.Memory (ix (ix h.Mons m mZ).Outer p sZ).Page:=by
 unfold zcR;have:zbH (ix h.Mons m mZ).Outer p=ix (ix h.Mons m mZ).Outer p sZ:=by unfold zbH;rw[b];rfl
 rw[a,c,cond_true,cond_true,this]
 by_cases e:(ix (ix h.Mons m mZ).Outer p sZ).Page = -1
 .rw [zbx.2 e,show ine (ix (ix h.Mons m mZ).Outer p sZ).Page (-1)=false by simp[ine,e]];rfl
 .rw [zb6.2 e,show ine (ix (ix h.Mons m mZ).Outer p sZ).Page (-1)=true from zxU.2 e];rfl
theorem zlz {m:List (List Int)}{p:Int}(h:hasB p (ln m)=true):zcG m p=ix m p []:=by unfold zcG;rw[h];rfl
theorem zQq {m:List (List Int)}(h:∀c∈m,zcE c=true)(p:Int):zcE (zcG m p)=true:=by unfold zcG;cases a:hasB p (ln m) with|false=>rfl|true=>exact h _ (zmh a _)
theorem zwz {h r:Host}(H:HOk h){m p:Int}(b:hasB m (ln h.Mons)=true)(i:hasB p 8=true){x:Mon}{s:Slot}{c:List Int}(n:r.Mons=up h.Mons m x)(k:Chg (ix h.Mons m mZ) x p s c)(u:SOk s)(t:zmm s c=true)(f:r.Memory.length=12)(g:∀c∈r.Memory,zcE c=true)(j:zf2 r.Buffer=true)(l:zf2 r.IoBuffer=true)(v:0<=s.Page->s.Page=(ix (ix h.Mons m mZ).Outer p sZ).Page\/zfM h.Mons s.Page=0):HOk r:=by refine H.up b ((H.mon b).chg i k u t) n f g j l λq z=>?_;have d:=zSS ((H.mon b).hasO i) k.o q;by_cases e:s.Page=q;{have a:=v (by omega);rw[if_pos e]at d;rcases a with a|a;{rw [if_pos (by omega)]at d;left;omega};{right;rw[e] at a;refine⟨a,?_⟩;have:=zyJ b x q;have y:cPg (ix h.Mons m mZ) q<=zfM h.Mons q:=(by have:=zyJ b (⟨[],[],[],[],[],0,0,[],0⟩:Mon) q;have w:cPg (⟨[],[],[],[],[],0,0,[],0⟩:Mon) q=0:=rfl;omega);omega}};{rw [if_neg e]at d;left;split at d<;>omega}
theorem zvT {h r:Host}(H:HOk h){m p:Int}(a:hasB m (ln h.Mons)=true)(y:hasB p 8=true){x:Mon}{s:Slot}{c:List Int}(n:r.Mons=up h.Mons m x)(k:Chg (ix h.Mons m mZ) x p s c)(B:(cond (ieq s.Page<|-1) c<|zcG r.Memory s.Page)=zcR h m p)(f:∀i q,hasB i (ln h.Mons)=true->hasB q 8=true->¬ (i=m/\q=p)->(ix (ix h.Mons i mZ).Outer q sZ).Page≠-1->zcG r.Memory (ix (ix h.Mons i mZ).Outer q sZ).Page=zcG h.Memory (ix (ix h.Mons i mZ).Outer q sZ).Page):Like h r:=by have l:=(zI.1 a).1;have t:=(zI.1 y).1;have e:∀{C:Type} (F:Mon->C),F x=F (ix h.Mons m mZ)->∀i,hasB i (ln h.Mons)=true->F (ix r.Mons i mZ)=F (ix h.Mons i mZ):=(by intro C F D i d;rw[n];by_cases e:m=i;{subst e;rw[zbj a];exact D};{rw [zby l (zI.1 d).1 e]});refine⟨by rw[n,zbU],e Mon.Guests k.g,e Mon.Outs k.a1,e Mon.Pending k.a2,e Mon.Traps k.a3,e Mon.Own k.a4,λi q d b=>?_⟩;have A:hasB i (ln r.Mons)=true:=(by rw[n,zec];exact d);have w:=(H.mon d).hasO b;have z:hasB q (ln (ix r.Mons i mZ).Outer)=true:=(by rw[n];by_cases e:m=i;{subst e;rw[zbj a,k.o,zec];exact w};{rw [zby l (zI.1 d).1 e];exact w});rw[zoo A b z];by_cases e:m=i;{subst e;rw[n,zbj a,k.o,k.u];by_cases v:p=q;{subst v;rw[zbj<|(H.mon a).hasO y,<- B];cases ieq s.Page (-1);{rfl};{rw [cond_true,cond_true,zlz (by rw[zec];exact(H.mon a).hasU y),zbj<|(H.mon a).hasU y]}};{rw [zby t (zI.1 b).1 v,zoo a b w];by_cases j:(ix (ix h.Mons m mZ).Outer q sZ).Page = -1;{rw [zbx.2 j,cond_true,cond_true,zlz (by rw[zec];exact(H.mon a).hasU b),zlz<|(H.mon a).hasU b,zby t (zI.1 b).1 v]};{rw [zb6.2 j,cond_false,cond_false,f m q a b (λh=>v h.2.symm) j]}}};{rw [n,zby l (zI.1 d).1 e,zoo d b w];by_cases j:(ix (ix h.Mons i mZ).Outer q sZ).Page = -1;{rw [zbx.2 j,cond_true,cond_true]};{rw [zb6.2 j,cond_false,cond_false,f i q d b (λh=>e h.1.symm) j]}}
structure Op (h r:Host):Prop where
 ok:HOk r
 like:Like h r
 rt:Rt h->Rt r
theorem Op.refl {h:Host}(H:HOk h):Op h h:=⟨H,Like.refl h,id⟩
theorem Op.trans {a b c:Host}(x:Op a b)(y:Op b c):Op a c:=⟨y.ok,x.like.trans y.like,λh=>y.rt (x.rt h)⟩
theorem Op.safe {h r:Host}(k:Op h r)(s:Safe h):Safe r:=⟨k.ok,k.rt s.rt⟩
theorem zLO {h r:Host}(H:Rt h){m:Int}(l:hasB m (ln h.Mons)=true){x:Mon}(u:r.Mons=up h.Mons m x)(q:r.Buffer=h.Buffer)(s:r.IoBuffer=h.IoBuffer)(y:x.Guests.length=(ix h.Mons m mZ).Guests.length)(w:∀g,hasB g (ln (ix h.Mons m mZ).Guests)=true->(ix x.Guests g gZ).Live=(ix (ix h.Mons m mZ).Guests g gZ).Live)(z:x.Tables=(ix h.Mons m mZ).Tables)(v:x.Outer=(ix h.Mons m mZ).Outer):Rt r:=by have d:=(zI.1 l).1;have hg:∀g,hasB g (ln x.Guests)=hasB g (ln (ix h.Mons m mZ).Guests):=λg=>(by unfold ln;rw[y]);have f:∀e,zde h e=true->zde r e=true:=(by intro e c;obtain⟨n,i,p⟩:=zgk.1 c;rw[zgk,u,zec];refine⟨n,?_⟩;by_cases b:m=zdY e.Tag;{rw [<- b]at n i p ⊢;rw[zbj l,hg,w _ i,v];exact⟨i,p⟩};{rw [zby d (zI.1 n).1 b];exact⟨i,p⟩});refine⟨λk j=>?_,λe c=>f e (H.e1 e (by rwa [q]at c)),λe c=>f e (H.e2 e (by rwa [s]at c))⟩;rw[u]at j ⊢;rw[zec]at j;by_cases b:m=k;{subst b;rw[zbj l];intro g a;rw[hg]at a;rw[z,w g a,v];exact H.t m l g a};{rw [zby d (zI.1 j).1 b];exact H.t k j}
theorem zqc {h a:Host}{m p:Int}{s:Slot}{x:Mon}(b:hasB m (ln h.Mons)=true)(e:a.Mons=up h.Mons m x):(zcz a m p s).Mons=up h.Mons m (zkv x p s):=by rw[zs3,e,zbj b,z3D]
theorem zCn {x a:Mon}{p:Int}{s:Slot}{c:List Int}(h:a.Outer=x.Outer)(j:a.Out=up x.Out p c)(hg:a.Guests=x.Guests)(i:a.Tables=x.Tables)(g:a.Dirty.length=x.Dirty.length)(b:a.Outs=x.Outs)(d:a.Pending=x.Pending)(e:a.Traps=x.Traps)(f:a.Own=x.Own):Chg x (zkv a p s) p s c :=
 ⟨by show up a.Outer p s=_;rw[h],j,hg,by show (zlW a.Guests p a.Tables.length a.Tables).length=_;rw[zDP,i],g,b,d,e,f⟩
theorem zvd {h:Host}{m p:Int}{s:Slot}(a:zf2 h.Buffer=true)(b:zf2 h.IoBuffer=true):zf2 (zcz h m p s).Buffer=true/\zf2 (zcz h m p s).IoBuffer=true:=by have:=zQE h m p s;rw[this.1,this.2];cases ieq (ix (ix h.Mons m mZ).Outer p sZ).Page (-1);{exact⟨zF0 a _,zF0 b _⟩};{exact⟨a,b⟩}
theorem hasM {h:Host}(H:HOk h){s:Slot}(b:SOk s)(a:s.Page≠-1):hasB s.Page (ln h.Memory)=true:=by have:=b.pos a;exact zI.2 ⟨this.1,by unfold ln;rw[H.m12];omega⟩
theorem zYg {h:Host}(H:HOk h){m p:Int}(b:hasB m (ln h.Mons)=true)(c:hasB p 8=true)(l:(ix (ix h.Mons m mZ).Outer p sZ).Page≠-1):Op h (zd5 h m p):=by
 have X:=H.mon b;have f:(zd5 h m p).Mons=up h.Mons m (zkv {ix h.Mons m mZ with Out:=up (ix h.Mons m mZ).Out p (zcG h.Memory (ix (ix h.Mons m mZ).Outer p sZ).Page)} p noSlot):=zqc b rfl;have k:Chg (ix h.Mons m mZ) (zkv {ix h.Mons m mZ with Out:=up (ix h.Mons m mZ).Out p (zcG h.Memory (ix (ix h.Mons m mZ).Outer p sZ).Page)} p noSlot) p noSlot (zcG h.Memory (ix (ix h.Mons m mZ).Outer p sZ).Page):=zCn rfl rfl rfl rfl rfl rfl rfl rfl rfl;have a:(zd5 h m p).Memory=h.Memory:=zxh _ _ _ _;have g:=zvd (h:=zfp h m p) (m:=m) (p:=p) (s:=noSlot) H.b1 H.b2;refine⟨zwz H b c f k (.inl rfl) ((zqr (.inl rfl)).2 ⟨λ_=>zQq H.pgs _,λh=>absurd rfl h⟩) (by rw[a];exact H.m12) (by rw[a];exact H.pgs) g.1 g.2 λh=>absurd h (by decide),
  zvT H b c f k ?_ (λi q _ _ _ _=>by rw[a]),λR=>?_⟩
 {rw [zoo b c<|X.hasO c,zb6.2 l];rfl};{have j:Rt (zfp h m p):=zLO (x:={ix h.Mons m mZ with Out:=up (ix h.Mons m mZ).Out p (zcG h.Memory (ix (ix h.Mons m mZ).Outer p sZ).Page)}) R b rfl rfl rfl rfl (λ_ _=>rfl) rfl rfl;have d:hasB m (ln (zfp h m p).Mons)=true:=(by show hasB m (ln<|up h.Mons m _)=true;rw[zec];exact b);have e:ix (zfp h m p).Mons m mZ={ix h.Mons m mZ with Out:=up (ix h.Mons m mZ).Out p (zcG h.Memory (ix (ix h.Mons m mZ).Outer p sZ).Page)}:=zbj b _ _;exact zzQ j d (by rw[e];exact X.hasO c) (by rw[e];exact X.gt) noSlot}
theorem zF5 {o:List Slot}{q:Int}:zoM o q=none↔o.countP (λs=>ieq s.Page q)=0:=by unfold zoM;rw[List.findIdx?_eq_none_iff,vC];simp
theorem zWB {o:List Slot}{q:Int}{k:Nat}(h:zoM o q=some k):∃a:k<o.length,o[k].Page=q:=by unfold zoM at h;rw[uX]at h;obtain⟨a,b,_⟩:=h;exact⟨a,zbx.1 b⟩
theorem zzL {q:Int}:∀(l:List Mon) (i:Nat),((ziL q l i).1<0↔zfM l q=0)/\(¬ (ziL q l i).1<0->∃a b:Nat,∃f:a<l.length,∃g:b<l[a].Outer.length,ziL q l i=(((i+a:Nat):Int),(b:Int))/\l[a].Outer[b].Page=q)
 |[],i=>⟨by simp[ziL,zfM],λh=>absurd (show (-1:Int)<0 by decide) h⟩
 |x::l,i=>by have j:=zzL (q:=q) l (i+1);unfold ziL;split;{rename_i k c;obtain⟨m,n⟩:=zWB c;refine⟨⟨λh=>by simp at h;omega,λh=>?_⟩,λ_=>⟨0,k,by simp,m,by simp,n⟩⟩;exfalso;simp only[zfM,jD,uI]at h;have d:x.Outer.countP (λs=>ieq s.Page q)=0:=(by unfold cPg at h;omega);rw[zF5.2 d]at c;cases c};{rename_i c;have d:=zF5.1 c;refine⟨?_,λh=>?_⟩;{rw [j.1];simp only[zfM,jD,uI];unfold cPg;omega};{obtain⟨a,b,f,g,e,p⟩:=j.2 h;exact⟨a+1,b,by simpa using f,by simpa using g,by rw[e];simp;omega,by simpa using p⟩}}
theorem zIi {h:Host}{q:Int}(a:0<=q):(zbR h q).1<0↔zfM h.Mons q=0:=by unfold zbR;rw[show ilt q 0=false from qK (by omega),cond_false];exact(zzL h.Mons 0).1
theorem z5j {h:Host}(H:HOk h){q:Int}(j:0<=q)(c:¬ (zbR h q).1<0):hasB (zbR h q).1 (ln h.Mons)=true/\hasB (zbR h q).2 8=true/\(ix (ix h.Mons (zbR h q).1 mZ).Outer (zbR h q).2 sZ).Page=q:=by unfold zbR at c ⊢;rw[show ilt q 0=false from qK (by omega),cond_false]at c ⊢;obtain⟨a,b,d,f,e,g⟩:=(zzL h.Mons 0).2 c;rw[e,jX];have i:=(H.mons _<|jK d).o8;exact⟨zI.2 (by unfold ln;simp;omega),zI.2 (by simp;omega),by rw[zm6 d,zm6 f];exact g⟩
theorem zTH {P:Nat->Bool}:∀{n i:Nat} {q:Int},q∈zwX P n i↔∃k:Nat,q=(k:Int)/\i<=k/\k<i+n/\P k=true
 | 0,i,q=>by simp[zwX];intro k _ _ _;omega
 |n+1,i,q=>by
  have d:=@zTH P n (i+1) q;unfold zwX;constructor
  .intro h;cases c:P i with
   |true=>rw[c,cond_true,qG]at h;rcases h with h|h;{exact⟨i,h,by omega,by omega,c⟩};{obtain⟨k,a,f,g,b⟩:=d.1 h;exact⟨k,a,by omega,by omega,b⟩}
   |false=>rw[c,cond_false]at h;obtain⟨k,a,f,g,b⟩:=d.1 h;exact⟨k,a,by omega,by omega,b⟩
  {rintro⟨k,a,f,g,b⟩;by_cases e:k=i;{subst e;rw[b,cond_true,a];exact jB};{have:=d.2 ⟨k,a,by omega,by omega,b⟩;cases P i;{exact this};{exact qY _ this}}}
theorem zHe {h:Host}{q:Int}:q∈zct h↔hasB q (ln h.Memory)=true/\zfM h.Mons q=0:=by unfold zct;rw[zTH];constructor;{rintro⟨k,rfl,b,c,d⟩;exact⟨zI.2 (by unfold ln;omega),(zIi (by omega)).1 (qD d)⟩};{rintro⟨b,c⟩;have a:=zI.1 b;unfold ln at a;refine⟨q.toNat,by omega,by omega,by omega,?_⟩;rw[show ((q.toNat:Nat):Int)=q by omega];exact qI ((zIi a.1).2 c)}
theorem zZy {h:Host}(a:zct h≠[]):hasB (ix (zct h) 0 0) (ln h.Memory)=true/\zfM h.Mons (ix (zct h) 0 0)=0:=by refine zHe.1 (zmh (zI.2 ⟨by omega,?_⟩) 0);unfold ln;have:=kS.2 a;omega
structure But (h r:Host) (m p:Int):Prop where
 ne:∀i k,hasB i (ln h.Mons)=true->hasB k 8=true->¬ (i=m/\k=p)->ix (ix r.Mons i mZ).Outer k sZ=ix (ix h.Mons i mZ).Outer k sZ
theorem zGT {h r:Host}{m p:Int}(a:hasB m (ln h.Mons)=true)(j:hasB p 8=true){x:Mon}{s:Slot}(b:r.Mons=up h.Mons m x)(g:x.Outer=up (ix h.Mons m mZ).Outer p s):But h r m p:=by refine⟨λi k d f c=>?_⟩;rw[b];by_cases e:m=i;{subst e;rw[zbj a,g,zby (zI.1 j).1 (zI.1 f).1 λe=>c ⟨rfl,e.symm⟩]};{rw [zby (zI.1 a).1 (zI.1 d).1 e]}
theorem z3k {h:Host}(H:HOk h){m p:Int}(a:hasB m (ln h.Mons)=true)(c:hasB p 8=true):But h (zd5 h m p) m p/\ix (ix (zd5 h m p).Mons m mZ).Outer p sZ=noSlot:=by have b:(zd5 h m p).Mons=up h.Mons m (zkv {ix h.Mons m mZ with Out:=up (ix h.Mons m mZ).Out p (zcG h.Memory (ix (ix h.Mons m mZ).Outer p sZ).Page)} p noSlot):=zqc a rfl;refine⟨zGT a c b rfl,?_⟩;rw[b,zbj a];exact zbj ((H.mon a).hasO c) _ _
structure Roomy (h r:Host):Prop where
 op:Op h r
 free:zct r≠[]
 sl:∀i k,hasB i (ln h.Mons)=true->hasB k 8=true->ix (ix r.Mons i mZ).Outer k sZ=ix (ix h.Mons i mZ).Outer k sZ\/ix (ix r.Mons i mZ).Outer k sZ=noSlot
 dirt:∀i,(ix r.Mons i mZ).Dirty=(ix h.Mons i mZ).Dirty
theorem zMO {h r:Host}{m:Int}(c:hasB m (ln h.Mons)=true){x:Mon}(a:r.Mons=up h.Mons m x)(b:x.Dirty=(ix h.Mons m mZ).Dirty)(i:Int):(ix r.Mons i mZ).Dirty=(ix h.Mons i mZ).Dirty:=by
 rw[a];by_cases e:i.toNat=m.toNat
 {have:∀l:List Mon,ix l i mZ=ix l m mZ:=λl=>(by unfold ix;rw[e]);rw[this,this,zbj c,b]};{unfold ix up;simp[List.getD,q9,Ne.symm e]}
theorem roomy {h:Host}(H:HOk h):Roomy h (zdm h):=by unfold zdm;by_cases b:zct h=[];{rw [show ieq (ln<|zct h) 0=true by rw[b];rfl,cond_true];have p:¬ (zbR h 0).1<0:=λd=>(by have:(0:Int)∈zct h:=zHe.2 ⟨zI.2 (by unfold ln;rw[H.m12];omega),(zIi (by omega)).1 d⟩;rw[b] at this;cases this);obtain⟨a,c,f⟩:=z5j H (by omega) p;have k:=zYg H a c (by rw[f];decide);have j:=z3k H a c;refine⟨k,λd=>?_,λi q g r=>?_,λi=>zMO (x:=zkv {ix h.Mons (zbR h 0).1 mZ with Out:=up (ix h.Mons (zbR h 0).1 mZ).Out (zbR h 0).2 (zcG h.Memory (ix (ix h.Mons (zbR h 0).1 mZ).Outer (zbR h 0).2 sZ).Page)} (zbR h 0).2 noSlot) a (zqc a rfl) rfl i⟩;{have:(0:Int)∈zct (zd5 h (zbR h 0).1 (zbR h 0).2):=(by refine zHe.2 ⟨zI.2 (by unfold ln;rw[k.ok.m12];omega),?_⟩;have n:(zd5 h (zbR h 0).1 (zbR h 0).2).Mons=up h.Mons (zbR h 0).1 (zkv {ix h.Mons (zbR h 0).1 mZ with Out:=up (ix h.Mons (zbR h 0).1 mZ).Out (zbR h 0).2 (zcG h.Memory (ix (ix h.Mons (zbR h 0).1 mZ).Outer (zbR h 0).2 sZ).Page)} (zbR h 0).2 noSlot):=zqc a rfl;have l:=zyJ a (zkv {ix h.Mons (zbR h 0).1 mZ with Out:=up (ix h.Mons (zbR h 0).1 mZ).Out (zbR h 0).2 (zcG h.Memory (ix (ix h.Mons (zbR h 0).1 mZ).Outer (zbR h 0).2 sZ).Page)} (zbR h 0).2 noSlot) 0;rw[<- n] at l;have m:=zSS (x':=zkv {ix h.Mons (zbR h 0).1 mZ with Out:=up (ix h.Mons (zbR h 0).1 mZ).Out (zbR h 0).2 (zcG h.Memory (ix (ix h.Mons (zbR h 0).1 mZ).Outer (zbR h 0).2 sZ).Page)} (zbR h 0).2 noSlot) ((H.mon a).hasO c) (s:=noSlot) rfl 0;rw[if_pos f,if_neg (by decide)] at m;have t:=H.uq 0 (by omega);omega);rw[d] at this;cases this};{by_cases e:i=(zbR h 0).1/\q=(zbR h 0).2;{rw [e.1,e.2];exact .inr j.2};{exact .inl (j.1.ne i q g r e)}}};{have:ieq (ln<|zct h) 0=false:=zb6.2 (by unfold ln;have:=kS.2 b;omega);rw[this,cond_false];exact⟨Op.refl H,b,λi k g u=>.inl rfl,λ_=>rfl⟩}
theorem zXH {m:List (List Int)}{p:Int}{c:List Int}(b:hasB p (ln m)=true)(a:zcE c=true):zjb m p c=up m p c:=by unfold zjb;rw[b,a];rfl
theorem zDg {m:List (List Int)}{p q:Int}{c:List Int}(a:0<=p)(h:q≠p):zcG (up m p c) q=zcG m q:=by unfold zcG;rw[zec];cases b:hasB q (ln m) with|false=>rfl|true=>rw[cond_true,cond_true,zby a (zI.1 b).1<|Ne.symm h]
theorem zDf {m:List (List Int)}{p:Int}{c:List Int}(a:hasB p (ln m)=true):zcG (up m p c) p=c:=by rw[zlz (by rw[zec];exact a),zbj a]
theorem zZ4 {h:Host}(H:HOk h){m p a:Int}(d:hasB m (ln h.Mons)=true)(f:hasB p 8=true)(z:(ix (ix h.Mons m mZ).Outer p sZ).Page = -1)(u:hasB a (ln h.Memory)=true)(B:zfM h.Mons a=0) :
 Op h (zfC h m p a)/\But h (zfC h m p a) m p/\ix (ix (zfC h m p a).Mons m mZ).Outer p sZ=⟨a,3⟩/\∀i,(ix (zfC h m p a).Mons i mZ).Dirty=(ix h.Mons i mZ).Dirty:=by
 have X:=H.mon d;have g:=zI.1 u;unfold ln at g;rw[H.m12]at g;have l:(zfC h m p a).Mons=up h.Mons m (zkv {ix h.Mons m mZ with Out:=up (ix h.Mons m mZ).Out p []} p ⟨a,3⟩):=zqc d rfl;have k:Chg (ix h.Mons m mZ) (zkv {ix h.Mons m mZ with Out:=up (ix h.Mons m mZ).Out p []} p ⟨a,3⟩) p ⟨a,3⟩ []:=zCn rfl rfl rfl rfl rfl rfl rfl rfl rfl;have j:=((zqr<|X.slot f).1 (X.fit p f)).1 z;have b:(zfC h m p a).Memory=up h.Memory a (ix (ix h.Mons m mZ).Out p []):=by show (zcz (landing h m p a) m p ⟨a,3⟩).Memory=_;rw[zxh];exact zXH u j
 have A:SOk ⟨a,3⟩:=.inr ⟨g.1,by show a<=11;omega,by show (1:Int)<=3;omega,by show (3:Int)<=3;omega⟩
 have w:=zvd (h:=landing h m p a) (m:=m) (p:=p) (s:=⟨a,3⟩) H.b1 H.b2;refine⟨⟨zwz H d f l k A ((zqr A).2 ⟨λh=>absurd h (by show a≠-1;omega),λ_=>⟨show enough 3 1=true by decide,rfl⟩⟩) (by rw[b,zbU];exact H.m12) (λc r=>?_) w.1 w.2 λ_=>.inr B,
  zvT H d f l k ?_ λi q y D r C=>?_,λR=>?_⟩,zGT d f l rfl,?_,λi=>zMO (x:=zkv {ix h.Mons m mZ with Out:=up (ix h.Mons m mZ).Out p []} p ⟨a,3⟩) d l rfl i⟩
 .rw [b]at r;rcases qX r with n|n
  .exact H.pgs c n
  .rw [n];exact j
 .rw [zoo d f<|X.hasO f,zbx.2 z,cond_true,zlz<|X.hasU f];rw[show ieq (⟨a,3⟩:Slot).Page (-1)=false from zb6.2 (by show a≠-1;omega),cond_false,b]
  exact zDf u
 .rw [b];refine zDg g.1 (λe=>?_);have:=zGU y ((H.mon y).hasO D);rw[e] at this;omega
 .have R1:Rt (landing h m p a):=zLO (x:={ix h.Mons m mZ with Out:=up (ix h.Mons m mZ).Out p []}) R d rfl rfl rfl rfl (λ_ _=>rfl) rfl rfl;have t:hasB m (ln (landing h m p a).Mons)=true:=by show hasB m (ln<|up h.Mons m _)=true;rw[zec];exact d
  have v:ix (landing h m p a).Mons m mZ={ix h.Mons m mZ with Out:=up (ix h.Mons m mZ).Out p []}:=zbj d _ _;exact zzQ R1 t (by rw[v];exact X.hasO f) (by rw[v];exact X.gt) _
 .rw [l,zbj d];exact zbj (X.hasO f) _ _
theorem zLB {h:Host}(H:HOk h){m p:Int}(f:hasB m (ln h.Mons)=true)(g:hasB p 8=true)(k:(ix (ix h.Mons m mZ).Outer p sZ).Page = -1) :
 Op h (fetched h m p)/\(∃e,0<=e/\e<=11/\ix (ix (fetched h m p).Mons m mZ).Outer p sZ=⟨e,3⟩)/\∀i,(ix (fetched h m p).Mons i mZ).Dirty=(ix h.Mons i mZ).Dirty:=by
 have R:=roomy H;have c:hasB m (ln (zdm h).Mons)=true:=by rw[R.op.like.has];exact f
 have d:(ix (ix (zdm h).Mons m mZ).Outer p sZ).Page = -1:=by rcases R.sl m p f g with b|b<;>rw [b];{exact k};{rfl}
 obtain⟨b,j⟩:=zZy R.free;obtain⟨l,r,n,q⟩:=zZ4 R.op.ok c g d b j;have a:=zI.1 b;unfold ln at a;rw[R.op.ok.m12]at a;exact⟨R.op.trans l,⟨_,a.1,by omega,n⟩,λi=>(q i).trans (R.dirt i)⟩
theorem zou {o:List Slot}{p:Int}(h:hasB p (ln o)=true):zbH o p=ix o p sZ:=by unfold zbH;rw[h];rfl
theorem zlA {h:Host}(H:HOk h){m p:Int}(a:hasB m (ln h.Mons)=true)(b:hasB p 8=true) :
 (cond (ieq (ix (ix h.Mons m mZ).Outer p sZ).Page<|-1) (ix (ix h.Mons m mZ).Out p [])<|zcG h.Memory (ix (ix h.Mons m mZ).Outer p sZ).Page)=zcR h m p:=by
 rw[zoo a b<|(H.mon a).hasO b,zlz<|(H.mon a).hasU b]
structure Mark (x y:Mon):Prop where
 o:y.Outer=x.Outer
 u:y.Out=x.Out
 g:y.Guests=x.Guests
 t:y.Tables=x.Tables
 d:y.Dirty.length=x.Dirty.length
 a1:y.Outs=x.Outs
 a2:y.Pending=x.Pending
 a3:y.Traps=x.Traps
 a4:y.Own=x.Own
theorem zYf {h:Host}(H:HOk h){m:Int}(b:hasB m (ln h.Mons)=true){y:Mon}(k:Mark (ix h.Mons m mZ) y):Op h {h with Mons:=up h.Mons m y}/\∀i q,ix (ix (up h.Mons m y) i mZ).Outer q sZ=ix (ix h.Mons i mZ).Outer q sZ:=by
 have X:=H.mon b;have a:hasB 0 8=true:=(by decide);have c:Chg (ix h.Mons m mZ) y 0 (ix (ix h.Mons m mZ).Outer 0 sZ) (ix (ix h.Mons m mZ).Out 0 []):=⟨by rw[zIL<|X.hasO a,k.o],by rw[zIL<|X.hasU a,k.u],k.g,by rw[k.t],k.d,k.a1,k.a2,k.a3,k.a4⟩
 refine⟨⟨zwz H b a rfl c (X.slot a) (X.fit 0 a) H.m12 H.pgs H.b1 H.b2 λ_=>.inl rfl,zvT H b a rfl c (zlA H b a) λ_ _ _ _ _ _=>rfl,
  λR=>zLO R b rfl rfl rfl (by rw[k.g]) (λg _=>by rw[k.g]) k.t k.o⟩,λi q=>?_⟩
 by_cases e:i.toNat=m.toNat
 {have:∀l:List Mon,ix l i mZ=ix l m mZ:=λl=>(by unfold ix;rw[e]);rw[this,this,zbj b,k.o]};{have:ix (up h.Mons m y) i mZ=ix h.Mons i mZ:=(by unfold ix up;simp[List.getD,q9,Ne.symm e]);rw[this]}
theorem zLA {h:Host}(H:HOk h){m:Int}(a:hasB m (ln h.Mons)=true)(p:Int):Op h (zbJ h m p)/\∀i q,ix (ix (zbJ h m p).Mons i mZ).Outer q sZ=ix (ix h.Mons i mZ).Outer q sZ :=
 zYf H a ⟨rfl,rfl,rfl,rfl,zbU _ _ _,rfl,rfl,rfl,rfl⟩
theorem z2J {h:Host}(H:HOk h){m:Int}(a:hasB m (ln h.Mons)=true)(p:Int):Op h (zq1 h m p)/\∀i q,ix (ix (zq1 h m p).Mons i mZ).Outer q sZ=ix (ix h.Mons i mZ).Outer q sZ :=
 zYf H a ⟨rfl,rfl,rfl,rfl,zbU _ _ _,rfl,rfl,rfl,rfl⟩
theorem rights {r:Int}(a:1<=r)(b:r<=3):r=1\/r=2\/r=3:=by omega
theorem MOk.enough1 {x:Mon}(X:MOk x){p:Int}(a:hasB p 8=true)(d:(ix x.Outer p sZ).Page≠-1):(ix x.Outer p sZ).Rights=1\/(ix x.Outer p sZ).Rights=3:=by have b:=(((zqr<|X.slot a).1 (X.fit p a)).2 d).1;have c:=(X.slot a).pos d;rcases rights c.2.2.1 c.2.2.2 with e|e|e;{exact .inl e};{rw [e]at b;exact absurd b (by decide)};{exact .inr e}
theorem zQn {h:Host}(H:HOk h){m p:Int}(c:hasB m (ln h.Mons)=true)(b:hasB p 8=true)(g:(ix (ix h.Mons m mZ).Outer p sZ).Page≠-1){r:Int}(n:r=1\/r=3) :
 Op h (zcz h m p ⟨(ix (ix h.Mons m mZ).Outer p sZ).Page,r⟩)/\But h (zcz h m p ⟨(ix (ix h.Mons m mZ).Outer p sZ).Page,r⟩) m p/\
  ix (ix (zcz h m p ⟨(ix (ix h.Mons m mZ).Outer p sZ).Page,r⟩).Mons m mZ).Outer p sZ=⟨(ix (ix h.Mons m mZ).Outer p sZ).Page,r⟩/\∀i,(ix (zcz h m p ⟨(ix (ix h.Mons m mZ).Outer p sZ).Page,r⟩).Mons i mZ).Dirty=(ix h.Mons i mZ).Dirty:=by
 have X:=H.mon c;have d:=(X.slot b).pos g;have e:=zs3 h m p ⟨(ix (ix h.Mons m mZ).Outer p sZ).Page,r⟩;have k:Chg (ix h.Mons m mZ) (zkv (ix h.Mons m mZ) p ⟨(ix (ix h.Mons m mZ).Outer p sZ).Page,r⟩) p ⟨(ix (ix h.Mons m mZ).Outer p sZ).Page,r⟩ (ix (ix h.Mons m mZ).Out p []):=
  zCn rfl (zIL (X.hasU b) _).symm rfl rfl rfl rfl rfl rfl rfl
 have l:SOk ⟨(ix (ix h.Mons m mZ).Outer p sZ).Page,r⟩:=.inr ⟨d.1,d.2.1,by show 1<=r;omega,by show r<=3;omega⟩
 have f:=((zqr<|X.slot b).1 (X.fit p b)).2 g;have j:=zvd (h:=h) (m:=m) (p:=p) (s:=⟨(ix (ix h.Mons m mZ).Outer p sZ).Page,r⟩) H.b1 H.b2;have a:=zxh h m p ⟨(ix (ix h.Mons m mZ).Outer p sZ).Page,r⟩;refine⟨⟨zwz H c b e k l ((zqr l).2 ⟨λh=>absurd h g,λ_=>⟨?_,f.2⟩⟩) (by rw[a];exact H.m12) (by rw[a];exact H.pgs) j.1 j.2 λ_=>.inl rfl,
  zvT H c b e k (by rw[a];exact zlA H c b) (λi q _ _ _ _=>by rw[a]),λR=>zzQ R c (X.hasO b) X.gt _⟩,zGT c b e rfl,?_,λi=>zMO c e rfl i⟩
 .show enough r 1=true
  rcases n with rfl|rfl<;>decide
 .rw [e,zbj c];exact zbj (X.hasO b) _ _
structure Mended (h r:Host) (m p n:Int):Prop where
 op:Op h r
 inn:(ix (ix r.Mons m mZ).Outer p sZ).Page≠-1
 ri:ieq (wand .i64 n 2) 0=false->(ix (ix r.Mons m mZ).Outer p sZ).Rights=3
 dt:ieq (wand .i64 n 2) 0=false->ix (ix r.Mons m mZ).Dirty p false=true
 d0:ieq (wand .i64 n 2) 0=true->(ix r.Mons m mZ).Dirty=(ix h.Mons m mZ).Dirty
 dk:∀k,hasB k 8=true->k≠p->ix (ix r.Mons m mZ).Dirty k false=ix (ix h.Mons m mZ).Dirty k false
 dm:∀i,hasB i (ln h.Mons)=true->i≠m->(ix r.Mons i mZ).Dirty=(ix h.Mons i mZ).Dirty
theorem zUG {h:Host}(H:HOk h){m p:Int}(n:Int)(c:hasB m (ln h.Mons)=true)(g:hasB p 8=true)(v:(ix (ix h.Mons m mZ).Outer p sZ).Page≠-1):Mended h (zke h m p n) m p n:=by
 unfold zke;cases s:ieq (wand .i64 n 2) 0 with
 |true=>exact⟨Op.refl H,v,λe=>Bool.noConfusion<|s.symm.trans e,λe=>Bool.noConfusion<|s.symm.trans e,λ_=>rfl,λ_ _ _=>rfl,λ_ _ _=>rfl⟩
 |false=>rw[cond_false];obtain⟨f,C⟩:=zLA H c p;have d:hasB m (ln (zbJ h m p).Mons)=true:=(by rw[f.like.has];exact c);have a:(ix (ix (zbJ h m p).Mons m mZ).Outer p sZ).Page≠-1:=(by rw[C];exact v);have u:(ix (zbJ h m p).Mons m mZ).Dirty=up (ix h.Mons m mZ).Dirty p true:=(by show (ix (up h.Mons m _) m mZ).Dirty=_;rw[zbj c]);have l:∀i,hasB i (ln h.Mons)=true->i≠m->(ix (zbJ h m p).Mons i mZ).Dirty=(ix h.Mons i mZ).Dirty:=λi q b=>(by show (ix (up h.Mons m _) i mZ).Dirty=_;rw[zby (zI.1 c).1 (zI.1 q).1<|Ne.symm b]);have A:=(f.ok.mon d).enough1 g a;have t:∀r:Host,(∀i,(ix r.Mons i mZ).Dirty=(ix (zbJ h m p).Mons i mZ).Dirty)->Op (zbJ h m p) r->(ix (ix r.Mons m mZ).Outer p sZ).Page≠-1->(ix (ix r.Mons m mZ).Outer p sZ).Rights=3->Mended h r m p n:=(by intro r j x y z;refine⟨f.trans x,y,λ_=>z,λ_=>?_,λe=>Bool.noConfusion<|s.symm.trans e,λk B b=>?_,λi q b=>by rw[j,l i q b]⟩;{rw [j,u,zbj<|(H.mon c).hasD g]};{rw [j,u,zby (zI.1 g).1 (zI.1 B).1<|Ne.symm b]});unfold opened;rcases A with e|e;{rw [e,show ieq (wand .i64 1 2) 0=true by decide,cond_true];obtain⟨D,F,w,E⟩:=zQn f.ok d g a (r:=3) (.inr rfl);exact t _ E D (by rw[w];exact a) (by rw[w])};{rw [e,show ieq (wand .i64 3 2) 0=false by decide,cond_false];exact t _ (λ_=>rfl) (Op.refl f.ok) a e}
theorem zQm {h:Host}(H:HOk h){m p:Int}(n:Int)(c:hasB m (ln h.Mons)=true)(d:hasB p 8=true):Mended h (mended h m p n) m p n:=by unfold mended;by_cases e:(ix (ix h.Mons m mZ).Outer p sZ).Page = -1;{rw [zbx.2 e,cond_true];obtain⟨a,⟨q,r,s,l⟩,f⟩:=zLB H c d e;have K:=zUG a.ok n (by rw[a.like.has];exact c) d (by rw[l];show q≠-1;omega);exact⟨a.trans K.op,K.inn,K.ri,K.dt,λe=>by rw[K.d0 e,f],λk j b=>by rw[K.dk k j b,f],λi g b=>by rw[K.dm i (by rw[a.like.has];exact g) b,f]⟩};{rw [zb6.2 e,cond_false];exact zUG H n c d e}
theorem zo3 {h:Host}{m p:Int}:zcN h m p=true↔HOk h/\hasB m (ln h.Mons)=true/\hasB p 8=true:=by unfold zcN;rw[zcj,zcj,zkU]
theorem zZ5 {h:Host}(H:HOk h)(m p:Int):Op h (zqB h m p):=by unfold zqB;cases a:zcN h m p with|false=>exact Op.refl H|true=>obtain⟨_,b,c⟩:=zo3.1 a;rw[cond_true];unfold zk7;by_cases e:(ix (ix h.Mons m mZ).Outer p sZ).Page = -1;{rw [zbx.2 e];exact Op.refl H};{rw [zb6.2 e];exact zYg H b c e}
theorem z2I {h:Host}(H:HOk h)(m p:Int):Op h (zuE h m p):=by unfold zuE;cases a:zcN h m p with|false=>exact Op.refl H|true=>obtain⟨_,b,c⟩:=zo3.1 a;rw[cond_true];unfold zk7;by_cases e:(ix (ix h.Mons m mZ).Outer p sZ).Page = -1;{rw [zbx.2 e];exact(zLB H b c e).1};{rw [zb6.2 e];exact Op.refl H}
theorem z2H {h:Host}(H:HOk h)(m p:Int):Op h (zun h m p):=by unfold zun;cases g:zcN h m p with|false=>exact Op.refl H|true=>obtain⟨_,b,c⟩:=zo3.1 g;rw[cond_true];obtain⟨a,d⟩:=z2J H b p;(cases e:zdb (ix (ix h.Mons m zh).Outer p zW) noSlot with|true=>exact a|false=>rw[cond_false];have i:(ix (ix h.Mons m mZ).Outer p sZ).Page≠-1:=λf=>zsl.1 e (((H.mon b).slot c).none f);have:=zQn a.ok (m:=m) (p:=p) (by rw[a.like.has];exact b) c (by rw[d];exact i) (r:=1) (.inl rfl);rw[d m p] at this;exact a.trans this.1)
structure KeepP (x y:Mon):Prop where
 o:y.Outer=x.Outer
 u:y.Out=x.Out
theorem zLH {h r:Host}{m:Int}(b:hasB m (ln h.Mons)=true){y:Mon}(c:r.Mons=up h.Mons m y)(a:r.Memory=h.Memory)(k:KeepP (ix h.Mons m mZ) y)(i q:Int):zcR r i q=zcR h i q:=by unfold zcR;rw[c,zec,a];cases d:hasB i (ln h.Mons) with|false=>rfl|true=>by_cases e:m=i;{subst e;rw[zbj b,k.o,k.u]};{rw [zby (zI.1 b).1 (zI.1 d).1 e]}
theorem zu9 {h r:Host}{m:Int}(b:hasB m (ln h.Mons)=true){y:Mon}(c:r.Mons=up h.Mons m y)(a:r.Memory=h.Memory)(k:KeepP (ix h.Mons m mZ) y)(i:Int) :
 zK r i=bif ieq i m then ⟨(zK h i).Memory,y.Guests,y.Outs,y.Pending⟩ else zK h i:=by
 have f:zcH r i 8 0=zcH h i 8 0:=zrk 8 0 (λj _ _=>zLH b c a k i j);unfold zK;rw[f,c,zec]
 by_cases e:i=m
 .subst e;rw[b,zbx.2 rfl,zbj b];rfl
 .rw [zb6.2 e,cond_false];cases d:hasB i (ln h.Mons) with
  |false=>rfl
  |true=>rw[zby (zI.1 b).1 (zI.1 d).1<|Ne.symm e]
theorem zls {x y:Mon}(X:MOk x)(k:KeepP x y)(g:y.Guests.length=x.Guests.length)(t:y.Tables.length=x.Tables.length)(d:y.Dirty.length=x.Dirty.length)(o:y.Outs.length<=40)(p:zdM y.Pending=true)(tr:zk y.Traps 0 3=true)(b:zk y.Own 0 1000000000=true)(a:∀g∈y.Guests,zdV g=true):MOk y :=
 ⟨by rw[g];exact X.g1,by rw[g];exact X.g2,by rw[t,g];exact X.gt,by rw[k.o];exact X.o8,by rw[k.o];exact X.sl,by rw[k.u];exact X.u8,by rw[d];exact X.d8,o,p,tr,b,a,by rw[k.o,k.u];exact X.fit⟩
theorem zTw {h:Host}(H:HOk h){m:Int}(a:hasB m (ln h.Mons)=true){y:Mon}(k:KeepP (ix h.Mons m mZ) y)(b:MOk y):HOk {h with Mons:=up h.Mons m y} :=
 H.up a b rfl H.m12 H.pgs H.b1 H.b2 λq _=>.inl (by unfold cPg;rw[k.o];exact qW _)
theorem zwv {h:Host}(S:Safe h){m:Int}(a:hasB m (ln h.Mons)=true){y:Mon}(k:KeepP (ix h.Mons m mZ) y)(d:MOk y)(hg:y.Guests.length=(ix h.Mons m mZ).Guests.length)(c:∀g,hasB g (ln (ix h.Mons m mZ).Guests)=true->(ix y.Guests g gZ).Live=(ix (ix h.Mons m mZ).Guests g gZ).Live)(b:y.Tables=(ix h.Mons m mZ).Tables):Safe {h with Mons:=up h.Mons m y} :=
 ⟨zTw S.ok a k d,zLO S.rt a rfl rfl rfl hg c b k.o⟩
theorem zR2 {h:Host}(S:Safe h)(m t:Int):Safe (zku h m t)/\∀i,zK (zku h m t) i=zK h i:=by
 unfold zku;rw[zkU.2 S.ok,cond_true];cases a:hasB m (ln h.Mons) with
 |false=>exact⟨S,λ_=>rfl⟩
 |true=>
  cases b:zk t 0 3 with
  |false=>exact⟨S,λ_=>rfl⟩
  |true=>have X:=S.ok.mon a;have k:KeepP (ix h.Mons m mZ) {ix h.Mons m mZ with Traps:=t}:=⟨rfl,rfl⟩;refine⟨zwv S a k (zls X k rfl rfl rfl X.outs X.pend b X.own X.gs) rfl (λ_ _=>rfl) rfl,λi=>?_⟩;rw[cond_true,cond_true];refine(zu9 (h:=h) (r:={h with Mons:=up h.Mons m {ix h.Mons m mZ with Traps:=t}}) a rfl rfl k i).trans ?_;by_cases e:i=m;{subst e;rw[zbx.2 rfl,cond_true];unfold zK;rw[a];rfl};{rw [zb6.2 e];rfl}
theorem zF8:∀(n i:Nat) (k:Kept),(zjq n i k).Known.length=k.Known.length/\(zjq n i k).Slots.length=k.Slots.length
 | 0,i,k=>⟨rfl,rfl⟩
 |n+1,i,k=>by have a:=zF8 n (i+1) (zb4 k (i:Int));have b:=zln k (i:Int);exact⟨a.1.trans b.1,a.2.trans b.2⟩
theorem zJY:∀(n i:Nat) (k:Kept),k.Known.length=k.Slots.length->∀j,hasB j (ln k.Known)=true->
 ((i:Int)<=j/\j<((i+n:Nat):Int)->ix (zjq n i k).Known j false=false/\ix (zjq n i k).Slots j sZ=noSlot)/\
 (¬ ((i:Int)<=j/\j<((i+n:Nat):Int))->ix (zjq n i k).Known j false=ix k.Known j false/\ix (zjq n i k).Slots j sZ=ix k.Slots j sZ)
 | 0,i,k,_,j,_=>⟨λh=>by omega,λ_=>⟨rfl,rfl⟩⟩
 |n+1,i,k,g,j,f=>by have b:=zln k (i:Int);have d:=zwU (q:=(i:Int)) g f;have c:=zJY n (i+1) (zb4 k (i:Int)) (by rw[b.1,b.2,g]) j (by unfold ln at f ⊢;rwa [b.1]);rw[zjq];by_cases a:((i+1:Nat):Int)<=j/\j<((i+1+n:Nat):Int);{exact⟨λ_=>c.1 a,λh=>absurd (by omega) h⟩};{rw [(c.2 a).1,(c.2 a).2,d.1,d.2];by_cases e:(i:Int)=j;{rw [zbx.2 e];exact⟨λ_=>⟨rfl,rfl⟩,λh=>absurd (by omega) h⟩};{rw [zb6.2 e];exact⟨λh=>absurd (by omega) a,λ_=>⟨rfl,rfl⟩⟩}}
theorem zRe {k:Kept}{a b:List Slot}(h:KOk k a b):KOk (zj7 k) a b:=by have e:=zF8 k.Known.length 0 k;refine⟨e.1.trans h.l1,e.2.trans h.l2,λi f=>?_⟩;have c:hasB i (ln k.Known)=true:=(by unfold ln at f ⊢;rwa [h.l1]);have d:=zI.1 c;unfold ln at d;have:=(zJY k.Known.length 0 k (by rw[h.l1,h.l2]) i c).1 ⟨by omega,by omega⟩;unfold zj7;rw[this.1,this.2];rfl
theorem zJM:∀(n j:Nat) (l:List Kept),(zvw n j l).length=l.length
 | 0,_,_=>rfl
 |n+1,j,l=>by rw[zvw,zJM n,zbU]
theorem zSW:∀(n j:Nat) (l:List Kept),j+n<=l.length->∀g,0<=g->ix (zvw n j l) g kZ=if (j:Int)<=g/\g<((j+n:Nat):Int) then zj7 (ix l g kZ) else ix l g kZ
 | 0,j,l,_,g,hg=>by rw[if_neg (by omega)];rfl
 |n+1,j,l,a,g,hg=>by rw[zvw,zSW n (j+1) _ (by rw[zbU];omega) g hg];by_cases e:(j:Int)=g;{subst e;rw[if_neg (by omega),if_pos (by omega),zbj<|zI.2 ⟨by omega,by unfold ln;omega⟩]};{rw [zby (by omega) hg e];by_cases h:((j+1:Nat):Int)<=g/\g<((j+1+n:Nat):Int);{rw [if_pos h,if_pos (by omega)]};{rw [if_neg h,if_neg (by omega)]}}
theorem zJL:∀(n i:Nat) (l:List Mon),(zoG n i l).length=l.length
 | 0,_,_=>rfl
 |n+1,i,l=>by rw[zoG,zJL n,zbU]
theorem zPO:∀(n i:Nat) (l:List Mon),i+n<=l.length->∀m,0<=m->ix (zoG n i l) m mZ=if (i:Int)<=m/\m<((i+n:Nat):Int) then zvx (ix l m mZ) (ix l m mZ).Tables.length 0 else ix l m mZ
 | 0,i,l,_,m,a=>by rw[if_neg (by omega)];rfl
 |n+1,i,l,b,m,a=>by rw[zoG,zPO n (i+1) _ (by rw[zbU];omega) m a];by_cases e:(i:Int)=m;{subst e;rw[if_neg (by omega),if_pos (by omega),zbj<|zI.2 ⟨by omega,by unfold ln;omega⟩]};{rw [zby (by omega) a e];by_cases h:((i+1:Nat):Int)<=m/\m<((i+1+n:Nat):Int);{rw [if_pos h,if_pos (by omega)]};{rw [if_neg h,if_neg (by omega)]}}
theorem z3V (h:Host){m:Int}(a:hasB m (ln h.Mons)=true):ix (cold h).Mons m mZ=zvx (ix h.Mons m mZ) (ix h.Mons m mZ).Tables.length 0:=by have:=zI.1 a;unfold ln at this;show ix (zoG h.Mons.length 0 h.Mons) m mZ=_;rw[zPO _ _ _ (by omega) m this.1,if_pos (by omega)]
theorem zxF (h:Host):(cold h).Mons.length=h.Mons.length:=zJL _ _ _
theorem zGW (h:Host)(m:Int):hasB m (ln (cold h).Mons)=hasB m (ln h.Mons):=by unfold ln;rw[zxF]
theorem z8j {l a:List Mon}(d:a.length=l.length)(h:∀m,hasB m (ln l)=true->(ix a m mZ).Outer=(ix l m mZ).Outer)(q:Int):zfM a q=zfM l q:=by have:a.map (λx=>cPg x q)=l.map (λx=>cPg x q):=(by refine List.ext_getElem (by simp[d]) λk b c=>?_;simp only[uK]at b c;have:=h (k:Int) (zI.2 ⟨by omega,by unfold ln;omega⟩);rw[zm6 b,zm6 c] at this;simp[cPg,this]);unfold zfM;rw[this]
theorem z9l {h:Host}(H:HOk h):Op h (cold h):=by have c:∀m,hasB m (ln h.Mons)=true->ix (cold h).Mons m mZ=zvx (ix h.Mons m mZ) (ix h.Mons m mZ).Tables.length 0:=λm a=>z3V h a;have n:∀i q,zcR (cold h) i q=zcR h i q:=(by intro i q;unfold zcR;rw[zGW];cases b:hasB i (ln h.Mons) with|false=>rfl|true=>rw[c i b];rfl);refine⟨⟨H.m12,H.pgs,by rw[zxF];exact H.n1,by rw[zxF];exact H.n3,rfl,rfl,λy s=>?_,λq r=>?_⟩,⟨zxF h,λi b=>by rw[c i b];rfl,λi b=>by rw[c i b];rfl,λi b=>by rw[c i b];rfl,λi b=>by rw[c i b];rfl,λi b=>by rw[c i b];rfl,λi k _ _=>n i k⟩,λR=>⟨λm a=>?_,λe j=>(by cases j),λe j=>(by cases j)⟩⟩;{obtain⟨m,a,rfl⟩:=zDc s mZ;rw[zGW]at a;rw[c m a];have X:=H.mon a;have k:KeepP (ix h.Mons m mZ) (zvx (ix h.Mons m mZ) (ix h.Mons m mZ).Tables.length 0):=⟨rfl,rfl⟩;exact zls X k rfl (zJM _ _ _) rfl X.outs X.pend X.tr X.own X.gs};{rw [z8j (l:=h.Mons) (zxF h) (λm a=>by rw[c m a];rfl)];exact H.uq q r};{rw [zGW]at a;rw[c m a];have X:=H.mon a;intro g hg;show KOk (ix (zvw (ix h.Mons m mZ).Tables.length 0 (ix h.Mons m mZ).Tables) g kZ) (ix (ix h.Mons m mZ).Guests g gZ).Live (ix h.Mons m mZ).Outer;have d:hasB g (ln (ix h.Mons m mZ).Guests)=true:=hg;have f:=zI.1 d;unfold ln at f;have p:=X.gt;rw[zSW _ _ _ (by omega) g f.1,if_pos (by omega)];exact zRe (R.t m a g d)}
theorem zVJ {m g:Int}(c:zk m 0 2=true)(hg:zk g 0 1=true):zdY (zeh m g)=m/\zeO (zeh m g)=g/\1<=zeh m g/\zeh m g<=6:=by have d:=zcX.1 c;have e:=zcX.1 hg;have a:m=0\/m=1\/m=2:=(by omega);have b:g=0\/g=1:=(by omega);rcases a with rfl|rfl|rfl<;>rcases b with rfl|rfl<;>decide
theorem HOk.tag {h:Host}(H:HOk h){m g:Int}(a:hasB m (ln h.Mons)=true)(hg:hasB g (ln (ix h.Mons m mZ).Guests)=true):zk m 0 2=true/\zk g 0 1=true:=by have b:=zI.1 a;have c:=zI.1 hg;have d:=H.n3;have e:=(H.mon a).g2;unfold ln at b c;exact⟨zcX.2 (by omega),zcX.2 (by omega)⟩
theorem zg1 {r:Int}:zdS r=true↔r=0\/r=1\/r=2\/r=3:=by unfold zdS ige ile;rw[qE,q0,q0];omega
theorem zrZ {a b:Int}(h:enough a b=true):zdS a=true/\zdS b=true:=by unfold enough at h;rw[zcj,zcj]at h;exact⟨h.1,h.2.1⟩
theorem zTh {a b c:Int}(d:enough a b=true)(e:enough b c=true):enough a c=true:=by have f:=zg1.1 (zrZ d).1;have g:=zg1.1 (zrZ d).2;have h:=zg1.1 (zrZ e).2;rcases f with rfl|rfl|rfl|rfl<;>rcases g with rfl|rfl|rfl|rfl<;>rcases h with rfl|rfl|rfl|rfl<;>revert d e<;>decide
theorem zWr {a b n:Int}(g:n=1\/n=2)(c:enough a n=true)(d:enough b n=true):zey a b≠0/\enough (zey a b) n=true:=by have e:=zg1.1 (zrZ c).1;have f:=zg1.1 (zrZ d).1;rcases g with rfl|rfl<;>rcases e with rfl|rfl|rfl|rfl<;>rcases f with rfl|rfl|rfl|rfl<;>revert c d<;>decide
theorem both_ok (a b:Int):zdS (zey a b)=true:=by
 unfold zey;cases c:zdS a with
 |false=>rfl
 |true=>
  cases d:zdS b with
  |false=>rfl
  |true=>have c:=zg1.1 c;have d:=zg1.1 d;rcases c with rfl|rfl|rfl|rfl<;>rcases d with rfl|rfl|rfl|rfl<;>decide
theorem zWz {a:Int}(h:zdS a=true):enough a a=true:=by rcases zg1.1 h with rfl|rfl|rfl|rfl<;>decide
theorem zrb {n:Int}(a:n=1\/n=2):enough 0 n=false:=by rcases a with rfl|rfl<;>decide
theorem zY2 {s:Slot}{o:List Slot}(a:s.Page≠-1)(b:(zbH o s.Page).Page≠-1):zbB s o=bif ieq (zey s.Rights (zbH o s.Page).Rights) 0 then noSlot else ⟨(zbH o s.Page).Page,zey s.Rights (zbH o s.Page).Rights⟩:=by unfold zbB;rw[zb6.2 a,zb6.2 b];rfl
theorem zqo {s:Slot}{o:List Slot}{n:Int}(c:n=1\/n=2)(h:enough (zbB s o).Rights n=true):s.Page≠-1/\(zbH o s.Page).Page≠-1/\(zbB s o).Page=(zbH o s.Page).Page:=by unfold zbB at h ⊢;by_cases a:s.Page = -1;{rw [zbx.2 a,cond_true]at h;rw[show noSlot.Rights=0 from rfl,zrb c]at h;cases h};{rw [zb6.2 a,cond_false]at h ⊢;by_cases b:(zbH o s.Page).Page = -1;{rw [zbx.2 b,cond_true]at h;rw[show noSlot.Rights=0 from rfl,zrb c]at h;cases h};{rw [zb6.2 b,cond_false]at h ⊢;by_cases d:zey s.Rights (zbH o s.Page).Rights=0;{rw [zbx.2 d,cond_true]at h;rw[show noSlot.Rights=0 from rfl,zrb c]at h;cases h};{rw [zb6.2 d];exact⟨a,b,rfl⟩}}}
theorem zSX {s:Slot}{o:List Slot}{n:Int}(e:n=1\/n=2)(a:s.Page≠-1)(b:(zbH o s.Page).Page≠-1)(c:enough s.Rights n=true)(d:enough (zbH o s.Page).Rights n=true) :
 (zbB s o).Page=(zbH o s.Page).Page/\enough (zbB s o).Rights n=true:=by
 have:=zWr e c d;rw[zY2 a b,zb6.2 this.1];exact⟨rfl,this.2⟩
theorem zY3 (s:Slot)(o:List Slot):zdS (zbB s o).Rights=true:=by unfold zbB;cases ieq s.Page (-1)<;>cases ieq (zbH o s.Page).Page (-1)<;>cases ieq (zey s.Rights (zbH o s.Page).Rights) 0<;>first|rfl|exact both_ok _ _
theorem zzf {b:List Entry}{t p:Int}{e:Entry}:e∈zcQ b t p↔e∈b/\¬ (e.Tag=t/\e.Page=p):=by unfold zcQ;rw[List.mem_filter];refine and_congr Iff.rfl ?_;unfold zse;by_cases h:e.Tag=t;{rw [show ine e.Tag t=false by simp[ine,h],cond_false,zxU];simp[h]};{rw [zxU.2 h];simp[h]}
theorem z5s {b:List Entry}{e x:Entry}(h:x∈zo4 b e):x∈b\/x=e:=by unfold zo4 ap at h;have:x∈zcQ b e.Tag e.Page++[e]:=(by cases a:igt (ln<|zcQ b e.Tag e.Page++[e]) 6 with|true=>rw[a,cond_true]at h;exact kM h|false=>rw[a,cond_false]at h;exact h);rcases jH.1 this with h|h;{exact .inl (zzf.1 h).1};{exact .inr (qF.1 h)}
theorem zbbm {n:Nat}(h:n<=100):wsub .i64 (n:Int) 6=(n:Int)-6:=by unfold wsub IntKind.wrap;simp[IntKind.signed,IntKind.bits];omega
theorem zXR {b:List Entry}(h:zf2 b=true)(e:Entry):zf2 (zo4 b e)=true:=by have c:=zD0.1 h;have k:(zcQ b e.Tag e.Page).length<=6:=qT (uA _ _) c.2;have d:(zcQ b e.Tag e.Page++[e]).Pairwise (λy x=>sameKey x y=false):=(by rw[List.pairwise_append];refine⟨c.1.sublist List.filter_sublist,List.pairwise_singleton _ _,λx i y j=>?_⟩;rw[qF.1 j];have:=(zzf.1 i).2;unfold sameKey;by_cases a:e.Tag=x.Tag;{rw [zbx.2 a,cond_true,zb6];exact λf=>this ⟨a.symm,f.symm⟩};{rw [zb6.2 a];rfl});unfold zo4 ap;cases g:igt (ln<|zcQ b e.Tag e.Page++[e]) 6 with|true=>rw[cond_true,zD0];refine⟨d.sublist<|List.drop_sublist _ _,?_⟩;unfold dp ln;rw[j9,k9,zbbm (by omega),u1,j9,k9];omega|false=>rw[cond_false,zD0];refine⟨d,?_⟩;have:=jR g;unfold ln at this;omega
theorem z2s {h r:Host}{m:Int}(c:hasB m (ln h.Mons)=true){y:Mon}(b:r.Mons=up h.Mons m y)(a:r.Memory=h.Memory)(k:KeepP (ix h.Mons m mZ) y)(g:y.Guests=(ix h.Mons m mZ).Guests)(o:y.Outs=(ix h.Mons m mZ).Outs)(p:y.Pending=(ix h.Mons m mZ).Pending)(t:y.Traps=(ix h.Mons m mZ).Traps)(w:y.Own=(ix h.Mons m mZ).Own):Like h r:=by have e:∀{d:Type} (F:Mon->d),F y=F (ix h.Mons m mZ)->∀i,hasB i (ln h.Mons)=true->F (ix r.Mons i mZ)=F (ix h.Mons i mZ):=(by intro d F f i j;rw[b];by_cases e:m=i;{subst e;rw[zbj c];exact f};{rw [zby (zI.1 c).1 (zI.1 j).1 e]});exact⟨by rw[b,zbU],e Mon.Guests g,e Mon.Outs o,e Mon.Pending p,e Mon.Traps t,e Mon.Own w,λi q _ _=>zLH c b a k i q⟩
theorem z5v {h:Host}(R:Rt h){m g:Int}(d:hasB m (ln h.Mons)=true)(r:hasB g (ln (ix h.Mons m mZ).Tables)=true){k:Kept}(u:KOk k (ix (ix h.Mons m mZ).Guests g gZ).Live (ix h.Mons m mZ).Outer) :
 Rt {h with Mons:=up h.Mons m {ix h.Mons m mZ with Tables:=up (ix h.Mons m mZ).Tables g k}}:=by
 have f:∀e,zde h e=true->zde {h with Mons:=up h.Mons m {ix h.Mons m mZ with Tables:=up (ix h.Mons m mZ).Tables g k}} e=true:=by intro e b;obtain⟨l,n,p⟩:=zgk.1 b;rw[zgk];show hasB (zdY e.Tag) (ln<|up h.Mons m _)=true/\hasB (zeO e.Tag) (ln (ix (up h.Mons m _) (zdY e.Tag) mZ).Guests)=true/\below' _ (zbB (zbH (ix (ix (up h.Mons m _) (zdY e.Tag) mZ).Guests (zeO e.Tag) gZ).Live e.Page) (ix (up h.Mons m _) (zdY e.Tag) mZ).Outer)=true;rw[zec];refine⟨l,?_⟩;by_cases a:m=zdY e.Tag;{rw [<- a]at l n p ⊢;rw[zbj d];exact⟨n,p⟩};{rw [zby (zI.1 d).1 (zI.1 l).1 a];exact⟨n,p⟩}
 refine⟨λi s=>?_,λe b=>f e (R.e1 e b),λe b=>f e (R.e2 e b)⟩
 show TOk (ix (up h.Mons m _) i mZ)
 have c:hasB i (ln h.Mons)=true:=by have:hasB i (ln<|up h.Mons m {ix h.Mons m mZ with Tables:=up (ix h.Mons m mZ).Tables g k})=true:=s;rwa [zec] at this
 by_cases a:m=i
 .subst a;rw[zbj d];intro j q
  by_cases e:g=j
  .subst e
   show KOk (ix (up _ g k) g kZ) _ _
   rw[zbj r];exact u
  .show KOk (ix (up _ g k) j kZ) _ _
   rw[zby (zI.1 r).1 (zI.1 q).1 e];exact R.t m d j q
 .rw [zby (zI.1 d).1 (zI.1 c).1 a];exact R.t i c
theorem z5g {h:Host}(H:HOk h){m g:Int}(a:hasB m (ln h.Mons)=true)(c:hasB g (ln (ix h.Mons m mZ).Tables)=true){k:Kept}(b:Rt h->KOk k (ix (ix h.Mons m mZ).Guests g gZ).Live (ix h.Mons m mZ).Outer) :
 Op h {h with Mons:=up h.Mons m {ix h.Mons m mZ with Tables:=up (ix h.Mons m mZ).Tables g k}}:=by
 have X:=H.mon a;have kp:KeepP (ix h.Mons m mZ) {ix h.Mons m mZ with Tables:=up (ix h.Mons m mZ).Tables g k}:=⟨rfl,rfl⟩;exact⟨zTw H a kp (zls X kp rfl (zbU _ _ _) rfl X.outs X.pend X.tr X.own X.gs),z2s (y:={ix h.Mons m mZ with Tables:=up (ix h.Mons m mZ).Tables g k}) a rfl rfl kp rfl rfl rfl rfl rfl,λR=>z5v R a c (b R)⟩
theorem zK3 {k:Kept}{a b:List Slot}(h:KOk k a b)(p:Int):KOk (filled k a b p) a b:=by unfold filled zdB;cases d:hasB p (ln k.Known) with|false=>exact h|true=>have f:hasB p (ln k.Slots)=true:=(by unfold ln at d ⊢;rw[h.l2,<- h.l1];exact d);have g:hasB p (ln a)=true:=(by unfold ln at d ⊢;rw[<- h.l1];exact d);rw[cond_true,f,cond_true,g,cond_true];refine⟨by rw[zbU];exact h.l1,by rw[zbU];exact h.l2,λi c=>?_⟩;by_cases e:p=i;{subst e;show ix (up _ p _) p sZ=bif ix (up _ p true) p false then _ else _;rw[zbj f,zbj d];rfl};{show ix (up _ p _) i sZ=bif ix (up _ p true) i false then _ else _;rw[zby (zI.1 f).1 (zI.1 c).1 e,zby (zI.1 f).1 (zI.1 c).1 e];exact h.at' i c}
theorem z9m {h:Host}(H:HOk h){m g:Int}(b:hasB m (ln h.Mons)=true)(hg:hasB g (ln (ix h.Mons m mZ).Guests)=true)(a:Int):Op h (zcB h m g a):=
 z5g H b (by unfold ln;rw[(H.mon b).gt];exact hg) λR=>zK3 (R.t m b g hg) a
theorem z05 {k:Kept}{a b:List Slot}(h:KOk k a b){p:Int}(c:hasB p (ln a)=true):zeb k p=bif ix k.Known p false then zbB (ix a p sZ) b else noSlot:=by have d:hasB p (ln k.Known)=true:=(by unfold ln at c ⊢;rw[h.l1];exact c);have e:hasB p (ln k.Slots)=true:=(by unfold ln at c ⊢;rw[h.l2];exact c);unfold zeb zkB zdB;rw[d,e,cond_true,cond_true,h.at' p c];cases ix k.Known p false<;>rfl
theorem zYV {k:Kept}{a b:List Slot}(h:KOk k a b){p:Int}(c:hasB p (ln a)=true):zeb (filled k a b p) p=zbB (ix a p sZ) b:=by rw[z05 (zK3 h p) c];have d:hasB p (ln k.Known)=true:=(by unfold ln at c ⊢;rw[h.l1];exact c);have e:hasB p (ln k.Slots)=true:=(by unfold ln at c ⊢;rw[h.l2];exact c);have:ix (filled k a b p).Known p false=true:=(by unfold filled zdB;rw[d,e,c];exact zbj d _ _);rw[this];rfl
theorem zbay {h:Host}(H:HOk h){m g a:Int}(i:Bool)(n:Rt h->zde h (zSk h m g a)=true):Op h (zv3 h m g a i):=by have f:∀(j k:List Entry),Like h ⟨h.Memory,h.Mons,j,k⟩:=λ_ _=>⟨rfl,λ_ _=>rfl,λ_ _=>rfl,λ_ _=>rfl,λ_ _=>rfl,λ_ _=>rfl,λ_ _ _ _=>rfl⟩;have d:∀(b:List Entry),(∀e∈b,zde h e=true)->Rt h->∀e∈zo4 b (zSk h m g a),zde h e=true:=(by intro b l R e c;rcases z5s c with c|c;{exact l e c};{rw [c];exact n R});unfold zv3;cases i;{exact⟨⟨H.m12,H.pgs,H.n1,H.n3,zXR H.b1 _,H.b2,H.mons,H.uq⟩,f _ _,λR=>⟨R.t,λe c=>d _ R.e1 R e c,R.e2⟩⟩};{exact⟨⟨H.m12,H.pgs,H.n1,H.n3,H.b1,zXR H.b2 _,H.mons,H.uq⟩,f _ _,λR=>⟨R.t,R.e1,λe c=>d _ R.e2 R e c⟩⟩}
theorem z4H {b:List Entry}{t p:Int}{e:Entry}(h:zzd b t p=some e):e∈b/\e.Tag=t/\e.Page=p:=by unfold zzd at h;have a:=List.find?_some h;rw[zcj,zbx,zbx]at a;exact⟨uL h,a⟩
theorem zkz {h:Host}{m g:Int}:zbY h m g=true↔HOk h/\hasB m (ln h.Mons)=true/\hasB g (ln (ix h.Mons m mZ).Guests)=true:=by unfold zbY;rw[zcj,zcj,zkU]
structure GOk (x:Guest):Prop where
 prog:zdw x.Prog=true
 a:zk x.A 0 99=true
 pc:zk x.Pc 0 12=true
 w:zdd x.Written 4 8=true
 l:zdd x.Live 4 8=true
 ctl:zl8 x.Ctl=true
 pend:zdM x.Pending=true
 ex:ziH x.Exit=true
 seen:ile (ln x.Seen) 40=true
theorem ztL {x:Guest}:zdV x=true↔GOk x:=by unfold zdV;simp only[qE];exact⟨λ⟨a,b,c,d,e,f,g,h,i⟩=>⟨a,b,c,d,e,f,g,h,i⟩,λ⟨a,b,c,d,e,f,g,h,i⟩=>⟨a,b,c,d,e,f,g,h,i⟩⟩
theorem z3p {s:Slot}:zed s 8=true↔s=noSlot\/(0<=s.Page/\s.Page<=7/\1<=s.Rights/\s.Rights<=3):=by unfold zed;rw[zt6,zqb,zsl];have:wsub .i64 8 1=7:=(by decide);simp only[this,zt6,zcX];simp[igt];constructor;{rintro (h|⟨h,⟨a,b⟩,c⟩);{exact .inl h};{exact .inr ⟨a,b,c⟩}};{intro h;by_cases d:s=noSlot;{exact .inl d};{rcases h with h|⟨a,b,c⟩;{exact .inl h};{exact .inr ⟨d,⟨a,b⟩,c⟩}}}
theorem HOk.guest {h:Host}(H:HOk h){m g:Int}(a:hasB m (ln h.Mons)=true)(hg:hasB g (ln (ix h.Mons m mZ).Guests)=true):GOk (ix (ix h.Mons m mZ).Guests g gZ):=ztL.1 ((H.mon a).gs _ (zmh hg _))
structure Walked (l:List Slot) (p n q:Int):Prop where
 hp:hasB p (ln l)=true
 pg:(ix l p sZ).Page=q
 q8:hasB q 8=true
 en:enough (ix l p sZ).Rights n=true
theorem walked {x:Guest}(X:GOk x){p n:Int}(a:zeP x.Live p n=true):Walked x.Live p n (zcg x.Live p n):=by have e:zcg x.Live p n=(zbH x.Live p).Page:=(by unfold zcg;rw[a];rfl);unfold zeP at a;by_cases b:(zbH x.Live p).Page = -1;{rw [zbx.2 b]at a;cases a};{rw [zb6.2 b,cond_false,zcj]at a;have c:hasB p (ln x.Live)=true:=(by cases c:hasB p (ln x.Live) with|true=>rfl|false=>exact absurd (by unfold zbH;rw[c];rfl) b);rw[zou c] at e b a;rw[e];have d:=z3p.1 ((zrS.1 X.l).1 _ (zmh c sZ));refine⟨c,rfl,?_,a.1⟩;rcases d with d|d;{rw [d]at b;exact absurd rfl b};{exact zI.2 (by omega)}}
structure Looked (h r:Host) (m g page need q host:Int):Prop where
 op:Op h r
 inn:(ix (ix r.Mons m mZ).Outer q sZ).Page=host
 ne:host≠-1
 en:enough (zbB (ix (ix (ix h.Mons m mZ).Guests g gZ).Live page sZ) (ix r.Mons m mZ).Outer).Rights need=true
 cp:(zbB (ix (ix (ix h.Mons m mZ).Guests g gZ).Live page sZ) (ix r.Mons m mZ).Outer).Page=host
 dk:∀k,hasB k 8=true->k≠q->ix (ix r.Mons m mZ).Dirty k false=ix (ix h.Mons m mZ).Dirty k false
 dq:need=2->ix (ix r.Mons m mZ).Dirty q false=true
 d1:need=1->(ix r.Mons m mZ).Dirty=(ix h.Mons m mZ).Dirty
 dm:∀i,hasB i (ln h.Mons)=true->i≠m->(ix r.Mons i mZ).Dirty=(ix h.Mons i mZ).Dirty
theorem zQe {h:Host}(S:Safe h){m g a b q:Int}(f:hasB m (ln h.Mons)=true)(hg:hasB g (ln (ix h.Mons m mZ).Guests)=true)(l:b=1\/b=2)(W:Walked (ix (ix h.Mons m mZ).Guests g gZ).Live a b q)(c:Bool)(d:zeb (zb8 h m g) a=zbB (ix (ix (ix h.Mons m mZ).Guests g gZ).Live a sZ) (ix h.Mons m mZ).Outer)(i:enough (zeb (zb8 h m g) a).Rights b=true) :
 Op h (zeZ h m g a c).1/\(zeZ h m g a c).2=((ix (ix h.Mons m mZ).Outer q sZ).Page,true)/\(ix (ix h.Mons m mZ).Outer q sZ).Page≠-1/\(zeZ h m g a c).1.Mons=h.Mons:=by
 rw[d]at i;have e:=zqo l i;rw[W.pg,zou<|(S.ok.mon f).hasO W.q8]at e;refine⟨zbay S.ok c λR=>?_,?_,e.2.1,?_⟩
 .obtain⟨t1,t2⟩:=S.ok.tag f hg;obtain⟨j,k,_⟩:=zVJ t1 t2;rw[zgk]
  show hasB (zdY<|zeh m g) _=true/\hasB (zeO<|zeh m g) (ln (ix h.Mons (zdY<|zeh m g) mZ).Guests)=true/\below' ⟨(zeb (zb8 h m g) a).Page,(zeb (zb8 h m g) a).Rights⟩ (zbB (zbH (ix (ix h.Mons (zdY<|zeh m g) mZ).Guests (zeO<|zeh m g) gZ).Live a) (ix h.Mons (zdY<|zeh m g) mZ).Outer)=true
  rw[j,k,zou W.hp,d];exact⟨f,hg,zrW.2<|.inr ⟨rfl,zWz<|zY3 _ _⟩⟩
 .show ((zeb (zb8 h m g) a).Page,true)=_
  rw[d,e.2.2]
 .show (zv3 h m g a c).Mons=_
  unfold zv3;cases c<;>rfl
theorem zUw {h:Host}(S:Safe h){m g page need q:Int}(x:hasB m (ln h.Mons)=true)(hg:hasB g (ln (ix h.Mons m mZ).Guests)=true)(D:need=1\/need=2)(W:Walked (ix (ix h.Mons m mZ).Guests g gZ).Live page need q)(N:Bool){b:List Entry}(hb:∀e∈b,zde h e=true)(hd:need=2->ix (ix h.Mons m mZ).Dirty q false=true) :
 Looked h (zgI h b m g page need q N).1 m g page need q (zgI h b m g page need q N).2.1/\(zgI h b m g page need q N).2.2=true:=by
 have X:=S.ok.mon x;have r:=W.q8;have L:=zou (X.hasO W.q8);unfold zgI;cases K:ziw b m g page need with
 |true=>
  rw[cond_true];unfold ziw at K;cases B:zr2 b m g page with
  |none=>rw[B]at K;cases K
  |some e=>rw[B]at K;have A:enough e.Rights need=true:=K;obtain⟨f1,f2,f3⟩:=z4H B;obtain⟨t1,t2⟩:=S.ok.tag x hg;obtain⟨b1,b2,_⟩:=zVJ t1 t2;obtain⟨_,_,v⟩:=zgk.1 (hb e f1);rw[f2,b1,b2,f3,zou W.hp]at v;have T:(⟨e.Host,e.Rights⟩:Slot)≠noSlot:=λf=>(by have:e.Rights=0:=congrArg Slot.Rights f;rw[this,zrb D]at A;cases A);rcases zrW.1 v with v|⟨v,h4⟩;{exact absurd v T};{have h5:=zTh h4 A;have f:=zqo D h5;rw[W.pg,L]at f;have O:e.Host=_:=v;refine⟨⟨Op.refl S.ok,f.2.2.symm.trans v.symm,?_,h5,v.symm,λ_ _ _=>rfl,hd,λ_=>rfl,λ_ _ _=>rfl⟩,rfl⟩;show e.Host≠-1;rw[O,f.2.2];exact f.2.1}
 |false=>
  rw[cond_false];have P:=S.rt.t m x g hg;cases y:zeN h m g page need with
  |false=>rw[cond_false];have E:ix (zb8 h m g).Known page false=true/\enough (zeb (zb8 h m g) page).Rights need=true:=(by unfold zeN at y;cases n:zkB (zb8 h m g) page with|false=>rw[n]at y;cases y|true=>rw[n,cond_true]at y;refine⟨?_,?_⟩;{unfold zkB at n;cases hh:zdB (zb8 h m g) page with|false=>rw[hh]at n;cases n|true=>rw[hh]at n;exact n};{cases hz:ieq (zeb (zb8 h m g) page).Page (-1) with|true=>rw[hz]at y;cases y|false=>rw[hz]at y;simpa using y});have H:zeb (zb8 h m g) page=zbB (ix (ix (ix h.Mons m mZ).Guests g gZ).Live page sZ) (ix h.Mons m mZ).Outer:=(by have Z:=z05 P W.hp;have h1:ix (ix (ix h.Mons m mZ).Tables g kZ).Known page false=true:=E.1;rw[h1]at Z;exact Z);obtain⟨U,V,Y,d⟩:=zQe S x hg D W N H E.2;rw[V];have J:=E.2;rw[H]at J;have f:=zqo D J;rw[W.pg,L]at f;exact⟨⟨U,by rw[d],Y,by rw[d];exact J,by rw[d];exact f.2.2,λ_ _ _=>by rw[d],λe=>by rw[d];exact hd e,λ_=>by rw[d],λ_ _ _=>by rw[d]⟩,rfl⟩
  |true=>
   rw[cond_true];have M:=zQm S.ok (m:=m) (p:=q) need x r;have c:hasB m (ln (mended h m q need).Mons)=true:=(by rw[M.op.like.has];exact x);have C:(ix (mended h m q need).Mons m mZ).Guests=(ix h.Mons m mZ).Guests:=M.op.like.g m x;have l:hasB g (ln (ix (mended h m q need).Mons m mZ).Guests)=true:=(by rw[C];exact hg);have G:Safe (mended h m q need):=M.op.safe S;have F:=z9m G.ok c l page;have S2:Safe (zcB (mended h m q need) m g page):=F.safe G;have R:hasB m (ln (zcB (mended h m q need) m g page).Mons)=true:=(by rw[F.like.has];exact c);have u:ix (zcB (mended h m q need) m g page).Mons m mZ={ix (mended h m q need).Mons m mZ with Tables:=up (ix (mended h m q need).Mons m mZ).Tables g (filled (zb8 (mended h m q need) m g) (zcx (mended h m q need) m g) (ix (mended h m q need).Mons m mZ).Outer page)}:=zbj c _ _;have Q:hasB g (ln (ix (zcB (mended h m q need) m g page).Mons m mZ).Guests)=true:=(by rw[u];exact l);have w:(ix (zcB (mended h m q need) m g page).Mons m mZ).Guests=(ix h.Mons m mZ).Guests:=(by rw[u];exact C);have W2:Walked (ix (ix (zcB (mended h m q need) m g page).Mons m mZ).Guests g gZ).Live page need q:=(by rw[w];exact W);have H:zeb (zb8 (zcB (mended h m q need) m g page) m g) page=zbB (ix (ix (ix (zcB (mended h m q need) m g page).Mons m mZ).Guests g gZ).Live page sZ) (ix (zcB (mended h m q need) m g page).Mons m mZ).Outer:=(by have:zb8 (zcB (mended h m q need) m g page) m g=filled (zb8 (mended h m q need) m g) (zcx (mended h m q need) m g) (ix (mended h m q need).Mons m mZ).Outer page:=(by unfold zb8;rw[u];exact zbj (by unfold ln;rw[(G.ok.mon c).gt];exact l) _ _);rw[this];refine(zYV (p:=page) (G.rt.t m c g l) (by rw[C];exact W.hp)).trans ?_;rw[u]);have z:(ix (zcB (mended h m q need) m g page).Mons m mZ).Outer=(ix (mended h m q need).Mons m mZ).Outer:=by rw[u]
   have j:=zou ((G.ok.mon c).hasO r);have a:=zSX (s:=ix (ix (ix h.Mons m mZ).Guests g gZ).Live page sZ) (o:=(ix (mended h m q need).Mons m mZ).Outer) D (by rw[W.pg];have:=zI.1 r;omega) (by rw[W.pg,j];exact M.inn) W.en (by
    rw[W.pg,j];rcases D with rfl|rfl
    .rcases (G.ok.mon c).enough1 r M.inn with e|e<;>rw [e]<;>decide
    .rw [M.ri (by decide)];decide)
   have J:enough (zeb (zb8 (zcB (mended h m q need) m g page) m g) page).Rights need=true:=(by rw[H,w,z];exact a.2);obtain⟨U,V,Y,d⟩:=zQe S2 R Q D W2 N H J;rw[V];have I:=a.1;rw[W.pg,j]at I;refine⟨⟨(M.op.trans F).trans U,by rw[d],Y,by rw[d,z];exact a.2,by rw[d,z];exact I,λk n f=>?_,λe=>?_,λe=>?_,λi hi f=>?_⟩,rfl⟩;{rw [d,u];exact M.dk k n f};{rw [d,u];exact M.dt (by rw[e];decide)};{rw [d,u];exact M.d0 (by rw[e];decide)};{rw [d];show (ix (up (mended h m q need).Mons m _) i mZ).Dirty=_;rw[zby (zI.1 x).1 (zI.1 hi).1<|Ne.symm f];exact M.dm i hi f}
theorem zGi {n:Int}:zgw n=true↔n=1\/n=2:=by unfold zgw;by_cases h:n=1;{rw [zbx.2 h];simp[h]};{rw [zb6.2 h,cond_false,zbx];simp[h]}
theorem zri {h:Host}{m g page need:Int}:zb2 h m g page need=true↔zbY h m g=true/\(need=1\/need=2)/\zeP (zcx h m g) page need=true:=by unfold zb2;rw[zcj,zcj,zGi]
theorem zQf {h:Host}(S:Safe h){m g page need:Int}(j:Bool)(t:zb2 h m g page need=true){b:List Entry}(r:∀e∈b,zde h e=true) :
 Looked h (lookOf h b m g page need j).1 m g page need (zcg (zcx h m g) page need) (lookOf h b m g page need j).2.1/\(lookOf h b m g page need j).2.2=true:=by
 obtain⟨w,A,B⟩:=zri.1 t;obtain⟨_,a,hg⟩:=zkz.1 w;have W:=walked (S.ok.guest a hg) B;unfold lookOf;rw[t,cond_true];rcases A with rfl|rfl
 .rw [show ieq 1 2=false by decide,cond_false]
  exact zUw S a hg (.inl rfl) W j r (λe=>absurd e (by decide))
 .rw [show ieq 2 2=true by decide,cond_true]
  obtain⟨d,C⟩:=zLA S.ok a (zcg (zcx h m g) page 2);have p:hasB m (ln (zbJ h m<|zcg (zcx h m g) page 2).Mons)=true:=by rw[d.like.has];exact a
  have f:ix (zbJ h m<|zcg (zcx h m g) page 2).Mons m mZ={ix h.Mons m mZ with Dirty:=up (ix h.Mons m mZ).Dirty (zcg (zcx h m g) page 2) true}:=zbj a _ _;have x:=(S.ok.mon a).hasD W.q8;obtain⟨L,y⟩:=zUw (d.safe S) p (g:=g) (page:=page) (need:=2) (q:=zcg (zcx h m g) page 2) (by rw[f];exact hg) (.inr rfl) (by rw[f];exact W) j (b:=b) (λe z=>by
   obtain⟨l,u,v⟩:=zgk.1 (r e z);rw[zgk];have n:hasB (zdY e.Tag) (ln (zbJ h m<|zcg (zcx h m g) page 2).Mons)=true:=by rw[d.like.has];exact l
   refine⟨n,by rw[d.like.g _ l];exact u,?_⟩
   rw[d.like.g _ l];have:(ix (zbJ h m<|zcg (zcx h m g) page 2).Mons (zdY e.Tag) mZ).Outer=(ix h.Mons (zdY e.Tag) mZ).Outer:=by show (ix (up h.Mons m _) _ mZ).Outer=_;by_cases c:m=zdY e.Tag;{rw [<- c,zbj a]};{rw [zby (zI.1 a).1 (zI.1 l).1 c]}
   rw[this];exact v) (λ_=>by rw[f];exact zbj x _ _)
  refine⟨⟨d.trans L.op,L.inn,L.ne,?_,?_,λk s c=>?_,L.dq,λe=>absurd e (by decide),λi n c=>?_⟩,y⟩
  .have:=L.en;rw[f] at this;exact this
  .have:=L.cp;rw[f] at this;exact this
  .rw [L.dk k s c,f];exact zby (zI.1 W.q8).1 (zI.1 s).1 (Ne.symm c) _ _
  .rw [L.dm i (by rw[d.like.has];exact n) c]
   show (ix (up h.Mons m _) i mZ).Dirty=_
   rw[zby (zI.1 a).1 (zI.1 n).1<|Ne.symm c]
theorem zPh {x y:Int}(a : -9223372036854775808<=x+y)(b:x+y<=9223372036854775807):zM .i64 x y=x+y:=by unfold zM;simp only[IntKind.wrap,IntKind.signed,IntKind.bits];simp;omega
theorem zJT {n:Nat}{P:Int->Prop}(h:∀i:Fin n,P ((i.val:Nat):Int)){x:Int}(a:0<=x)(b:x<n):P x:=by have:=h ⟨x.toNat,by omega⟩;simpa [show ((x.toNat:Nat):Int)=x by omega] using this
theorem zUY {p:Int}:zdM p=true↔0<=p/\p<=255:=by unfold zdM;exact zcX
theorem zQt {p:Int}(h:zdM p=true):zdM (zix p)=true:=by have a:=zUY.1 h;exact zJT (n:=256) (P:=λx=>zdM (zix x)=true) (by decide +kernel) a.1 (by omega)
theorem zQs {p:Int}(h:zdM p=true)(n:Int):zdM (ztq p n)=true:=by unfold ztq zii;rw[h,cond_true];cases e:zk n 0 7 with|false=>exact h|true=>rw[cond_true];have b:=zUY.1 h;have a:=zcX.1 e;exact zJT (n:=256) (P:=λx=>∀k,0<=k->k<(8:Int)->zdM (wor .i64 x<|zlX .i64 1 k)=true) (λi k c d=>zJT (n:=8) (P:=λk=>zdM (wor .i64 ((i.val:Nat):Int)<|zlX .i64 1 k)=true) (by revert i;decide +kernel) c d) b.1 (by omega) n a.1 (by omega)
structure GKeep (x y:Guest):Prop where
 ok:GOk y
 live:y.Live=x.Live
theorem zZA {x:Guest}(X:GOk x){c:Int}(b:zk c 0 12=true):GOk {x with Pc:=c}:=⟨X.prog,X.a,b,X.w,X.l,X.ctl,X.pend,X.ex,X.seen⟩
theorem zZz {x:Guest}(X:GOk x){c:Int}(a:zk c 0 99=true):GOk {x with A:=c}:=⟨X.prog,a,X.pc,X.w,X.l,X.ctl,X.pend,X.ex,X.seen⟩
theorem zj9 {x:Guest}(X:GOk x):GKeep x (zb7 x):=by unfold zb7;have a:=zcX.1 X.pc;cases h:ige x.Pc 12 with|true=>exact⟨zZA X (by decide),rfl⟩|false=>have:¬ x.Pc≥12:=jR h;refine⟨zZA X ?_,rfl⟩;rw[zPh (by omega) (by omega)];exact zcX.2 (by omega)
theorem zTq {x:Guest}(X:GOk x)(n:Int):GKeep x (saw x n):=by unfold saw;cases h:ilt (ln x.Seen) 40 with|false=>exact⟨X,rfl⟩|true=>have:ln x.Seen<40:=qD h;refine⟨⟨X.prog,X.a,X.pc,X.w,X.l,X.ctl,X.pend,X.ex,qI ?_⟩,rfl⟩;unfold ln ap at *;simp;omega
theorem zka {x:Guest}(X:GOk x){e:GExit}(b:ziH e=true):GKeep x (stopped x e):=⟨⟨X.prog,X.a,X.pc,X.w,X.l,X.ctl,X.pend,b,X.seen⟩,rfl⟩
theorem zX5 {x:Guest}(X:GOk x){p:Int}(b:zdM p=true):GKeep x {x with Pending:=p}:=⟨⟨X.prog,X.a,X.pc,X.w,X.l,X.ctl,b,X.ex,X.seen⟩,rfl⟩
theorem zX2 {x:Guest}(X:GOk x)(b:Bool):GKeep x {x with Halted:=b}:=⟨⟨X.prog,X.a,X.pc,X.w,X.l,X.ctl,X.pend,X.ex,X.seen⟩,rfl⟩
theorem zX3 {x:Guest}(X:GOk x):GKeep x (held x):=⟨(zj9 (zX2 X true).ok).ok,(zj9 (zX2 X true).ok).live⟩
theorem z16 {x:Guest}(X:GOk x){v:Int}(c:zk v 0 99=true):GKeep x (loaded x v):=by have a:=zTq (zZz X c) v;have b:=zj9 a.ok;exact⟨b.ok,b.live.trans a.live⟩
theorem zMS {x:Guest}(X:GOk x):GKeep x (interrupted x):=by unfold interrupted;cases zja x with|false=>exact⟨X,rfl⟩|true=>have a:=zX5 X (zQt X.pend);rw[cond_true];exact⟨(zTq a.ok _).ok,(zTq a.ok _).live⟩
theorem zIs {p:List Ins}(h:zdw p=true)(i:Int):zeD (zci p i)=true:=by unfold zci;cases a:hasB i (ln p) with|false=>rfl|true=>unfold zdw at h;rw[zcj,qM]at h;exact h.1 _ (zmh a _)
theorem zbao {i:Ins}(h:zeD i=true)(a:i.Op=3\/i.Op=4):0<=i.X/\i.X<=15:=by unfold zeD at h;rcases a with e|e<;>rw [e]at h<;>exact zcX.1 h
theorem z2e {i:Ins}(h:zeD i=true)(a:i.Op=5\/i.Op=6):0<=i.X/\i.X<=99:=by unfold zeD at h;rcases a with e|e<;>rw [e]at h<;>exact zcX.1 h
theorem zba5 {i:Ins}(h:zeD i=true)(a:i.Op=8):0<=i.X/\i.X<=11:=by unfold zeD at h;rw[a]at h;exact zcX.1 h
theorem zba4 {i:Ins}(h:zeD i=true)(a:i.Op=1):0<=i.X/\i.X<=99:=by unfold zeD at h;rw[a]at h;exact zcX.1 h
theorem zZB {x:Guest}(X:GOk x):GKeep x (plainly x):=by have M:=zj9 X;have b:=zIs X.prog x.Pc;unfold plainly;cases ine (zL x) 2 with|true=>exact⟨X,rfl⟩|false=>rw[cond_false];(cases zk x.A 0 99 with|false=>exact M|true=>rw[cond_true];(cases zk (zci x.Prog x.Pc).X 0 99 with|false=>exact M|true=>rw[cond_true];by_cases c:(zci x.Prog x.Pc).Op=1;{rw [zbx.2 c,cond_true];exact⟨zZz M.ok<|zcX.2<|zba4 b c,M.live⟩};{rw [zb6.2 c,cond_false];by_cases d:(zci x.Prog x.Pc).Op=2;{rw [zbx.2 d,cond_true];refine⟨zZz M.ok ?_,M.live⟩;have f:=zcX.1 X.a;have i:0<=(zci x.Prog x.Pc).X/\(zci x.Prog x.Pc).X<=99:=(by unfold zeD at b;rw[d]at b;exact zcX.1 b);rw[zcX];unfold zmY;rw[zPh (by omega) (by omega)];have g:=Int.tmod_nonneg (a:=x.A+(zci x.Prog x.Pc).X) 100 (by omega);have h:=Int.tmod_lt_of_pos (x.A+(zci x.Prog x.Pc).X) (show (0:Int)<100 by omega);omega};{rw [zb6.2 d,cond_false];by_cases e:(zci x.Prog x.Pc).Op=8;{rw [zbx.2 e,cond_true];cases ieq x.A 0 with|true=>have:=zba5 b e;exact⟨zZA M.ok<|zcX.2 (by omega),M.live⟩|false=>exact M};{rw [zb6.2 e];exact M}}}))
end
end Go.Proofs.YtjapbkodhfpbbaaGreat.E
