/- What is proved here: a part of the proof that the statement of this claim holds (several texts of wip/, laid together). -/
import Derived.Test.YtgjpbkhaaiffkaaGreatW6
namespace Go.Proofs.YtgjpbkhaaiffkaaGreat.E
open Go
set_option linter.constructorNameAsVariable false
set_option linter.unusedVariables false
set_option maxRecDepth 100000
set_option linter.unusedSimpArgs false
set_option linter.unusedSectionVars false
noncomputable section
def zwU (h:Host):Prop:=∃a l,zHq a/\(1<=a.length/\∀p∈a,1<=p.length/\∀x∈p,zdv x=true)/\h=(zsS a l).1
theorem z2G {p:List Ins}(h:zdv p=true):p.length<=12:=by unfold zdv at h;cases a:p.all zeJ with|false=>rw[a]at h;cases h|true=>rw[a,cT]at h;have b:=(zfj.1 h).2;unfold ln at b;omega
def zuR (N:Nat)(c:Cur)  : OA :=
 let a:=({ (zlT c) with b:=c.b}:Cur); (oN (zoZ c)<|oN (zmu a 20)<|oN (zti (ztr c)<|zq0 a 20)<|some [.agg [.s .u8 c.b,.i .i64 (zmv a 20).i,.i .i64 (zmv a 20).h],aH<|zth (ztr c)<|zq0 a 20])
def zo0 (c:Cur)(s:Cur)(a:Host):Prop:=(∃N,zuR N c=some (AV.agg (zfw s)::[aH a]))/\(s.b=c.b/\0<=s.i)/\(zwU a)
def zgt (c:Cur)  : Bool:=wC (zo0 c)
def zEw (c:Cur)  : Cur:=wS (zo0 c)
def zk4 (c:Cur)  : Host:=wV (zo0 c)
theorem zEv {c:Cur}(h:zgt c=true):zo0 c (zEw c) (zk4 c):=wG h
theorem zU4 (c:Cur)(h:∃N,Ends (wE (λa=>aH a) c.b λa=>zwU a)<|zuR N c):zgt c=true:=wI (λ_ _ h=>h) h
def zwg:zkw:=rP0 λc=>(zgt c,zEw c,[aH<|zk4 c])
theorem zIL:zdg Tryz.prog 63 [false,true,true] zwg:=hP0 zu1 zbh zSV zu (zx []) (λ_ h=>(zEv h).1)
theorem zZJ {c:Cur}(h:zd3 c):zgt c=true:=by
 refine zU4 c ⟨0,?_⟩;have e:zd3 {zlT c with b:=c.b}:=zf5 h (zX6 _);have a:=(zJL<|z3r h).2.2;have f:=(zEx<|zYD e (m:=20) (by omega) (by omega)).2.2;unfold zuR oN;conv=>zeta
 have i:(zq0 {zlT c with b:=c.b} 20).length<=65:=by unfold ln at f;omega
 have S:zHq (ztr c):=⟨by omega,λp d=>by
  have g:=a.2.2 p d;exact⟨by omega,λx j=>by have:=z2G (g.2.2 x j);omega⟩⟩
 exact zbF (z3r h) (zbF (zYD e (by omega) (by omega))<|zbF (zbo ⟨S,jC i (by decide)⟩)<|zlp aH (zU6 _ _) ⟨_,_,S,⟨a.1,λp d=>⟨(a.2.2 p d).1,(a.2.2 p d).2.2⟩⟩,rfl⟩)
def zXU:zdL:=[(63,[false,true,true],zwg)]++z4Y
theorem zs4:zcG zXU:=zem zSV (by
 intro x a;simp only[qG,qW,or_false]at a;rcases a with rfl
 .exact zIL)
theorem zRr {f c b:Type}{G:b->Prop}{a:Nat->f->c->(c->Option b)->Option b}{K:c->Option b}(e:∀i x t g,(∀t,Ends G<|g t)->Ends G (a i x t g))(d:∀t,Ends G<|K t):∀(l:List f) (i:Nat) (t:c),Ends G (goL a K l i t)
 |[],i,t=>d t
 |x::l,i,t=>e i x t _ (λt=>zRr e d l (i+1) t)
def znB (N:Nat)(c:List Int):OA:=
 (iter (σ:=(Int×Int×(List Int)×lM×lN×lE×lE×Unit)) N (λd a=>let b:=(⟨a.2.2.1,0,a.1⟩:Cur); (cond (ilt a.2.1<|ln a.2.2.1) (cond (ilt a.2.1 4000) (oN (inb a.2.1<|ln a.2.2.1)<|d (wand .i64 (zI .i64 (zI .i64 (zl3 .i64 a.1 131)<|wcv .i64<|ix a.2.2.1 a.2.1 0) 7) 1073741823,zI .i64 a.2.1 1,a.2.2.1,a.2.2.2.1,a.2.2.2.2.1,a.2.2.2.2.2.1,a.2.2.2.2.2.2.1,()))<|oN (zgt b)<|some [aH<|zk4 b])<|oN (zgt b)<|some [aH<|zk4 b])) (zI .i64 94701<|ln c,0,c,[],[],[],[],()))
def zMV:=zx [(64,0,{n:=32,tm:=[(0,.sl 0 []),(3,ti),(4,ti)],lo:=[(0,[.sl 1 [],.sl 2 [],.sl 3 [],.sl 4 []])],ro:=[(0,.u8,false),(1,.sl .int,true),(2,.mon,true),(3,.entry,true),(4,.entry,true)],sk:=[(0,2,0,.lp 0 0)]})]
def zrv (b:List Int)(a:Host):Prop:=(∃N,znB N b=some [aH a])/\(zwU a)
def zi7 (a:List Int):Bool:=uC (T:=Host) (λr=>zrv a r)
def zS8 (a:List Int):Host:=uV (λr=>zrv a r)
def zoA (a:List Int):Host:=(zS8 a)
theorem zte {a:List Int}(h:zi7 a=true):zrv a (zoA a):=uG h
theorem zS7 (c:List Int)(h:∃N,Ends (λa=>∃b,a=[aH b]/\(zwU b))<|znB N c):zi7 c=true:=by obtain⟨N,a,e,b,rfl,h⟩:=h;exact zbo ⟨b,⟨N,e⟩,h⟩
def zwp:Run:=rF1 (dS .u8) λb=>(zi7 b,[aH<|zoA b])
theorem zL9 (a:List Int)(b:zi7 a=true):∃N,znB N a=some [aH<|zoA a]:=by exact(zte b).1
theorem zFD:vQ 19 zwp:=kF1 zu1 zbh zs4 zu zMV zL9
theorem zxb {b:List Int}(h:b.length<=big):zi7 b=true:=by
 refine zS7 b (zbZ λN e=>?_);unfold znB oN;conv=>zeta
 have c:∀t,Ends (λa=>∃g,a=[aH g]/\zwU g) (cond (zgt ⟨b,0,t⟩) (some [aH<|zk4 ⟨b,0,t⟩]) none):=λt=>
  have f:zd3 ⟨b,0,t⟩:=⟨kL 0,h⟩
  zbF (zZJ f) ⟨_,rfl,_,rfl,(zEv<|zZJ f).2.2⟩
 refine(congrArg (Ends _)<|zX b (λi (t:Int)=>(t,(i:Int),b,[],[],[],[],())) _ (λi x (t:Int) j=>bif ilt (i:Int) 4000 then j (wand .i64 (zI .i64 (zI .i64 (zl3 .i64 t 131)<|wcv .i64 x) 7) 1073741823) else (cond (zgt ⟨b,0,t⟩) (some [aH<|zk4 ⟨b,0,t⟩]) none)) (λ(t:Int)=>cond (zgt ⟨b,0,t⟩) (some [aH<|zk4 ⟨b,0,t⟩]) none) (λi d t rec=>?_) (λt rec=>?_) N (zI .i64 94701<|ln b)<|e h).mpr ?_;{simp only [zbq d,zS d,zba d,zQ d h,cT]};{simp only [zbl,cF]};exact zRr (λi x t j k=>zdz (λ_=>k _) λ_=>c t) c _ _ _
def zYW:zV:=[(19,zwp)]++zQ0
theorem zYX:zL zYW:=zh zFD zu1
theorem zWq:∀(l:List GAct) (u:Host×List Told),SmH u.1->SmH (zxN l u).1
 |[],u,h=>h
 |a::l,u,h=>zWq l (zep u.1 a,ap u.2 [ziH u.1 a]) (zWn h)
theorem z2i {h:Host}(L:zwU h):Safe h/\SmH h:=by obtain⟨c,l,a,b,rfl⟩:=L;refine⟨?_,zWq _ _<|zWo a⟩;unfold zsS;rw[zWf];exact(zZq _<|zIS b).1
def zYY:zV:=zYW
theorem zqD:zL zYY:=zYX
def zQx (l:List Int):Prop:=l.length=12/\∀i:Int,0<=i->i<12->0<=ix l i 0/\ix l i 0<10000
def zYB (N:Nat)(c:Cur)  : OA :=
 let a:=zb6 c [0,0,0,1,1,2,-1,9223372036854775807]; (oN (zdR c [0,0,0,1,1,2,-1,9223372036854775807])<|some [.agg [.s .u8 c.b,.i .i64 a.i,.i .i64 a.h],aI<|zex c [0,0,0,1,1,2,-1,9223372036854775807]])
def zsa (c:Cur)(s:Cur)(a:Int):Prop:=(∃N,zYB N c=some (AV.agg (zfw s)::[aI a]))/\(s.b=c.b/\0<=s.i)/\(True)
def zBr (c:Cur)  : Bool:=wC (zsa c)
def zuG (c:Cur)  : Cur:=wS (zsa c)
def zMJ (c:Cur)  : Int:=wV (zsa c)
theorem z0A {c:Cur}(h:zBr c=true):zsa c (zuG c) (zMJ c):=wG h
def zA6:zkw:=rP0 λc=>(zBr c,zuG c,[aI<|zMJ c])
theorem zO4:zdg Tryz.prog 193 [false,true,true] zA6:=hP0 zqD zbh zs4 zu (zx []) (λ_ h=>(z0A h).1)
def z4Z:zdL:=[(193,[false,true,true],zA6)]++zXU
theorem zSW:zcG z4Z:=zem zs4 (by
 intro x a;simp only[qG,qW,or_false]at a;rcases a with rfl
 .exact zO4)
def zWJ (N:Nat)(c:Cur)  : OA :=
 let a:=zm8 c;let e:=({ (zgu c) with b:=c.b}:Cur);let f:=zZ e 10;let d:=({ (zF e 10) with b:=c.b}:Cur);let g:=zb6 d [-1,4,8,16,100,9223372036854775807]; (oN (zil c)<|oN (zbd e 10)<|cond (ieq f 0) (oN (zbd d 20)<|some [.agg [.s .u8 c.b,.i .i64 (zF d 20).i,.i .i64 (zF d 20).h],.agg [.i .i64<|wsub .i64 (zZ d 20) 1,.i .i64 a.M,.i .i64 a.G,.i .i64 a.X,.i .i64 a.Y,.i .i64 a.Z]])<|cond (ieq f 1) (oN (zBr d)<|some [.agg [.s .u8 c.b,.i .i64 (zuG d).i,.i .i64 (zuG d).h],.agg [.i .i64 a.Kind,.i .i64<|zMJ d,.i .i64 a.G,.i .i64 a.X,.i .i64 a.Y,.i .i64 a.Z]])<|cond (ieq f 2) (oN (zdR d [-1,4,8,16,100,9223372036854775807])<|some [.agg [.s .u8 c.b,.i .i64 g.i,.i .i64 g.h],.agg [.i .i64 a.Kind,.i .i64 a.M,.i .i64 a.G,.i .i64<|zex d [-1,4,8,16,100,9223372036854775807],.i .i64 a.Y,.i .i64 a.Z]])<|cond (ieq f 3) (oN (zdR d [-1,0,1,4])<|some [.agg [.s .u8 c.b,.i .i64 (zb6 d [-1,0,1,4]).i,.i .i64 (zb6 d [-1,0,1,4]).h],.agg [.i .i64 a.Kind,.i .i64 a.M,.i .i64 a.G,.i .i64 a.X,.i .i64 a.Y,.i .i64<|zex d [-1,0,1,4]]])<|some [.agg [.s .u8 c.b,.i .i64 (zF e 10).i,.i .i64 (zF e 10).h],.agg [.i .i64 a.Kind,.i .i64 a.M,.i .i64 a.G,.i .i64 a.X,.i .i64 a.Y,.i .i64 a.Z]])
def zqx (c:Cur)(s:Cur)(a:GAct):Prop:=(∃N,zWJ N c=some (AV.agg (zfw s)::[aT .act a]))/\(s.b=c.b/\0<=s.i)/\(True)
def zJM (c:Cur)  : Bool:=wC (zqx c)
def zJN (c:Cur)  : Cur:=wS (zqx c)
def zTd (c:Cur)  : GAct:=wV (zqx c)
theorem zYa {c:Cur}(h:zJM c=true):zqx c (zJN c) (zTd c):=wG h
def zyz:zkw:=rP0 λc=>(zJM c,zJN c,[aT .act<|zTd c])
theorem zLM:zdg Tryz.prog 94 [false,true,true] zyz:=hP0 zqD zbh zSW zu (zx []) (λ_ h=>(zYa h).1)
def z8P:zdL:=[(94,[false,true,true],zyz)]++z4Z
theorem z2D:zcG z8P:=zem zSW (by
 intro x a;simp only[qG,qW,or_false]at a;rcases a with rfl
 .exact zLM)
def zlj (N:Nat)(g:List Int):OA:=
 (iter (σ:=(Int×Int×(List Int)×(List Int)×Unit)) N (λl b=>let c:=b.2.2.1; (cond (ilt b.2.1<|ln c) (cond (ilt b.2.1 4000) (oN (inb b.2.1<|ln c)<|l (wand .i64 (zI .i64 (zI .i64 (zl3 .i64 b.1 131)<|wcv .i64<|ix c b.2.1 0) 7) 1073741823,zI .i64 b.2.1 1,c,b.2.2.2.1,()))<|iter (σ:=(Int×Int×Int×(List Int)×(List Int)×Unit)) N (λf a=>let d:=(⟨a.2.2.2.2.1,a.2.1,a.2.2.1⟩:Cur);let j:=ap a.2.2.2.1 [zZ d 10000]; (cond (ilt a.1 12) (oN (zbd d 10000)<|oN (few<|ln j)<|f (zI .i64 a.1 1,(zF d 10000).i,(zF d 10000).h,j,a.2.2.2.2.1,()))<|some [aS .int a.2.2.2.1])) (0,0,b.1,[],c,()))<|iter (σ:=(Int×Int×Int×(List Int)×(List Int)×Unit)) N (λf a=>let e:=(⟨a.2.2.2.2.1,a.2.1,a.2.2.1⟩:Cur);let k:=ap a.2.2.2.1 [zZ e 10000]; (cond (ilt a.1 12) (oN (zbd e 10000)<|oN (few<|ln k)<|f (zI .i64 a.1 1,(zF e 10000).i,(zF e 10000).h,k,a.2.2.2.2.1,()))<|some [aS .int a.2.2.2.1])) (0,0,b.1,[],c,()))) (zI .i64 94701<|ln g,0,g,[],()))
def zGx:=zx [(64,0,{n:=32,tm:=[(0,.sl 0 []),(3,ti),(4,ti)],lo:=[],ro:=[(0,.u8,false),(1,.int,true)],sk:=[(0,2,0,.sl 1 [])]}),(20,0,{n:=19,tm:=[(3,.lp 0 0),(4,.sl 0 []),(5,ti)],lo:=[(0,[.sl 1 [],ti,ti])],ro:=[(0,.int,true),(1,.u8,false)]})]
def zoB (b:List Int)(a:List Int):Prop:=(∃N,zlj N b=some [aS .int a])/\(zQx a)
def zhC (a:List Int):Bool:=uC (T:=List Int) (λr=>zoB a r)
def zMH (a:List Int):List Int:=uV (λr=>zoB a r)
def zk1 (a:List Int):List Int:=(zMH a)
theorem zwF {a:List Int}(h:zhC a=true):zoB a (zk1 a):=uG h
theorem zMG (c:List Int)(h:∃N,Ends (λa=>∃b,a=[aS .int b]/\(zQx b))<|zlj N c):zhC c=true:=by obtain⟨N,a,e,b,rfl,h⟩:=h;exact zbo ⟨b,⟨N,e⟩,h⟩
def zs8:Run:=rF1 (dS .u8) λb=>(zhC b,[aS .int<|zk1 b])
theorem zF7 (a:List Int)(b:zhC a=true):∃N,zlj N a=some [aS .int<|zk1 a]:=by exact(zwF b).1
theorem zAt:vQ 20 zs8:=kF1 zqD zbh z2D zu zGx zF7
theorem zS0 {a:List Int}(h:a.length<=big):zhC a=true:=by
 refine zMG a (zbZ λN d=>?_);unfold zlj oN;conv=>zeta
 have m:12<N:=d (by rw[zpf];omega);refine zsI (λn s=>∃(t:Int) (i:Nat),s=(t,(i:Int),a,[],())/\i+n=a.length) ?_ N a.length _ ⟨_,0,rfl,by omega⟩ (d h);rintro n s rec ⟨t,i,rfl,F⟩ f;dsimp only;refine zdz (λv=>zdz (λE=>?_) λ_=>?_) (λ_=>?_);{have u:(i:Int)<ln a:=qD v;unfold ln at u;refine zbF (qK ⟨by omega,by unfold ln;omega⟩) (f (n-1) _ (by omega) (by rw[zQ (show i<a.length by omega) h];exact⟨_,i+1,rfl,by omega⟩))}
 all_goals
  refine zsI (λn s=>∃(k:Nat) (i x:Int) (l:List Int),s=((k:Int),i,x,l,a,())/\k+n=12/\0<=i/\l.length=k/\∀y∈l,0<=y/\y<10000) ?_ N 12 _ ⟨0,0,t,[],rfl,rfl,kL 0,rfl,by simp⟩ m
  rintro D s A ⟨k,z,x,l,rfl,G,q,r,w⟩ c
  dsimp only
  have b:zd3 ⟨a,z,x⟩:=⟨q,h⟩;have C:=zmU b (n:=10000) (by omega)
  refine zdz (λp=>?_) (λp=>⟨_,rfl,l,rfl,?_⟩)
  .have h3':(k:Int)<12:=qD p;have e:∀y∈ap l [zZ ⟨a,z,x⟩ 10000],0<=y/\y<10000:=by intro y g;rcases jE.1 g with g|g;{exact w y g};{rw [qF.1 g];exact C}
   exact zbF (ziP b _) (zbF (zvL (by rw[zp7];unfold ln;omega))<|c (D-1) _ (by omega) (by rw[zny (show -9223372036854775808<=(k:Int)+1 by omega) (by omega)];exact⟨k+1,_,_,_,rfl,by omega,zcO _ _,by simp[ap,r],e⟩))
  .have h3':¬ (k:Int)<12:=jR p;exact⟨by omega,λj B v=>w _ (zbv (qK ⟨B,by unfold ln;omega⟩) 0)⟩
theorem zEI (a:List Slot)(b:List Kept):∀(l:List Guest) (i:Nat),(∀k (d:k<l.length),((i+k:Nat):Int)<ln b->zkJ (ix b ((i+k:Nat):Int) kZ) l[k].Live a=true)->zpR a b l i=true
 |[],_,_=>rfl
 |g::l,i,h=>by
  unfold zpR;cases f:ilt (i:Int) (ln b) with
  |false=>rfl
  |true=>
   have e:=h 0 (by simp) (by simpa using qD f);rw[cond_true,show zkJ (ix b (i:Int) zc3) g.Live a=true from e,cond_true];exact zEI a b l (i+1) λk d c=>by have:=h (k+1) (by simpa using d) (by rw[show i+(k+1)=i+1+k by omega];exact c);rw[show i+(k+1)=i+1+k by omega] at this;exact this
theorem z0U {h:Host}(S:Safe h):zmy h=true:=by unfold zmy;rw[qL];intro x d;obtain⟨m,c,e⟩:=zv8 d mZ;have T:=S.rt.t m c;rw[e] at T;refine zEI _ _ _ 0 λk a b=>z6s.2 ?_;have hg:hasB ((0+k:Nat):Int) (ln x.Guests)=true:=zC.2 ⟨by omega,by unfold ln;omega⟩;have:=T _ hg;rw[show ix x.Guests ((0+k:Nat):Int) gZ=x.Guests[k] by rw[show ((0+k:Nat):Int)=(k:Int) by omega];exact ziY a gZ] at this;exact this
def cU (u:List Int)(q:Int):Nat:=u.countP λz=>ieq z q
theorem zTs:∀(l:List Slot) (u:List Int),(∀s∈l,SOk s)->(∀q,0<=q->(l.countP λs=>ieq s.Page q)+cU u q<=1)->∃v,spS l u=some v/\∀q,0<=q->cU v q=(l.countP λs=>ieq s.Page q)+cU u q
 |[],u,_,_=>⟨u,rfl,λq _=>by simp⟩
 |s::l,u,j,g=>by
  have i:∀x∈l,SOk x:=λx n=>j x (qR _ n);unfold spS;by_cases e:s.Page = -1;{rw [zbk.2 e,cond_true];obtain⟨v,d,f⟩:=zTs l u i λq a=>(by have:=g q a;rw[zjs,if_neg (by omega)] at this;exact this);exact⟨v,d,λq a=>by rw[f q a,zjs,if_neg (by omega)];rfl⟩}
  .have hp:=(j s qY).pos e;rw[zbN.2 e,cond_false];have k:=g s.Page hp.1;rw[zjs,if_pos rfl]at k;have m:u.any (λz=>ieq z s.Page)=false:=by rw[<- vP,kQ];rintro⟨z,p,h⟩;have:0<cU u s.Page:=vF.2 ⟨z,p,h⟩;omega
   rw[m,cond_false];have b:∀q,cU (ap u [s.Page]) q=cU u q+if s.Page=q then 1 else 0:=λq=>by
    unfold cU ap;rw[List.countP_append,u4,List.countP_nil]
    by_cases c:s.Page=q
    .rw [if_pos c,if_pos<|zbk.2 c]
    .rw [if_neg c,if_neg (by rw[zbk];exact c)]
   obtain⟨v,d,f⟩:=zTs l (ap u [s.Page]) i λq a=>(by have:=g q a;rw[zjs] at this;rw[b];omega);exact⟨v,d,λq a=>by rw[f q a,b,zjs];omega⟩
theorem z0S:∀(l:List Mon) (u:List Int),(∀x∈l,∀s∈x.Outer,SOk s)->(∀q,0<=q->zeS l q+cU u q<=1)->spM l u=true
 |[],_,_,_=>rfl
 |x::l,u,d,c=>by have a:∀q,zeS (x::l) q=(x.Outer.countP λs=>ieq s.Page q)+zeS l q:=λq=>rfl;obtain⟨v,e,f⟩:=zTs x.Outer u (d x qY) λq b=>(by have:=c q b;rw[a] at this;omega);unfold spM;rw[e];exact z0S l v (λy g=>d y (qR _ g)) λq b=>by have:=c q b;rw[a] at this;rw[f q b];omega
theorem z09 {h:Host}(H:HOk h):zrY h=true:=by rw[z1a];refine z0S _ _ (λx b=>(H.mons x b).sl) λq a=>?_;have:=H.uq q a;simpa [cU] using this
theorem zOo {h:Host}(S:Safe h):zpM h=true:=by unfold zpM;rw[ziT.2 S.ok,cond_true,z09 S.ok,cond_true,z0U S,cond_true,show zkD h h.Buffer=true from qL.2 S.rt.e1,cond_true];exact qL.2 S.rt.e2
structure Clear (h:Host) (m p:Int):Prop where
 d:ix (ix h.Mons m mZ).Dirty p false=false
 s:(ix (ix h.Mons m mZ).Outer p sZ).Page≠-1->(ix (ix h.Mons m mZ).Outer p sZ).Rights=1/\(∀e∈h.Buffer,e.Host≠(ix (ix h.Mons m mZ).Outer p sZ).Page)/\(∀e∈h.IoBuffer,e.Host≠(ix (ix h.Mons m mZ).Outer p sZ).Page)/\
  ∀g i,hasB g (ln (ix h.Mons m mZ).Guests)=true->hasB i (ln (ix (ix h.Mons m mZ).Guests g gZ).Live)=true->(ix (ix (ix h.Mons m mZ).Guests g gZ).Live i sZ).Page=p->ix (ix (ix h.Mons m mZ).Tables g kZ).Known i false=false
theorem zTw:∀(n g:Nat) (c:Int) {h:Host} (S:Safe h) (m:Int),SimT h (zey m n g (c,h)).2 m (λb=>(rb n g b c).1)/\(zey m n g (c,h)).1=(rb n g (zA h m) c).2
 | 0,g,c,h,S,m=>⟨SimT.refl S m,rfl⟩
 |n+1,g,c,h,S,m=>by obtain⟨a,d⟩:=step_ok S m (g:Int);obtain⟨i,e⟩:=zTw n (g+1) (cond ((zbt h m (g:Int)).2) (zI .i64 c 1) c) a.safe m;have f:zA (zbt h m (g:Int)).1 m=zd4 (zA h m) (g:Int):=(by rw[a.seen m,zbk.2 rfl];rfl);refine⟨?_,?_⟩;{refine(a.trans i).congr ?_;show (rb n (g+1) (zd4 (zA h m) g)<|cond ((zbt h m (g:Int)).2) (zI .i64 c 1) c).1=(rb (n+1) g (zA h m) c).1;rw[d];rfl};{show (zey m n (g+1) (cond ((zbt h m (g:Int)).2) (zI .i64 c 1) c,(zbt h m (g:Int)).1)).1=_;rw[e,f,d];rfl}
def zc6 (h:Host):Nat->Nat->List Bare
 | 0,_=>[]
 |n+1,m=>zA h (m:Int)::zc6 h n (m+1)
theorem zEz {h r:Host}:∀{n m:Nat},(∀i:Nat,m<=i->zA r (i:Int)=zA h (i:Int))->zc6 r n m=zc6 h n m
 | 0,_,_=>rfl
 |n+1,m,e=>by show zA r _::_=zA h _::_;rw[e m<|qX m,zEz λi a=>e i (by omega)]
theorem znC (h:Host):zbU h=zc6 h h.Mons.length 0:=by have:∀n m:Nat,((List.range' m n).map λ(i:Nat)=>zA h (i:Int))=zc6 h n m:=(by intro n;induction n with|zero=>intro m;rfl|succ n a=>intro m;rw[uK,q9,a];rfl);unfold zbU;rw[uL];exact this _ 0
theorem zNW:∀(n m:Nat) (c:Int) {h:Host} (S:Safe h),
 Safe (zhH ((zc6 h n m).map λb=>b.Guests.length) m (c,h)).2/\(zhH ((zc6 h n m).map λb=>b.Guests.length) m (c,h)).2.Mons.length=h.Mons.length/\
 (∀i:Nat,i<m->zA (zhH ((zc6 h n m).map λb=>b.Guests.length) m (c,h)).2 (i:Int)=zA h (i:Int))/\
 (zc6 (zhH ((zc6 h n m).map λb=>b.Guests.length) m (c,h)).2 n m,(zhH ((zc6 h n m).map λb=>b.Guests.length) m (c,h)).1)=rnd (zc6 h n m) c
 | 0,m,c,h,S=>⟨S,rfl,λ_ _=>rfl,rfl⟩
 |n+1,m,c,h,S=>by
  show Safe (zhH ((zc6 h n<|m+1).map λb=>b.Guests.length) (m+1)<|zey (m:Int) (zA h (m:Int)).Guests.length 0 (c,h)).2/\_;obtain⟨f,p⟩:=zTw (zA h (m:Int)).Guests.length 0 c S (m:Int);have a:∀i:Nat,i≠m->zA (zey (m:Int) (zA h (m:Int)).Guests.length 0 (c,h)).2 (i:Int)=zA h (i:Int):=λi g=>(by rw[f.seen (i:Int),zbN.2 (by omega)];rfl);have r:zA (zey (m:Int) (zA h (m:Int)).Guests.length 0 (c,h)).2 (m:Int)=(rb (zA h (m:Int)).Guests.length 0 (zA h (m:Int)) c).1:=(by rw[f.seen (m:Int),zbk.2 rfl];rfl);have q:zc6 (zey (m:Int) (zA h (m:Int)).Guests.length 0 (c,h)).2 n (m+1)=zc6 h n (m+1):=zEz λi g=>a i (by omega);have k:=zNW n (m+1) (zey (m:Int) (zA h (m:Int)).Guests.length 0 (c,h)).1 f.safe;rw[q] at k;obtain⟨s,t,j,l⟩:=k
  show Safe (zhH ((zc6 h n<|m+1).map λb=>b.Guests.length) (m+1) ((zey (m:Int) (zA h (m:Int)).Guests.length 0 (c,h)).1,(zey (m:Int) (zA h (m:Int)).Guests.length 0 (c,h)).2)).2/\(zhH ((zc6 h n<|m+1).map λb=>b.Guests.length) (m+1) ((zey (m:Int) (zA h (m:Int)).Guests.length 0 (c,h)).1,(zey (m:Int) (zA h (m:Int)).Guests.length 0 (c,h)).2)).2.Mons.length=h.Mons.length/\
   (∀i:Nat,i<m->zA (zhH ((zc6 h n<|m+1).map λb=>b.Guests.length) (m+1) ((zey (m:Int) (zA h (m:Int)).Guests.length 0 (c,h)).1,(zey (m:Int) (zA h (m:Int)).Guests.length 0 (c,h)).2)).2 (i:Int)=zA h (i:Int))/\
   (zA (zhH ((zc6 h n<|m+1).map λb=>b.Guests.length) (m+1) ((zey (m:Int) (zA h (m:Int)).Guests.length 0 (c,h)).1,(zey (m:Int) (zA h (m:Int)).Guests.length 0 (c,h)).2)).2 (m:Int)::zc6 (zhH ((zc6 h n<|m+1).map λb=>b.Guests.length) (m+1) ((zey (m:Int) (zA h (m:Int)).Guests.length 0 (c,h)).1,(zey (m:Int) (zA h (m:Int)).Guests.length 0 (c,h)).2)).2 n (m+1),
    (zhH ((zc6 h n<|m+1).map λb=>b.Guests.length) (m+1) ((zey (m:Int) (zA h (m:Int)).Guests.length 0 (c,h)).1,(zey (m:Int) (zA h (m:Int)).Guests.length 0 (c,h)).2)).1)=_
  refine⟨s,t.trans f.len,λi g=>(j i (by omega)).trans (a i (by omega)),?_⟩;have d:=congrArg Prod.fst l;have e:=congrArg Prod.snd l;dsimp only at d e;rw[d,e,j m (by omega),r,p];rfl
theorem z1p (h:Host):cnt h.Mons=(zc6 h h.Mons.length 0).map λb=>b.Guests.length:=by rw[<- znC];unfold cnt zbU;refine vO (by simp) λi a e=>?_;have d:i<h.Mons.length:=(by simpa using a);have c:hasB (i:Int) (ln h.Mons)=true:=zC.2 ⟨by omega,by unfold ln;omega⟩;simp only[List.getElem_map,List.getElem_range];unfold zA;rw[c,cond_true];show _=(ix h.Mons (i:Int) mZ).Guests.length;rw[ziY d]
theorem z2K {h:Host}(S:Safe h):Safe (zjg h).2/\(zjg h).2.Mons.length=h.Mons.length/\zbU (zjg h).2=(rnd (zbU h) 0).1/\(zjg h).1=(rnd (zbU h) 0).2:=by unfold zjg;rw[z1p];obtain⟨c,a,_,b⟩:=zNW h.Mons.length 0 0 S;refine⟨c,a,?_,?_⟩;{rw [znC,a,znC];exact congrArg Prod.fst b};{rw [znC];exact congrArg Prod.snd b}
def Bl (b:List Entry):Prop:=∀e∈b,e.Host≠-1
structure Bf (h:Host):Prop where
 b:Bl h.Buffer
 io:Bl h.IoBuffer
theorem zQH {b c:List Entry}(k:Bl b)(s:∀e∈c,e∈b):Bl c:=λe a=>k e (s e a)
theorem ze1 {h r:Host}(k:Bf h)(a:r.Buffer=h.Buffer)(c:r.IoBuffer=h.IoBuffer):Bf r:=⟨by rw[a];exact k.b,by rw[c];exact k.io⟩
theorem zHB {b:List Entry}(k:Bl b)(p:Int):Bl (flushed b p):=zQH k λe a=>(uA.1 a).1
theorem zz4 {b:List Entry}(k:Bl b)(t p:Int):Bl (zcp b t p):=zQH k λe a=>(uA.1 a).1
theorem zYS {b:List Entry}(k:Bl b){e:Entry}(d:e.Host≠-1):Bl (zn0 b e):=by
 have c:Bl (ap (zcp b e.Tag e.Page) [e]):=λx a=>by unfold ap at a;rcases jE.1 a with a|a;{exact zz4 k _ _ x a};{rw [qF.1 a];exact d}
 unfold zn0;cases igt (ln<|ap (zcp b e.Tag e.Page) [e]) 6 with
 |true=>exact zQH c λx a=>kD a
 |false=>exact c
theorem zrL {h:Host}(k:Bf h)(m p:Int)(s:Slot):Bf (zb7 h m p s):=by unfold zb7;cases ine (ix (ix h.Mons m zf).Outer p zN).Page (-1) with|true=>exact⟨zHB k.b _,zHB k.io _⟩|false=>exact⟨k.b,k.io⟩
theorem zVA {h:Host}(k:Bf h)(m p:Int):Bf (zdo h m p):=zrL (h:=zeW h m p) (ze1 k rfl rfl) m p noSlot
theorem z1g {h:Host}(k:Bf h)(m p:Int):Bf (znM h m p):=by unfold znM;cases zb1 h m p with|false=>exact k|true=>rw[cond_true];(cases zct (ix (ix h.Mons m zf).Outer p zN) noSlot with|true=>exact ze1 k rfl rfl|false=>exact zrL (h:=znw h m p) (ze1 k rfl rfl) m p _)
theorem zYQ {h:Host}(k:Bf h):Bf (zcL h):=by unfold zcL;cases ieq (ln<|zca h) 0 with|true=>exact zVA k _ _|false=>exact k
theorem zHw {h:Host}(k:Bf h)(m p:Int):Bf (fetched h m p):=zrL (h:=landing (zcL h) m p (ix (zca<|zcL h) 0 0)) (ze1 (zYQ k) rfl rfl) m p _
theorem zQG {h:Host}(k:Bf h)(m p n:Int):Bf (zie h m p n):=by unfold zie;cases ieq (wand .i64 n 2) 0 with|true=>exact k|false=>show Bf (opened (zbu h m p) m p);unfold opened;(cases ieq (wand .i64 (ix (ix (zbu h m p).Mons m mZ).Outer p sZ).Rights 2) 0 with|true=>exact zrL (h:=zbu h m p) (ze1 k rfl rfl) m p _|false=>exact ze1 k rfl rfl)
theorem zNC {h:Host}(k:Bf h)(m p n:Int):Bf (mended h m p n):=by unfold mended;cases ieq (ix (ix h.Mons m mZ).Outer p sZ).Page (-1) with|true=>exact zQG (zHw k m p) m p n|false=>exact zQG k m p n
theorem zYP {h:Host}(k:Bf h){m g a:Int}{d:Bool}(c:(zdq (zbS h m g) a).Page≠-1):Bf (zqc h m g a d):=by unfold zqc;cases d with|true=>exact⟨k.b,zYS k.io (e:=zBS h m g a) c⟩|false=>exact⟨zYS k.b (e:=zBS h m g a) c,k.io⟩
theorem z5u {h:Host}(k:Bf h)(m g a:Int):Bf (zce h m g a):=ze1 k rfl rfl
theorem z1h {h:Host}(k:Bf h){b:List Entry}{m g c a q:Int}{f:Bool}(d:(zfu h b m g c a q f).2.1≠-1):Bf (zfu h b m g c a q f).1:=by unfold zfu at d ⊢;cases i:zhx b m g c a with|true=>exact k|false=>rw[i,cond_false]at d;rw[cond_false];(cases e:zer h m g c a with|true=>rw[e,cond_true]at d;rw[cond_true];exact zYP (z5u (zNC k m q a) m g c) d|false=>rw[e,cond_false]at d;rw[cond_false];exact zYP k d)
theorem zKs {h:Host}(S:Safe h)(k:Bf h)(m g c a:Int)(i:Bool){b:List Entry}(j:∀e∈b,zcc h e=true):Bf (lookOf h b m g c a i).1:=by cases d:zbO h m g c a with|false=>unfold lookOf;rw[d];exact k|true=>have f:=(zAW S i d j).1.ne;unfold lookOf at f ⊢;rw[d,cond_true]at f ⊢;refine z1h ?_ f;(cases ieq a 2 with|true=>exact ze1 k rfl rfl|false=>exact k)
theorem zKt {h:Host}(k:Bf h)(m g:Int)(x:Guest):Bf (zfN h m g x):=ze1 k rfl rfl
theorem zWP {L:Host×Int×Bool}(k:Bf L.1)(m g:Int)(x:Guest)(w:Bool):Bf (zfT L m g x w):=by unfold zfT;cases L.2.2 with|false=>exact ze1 k rfl rfl|true=>(cases w with|true=>exact ze1 k rfl rfl|false=>exact ze1 k rfl rfl)
theorem z5y {h:Host}(k:Bf h)(m g:Int)(x:Guest)(w:Int):Bf (zin h m g x w):=by have a:Bf (zdY h m x w):=(by unfold zdY;cases (cond (ine w 6) (ieq (zkR (ix h.Mons m mZ).Traps x.Ctl.Traps<|ze8 w) 2) false) with|false=>exact k|true=>show Bf (owned h m);unfold owned;(cases ilt (ix h.Mons m mZ).Own 1000000000 with|true=>exact ze1 k rfl rfl|false=>exact k));unfold zin zf4;refine zKt ?_ m g _;cases (cond (zgv x.Ctl.Traps w) (ieq w 5) false) with|false=>exact a|true=>show Bf (zgA (zdY h m x w) m _);unfold zgA;(cases ilt (ln (ix (zdY h m x w).Mons m mZ).Outs) 40 with|true=>exact ze1 a rfl rfl|false=>exact a)
theorem z5x {h:Host}(S:Safe h)(k:Bf h)(m g:Int):Bf (zbt h m g).1:=by unfold zbt;cases zbJ h m g with|false=>exact k|true=>rw[cond_true];unfold zBz;(cases ieq (zD<|gOf h m g) 0 with|true=>exact k|false=>rw[cond_false];(cases ieq (zD<|gOf h m g) 1 with|true=>exact zKt k m g _|false=>rw[cond_false];(cases ieq (zD<|gOf h m g) 2 with|true=>exact zKt k m g _|false=>rw[cond_false];(cases (cond (ieq (zD<|gOf h m g) 3) true<|ieq (zD<|gOf h m g) 4) with|true=>exact zWP (zKs S k _ _ _ _ _ S.rt.e1) m g _ _|false=>exact z5y k m g _ _))))
theorem zpe {h:Host}(k:Bf h)(m:Int)(b:Bare):Bf (zgN h m b):=by unfold zgN;cases zcH h m with|true=>exact ze1 k rfl rfl|false=>exact k
theorem z1f {h:Host}(k:Bf h)(m g p:Int):Bf (zib h m g p):=by unfold zib;cases zcH h m with|false=>exact k|true=>rw[cond_true];(cases zcb (zA h m) g (hasB p 4) with|false=>exact k|true=>exact⟨zz4 k.b _ _,zz4 k.io _ _⟩)
theorem z5v {h:Host}(k:Bf h)(m p c v:Int):Bf (zjz h m p c v):=by unfold zjz;cases zfa h m p c v with|false=>exact k|true=>exact ze1 (zNC k m p 2) rfl rfl
theorem z7l {h:Host}(S:Safe h)(k:Bf h)(m g a v:Int):Bf (zlt h m g a v):=by unfold zlt;cases zgy h m g a v with|false=>exact k|true=>exact ze1 (zKs S k m g (zbb a) 2 true S.rt.e2) rfl rfl
theorem z5w {h:Host}(S:Safe h)(k:Bf h)(m g a:Int):Bf (zjA h m g a):=by unfold zjA;cases zfJ h m g a with|false=>exact k|true=>exact zKs S k m g (zbb a) 1 true S.rt.e2
theorem zHx {h:Host}(k:Bf h)(m p:Int):Bf (zeL h m p):=by unfold zeL;cases zb1 h m p with|false=>exact k|true=>(cases zgM h m p with|true=>exact k|false=>exact zVA k m p)
theorem zYO {h:Host}(k:Bf h)(m p:Int):Bf (znZ h m p):=by unfold znZ;cases zb1 h m p with|false=>exact k|true=>(cases zgM h m p with|true=>exact zHw k m p|false=>exact k)
theorem z1i {h:Host}(k:Bf h)(m t:Int):Bf (zhR h m t):=by unfold zhR;cases zbM h with|false=>exact k|true=>(cases hasB m (ln h.Mons) with|false=>exact k|true=>(cases zi t 0 3 with|true=>exact ze1 k rfl rfl|false=>exact k))
theorem z5t (h:Host):Bf (cold h):=⟨λe a=>(by cases a),λe a=>(by cases a)⟩
theorem z7k {h:Host}(S:Safe h)(k:Bf h)(a:GAct):Bf (zep h a):=by unfold zep;cases zi a.Kind 1 17 with|false=>exact k|true=>rw[cond_true];(cases zi a.Kind 13 17 with|true=>rw[cond_true];unfold zkQ;(cases ieq a.Kind 13 with|true=>exact zHx k _ _|false=>(cases ieq a.Kind 14 with|true=>exact zYO k _ _|false=>(cases ieq a.Kind 15 with|true=>exact z1g k _ _|false=>(cases ieq a.Kind 16 with|true=>exact z1i k _ _|false=>exact z5t h))))|false=>rw[cond_false];unfold zqP;(cases ieq a.Kind 1 with|true=>exact z5x S k _ _|false=>(cases ieq a.Kind 2 with|true=>exact zpe k _ _|false=>(cases ieq a.Kind 3 with|true=>exact z1f k _ _ _|false=>(cases ieq a.Kind 4 with|true=>exact zpe k _ _|false=>(cases ieq a.Kind 5 with|true=>exact zpe k _ _|false=>(cases ieq a.Kind 6 with|true=>exact zpe k _ _|false=>(cases ieq a.Kind 7 with|true=>exact zpe k _ _|false=>(cases ieq a.Kind 8 with|true=>exact z5v k _ _ _ _|false=>(cases ieq a.Kind 9 with|true=>exact zpe k _ _|false=>(cases ieq a.Kind 10 with|true=>exact zpe k _ _|false=>(cases ieq a.Kind 11 with|true=>exact z7l S k _ _ _ _|false=>exact z5w S k _ _ _))))))))))))
theorem zYR:∀(l:List GAct) (u:Host×List Told),Safe u.1->Bf u.1->Bf (zxN l u).1
 |[],u,_,k=>k
 |a::l,u,S,k=>zYR l (zep u.1 a,ap u.2 [ziH u.1 a]) (zQy S a).1 (z7k S k a)
theorem zV1 {l:List Int}{x:Int}:x∈zf3 l↔x∈l:=by rw[<- zXY,zxG];simp
theorem zue {g:Type}{f:Nat->g->Option Int}{q:Int}:∀{l:List g} {i:Nat},q∈picks f l i↔∃k:Nat,∃a:k<l.length,f (i+k) l[k]=some q
 |[],i=>by simp[picks]
 |x::l,i=>by
  have d:=@zue g f q l (i+1);unfold picks;constructor
  .intro h;cases c:f i x with
   |none=>rw[c]at h;obtain⟨k,a,e⟩:=d.1 h;exact⟨k+1,by simp;omega,by rw[show i+(k+1)=i+1+k by omega];exact e⟩
   |some n=>rw[c]at h;rcases qG.1 h with rfl|h;{exact⟨0,by simp,c⟩};{obtain⟨k,a,e⟩:=d.1 h;exact⟨k+1,by simp;omega,by rw[show i+(k+1)=i+1+k by omega];exact e⟩}
  .rintro⟨k,a,e⟩;have b:∀k:Nat,∀a:k+1<(x::l).length,f (i+(k+1)) (x::l)[k+1]=some q->q∈picks f l (i+1):=λk a e=>d.2 ⟨k,by simpa using a,by rw[show i+1+k=i+(k+1) by omega];exact e⟩
   cases c:f i x with
   |none=>
    cases k with
    |zero=>rw[show f (i+0) (x::l)[0]=f i x from rfl,c] at e;cases e
    |succ k=>exact b k a e
   |some n=>
    cases k with
    |zero=>rw[show f (i+0) (x::l)[0]=f i x from rfl,c] at e;cases e;exact qY
    |succ k=>exact qR _ (b k a e)
theorem z6D {h:Host}{m:Int}(a:hasB m (ln h.Mons)=true):zdd h m=ix h.Mons m mZ:=by show (cond (hasB m<|ln h.Mons) _ _)=_;rw[a];rfl
theorem zV9 {h:Host}{m:Int}(g:hasB m (ln h.Mons)=true){q:Int}:q∈zjD h m↔q≠-1/\∃k,hasB k (ln (ix h.Mons m mZ).Outer)=true/\(ix (ix h.Mons m mZ).Outer k sZ).Page=q:=by unfold zjD;rw[zV1,z6D g,zue];constructor;{rintro⟨k,a,e⟩;unfold zrW at e;by_cases b:(ix h.Mons m mZ).Outer[k].Page = -1;{rw [show ine (ix h.Mons m mZ).Outer[k].Page (-1)=false by simp[ine,b]] at e;cases e};{rw [znl.2 b] at e;have c:(ix h.Mons m mZ).Outer[k].Page=q:=Option.some.inj e;refine⟨c ▸ b,(k:Int),zC.2 ⟨by omega,by unfold ln;omega⟩,?_⟩;rw[ziY a];exact c}};{rintro⟨i,k,a,e⟩;obtain⟨j,f,rfl,d⟩:=zt7 a sZ;refine⟨j,f,?_⟩;rw[d] at e;unfold zrW;rw[znl.2<|e ▸ i,<- e];rfl}
theorem zVe {o:List Slot}{p:Int}(h:(zbn o p).Page≠-1):hasB p (ln o)=true/\zbn o p=ix o p sZ:=by unfold zbn at h ⊢;cases a:hasB p (ln o) with|false=>rw[a]at h;exact absurd rfl h|true=>exact⟨rfl,rfl⟩
theorem zQR {s:Slot}{o:List Slot}(h:(zbf s o).Page≠-1):(zbf s o).Page=(zbn o s.Page).Page:=by unfold zbf at h ⊢;cases a:ieq s.Page (-1) with|true=>rw[a]at h;exact absurd rfl h|false=>rw[a]at h;rw[cond_false]at h ⊢;(cases b:ieq (zbn o s.Page).Page (-1) with|true=>rw[b]at h;exact absurd rfl h|false=>rw[b]at h;rw[cond_false]at h ⊢;(cases c:ieq (zd5 s.Rights (zbn o s.Page).Rights) 0 with|true=>rw[c]at h;exact absurd rfl h|false=>rfl))
theorem zDS {h:Host}{m:Int}(f:hasB m (ln h.Mons)=true){s:Slot}{q:Int}(e:(zbf s (ix h.Mons m mZ).Outer).Page=q)(b:q≠-1):q∈zjD h m:=by have a:=zQR (e ▸ b);rw[e]at a;obtain⟨c,d⟩:=zVe (o:=(ix h.Mons m mZ).Outer) (p:=s.Page) (a ▸ b);exact(zV9 f).2 ⟨b,s.Page,c,by rw[<- d];exact a.symm⟩
theorem z0u {h:Host}(S:Safe h)(B:Bf h){m:Int}(v:hasB m (ln h.Mons)=true):∀q∈zsn h m,q∈zjD h m:=by
 intro q c;unfold zsn at c;rw[v,cond_true,zV1]at c;rcases jE.1 c with c|c
 .have key:∀l:List Kept,q∈zn1 l->∃k∈l,q∈zJD k:=by
   intro l
   induction l with
   |nil=>intro f;cases f
   |cons k l I=>intro f;rcases jE.1 f with f|f;{exact⟨k,qY,f⟩};{obtain⟨J,E,F⟩:=I f;exact⟨J,qR _ E,F⟩}
  obtain⟨k,G,c⟩:=key _ c;obtain⟨g,hg,e⟩:=zv8 G kZ;have M:=S.ok.mon v;have x:hasB g (ln (ix h.Mons m mZ).Guests)=true:=(by have:(ix h.Mons m mZ).Tables.length=(ix h.Mons m mZ).Guests.length:=M.gt;unfold ln at hg ⊢;rw[<- this];exact hg);have K:=S.rt.t m v g x;rw[e] at K;unfold zJD at c;obtain⟨j,C,a⟩:=zue.1 c;rw[jU] at a;unfold zwZ at a;cases p:zg3 k (j:Int) with|false=>rw[p] at a;cases a|true=>rw[p,cond_true] at a;unfold zdq at a;rw[p,cond_true] at a;unfold zrW at a;by_cases r:(ix k.Slots (j:Int) zN).Page = -1;{rw [show ine (ix k.Slots (j:Int) zN).Page (-1)=false by simp[ine,r]] at a;cases a};{rw [znl.2 r] at a;have s:(ix k.Slots (j:Int) sZ).Page=q:=Option.some.inj a;have H:hasB (j:Int) (ln (ix (ix h.Mons m mZ).Guests g gZ).Live)=true:=zC.2 ⟨by omega,by have:=K.l2;unfold ln;omega⟩;have w:=K.at' (j:Int) H;unfold zg3 at p;have y:ix k.Known (j:Int) false=true:=(by cases f:zdc k (j:Int) with|false=>rw[f]at p;cases p|true=>rw[f]at p;exact p);rw[y,cond_true] at w;rw[w] at s;exact zDS v s (by rw[<- s,<- w];exact r)}
 .unfold z0t at c;obtain⟨j,C,a⟩:=zue.1 c;have n:(h.Buffer++h.IoBuffer)[j]∈h.Buffer++h.IoBuffer:=jD C;generalize (h.Buffer++h.IoBuffer)[j]=d at a n;unfold zTy at a;cases A:ieq (zcy d.Tag) m with
  |false=>rw[A] at a;cases a
  |true=>rw[A] at a;have s:d.Host=q:=Option.some.inj a;have D:zcy d.Tag=m:=zbk.1 A;have i:zcc h d=true/\d.Host≠-1:=(by rcases jE.1 n with i|i;{exact⟨S.rt.e1 d i,B.b d i⟩};{exact⟨S.rt.e2 d i,B.io d i⟩});obtain⟨_,_,u⟩:=zfm.1 i.1;rw[D]at u;rcases zng.1 u with z|⟨r,_⟩;{exact absurd (congrArg Slot.Page z) i.2};{have r:d.Host=(zbf _ (ix h.Mons m mZ).Outer).Page:=r;exact zDS v (r.symm.trans s) (by rw[<- s];exact i.2)}
theorem z2h {h:Host}(L:zwU h):Bf h:=by obtain⟨d,l,c,b,rfl⟩:=L;unfold zsS;exact zYR _ _ (zIS b) ⟨λe a=>(by cases a),λe a=>(by cases a)⟩
theorem zJQ:∀l:List Kept,(∀k∈l,k.Slots.length=4)->zo2 l=4*l.length
 |[],_=>rfl
 |k::l,h=>by have:=zJQ l λx b=>h x (qR _ b);have a:=h k qY;simp only[zo2,qV,this,a];omega
theorem z8K {h:Host}(S:Safe h){m g:Int}(a:hasB m (ln h.Mons)=true)(hg:hasB g (ln (ix h.Mons m mZ).Guests)=true):(ix (ix h.Mons m mZ).Guests g gZ).Live.length=4:=by have:=(zmx.1 (S.ok.guest a hg).l).2;unfold ln at this;omega
theorem z2I {h:Host}(S:Safe h)(f:zbX h)(m:Int):zKo h m:=by refine⟨f,λb=>?_⟩;have M:=S.ok.mon b;have:zo2 (ix h.Mons m zf).Tables=4*(ix h.Mons m zf).Tables.length:=zJQ _ λk d=>(by obtain⟨g,hg,e⟩:=zv8 d kZ;have a:hasB g (ln (ix h.Mons m mZ).Guests)=true:=(by unfold ln at hg ⊢;rw[<- M.gt];exact hg);have K:=S.rt.t m b g a;rw[e] at K;rw[K.l2];exact z8K S b a);have i:=M.g2;have c:=M.gt;have j:(ix h.Mons m zf).Tables.length=(ix h.Mons m mZ).Guests.length:=c;omega
theorem z6J {h:Host}(H:HOk h){m p:Int}(f:hasB m (ln h.Mons)=true)(g:hasB p 8=true):But h (zeL h m p) m p/\(ix (ix (zeL h m p).Mons m mZ).Outer p sZ).Page = -1:=by have d:zb1 h m p=true:=zkU.2 ⟨H,f,g⟩;by_cases e:(ix (ix h.Mons m mZ).Outer p sZ).Page = -1;{have c:zeL h m p=h:=(by unfold zeL;rw[d,cond_true,show zgM h m p=true from zbk.2 e,cond_true]);rw[c];exact⟨⟨λ_ _ _ _ _=>rfl⟩,e⟩};{have c:zeL h m p=zdo h m p:=(by unfold zeL;rw[d,cond_true,show zgM h m p=false from zbN.2 e,cond_false]);rw[c];obtain⟨a,b⟩:=zOr H f g;exact⟨a,by rw[b];rfl⟩}
structure Way (y:Host) (L:List Bare) (n:Nat):Prop where
 safe:Safe y
 sm:SmH y
 seen:zbU y=L
 len:y.Mons.length=n
theorem Way.out {y:Host}{L:List Bare}{n:Nat}(w:Way y L n)(m p:Int):Way (zeL y m p) L n:=by have k:=zJs w.safe.ok m p;exact⟨k.safe w.safe,zWp w.sm,(zwV k.like.len λi=>k.like.seen i).trans w.seen,k.like.len.trans w.len⟩
theorem Way.round {y:Host}{L:List Bare}{n:Nat}(w:Way y L n):Way (zjg y).2 (rnd L 0).1 n/\(zjg y).1=(rnd L 0).2:=by obtain⟨c,d,a,b⟩:=z2K w.safe;rw[w.seen] at a b;exact⟨⟨c,(zYf w.sm).sm,a,d.trans w.len⟩,b⟩
structure Away (h x:Host) (j:Nat):Prop where
 way:Way x (zbU h) h.Mons.length
 bf:Bf x
 out:∀k:Int,0<=k->k<j->(ix (ix x.Mons 0 mZ).Outer k sZ).Page = -1
theorem Away.next {h x:Host}{j:Nat}(w:Away h x j)(m:1<=h.Mons.length)(l:j<8):Away h (zeL x 0 (j:Int)) (j+1):=by have f:hasB 0 (ln x.Mons)=true:=zC.2 ⟨kL _,by have:=w.way.len;unfold ln;omega⟩;have g:hasB (j:Int) 8=true:=zC.2 ⟨by omega,by omega⟩;obtain⟨a,b⟩:=z6J w.way.safe.ok f g;refine⟨w.way.out 0 _,zHx w.bf 0 _,λk d i=>?_⟩;by_cases e:k=(j:Int);{rw [e];exact b};{rw [a.ne 0 k f (zC.2 ⟨d,by omega⟩) λc=>e c.2];exact w.out k d (by omega)}
theorem zYs {x h:Host}(S:Safe x)(T:Safe h)(e:zbU x=zbU h)(l:x.Mons.length=h.Mons.length){m:Int}(k:hasB m (ln h.Mons)=true)(g:Int) :
 (zbt x m g).2=(zbt h m g).2/\Safe (zbt x m g).1/\zbU (zbt x m g).1=zbU (zbt h m g).1:=by
 obtain⟨a,f⟩:=step_ok S m g;obtain⟨b,j⟩:=step_ok T m g;have d:∀i,zA x i=zA h i:=λi=>by cases c:hasB i (ln h.Mons) with|false=>rw[seen_none c,seen_none (by unfold ln at c ⊢;rw[l];exact c)]|true=>rw[<- zh5 c zBJ,<- e,zh5 (by unfold ln at c ⊢;rw[l];exact c)]
 refine⟨by rw[f,j,d m],a.safe,zwV (a.len.trans<|l.trans b.len.symm) λi=>?_⟩
 rw[a.seen i,b.seen i,d i]
theorem Away.none {h x:Host}(w:Away h x 8)(i:1<=h.Mons.length):zjD x 0=[]/\zsn x 0=[]:=by have a:hasB 0 (ln x.Mons)=true:=zC.2 ⟨kL _,by have:=w.way.len;unfold ln;omega⟩;have g:ln (ix x.Mons 0 mZ).Outer=8:=(by have:=(w.way.safe.ok.mon a).o8;unfold ln;omega);have d:zjD x 0=[]:=k9.2 λq b=>(by obtain⟨e,k,c,f⟩:=(zV9 a).1 b;rw[g]at c;have:=zC.1 c;exact e (f.symm.trans<|w.out k this.1 (by omega)));refine⟨d,k9.2 λq b=>?_⟩;have:=z0u w.way.safe w.bf a q b;rw[d] at this;cases this
theorem zSD {d b:Type}{f:d->b}{l:List d}{x:b}{c:List b}(h:l.map f=x::c):∃a r,l=a::r/\f a=x/\r.map f=c:=by cases l with|nil=>cases h|cons a r=>simp only[q9,List.cons.injEq]at h;exact⟨a,r,rfl,h.1,h.2⟩
theorem z8k {a:AV}{b:CTy}(h:some a.sh=some (false,[b])):∃c,a = .one c/\c.ty=b:=by cases a with|one c=>simp only[AV.sh,qC,jM,List.cons.injEq,and_true,true_and]at h;exact⟨c,rfl,h⟩|agg l=>simp[AV.sh]at h
theorem z9p {a:AV}{t:Ty}(h:some a.sh=some (false,[.s t])):∃l:List t.den,a = .one (.s t l):=by obtain⟨c,rfl,b⟩:=z8k h;obtain⟨l,rfl⟩:=zln b;exact⟨l,rfl⟩
section
open Go Go.ChangeShapes Go.WideShapes Go.ChangeAt
abbrev zLS (_:List Int):Bool:=true
abbrev zIY (l:List Int):Bool:=igt (ln l) 1048576
def zOn:Run:=rF1 (dS .u8) λb=>(zLS b,[aB<|zIY b])
def zVu (N:Nat)(a:List Int):OA:=
 (some [aB<|igt (ln a) 1048576])
theorem zZU (a:List Int)(b:zLS a=true):∃N,zVu N a=some [aB<|zIY a]:=by refine⟨0,?_⟩;unfold zVu;first|rfl|(simp only [*,zIY,cT,cF]<;>rfl)|simp_all[Ty.cells,zIY]
theorem zUt:vQ 6 zOn:=kF1 zqD zbh zs4 zu (zx []) zZU
def z4v:zV:=[(6,zOn),(20,zs8),(25,zwz),(21,zjW),(22,zpB),(23,zEn),(24,zwj),(11,zwk)]++zYY
theorem z1P:zL z4v:=zh zUt (zh zAt<|zh zFP<|zh zt0<|zh zsO<|zh zOP<|zh zFm<|zh zFp zqD)
def zkl (N:Nat)(e:List Int):OA:=
 let c:=zoA e; (oN (zLS e)<|cond (zIY e) oT<|oN (zi7 e)<|oN (zhC e)<|iter (σ:=(Int×(List Int)×lM×lN×lE×lE×lM×lN×lE×lE×Unit)) N (λj a=>let i:=ln (ix a.2.2.2.1 0 zf).Guests;let f:=(⟨a.2.2.1,a.2.2.2.1,a.2.2.2.2.1,a.2.2.2.2.2.1⟩:Host);let d:=zlc (ix a.2.1 0 0) i;let b:=(⟨a.2.2.2.2.2.2.1,a.2.2.2.2.2.2.2.1,a.2.2.2.2.2.2.2.2.1,a.2.2.2.2.2.2.2.2.2.1⟩:Host);let h:=zbV b 0 d;let g:=zix b 0 a.1; (cond (ilt a.1 8) (oN (zgG b 0 a.1)<|j (zI .i64 a.1 1,a.2.1,a.2.2.1,a.2.2.2.1,a.2.2.2.2.1,a.2.2.2.2.2.1,g.Memory,g.Mons,g.Buffer,g.IoBuffer,()))<|oN (inb 0<|ln a.2.1)<|oN (inb 0<|ln a.2.2.2.1)<|oN (ine i 0)<|oN (zcD b 0 d)<|oN (zcD f 0 d)<|oN (zAA b 0)<|cond (ieq (ln<|zB2 b 0) 0) (oN (znr b 0)<|cond (ieq (ln<|zrR b 0) 0) (oN (zbi b)<|cond (zlu b) (cond (zlZ (zb3 b 0 d)<|zb3 f 0 d) (oN (zto h<|zbV f 0 d)<|cond (zxQ h<|zbV f 0 d) (oN (zbi h)<|some [aB<|zlu h]) oF) oF) oF) oF) oF)) (0,zk1 e,c.Memory,c.Mons,c.Buffer,c.IoBuffer,c.Memory,c.Mons,c.Buffer,c.IoBuffer,()))
def zrI:=zx [(4,0,{n:=79,tm:=[(3,.lp 0 0),(4,.sl 0 []),(5,.lp 1 0),(6,ti)],lo:=[(0,[.sl 1 [],.sl 2 [],.sl 3 [],.sl 4 []]),(1,[.sl 5 [],.sl 6 [],.sl 7 [],.sl 8 []])],ro:=[(0,.int,false),(1,.sl .int,false),(2,.mon,false),(3,.entry,false),(4,.entry,false),(5,.sl .int,false),(6,.mon,false),(7,.entry,false),(8,.entry,false)]})]
theorem zGi (N:Nat)(a:List Int):evalFn (cQ z4v z2q zXU zMO) zrI N 12 4 [aS .u8 a]=zkl N a:=by kernel_rfl
theorem zAe (N:Nat)(m:List Int)(e:m.length<=big)(z:8<N):Ends (λa=>a=[.one<|.b true]) (zkl N m):=by
 unfold zkl oN;conv=>zeta
 refine zbF rfl (zdz (λ_=>zHL rfl) λ_=>zbF (zxb e) (zbF (zS0 e) ?_));obtain⟨S,n⟩:=z2i (zte<|zxb e).2;have B:=z2h (zte<|zxb e).2;obtain⟨u,v⟩:=(zwF<|zS0 e).2;generalize zoA m=h at S n B;generalize zk1 m=p at u v;have A:zbX h:=(zM h).2 n;have f:=S.ok.n1;have C:ln p=12:=(by unfold ln;omega);refine zsI (λc s=>∃(j:Nat) (x:Host),s=((j:Int),p,h.Memory,h.Mons,h.Buffer,h.IoBuffer,x.Memory,x.Mons,x.Buffer,x.IoBuffer,())/\Away h x j/\j+c=8) ?_ N 8 _ ⟨0,h,rfl,⟨⟨S,n,rfl,rfl⟩,B,λk K w=>absurd w (by omega)⟩,rfl⟩ z;rintro c s rec ⟨j,x,rfl,W,L⟩ i;dsimp only;have l:zbX x:=(zM x).2 W.way.sm;refine zdz (λr=>?_) (λq=>?_);{have d:j<8:=(by have:=qD r;omega);refine zbF (zbo l) (i (c-1) _ (by omega) ⟨j+1,zeL x 0 (j:Int),?_,W.next f d,by omega⟩);rw[zny (show -9223372036854775808<=(j:Int)+1 by omega) (by omega)];rfl};{have d:j=8:=(by have:=jR q;omega);subst d;have t:hasB 0 (ln h.Mons)=true:=zC.2 ⟨kL _,by unfold ln;omega⟩;have y:(0:Int)<ln (ix h.Mons 0 mZ).Guests:=(by have:=(S.ok.mon t).g1;unfold ln;omega);obtain⟨E,F⟩:=W.none f;have D:zKo x 0:=z2I W.way.safe l 0;refine zbF (zy<|zC.2 (by omega)) (zbF (zy t)<|zbF (znl.2<|Int.ne_of_gt y) ?_);generalize zlc (ix p 0 0) (ln (ix h.Mons 0 zf).Guests)=g;obtain⟨G,H,I⟩:=zYs W.way.safe S W.way.seen W.way.len t g;have ty:SmH (zbt x 0 g).1:=(zuI 0 g W.way.sm).sm;have J:SmH (zbt h 0 g).1:=(zuI 0 g n).sm;refine zbF (zbo l) (zbF (zbo A)<|zbF (zbo D)<|zbF ?_<|zbF (zbo l)<|zbF ?_<|zbF (zbo l)<|zbF (zOo W.way.safe)<|zbF ?_<|zbF (zbo ⟨(zM _).2 ty,(zM _).2 J,I⟩) (zbF rfl (zbF (zbo<|(zM _).2 ty)<|zHL ?_)));{show ieq (ln<|zsn x 0) 0=true;rw[F];rfl};{show ieq (ln<|zjD x 0) 0=true;rw[E];rfl};{show zlZ (zbt x 0 g).2 (zbt h 0 g).2=true;rw[G];exact zkz _};{show [AV.one<|.b<|zpM (zbt x 0 g).1]=_;rw[zOo H]}}
theorem zCg (d:List Int)(h:∀c∈zB [aS .u8 d],CVOk c):∃N,zkl N d=some [.one<|.b true]:=by have e:zbB big [aS .u8 d]:=λc f=>CVB.of_ok (h c f);have g:=len0 e;exact⟨9,z6g (G:=λa=>a=[.one<|.b true])<|zAe 9 d g (by omega)⟩
theorem zzj:Tryz.f4.params.toList.map (zcz Tryz.prog 4)=[some (false,[.s .u8])]:=by kernel_rfl
theorem zvG:zVq 4 Tryz.f4.params.toList:=by refine zUb z1P zbh zs4 zu (zia (by kernel_rfl)) ?_;intro c hg;obtain⟨a,e⟩:=hg;rw[zzj]at a;obtain⟨h,g,rfl,d,a⟩:=zSD a;cases List.map_eq_nil_iff.1 a;obtain⟨b,rfl⟩:=z9p d;obtain⟨N,f⟩:=zCg b e;exact⟨zrI,N,12,(zGi N b).trans f⟩
theorem zBy (H:Type)(a:List (DataW H))(h:a.length=Tryz.f4.params.toList.length):Rows.fnTakenAwaySpec.fn H a={results:=[.lit<|.bool true],args:=a}:=by
 have b:a.length=1:=h.trans (by kernel_rfl)
 match a,b with
 |[d],_=>rfl
set_option maxRecDepth 100000 in
theorem zxD (g:Os)(a:g.Started)(H:Type)(enc:TypeId×Value->H) :
 ReturnsInHanded {} Tryz.checked g 4 .any (Rows.fnTakenAwaySpec.pre6 enc Tryz.prog Tryz.f4 Rows.fnTakenAwayRow.domain false) (Rows.fnTakenAwaySpec.post enc Tryz.prog Tryz.f4 false true false false):=by
 refine returnsInHanded_of_change_shaped (C:=Tryz.checked) own a (by kernel_rfl) Tryz.func4
  (ChangeSpec.witness6 (enc:=enc) (C:=Tryz.checked) false ⟨#[],#[.slice none 0 0],[]⟩ 8 (by kernel_rfl) (by kernel_rfl) (by kernel_rfl) (by kernel_rfl)) ?_
 intro W d c h i b e j _ f _ _;exact zIZ (P:=Tryz.prog) z1m z2f rfl zBy (by kernel_rfl) (B:=4) (by kernel_rfl) (by kernel_rfl) zvG W d c h i b e j f
end
end
end Go.Proofs.YtgjpbkhaaiffkaaGreat.E
