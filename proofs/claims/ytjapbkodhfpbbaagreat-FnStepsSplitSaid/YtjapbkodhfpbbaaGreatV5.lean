/- What is proved here: a part of the proof that the statement of this claim holds (several texts of wip/, laid together). -/
import Derived.Test.YtjapbkodhfpbbaaGreatV4
namespace Go.Proofs.YtjapbkodhfpbbaaGreat.E
open Go
set_option linter.constructorNameAsVariable false
set_option linter.unusedVariables false
set_option maxRecDepth 100000
set_option linter.unusedSimpArgs false
set_option linter.unusedSectionVars false
noncomputable section
abbrev mZ:Mon:=Ty.dflt .mon
abbrev sZ:Slot:=Ty.dflt .slot
def ShM (x:Mon):Prop:=x.Outer.length=8/\x.Out.length=8/\x.Dirty.length=8/\x.Tables.length=x.Guests.length
def Shape (h:Host):Prop:=SmH h/\∀x∈h.Mons,ShM x
theorem zi8 {h:Host}{m:Int}{x:Mon}(a:Shape h)(c:zf1 x)(d:ShM x):Shape {h with Mons:=up h.Mons m x}:=by refine⟨⟨a.1.1,zj2 a.1.2.1 c,a.1.2.2⟩,λy b=>?_⟩;rcases qX b with b|rfl;{exact a.2 y b};{exact d}
theorem zcF {h:Host}(b:Shape h){m:Int}(a:hasB m (ln h.Mons)=true):zf1 (ix h.Mons m mZ)/\ShM (ix h.Mons m mZ):=⟨b.1.2.1.2 _<|zbK a _,b.2 _<|zbK a _⟩
theorem zQB {h:Host}{b:List (List Int)}(a:Shape h)(c:SmM b):Shape {h with Memory:=b}:=⟨⟨c,a.1.2⟩,a.2⟩
theorem zsZ {h:Host}{m p:Int}{s:Slot}(e:hasB m (ln h.Mons)=true)(b:Shape h):Shape (zcz h m p s):=by refine⟨zGF e b.1,?_⟩;obtain⟨_,a⟩:=zcF b e;have d:∀y∈up h.Mons m {zk4 (ix h.Mons m mZ) p (ix h.Mons m mZ).Tables.length with Outer:=up (ix h.Mons m mZ).Outer p s},ShM y:=(by intro y c;rcases qX c with c|rfl;{exact b.2 y c};{exact⟨by simpa using a.1,a.2.1,a.2.2.1,by simpa [zk4,zqY] using a.2.2.2⟩});unfold zcz;cases ine (ix (ix h.Mons m mZ).Outer p sZ).Page (-1)<;>exact d
theorem zgZ (h:Host)(m p:Int)(s:Slot):(zcz h m p s).Mons=up h.Mons m {zk4 (ix h.Mons m mZ) p (ix h.Mons m mZ).Tables.length with Outer:=up (ix h.Mons m mZ).Outer p s}/\(zcz h m p s).Memory=h.Memory:=by unfold zcz;cases ine (ix (ix h.Mons m mZ).Outer p sZ).Page (-1)<;>exact⟨rfl,rfl⟩
theorem ze4 {h:Host}{m k:Int}{x:Mon}(a:hasB m (ln h.Mons)=true):hasB m (ln<|up h.Mons k x)=true:=by simpa [ln] using a
theorem zGb {h:Host}{m k p:Int}{s:Slot}(a:hasB m (ln h.Mons)=true):hasB m (ln (zcz h k p s).Mons)=true:=by rw[(zgZ h k p s).1];exact ze4 a
theorem zdX {b:Type}{l:List b}{p:Int}(h:l.length=8)(a:hasB p 8=true):hasB p (ln l)=true:=by rw[ln,h];exact a
def zzB (h:Host)(m p:Int)(s:Slot):Host :=
 bif ine s.Page (-1) then ⟨h.Memory,up h.Mons m<|zk4 (ix h.Mons m mZ) p (ix h.Mons m mZ).Guests.length,flushed h.Buffer s.Page,flushed h.IoBuffer s.Page⟩
 else ⟨h.Memory,up h.Mons m<|zk4 (ix h.Mons m mZ) p (ix h.Mons m mZ).Guests.length,h.Buffer,h.IoBuffer⟩
theorem zz0 {h:Host}{k:Nat}{p:Int}{s:Slot}(a:k<h.Mons.length)(b:(ix h.Mons (k:Int) mZ).Tables.length=(ix h.Mons (k:Int) mZ).Guests.length) :
 zzB {h with Mons:=up h.Mons (k:Int) {ix h.Mons (k:Int) mZ with Outer:=up (ix h.Mons (k:Int) mZ).Outer p s}} (k:Int) p (ix (ix h.Mons (k:Int) mZ).Outer p sZ)=zcz h (k:Int) p s:=by
 unfold zcz zzB;simp only[zel a,zwA,zk4,b]
def zZI {a:Type}(m p:Int)(i:Nat)(t:List Mon)(b:List Mon->Option a):Option a :=
 (cond (inb (i:Int)<|ln (ix t m mZ).Tables) (cond (inb (i:Int)<|ln (ix t m mZ).Guests) (cond (pc<|SmK (ix (ix t m mZ).Tables (i:Int) zeC)/\(ix (ix t m mZ).Guests (i:Int) zu).Live.length<=1048576) (cond (inb (i:Int)<|ln (ix t m mZ).Tables) (b<|up t m ({ (ix t m mZ) with Tables:=(up (ix t m mZ).Tables (i:Int)<|zj8 (ix (ix t m mZ).Tables (i:Int) zeC) (ix (ix t m mZ).Guests (i:Int) zu).Live p)}:Mon)) none) none) none) none)
theorem zX6 {j:Type}{mons:List Mon}{k:Nat}(d:k<mons.length)(p:Int)(c:zf1 (ix mons (k:Int) mZ))(f:(ix mons (k:Int) mZ).Tables.length=(ix mons (k:Int) mZ).Guests.length)(K:List Mon->Option j) :
 ∀(n i:Nat),i+n=(ix mons (k:Int) mZ).Guests.length->goN (λi t g=>zZI (k:Int) p i t g) K n i (up mons (k:Int)<|zk4 (ix mons (k:Int) mZ) p i)=K (up mons (k:Int)<|zk4 (ix mons (k:Int) mZ) p (ix mons (k:Int) mZ).Guests.length)
 | 0,i,h=>by have:i=(ix mons (k:Int) mZ).Guests.length:=(by omega);subst this;rfl
 |n+1,i,h=>by
  have b:i<(ix mons (k:Int) mZ).Guests.length:=(by omega);have a:i<(zlW (ix mons (k:Int) mZ).Guests p i (ix mons (k:Int) mZ).Tables).length:=by rw[zqY];omega
  have e:pc (SmK (ix (zlW (ix mons (k:Int) mZ).Guests p i (ix mons (k:Int) mZ).Tables) (i:Int) zeC)/\(ix (ix mons (k:Int) mZ).Guests (i:Int) zu).Live.length<=1048576)=true :=
   zbq ⟨by rw[zbp a];exact(zwy _ _ _ _ (by omega) c.2.2.2.2.2).2 _ (jK a),by rw[zbp b];exact(c.2.2.2.1.2 _<|jK b).2.2.1⟩
  simp only[goN,zZI,zel d,zwA,zk4,zbi a,zbi b,e,cT];exact zX6 d p c f K n (i+1) (by omega)
@[simp] abbrev zeX (h:Host)(m p:Int)(s:Slot):Bool:=pc (Shape h/\hasB m (ln h.Mons)=true)
@[simp] abbrev zeY (h:Host)(m p:Int)(s:Slot):Host:=zzB h m p s
def zmU:List CV->List AV->Option (Bool×List CV×List AV)
 |[.s (.sl .int) b,.s .mon c,.s .entry d,.s .entry e],[.one<|.i .i64 f,.one<|.i .i64 g,.agg [.i .i64 h,.i .i64 j]]=>some (zeX (⟨b,c,d,e⟩:Host) f g (⟨h,j⟩:Slot),zbl<|zeY (⟨b,c,d,e⟩:Host) f g (⟨h,j⟩:Slot),[])
 |_,_=>none
def zqi (N:Nat)(c:Host)(i n:Int)(k:Slot):OA:=
 (oN (inb i<|ln c.Mons)<|iter (σ:=(Int×Int×Int×Int×Int×Int×lN×lM×lE×lE×Unit)) N (λp a=>let j:=a.2.2.2.2.2.2.2.1;let h:=a.2.2.2.2.2.2.1;let e:=a.2.2.2.2.1;let g:=a.2.2.2.2.2.2.2.2.1;let f:=a.2.2.2.2.2.2.2.2.2.1;let b:=a.2.2.2.1;let d:=ix h a.2.1 zh;let m:=ix d.Tables b zeC;let l:=(ix d.Guests b zu).Live; (cond (ilt b a.2.2.1) (oN (inb b<|ln d.Tables)<|oN (inb b<|ln d.Guests)<|oN (zh7 m l a.1)<|oN (inb b<|ln d.Tables)<|share (up h a.2.1 ({d with Tables:=(up d.Tables b<|zlI m l a.1)}:Mon)) λq=>p (a.1,a.2.1,a.2.2.1,zM .i64 b 1,e,a.2.2.2.2.2.1,q,j,g,f,()))<|cond (ine e<|-1) (oN (zek g e)<|oN (zek f e)<|some [aH (⟨j,h,zgL g e,zgL f e⟩:Host)])<|some [aH (⟨j,h,g,f⟩:Host)])) (n,i,ln (ix c.Mons i zh).Guests,0,k.Page,k.Rights,c.Mons,c.Memory,c.Buffer,c.IoBuffer,()))
def zIF:=zx [(190,0,{n:=71,tm:=[(0,.lp 0 0),(2,ti),(7,.lp 1 0),(8,.ep 0 [] 0),(20,ti),(21,ti)],lo:=[(0,[.sl 1 [],.sl 0 [],.sl 2 [],.sl 3 []]),(1,[ti,ti])],ro:=[(0,.mon,true),(1,.sl .int,true),(2,.entry,true),(3,.entry,true)]})]
theorem zLx (N:Nat)(c:Host)(a b:Int)(d:Slot):zoK (cQ zra zoZ zIl zVM) zIF N 12 190 [true,true,true,true] (zbl c) [aI a,aI b,aT .slot d]=zqi N c a b d:=by kernel_rfl
theorem zH3 (c:Host)(d b:Int)(a:Slot)(s:zbL big (.agg (zbl c)::[aI d,aI b,aT .slot a]))(r:zeX c d b a=true):∃N,zqi N c d b a=some (.agg (zbl<|zeY c d b a)::[]):=by
 obtain⟨h,g⟩:=zQ.1 r;obtain⟨l,q⟩:=zcF h g;have hg:(ix c.Mons d mZ).Guests.length<=big:=(zdj l.2.2.2.1.1).1;refine zcA λN f=>?_;unfold zqi oN;conv=>zeta
 refine must (zC g) ?_;refine(zbm ((ix c.Mons d zh).Guests) (λi (t:lN)=>(b,d,ln (ix c.Mons d zh).Guests,(i:Int),a.Page,a.Rights,t,c.Memory,c.Buffer,c.IoBuffer,())) _ (λi (x:Guest) (t:List Mon) j=>zZI d b i t j) (λ(t:lN)=>cond (ine a.Page<|-1) (cond (zek c.Buffer a.Page) (cond (zek c.IoBuffer a.Page) (some [.agg<|zbl (⟨c.Memory,t,zgL c.Buffer a.Page,zgL c.IoBuffer a.Page⟩:Host)]) none) none)<|some [.agg<|zbl (⟨c.Memory,t,c.Buffer,c.IoBuffer⟩:Host)]) (λi e t rec=>?_) (λt rec=>?_) _ (c.Mons)<|f hg).trans ?_;{simp only [zbG e,zbi e,zbp e,zbh e hg,cT];rfl};{simp only [zbt,cF]};obtain⟨k,rfl,m⟩:=zef (n:=c.Mons.length) g;rw[zxJ λi t j=>zZI (k:Int) b i t j];have p:c.Mons=up c.Mons (k:Int) (zk4 (ix c.Mons (k:Int) mZ) b 0):=(zPf m _).symm;refine(congrArg _ p).trans ((zX6 m b l q.2.2.2 _ _ 0<|jX _).trans ?_);show (cond (ine a.Page<|-1) _ _)=some [AV.agg<|zbl<|zzB c (k:Int) b a];unfold zzB;cases ine a.Page (-1);{rfl};{exact must rfl (must (zbq h.1.2.2.1) (must (zbq h.1.2.2.2) rfl))}
theorem zCH:zbV Tryz.prog 190 [true,true,true,true] zmU:=by refine zh4 (zhb zh9 zA zy zdG) (zje (by kernel_rfl)) ?_;intro g a b j i f h;have d:=zlj f;unfold zmU at h;split at h;{obtain⟨e,rfl,rfl⟩:=znx h;obtain⟨N,c⟩:=zH3 _ _ _ _ (by exact d) e;exact⟨rfl,_,N,12,(zLx N _ _ _ _ ).trans c⟩};{cases h}
def zZ7:zcU:=[(190,[true,true,true,true],zmU)]++zIl
theorem zOL:zb5 zZ7:=zcp zy (by
 intro x a;simp only[qG,qN,or_false]at a;rcases a with rfl
 .exact zCH)
def zfp (h:Host)(m p:Int):Host:={h with Mons:=up h.Mons m {ix h.Mons m mZ with Out:=up (ix h.Mons m mZ).Out p (zcG h.Memory (ix (ix h.Mons m mZ).Outer p sZ).Page)}}
def zd5 (h:Host)(m p:Int):Host:=zcz (zfp h m p) m p noSlot
theorem zVz {m:List (List Int)}{p:Int}(h:SmM m):(zcG m p).length<=1048576:=by unfold zcG;cases a:hasB p (ln m);{exact(by decide:zz8.length<=1048576)};{exact h.2 _ (zbK a _)}
theorem zxg {h:Host}{m p:Int}(c:Shape h)(d:hasB m (ln h.Mons)=true):Shape (zfp h m p):=by obtain⟨a,b⟩:=zcF c d;exact zi8 c ⟨a.1,zMb a.2.1<|zVz c.1.1,a.2.2⟩ ⟨b.1,by simpa using b.2.1,b.2.2⟩
theorem zL2 {h:Host}{m p:Int}(b:Shape h)(a:hasB m (ln h.Mons)=true):Shape (zd5 h m p):=zsZ (ze4 a) (zxg b a)
@[simp] abbrev zkt (h:Host)(m p:Int):Bool:=pc (Shape h/\hasB m (ln h.Mons)=true/\hasB p 8=true)
@[simp] abbrev zn9 (h:Host)(m p:Int):Host:=zd5 h m p
def zuV:List AV->Option (Bool×List AV)
 |[.agg [.s (.sl .int) b,.s .mon c,.s .entry d,.s .entry e],.one<|.i .i64 f,.one<|.i .i64 g]=>some (zkt (⟨b,c,d,e⟩:Host) f g,[aH<|zn9 (⟨b,c,d,e⟩:Host) f g])
 |_=>none
def zyY (N:Nat)(a:Host)(b c:Int):OA:=
 let d:=ix a.Mons b zh;let e:=(ix d.Outer c zW).Page; (oN (inb b<|ln a.Mons)<|oN (inb b<|ln a.Mons)<|oN (inb c<|ln d.Outer)<|oN (zhF a.Memory e)<|oN (inb c<|ln d.Out)<|share (up a.Mons b ({d with Out:=(up d.Out c<|ziZ a.Memory e)}:Mon)) (λg=>let f:=({a with Mons:=g}:Host); (oN zbP<|oN (zfX f b c zbf)<|some [aH<|zhX f b c zbf])))
theorem zW7 (N:Nat)(a:Host)(b c:Int):zD7 (cQ zra zoZ zZ7 zVM) (zx []) N 12 334 [true,true,true,true,false,false] 1 1 [[0],[1],[2],[4],[7]] .mon [aH a,aI b,aI c]=zyY N a b c:=by kernel_rfl
theorem zUs (b:Host)(d c:Int)(m:zbL big [aH b,aI d,aI c])(j:zkt b d c=true):∃N,zyY N b d c=some [aH<|zn9 b d c]:=by
 obtain⟨g,a,f⟩:=zQ.1 j;obtain⟨l,e⟩:=zcF g a;obtain⟨k,rfl,h⟩:=zef (n:=b.Mons.length) a;have i:=zxg (p:=c) g a;refine⟨0,?_⟩;unfold zyY oN;conv=>zeta
 refine must (zC a) (must (zC a)<|must (zC<|zdX e.1 f)<|must (zbq<|(zqq _).2 g.1.1)<|must (zC<|zdX e.2.1 f)<|shr (must rfl (must (zbq ⟨(zU _).2 i.1,ze4 a,?_,?_⟩) rfl)));{simp only [zel h];exact zdX e.1 f};{simp only [zel h];exact kY e.2.2.2}
theorem zNY:zeF Tryz.prog 334 [true,true,true,true,false,false] (some (1,1,[[0],[1],[2],[4],[7]])) zuV:=by refine zmf (kt:=.mon) (zhb zh9 zA zOL zdG) (zje (by kernel_rfl)) (by kernel_rfl) ?_;intro a g f e h;have c:=zjk e;unfold zuV at h;split at h;{obtain⟨d,rfl⟩:=zet h;obtain⟨N,b⟩:=zUs _ _ _ (by exact c) d;exact⟨⟨_,rfl⟩,rfl,_,N,12,(zW7 N _ _ _ ).trans b⟩};{cases h}
def zw1:List CV->List AV->Option (Bool×List CV×List AV)
 |[.s (.sl .int) b,.s .mon c,.s .entry d,.s .entry e],[.one<|.i .i64 f,.one<|.i .i64 g]=>some (zkt (⟨b,c,d,e⟩:Host) f g,zbl<|zn9 (⟨b,c,d,e⟩:Host) f g,[])
 |_,_=>none
def zGP (N:Nat)(c:Host)(b a:Int):OA:=
 let d:=ix c.Mons b zh;let e:=ix d.Outer a zW; (oN (inb b<|ln c.Mons)<|oN (inb a<|ln d.Outer)<|oN (zhF c.Memory e.Page)<|oN (inb a<|ln d.Out)<|share (up c.Mons b ({d with Out:=(up d.Out a<|ziZ c.Memory e.Page)}:Mon)) (λg=>let f:=ix g b zh; (oN zbP<|oN (inb a<|ln f.Outer)<|share (up g b ({f with Outer:=(up f.Outer a zbf)}:Mon)) (λi=>let h:=({c with Mons:=i}:Host); (oN (zeX h b a e)<|some [aH<|zeY h b a e])))))
theorem z2E (N:Nat)(c:Host)(a b:Int):zoK (cQ zra zoZ zZ7 zVM) (zx []) N 12 188 [true,true,true,true] (zbl c) [aI a,aI b]=zGP N c a b:=by kernel_rfl
theorem zZU (c:Host)(e a:Int)(w:zbL big (.agg (zbl c)::[aI e,aI a]))(u:zkt c e a=true):∃N,zGP N c e a=some (.agg (zbl<|zn9 c e a)::[]):=by
 obtain⟨l,b,j⟩:=zQ.1 u;obtain⟨v,f⟩:=zcF l b;obtain⟨k,rfl,h⟩:=zef (n:=c.Mons.length) b;have m:=zxg (p:=a) l b;have d:hasB (k:Int) (ln (zfp c (k:Int) a).Mons)=true:=ze4 b;have i:k<(zfp c (k:Int) a).Mons.length:=(by simpa [zfp] using h);have g:ix (zfp c (k:Int) a).Mons (k:Int) mZ={ix c.Mons (k:Int) mZ with Out:=up (ix c.Mons (k:Int) mZ).Out a (zcG c.Memory (ix (ix c.Mons (k:Int) mZ).Outer a sZ).Page)}:=zel h _ _;have t:Shape {zfp c (k:Int) a with Mons:=up (zfp c (k:Int) a).Mons (k:Int) {ix (zfp c (k:Int) a).Mons (k:Int) mZ with Outer:=up (ix (zfp c (k:Int) a).Mons (k:Int) mZ).Outer a noSlot}}:=(by obtain⟨q,r⟩:=zcF m d;exact zi8 m ⟨by simpa using q.1,q.2⟩ ⟨by simpa using r.1,r.2⟩);refine⟨0,?_⟩;unfold zGP oN;conv=>zeta
 refine must (zC b) (must (zC<|zdX f.1 j)<|must (zbq<|(zqq _).2 l.1.1)<|must (zC<|zdX f.2.1 j)<|shr (must rfl (must ?_<|shr<|must (zbq ⟨t,ze4 d⟩) ?_)));{rw [zel h];exact zC (zdX f.1 j)};{have:=zz0 (p:=a) (s:=noSlot) i (by rw[g];exact f.2.2.2);rw[g] at this;show some [AV.agg<|zbl<|zzB {zfp c (k:Int) a with Mons:=up (zfp c (k:Int) a).Mons (k:Int) {ix (zfp c (k:Int) a).Mons (k:Int) mZ with Outer:=up (ix (zfp c (k:Int) a).Mons (k:Int) mZ).Outer a noSlot}} (k:Int) a<|ix (ix c.Mons (k:Int) mZ).Outer a sZ]=_;rw[g];exact congrArg (λx=>some [AV.agg<|zbl x]) this}
theorem zTC:zbV Tryz.prog 188 [true,true,true,true] zw1:=by refine zh4 (zhb zh9 zA zOL zdG) (zje (by kernel_rfl)) ?_;intro g a b j i f h;have d:=zlj f;unfold zw1 at h;split at h;{obtain⟨e,rfl,rfl⟩:=znx h;obtain⟨N,c⟩:=zZU _ _ _ (by exact d) e;exact⟨rfl,_,N,12,(z2E N _ _ _ ).trans c⟩};{cases h}
def zZ8:zcU:=[(188,[true,true,true,true],zw1)]++zZ7
theorem zOM:zb5 zZ8:=zcp zOL (by
 intro x a;simp only[qG,qN,or_false]at a;rcases a with rfl
 .exact zTC)
def z0T:zfL:=[(334,[true,true,true,true,false,false],some (1,1,[[0],[1],[2],[4],[7]]),zuV)]++zVM
theorem zOY:zex z0T:=zqZ zdG (by
 intro x a;simp only[qG,qN,or_false]at a;rcases a with rfl
 .exact zNY)
def cz (l:List Slot):Nat:=l.countP λs=>ieq s.Page 0
def zH:List Mon->Nat
 |[]=>0
 |m::l=>cz m.Outer+zH l
def bit (u:List Bool):Nat:=bif ix u 0 false then 1 else 0
theorem zxG (s:Slot)(l:List Slot):cz (s::l)=cz l+bif ieq s.Page 0 then 1 else 0:=by unfold cz;rw[vI];cases ieq s.Page 0<;>rfl
theorem zbaq {u:List Bool}{p:Int}(c:0<=p)(a:p.toNat<u.length)(x:Bool):ix (up u p x) 0 false=bif ieq p 0 then x else ix u 0 false:=by unfold ix up;cases h:ieq p 0;{have:p≠0:=(by simpa [ieq] using h);have b:p.toNat≠0:=(by omega);simp[List.getD,q9,b]};{have:p=0:=(by simpa [ieq] using h);subst this;have a:0<u.length:=a;simp[List.getD,q9,a]}
theorem zDU:∀(l:List Slot) (u b:List Bool),(∀s∈l,s.Page<12)->u.length=12->zhz l u=some b->cz l+bit u=bit b
 |[],u,b,_,_,h=>by cases h;simp[cz]
 |s::l,u,b,i,k,h=>by
  simp only[zhz]at h;rw[zxG];cases c:ilt s.Page 0;{have c:=jR c;rw[show ilt s.Page 0=false from qK (by omega)]at h;simp only[cF]at h;cases d:ix u s.Page false;{rw [d]at h;simp only[cF]at h;have g:s.Page.toNat<u.length:=(by have:=i s (by simp);omega);have a:=zDU l _ b (λt j=>i t (by simp[j])) (by simpa using k) h;have e:bit (up u s.Page true)=bif ieq s.Page 0 then 1 else bit u:=(by unfold bit;rw[zbaq (by omega) g];cases ieq s.Page 0<;>rfl);rw[e] at a;cases f:ieq s.Page 0;{rw [f] at a;simp only[cF] at a ⊢;omega};{have n:s.Page=0:=(by simpa [ieq] using f);rw[n]at d;have:bit u=0:=(by unfold bit;rw[d];rfl);rw[f] at a;simp only[cT] at a ⊢;omega}};{rw [d]at h;cases h}};{have m:=qD c;rw[c]at h;simp only[cT]at h;have a:=zDU l u b (λt j=>i t (by simp[j])) k h;have:ieq s.Page 0=false:=(by simp[ieq];omega);rw[this];simpa using a}
theorem zTG:∀(l:List Mon) (u:List Bool),u.length=12->zjr l u=true->zH l+bit u<=1
 |[],u,_,_=>by unfold zH bit;cases ix u 0 false<;>simp
 |m::l,u,c,h=>by simp only[zjr]at h;cases b:ze0 m;{rw [b]at h;cases h};{rw [b]at h;simp only[cT]at h;cases a:zhz m.Outer u with|none=>rw[a]at h;cases h|some d =>rw[a]at h;have e:=zDU _ _ _ (zEm<|znh b) c a;have f:=zTG l d ((zqe _ _ _ a).trans c) h;simp only[zH];omega}
theorem z1N:∀(l:List Slot) (b:Nat) (s:Slot),l[b]?=some s->s.Page=0->cz (l.set b noSlot)+1=cz l
 |[],b,s,h,_=>by simp at h
 |t::l,0,s,h,a=>by simp only[qH,qC]at h;subst h;rw[List.set_cons_zero,zxG,zxG];have:ieq t.Page 0=true:=(by simp[ieq,a]);rw[this];rfl
 |t::l,b+1,s,h,a=>by rw[List.set_cons_succ,zxG,zxG];have:=z1N l b s (by simpa using h) a;omega
theorem zWk:∀(l:List Mon) (a:Nat) (x y:Mon),l[a]?=some x->zH (l.set a y)+cz x.Outer=zH l+cz y.Outer
 |[],a,x,y,h=>by simp at h
 |m::l,0,x,y,h=>by simp only[qH,qC]at h;subst h;rw[List.set_cons_zero];simp only[zH];omega
 |m::l,a+1,x,y,h=>by rw[List.set_cons_succ];have:=zWk l a x y (by simpa using h);simp only[zH];omega
theorem zZr {l:List Slot}(h:cz l=0):zoM l 0=none:=by unfold zoM;rw[List.findIdx?_eq_none_iff];intro s a;have:=(vC.1 h) s a;simpa using this
theorem zLD:∀(l:List Mon) (i:Nat),zH l=0->ziL 0 l i=(-1,-1)
 |[],_,_=>rfl
 |m::l,i,h=>by simp only[zH]at h;simp only[ziL];rw[zZr (by omega)];exact zLD l (i+1) (by omega)
theorem zZs {l:List Slot}{k:Nat}(h:zoM l 0=some k):∃s,l[k]?=some s/\s.Page=0:=by unfold zoM at h;rw[uX]at h;obtain⟨a,b,_⟩:=h;exact⟨l[k],qB a,by simpa [ieq] using b⟩
theorem zGl:∀(l:List Mon) (i:Nat),ziL 0 l i=(-1,-1)\/∃a b x s,ziL 0 l i=(((i+a:Nat):Int),((b:Nat):Int))/\l[a]?=some x/\x.Outer[b]?=some s/\s.Page=0
 |[],_=>.inl rfl
 |m::l,i=>by
  simp only[ziL];cases h:zoM m.Outer 0 with
  |none=>rcases zGl l (i+1) with c|⟨a,b,x,s,c,d,f,g⟩;{exact .inl c};{refine .inr ⟨a+1,b,x,s,?_,by simpa using d,f,g⟩;have e:i+1+a=i+(a+1):=(by omega);rw[c,e]}
  |some k=>obtain⟨s,c,d⟩:=zZs h;exact .inr ⟨0,k,m,s,rfl,rfl,c,d⟩
def Fit (h:Host):Prop:=Shape h/\0<h.Memory.length/\zH h.Mons<=1
theorem zF9 {h:Host}(c:0<h.Memory.length)(b:ilt (zbR h 0).1 0=true):inb 0 (ln<|zct h)=true:=by unfold zct;obtain⟨n,a⟩:∃n,h.Memory.length=n+1:=⟨h.Memory.length-1,by omega⟩;rw[a];simp only[zwX];rw[show ilt (zbR h ((0:Nat):Int)).1 0=true from b];exact qI (by simp only[cT,ln,qZ];omega)
theorem zZx {h:Host}(b:0<h.Memory.length)(a:ieq (ln<|zct h) 0=true):ilt (zbR h 0).1 0=false:=by cases c:ilt (zbR h 0).1 0;{rfl};{have d:=qD (zF9 b c);have e:ln (zct h)=0:=(by simpa [ieq] using a);omega}
def zdm (h:Host):Host:=bif ieq (ln<|zct h) 0 then zd5 h (zbR h 0).1 (zbR h 0).2 else h
structure Room (h r:Host):Prop where
 shape:Shape r
 free:inb 0 (ln (zct r))=true
 len:r.Mons.length=h.Mons.length
 outer:∀m,(ix r.Mons m mZ).Outer.length=8\/True
theorem z2L {h:Host}(i:Fit h)(f:ieq (ln<|zct h) 0=true):∃(a b:Nat) (x:Mon) (s:Slot),zbR h 0=((a:Int),(b:Int))/\h.Mons[a]?=some x/\x.Outer[b]?=some s/\s.Page=0:=by have d:=zZx i.2.1 f;have e:zbR h 0=ziL 0 h.Mons 0:=rfl;rcases zGl h.Mons 0 with c|⟨a,b,x,s,c,g⟩;{rw [e,c]at d;cases d};{exact⟨a,b,x,s,by rw[e,c,jX],g⟩}
theorem zEi {h:Host}(d:Fit h)(e:ieq (ln<|zct h) 0=true):hasB (zbR h 0).1 (ln h.Mons)=true/\hasB (zbR h 0).2 8=true:=by obtain⟨a,b,x,s,f,c,g,j⟩:=z2L d e;rw[f];have k:=(qA.1 c).1;have l:=(qA.1 g).1;have i:=d.1.2 x (qJ c);refine⟨qI (by simp only[ln];omega),qI ?_⟩;have:=i.1;show 0<=(b:Int)/\(b:Int)<8;omega
theorem room {h:Host}(d:Fit h):Room h (zdm h):=by unfold zdm;cases g:ieq (ln<|zct h) 0;{refine⟨d.1,qI ?_,rfl,λ_=>.inr trivial⟩;have:ln (zct h)≠0:=(by simpa [ieq] using g);show 0<=(0:Int)/\(0:Int)<ln (zct h);simp only[ln] at *;omega};{obtain⟨n,u⟩:=zEi d g;obtain⟨a,b,x,s,r,i,k,t⟩:=z2L d g;simp only[cT];rw[r]at n u ⊢;have m:=(qA.1 i).1;have B:=(qA.1 k).1;have j:ix h.Mons (a:Int) mZ=x:=(by rw[zbp m];exact(qA.1 i).2);have c:=(zgZ (zfp h (a:Int) (b:Int)) (a:Int) (b:Int) noSlot).1;have q:ix (zfp h (a:Int) (b:Int)).Mons (a:Int) mZ={x with Out:=up x.Out (b:Int) (zcG h.Memory (ix x.Outer (b:Int) sZ).Page)}:=(by unfold zfp;rw[zel m,j]);obtain⟨y,l,v⟩:∃y,(zd5 h (a:Int) (b:Int)).Mons=h.Mons.set a y/\y.Outer=x.Outer.set b noSlot:=(by unfold zd5;rw[c,q];unfold zfp;rw[zwA];exact⟨_,by simp[up];rfl,by simp[up]⟩);have w:zH (zd5 h (a:Int) (b:Int)).Mons=0:=(by have p:=zWk h.Mons a x y i;have z:=z1N x.Outer b s k t;have A:=d.2.2;rw[l];rw[v] at p;omega);have f:(zd5 h (a:Int) (b:Int)).Memory=h.Memory:=(zgZ (zfp h (a:Int) (b:Int)) (a:Int) (b:Int) noSlot).2;refine⟨zL2 d.1 n,zF9 (by rw[f];exact d.2.1) ?_,by rw[l];simp,λ_=>.inr trivial⟩;have e:zbR (zd5 h (a:Int) (b:Int)) 0=ziL 0 (zd5 h (a:Int) (b:Int)).Mons 0:=rfl;rw[e,zLD _ _ w];rfl}
theorem zVA {m:List (List Int)}{p:Int}{c:List Int}(h:SmM m)(a:c.length<=1048576):SmM (zjb m p c):=by unfold zjb;cases hasB p (ln m);{exact h};{cases zcE c;{exact h};{exact zMb h a}}
def landing (r:Host)(m p to:Int):Host:={r with Memory:=zjb r.Memory to (ix (ix r.Mons m mZ).Out p []),Mons:=up r.Mons m {ix r.Mons m mZ with Out:=up (ix r.Mons m mZ).Out p []}}
def zfC (r:Host)(m p to:Int):Host:=zcz (landing r m p to) m p ⟨to,3⟩
def fetched (h:Host)(m p:Int):Host:=zfC (zdm h) m p (ix (zct<|zdm h) 0 0)
theorem zVC {r:Host}{m p:Int}(e:Shape r)(c:hasB m (ln r.Mons)=true)(d:hasB p 8=true):(ix (ix r.Mons m mZ).Out p []).length<=1048576:=by obtain⟨a,b⟩:=zcF e c;exact a.2.1.2 _ (zbK (zdX b.2.1 d) _)
theorem zsY {r:Host}{m p to:Int}(a:Shape r)(d:hasB m (ln r.Mons)=true)(e:hasB p 8=true):Shape (landing r m p to):=by obtain⟨b,c⟩:=zcF a d;exact zQB (h:={r with Mons:=up r.Mons m {ix r.Mons m mZ with Out:=up (ix r.Mons m mZ).Out p []}}) (zi8 (x:={ix r.Mons m mZ with Out:=up (ix r.Mons m mZ).Out p []}) a ⟨b.1,zMb b.2.1 (by simp),b.2.2⟩ ⟨c.1,by simpa using c.2.1,c.2.2⟩) (zVA a.1.1<|zVC a d e)
theorem zR3 {r:Host}{m p d:Int}(c:Shape r)(a:hasB m (ln r.Mons)=true)(b:hasB p 8=true):Shape (zfC r m p d):=zsZ (ze4 a) (zsY c a b)
theorem zqH {h:Host}(a:Fit h){m:Int}(b:hasB m (ln h.Mons)=true):hasB m (ln (zdm h).Mons)=true:=by rw[ln,(room a).len];exact b
theorem zkO {h:Host}{m p:Int}(a:Fit h)(b:hasB m (ln h.Mons)=true)(c:hasB p 8=true):Shape (fetched h m p)/\hasB m (ln (fetched h m p).Mons)=true :=
 ⟨zR3 (room a).shape (zqH a b) c,zGb<|ze4<|zqH a b⟩
@[simp] abbrev zlR (h:Host)(m p:Int):Bool:=pc (Fit h/\hasB m (ln h.Mons)=true/\hasB p 8=true)
@[simp] abbrev zmL (h:Host)(m p:Int):Host:=fetched h m p
def zw2:List AV->Option (Bool×List AV)
 |[.agg [.s (.sl .int) b,.s .mon c,.s .entry d,.s .entry e],.one<|.i .i64 f,.one<|.i .i64 g]=>some (zlR (⟨b,c,d,e⟩:Host) f g,[aH<|zmL (⟨b,c,d,e⟩:Host) f g])
 |_=>none
def zCd (N:Nat)(a:Host)(c b:Int):OA:=
 let h:=ix (zcZ a) 0 0;let f:=ix a.Mons c zh;let d:=zn9 a (zdJ a 0)<|zeA a 0;let g:=ix (zcZ d) 0 0;let e:=ix d.Mons c zh; (oN (zf9 a)<|cond (ieq (ln<|zcZ a) 0) (oN (zf6 a 0)<|oN (zkt a (zdJ a 0)<|zeA a 0)<|oN (zf9 d)<|oN (inb 0<|ln<|zcZ d)<|oN (inb c<|ln d.Mons)<|oN (inb b<|ln e.Out)<|oN (zga d.Memory g<|ix e.Out b [])<|oN (inb c<|ln d.Mons)<|oN (inb b<|ln e.Out)<|share (up d.Mons c ({e with Out:=(up e.Out b [])}:Mon)) (λi=>let j:=({d with Memory:=(ze1 d.Memory g<|ix e.Out b []),Mons:=i}:Host); (oN (zfX j c b (⟨g,3⟩:Slot))<|some [aH<|zhX j c b (⟨g,3⟩:Slot)])))<|oN (zf9 a)<|oN (inb 0<|ln<|zcZ a)<|oN (inb c<|ln a.Mons)<|oN (inb b<|ln f.Out)<|oN (zga a.Memory h<|ix f.Out b [])<|oN (inb c<|ln a.Mons)<|oN (inb b<|ln f.Out)<|share (up a.Mons c ({f with Out:=(up f.Out b [])}:Mon)) (λi=>let k:=({a with Memory:=(ze1 a.Memory h<|ix f.Out b []),Mons:=i}:Host); (oN (zfX k c b (⟨h,3⟩:Slot))<|some [aH<|zhX k c b (⟨h,3⟩:Slot)])))
theorem zZ1 (N:Nat)(a:Host)(b c:Int):zD7 (cQ zra zoZ zZ8 z0T) (zx []) N 12 335 [true,true,true,true,false,false] 1 1 [[0],[1],[2],[4],[7]] .mon [aH a,aI b,aI c]=zCd N a b c:=by kernel_rfl
theorem zW4 (c:Host)(b d:Int)(z:zbL big [aH c,aI b,aI d])(u:zlR c b d=true):∃N,zCd N c b d=some [aH<|zmL c b d]:=by
 obtain⟨h,v,i⟩:=zQ.1 u;have e:∀r,Shape r->inb 0 (ln<|zct r)=true->hasB b (ln r.Mons)=true->(cond (zf9 r) (cond (inb 0<|ln<|zcZ r) (cond (inb b<|ln r.Mons) (cond (inb d<|ln (ix r.Mons b zh).Out) (cond (zga r.Memory (ix (zcZ r) 0 0)<|ix (ix r.Mons b zh).Out d []) (cond (inb b<|ln r.Mons) (cond (inb d<|ln (ix r.Mons b zh).Out) (share (up r.Mons b ({ (ix r.Mons b zh) with Out:=(up (ix r.Mons b zh).Out d [])}:Mon)) λs=>cond (zfX ({r with Memory:=(ze1 r.Memory (ix (zcZ r) 0 0)<|ix (ix r.Mons b zh).Out d []),Mons:=s}:Host) b d (⟨ix (zcZ r) 0 0,3⟩:Slot)) (some [AV.agg<|zbl<|zhX ({r with Memory:=(ze1 r.Memory (ix (zcZ r) 0 0)<|ix (ix r.Mons b zh).Out d []),Mons:=s}:Host) b d (⟨ix (zcZ r) 0 0,3⟩:Slot)]) none) none) none) none) none) none) none) none)=some [AV.agg<|zbl<|zfC r b d<|ix (zct r) 0 0]:=(by intro r j f a;obtain⟨y,l⟩:=zcF j a;have t:=zsY (to:=ix (zct r) 0 0) j a i;obtain⟨k,rfl,q⟩:=zef (n:=r.Mons.length) a;refine must (zbq j.1.1.1) (must f<|must (zC a)<|must (zC<|zdX l.2.1 i)<|must (zbq ⟨j.1.1,zVC j a i⟩)<|must (zC a)<|must (zC<|zdX l.2.1 i)<|shr (must (zbq ⟨(zU _).2 t.1,ze4 a,?_,?_⟩) rfl));{simp only [zel q];exact zdX l.1 i};{simp only [zel q];exact kY l.2.2.2});have g:=room h;have a:=zqH h v;refine⟨0,?_⟩;unfold zCd zmL fetched oN;conv=>zeta
 refine must (zbq h.1.1.1.1) ?_;cases p:ieq (ln<|zcZ c) 0;{have m:zdm c=c:=(by unfold zdm;rw[show ieq (ln<|zct c) 0=false from p];rfl);rw[m]at g a ⊢;exact e c g.shape g.free a};{obtain⟨w,x⟩:=zEi h p;have m:zdm c=zd5 c (zbR c 0).1 (zbR c 0).2:=(by unfold zdm;rw[show ieq (ln<|zct c) 0=true from p];rfl);rw[m]at g a ⊢;exact must rfl (must rfl (must (zbq ⟨h.1,w,x⟩)<|e _ g.shape g.free a))}
theorem zRb:zeF Tryz.prog 335 [true,true,true,true,false,false] (some (1,1,[[0],[1],[2],[4],[7]])) zw2:=by refine zmf (kt:=.mon) (zhb zh9 zA zOM zOY) (zje (by kernel_rfl)) (by kernel_rfl) ?_;intro a g f e h;have c:=zjk e;unfold zw2 at h;split at h;{obtain⟨d,rfl⟩:=zet h;obtain⟨N,b⟩:=zW4 _ _ _ (by exact c) d;exact⟨⟨_,rfl⟩,rfl,_,N,12,(zZ1 N _ _ _ ).trans b⟩};{cases h}
@[simp] abbrev zsD (h:Host):Bool:=pc (Shape h/\hasB (zbR h 0).1 (ln h.Mons)=true/\hasB (zbR h 0).2 8=true)
@[simp] abbrev zsE (h:Host):Host:=zd5 h (zbR h 0).1 (zbR h 0).2
def zn3:List CV->List AV->Option (Bool×List CV×List AV)
 |[.s (.sl .int) b,.s .mon c,.s .entry d,.s .entry e],[]=>some (zsD (⟨b,c,d,e⟩:Host),zbl<|zsE (⟨b,c,d,e⟩:Host),[])
 |_,_=>none
def zsu (N:Nat)(c:Host)  : OA :=
 (oN (zf6 c 0)<|oN (zkt c (zdJ c 0)<|zeA c 0)<|some [aH<|zn9 c (zdJ c 0)<|zeA c 0])
theorem zOH (N:Nat)(c:Host)  : zoK (cQ zra zoZ zZ8 z0T) (zx []) N 12 323 [true,true,true,true] (zbl c) []=zsu N c:=by kernel_rfl
theorem zLf (c:Host)(d:zbL big (.agg (zbl c)::[]))(a:zsD c=true):∃N,zsu N c=some (.agg (zbl<|zsE c)::[]):=by have b:=zQ.1 a;refine⟨0,?_⟩;unfold zsu oN;exact must rfl (must (zbq b) rfl)
theorem zEA:zbV Tryz.prog 323 [true,true,true,true] zn3:=by refine zh4 (zhb zh9 zA zOM zOY) (zje (by kernel_rfl)) ?_;intro g a b j i f h;have d:=zlj f;unfold zn3 at h;split at h;{obtain⟨e,rfl,rfl⟩:=znx h;obtain⟨N,c⟩:=zLf _ (by exact d) e;exact⟨rfl,_,N,12,(zOH N _ ).trans c⟩};{cases h}
def z5l:zcU:=[(323,[true,true,true,true],zn3)]++zZ8
theorem zYl:zb5 z5l:=zcp zOM (by
 intro x a;simp only[qG,qN,or_false]at a;rcases a with rfl
 .exact zEA)
def zVN:zfL:=[(335,[true,true,true,true,false,false],some (1,1,[[0],[1],[2],[4],[7]]),zw2)]++z0T
theorem zEo:zex zVN:=zqZ zOY (by
 intro x a;simp only[qG,qN,or_false]at a;rcases a with rfl
 .exact zRb)
theorem zYZ {r:Host}{m p to:Int}(d:Shape r)(b:hasB m (ln r.Mons)=true):zzB {landing r m p to with Mons:=up (landing r m p to).Mons m {ix (landing r m p to).Mons m mZ with Outer:=up (ix (landing r m p to).Mons m mZ).Outer p ⟨to,3⟩}} m p (ix (ix (landing r m p to).Mons m mZ).Outer p sZ)=zfC r m p to:=by obtain⟨e,c⟩:=zcF d b;obtain⟨k,rfl,a⟩:=zef (n:=r.Mons.length) b;refine zz0 (h:=landing r (k:Int) p to) (by simpa [landing] using a) ?_;unfold landing;simp only[zel a];exact c.2.2.2
theorem zXy {r:Host}{m p to:Int}(f:Shape r)(b:hasB m (ln r.Mons)=true)(e:hasB p 8=true):Shape {landing r m p to with Mons:=up (landing r m p to).Mons m {ix (landing r m p to).Mons m mZ with Outer:=up (ix (landing r m p to).Mons m mZ).Outer p ⟨to,3⟩}}:=by have a:=zsY (to:=to) f b e;obtain⟨c,d⟩:=zcF a (ze4 b);exact zi8 a ⟨by simpa using c.1,c.2⟩ ⟨by simpa using d.1,d.2⟩
def zuH:List CV->List AV->Option (Bool×List CV×List AV)
 |[.s (.sl .int) b,.s .mon c,.s .entry d,.s .entry e],[.one<|.i .i64 f,.one<|.i .i64 g]=>some (zlR (⟨b,c,d,e⟩:Host) f g,zbl<|zmL (⟨b,c,d,e⟩:Host) f g,[])
 |_,_=>none
def zBO (N:Nat)(c:Host)(b a:Int):OA:=
 let m:=ix (zcZ c) 0 0;let d:=zsE c;let l:=ix (zcZ d) 0 0;let f:=ix c.Mons b zh;let e:=ix d.Mons b zh; (oN (zf9 c)<|cond (ieq (ln<|zcZ c) 0) (oN (zsD c)<|oN (inb b<|ln d.Mons)<|oN (zf9 d)<|oN (inb 0<|ln<|zcZ d)<|oN (inb a<|ln e.Out)<|oN (zga d.Memory l<|ix e.Out a [])<|oN (inb a<|ln e.Out)<|share (up d.Mons b ({e with Out:=(up e.Out a [])}:Mon)) (λg=>let i:=ix g b zh;let q:=ix i.Outer a zW; (oN (inb a<|ln i.Outer)<|oN (inb a<|ln i.Outer)<|share (up g b ({i with Outer:=(up i.Outer a (⟨l,3⟩:Slot))}:Mon)) (λk=>let n:=({d with Memory:=(ze1 d.Memory l<|ix e.Out a []),Mons:=k}:Host); (oN (zeX n b a q)<|some [aH<|zeY n b a q])))))<|oN (inb b<|ln c.Mons)<|oN (zf9 c)<|oN (inb 0<|ln<|zcZ c)<|oN (inb a<|ln f.Out)<|oN (zga c.Memory m<|ix f.Out a [])<|oN (inb a<|ln f.Out)<|share (up c.Mons b ({f with Out:=(up f.Out a [])}:Mon)) (λg=>let j:=ix g b zh;let h:=ix j.Outer a zW; (oN (inb a<|ln j.Outer)<|oN (inb a<|ln j.Outer)<|share (up g b ({j with Outer:=(up j.Outer a (⟨m,3⟩:Slot))}:Mon)) (λk=>let p:=({c with Memory:=(ze1 c.Memory m<|ix f.Out a []),Mons:=k}:Host); (oN (zeX p b a h)<|some [aH<|zeY p b a h])))))
theorem zZ0 (N:Nat)(c:Host)(a b:Int):zoK (cQ zra zoZ z5l zVN) (zx []) N 12 189 [true,true,true,true] (zbl c) [aI a,aI b]=zBO N c a b:=by kernel_rfl
theorem zWT (c:Host)(b d:Int)(F:zbL big (.agg (zbl c)::[aI b,aI d]))(w:zlR c b d=true):∃N,zBO N c b d=some (.agg (zbl<|zmL c b d)::[]):=by
 obtain⟨j,B,l⟩:=zQ.1 w;have e:∀r,Shape r->inb 0 (ln<|zct r)=true->hasB b (ln r.Mons)=true->(cond (inb b<|ln r.Mons) (cond (zf9 r) (cond (inb 0<|ln<|zcZ r) (cond (inb d<|ln (ix r.Mons b zh).Out) (cond (zga r.Memory (ix (zcZ r) 0 0)<|ix (ix r.Mons b zh).Out d []) (cond (inb d<|ln (ix r.Mons b zh).Out) (share (up r.Mons b ({ (ix r.Mons b zh) with Out:=(up (ix r.Mons b zh).Out d [])}:Mon)) λg=>cond (inb d<|ln (ix g b zh).Outer) (cond (inb d<|ln (ix g b zh).Outer) (share (up g b ({ (ix g b zh) with Outer:=(up (ix g b zh).Outer d (⟨ix (zcZ r) 0 0,3⟩:Slot))}:Mon)) λu=>cond (zeX ({r with Memory:=(ze1 r.Memory (ix (zcZ r) 0 0)<|ix (ix r.Mons b zh).Out d []),Mons:=u}:Host) b d<|ix (ix g b zh).Outer d zW) (some [AV.agg<|zbl<|zeY ({r with Memory:=(ze1 r.Memory (ix (zcZ r) 0 0)<|ix (ix r.Mons b zh).Out d []),Mons:=u}:Host) b d<|ix (ix g b zh).Outer d zW]) none) none) none) none) none) none) none) none) none)=some [AV.agg<|zbl<|zfC r b d<|ix (zct r) 0 0]:=(by intro r i f a;obtain⟨E,q⟩:=zcF i a;have v:=zXy (to:=ix (zct r) 0 0) i a l;have hE:=zYZ (p:=d) (to:=ix (zct r) 0 0) i a;obtain⟨k,rfl,A⟩:=zef (n:=r.Mons.length) a;have z:∀(x y:Mon),hasB (k:Int) (ln<|up (up r.Mons (k:Int) x) (k:Int) y)=true:=λx y=>(by simpa [ln] using a);have t:inb d (ln (ix (up r.Mons (k:Int) {ix r.Mons (k:Int) mZ with Out:=up (ix r.Mons (k:Int) mZ).Out d []}) (k:Int) mZ).Outer)=true:=(by rw[zel A];exact zC (zdX q.1 l));refine must (zC a) (must (zbq i.1.1.1)<|must f<|must (zC<|zdX q.2.1 l)<|must (zbq ⟨i.1.1,zVC i a l⟩)<|must (zC<|zdX q.2.1 l)<|shr<|must t<|must t<|shr<|must (zbq ⟨v,z _ _⟩) ?_);exact congrArg (λx=>some [AV.agg<|zbl x]) hE);have h:=room j;have a:=zqH j B;refine⟨0,?_⟩;unfold zBO zmL fetched oN;conv=>zeta
 refine must (zbq j.1.1.1.1) ?_;cases s:ieq (ln<|zcZ c) 0;{have m:zdm c=c:=(by unfold zdm;rw[show ieq (ln<|zct c) 0=false from s];rfl);rw[m]at h a ⊢;exact e c h.shape h.free a};{obtain⟨C,D⟩:=zEi j s;have m:zdm c=zd5 c (zbR c 0).1 (zbR c 0).2:=(by unfold zdm;rw[show ieq (ln<|zct c) 0=true from s];rfl);rw[m]at h a ⊢;exact must rfl (must (zbq ⟨j.1,C,D⟩)<|e _ h.shape h.free a)}
theorem zQW:zbV Tryz.prog 189 [true,true,true,true] zuH:=by refine zh4 (zhb zh9 zA zYl zEo) (zje (by kernel_rfl)) ?_;intro g a b j i f h;have d:=zlj f;unfold zuH at h;split at h;{obtain⟨e,rfl,rfl⟩:=znx h;obtain⟨N,c⟩:=zWT _ _ _ (by exact d) e;exact⟨rfl,_,N,12,(zZ0 N _ _ _ ).trans c⟩};{cases h}
def zZ9:zcU:=[(189,[true,true,true,true],zuH)]++z5l
theorem zON:zb5 zZ9:=zcp zYl (by
 intro x a;simp only[qG,qN,or_false]at a;rcases a with rfl
 .exact zQW)
def zbJ (h:Host)(m p:Int):Host:={h with Mons:=up h.Mons m {ix h.Mons m mZ with Dirty:=up (ix h.Mons m mZ).Dirty p true}}
def opened (h:Host)(m p:Int):Host:=bif ieq (wand .i64 (ix (ix h.Mons m mZ).Outer p sZ).Rights 2) 0 then zcz h m p ⟨(ix (ix h.Mons m mZ).Outer p sZ).Page,3⟩ else h
def zke (h:Host)(m p n:Int):Host:=bif ieq (wand .i64 n 2) 0 then h else opened (zbJ h m p) m p
def mended (h:Host)(m p n:Int):Host:=bif ieq (ix (ix h.Mons m mZ).Outer p sZ).Page (-1) then zke (fetched h m p) m p n else zke h m p n
theorem z8R {r:Int}(a:0<=r)(b:r<=3):enough r 2 = !ieq (wand .i64 r 2) 0:=by have:r=0\/r=1\/r=2\/r=3:=(by omega);rcases this with rfl|rfl|rfl|rfl<;>rfl
structure SlotFit (s:Slot):Prop where
 no:zdb s noSlot=ieq s.Page (-1)
 lo:0<=s.Rights
 hi:s.Rights<=3
theorem z0L {s:Slot}{n:Int}(h:zed s n=true):SlotFit s:=by refine⟨zQD h,?_,?_⟩<;>unfold zed at h<;>cases a:zdb s noSlot;{rw [a]at h;simp only[cF,zdr]at h;have:=(zfA.1 h.2.2).1;omega};{unfold zdb at a;rw[qE]at a;have:s.Rights=0:=qD a.2;omega};{rw [a]at h;simp only[cF,zdr]at h;have:=(zfA.1 h.2.2).2;omega};{unfold zdb at a;rw[qE]at a;have:s.Rights=0:=qD a.2;omega}
theorem znT {h:Host}{m p:Int}(c:Shape h)(d:hasB m (ln h.Mons)=true):Shape (zbJ h m p):=by obtain⟨a,b⟩:=zcF c d;exact zi8 c ⟨a.1,a.2.1,by simpa using a.2.2.1,a.2.2.2⟩ ⟨b.1,b.2.1,by simpa using b.2.2.1,b.2.2.2⟩
theorem zVt {h:Host}{m p:Int}(b:Shape h)(a:hasB m (ln h.Mons)=true):Shape (opened h m p)/\hasB m (ln (opened h m p).Mons)=true:=by unfold opened;cases ieq (wand .i64 (ix (ix h.Mons m mZ).Outer p sZ).Rights 2) 0;{exact⟨b,a⟩};{exact⟨zsZ a b,zGb a⟩}
theorem zGD {h:Host}{m p n:Int}(b:Shape h)(a:hasB m (ln h.Mons)=true):Shape (zke h m p n)/\hasB m (ln (zke h m p n).Mons)=true:=by unfold zke;cases ieq (wand .i64 n 2) 0;{exact zVt (znT b a) (ze4 a)};{exact⟨b,a⟩}
theorem zva {h:Host}{m p n:Int}(a:Fit h)(b:hasB m (ln h.Mons)=true)(e:hasB p 8=true):Shape (mended h m p n)/\hasB m (ln (mended h m p n).Mons)=true:=by unfold mended;cases ieq (ix (ix h.Mons m mZ).Outer p sZ).Page (-1);{exact zGD a.1 b};{obtain⟨c,d⟩:=zkO a b e;exact zGD c d}
theorem zTk {h:Host}{m p:Int}(c:Fit h)(g:hasB m (ln h.Mons)=true)(j:hasB p 8=true):(ix (ix (fetched h m p).Mons m mZ).Outer p sZ).Rights=3:=by have f:=room c;have a:=zqH c g;obtain⟨r,e⟩:=zcF f.shape a;obtain⟨k,rfl,d⟩:=zef (n:=(zdm h).Mons.length) a;obtain⟨q,rfl,l⟩:=zef (n:=8) j;unfold fetched zfC;rw[(zgZ _ _ _ _).1];have b:k<(landing (zdm h) (k:Int) (q:Int)<|ix (zct<|zdm h) 0 0).Mons.length:=(by simpa [landing] using d);rw[zel b];have i:q<(ix (landing (zdm h) (k:Int) (q:Int)<|ix (zct<|zdm h) 0 0).Mons (k:Int) mZ).Outer.length:=(by unfold landing;rw[zel d];show q<(ix (zdm h).Mons (k:Int) mZ).Outer.length;rw[e.1];exact l);show (ix (up (ix (landing (zdm h) (k:Int) (q:Int)<|ix (zct<|zdm h) 0 0).Mons (k:Int) mZ).Outer (q:Int) ⟨_,3⟩) (q:Int) sZ).Rights=3;rw[zel i]
def z00 (h:Host)(m p n:Int):Prop:=Fit h/\hasB m (ln h.Mons)=true/\hasB p 8=true/\(n=1\/n=2)/\SlotFit (ix (ix h.Mons m mZ).Outer p sZ)
@[simp] abbrev zhW (h:Host)(m p n:Int):Bool:=pc (z00 h m p n)
@[simp] abbrev zg8 (h:Host)(m p n:Int):Host:=mended h m p n
def zsO:List AV->Option (Bool×List AV)
 |[.agg [.s (.sl .int) b,.s .mon c,.s .entry d,.s .entry e],.one<|.i .i64 f,.one<|.i .i64 g,.one<|.i .i64 h]=>some (zhW (⟨b,c,d,e⟩:Host) f g h,[aH<|zg8 (⟨b,c,d,e⟩:Host) f g h])
 |_=>none
def zwJ (N:Nat)(c:Host)(a b l:Int):OA:=
 let h:=zmL c a b;let k:=ix h.Mons a zh;let e:=ix c.Mons a zh;let p:=ix e.Outer b zW; (oN (inb a<|ln c.Mons)<|oN (inb b<|ln e.Outer)<|oN zbP<|cond (cond (ieq p.Page zbf.Page) (ieq p.Rights zbf.Rights) false) (oN (zlR c a b)<|cond (ieq (wand .i64 l 2) 0) (some [aH h])<|oN (inb a<|ln h.Mons)<|oN (inb b<|ln k.Dirty)<|share (up h.Mons a ({k with Dirty:=(up k.Dirty b true)}:Mon)) (λd=>let q:=(ix d a zh).Outer;let i:=({h with Mons:=d}:Host);let m:=ix q b zW;let r:=({m with Rights:=3}:Slot); (oN (inb a<|ln d)<|oN (inb b<|ln q)<|cond (ieq (wand .i64 m.Rights 2) 0) (oN (zfX i a b r)<|some [aH<|zhX i a b r])<|some [aH i])))<|cond (ieq (wand .i64 l 2) 0) (some [aH c])<|oN (inb a<|ln c.Mons)<|oN (inb b<|ln e.Dirty)<|share (up c.Mons a ({e with Dirty:=(up e.Dirty b true)}:Mon)) (λd=>let f:=(ix d a zh).Outer;let j:=({c with Mons:=d}:Host);let n:=ix f b zW;let g:=({n with Rights:=3}:Slot); (oN (inb a<|ln d)<|oN (inb b<|ln f)<|cond (ieq (wand .i64 n.Rights 2) 0) (oN (zfX j a b g)<|some [aH<|zhX j a b g])<|some [aH j])))
theorem zUD (N:Nat)(a:Host)(b c d:Int):zD7 (cQ zra zoZ zZ9 zVN) (zx []) N 12 216 [true,true,true,true,false,false,false] 1 1 [[0],[1],[2],[4],[7]] .mon [aH a,aI b,aI c,aI d]=zwJ N a b c d:=by kernel_rfl
theorem zRP (d:Host)(b a h:Int)(C:zbL big [aH d,aI b,aI a,aI h])(z:zhW d b a h=true):∃N,zwJ N d b a h=some [aH<|zg8 d b a h]:=by
 obtain⟨l,j,i,D,A⟩:=zQ.1 z;obtain⟨B,v⟩:=zcF l.1 j;have f:∀r,Shape r->hasB b (ln r.Mons)=true->(cond (ieq (wand .i64 h 2) 0) (some [AV.agg<|zbl r])<|cond (inb b<|ln r.Mons) (cond (inb a<|ln (ix r.Mons b zh).Dirty) (share (up r.Mons b ({ (ix r.Mons b zh) with Dirty:=(up (ix r.Mons b zh).Dirty a true)}:Mon)) λg=>cond (inb b<|ln g) (cond (inb a<|ln (ix g b zh).Outer) (cond (ieq (wand .i64 (ix (ix g b zh).Outer a zW).Rights 2) 0) (cond (zfX ({r with Mons:=g}:Host) b a ({ (ix (ix g b zh).Outer a zW) with Rights:=3}:Slot)) (some [AV.agg<|zbl<|zhX ({r with Mons:=g}:Host) b a ({ (ix (ix g b zh).Outer a zW) with Rights:=3}:Slot)]) none)<|some [AV.agg<|zbl ({r with Mons:=g}:Host)]) none) none) none) none)=some [AV.agg<|zbl<|zke r b a h]:=(by intro r u c;obtain⟨E,m⟩:=zcF u c;have y:=znT (p:=a) u c;unfold zke;cases w:ieq (wand .i64 h 2) 0;{obtain⟨k,rfl,t⟩:=zef (n:=r.Mons.length) c;have q:ix (zbJ r (k:Int) a).Mons (k:Int) mZ={ix r.Mons (k:Int) mZ with Dirty:=up (ix r.Mons (k:Int) mZ).Dirty a true}:=zel t _ _;refine zdp rfl (must (zC c)<|must (zC<|zdX m.2.2.1 i)<|shr<|must (zC<|ze4 c)<|must ?_ ?_);{rw [zel t];exact zC (zdX m.1 i)};{unfold opened;show (cond (ieq (wand .i64 (ix (ix (zbJ r (k:Int) a).Mons (k:Int) mZ).Outer a sZ).Rights 2) 0) _ _)=_;cases s:ieq (wand .i64 (ix (ix (zbJ r (k:Int) a).Mons (k:Int) mZ).Outer a sZ).Rights 2) 0;{rfl};{refine must rfl (must (zbq ⟨(zU _).2 y.1,ze4 c,?_,?_⟩) rfl);{show hasB a (ln (ix (zbJ r (k:Int) a).Mons (k:Int) mZ).Outer)=true;rw[q];exact zdX m.1 i};{show (ix (zbJ r (k:Int) a).Mons (k:Int) mZ).Tables.length<=(ix (zbJ r (k:Int) a).Mons (k:Int) mZ).Guests.length;rw[q];exact kY m.2.2.2}}}};{rfl});refine⟨0,?_⟩;unfold zwJ zg8 mended oN;conv=>zeta
 refine must (zC j) (must (zC<|zdX v.1 i) (must rfl ?_));have e:(cond (ieq (ix (ix d.Mons b mZ).Outer a sZ).Page zbf.Page) (ieq (ix (ix d.Mons b mZ).Outer a sZ).Rights zbf.Rights) false)=ieq (ix (ix d.Mons b mZ).Outer a sZ).Page (-1):=(by rw[<- A.no];unfold zdb zbf;cases ieq (ix (ix d.Mons b mZ).Outer a sZ).Page noSlot.Page<;>rfl);rw[e];cases w:ieq (ix (ix d.Mons b mZ).Outer a sZ).Page (-1);{exact f d l.1 j};{obtain⟨s,x⟩:=zkO (p:=a) l j i;exact must rfl (must (zbq ⟨l,j,i⟩)<|f _ s x)}
theorem zKS:zeF Tryz.prog 216 [true,true,true,true,false,false,false] (some (1,1,[[0],[1],[2],[4],[7]])) zsO:=by refine zmf (kt:=.mon) (zhb zh9 zA zON zEo) (zje (by kernel_rfl)) (by kernel_rfl) ?_;intro a g f e h;have c:=zjk e;unfold zsO at h;split at h;{obtain⟨d,rfl⟩:=zet h;obtain⟨N,b⟩:=zRP _ _ _ _ (by exact c) d;exact⟨⟨_,rfl⟩,rfl,_,N,12,(zUD N _ _ _ _ ).trans b⟩};{cases h}
def zw0:List CV->List AV->Option (Bool×List CV×List AV)
 |[.s (.sl .int) b,.s .mon c,.s .entry d,.s .entry e],[.one<|.i .i64 f,.one<|.i .i64 g,.one<|.i .i64 h]=>some (zhW (⟨b,c,d,e⟩:Host) f g h,zbl<|zg8 (⟨b,c,d,e⟩:Host) f g h,[])
 |_,_=>none
def zGO (N:Nat)(c:Host)(b a k:Int):OA:=
 let e:=zmL c b a;let m:=ix e.Mons b zh;let h:=ix c.Mons b zh; (oN (inb b<|ln c.Mons)<|oN (inb a<|ln h.Outer)<|cond (ieq (ix h.Outer a zW).Page<|-1) (oN (zlR c b a)<|oN (zbA k 2)<|cond (nB<|zcY k 2) (some [aH e])<|oN (inb b<|ln e.Mons)<|oN (inb a<|ln m.Dirty)<|share (up e.Mons b ({m with Dirty:=(up m.Dirty a true)}:Mon)) (λd=>let i:=ix d b zh;let f:=ix i.Outer a zW; (oN (inb a<|ln i.Outer)<|oN (zbA f.Rights 2)<|cond (nB<|zcY f.Rights 2) (oN (inb a<|ln i.Outer)<|share (up d b ({i with Outer:=(up i.Outer a ({f with Rights:=3}:Slot))}:Mon)) (λl=>let n:=({e with Mons:=l}:Host); (oN (zeX n b a f)<|some [aH<|zeY n b a f])))<|some [aH ({e with Mons:=d}:Host)])))<|oN (zbA k 2)<|cond (nB<|zcY k 2) (some [aH c])<|oN (inb b<|ln c.Mons)<|oN (inb a<|ln h.Dirty)<|share (up c.Mons b ({h with Dirty:=(up h.Dirty a true)}:Mon)) (λd=>let j:=ix d b zh;let g:=ix j.Outer a zW; (oN (inb a<|ln j.Outer)<|oN (zbA g.Rights 2)<|cond (nB<|zcY g.Rights 2) (oN (inb a<|ln j.Outer)<|share (up d b ({j with Outer:=(up j.Outer a ({g with Rights:=3}:Slot))}:Mon)) (λl=>let p:=({c with Mons:=l}:Host); (oN (zeX p b a g)<|some [aH<|zeY p b a g])))<|some [aH ({c with Mons:=d}:Host)])))
theorem z2D (N:Nat)(c:Host)(a b d:Int):zoK (cQ zra zoZ zZ9 zVN) (zx []) N 12 181 [true,true,true,true] (zbl c) [aI a,aI b,aI d]=zGO N c a b d:=by kernel_rfl
theorem zZT (c:Host)(b a f:Int)(R:zbL big (.agg (zbl c)::[aI b,aI a,aI f]))(M:zhW c b a f=true):∃N,zGO N c b a f=some (.agg (zbl<|zg8 c b a f)::[]):=by
 obtain⟨l,i,j,P,C⟩:=zQ.1 M;obtain⟨Q,I⟩:=zcF l.1 i;have H:enough f 2 = !ieq (wand .i64 f 2) 0:=(by rcases P with rfl|rfl<;>rfl);have g:∀r,Shape r->hasB b (ln r.Mons)=true->enough (ix (ix r.Mons b mZ).Outer a sZ).Rights 2=(!ieq (wand .i64 (ix (ix r.Mons b mZ).Outer a sZ).Rights 2) 0)->(cond (zbA f 2) (cond (cond (zcY f 2) false true) (some [AV.agg<|zbl r])<|cond (inb b<|ln r.Mons) (cond (inb a<|ln (ix r.Mons b zh).Dirty) (share (up r.Mons b ({ (ix r.Mons b zh) with Dirty:=(up (ix r.Mons b zh).Dirty a true)}:Mon)) λe=>cond (inb a<|ln (ix e b zh).Outer) (cond (zbA (ix (ix e b zh).Outer a zW).Rights 2) (cond (cond (zcY (ix (ix e b zh).Outer a zW).Rights 2) false true) (cond (inb a<|ln (ix e b zh).Outer) (share (up e b ({ (ix e b zh) with Outer:=(up (ix e b zh).Outer a ({ (ix (ix e b zh).Outer a zW) with Rights:=3}:Slot))}:Mon)) λF=>cond (zeX ({r with Mons:=F}:Host) b a<|ix (ix e b zh).Outer a zW) (some [AV.agg<|zbl<|zeY ({r with Mons:=F}:Host) b a<|ix (ix e b zh).Outer a zW]) none) none)<|some [AV.agg<|zbl ({r with Mons:=e}:Host)]) none) none) none) none) none)=some [AV.agg<|zbl<|zke r b a f]:=(by intro r B d q;obtain⟨S,u⟩:=zcF B d;have w:=znT (p:=a) B d;unfold zke;simp only[zbA,zcY,H,cT];cases J:ieq (wand .i64 f 2) 0;{obtain⟨k,rfl,A⟩:=zef (n:=r.Mons.length) d;have m:ix (zbJ r (k:Int) a).Mons (k:Int) mZ={ix r.Mons (k:Int) mZ with Dirty:=up (ix r.Mons (k:Int) mZ).Dirty a true}:=zel A _ _;have t:k<(zbJ r (k:Int) a).Mons.length:=(by simpa [zbJ] using A);have z:inb a (ln (ix (zbJ r (k:Int) a).Mons (k:Int) mZ).Outer)=true:=(by rw[m];exact zC (zdX u.1 j));refine zdp rfl (must (zC d)<|must (zC<|zdX u.2.2.1 j)<|shr<|must z ?_);unfold opened;show (cond (cond (enough (ix (ix (zbJ r (k:Int) a).Mons (k:Int) mZ).Outer a sZ).Rights 2) false true) _ _)=_;have G:(cond (enough (ix (ix (zbJ r (k:Int) a).Mons (k:Int) mZ).Outer a sZ).Rights 2) false true)=ieq (wand .i64 (ix (ix (zbJ r (k:Int) a).Mons (k:Int) mZ).Outer a sZ).Rights 2) 0:=(by rw[m];show (cond (enough (ix (ix r.Mons (k:Int) mZ).Outer a sZ).Rights 2) false true)=ieq (wand .i64 (ix (ix r.Mons (k:Int) mZ).Outer a sZ).Rights 2) 0;rw[q];cases ieq (wand .i64 (ix (ix r.Mons (k:Int) mZ).Outer a sZ).Rights 2) 0<;>rfl);rw[G];cases v:ieq (wand .i64 (ix (ix (zbJ r (k:Int) a).Mons (k:Int) mZ).Outer a sZ).Rights 2) 0;{rfl};{have L:Shape {zbJ r (k:Int) a with Mons:=up (zbJ r (k:Int) a).Mons (k:Int) {ix (zbJ r (k:Int) a).Mons (k:Int) mZ with Outer:=up (ix (zbJ r (k:Int) a).Mons (k:Int) mZ).Outer a ⟨(ix (ix (zbJ r (k:Int) a).Mons (k:Int) mZ).Outer a sZ).Page,3⟩}}:=(by obtain⟨D,E⟩:=zcF w (ze4 d);exact zi8 w ⟨by simpa using D.1,D.2⟩ ⟨by simpa using E.1,E.2⟩);have O:∀(x y:Mon),hasB (k:Int) (ln<|up (up r.Mons (k:Int) x) (k:Int) y)=true:=λx y=>(by simpa [ln] using d);refine must rfl (must z<|shr<|must (zbq ⟨L,O _ _⟩) ?_);exact congrArg (λx=>some [AV.agg<|zbl x]) (zz0 (h:=zbJ r (k:Int) a) (p:=a) (s:=⟨(ix (ix (zbJ r (k:Int) a).Mons (k:Int) mZ).Outer a sZ).Page,3⟩) t (by rw[m];exact u.2.2.2))}};{rfl});refine⟨0,?_⟩;unfold zGO zg8 mended oN nB;conv=>zeta
 refine must (zC i) (must (zC<|zdX I.1 j) ?_);cases J:ieq (ix (ix c.Mons b mZ).Outer a sZ).Page (-1);{exact g c l.1 i (z8R C.lo C.hi)};{obtain⟨v,K⟩:=zkO (p:=a) l i j;exact must rfl (must (zbq ⟨l,i,j⟩)<|g _ v K (by rw[zTk l i j];rfl))}
theorem zTB:zbV Tryz.prog 181 [true,true,true,true] zw0:=by refine zh4 (zhb zh9 zA zON zEo) (zje (by kernel_rfl)) ?_;intro g a b j i f h;have d:=zlj f;unfold zw0 at h;split at h;{obtain⟨e,rfl,rfl⟩:=znx h;obtain⟨N,c⟩:=zZT _ _ _ _ (by exact d) e;exact⟨rfl,_,N,12,(z2D N _ _ _ _ ).trans c⟩};{cases h}
def z0b:zcU:=[(181,[true,true,true,true],zw0)]++zZ9
theorem zcc:zb5 z0b:=zcp zON (by
 intro x a;simp only[qG,qN,or_false]at a;rcases a with rfl
 .exact zTB)
def z0U:zfL:=[(216,[true,true,true,true,false,false,false],some (1,1,[[0],[1],[2],[4],[7]]),zsO)]++zVN
theorem zyM:zex z0U:=zqZ zEo (by
 intro x a;simp only[qG,qN,or_false]at a;rcases a with rfl
 .exact zKS)
theorem zZF {h:Host}(b:zck h=true):h.Memory.length=12:=by unfold zck at b;simp only[zdr]at b;have a:=b.1;unfold ziK at a;simp only[zdr]at a;have:ln h.Memory=12:=qD a.2;simp only[ln] at this;omega
theorem zhJ {h:Host}(a:zck h=true):∀x∈h.Mons,ze0 x=true:=by unfold zck at a;simp only[zdr]at a;exact zzo _ _ a.2.2.2.2
theorem zIh {x:Mon}(a:ze0 x=true):ShM x:=by have e:=zsm (znh a);unfold ze0 at a;simp only[zdr]at a;have b:ln x.Tables=ln x.Guests:=qD a.2.1;have c:ln x.Out=8:=qD a.2.2.2.1;have d:ln x.Dirty=8:=qD a.2.2.2.2.1;simp only[ln] at *;exact⟨by omega,by omega,by omega,by omega⟩
theorem zf4 {h:Host}(b:SmH h)(a:zck h=true):Fit h:=by refine⟨⟨b,λx c=>zIh (zhJ a x c)⟩,by rw[zZF a];decide,?_⟩;unfold zck at a;simp only[zdr]at a;have:=zTG _ _ rfl a.2.2.2.2;omega
theorem ztn {x:Mon}(b:ze0 x=true){p:Int}(c:hasB p 8=true):SlotFit (ix x.Outer p sZ):=by have a:=znh b;unfold zdd at a;simp only[zdr]at a;exact z0L (qM.1 a.1 _<|zbK (zdX (zIh b).1 c) _)
theorem zWC {h:Host}{m p:Int}(a:Fit h)(c:hasB m (ln h.Mons)=true):Fit (zbJ h m p):=by refine⟨znT a.1 c,a.2.1,?_⟩;obtain⟨k,rfl,b⟩:=zef (n:=h.Mons.length) c;have:=zWk h.Mons k (ix h.Mons (k:Int) mZ) {ix h.Mons (k:Int) mZ with Dirty:=up (ix h.Mons (k:Int) mZ).Dirty p true} (by rw[zbp b];exact qB b);have d:=a.2.2;unfold zbJ;simp only[up,kG];dsimp only at this;simp only[up] at this;omega
abbrev gZ:Guest:=Ty.dflt .guest
@[simp] abbrev zgX (h:Host)(m:Int):Bool:=pc (zdI h)
@[simp] abbrev zcJ (h:Host)(m:Int):Mon:=bif hasB m (ln h.Mons) then ix h.Mons m mZ else mZ
@[simp] abbrev zlp (h:Host)(m:Int):Bool:=hasB m (ln h.Mons)
def zGq:Run:=rF2 dH dI λb c=>(zgX b c,[aT .mon<|zcJ b c,aB<|zlp b c])
def zPo (N:Nat)(a:Host)(b:Int):OA:=
 let c:=ix a.Mons b zh; (oN (zbA b<|ln a.Mons)<|cond (nB<|zdo b<|ln a.Mons) (some [aT .mon (⟨[],[],[],[],[],0,0,[],0⟩:Mon),aB false])<|oN (inb b<|ln a.Mons)<|oN (zkV c)<|some [aT .mon<|zlq c,aB true])
theorem zWP (a:Host)(b:Int)(d:zgX a b=true):∃N,zPo N a b=some [aT .mon<|zcJ a b,aB<|zlp a b]:=by
 have e:=(zU a).1 (zQ.1 d);refine⟨0,?_⟩;unfold zPo zcJ zlp oN nB;conv=>zeta
 refine must rfl ?_;rw[show zdo b (ln a.Mons)=hasB b (ln a.Mons) from rfl];cases c:hasB b (ln a.Mons);{rfl};{exact zdp rfl (must (zC c) (must (zbq<|e.2.1.2 _<|zbK c _) rfl))}
theorem zQS:vM 147 zGq:=kF2 zh9 zA zcc zyM (zx []) zWP
def zbY (h:Host)(m g:Int):Bool:=bif zck h then (cond (hasB m<|ln h.Mons) (hasB g<|ln (ix h.Mons m mZ).Guests) false) else false
@[simp] abbrev zcT (h:Host)(m g:Int):Bool:=pc (zdI h)
@[simp] abbrev zjT (h:Host)(m g:Int):Bool:=zbY h m g
def zGx:Run:=rF3 dH dI dI λb c d=>(zcT b c d,[aB<|zjT b c d])
def zPG (N:Nat)(a:Host)(b c:Int):OA:=
 let d:=wsub .i64 (ln (ix a.Mons b zh).Guests) 1; (oN (zez a)<|cond (zeu a) (oN (zO b 0<|wsub .i64 (ln a.Mons) 1)<|cond (zk b 0<|wsub .i64 (ln a.Mons) 1) (oN (inb b<|ln a.Mons)<|oN (zO c 0 d)<|some [aB<|zk c 0 d]) oF) oF)
theorem zW6 (a:Host)(b c:Int)(f:zcT a b c=true):∃N,zPG N a b c=some [aB<|zjT a b c]:=by
 have e:=(zU a).1 (zQ.1 f);refine⟨0,?_⟩;unfold zPG zjT zbY oN;conv=>zeta
 refine must rfl ?_;rw[show zeu a=zck a from rfl];cases g:zck a;{rfl};{rw [show zk b 0 (wsub .i64 (ln a.Mons) 1)=hasB b (ln a.Mons) from zq2 e.2.1.1 b];refine must rfl (must rfl ?_);cases d:hasB b (ln a.Mons);{rfl};{have hg:(ix a.Mons b mZ).Guests.length<=1048576:=(e.2.1.2 _<|zbK d _).2.2.2.1.1;rw[show zk c 0 (wsub .i64 (ln (ix a.Mons b zh).Guests) 1)=hasB c (ln (ix a.Mons b mZ).Guests) from zq2 hg c];exact must rfl (must (zC d) (must rfl rfl))}}
theorem zRd:vM 203 zGx:=kF3 zh9 zA zcc zyM (zx []) zW6
def zcH (h:Host)(m:Int):Nat->Nat->List (List Int)
 | 0,_=>[]
 |n+1,i=>zcR h m (i:Int)::zcH h m n (i+1)
theorem zzN (h:Host)(m:Int):∀(n i:Nat),(zcH h m n i).length=n
 | 0,_=>rfl
 |n+1,i=>by simp[zcH,zzN h m n]
def zK (h:Host)(m:Int):Bare:=bif hasB m (ln h.Mons) then ⟨zcH h m 8 0,(ix h.Mons m mZ).Guests,(ix h.Mons m mZ).Outs,(ix h.Mons m mZ).Pending⟩ else ⟨[],[],[],0⟩
theorem zQb {c:Type}(h:Host)(m:Int)(K:List (List Int)->Option c):∀(n i:Nat) (a:List (List Int)),a.length+n<=2147483648->
 goN (λi a b=>bif few (ln<|ap a [zcR h m (i:Int)]) then b (ap a [zcR h m (i:Int)]) else none) K n i a=K (a++zcH h m n i)
 | 0,_,a,_=>by simp[goN,zcH]
 |n+1,i,a,d=>by simp only[goN,zcH];rw[zgu (by simp[ap];omega),cT,zQb h m K n (i+1) _ (by simp[ap];omega)];simp[ap]
@[simp] abbrev zqx (h:Host)(m:Int):Bare:=zK h m
def z7b:zbb:=[(147,zGq),(203,zGx)]++zra
theorem zS8:zS z7b:=zi zQS (zi zRd zh9)
def zDr:Run:=rF2 dH dI λb c=>(zgX b c,[aT .bare<|zqx b c])
def zI0 (N:Nat)(b:Host)(c:Int):OA:=
 (oN (zgX b c)<|cond (nB<|zlp b c) (some [aT .bare (⟨[],[],[],0⟩:Bare)])<|iter (σ:=(Int×Int×Int×Int×lM×lN×lE×lE×lM×lG×(List Int)×lM×lG×(List Int)×Unit)) N (λh a=>let g:=a.2.2.2.2.2.2.2.2.2.2.2.2.1;let f:=a.2.2.2.2.2.2.2.2.2.2.2.2.2.1;let d:=(⟨a.2.2.2.2.1,a.2.2.2.2.2.1,a.2.2.2.2.2.2.1,a.2.2.2.2.2.2.2.1⟩:Host);let e:=ap a.2.2.2.2.2.2.2.2.2.2.2.1 [zzt d a.1 a.2.1]; (cond (ilt a.2.1 8) (oN (zzu d a.1 a.2.1)<|oN (few<|ln e)<|h (a.1,zM .i64 a.2.1 1,a.2.2.1,a.2.2.2.1,a.2.2.2.2.1,a.2.2.2.2.2.1,a.2.2.2.2.2.2.1,a.2.2.2.2.2.2.2.1,a.2.2.2.2.2.2.2.2.1,a.2.2.2.2.2.2.2.2.2.1,a.2.2.2.2.2.2.2.2.2.2.1,e,g,f,()))<|some [aT .bare (⟨a.2.2.2.2.2.2.2.2.2.2.2.1,g,f,a.2.2.2.1⟩:Bare)])) (c,0,0,(zcJ b c).Pending,b.Memory,b.Mons,b.Buffer,b.IoBuffer,[],[],[],[],(zcJ b c).Guests,(zcJ b c).Outs,()))
def zVU:=zx [(162,0,{n:=39,tm:=[(1,ti),(2,.lp 0 0),(4,.lp 1 0),(7,.lp 2 0),(8,ti)],lo:=[(0,[.sl 0 [],.sl 1 [],.sl 2 [],.sl 3 []]),(1,[.sl 4 [],.sl 5 [],.sl 6 [],ti]),(2,[.sl 7 [],.sl 8 [],.sl 9 [],ti])],ro:=[(0,.sl .int,false),(1,.mon,false),(2,.entry,false),(3,.entry,false),(4,.sl .int,true),(5,.guest,true),(6,.int,true),(7,.sl .int,true),(8,.guest,true),(9,.int,true)]})]
theorem zT2 (a:Host)(b:Int)(f:zgX a b=true):∃N,zI0 N a b=some [aT .bare<|zqx a b]:=by
 have e:=zQ.1 f;refine zcA λN d=>?_;unfold zI0 zqx zK oN nB;conv=>zeta
 refine must (zbq e) ?_;rw[show zlp a b=hasB b (ln a.Mons) from rfl];cases g:hasB b (ln a.Mons);{rfl};{refine zdp rfl ?_;refine(zzC 8 (λi (t:lM)=>(b,(i:Int),0,(zcJ a b).Pending,a.Memory,a.Mons,a.Buffer,a.IoBuffer,[],[],[],t,(zcJ a b).Guests,(zcJ a b).Outs,())) _ (λi (c:List (List Int)) j=>bif few (ln<|ap c [zcR a b (i:Int)]) then j (ap c [zcR a b (i:Int)]) else none) (λ(t:lM)=>some [.agg<|Ty.cells .bare (⟨t,(zcJ a b).Guests,(zcJ a b).Outs,(zcJ a b).Pending⟩:Bare)]) (λi h t rec=>?_) (λt rec=>?_) _ ([])<|d (by decide)).trans ?_;{simp only [show ilt (i:Int) 8=true from qI (by omega),zbh h (show 8<=big by decide),cT];exact must (zbq e) rfl};{simp only [show ilt ((8:Nat):Int) 8=false from qK (by omega),cF]};rw[zQb a b _ 8 0 [] (by decide)];simp only[zcJ,g,cT,jP]}
theorem zNi:vM 162 zDr:=kF2 zS8 zA zcc zyM zVU zT2
theorem zW8:zcE zz8=true:=by decide
theorem zXP {p:Nat->Bool}:∀{n i q:Nat},zoB p n i=true->i<=q->q<i+n->p q=true
 | 0,i,q,_,a,b=>by omega
 |n+1,i,q,h,a,b=>by simp only[zoB,qE]at h;by_cases c:i=q;{subst c;exact h.1};{exact zXP h.2 (by omega) (by omega)}
theorem z2P {h:Host}{m:Int}(e:zck h=true)(l:hasB m (ln h.Mons)=true){p:Int}(j:hasB p 8=true):zcE (zcR h m p)=true:=by have i:=zhJ e _ (zbK l mZ);have s:=zIh i;have f:h.Memory.all zcE=true:=(by unfold zck at e;simp only[zdr]at e;have b:=e.1;unfold ziK at b;simp only[zdr]at b;exact b.1);unfold zcR;rw[l,j];simp only[cT];have t:zbH (ix h.Mons m mZ).Outer p=ix (ix h.Mons m mZ).Outer p sZ:=(by unfold zbH;rw[zdX s.1 j];rfl);rw[t];have d:∀(g:List (List Int)) (q:Int),(hasB q (ln g)=true->zcE (ix g q [])=true)->zcE (zcG g q)=true:=(by intro g q k;unfold zcG;cases b:hasB q (ln g);{exact zW8};{exact k b});cases c:ine (ix (ix h.Mons m mZ).Outer p sZ).Page (-1);{refine d _ _ (λk=>?_);obtain⟨q,rfl,u⟩:=zef (n:=8) j;have a:fits (ix h.Mons m mZ) q=true:=(by unfold ze0 at i;simp only[zdr]at i;exact zXP i.2.2.2.2.2.2.2.2.2.2 (by omega) (by omega));unfold fits zmm at a;have r:zdb (ix (ix h.Mons m mZ).Outer (q:Int) sZ) noSlot=true:=(by rw[(ztn (zhJ e _<|zbK l mZ) j).no];rw[zmg]at c;cases b:ieq (ix (ix h.Mons m mZ).Outer (q:Int) sZ).Page (-1);{rw [b]at c;cases c};{rfl});rw[r]at a;exact a};{exact d _ _ (λk=>qM.1 f _ (zbK k _))}
theorem zQr {h:Host}{m:Int}(a:zck h=true)(b:hasB m (ln h.Mons)=true):∀(n i:Nat),i+n<=8->(zcH h m n i).all zcE=true
 | 0,_,_=>rfl
 |n+1,i,c=>by simp only[zcH,kW,qE];exact⟨z2P a b<|qI (by omega),zQr a b n (i+1) (by omega)⟩
theorem zwP {h:Host}{m:Int}(c:zck h=true)(b:hasB m (ln h.Mons)=true):zbW (zK h m)=true:=by have a:=zhJ c _ (zbK b mZ);unfold ze0 at a;simp only[zdr]at a;unfold zK zbW ziK;rw[b];simp only[cT,a.2.2.2.2.2.2.2.2.2.1,zQr c b 8 0 (by decide),ln,zzN];simp only[ln]at a;rw[a.1,a.2.2.2.2.2.1,a.2.2.2.2.2.2.1];rfl
def znz:zbb:=[(162,zDr)]++z7b
theorem zia:zS znz:=zi zNi zS8
def zeH (l:List Mon):List (List Guest):=l.map λx=>x.Guests
theorem zzn {l:List Mon}{m:Int}{x:Mon}(b:hasB m (ln l)=true)(c:x.Guests=(ix l m mZ).Guests):zeH (up l m x)=zeH l:=by obtain⟨k,rfl,a⟩:=zef (n:=l.length) b;unfold zeH up;rw[List.map_set,kG,c,zbp a];have:=@u4 _ (l.map λx=>x.Guests) k (by simpa using a);simpa using this
theorem zJ5 {l b:List Mon}(h:zeH b=zeH l)(m:Int):(ix b m mZ).Guests=(ix l m mZ).Guests:=by unfold zeH at h;have a:(b.map λx=>x.Guests)[m.toNat]?=(l.map λx=>x.Guests)[m.toNat]?:=(by rw[h]);rw[qQ,qQ]at a;unfold ix;simp only[kA];cases c:b[m.toNat]? <;> cases d:l[m.toNat]? <;> rw [c,d]at a<;>simp at a ⊢;exact a
theorem zzm {h:Host}{m p:Int}{s:Slot}(a:hasB m (ln h.Mons)=true):zeH (zcz h m p s).Mons=zeH h.Mons:=by rw[(zgZ h m p s).1];exact zzn a rfl
theorem z8Y {h:Host}{m p:Int}(a:hasB m (ln h.Mons)=true):zeH (zd5 h m p).Mons=zeH h.Mons:=(zzm (h:=zfp h m p)<|ze4 a).trans (zzn a rfl)
theorem z8X {h:Host}(b:Fit h):zeH (zdm h).Mons=zeH h.Mons:=by unfold zdm;cases a:ieq (ln<|zct h) 0;{rfl};{exact z8Y (zEi b a).1}
theorem zZC {h:Host}{m p:Int}(a:Fit h)(c:hasB m (ln h.Mons)=true):zeH (fetched h m p).Mons=zeH h.Mons:=by have b:=zqH a c;exact((zzm (h:=landing (zdm h) m p (ix (zct<|zdm h) 0 0))<|ze4 b).trans (zzn b rfl)).trans (z8X a)
theorem zTv {h:Host}{m p n:Int}(b:hasB m (ln h.Mons)=true):zeH (zke h m p n).Mons=zeH h.Mons:=by have a:zeH (zbJ h m p).Mons=zeH h.Mons:=zzn b rfl;unfold zke;cases ieq (wand .i64 n 2) 0;{unfold opened;cases ieq (wand .i64 (ix (ix (zbJ h m p).Mons m mZ).Outer p sZ).Rights 2) 0;{exact a};{exact(zzm (h:=zbJ h m p)<|ze4 b).trans a}};{rfl}
theorem z2c {h:Host}{m p n:Int}(b:Fit h)(a:hasB m (ln h.Mons)=true)(c:hasB p 8=true):zeH (mended h m p n).Mons=zeH h.Mons:=by unfold mended;cases ieq (ix (ix h.Mons m mZ).Outer p sZ).Page (-1);{exact zTv a};{exact(zTv (zkO b a c).2).trans (zZC b a)}
theorem zbak {l a:List Mon}(h:zeH a=zeH l):a.length=l.length:=by have:=congrArg List.length h;simpa [zeH] using this
abbrev kZ:Kept:=Ty.dflt .kept
theorem zbbl {x:Guest}(f:zdV x=true){p n:Int}(d:zeP x.Live p n=true):hasB (zcg x.Live p n) 8=true:=by have g:zdd x.Live 4 8=true:=(by unfold zdV at f;simp only[qE]at f;exact f.2.2.2.2.1);unfold zcg;rw[d];simp only[cT];unfold zeP at d;cases a:ieq (zbH x.Live p).Page (-1);{unfold zbH at a ⊢;cases e:hasB p (ln x.Live);{rw [e]at a;cases a};{rw [e]at a;simp only[cT]at a ⊢;unfold zdd at g;simp only[zdr]at g;have c:=qM.1 g.1 _ (zbK e sZ);unfold zed at c;cases b:zdb (ix x.Live p sZ) noSlot;{rw [b]at c;simp only[cF,zdr]at c;have:=zfA.1 c.2.1;rw[show wsub .i64 8 1=7 from rfl] at this;show hasB (ix x.Live p sZ).Page 8=true;exact qI (by omega)};{unfold zdb at b;rw[qE]at b;have:(ix x.Live p sZ).Page = -1:=qD b.1;rw[show ieq (ix x.Live p zW).Page (-1)=true from qI this]at a;cases a}}};{rw [a]at d;cases d}
def zcx (h:Host)(m g:Int):List Slot:=(ix (ix h.Mons m mZ).Guests g gZ).Live
def zb8 (h:Host)(m g:Int):Kept:=ix (ix h.Mons m mZ).Tables g kZ
def ztf (h:Host)(a:Bool):List Entry:=bif a then h.IoBuffer else h.Buffer
def zr2 (b:List Entry)(m g a:Int):Option Entry:=zzd b (zeh m g) a
def ziw (b:List Entry)(m g a c:Int):Bool:=bif (zr2 b m g a).isSome then enough ((zr2 b m g a).getD ⟨0,0,0,0⟩).Rights c else false
def zeN (h:Host)(m g a b:Int):Bool:=bif zkB (zb8 h m g) a then (cond (ieq (zeb (zb8 h m g) a).Page<|-1) true<|!enough (zeb (zb8 h m g) a).Rights b) else true
def zcB (h:Host)(m g a:Int):Host:={h with Mons:=up h.Mons m {ix h.Mons m mZ with Tables:=up (ix h.Mons m mZ).Tables g (filled (zb8 h m g) (zcx h m g) (ix h.Mons m mZ).Outer a)}}
def zSk (h:Host)(m g a:Int):Entry:=⟨zeh m g,a,(zeb (zb8 h m g) a).Page,(zeb (zb8 h m g) a).Rights⟩
def zv3 (h:Host)(m g a:Int)(b:Bool):Host:=bif b then {h with IoBuffer:=zo4 h.IoBuffer (zSk h m g a)} else {h with Buffer:=zo4 h.Buffer (zSk h m g a)}
def zeZ (h:Host)(m g a:Int)(b:Bool):Host×Int×Bool:=(zv3 h m g a b,(zeb (zb8 h m g) a).Page,true)
def zgI (h:Host)(b:List Entry)(m g a c q:Int)(d:Bool):Host×Int×Bool :=
 bif ziw b m g a c then (h,((zr2 b m g a).getD ⟨0,0,0,0⟩).Host,true)
 else (cond (zeN h m g a c) (zeZ (zcB (mended h m q c) m g a) m g a d)<|zeZ h m g a d)
def zgw (a:Int):Bool:=bif ieq a 1 then true else ieq a 2
def zb2 (h:Host)(m g page need:Int):Bool:=bif zbY h m g then (cond (zgw need) (zeP (zcx h m g) page need) false) else false
def lookOf (h:Host)(b:List Entry)(m g page need:Int)(io:Bool):Host×Int×Bool :=
 bif zb2 h m g page need then zgI (cond (ieq need 2) (zbJ h m<|zcg (zcx h m g) page need) h) b m g page need (zcg (zcx h m g) page need) io else (h,-1,false)
structure Kp (h r:Host):Prop where
 shape:Shape r
 gs:zeH r.Mons=zeH h.Mons
theorem Kp.has {h r:Host}(k:Kp h r){m:Int}(a:hasB m (ln h.Mons)=true):hasB m (ln r.Mons)=true:=by rw[ln,zbak k.gs];exact a
theorem z0I {h:Host}{m g c:Int}(d:Shape h)(e:hasB m (ln h.Mons)=true)(hg:hasB g (ln (ix h.Mons m mZ).Guests)=true):Shape (zcB h m g c):=by obtain⟨a,b⟩:=zcF d e;have f:hasB g (ln (ix h.Mons m mZ).Tables)=true:=(by rw[ln,b.2.2.2];exact hg);exact zi8 d ⟨a.1,a.2.1,a.2.2.1,a.2.2.2.1,a.2.2.2.2.1,zyI a.2.2.2.2.2<|z0N<|a.2.2.2.2.2.2 _<|zbK f _⟩ ⟨b.1,b.2.1,b.2.2.1,by simpa using b.2.2.2⟩
theorem z2k {h r:Host}{m g a:Int}{i:Bool}(k:Kp h r):Kp h (zv3 r m g a i):=by obtain⟨⟨b,c,d,e⟩,f⟩:=k.shape;unfold zv3;cases i;{exact⟨⟨⟨b,c,(zuM _ d).1,e⟩,f⟩,k.gs⟩};{exact⟨⟨⟨b,c,d,(zuM _ e).1⟩,f⟩,k.gs⟩}
structure LookAt (h:Host) (m g q need:Int):Prop where
 fit:Fit h
 hm:hasB m (ln h.Mons)=true
 hg:hasB g (ln (ix h.Mons m mZ).Guests)=true
 hq:hasB q 8=true
 hn:need=1\/need=2
 hs:SlotFit (ix (ix h.Mons m mZ).Outer q sZ)
theorem LookAt.mend {h:Host}{m g q a:Int}(A:LookAt h m g q a):z00 h m q a:=⟨A.fit,A.hm,A.hq,A.hn,A.hs⟩
theorem LookAt.kp {h:Host}{m g q a:Int}(A:LookAt h m g q a):Kp h (mended h m q a):=⟨(zva A.fit A.hm A.hq).1,z2c A.fit A.hm A.hq⟩
theorem LookAt.fill {h:Host}{m g q a:Int}(A:LookAt h m g q a)(b:Int):Kp h (zcB (mended h m q a) m g b):=by have k:=A.kp;have hg:hasB g (ln (ix (mended h m q a).Mons m mZ).Guests)=true:=(by rw[zJ5 k.gs];exact A.hg);have e:zeH (zcB (mended h m q a) m g b).Mons=zeH (mended h m q a).Mons:=zzn (k.has A.hm) rfl;exact⟨z0I k.shape (k.has A.hm) hg,e.trans k.gs⟩
theorem zTM {h:Host}{b:List Entry}{m g page a q:Int}{io:Bool}(A:LookAt h m g q a):Kp h (zgI h b m g page a q io).1:=by unfold zgI;cases ziw b m g page a;{cases zeN h m g page a;{exact z2k ⟨A.fit.1,rfl⟩};{exact z2k (A.fill page)}};{exact⟨A.fit.1,rfl⟩}
theorem zda {h:Host}{m g:Int}(a:zbY h m g=true):zck h=true/\hasB m (ln h.Mons)=true/\hasB g (ln (ix h.Mons m mZ).Guests)=true:=by unfold zbY at a;simp only[zdr]at a;exact a
theorem zZD {h:Host}{m g:Int}(e:zbY h m g=true):zdV (ix (ix h.Mons m mZ).Guests g gZ)=true:=by obtain⟨b,c,d⟩:=zda e;have a:=zhJ b _ (zbK c mZ);unfold ze0 at a;simp only[zdr]at a;exact qM.1 a.2.2.2.2.2.2.2.2.2.1 _ (zbK d _)
theorem zLw {n:Int}(h:zgw n=true):n=1\/n=2:=by unfold zgw at h;cases a:ieq n 1;{rw [a]at h;exact .inr (qD h)};{exact .inl (qD a)}
theorem zDa {h:Host}{m g page a:Int}(s:SmH h)(d:zb2 h m g page a=true) :
 LookAt h m g (zcg (zcx h m g) page a) a/\LookAt (zbJ h m<|zcg (zcx h m g) page a) m g (zcg (zcx h m g) page a) a:=by
 unfold zb2 at d;simp only[zdr]at d;obtain⟨l,p,r⟩:=d;obtain⟨i,b,j⟩:=zda l;have f:hasB (zcg (zcx h m g) page a) 8=true:=zbbl (zZD l) r;have c:=ztn (zhJ i _<|zbK b mZ) f;have q:=zf4 s i;refine⟨⟨q,b,j,f,zLw p,c⟩,⟨zWC q b,ze4 b,?_,f,zLw p,?_⟩⟩
 .have e:zeH (zbJ h m<|zcg (zcx h m g) page a).Mons=zeH h.Mons:=zzn b rfl;rw[zJ5 e];exact j
 .obtain⟨k,rfl,hk⟩:=zef (n:=h.Mons.length) b;unfold zbJ;rw[zel hk];exact c
theorem ztN {h:Host}{b:List Entry}{m g page need:Int}{io:Bool}(a:SmH h)(f:zbY h m g=true):Kp h (lookOf h b m g page need io).1:=by have d:=zf4 a (zda f).1;unfold lookOf;cases c:zb2 h m g page need;{exact⟨d.1,rfl⟩};{obtain⟨A,B⟩:=zDa a c;simp only[cT];cases ieq need 2;{exact zTM A};{have k:=zTM (b:=b) (page:=page) (io:=io) B;have e:zeH (zbJ h m<|zcg (zcx h m g) page need).Mons=zeH h.Mons:=zzn A.hm rfl;exact⟨k.shape,k.gs.trans e⟩}}
def zkg (x:Host×Int×Bool):List AV:=[.agg<|zbl x.1,.one<|.i .i64 x.2.1,.one<|.b x.2.2]
theorem zh5 {h:Host}{b:List Entry}{m g c a:Int}{e:Bool}(d:zb2 h m g c a=false):lookOf h b m g c a e=(h,-1,false):=by unfold lookOf;rw[d];rfl
theorem zon {h:Host}{m g b a:Int}(c:zbY h m g=false):zb2 h m g b a=false:=by unfold zb2;rw[c];rfl
theorem zMU {h:Host}{m g:Int}(a:zck h=false):zbY h m g=false:=by unfold zbY;rw[a];rfl
theorem zMV {h:Host}{m g:Int}(a:hasB m (ln h.Mons)=false):zbY h m g=false:=by unfold zbY;rw[a];cases zck h<;>rfl
theorem zMW {h:Host}{m g:Int}(a:hasB g (ln (ix h.Mons m mZ).Guests)=false):zbY h m g=false:=by unfold zbY;rw[a];cases zck h<;>cases hasB m (ln h.Mons)<;>rfl
theorem zMX {h:Host}{m g:Int}(a:zck h=true)(b:hasB m (ln h.Mons)=true)(c:hasB g (ln (ix h.Mons m mZ).Guests)=true):zbY h m g=true:=by unfold zbY;rw[a,b,c];rfl
structure LookF (r:Host) (m g:Int):Prop where
 hm:hasB m (ln r.Mons)=true
 hg:hasB g (ln (ix r.Mons m mZ).Guests)=true
 ht:hasB g (ln (ix r.Mons m mZ).Tables)=true
 hk:SmK (zb8 r m g)
 hb:r.Buffer.length<=1048576
 hi:r.IoBuffer.length<=1048576
theorem zmk {h r:Host}{m g:Int}(k:Kp h r)(b:hasB m (ln h.Mons)=true)(hg:hasB g (ln (ix h.Mons m mZ).Guests)=true):LookF r m g:=by obtain⟨d,e⟩:=zcF k.shape (k.has b);have a:hasB g (ln (ix r.Mons m mZ).Guests)=true:=(by rw[zJ5 k.gs];exact hg);have c:hasB g (ln (ix r.Mons m mZ).Tables)=true:=(by rw[ln,e.2.2.2];exact a);exact⟨k.has b,a,c,d.2.2.2.2.2.2 _<|zbK c _,k.shape.1.2.2.1,k.shape.1.2.2.2⟩
@[simp] abbrev zk2 (h:Host)(b:List Entry)(m g c a:Int)(d:Bool):Bool:=pc (zdI h)
@[simp] abbrev zfY (h:Host)(b:List Entry)(m g page need:Int)(io:Bool):Host:=(lookOf h b m g page need io).1
@[simp] abbrev zk1 (h:Host)(b:List Entry)(m g c a:Int)(d:Bool):Int:=(lookOf h b m g c a d).2.1
@[simp] abbrev zhY (h:Host)(b:List Entry)(m g c a:Int)(d:Bool):Bool:=(lookOf h b m g c a d).2.2
def zsQ:List AV->Option (Bool×List AV)
 |[.agg [.s (.sl .int) c,.s .mon d,.s .entry e,.s .entry f],.one<|.s .entry g,.one<|.i .i64 h,.one<|.i .i64 j,.one<|.i .i64 k,.one<|.i .i64 l,.one<|.b m]=>some (zk2 (⟨c,d,e,f⟩:Host) g h j k l m,[aH<|zfY (⟨c,d,e,f⟩:Host) g h j k l m,aI<|zk1 (⟨c,d,e,f⟩:Host) g h j k l m,aB<|zhY (⟨c,d,e,f⟩:Host) g h j k l m])
 |_=>none
abbrev zQK (b:lM)(c:lN)(d:lE)(e:lE)(a:Int)(g:Int)(f:Int):Mon :=
 (ix (zg8 (⟨b,c,d,e⟩:Host) a g f).Mons a zh)
abbrev zQL (a:Host)(b c:Int)(d e:Int):Int :=
 (zeR (ix (ix a.Mons b zh).Guests c zu).Live d e)
def zME (N:Nat)(a:Int)(b:lM)(c:lN)(d:lE)(e:lE):OA:=
 (some [aH (⟨b,c,d,e⟩:Host),aI a,aB true])
def zql (N:Nat)(l:Int)(m:Bool)(n:Int)(c:Int)(d:Int)(k:lM)(e:lN)(a:lE)(b:lE)(f:lM)(g:lN)(h:lE)(i:lE):OA:=
 let q:=(⟨n,l,c,d⟩:Entry); (share (λ(j:(Int×Int×lM×lN×lE×lE×lM×lN×lE×lE×Unit))=>zME N j.1 j.2.2.1 j.2.2.2.1 j.2.2.2.2.1 j.2.2.2.2.2.1) λp=>cond m (oN (zg5 b q)<|p (c,d,k,e,a,zgM b q,f,g,h,i,()))<|oN (zg5 a q)<|p (c,d,k,e,zgM a q,b,f,g,h,i,()))
def zsy (N:Nat)(d:lM)(e:lN)(f:lE)(g:lE)(b:Int)(i:Int)(h:Int)(a:Int)(c:Int)(y:(Int×Bool×Int×Int×Int×Int×Int×Int×Int×lM×lN×lE×lE×lM×lN×lE×lE×Unit)->OA)(r:Bool)(s:Int)(t:Int)(u:Int)(v:Int)(k:Int)(l:lM)(m:lN)(n:lE)(p:lE):OA:=
 let D:=(⟨d,e,f,g⟩:Host);let w:=zg8 D b i h;let x:=inb b<|ln w.Mons;let j:=zQK d e f g b i h;let C:=ix j.Tables a zeC;let A:=(ix j.Guests a zu).Live; (oN (zhW D b i h)<|oN x<|oN x<|oN (inb a<|ln j.Tables)<|oN x<|oN (inb a<|ln j.Guests)<|oN x<|oN (zuX C A j.Outer c)<|oN (inb a<|ln j.Tables)<|share (up w.Mons b ({j with Tables:=(up j.Tables a<|zuW C A j.Outer c)}:Mon)) (λq=>let B:=(ix q b zh).Tables;let z:=ix B a zeC; (oN (inb b<|ln q)<|oN (inb a<|ln B)<|oN (zdQ z c)<|y (c,r,s,t,u,v,k,(ziz z c).Page,(ziz z c).Rights,w.Memory,q,w.Buffer,w.IoBuffer,l,m,n,p,()))))
def zl4 (N:Nat)(d:Int)(e:Int)(c:Int)(n:Int)(p:Bool)(v:Int)(q:Int)(r:Int)(s:Int)(t:Int)(f:Int)(g:lM)(b:lN)(h:lE)(i:lE)(j:lM)(k:lN)(l:lE)(m:lE):OA:=
 let z:=(ix b d zh).Tables;let x:=ix z e zeC;let w:=ziz x c; (oN (inb d<|ln b)<|oN (inb e<|ln z)<|oN (zdQ x c)<|share (λ(a:(Int×Bool×Int×Int×Int×Int×Int×Int×Int×lM×lN×lE×lE×lM×lN×lE×lE×Unit))=>zql N a.1 a.2.1 a.2.2.1 a.2.2.2.2.2.2.2.1 a.2.2.2.2.2.2.2.2.1 a.2.2.2.2.2.2.2.2.2.1 a.2.2.2.2.2.2.2.2.2.2.1 a.2.2.2.2.2.2.2.2.2.2.2.1 a.2.2.2.2.2.2.2.2.2.2.2.2.1 a.2.2.2.2.2.2.2.2.2.2.2.2.2.1 a.2.2.2.2.2.2.2.2.2.2.2.2.2.2.1 a.2.2.2.2.2.2.2.2.2.2.2.2.2.2.2.1 a.2.2.2.2.2.2.2.2.2.2.2.2.2.2.2.2.1) (λu=>let y:=zsy N g b h i d v n e c u p q r s t f j k l m; (cond (nB<|zoq x c) y<|cond (ieq w.Page<|-1) y<|oN (zbA w.Rights n)<|cond (nB<|zcY w.Rights n) y<|u (c,p,q,r,s,t,f,w.Page,w.Rights,g,b,h,i,j,k,l,m,()))))
def zsz (N:Nat)(g:Int)(a:Host)(h e f:Int)(l:lE)(n:Bool):OA:=
 let i:=zkZ g h;let k:=zQL a g h e f;let m:=ix a.Mons g zh;let s:=(ix m.Guests h zu).Live;let d:=zgp l i e;let j:=d.Rights; (oN (inb g<|ln a.Mons)<|oN (inb h<|ln m.Guests)<|oN (zhl s e f)<|cond (nB<|zej s e f) (some [aH a,aI<|-1,aB false])<|oN (zhS g h)<|cond (ieq f 2) (oN (inb g<|ln a.Mons)<|oN (inb k<|ln m.Dirty)<|share (up a.Mons g ({m with Dirty:=(up m.Dirty k true)}:Mon)) λp=>oN (zhq l i e)<|share (λ(c:(Int×Int×Int×Int×Bool×Int×Int×Int×Int×Int×Int×lM×lN×lE×lE×lM×lN×lE×lE×Unit))=>zl4 N c.1 c.2.1 c.2.2.1 c.2.2.2.1 c.2.2.2.2.1 c.2.2.2.2.2.1 c.2.2.2.2.2.2.1 c.2.2.2.2.2.2.2.1 c.2.2.2.2.2.2.2.2.1 c.2.2.2.2.2.2.2.2.2.1 c.2.2.2.2.2.2.2.2.2.2.1 c.2.2.2.2.2.2.2.2.2.2.2.1 c.2.2.2.2.2.2.2.2.2.2.2.2.1 c.2.2.2.2.2.2.2.2.2.2.2.2.2.1 c.2.2.2.2.2.2.2.2.2.2.2.2.2.2.1 c.2.2.2.2.2.2.2.2.2.2.2.2.2.2.2.1 c.2.2.2.2.2.2.2.2.2.2.2.2.2.2.2.2.1 c.2.2.2.2.2.2.2.2.2.2.2.2.2.2.2.2.2.1 c.2.2.2.2.2.2.2.2.2.2.2.2.2.2.2.2.2.2.1) λr=>cond (zfr l i e) (oN (zbA j f)<|cond (zcY j f) (some [aH ({a with Mons:=p}:Host),aI d.Host,aB true])<|r (g,h,e,f,n,k,i,d.Tag,d.Page,d.Host,j,a.Memory,p,a.Buffer,a.IoBuffer,[],[],[],[],()))<|r (g,h,e,f,n,k,i,d.Tag,d.Page,d.Host,j,a.Memory,p,a.Buffer,a.IoBuffer,[],[],[],[],()))<|oN (zhq l i e)<|share (λ(b:(Int×Int×Int×Int×Bool×Int×Int×Int×Int×Int×Int×lM×lN×lE×lE×lM×lN×lE×lE×Unit))=>zl4 N b.1 b.2.1 b.2.2.1 b.2.2.2.1 b.2.2.2.2.1 b.2.2.2.2.2.1 b.2.2.2.2.2.2.1 b.2.2.2.2.2.2.2.1 b.2.2.2.2.2.2.2.2.1 b.2.2.2.2.2.2.2.2.2.1 b.2.2.2.2.2.2.2.2.2.2.1 b.2.2.2.2.2.2.2.2.2.2.2.1 b.2.2.2.2.2.2.2.2.2.2.2.2.1 b.2.2.2.2.2.2.2.2.2.2.2.2.2.1 b.2.2.2.2.2.2.2.2.2.2.2.2.2.2.1 b.2.2.2.2.2.2.2.2.2.2.2.2.2.2.2.1 b.2.2.2.2.2.2.2.2.2.2.2.2.2.2.2.2.1 b.2.2.2.2.2.2.2.2.2.2.2.2.2.2.2.2.2.1 b.2.2.2.2.2.2.2.2.2.2.2.2.2.2.2.2.2.2.1) λq=>cond (zfr l i e) (oN (zbA j f)<|cond (zcY j f) (some [aH a,aI d.Host,aB true])<|q (g,h,e,f,n,k,i,d.Tag,d.Page,d.Host,j,a.Memory,a.Mons,a.Buffer,a.IoBuffer,[],[],[],[],()))<|q (g,h,e,f,n,k,i,d.Tag,d.Page,d.Host,j,a.Memory,a.Mons,a.Buffer,a.IoBuffer,[],[],[],[],()))
def zq4 (N:Nat)(a:Host)(g:lE)(b c:Int)(h d:Int)(i:Bool):OA:=
 let f:=zsz N b a c h d g i;let e:=wsub .i64 (ln (ix a.Mons b zh).Guests) 1; (oN (zez a)<|cond (nB<|zeu a) (some [aH a,aI<|-1,aB false])<|oN (zO b 0<|wsub .i64 (ln a.Mons) 1)<|cond (nB<|zk b 0<|wsub .i64 (ln a.Mons) 1) (some [aH a,aI<|-1,aB false])<|oN (inb b<|ln a.Mons)<|oN (zO c 0 e)<|cond (nB<|zk c 0 e) (some [aH a,aI<|-1,aB false])<|cond (ine d 1) (cond (ine d 2) (some [aH a,aI<|-1,aB false]) f) f)
def zs4:=zx [(218,999999,{n:=0,tm:=[],lo:=[],ro:=[]}),(218,1007023,{n:=210,tm:=[(2,ti),(3,ti),(4,ti),(5,ti),(6,.b),(7,.lp 0 0),(14,.lp 1 0),(17,ti),(19,ti),(20,.lp 2 0)],lo:=[(0,[.sl 0 [],.sl 1 [],.sl 2 [],.sl 3 []]),(1,[.sl 4 [],.sl 5 [],.sl 6 [],.sl 7 []]),(2,[ti,ti,ti,ti])],ro:=[(0,.sl .int,true),(1,.mon,true),(2,.entry,true),(3,.entry,true),(4,.sl .int,true),(5,.mon,true),(6,.entry,true),(7,.entry,true)],kr:=1}),(218,1009011,{n:=210,tm:=[(4,ti),(6,.b),(7,.lp 0 0),(14,.lp 1 0),(19,ti),(20,.lp 2 0),(22,.lp 3 0)],lo:=[(0,[.sl 0 [],.sl 1 [],.sl 2 [],.sl 3 []]),(1,[.sl 4 [],.sl 5 [],.sl 6 [],.sl 7 []]),(2,[ti,ti,ti,ti]),(3,[ti,ti])],ro:=[(0,.sl .int,true),(1,.mon,true),(2,.entry,true),(3,.entry,true),(4,.sl .int,true),(5,.mon,true),(6,.entry,true),(7,.entry,true)],kr:=1}),(218,1005003,{n:=210,tm:=[(7,.lp 0 0),(14,.lp 1 0),(22,.lp 2 0)],lo:=[(0,[.sl 0 [],.sl 1 [],.sl 2 [],.sl 3 []]),(1,[.sl 4 [],.sl 5 [],.sl 6 [],.sl 7 []]),(2,[ti,ti])],ro:=[(0,.sl .int,true),(1,.mon,true),(2,.entry,true),(3,.entry,true),(4,.sl .int,true),(5,.mon,true),(6,.entry,true),(7,.entry,true)],kr:=1})]
theorem zOI (N:Nat)(a:Host)(b c:Int)(d e:Int)(f:Bool):zSl (cQ znz zoZ z0b z0U) zs4 N 12 218 [true,true,true,true,false,false,false,false,false,false] [(4,2)] 1 1 [[0],[1],[2],[4],[7]] .mon [aH a,aS .entry a.Buffer,aI b,aI c,aI d,aI e,aB f]=zq4 N a a.Buffer b c d e f:=by kernel_rfl
theorem zOJ (N:Nat)(a:Host)(b c:Int)(d e:Int)(f:Bool):zSl (cQ znz zoZ z0b z0U) zs4 N 12 218 [true,true,true,true,false,false,false,false,false,false] [(4,3)] 1 1 [[0],[1],[2],[4],[7]] .mon [aH a,aS .entry a.IoBuffer,aI b,aI c,aI d,aI e,aB f]=zq4 N a a.IoBuffer b c d e f:=by kernel_rfl
theorem zD8 {N:Nat}{r:Host}{m g a:Int}{b:Bool}{z1 z2 z3 z4}(c:r.Buffer.length<=1048576)(d:r.IoBuffer.length<=1048576) :
 zql N a b (zeh m g) (zeb (zb8 r m g) a).Page (zeb (zb8 r m g) a).Rights r.Memory r.Mons r.Buffer r.IoBuffer z1 z2 z3 z4=some (zkg<|zeZ r m g a b):=by
 unfold zql oN
 conv=>zeta
 refine shr ?_;cases b
 .exact zdp rfl (must (zbq c) rfl)
 .exact must rfl (must (zbq d) rfl)
theorem zTl {N:Nat}{r:Host}{m g a b q:Int}{c:Bool}{R:OA}{r11}{u6 u7 u8 u9 u10 z1 z2 z3 z4}(A:LookAt r m g q b)(d:r11 (a,c,u6,u7,u8,u9,u10,(zeb (zb8 (zcB (mended r m q b) m g a) m g) a).Page,(zeb (zb8 (zcB (mended r m q b) m g a) m g) a).Rights,(zcB (mended r m q b) m g a).Memory,(zcB (mended r m q b) m g a).Mons,(zcB (mended r m q b) m g a).Buffer,(zcB (mended r m q b) m g a).IoBuffer,z1,z2,z3,z4,())=R) :
 zsy N r.Memory r.Mons r.Buffer r.IoBuffer m q b g a r11 c u6 u7 u8 u9 u10 z1 z2 z3 z4=R:=by
 have M:=zmk A.kp A.hm A.hg;have F:=zmk (A.fill a) A.hm A.hg;unfold zsy oN
 conv=>zeta
 exact must (zbq A.mend) (must (zC M.hm)<|must (zC M.hm)<|must (zC M.ht)<|must (zC M.hm)<|must (zC M.hg)<|must (zC M.hm)<|must (zbq M.hk)<|must (zC M.ht)<|shr<|must (zC F.hm)<|must (zC F.ht)<|must (zbq F.hk) d)
theorem zYD {r:Host}{m g a b:Int}(h:zkB (zb8 r m g) a=false):zeN r m g a b=true:=by unfold zeN;rw[h];rfl
theorem zYE {r:Host}{m g a b:Int}(h:ieq (zeb (zb8 r m g) a).Page (-1)=true):zeN r m g a b=true:=by unfold zeN;rw[h];cases zkB (zb8 r m g) a<;>rfl
theorem zYF {r:Host}{m g a b:Int}(h:enough (zeb (zb8 r m g) a).Rights b=false):zeN r m g a b=true:=by unfold zeN;rw[h];cases zkB (zb8 r m g) a<;>cases ieq (zeb (zb8 r m g) a).Page (-1)<;>rfl
theorem zYG {r:Host}{m g a b:Int}(c:zkB (zb8 r m g) a=true)(d:ieq (zeb (zb8 r m g) a).Page (-1)=false)(e:enough (zeb (zb8 r m g) a).Rights b=true):zeN r m g a b=false:=by unfold zeN;rw[c,d,e];rfl
theorem ztO {r:Host}{m g a b q:Int}{c:Bool}(h:zeN r m g a b=true):(cond (zeN r m g a b) (zeZ (zcB (mended r m q b) m g a) m g a c)<|zeZ r m g a c)=zeZ (zcB (mended r m q b) m g a) m g a c:=by rw[h];rfl
theorem zYd {r:Host}{m g a b q:Int}{c:Bool}(h:zeN r m g a b=false):(cond (zeN r m g a b) (zeZ (zcB (mended r m q b) m g a) m g a c)<|zeZ r m g a c)=zeZ r m g a c:=by rw[h];rfl
theorem zD9 {N:Nat}{r:Host}{m g a b q:Int}{f:Bool}{u7 u8 u9 u10 z1 z2 z3 z4}(A:LookAt r m g q b) :
 zl4 N m g a b f q (zeh m g) u7 u8 u9 u10 r.Memory r.Mons r.Buffer r.IoBuffer z1 z2 z3 z4=some (zkg<|cond (zeN r m g a b) (zeZ (zcB (mended r m q b) m g a) m g a f)<|zeZ r m g a f):=by
 have M:=zmk ⟨A.fit.1,rfl⟩ A.hm A.hg;have F:=zmk (A.fill a) A.hm A.hg;unfold zl4 oN nB
 conv=>zeta
 refine must (zC M.hm) (must (zC M.ht)<|must (zbq M.hk)<|shr<|brN (λc=>?_) λc=>br (λd=>?_) λd=>must rfl (brN (λe=>?_) λe=>?_))
 .rw [ztO<|zYD c];exact zTl A (zD8 (r:=zcB (mended r m q b) m g a) (m:=m) (g:=g) F.hb F.hi)
 .rw [ztO<|zYE d];exact zTl A (zD8 (r:=zcB (mended r m q b) m g a) (m:=m) (g:=g) F.hb F.hi)
 .rw [ztO<|zYF e];exact zTl A (zD8 (r:=zcB (mended r m q b) m g a) (m:=m) (g:=g) F.hb F.hi)
 .rw [zYd<|zYG c d e];exact zD8 (r:=r) (m:=m) (g:=g) M.hb M.hi
theorem zEc {b:List Entry}{m g a c:Int}(h:(zr2 b m g a).isSome=false):ziw b m g a c=false:=by unfold ziw;rw[h];rfl
theorem zoj {b:List Entry}{m g a c:Int}{x:Bool}(d:(zr2 b m g a).isSome=true)(h:enough ((zr2 b m g a).getD ⟨0,0,0,0⟩).Rights c=x):ziw b m g a c=x:=by unfold ziw;rw[d,h];rfl
theorem zom {r:Host}{b:List Entry}{m g a c q:Int}{d:Bool}(h:ziw b m g a c=false):zgI r b m g a c q d=bif zeN r m g a c then zeZ (zcB (mended r m q c) m g a) m g a d else zeZ r m g a d:=by unfold zgI;rw[h];rfl
theorem zEf {r:Host}{b:List Entry}{m g a c q:Int}{d:Bool}(h:ziw b m g a c=true):zgI r b m g a c q d=(r,((zr2 b m g a).getD ⟨0,0,0,0⟩).Host,true):=by unfold zgI;rw[h];rfl
theorem zIg {h:Host}{b:List Entry}{m g c a:Int}{d:Bool}(e:zb2 h m g c a=true):lookOf h b m g c a d=zgI (cond (ieq a 2) (zbJ h m<|zcg (zcx h m g) c a) h) b m g c a (zcg (zcx h m g) c a) d:=by unfold lookOf;rw[e];rfl
theorem z1S {N:Nat}{r:Host}{b:List Entry}{m g c a:Int}{f:Bool}(p:SmH r)(hg:zbY r m g=true)(k:zgw a=true) :
 zsz N m r g c a b f=some (zkg (lookOf r b m g c a f)):=by
 obtain⟨q,h,l⟩:=zda hg;unfold zsz oN nB
 conv=>zeta
 refine must (zC h) (must (zC l) (must rfl (brN (fun j=>?_) (fun j=>must rfl ?_))))
 .have:zb2 r m g c a=false:=by
   unfold zb2;rw[hg,k,show zeP (zcx r m g) c a=false from j];rfl
  rw[zh5 this];rfl
 .have hl:zb2 r m g c a=true:=by
   unfold zb2;rw[hg,k,show zeP (zcx r m g) c a=true from j];rfl
  obtain⟨A,B⟩:=zDa p hl;rw[zIg hl];have n:hasB (zcg (zcx r m g) c a) (ln (ix r.Mons m mZ).Dirty)=true:=zdX (zcF A.fit.1 h).2.2.2.1 A.hq;refine br (fun i=>?_) (fun i=>?_)
  .rw [i]
   show _=some (zkg (zgI (zbJ r m (zcg (zcx r m g) c a)) b m g c a (zcg (zcx r m g) c a) f))
   refine must (zC h) (must (zC n) (shr (must rfl (shr (br (fun d=>must rfl (br (fun e=>?_) (fun e=>?_))) (fun d=>?_))))))
   .rw [zEf (zoj d e)];rfl
   .rw [zom (zoj d e)];exact zD9 (r:=zbJ r m (zcg (zcx r m g) c a)) B
   .rw [zom (zEc d)];exact zD9 (r:=zbJ r m (zcg (zcx r m g) c a)) B
  .rw [i]
   show _=some (zkg (zgI r b m g c a (zcg (zcx r m g) c a) f))
   refine must rfl (shr (br (fun d=>must rfl (br (fun e=>?_) (fun e=>?_))) (fun d=>?_)))
   .rw [zEf (zoj d e)];rfl
   .rw [zom (zoj d e)];exact zD9 A
   .rw [zom (zEc d)];exact zD9 A
theorem zRR (a:Host)(f:List Entry)(b c:Int)(e d:Int)(g:Bool)(t:zbL big [aH a,aS .entry f,aI b,aI c,aI e,aI d,aB g])(r:zk2 a f b c e d g=true):∃N,zq4 N a f b c e d g=some [aH<|zfY a f b c e d g,aI<|zk1 a f b c e d g,aB<|zhY a f b c e d g]:=by
 have j:=(zU a).1 (zQ.1 r);refine⟨0,?_⟩;show _=some (zkg<|lookOf a f b c e d g);unfold zq4 oN nB;conv=>zeta
 refine must rfl (brN (λk=>?_) λk=>must rfl ?_);{rw [zh5<|zon<|zMU k];rfl};rw[show zk b 0 (wsub .i64 (ln a.Mons) 1)=hasB b (ln a.Mons) from zq2 j.2.1.1 b];refine brN (λi=>?_) (λi=>must (zC i) (must rfl ?_));{rw [zh5<|zon<|zMV i];rfl};have s:(ix a.Mons b mZ).Guests.length<=1048576:=(j.2.1.2 _<|zbK i _).2.2.2.1.1;rw[show zk c 0 (wsub .i64 (ln (ix a.Mons b zh).Guests) 1)=hasB c (ln (ix a.Mons b mZ).Guests) from zq2 s c];refine brN (λl=>?_) (λl=>?_);{rw [zh5<|zon<|zMW l];rfl};have hg:=zMX k i l;have p:∀{n:Int},zgw n=false->zb2 a b c e n=false:=λ{n} h=>(by unfold zb2;rw[hg,h];rfl);rw[zmg,zmg];cases m:ieq d 1;{cases q:ieq d 2;{have:zgw d=false:=(by unfold zgw;rw[m,q];rfl);rw[zh5<|p this];rfl};{exact z1S j hg (by unfold zgw;rw[m,q];rfl)}};{exact z1S j hg (by unfold zgw;rw[m];rfl)}
theorem zKU:zeF Tryz.prog 218 [true,true,true,true,false,false,false,false,false,false] (some (1,1,[[0],[1],[2],[4],[7]])) zsQ:=by refine zMY (kt:=.mon) (zhb zia zA zcc zyM) (zje (by kernel_rfl)) ?_;intro p s x f i w v h;have t:=zjk v;have g:p=[(4,2)]\/p=[(4,3)]:=(by rw[show ziE 218=[[(4,2)],[(4,3)]] from by kernel_rfl]at f;simpa using f);unfold zsQ at h;split at h;{rename_i a b c d r j k l m n;obtain⟨u,rfl⟩:=zet h;obtain⟨N,q⟩:=zRR (⟨a,b,c,d⟩:Host) r j k l m n t u;refine⟨⟨_,rfl⟩,rfl,zs4,N,12,?_⟩;rcases g with rfl|rfl;{have e:=i 4 2 (by simp);simp only[zD,j8,AV.cvs] at e;cases e;exact(zOI N (⟨a,b,c,d⟩:Host) j k l m n).trans q};{have e:=i 4 3 (by simp);simp only[zD,j8,AV.cvs] at e;cases e;exact(zOJ N (⟨a,b,c,d⟩:Host) j k l m n).trans q}};{cases h}
def z5U:zfL:=[(218,[true,true,true,true,false,false,false,false,false,false],some (1,1,[[0],[1],[2],[4],[7]]),zsQ)]++z0U
theorem zhi:zex z5U:=zqZ zyM (by
 intro x a;simp only[qG,qN,or_false]at a;rcases a with rfl
 .exact zKU)
def gOf (h:Host)(m g:Int):Guest:=ix (ix h.Mons m mZ).Guests g gZ
def zgs (h:Host)(m g:Int)(x:Guest):Host:={h with Mons:=up h.Mons m {ix h.Mons m mZ with Guests:=up (ix h.Mons m mZ).Guests g x}}
def ziq (h:Host)(m g:Int)(x:Guest)(w:Bool):Host×Int×Bool:=lookOf h h.Buffer m g (zbk<|address x) (zca w) false
def zhu (L:Host×Int×Bool)(m g:Int)(x:Guest)(w:Bool):Host :=
 bif L.2.2 then (cond w (zgs {L.1 with Memory:=zbQ L.1.Memory L.2.1 (zdx<|address x) x.A} m g<|zb7 x)<|zgs L.1 m g<|loaded x<|cellAt L.1.Memory L.2.1<|zdx<|address x)
 else zgs L.1 m g (stopped x<|zr0 (zbk<|address x) w)
def owned (h:Host)(m:Int):Host:=bif ilt (ix h.Mons m mZ).Own 1000000000 then {h with Mons:=up h.Mons m {ix h.Mons m mZ with Own:=zM .i64 (ix h.Mons m mZ).Own 1}} else h
def zif (h:Host)(m n:Int):Host:=bif ilt (ln (ix h.Mons m mZ).Outs) 40 then {h with Mons:=up h.Mons m {ix h.Mons m mZ with Outs:=ap (ix h.Mons m mZ).Outs [n]}} else h
def zeE (h:Host)(m:Int)(x:Guest)(w:Int):Host:=bif (cond (ine w 6) (ieq (zmT (ix h.Mons m mZ).Traps x.Ctl.Traps<|zfJ w) 2) false) then owned h m else h
def zgU (h:Host)(m:Int)(x:Guest)(w:Int):Host:=bif (cond (zhj x.Ctl.Traps w) (ieq w 5) false) then zif h m (zci x.Prog x.Pc).X else h
def zkw (h:Host)(m g:Int)(x:Guest)(w:Int):Host:=zgs (zgU (zeE h m x w) m x w) m g (zfK x x.Ctl.Traps w)
def zMe (h:Host)(m g:Int)(x:Guest)(w:Int):Host×Bool :=
 bif ieq w 0 then (h,false) else (bif ieq w 1 then (zgs h m g<|interrupted x,true) else (bif ieq w 2 then (zgs h m g<|plainly x,true) else
  (cond (cond (ieq w 3) true<|ieq w 4) (zhu (ziq h m g x<|ieq w 4) m g x<|ieq w 4,true) (zkw h m g x w,true))))
def zbg (h:Host)(m g:Int):Host×Bool:=bif zbY h m g then zMe h m g (gOf h m g) (zL<|gOf h m g) else (h,false)
def zev (x:Host×Bool):List AV:=[.agg<|zbl x.1,.one<|.b x.2]
theorem zkP {h:Host}{m g:Int}(b:SmH h)(a:hasB m (ln h.Mons)=true)(hg:hasB g (ln (ix h.Mons m mZ).Guests)=true):SmG (gOf h m g):=(b.2.1.2 _<|zbK a _).2.2.2.1.2 _ (zbK hg _)
theorem z0J {h:Host}{m g:Int}{x:Guest}(c:Shape h)(d:hasB m (ln h.Mons)=true)(e:SmG x):Shape (zgs h m g x):=by obtain⟨a,b⟩:=zcF c d;exact zi8 c ⟨a.1,a.2.1,a.2.2.1,zEn a.2.2.2.1 e,a.2.2.2.2⟩ ⟨b.1,b.2.1,b.2.2.1,by simpa using b.2.2.2⟩
theorem zbaz (o i t:Int):ieq (zmT o i t) 1=zdW i t:=by unfold zmT;cases zdW i t;{cases zdW o t<;>rfl};{rfl}
theorem zbaA {o i t:Int}(h:zdW i t=true):ieq (zmT o i t) 2=false:=by unfold zmT;rw[h];rfl
theorem zo0 {h:Host}{m:Int}(b:hasB m (ln h.Mons)=true)(x:Mon):ix (up h.Mons m x) m mZ=x:=by obtain⟨k,rfl,a⟩:=zef (n:=h.Mons.length) b;exact zel a _ _
@[simp] abbrev zcl (h:Host)(m g:Int):Host:=(zbg h m g).1
@[simp] abbrev zcm (h:Host)(m g:Int):Bool:=(zbg h m g).2
theorem zSm {a:Type}{l:List a}{x:a}(h:ilt (ln l) 40=true):few (ln<|ap l [x])=true:=by have:=qD h;simp only[ln] at this;exact zgu (by simp[ap];omega)
theorem zYJ {h:Host}{m:Int}{x:Guest}{w:Int}(a:(cond (zhj x.Ctl.Traps w) (ieq w 5) false)=false):zgU h m x w=h:=by unfold zgU;rw[a];rfl
theorem zQF {h:Host}{m:Int}{x:Guest}{w:Int}(a:ilt (ln (ix h.Mons m mZ).Outs) 40=false):zgU h m x w=h:=by unfold zgU zif;rw[a];cases (cond (zhj x.Ctl.Traps w) (ieq w 5) false)<;>rfl
theorem zVO {h:Host}{m:Int}{x:Guest}{w:Int}(a:zhj x.Ctl.Traps w=true)(b:ieq w 5=true)(c:ilt (ln (ix h.Mons m mZ).Outs) 40=true):zgU h m x w={h with Mons:=up h.Mons m {ix h.Mons m mZ with Outs:=ap (ix h.Mons m mZ).Outs [(zci x.Prog x.Pc).X]}}:=by unfold zgU zif;rw[a,b,c];rfl
theorem zMl {h:Host}{m:Int}{x:Guest}{w:Int}(a:zhj x.Ctl.Traps w=false):zgU h m x w=h:=zYJ (by rw[a];rfl)
theorem zDR {h:Host}{m:Int}{x:Guest}{w:Int}(a:ieq w 5=false):zgU h m x w=h:=zYJ (by rw[a];cases zhj x.Ctl.Traps w<;>rfl)
theorem zKZ (a:Int):(cond (ieq a a) true false)=true:=by rw[zeJ];rfl
theorem ziB {h:Host}{m g:Int}(a:zbY h m g=false):zbg h m g=(h,false):=by unfold zbg;rw[a];rfl
theorem zi9 {h:Host}{m g:Int}(a:zbY h m g=true):zbg h m g=zMe h m g (gOf h m g) (zL<|gOf h m g):=by unfold zbg;rw[a];rfl
theorem zmP {a b:Bool}(h:(cond a b false)=true):a=true/\b=true:=by cases a;{cases h};{exact⟨rfl,h⟩}
theorem zjd {a b:Bool}(c:a=true)(d:b=true):(cond a b false)=true:=by rw[c];exact d
theorem zYM {h:Host}{m:Int}{x:Guest}{w:Int}(b:ine w 6=true)(a:ieq (zmT (ix h.Mons m mZ).Traps x.Ctl.Traps<|zfJ w) 2=true)(c:ilt (ix h.Mons m mZ).Own 1000000000=true):zeE h m x w={h with Mons:=up h.Mons m {ix h.Mons m mZ with Own:=zM .i64 (ix h.Mons m mZ).Own 1}}:=by unfold zeE owned;rw[b,a,c];rfl
theorem zYK {h:Host}{m:Int}{x:Guest}{w:Int}(a:ieq (zmT (ix h.Mons m mZ).Traps x.Ctl.Traps<|zfJ w) 2=false):zeE h m x w=h:=by unfold zeE;rw[a];cases ine w 6<;>rfl
theorem zYL {h:Host}{m:Int}{x:Guest}{w:Int}(a:ilt (ix h.Mons m mZ).Own 1000000000=false):zeE h m x w=h:=by unfold zeE owned;rw[a];cases (cond (ine w 6) (ieq (zmT (ix h.Mons m mZ).Traps x.Ctl.Traps<|zfJ w) 2) false)<;>rfl
theorem z9F {h:Host}{m:Int}{x:Guest}:zeE h m x 6=h:=rfl
theorem zoe {h a:Host}{m g:Int}{x:Guest}{w:Int}(e:zeE h m x w=a):zkw h m g x w=zgs (zgU a m x w) m g (zfK x x.Ctl.Traps w):=by unfold zkw;rw[e]
theorem z5W (x:Guest):ieq (zL x) 0=true\/ieq (zL x) 1=true\/ieq (zL x) 2=true\/ieq (zL x) 3=true\/ieq (zL x) 4=true\/ieq (zL x) 5=true\/ieq (zL x) 6=true\/ieq (zL x) 7=true:=by cases a:ieq (zL x) 0;{cases b:ieq (zL x) 1;{cases c:ieq (zL x) 2;{cases d:ieq (zL x) 3;{cases e:ieq (zL x) 4;{cases f:ieq (zL x) 5;{cases g:ieq (zL x) 6;{exact .inr (.inr<|.inr<|.inr<|.inr<|.inr<|.inr<|z0W x a b c d e f g)};{exact .inr (.inr<|.inr<|.inr<|.inr<|.inr (.inl rfl))}};{exact .inr (.inr<|.inr<|.inr<|.inr (.inl rfl))}};{exact .inr (.inr<|.inr<|.inr (.inl rfl))}};{exact .inr (.inr<|.inr (.inl rfl))}};{exact .inr (.inr (.inl rfl))}};{exact .inr (.inl rfl)}};{exact .inl rfl}
abbrev zA8 (x:Guest):Bool:=bif zbs x then ieq (zL x) 0 else false
def zpr:List AV->Option (Bool×List AV)
 |[.agg [.s .ins c,.i .i64 d,.i .i64 e,.s .slot f,.s .slot g,.i .i64 h,.i .i64 j,.b k,.i .i64 l,.i .i64 m,.i .i64 n,.b o,.i .i64 p,.b q,.s .int r]]=>some (zA8 (⟨c,d,e,f,g,⟨h,j,k⟩,l,⟨m,n,o,p⟩,q,r⟩:Guest),[.one<|.i .i64 0])
 |_=>none
theorem zEM:vM 204 zpr:=by refine⟨zcv.1,λw b g j a h=>?_⟩;unfold zpr at h;split at h;{obtain⟨f,rfl⟩:=zet h;obtain⟨d,e⟩:=zmP f;exact zcv.2 w _ g _ a (congr (congrArg (λc v=>some (c,[AV.one<|CV.i .i64 v])) d) (qD e))};{cases h}
def z8z:zbb:=[(204,zpr)]++znz
theorem zZb:zS z8z:=zi zEM zia
@[simp] abbrev zwi (h:Host)(m g:Int):Bool:=bif zcT h m g then ieq (zL<|gOf h m g) 0 else false
def zFb:Run:=rF3 dH dI dI λb c d=>(zwi b c d,[aH<|zcl b c d,aB<|zcm b c d])
def zvi (N:Nat)(d:Host)(b c:Int):OA:=
 let a:=zl d;let e:=(ix a.Mons b zh).Guests; (oN (zbC d)<|oN (zcT a b c)<|cond (nB<|zjT a b c) (some [aH a,aB false])<|oN (inb b<|ln a.Mons)<|oN (inb c<|ln e)<|oN (zA8<|ix e c zu)<|some [aH a,aB false])
abbrev zA9 (x:Guest):Bool:=bif zbs x then ieq (zL x) 1 else false
def zps:List AV->Option (Bool×List AV)
 |[.agg [.s .ins c,.i .i64 d,.i .i64 e,.s .slot f,.s .slot g,.i .i64 h,.i .i64 j,.b k,.i .i64 l,.i .i64 m,.i .i64 n,.b o,.i .i64 p,.b q,.s .int r]]=>some (zA9 (⟨c,d,e,f,g,⟨h,j,k⟩,l,⟨m,n,o,p⟩,q,r⟩:Guest),[.one<|.i .i64 1])
 |_=>none
theorem zEN:vM 204 zps:=by refine⟨zcv.1,λw b g j a h=>?_⟩;unfold zps at h;split at h;{obtain⟨f,rfl⟩:=zet h;obtain⟨d,e⟩:=zmP f;exact zcv.2 w _ g _ a (congr (congrArg (λc v=>some (c,[AV.one<|CV.i .i64 v])) d) (qD e))};{cases h}
def z8A:zbb:=[(204,zps)]++znz
theorem zZc:zS z8A:=zi zEN zia
@[simp] abbrev zwj (h:Host)(m g:Int):Bool:=bif zcT h m g then ieq (zL<|gOf h m g) 1 else false
def zFc:Run:=rF3 dH dI dI λb c d=>(zwj b c d,[aH<|zcl b c d,aB<|zcm b c d])
def zvj (N:Nat)(f:Host)(b c:Int):OA:=
 let a:=zl f;let d:=ix a.Mons b zh;let e:=ix d.Guests c zu; (oN (zbC f)<|oN (zcT a b c)<|cond (nB<|zjT a b c) (some [aH a,aB false])<|oN (inb b<|ln a.Mons)<|oN (inb c<|ln d.Guests)<|oN (zA9 e)<|oN (inb b<|ln a.Mons)<|oN (zN e)<|oN (inb c<|ln d.Guests)<|share (up a.Mons b ({d with Guests:=(up d.Guests c<|zeU e)}:Mon)) λg=>some [aH ({a with Mons:=g}:Host),aB true])
abbrev zBa (x:Guest):Bool:=bif zbs x then ieq (zL x) 2 else false
def zpt:List AV->Option (Bool×List AV)
 |[.agg [.s .ins c,.i .i64 d,.i .i64 e,.s .slot f,.s .slot g,.i .i64 h,.i .i64 j,.b k,.i .i64 l,.i .i64 m,.i .i64 n,.b o,.i .i64 p,.b q,.s .int r]]=>some (zBa (⟨c,d,e,f,g,⟨h,j,k⟩,l,⟨m,n,o,p⟩,q,r⟩:Guest),[.one<|.i .i64 2])
 |_=>none
theorem zEO:vM 204 zpt:=by refine⟨zcv.1,λw b g j a h=>?_⟩;unfold zpt at h;split at h;{obtain⟨f,rfl⟩:=zet h;obtain⟨d,e⟩:=zmP f;exact zcv.2 w _ g _ a (congr (congrArg (λc v=>some (c,[AV.one<|CV.i .i64 v])) d) (qD e))};{cases h}
def z8B:zbb:=[(204,zpt)]++znz
theorem zZd:zS z8B:=zi zEO zia
@[simp] abbrev zwk (h:Host)(m g:Int):Bool:=bif zcT h m g then ieq (zL<|gOf h m g) 2 else false
def zFd:Run:=rF3 dH dI dI λb c d=>(zwk b c d,[aH<|zcl b c d,aB<|zcm b c d])
def zvk (N:Nat)(f:Host)(b c:Int):OA:=
 let a:=zl f;let d:=ix a.Mons b zh;let e:=ix d.Guests c zu; (oN (zbC f)<|oN (zcT a b c)<|cond (nB<|zjT a b c) (some [aH a,aB false])<|oN (inb b<|ln a.Mons)<|oN (inb c<|ln d.Guests)<|oN (zBa e)<|oN (inb b<|ln a.Mons)<|oN (zN e)<|oN (inb c<|ln d.Guests)<|share (up a.Mons b ({d with Guests:=(up d.Guests c<|zhK e)}:Mon)) λg=>some [aH ({a with Mons:=g}:Host),aB true])
abbrev zBb (x:Guest):Bool:=bif zbs x then ieq (zL x) 3 else false
def zpu:List AV->Option (Bool×List AV)
 |[.agg [.s .ins c,.i .i64 d,.i .i64 e,.s .slot f,.s .slot g,.i .i64 h,.i .i64 j,.b k,.i .i64 l,.i .i64 m,.i .i64 n,.b o,.i .i64 p,.b q,.s .int r]]=>some (zBb (⟨c,d,e,f,g,⟨h,j,k⟩,l,⟨m,n,o,p⟩,q,r⟩:Guest),[.one<|.i .i64 3])
 |_=>none
theorem zEP:vM 204 zpu:=by refine⟨zcv.1,λw b g j a h=>?_⟩;unfold zpu at h;split at h;{obtain⟨f,rfl⟩:=zet h;obtain⟨d,e⟩:=zmP f;exact zcv.2 w _ g _ a (congr (congrArg (λc v=>some (c,[AV.one<|CV.i .i64 v])) d) (qD e))};{cases h}
def z8C:zbb:=[(204,zpu)]++znz
theorem zZe:zS z8C:=zi zEP zia
@[simp] abbrev zwl (h:Host)(m g:Int):Bool:=bif zcT h m g then ieq (zL<|gOf h m g) 3 else false
def zFe:Run:=rF3 dH dI dI λb c d=>(zwl b c d,[aH<|zcl b c d,aB<|zcm b c d])
def zvl (N:Nat)(m:Host)(a b:Int):OA:=
 let c:=zl m;let n:=(ix c.Mons a zh).Guests;let h:=ix n b zu;let f:=zg2 h;let g:=zb0 f;let l:=zk1 c c.Buffer a b g (zc8 false) false;let d:=zfY c c.Buffer a b g (zc8 false) false;let e:=ix d.Mons a zh;let j:=ix e.Guests b zu;let i:=({h with Prog:=j.Prog,Written:=j.Written,Live:=j.Live,Seen:=j.Seen}:Guest); (oN (zbC m)<|oN (zcT c a b)<|cond (nB<|zjT c a b) (some [aH c,aB false])<|oN (inb a<|ln c.Mons)<|oN (inb b<|ln n)<|oN (zBb h)<|oN (zbs h)<|oN (zbX f)<|oN (zkn false)<|oN (zk2 c c.Buffer a b g (zc8 false) false)<|cond (nB<|zhY c c.Buffer a b g (zc8 false) false) (oN (inb a<|ln d.Mons)<|oN (zbX f)<|oN (zgo g false)<|oN (zcO i<|zeq g false)<|oN (inb b<|ln e.Guests)<|share (up d.Mons a ({e with Guests:=(up e.Guests b<|zcy i<|zeq g false)}:Mon)) λk=>some [aH ({d with Mons:=k}:Host),aB true])<|oN (inb a<|ln d.Mons)<|oN (zbX f)<|oN (zfv d.Memory l<|zdf f)<|oN (zmA i<|zgB d.Memory l<|zdf f)<|oN (inb b<|ln e.Guests)<|share (up d.Mons a ({e with Guests:=(up e.Guests b<|zkl i<|zgB d.Memory l<|zdf f)}:Mon)) λk=>some [aH ({d with Mons:=k}:Host),aB true])
abbrev zBc (x:Guest):Bool:=bif zbs x then ieq (zL x) 4 else false
def zpv:List AV->Option (Bool×List AV)
 |[.agg [.s .ins c,.i .i64 d,.i .i64 e,.s .slot f,.s .slot g,.i .i64 h,.i .i64 j,.b k,.i .i64 l,.i .i64 m,.i .i64 n,.b o,.i .i64 p,.b q,.s .int r]]=>some (zBc (⟨c,d,e,f,g,⟨h,j,k⟩,l,⟨m,n,o,p⟩,q,r⟩:Guest),[.one<|.i .i64 4])
 |_=>none
theorem zEQ:vM 204 zpv:=by refine⟨zcv.1,λw b g j a h=>?_⟩;unfold zpv at h;split at h;{obtain⟨f,rfl⟩:=zet h;obtain⟨d,e⟩:=zmP f;exact zcv.2 w _ g _ a (congr (congrArg (λc v=>some (c,[AV.one<|CV.i .i64 v])) d) (qD e))};{cases h}
def z8D:zbb:=[(204,zpv)]++znz
theorem zZf:zS z8D:=zi zEQ zia
@[simp] abbrev zwm (h:Host)(m g:Int):Bool:=bif zcT h m g then ieq (zL<|gOf h m g) 4 else false
def zFf:Run:=rF3 dH dI dI λb c d=>(zwm b c d,[aH<|zcl b c d,aB<|zcm b c d])
def zvm (N:Nat)(l:Host)(a b:Int):OA:=
 let c:=zl l;let n:=(ix c.Mons a zh).Guests;let g:=ix n b zu;let h:=zg2 g;let f:=zb0 h;let m:=zk1 c c.Buffer a b f (zc8 true) false;let d:=zfY c c.Buffer a b f (zc8 true) false;let e:=ix d.Mons a zh;let j:=ix e.Guests b zu;let i:=({g with Prog:=j.Prog,Written:=j.Written,Live:=j.Live,Seen:=j.Seen}:Guest); (oN (zbC l)<|oN (zcT c a b)<|cond (nB<|zjT c a b) (some [aH c,aB false])<|oN (inb a<|ln c.Mons)<|oN (inb b<|ln n)<|oN (zBc g)<|oN (zbs g)<|oN (zbX h)<|oN (zkn true)<|oN (zk2 c c.Buffer a b f (zc8 true) false)<|cond (nB<|zhY c c.Buffer a b f (zc8 true) false) (oN (inb a<|ln d.Mons)<|oN (zbX h)<|oN (zgo f true)<|oN (zcO i<|zeq f true)<|oN (inb b<|ln e.Guests)<|share (up d.Mons a ({e with Guests:=(up e.Guests b<|zcy i<|zeq f true)}:Mon)) λk=>some [aH ({d with Mons:=k}:Host),aB true])<|oN (zbX h)<|oN (zfk d.Memory m (zdf h) g.A)<|oN (inb a<|ln d.Mons)<|oN (zN i)<|oN (inb b<|ln e.Guests)<|share (up d.Mons a ({e with Guests:=(up e.Guests b<|zch i)}:Mon)) λk=>some [aH ({d with Memory:=(zft d.Memory m (zdf h) g.A),Mons:=k}:Host),aB true])
abbrev zBd (x:Guest):Bool:=bif zbs x then ieq (zL x) 5 else false
def zpw:List AV->Option (Bool×List AV)
 |[.agg [.s .ins c,.i .i64 d,.i .i64 e,.s .slot f,.s .slot g,.i .i64 h,.i .i64 j,.b k,.i .i64 l,.i .i64 m,.i .i64 n,.b o,.i .i64 p,.b q,.s .int r]]=>some (zBd (⟨c,d,e,f,g,⟨h,j,k⟩,l,⟨m,n,o,p⟩,q,r⟩:Guest),[.one<|.i .i64 5])
 |_=>none
theorem zER:vM 204 zpw:=by refine⟨zcv.1,λw b g j a h=>?_⟩;unfold zpw at h;split at h;{obtain⟨f,rfl⟩:=zet h;obtain⟨d,e⟩:=zmP f;exact zcv.2 w _ g _ a (congr (congrArg (λc v=>some (c,[AV.one<|CV.i .i64 v])) d) (qD e))};{cases h}
def z8E:zbb:=[(204,zpw)]++znz
theorem zZg:zS z8E:=zi zER zia
@[simp] abbrev zwn (h:Host)(m g:Int):Bool:=bif zcT h m g then ieq (zL<|gOf h m g) 5 else false
def zFg:Run:=rF3 dH dI dI λb c d=>(zwn b c d,[aH<|zcl b c d,aB<|zcm b c d])
def zvn (N:Nat)(x:Host)(a e:Int):OA:=
 let d:=zl x;let f:=inb a<|ln d.Mons;let g:=ix d.Mons a zh;let j:=inb e<|ln g.Guests;let c:=ix g.Guests e zu;let w:=ap g.Outs [(zdF c.Prog c.Pc).X];let s:=up d.Mons a ({g with Outs:=w}:Mon);let h:=c.Ctl.Traps;let v:=up d.Mons a ({g with Guests:=(up g.Guests e<|zcs c h 5)}:Mon); (oN (zbC x)<|oN (zcT d a e)<|cond (nB<|zjT d a e) (some [aH d,aB false])<|oN f<|oN j<|oN (zBd c)<|oN f<|oN (znp g.Traps h 1)<|cond (ieq (zj0 g.Traps h 1) 2) (oN f<|cond (ilt g.Own 1000000000) (oN f<|oN f<|share (up d.Mons a ({g with Own:=(zM .i64 g.Own 1)}:Mon)) (λb=>let k:=inb a<|ln b;let l:=ix b a zh;let q:=ix l.Guests e zu;let t:=ap l.Outs [(zdF q.Prog c.Pc).X];let u:=({c with Prog:=q.Prog,Written:=q.Written,Live:=q.Live,Seen:=q.Seen}:Guest);let r:=up b a ({l with Guests:=(up l.Guests e<|zcs u h 5)}:Mon); (oN (zer u h 5)<|cond (zdU u h 5) (oN k<|cond (ilt (ln l.Outs) 40) (oN k<|oN (zdN q.Prog c.Pc)<|oN (few<|ln t)<|oN k<|oN (cond (ieq a a) true false)<|share (up b a ({l with Outs:=t}:Mon)) (λi=>let m:=ix i a zh; (oN (inb a<|ln i)<|oN (inb e<|ln m.Guests)<|share (up i a ({m with Guests:=(up m.Guests e<|zcs u h 5)}:Mon)) λy=>some [aH ({d with Mons:=y}:Host),aB true])))<|oN k<|oN (inb e<|ln l.Guests)<|share r λi=>some [aH ({d with Mons:=i}:Host),aB true])<|oN k<|oN (inb e<|ln l.Guests)<|share r λi=>some [aH ({d with Mons:=i}:Host),aB true])))<|oN (zer c h 5)<|cond (zdU c h 5) (oN f<|cond (ilt (ln g.Outs) 40) (oN f<|oN (zdN c.Prog c.Pc)<|oN (few<|ln w)<|oN f<|oN (cond (ieq a a) true false)<|share s (λb=>let n:=ix b a zh; (oN (inb a<|ln b)<|oN (inb e<|ln n.Guests)<|share (up b a ({n with Guests:=(up n.Guests e<|zcs c h 5)}:Mon)) λi=>some [aH ({d with Mons:=i}:Host),aB true])))<|oN f<|oN j<|share v λb=>some [aH ({d with Mons:=b}:Host),aB true])<|oN f<|oN j<|share v λb=>some [aH ({d with Mons:=b}:Host),aB true])<|oN (zer c h 5)<|cond (zdU c h 5) (oN f<|cond (ilt (ln g.Outs) 40) (oN f<|oN (zdN c.Prog c.Pc)<|oN (few<|ln w)<|oN f<|oN (cond (ieq a a) true false)<|share s (λb=>let p:=ix b a zh; (oN (inb a<|ln b)<|oN (inb e<|ln p.Guests)<|share (up b a ({p with Guests:=(up p.Guests e<|zcs c h 5)}:Mon)) λi=>some [aH ({d with Mons:=i}:Host),aB true])))<|oN f<|oN j<|share v λb=>some [aH ({d with Mons:=b}:Host),aB true])<|oN f<|oN j<|share v λb=>some [aH ({d with Mons:=b}:Host),aB true])
abbrev zBe (x:Guest):Bool:=bif zbs x then ieq (zL x) 6 else false
def zpx:List AV->Option (Bool×List AV)
 |[.agg [.s .ins c,.i .i64 d,.i .i64 e,.s .slot f,.s .slot g,.i .i64 h,.i .i64 j,.b k,.i .i64 l,.i .i64 m,.i .i64 n,.b o,.i .i64 p,.b q,.s .int r]]=>some (zBe (⟨c,d,e,f,g,⟨h,j,k⟩,l,⟨m,n,o,p⟩,q,r⟩:Guest),[.one<|.i .i64 6])
 |_=>none
theorem zES:vM 204 zpx:=by refine⟨zcv.1,λw b g j a h=>?_⟩;unfold zpx at h;split at h;{obtain⟨f,rfl⟩:=zet h;obtain⟨d,e⟩:=zmP f;exact zcv.2 w _ g _ a (congr (congrArg (λc v=>some (c,[AV.one<|CV.i .i64 v])) d) (qD e))};{cases h}
def z8F:zbb:=[(204,zpx)]++znz
theorem zZh:zS z8F:=zi zES zia
@[simp] abbrev zwo (h:Host)(m g:Int):Bool:=bif zcT h m g then ieq (zL<|gOf h m g) 6 else false
def zFh:Run:=rF3 dH dI dI λb c d=>(zwo b c d,[aH<|zcl b c d,aB<|zcm b c d])
def zvo (N:Nat)(i:Host)(c d:Int):OA:=
 let a:=zl i;let g:=inb c<|ln a.Mons;let e:=ix a.Mons c zh;let h:=inb d<|ln e.Guests;let b:=ix e.Guests d zu;let j:=up a.Mons c ({e with Guests:=(up e.Guests d<|zcs b b.Ctl.Traps 6)}:Mon); (oN (zbC i)<|oN (zcT a c d)<|cond (nB<|zjT a c d) (some [aH a,aB false])<|oN g<|oN h<|oN (zBe b)<|oN (zer b b.Ctl.Traps 6)<|cond (zdU b b.Ctl.Traps 6) (oN g<|oN h<|share j λf=>some [aH ({a with Mons:=f}:Host),aB true])<|oN g<|oN h<|share j λf=>some [aH ({a with Mons:=f}:Host),aB true])
abbrev zBf (x:Guest):Bool:=bif zbs x then ieq (zL x) 7 else false
def zpy:List AV->Option (Bool×List AV)
 |[.agg [.s .ins c,.i .i64 d,.i .i64 e,.s .slot f,.s .slot g,.i .i64 h,.i .i64 j,.b k,.i .i64 l,.i .i64 m,.i .i64 n,.b o,.i .i64 p,.b q,.s .int r]]=>some (zBf (⟨c,d,e,f,g,⟨h,j,k⟩,l,⟨m,n,o,p⟩,q,r⟩:Guest),[.one<|.i .i64 7])
 |_=>none
theorem zET:vM 204 zpy:=by refine⟨zcv.1,λw b g j a h=>?_⟩;unfold zpy at h;split at h;{obtain⟨f,rfl⟩:=zet h;obtain⟨d,e⟩:=zmP f;exact zcv.2 w _ g _ a (congr (congrArg (λc v=>some (c,[AV.one<|CV.i .i64 v])) d) (qD e))};{cases h}
def z8G:zbb:=[(204,zpy)]++znz
theorem zZi:zS z8G:=zi zET zia
@[simp] abbrev zwp (h:Host)(m g:Int):Bool:=bif zcT h m g then ieq (zL<|gOf h m g) 7 else false
def zFi:Run:=rF3 dH dI dI λb c d=>(zwp b c d,[aH<|zcl b c d,aB<|zcm b c d])
def zvp (N:Nat)(q:Host)(c e:Int):OA:=
 let a:=zl q;let g:=inb c<|ln a.Mons;let f:=ix a.Mons c zh;let k:=inb e<|ln f.Guests;let h:=ix f.Guests e zu;let d:=h.Ctl.Traps;let l:=up a.Mons c ({f with Guests:=(up f.Guests e<|zcs h d 7)}:Mon); (oN (zbC q)<|oN (zcT a c e)<|cond (nB<|zjT a c e) (some [aH a,aB false])<|oN g<|oN k<|oN (zBf h)<|oN g<|oN (znp f.Traps d 2)<|cond (ieq (zj0 f.Traps d 2) 2) (oN g<|cond (ilt f.Own 1000000000) (oN g<|oN g<|share (up a.Mons c ({f with Own:=(zM .i64 f.Own 1)}:Mon)) (λb=>let j:=ix b c zh;let m:=ix j.Guests e zu;let p:=({h with Prog:=m.Prog,Written:=m.Written,Live:=m.Live,Seen:=m.Seen}:Guest);let i:=up b c ({j with Guests:=(up j.Guests e<|zcs p d 7)}:Mon); (oN (zer p d 7)<|cond (zdU p d 7) (oN (inb c<|ln b)<|oN (inb e<|ln j.Guests)<|share i λn=>some [aH ({a with Mons:=n}:Host),aB true])<|oN (inb c<|ln b)<|oN (inb e<|ln j.Guests)<|share i λn=>some [aH ({a with Mons:=n}:Host),aB true])))<|oN (zer h d 7)<|cond (zdU h d 7) (oN g<|oN k<|share l λb=>some [aH ({a with Mons:=b}:Host),aB true])<|oN g<|oN k<|share l λb=>some [aH ({a with Mons:=b}:Host),aB true])<|oN (zer h d 7)<|cond (zdU h d 7) (oN g<|oN k<|share l λb=>some [aH ({a with Mons:=b}:Host),aB true])<|oN g<|oN k<|share l λb=>some [aH ({a with Mons:=b}:Host),aB true])
theorem zE0 (a:Host)(b c:Int)(e:zwi a b c=true):∃N,zvi N a b c=some [aH<|zcl a b c,aB<|zcm a b c]:=by
 obtain⟨e,i⟩:=zmP e;have f:=(zU a).1 (zQ.1 e);refine⟨0,?_⟩;show _=some (zev<|zbg a b c);unfold zvi oN nB;conv=>zeta
 refine must (zbq<|(zU _).2 f) (must (zbq<|(zU _).2 f)<|brN (λd=>?_) λd=>?_);{rw [ziB d];rfl};obtain⟨k,g,h⟩:=zda d;have l:=zkP f g h;have j:zL (gOf a b c)=0:=qD i;rw[zi9 d,j];refine must (zC g) (must (zC h)<|must (zjd rfl i) ?_);rfl
theorem zqf:vM 75 zFb:=kF3 zZb zA zcc zhi (zx []) zE0
theorem zE1 (a:Host)(b c:Int)(g:zwj a b c=true):∃N,zvj N a b c=some [aH<|zcl a b c,aB<|zcm a b c]:=by
 obtain⟨g,i⟩:=zmP g;have h:=(zU a).1 (zQ.1 g);refine⟨0,?_⟩;show _=some (zev<|zbg a b c);unfold zvj oN nB;conv=>zeta
 refine must (zbq<|(zU _).2 h) (must (zbq<|(zU _).2 h)<|brN (λd=>?_) λd=>?_);{rw [ziB d];rfl};obtain⟨l,e,f⟩:=zda d;have k:=zkP h e f;have j:zL (gOf a b c)=1:=qD i;rw[zi9 d,j];refine must (zC e) (must (zC f)<|must (zjd rfl i) ?_);show _=some (zev (zgs a b c<|interrupted<|gOf a b c,true));exact must (zC e) (must (zbq k) (must (zC f) rfl))
theorem zBp:vM 75 zFc:=kF3 zZc zA zcc zhi (zx []) zE1
theorem zE2 (a:Host)(b c:Int)(g:zwk a b c=true):∃N,zvk N a b c=some [aH<|zcl a b c,aB<|zcm a b c]:=by
 obtain⟨g,i⟩:=zmP g;have h:=(zU a).1 (zQ.1 g);refine⟨0,?_⟩;show _=some (zev<|zbg a b c);unfold zvk oN nB;conv=>zeta
 refine must (zbq<|(zU _).2 h) (must (zbq<|(zU _).2 h)<|brN (λd=>?_) λd=>?_);{rw [ziB d];rfl};obtain⟨l,e,f⟩:=zda d;have k:=zkP h e f;have j:zL (gOf a b c)=2:=qD i;rw[zi9 d,j];refine must (zC e) (must (zC f)<|must (zjd rfl i) ?_);show _=some (zev (zgs a b c<|plainly<|gOf a b c,true));exact must (zC e) (must (zbq k) (must (zC f) rfl))
theorem zBq:vM 75 zFd:=kF3 zZd zA zcc zhi (zx []) zE2
theorem zE3 (a:Host)(c d:Int)(j:zwl a c d=true):∃N,zvl N a c d=some [aH<|zcl a c d,aB<|zcm a c d]:=by
 obtain⟨j,m⟩:=zmP j;have f:=(zU a).1 (zQ.1 j);refine⟨0,?_⟩;show _=some (zev<|zbg a c d);unfold zvl oN nB;conv=>zeta
 refine must (zbq<|(zU _).2 f) (must (zbq<|(zU _).2 f)<|brN (λe=>?_) λe=>?_);{rw [ziB e];rfl};obtain⟨r,g,i⟩:=zda e;have n:=zkP f g i;have q:zL (gOf a c d)=3:=qD m;rw[zi9 e,q];refine must (zC g) (must (zC i)<|must (zjd rfl m) ?_);show _=some (zev (zhu (ziq a c d (gOf a c d) false) c d (gOf a c d) false,true));have k:=ztN (b:=a.Buffer) (page:=zbk (address<|gOf a c d)) (need:=zca false) (io:=false) f e;have F:=zmk k g i;have p:(ix (ix (zfY (zl a) (zl a).Buffer c d (zb0<|zg2<|ix (ix (zl a).Mons c zh).Guests d zu) (zc8 false) false).Mons c zh).Guests d zu)=(ix (ix (zl a).Mons c zh).Guests d zu):=congrArg (λl=>ix l d gZ) (zJ5 k.gs c);rw[p];unfold zhu;refine must rfl (must rfl (must rfl (must (zbq<|(zU _).2 f)<|brN (λh=>?_) λh=>?_)));{rw [show (ziq a c d (gOf a c d) false).2.2=false from h];exact must (zC F.hm) (must rfl (must rfl (must (zbq n) (must (zC F.hg) rfl))))};{rw [show (ziq a c d (gOf a c d) false).2.2=true from h];exact must (zC F.hm) (must rfl (must rfl (must (zbq n) (must (zC F.hg) rfl))))}
theorem zBr:vM 75 zFe:=kF3 zZe zA zcc zhi (zx []) zE3
theorem zE4 (a:Host)(c d:Int)(j:zwm a c d=true):∃N,zvm N a c d=some [aH<|zcl a c d,aB<|zcm a c d]:=by
 obtain⟨j,m⟩:=zmP j;have f:=(zU a).1 (zQ.1 j);refine⟨0,?_⟩;show _=some (zev<|zbg a c d);unfold zvm oN nB;conv=>zeta
 refine must (zbq<|(zU _).2 f) (must (zbq<|(zU _).2 f)<|brN (λe=>?_) λe=>?_);{rw [ziB e];rfl};obtain⟨r,g,i⟩:=zda e;have n:=zkP f g i;have q:zL (gOf a c d)=4:=qD m;rw[zi9 e,q];refine must (zC g) (must (zC i)<|must (zjd rfl m) ?_);show _=some (zev (zhu (ziq a c d (gOf a c d) true) c d (gOf a c d) true,true));have k:=ztN (b:=a.Buffer) (page:=zbk (address<|gOf a c d)) (need:=zca true) (io:=false) f e;have F:=zmk k g i;have p:(ix (ix (zfY (zl a) (zl a).Buffer c d (zb0<|zg2<|ix (ix (zl a).Mons c zh).Guests d zu) (zc8 true) false).Mons c zh).Guests d zu)=(ix (ix (zl a).Mons c zh).Guests d zu):=congrArg (λl=>ix l d gZ) (zJ5 k.gs c);rw[p];unfold zhu;refine must rfl (must rfl (must rfl (must (zbq<|(zU _).2 f)<|brN (λh=>?_) λh=>?_)));{rw [show (ziq a c d (gOf a c d) true).2.2=false from h];exact must (zC F.hm) (must rfl (must rfl (must (zbq n) (must (zC F.hg) rfl))))};{rw [show (ziq a c d (gOf a c d) true).2.2=true from h];exact must rfl (must (zbq k.shape.1.1)<|must (zC F.hm)<|must (zbq n) (must (zC F.hg) rfl))}
theorem zBs:vM 75 zFf:=kF3 zZf zA zcc zhi (zx []) zE4
theorem z7m {c:Host}{a d:Int}(k:SmG (gOf c a d))(f:hasB a (ln c.Mons)=true)(i:hasB d (ln (ix c.Mons a mZ).Guests)=true) :
 (cond (zer (ix (ix (zl c).Mons a zh).Guests d zu) (ix (ix (zl c).Mons a zh).Guests d zu).Ctl.Traps 5) (cond (zdU (ix (ix (zl c).Mons a zh).Guests d zu) (ix (ix (zl c).Mons a zh).Guests d zu).Ctl.Traps 5) (cond (inb a<|ln (zl c).Mons) (cond (ilt (ln (ix (zl c).Mons a zh).Outs) 40) (cond (inb a<|ln (zl c).Mons) (cond (zdN (ix (ix (zl c).Mons a zh).Guests d zu).Prog (ix (ix (zl c).Mons a zh).Guests d zu).Pc) (cond (few<|ln<|ap (ix (zl c).Mons a zh).Outs [(zdF (ix (ix (zl c).Mons a zh).Guests d zu).Prog (ix (ix (zl c).Mons a zh).Guests d zu).Pc).X]) (cond (inb a<|ln (zl c).Mons) (cond (cond (ieq a a) true false) (share (up (zl c).Mons a ({ (ix (zl c).Mons a zh) with Outs:=(ap (ix (zl c).Mons a zh).Outs [(zdF (ix (ix (zl c).Mons a zh).Guests d zu).Prog (ix (ix (zl c).Mons a zh).Guests d zu).Pc).X])}:Mon)) λe=>cond (inb a<|ln e) (cond (inb d<|ln (ix e a zh).Guests) (share (up e a ({ (ix e a zh) with Guests:=(up (ix e a zh).Guests d<|zcs (ix (ix (zl c).Mons a zh).Guests d zu) (ix (ix (zl c).Mons a zh).Guests d zu).Ctl.Traps 5)}:Mon)) λl=>some [.agg<|zbl ({ (zl c) with Mons:=l}:Host),.one<|.b true]) none) none) none) none) none) none) none)<|cond (inb a<|ln (zl c).Mons) (cond (inb d<|ln (ix (zl c).Mons a zh).Guests) (share (up (zl c).Mons a ({ (ix (zl c).Mons a zh) with Guests:=(up (ix (zl c).Mons a zh).Guests d<|zcs (ix (ix (zl c).Mons a zh).Guests d zu) (ix (ix (zl c).Mons a zh).Guests d zu).Ctl.Traps 5)}:Mon)) λe=>some [.agg<|zbl ({ (zl c) with Mons:=e}:Host),.one<|.b true]) none) none) none)<|cond (inb a<|ln (zl c).Mons) (cond (inb d<|ln (ix (zl c).Mons a zh).Guests) (share (up (zl c).Mons a ({ (ix (zl c).Mons a zh) with Guests:=(up (ix (zl c).Mons a zh).Guests d<|zcs (ix (ix (zl c).Mons a zh).Guests d zu) (ix (ix (zl c).Mons a zh).Guests d zu).Ctl.Traps 5)}:Mon)) λe=>some [.agg<|zbl ({ (zl c) with Mons:=e}:Host),.one<|.b true]) none) none) none)=some (zev (zgs (zgU c a (gOf c a d) 5) a d<|zfK (gOf c a d) (gOf c a d).Ctl.Traps 5,true)):=by
 refine must (zbq k) (br (λj=>must (zC f) (br (λg=>?_) λg=>?_)) λj=>?_)
 .rw [zVO (h:=c) (m:=a) (x:=gOf c a d) (w:=5) j rfl g];refine must (zC f) (must rfl (must (zSm g)<|must (zC f)<|must (zKZ _)<|shr<|must (zC<|ze4 f) (must ?_ rfl)));rw[zo0 f];exact zC i
 .rw [zQF (h:=c) (m:=a) (x:=gOf c a d) (w:=5) g];exact must (zC f) (must (zC i) rfl)
 .rw [zMl (h:=c) (m:=a) (x:=gOf c a d) (w:=5) j];exact must (zC f) (must (zC i) rfl)
theorem zba1 {f:Host}{d:List Mon}{a c:Int}(n:SmG (gOf f a c))(i:hasB a (ln d)=true)(k:hasB c (ln (ix d a mZ).Guests)=true)(e:(ix (ix d a zh).Guests c zu)=gOf f a c) :
 (cond (zer ({ (ix (ix (zl f).Mons a zh).Guests c zu) with Prog:=(ix (ix d a zh).Guests c zu).Prog,Written:=(ix (ix d a zh).Guests c zu).Written,Live:=(ix (ix d a zh).Guests c zu).Live,Seen:=(ix (ix d a zh).Guests c zu).Seen}:Guest) (ix (ix (zl f).Mons a zh).Guests c zu).Ctl.Traps 5) (cond (zdU ({ (ix (ix (zl f).Mons a zh).Guests c zu) with Prog:=(ix (ix d a zh).Guests c zu).Prog,Written:=(ix (ix d a zh).Guests c zu).Written,Live:=(ix (ix d a zh).Guests c zu).Live,Seen:=(ix (ix d a zh).Guests c zu).Seen}:Guest) (ix (ix (zl f).Mons a zh).Guests c zu).Ctl.Traps 5) (cond (inb a<|ln d) (cond (ilt (ln (ix d a zh).Outs) 40) (cond (inb a<|ln d) (cond (zdN (ix (ix d a zh).Guests c zu).Prog (ix (ix (zl f).Mons a zh).Guests c zu).Pc) (cond (few<|ln<|ap (ix d a zh).Outs [(zdF (ix (ix d a zh).Guests c zu).Prog (ix (ix (zl f).Mons a zh).Guests c zu).Pc).X]) (cond (inb a<|ln d) (cond (cond (ieq a a) true false) (share (up d a ({ (ix d a zh) with Outs:=(ap (ix d a zh).Outs [(zdF (ix (ix d a zh).Guests c zu).Prog (ix (ix (zl f).Mons a zh).Guests c zu).Pc).X])}:Mon)) λg=>cond (inb a<|ln g) (cond (inb c<|ln (ix g a zh).Guests) (share (up g a ({ (ix g a zh) with Guests:=(up (ix g a zh).Guests c<|zcs ({ (ix (ix (zl f).Mons a zh).Guests c zu) with Prog:=(ix (ix d a zh).Guests c zu).Prog,Written:=(ix (ix d a zh).Guests c zu).Written,Live:=(ix (ix d a zh).Guests c zu).Live,Seen:=(ix (ix d a zh).Guests c zu).Seen}:Guest) (ix (ix (zl f).Mons a zh).Guests c zu).Ctl.Traps 5)}:Mon)) λp=>some [.agg<|zbl ({ (zl f) with Mons:=p}:Host),.one<|.b true]) none) none) none) none) none) none) none)<|cond (inb a<|ln d) (cond (inb c<|ln (ix d a zh).Guests) (share (up d a ({ (ix d a zh) with Guests:=(up (ix d a zh).Guests c<|zcs ({ (ix (ix (zl f).Mons a zh).Guests c zu) with Prog:=(ix (ix d a zh).Guests c zu).Prog,Written:=(ix (ix d a zh).Guests c zu).Written,Live:=(ix (ix d a zh).Guests c zu).Live,Seen:=(ix (ix d a zh).Guests c zu).Seen}:Guest) (ix (ix (zl f).Mons a zh).Guests c zu).Ctl.Traps 5)}:Mon)) λg=>some [.agg<|zbl ({ (zl f) with Mons:=g}:Host),.one<|.b true]) none) none) none)<|cond (inb a<|ln d) (cond (inb c<|ln (ix d a zh).Guests) (share (up d a ({ (ix d a zh) with Guests:=(up (ix d a zh).Guests c<|zcs ({ (ix (ix (zl f).Mons a zh).Guests c zu) with Prog:=(ix (ix d a zh).Guests c zu).Prog,Written:=(ix (ix d a zh).Guests c zu).Written,Live:=(ix (ix d a zh).Guests c zu).Live,Seen:=(ix (ix d a zh).Guests c zu).Seen}:Guest) (ix (ix (zl f).Mons a zh).Guests c zu).Ctl.Traps 5)}:Mon)) λg=>some [.agg<|zbl ({ (zl f) with Mons:=g}:Host),.one<|.b true]) none) none) none)=some (zev (zgs (zgU {f with Mons:=d} a (gOf f a c) 5) a c<|zfK (gOf f a c) (gOf f a c).Ctl.Traps 5,true)):=by
 rw[e];refine must (zbq n) (br (λl=>must (zC i) (br (λj=>?_) λj=>?_)) λl=>?_)
 .rw [zVO (h:={f with Mons:=d}) (m:=a) (x:=gOf f a c) (w:=5) l rfl j];refine must (zC i) (must rfl (must (zSm j)<|must (zC i)<|must (zKZ _)<|shr<|must (zC<|ze4 (h:={f with Mons:=d}) i) (must ?_ rfl)));rw[zo0 (h:={f with Mons:=d}) i];exact zC k
 .rw [zQF (h:={f with Mons:=d}) (m:=a) (x:=gOf f a c) (w:=5) j];exact must (zC i) (must (zC k) rfl)
 .rw [zMl (h:={f with Mons:=d}) (m:=a) (x:=gOf f a c) (w:=5) l];exact must (zC i) (must (zC k) rfl)
theorem zE5 (b:Host)(a c:Int)(j:zwn b a c=true):∃N,zvn N b a c=some [aH<|zcl b a c,aB<|zcm b a c]:=by
 obtain⟨j,p⟩:=zmP j;have k:=(zU b).1 (zQ.1 j);refine⟨0,?_⟩;show _=some (zev<|zbg b a c);unfold zvn oN nB;conv=>zeta
 refine must (zbq<|(zU _).2 k) (must (zbq<|(zU _).2 k)<|brN (λf=>?_) λf=>?_);{rw [ziB f];rfl};obtain⟨r,d,e⟩:=zda f;have l:=zkP k d e;have q:zL (gOf b a c)=5:=qD p;rw[zi9 f,q];refine must (zC d) (must (zC e)<|must (zjd rfl p) ?_);show _=some (zev (zkw b a c (gOf b a c) 5,true));refine must (zC d) (must rfl (br (λg=>must (zC d) (br (λi=>must (zC d) (must (zC d)<|shr ?_)) λi=>?_)) λg=>?_));{rw [zoe (zYM (h:=b) (m:=a) (x:=gOf b a c) (w:=5) rfl g i)];have n:=zo0 d {ix b.Mons a mZ with Own:=zM .i64 (ix b.Mons a mZ).Own 1};refine zba1 l (ze4 d) ?_ ?_;{show hasB c (ln (ix (up b.Mons a _) a mZ).Guests)=true;rw[n];exact e};{show ix (ix (up b.Mons a _) a mZ).Guests c gZ=_;rw[n];rfl}};{rw [zoe<|zYL (h:=b) (m:=a) (x:=gOf b a c) (w:=5) i];exact z7m l d e};{rw [zoe<|zYK (h:=b) (m:=a) (x:=gOf b a c) (w:=5) g];exact z7m l d e}
theorem zBt:vM 75 zFg:=kF3 zZg zA zcc zhi (zx []) zE5
theorem zE6 (a:Host)(b c:Int)(g:zwo a b c=true):∃N,zvo N a b c=some [aH<|zcl a b c,aB<|zcm a b c]:=by
 obtain⟨g,j⟩:=zmP g;have i:=(zU a).1 (zQ.1 g);refine⟨0,?_⟩;show _=some (zev<|zbg a b c);unfold zvo oN nB;conv=>zeta
 refine must (zbq<|(zU _).2 i) (must (zbq<|(zU _).2 i)<|brN (λf=>?_) λf=>?_);{rw [ziB f];rfl};obtain⟨p,d,e⟩:=zda f;have n:=zkP i d e;have l:zL (gOf a b c)=6:=qD j;rw[zi9 f,l];refine must (zC d) (must (zC e)<|must (zjd rfl j) ?_);show _=some (zev (zkw a b c (gOf a b c) 6,true));rw[zoe<|z9F (h:=a) (m:=b) (x:=gOf a b c),zDR (w:=6) rfl];exact must (zbq n) (br (λk=>must (zC d) (must (zC e) rfl)) λk=>must (zC d) (must (zC e) rfl))
theorem zBu:vM 75 zFh:=kF3 zZh zA zcc zhi (zx []) zE6
theorem z7n {a:Host}{c d:Int}(i:SmG (gOf a c d))(f:hasB c (ln a.Mons)=true)(g:hasB d (ln (ix a.Mons c mZ).Guests)=true) :
 (cond (zer (ix (ix (zl a).Mons c zh).Guests d zu) (ix (ix (zl a).Mons c zh).Guests d zu).Ctl.Traps 7) (cond (zdU (ix (ix (zl a).Mons c zh).Guests d zu) (ix (ix (zl a).Mons c zh).Guests d zu).Ctl.Traps 7) (cond (inb c<|ln (zl a).Mons) (cond (inb d<|ln (ix (zl a).Mons c zh).Guests) (share (up (zl a).Mons c ({ (ix (zl a).Mons c zh) with Guests:=(up (ix (zl a).Mons c zh).Guests d<|zcs (ix (ix (zl a).Mons c zh).Guests d zu) (ix (ix (zl a).Mons c zh).Guests d zu).Ctl.Traps 7)}:Mon)) λe=>some [.agg<|zbl ({ (zl a) with Mons:=e}:Host),.one<|.b true]) none) none)<|cond (inb c<|ln (zl a).Mons) (cond (inb d<|ln (ix (zl a).Mons c zh).Guests) (share (up (zl a).Mons c ({ (ix (zl a).Mons c zh) with Guests:=(up (ix (zl a).Mons c zh).Guests d<|zcs (ix (ix (zl a).Mons c zh).Guests d zu) (ix (ix (zl a).Mons c zh).Guests d zu).Ctl.Traps 7)}:Mon)) λe=>some [.agg<|zbl ({ (zl a) with Mons:=e}:Host),.one<|.b true]) none) none) none)=some (zev (zgs a c d<|zfK (gOf a c d) (gOf a c d).Ctl.Traps 7,true)):=
 must (zbq i) (br (λh=>must (zC f) (must (zC g) rfl)) λh=>must (zC f) (must (zC g) rfl))
theorem zba2 {f:Host}{d:List Mon}{a c:Int}(k:SmG (gOf f a c))(h:hasB a (ln d)=true)(i:hasB c (ln (ix d a mZ).Guests)=true)(e:(ix (ix d a zh).Guests c zu)=gOf f a c) :
 (cond (zer ({ (ix (ix (zl f).Mons a zh).Guests c zu) with Prog:=(ix (ix d a zh).Guests c zu).Prog,Written:=(ix (ix d a zh).Guests c zu).Written,Live:=(ix (ix d a zh).Guests c zu).Live,Seen:=(ix (ix d a zh).Guests c zu).Seen}:Guest) (ix (ix (zl f).Mons a zh).Guests c zu).Ctl.Traps 7) (cond (zdU ({ (ix (ix (zl f).Mons a zh).Guests c zu) with Prog:=(ix (ix d a zh).Guests c zu).Prog,Written:=(ix (ix d a zh).Guests c zu).Written,Live:=(ix (ix d a zh).Guests c zu).Live,Seen:=(ix (ix d a zh).Guests c zu).Seen}:Guest) (ix (ix (zl f).Mons a zh).Guests c zu).Ctl.Traps 7) (cond (inb a<|ln d) (cond (inb c<|ln (ix d a zh).Guests) (share (up d a ({ (ix d a zh) with Guests:=(up (ix d a zh).Guests c<|zcs ({ (ix (ix (zl f).Mons a zh).Guests c zu) with Prog:=(ix (ix d a zh).Guests c zu).Prog,Written:=(ix (ix d a zh).Guests c zu).Written,Live:=(ix (ix d a zh).Guests c zu).Live,Seen:=(ix (ix d a zh).Guests c zu).Seen}:Guest) (ix (ix (zl f).Mons a zh).Guests c zu).Ctl.Traps 7)}:Mon)) λg=>some [.agg<|zbl ({ (zl f) with Mons:=g}:Host),.one<|.b true]) none) none)<|cond (inb a<|ln d) (cond (inb c<|ln (ix d a zh).Guests) (share (up d a ({ (ix d a zh) with Guests:=(up (ix d a zh).Guests c<|zcs ({ (ix (ix (zl f).Mons a zh).Guests c zu) with Prog:=(ix (ix d a zh).Guests c zu).Prog,Written:=(ix (ix d a zh).Guests c zu).Written,Live:=(ix (ix d a zh).Guests c zu).Live,Seen:=(ix (ix d a zh).Guests c zu).Seen}:Guest) (ix (ix (zl f).Mons a zh).Guests c zu).Ctl.Traps 7)}:Mon)) λg=>some [.agg<|zbl ({ (zl f) with Mons:=g}:Host),.one<|.b true]) none) none) none)=some (zev (zgs {f with Mons:=d} a c<|zfK (gOf f a c) (gOf f a c).Ctl.Traps 7,true)):=by
 rw[e];exact must (zbq k) (br (λj=>must (zC h) (must (zC i) rfl)) λj=>must (zC h) (must (zC i) rfl))
theorem zE7 (b:Host)(a c:Int)(j:zwp b a c=true):∃N,zvp N b a c=some [aH<|zcl b a c,aB<|zcm b a c]:=by
 obtain⟨j,p⟩:=zmP j;have k:=(zU b).1 (zQ.1 j);refine⟨0,?_⟩;show _=some (zev<|zbg b a c);unfold zvp oN nB;conv=>zeta
 refine must (zbq<|(zU _).2 k) (must (zbq<|(zU _).2 k)<|brN (λf=>?_) λf=>?_);{rw [ziB f];rfl};obtain⟨r,d,e⟩:=zda f;have l:=zkP k d e;have q:zL (gOf b a c)=7:=qD p;rw[zi9 f,q];refine must (zC d) (must (zC e)<|must (zjd rfl p) ?_);show _=some (zev (zkw b a c (gOf b a c) 7,true));refine must (zC d) (must rfl (br (λg=>must (zC d) (br (λi=>must (zC d) (must (zC d)<|shr ?_)) λi=>?_)) λg=>?_));{rw [zoe (zYM (h:=b) (m:=a) (x:=gOf b a c) (w:=7) rfl g i),zDR (w:=7) rfl];have n:=zo0 d {ix b.Mons a mZ with Own:=zM .i64 (ix b.Mons a mZ).Own 1};refine zba2 l (ze4 d) ?_ ?_;{show hasB c (ln (ix (up b.Mons a _) a mZ).Guests)=true;rw[n];exact e};{show ix (ix (up b.Mons a _) a mZ).Guests c gZ=_;rw[n];rfl}};{rw [zoe<|zYL (h:=b) (m:=a) (x:=gOf b a c) (w:=7) i,zDR (w:=7) rfl];exact z7n l d e};{rw [zoe<|zYK (h:=b) (m:=a) (x:=gOf b a c) (w:=7) g,zDR (w:=7) rfl];exact z7n l d e}
theorem zBv:vM 75 zFi:=kF3 zZi zA zcc zhi (zx []) zE7
def zqL:List AV->Option (Bool×List AV)
 |[.agg [.s (.sl .int) b,.s .mon c,.s .entry d,.s .entry e],.one<|.i .i64 f,.one<|.i .i64 g]=>some (zcT (⟨b,c,d,e⟩:Host) f g,[aH<|zcl (⟨b,c,d,e⟩:Host) f g,aB<|zcm (⟨b,c,d,e⟩:Host) f g])
 |_=>none
theorem zHJ:vM 75 zqL:=by refine⟨zqf.1,λw m l n g h=>?_⟩;unfold zqL at h;split at h;{rename_i a b d f i j;obtain⟨k,rfl⟩:=zet h;rcases z5W (gOf (⟨a,b,d,f⟩:Host) i j) with e|e|e|e|e|e|e|e;{exact zqf.2 w _ l _ g (congrArg (λc=>some (c,zev<|zbg (⟨a,b,d,f⟩:Host) i j))<|zjd k e)};{exact zBp.2 w _ l _ g (congrArg (λc=>some (c,zev<|zbg (⟨a,b,d,f⟩:Host) i j))<|zjd k e)};{exact zBq.2 w _ l _ g (congrArg (λc=>some (c,zev<|zbg (⟨a,b,d,f⟩:Host) i j))<|zjd k e)};{exact zBr.2 w _ l _ g (congrArg (λc=>some (c,zev<|zbg (⟨a,b,d,f⟩:Host) i j))<|zjd k e)};{exact zBs.2 w _ l _ g (congrArg (λc=>some (c,zev<|zbg (⟨a,b,d,f⟩:Host) i j))<|zjd k e)};{exact zBt.2 w _ l _ g (congrArg (λc=>some (c,zev<|zbg (⟨a,b,d,f⟩:Host) i j))<|zjd k e)};{exact zBu.2 w _ l _ g (congrArg (λc=>some (c,zev<|zbg (⟨a,b,d,f⟩:Host) i j))<|zjd k e)};{exact zBv.2 w _ l _ g (congrArg (λc=>some (c,zev<|zbg (⟨a,b,d,f⟩:Host) i j))<|zjd k e)}};{cases h}
@[simp] abbrev zzy (h:Host)(m g b a:Int)(c:Bool):Bool:=pc (zdI h)
@[simp] abbrev zzv (h:Host)(m g b a:Int)(c:Bool):Host:=(lookOf h (ztf h c) m g b a c).1
@[simp] abbrev zzw (h:Host)(m g b a:Int)(c:Bool):Int:=(lookOf h (ztf h c) m g b a c).2.1
@[simp] abbrev zzx (h:Host)(m g b a:Int)(c:Bool):Bool:=(lookOf h (ztf h c) m g b a c).2.2
def zDs:Run:=rF6 dH dI dI dI dI dB λb c d e f g=>(zzy b c d e f g,[aH<|zzv b c d e f g,aI<|zzw b c d e f g,aB<|zzx b c d e f g])
abbrev zSz (b:lM)(c:lN)(d:lE)(e:lE)(a:Int)(g:Int)(f:Int):Mon :=
 (ix (zg8 (⟨b,c,d,e⟩:Host) a g f).Mons a zh)
def zso (N:Nat)(d:Int)(e:Int)(b:Int)(f:Int)(g:lM)(h:lN)(c:lE)(a:lE):OA:=
 let i:=(⟨e,d,b,f⟩:Entry); (oN (zg5 a i)<|some [aH (⟨g,h,c,zgM a i⟩:Host),aI b,aB true])
def ztW (N:Nat)(d:lM)(e:lN)(f:lE)(g:lE)(b:Int)(i:Int)(h:Int)(a:Int)(c:Int)(s:(Int×Int×Int×Int×lM×lN×lE×lE×lM×lN×lE×lE×Unit)->OA)(k:Int)(l:lM)(m:lN)(n:lE)(p:lE):OA:=
 let x:=(⟨d,e,f,g⟩:Host);let r:=zg8 x b i h;let j:=zSz d e f g b i h;let w:=ix j.Tables a zeC;let u:=(ix j.Guests a zu).Live; (oN (zhW x b i h)<|oN (inb b<|ln r.Mons)<|oN (inb a<|ln j.Tables)<|oN (inb a<|ln j.Guests)<|oN (zuX w u j.Outer c)<|oN (inb a<|ln j.Tables)<|share (up r.Mons b ({j with Tables:=(up j.Tables a<|zuW w u j.Outer c)}:Mon)) (λq=>let v:=(ix q b zh).Tables;let t:=ix v a zeC; (oN (inb a<|ln v)<|oN (zxS t c)<|s (c,k,(ziz t c).Page,(ziz t c).Rights,l,m,n,p,r.Memory,q,r.Buffer,r.IoBuffer,()))))
def zox (N:Nat)(a:lN)(g:Int)(h:Int)(b:Int)(c:lM)(d:lE)(e:lE)(p:Int)(f:Int)(n:(Int×Int×Int×Int×lM×lN×lE×lE×lM×lN×lE×lE×Unit)->OA)(i:Int)(j:lM)(k:lN)(l:lE)(m:lE):OA:=
 let r:=ztW N c a d e g p f h b n i j k l m;let s:=ix (ix a g zh).Tables h zeC;let q:=ziz s b; (cond (nB<|zoq s b) r<|cond (ieq q.Page<|-1) r<|oN (zbA q.Rights f)<|cond (nB<|zcY q.Rights f) r<|n (b,i,q.Page,q.Rights,j,k,l,m,c,a,d,e,()))
def zsp (N:Nat)(c:Int)(d:Int)(e:Int)(i:Int)(j:Int)(k:Int)(l:lM)(m:lN)(n:lE)(p:lE)(f:lM)(b:lN)(g:lE)(h:lE):OA:=
 let r:=(ix b c zh).Tables; (oN (inb c<|ln b)<|oN (inb d<|ln r)<|oN (zxS (ix r d zeC) e)<|share (λ(a:(Int×Int×Int×Int×lM×lN×lE×lE×lM×lN×lE×lE×Unit))=>zso N a.1 a.2.1 a.2.2.1 a.2.2.2.1 a.2.2.2.2.2.2.2.2.1 a.2.2.2.2.2.2.2.2.2.1 a.2.2.2.2.2.2.2.2.2.2.1 a.2.2.2.2.2.2.2.2.2.2.2.1) λq=>zox N b c d e f g h j i q k l m n p)
def zsq (N:Nat)(d:Int)(e:Int)(b:Int)(f:Int)(g:lM)(h:lN)(a:lE)(c:lE):OA:=
 let i:=(⟨e,d,b,f⟩:Entry); (oN (zg5 a i)<|some [aH (⟨g,h,zgM a i,c⟩:Host),aI b,aB true])
def zsr (N:Nat)(c:Int)(d:Int)(e:Int)(i:Int)(j:Int)(k:Int)(l:lM)(m:lN)(n:lE)(p:lE)(f:lM)(b:lN)(g:lE)(h:lE):OA:=
 let r:=(ix b c zh).Tables; (oN (inb c<|ln b)<|oN (inb d<|ln r)<|oN (zxS (ix r d zeC) e)<|share (λ(a:(Int×Int×Int×Int×lM×lN×lE×lE×lM×lN×lE×lE×Unit))=>zsq N a.1 a.2.1 a.2.2.1 a.2.2.2.1 a.2.2.2.2.2.2.2.2.1 a.2.2.2.2.2.2.2.2.2.1 a.2.2.2.2.2.2.2.2.2.2.1 a.2.2.2.2.2.2.2.2.2.2.2.1) λq=>zox N b c d e f g h j i q k l m n p)
def zss (N:Nat)(f:Int)(g:Int)(c:Int)(e:Int)(r:Bool)(j:Int)(k:lM)(l:lN)(m:lE)(n:lE)(h:lM)(i:lN)(a:lE)(b:lE):OA:=
 let u:=aH (⟨h,i,a,b⟩:Host);let p:=zkZ f g;let t:=zgp a p c;let s:=zgp b p c; (cond r (oN (zhS f g)<|share (λ(d:(Int×Int×Int×Int×Int×Int×lM×lN×lE×lE×lM×lN×lE×lE×Unit))=>zsp N d.1 d.2.1 d.2.2.1 d.2.2.2.1 d.2.2.2.2.1 d.2.2.2.2.2.1 d.2.2.2.2.2.2.1 d.2.2.2.2.2.2.2.1 d.2.2.2.2.2.2.2.2.1 d.2.2.2.2.2.2.2.2.2.1 d.2.2.2.2.2.2.2.2.2.2.1 d.2.2.2.2.2.2.2.2.2.2.2.1 d.2.2.2.2.2.2.2.2.2.2.2.2.1 d.2.2.2.2.2.2.2.2.2.2.2.2.2.1) λq=>oN (zhq b p c)<|cond (zfr b p c) (oN (zbA s.Rights e)<|cond (zcY s.Rights e) (some [u,aI s.Host,aB true])<|q (f,g,c,e,j,p,k,l,m,n,h,i,a,b,()))<|q (f,g,c,e,j,p,k,l,m,n,h,i,a,b,()))<|oN (zhS f g)<|share (λ(d:(Int×Int×Int×Int×Int×Int×lM×lN×lE×lE×lM×lN×lE×lE×Unit))=>zsr N d.1 d.2.1 d.2.2.1 d.2.2.2.1 d.2.2.2.2.1 d.2.2.2.2.2.1 d.2.2.2.2.2.2.1 d.2.2.2.2.2.2.2.1 d.2.2.2.2.2.2.2.2.1 d.2.2.2.2.2.2.2.2.2.1 d.2.2.2.2.2.2.2.2.2.2.1 d.2.2.2.2.2.2.2.2.2.2.2.1 d.2.2.2.2.2.2.2.2.2.2.2.2.1 d.2.2.2.2.2.2.2.2.2.2.2.2.2.1) λq=>oN (zhq a p c)<|cond (zfr a p c) (oN (zbA t.Rights e)<|cond (zcY t.Rights e) (some [u,aI t.Host,aB true])<|q (f,g,c,e,j,p,k,l,m,n,h,i,a,b,()))<|q (f,g,c,e,j,p,k,l,m,n,h,i,a,b,()))
def zst (N:Nat)(c:Int)(i:Int)(d:Int)(b:Int)(m:Bool)(n:lM)(p:lN)(j:lE)(k:lE)(e:lM)(a:lN)(f:lE)(g:lE)(l:lG):OA:=
 let s:=ix a c zh;let r:=(ix l i zu).Live;let q:=zeR r d b; (oN (inb i<|ln l)<|oN (zhl r d b)<|cond (nB<|zej r d b) (some [aH (⟨e,a,f,g⟩:Host),aI<|-1,aB false])<|share (λ(h:(Int×Int×Int×Int×Bool×Int×lM×lN×lE×lE×lM×lN×lE×lE×Unit))=>zss N h.1 h.2.1 h.2.2.1 h.2.2.2.1 h.2.2.2.2.1 h.2.2.2.2.2.1 h.2.2.2.2.2.2.1 h.2.2.2.2.2.2.2.1 h.2.2.2.2.2.2.2.2.1 h.2.2.2.2.2.2.2.2.2.1 h.2.2.2.2.2.2.2.2.2.2.1 h.2.2.2.2.2.2.2.2.2.2.2.1 h.2.2.2.2.2.2.2.2.2.2.2.2.1 h.2.2.2.2.2.2.2.2.2.2.2.2.2.1) λt=>cond (ieq b 2) (oN (inb c<|ln a)<|oN (inb q<|ln s.Dirty)<|share (up a c ({s with Dirty:=(up s.Dirty q true)}:Mon)) λu=>t (c,i,d,b,m,q,n,p,j,k,e,u,f,g,()))<|t (c,i,d,b,m,q,n,p,j,k,e,a,f,g,()))
def zI5 (N:Nat)(d:Host)(e f:Int)(h g:Int)(i:Bool):OA:=
 let c:=zl d;let a:=zcJ d e; (oN (zbC d)<|oN (zgX d e)<|share (λ(b:(Int×Int×Int×Int×Bool×Int×Int×Int×lM×lN×lE×lE×lM×lN×lE×lE×lS×lM×lB×lG×(List Int)×lK×Unit))=>zst N b.1 b.2.1 b.2.2.1 b.2.2.2.1 b.2.2.2.2.1 b.2.2.2.2.2.2.2.2.1 b.2.2.2.2.2.2.2.2.2.1 b.2.2.2.2.2.2.2.2.2.2.1 b.2.2.2.2.2.2.2.2.2.2.2.1 b.2.2.2.2.2.2.2.2.2.2.2.2.1 b.2.2.2.2.2.2.2.2.2.2.2.2.2.1 b.2.2.2.2.2.2.2.2.2.2.2.2.2.2.1 b.2.2.2.2.2.2.2.2.2.2.2.2.2.2.2.1 b.2.2.2.2.2.2.2.2.2.2.2.2.2.2.2.2.2.2.2.1) λj=>oN (zez d)<|cond (nB<|zeu d) (some [aH c,aI<|-1,aB false])<|cond (nB<|zlp d e) (some [aH c,aI<|-1,aB false])<|oN (zbA f<|ln a.Guests)<|cond (nB<|zdo f<|ln a.Guests) (some [aH c,aI<|-1,aB false])<|cond (ine g 1) (cond (ine g 2) (some [aH c,aI<|-1,aB false])<|j (e,f,h,g,i,a.Pending,a.Traps,a.Own,[],[],[],[],c.Memory,c.Mons,c.Buffer,c.IoBuffer,a.Outer,a.Out,a.Dirty,a.Guests,a.Outs,a.Tables,()))<|j (e,f,h,g,i,a.Pending,a.Traps,a.Own,[],[],[],[],c.Memory,c.Mons,c.Buffer,c.IoBuffer,a.Outer,a.Out,a.Dirty,a.Guests,a.Outs,a.Tables,()))
def zVW:=zx [(286,999999,{n:=0,tm:=[],lo:=[],ro:=[]}),(286,1007055,{n:=200,tm:=[(1,ti),(2,ti),(3,ti),(4,ti),(5,.b),(12,.lp 0 0),(15,.lp 1 0),(16,.lp 2 0)],lo:=[(0,[.sl 0 [],.sl 1 [],.sl 2 [],.sl 3 []]),(1,[.sl 4 [],.sl 5 [],.sl 6 [],.sl 7 []]),(2,[.sl 8 [],.sl 9 [],.sl 10 [],.sl 11 [],.sl 12 [],ti,ti,.sl 13 [],ti])],ro:=[(0,.sl .int,true),(1,.mon,true),(2,.entry,true),(3,.entry,true),(4,.sl .int,true),(5,.mon,true),(6,.entry,true),(7,.entry,true),(8,.slot,true),(9,.sl .int,true),(10,.bool,true),(11,.guest,true),(12,.int,true),(13,.kept,true)]}),(286,1005039,{n:=200,tm:=[(1,ti),(2,ti),(3,ti),(4,ti),(5,.b),(12,.lp 0 0),(15,.lp 1 0),(18,ti)],lo:=[(0,[.sl 0 [],.sl 1 [],.sl 2 [],.sl 3 []]),(1,[.sl 4 [],.sl 5 [],.sl 6 [],.sl 7 []])],ro:=[(0,.sl .int,true),(1,.mon,true),(2,.entry,true),(3,.entry,true),(4,.sl .int,true),(5,.mon,true),(6,.entry,true),(7,.entry,true)]}),(286,1009019,{n:=200,tm:=[(1,ti),(2,ti),(3,ti),(4,ti),(12,.lp 0 0),(15,.lp 1 0),(18,ti),(20,.lp 1 3),(21,ti)],lo:=[(0,[.sl 0 [],.sl 1 [],.sl 2 [],.sl 3 []]),(1,[.sl 4 [],.sl 5 [],.sl 6 [],.sl 7 []])],ro:=[(0,.sl .int,true),(1,.mon,true),(2,.entry,true),(3,.entry,true),(4,.sl .int,true),(5,.mon,true),(6,.entry,true),(7,.entry,true)]}),(286,1011005,{n:=200,tm:=[(3,ti),(12,.lp 0 0),(15,.lp 1 0),(20,.lp 1 3),(21,ti),(24,.lp 2 0)],lo:=[(0,[.sl 0 [],.sl 1 [],.sl 2 [],.sl 3 []]),(1,[.sl 4 [],.sl 5 [],.sl 6 [],.sl 7 []]),(2,[ti,ti])],ro:=[(0,.sl .int,true),(1,.mon,true),(2,.entry,true),(3,.entry,true),(4,.sl .int,true),(5,.mon,true),(6,.entry,true),(7,.entry,true)]}),(286,1001009019,{n:=200,tm:=[(1,ti),(2,ti),(3,ti),(4,ti),(12,.lp 0 0),(15,.lp 1 0),(18,ti),(20,.lp 1 2),(21,ti)],lo:=[(0,[.sl 0 [],.sl 1 [],.sl 2 [],.sl 3 []]),(1,[.sl 4 [],.sl 5 [],.sl 6 [],.sl 7 []])],ro:=[(0,.sl .int,true),(1,.mon,true),(2,.entry,true),(3,.entry,true),(4,.sl .int,true),(5,.mon,true),(6,.entry,true),(7,.entry,true)]}),(286,1001011005,{n:=200,tm:=[(3,ti),(12,.lp 0 0),(15,.lp 1 0),(20,.lp 1 2),(21,ti),(24,.lp 2 0)],lo:=[(0,[.sl 0 [],.sl 1 [],.sl 2 [],.sl 3 []]),(1,[.sl 4 [],.sl 5 [],.sl 6 [],.sl 7 []]),(2,[ti,ti])],ro:=[(0,.sl .int,true),(1,.mon,true),(2,.entry,true),(3,.entry,true),(4,.sl .int,true),(5,.mon,true),(6,.entry,true),(7,.entry,true)]})]
theorem z7q {N:Nat}{r:Host}{m g a:Int}(b:r.IoBuffer.length<=1048576) :
 zso N a (zeh m g) (zeb (zb8 r m g) a).Page (zeb (zb8 r m g) a).Rights r.Memory r.Mons r.Buffer r.IoBuffer=some (zkg<|zeZ r m g a true):=by
 unfold zso oN
 conv=>zeta
 exact must (zbq b) rfl
theorem z7s {N:Nat}{r:Host}{m g a:Int}(b:r.Buffer.length<=1048576) :
 zsq N a (zeh m g) (zeb (zb8 r m g) a).Page (zeb (zb8 r m g) a).Rights r.Memory r.Mons r.Buffer r.IoBuffer=some (zkg<|zeZ r m g a false):=by
 unfold zsq oN
 conv=>zeta
 exact must (zbq b) rfl
theorem z4U {N:Nat}{r:Host}{m g a b q:Int}{R:OA}{r10}{u5 u6 u7 u8 u9}(A:LookAt r m g q b)(c:r10 (a,u5,(zeb (zb8 (zcB (mended r m q b) m g a) m g) a).Page,(zeb (zb8 (zcB (mended r m q b) m g a) m g) a).Rights,u6,u7,u8,u9,(zcB (mended r m q b) m g a).Memory,(zcB (mended r m q b) m g a).Mons,(zcB (mended r m q b) m g a).Buffer,(zcB (mended r m q b) m g a).IoBuffer,())=R) :
 ztW N r.Memory r.Mons r.Buffer r.IoBuffer m q b g a r10 u5 u6 u7 u8 u9=R:=by
 have M:=zmk A.kp A.hm A.hg;have F:=zmk (A.fill a) A.hm A.hg;unfold ztW oN
 conv=>zeta
 exact must (zbq A.mend) (must (zC M.hm)<|must (zC M.ht)<|must (zC M.hg)<|must (zbq M.hk)<|must (zC M.ht)<|shr<|must (zC F.ht) (must rfl c))
theorem lk_3 {N:Nat}{r:Host}{m g a b q:Int}{c:Bool}{r10}{u5 u6 u7 u8 u9}(A:LookAt r m g q b)(h:r10 (a,u5,(zeb (zb8 (zcB (mended r m q b) m g a) m g) a).Page,(zeb (zb8 (zcB (mended r m q b) m g a) m g) a).Rights,u6,u7,u8,u9,(zcB (mended r m q b) m g a).Memory,(zcB (mended r m q b) m g a).Mons,(zcB (mended r m q b) m g a).Buffer,(zcB (mended r m q b) m g a).IoBuffer,())=some (zkg<|zeZ (zcB (mended r m q b) m g a) m g a c))(i:r10 (a,u5,(zeb (zb8 r m g) a).Page,(zeb (zb8 r m g) a).Rights,u6,u7,u8,u9,r.Memory,r.Mons,r.Buffer,r.IoBuffer,())=some (zkg<|zeZ r m g a c)) :
 zox N r.Mons m g a r.Memory r.Buffer r.IoBuffer q b r10 u5 u6 u7 u8 u9=some (zkg<|cond (zeN r m g a b) (zeZ (zcB (mended r m q b) m g a) m g a c)<|zeZ r m g a c):=by
 unfold zox oN nB
 conv=>zeta
 refine brN (λd=>?_) (λd=>br (λe=>?_) λe=>must rfl (brN (λf=>?_) λf=>?_))
 .rw [ztO<|zYD d];exact z4U A h
 .rw [ztO<|zYE e];exact z4U A h
 .rw [ztO<|zYF f];exact z4U A h
 .rw [zYd<|zYG d e f];exact i
theorem z7r {N:Nat}{r:Host}{m g a b q:Int}{u6 u7 u8 u9}(A:LookAt r m g q b) :
 zsp N m g a b q (zeh m g) u6 u7 u8 u9 r.Memory r.Mons r.Buffer r.IoBuffer=some (zkg<|cond (zeN r m g a b) (zeZ (zcB (mended r m q b) m g a) m g a true)<|zeZ r m g a true):=by
 have M:=zmk ⟨A.fit.1,rfl⟩ A.hm A.hg;have F:=zmk (A.fill a) A.hm A.hg;unfold zsp oN
 conv=>zeta
 exact must (zC M.hm) (must (zC M.ht) (must rfl (shr<|lk_3 A (z7q (r:=zcB (mended r m q b) m g a) (m:=m) (g:=g) F.hi)<|z7q (r:=r) (m:=m) (g:=g) M.hi)))
theorem z7t {N:Nat}{r:Host}{m g a b q:Int}{u6 u7 u8 u9}(A:LookAt r m g q b) :
 zsr N m g a b q (zeh m g) u6 u7 u8 u9 r.Memory r.Mons r.Buffer r.IoBuffer=some (zkg<|cond (zeN r m g a b) (zeZ (zcB (mended r m q b) m g a) m g a false)<|zeZ r m g a false):=by
 have M:=zmk ⟨A.fit.1,rfl⟩ A.hm A.hg;have F:=zmk (A.fill a) A.hm A.hg;unfold zsr oN
 conv=>zeta
 exact must (zC M.hm) (must (zC M.ht) (must rfl (shr<|lk_3 A (z7s (r:=zcB (mended r m q b) m g a) (m:=m) (g:=g) F.hb)<|z7s (r:=r) (m:=m) (g:=g) M.hb)))
theorem z7u {N:Nat}{r:Host}{m g b a q:Int}{e:Bool}{u6 u7 u8 u9}(A:LookAt r m g q a) :
 zss N m g b a e q u6 u7 u8 u9 r.Memory r.Mons r.Buffer r.IoBuffer=some (zkg<|zgI r (ztf r e) m g b a q e):=by
 unfold zss oN
 conv=>zeta
 cases e
 .show _=some (zkg<|zgI r r.Buffer m g b a q false)
  refine zdp rfl (must rfl (shr (must rfl (br (λc=>must rfl (br (λd=>?_) λd=>?_)) λc=>?_))))
  .rw [zEf<|zoj c d];rfl
  .rw [zom<|zoj c d];exact z7t A
  .rw [zom<|zEc c];exact z7t A
 .show _=some (zkg<|zgI r r.IoBuffer m g b a q true)
  refine must rfl (must rfl (shr (must rfl (br (λc=>must rfl (br (λd=>?_) λd=>?_)) λc=>?_))))
  .rw [zEf<|zoj c d];rfl
  .rw [zom<|zoj c d];exact z7r A
  .rw [zom<|zEc c];exact z7r A
theorem zbaW (r:Host)(m q:Int)(a:Bool):ztf (zbJ r m q) a=ztf r a:=by cases a<;>rfl
theorem z7v {N:Nat}{r:Host}{m g b a:Int}{c:Bool}{z1 z2 z3 z4}(k:SmH r)(hg:zbY r m g=true)(h:zgw a=true) :
 zst N m g b a c z1 z2 z3 z4 r.Memory r.Mons r.Buffer r.IoBuffer (ix r.Mons m mZ).Guests=some (zkg (lookOf r (ztf r c) m g b a c)):=by
 obtain⟨l,f,i⟩:=zda hg;unfold zst oN nB
 conv=>zeta
 refine must (zC i) (must rfl (brN (fun e=>?_) (fun e=>?_)))
 .have:zb2 r m g b a=false:=by
   unfold zb2;rw[hg,h,show zeP (zcx r m g) b a=false from e];rfl
  rw[zh5 this];rfl
 .have hl:zb2 r m g b a=true:=by
   unfold zb2;rw[hg,h,show zeP (zcx r m g) b a=true from e];rfl
  obtain⟨A,B⟩:=zDa k hl;rw[zIg hl];have j:hasB (zcg (zcx r m g) b a) (ln (ix r.Mons m mZ).Dirty)=true:=zdX (zcF A.fit.1 f).2.2.2.1 A.hq;refine shr (br (fun d=>?_) (fun d=>?_))
  .rw [d]
   show _=some (zkg (zgI (zbJ r m (zcg (zcx r m g) b a)) (ztf r c) m g b a (zcg (zcx r m g) b a) c))
   rw[<- zbaW r m (zcg (zcx r m g) b a) c];exact must (zC f) (must (zC j) (shr (z7u (r:=zbJ r m (zcg (zcx r m g) b a)) B)))
  .rw [d];exact z7u A
theorem zT7 (a:Host)(b d:Int)(e c:Int)(f:Bool)(s:zzy a b d e c f=true):∃N,zI5 N a b d e c f=some [aH<|zzv a b d e c f,aI<|zzw a b d e c f,aB<|zzx a b d e c f]:=by
 have i:=(zU a).1 (zQ.1 s);refine⟨0,?_⟩;show _=some (zkg<|lookOf a (ztf a f) b d e c f);unfold zI5 oN nB;conv=>zeta
 refine must (zbq<|(zU _).2 i) (must (zbq<|(zU _).2 i)<|shr (must rfl (brN (λj=>?_) λj=>?_)));{rw [zh5<|zon<|zMU j];rfl};refine brN (λg=>?_) (λg=>?_);{rw [zh5<|zon<|zMV g];rfl};have q:zcJ a b=ix a.Mons b mZ:=(by unfold zcJ;rw[show hasB b (ln a.Mons)=true from g];rfl);rw[q];refine must rfl (brN (λk=>?_) λk=>?_);{rw [zh5<|zon<|zMW k];rfl};have hg:=zMX j g k;have m:∀{n:Int},zgw n=false->zb2 a b d e n=false:=λ{n} h=>(by unfold zb2;rw[hg,h];rfl);rw[zmg,zmg];cases l:ieq c 1;{cases p:ieq c 2;{have:zgw c=false:=(by unfold zgw;rw[l,p];rfl);rw[zh5<|m this];rfl};{exact z7v (r:=a) i hg (by unfold zgw;rw[l,p];rfl)}};{exact z7v (r:=a) i hg (by unfold zgw;rw[l];rfl)}
theorem zNp:vM 286 zDs:=kF6 zia zA zcc zhi zVW zT7
def z7c:zbb:=[(286,zDs),(75,zqL)]++znz
theorem zS9:zS z7c:=zi zNp (zi zHJ zia)
@[simp] abbrev zzs (h:Host)(m g b a:Int):Bool:=pc (zdI h)
@[simp] abbrev zth (h:Host)(m g page need:Int):Host:=(lookOf h h.Buffer m g page need false).1
@[simp] abbrev zti (h:Host)(m g page need:Int):Int:=(lookOf h h.Buffer m g page need false).2.1
@[simp] abbrev zzr (h:Host)(m g b a:Int):Bool:=(lookOf h h.Buffer m g b a false).2.2
def zDo:Run:=rF5 dH dI dI dI dI λb c d e f=>(zzs b c d e f,[aH<|zth b c d e f,aI<|zti b c d e f,aB<|zzr b c d e f])
def zIU (N:Nat)(a:Host)(b c:Int)(d e:Int):OA:=
 (oN (zzy a b c d e false)<|some [aH<|zzv a b c d e false,aI<|zzw a b c d e false,aB<|zzx a b c d e false])
theorem zTW (a:Host)(b c:Int)(d e:Int)(f:zzs a b c d e=true):∃N,zIU N a b c d e=some [aH<|zth a b c d e,aI<|zti a b c d e,aB<|zzr a b c d e]:=by refine⟨0,?_⟩;unfold zIU oN;exact must f rfl
theorem zM9:vM 150 zDo:=kF5 zS9 zA zcc zhi (zx []) zTW
def z7d:zbb:=[(150,zDo)]++z7c
theorem z4x:zS z7d:=zi zM9 zS9
def brought (n a b:Int):Int:=bif ilt n a then a else (cond (ilt b a) a<|zN2 n b)
@[simp] abbrev zrx (_ _ _:Int):Bool:=true
@[simp] abbrev zsi (n a b:Int):Int:=brought n a b
def zsM:Run:=rF3 dI dI dI λb c d=>(zrx b c d,[aI<|zsi b c d])
def zFA (N:Nat)(b a c:Int):OA:=
 (cond (ilt c a) (some [aI a])<|cond (ilt b a) (some [aI a])<|cond (igt b c) (some [aI c])<|some [aI b])
theorem zRt (a b c:Int)(g:zrx a b c=true):∃N,zFA N a b c=some [aI<|zsi a b c]:=by refine⟨0,?_⟩;unfold zFA;unfold zsi brought zN2;cases d:ilt c b<;>cases e:ilt a b<;>cases f:igt a c<;>simp [igt] at * <;> omega
theorem zvO:vM 393 zsM:=kF3 zqp zA zy zq (zx []) zRt
structure RI (a:List Bare) (i:Nat) (l:List Bare):Prop where
 len:l.length=a.length
 sm:zYS l
 eq:∀k,i<=k->l[k]?=a[k]?
theorem RI.up {a l:List Bare}{i:Nat}(h:RI a i l)(x:Bare)(b:SmB x):RI a (i+1) (up l (i:Int) x):=
 ⟨by rw[zhy];exact h.len,z9A h.sm b,λk c=>by rw[zbaj (by omega)];exact h.eq k (by omega)⟩
structure RJ (l:List Bare) (i:Nat) (l':List Bare):Prop where
 len:l'.length=l.length
 sm:SmB (ix l' (i:Int) zWj)
 up:∀x,E.up l' (i:Int) x=E.up l (i:Int) x
theorem RJ.next {l a:List Bare}{i:Nat}(h:RJ l i a)(b:i<l.length)(x:Bare)(c:SmB x):RJ l i (E.up a (i:Int) x):=
 ⟨by rw[zhy];exact h.len,by rw[zel (by rw[h.len];exact b)];exact c,λy=>by rw[zwA];exact h.up y⟩
def z1G:zbb:=[(161,zqI)]++z7d
theorem zP1:zS z1G:=zi zuo z4x
def zqJ:Run:=rF3 dH dI dI λb c d=>(zcT b c d,[aH<|zcl b c d,aB<|zcm b c d])
abbrev zh1 (a:Host)(b c:Int):Int :=
 (zg2<|ix (zcJ a b).Guests c zu)
abbrev zdk (a:Host)(b c:Int):Int :=
 (zht<|ix (zcJ a b).Guests c zu)
abbrev zxo (a:Host)(b c:Int):Host :=
 (zth a b c (zb0<|zh1 a b c)<|zc8<|ieq (zdk a b c) 4)
abbrev zh0 (a:Host)(b c:Int):Guest :=
 (ix (ix (zl a).Mons b zh).Guests c zu)
abbrev zlY (c:lN)(a b:Int):Guest :=
 (ix (ix c a zh).Guests b zu)
abbrev zxp (a:Host)(b c:Int):Int :=
 (zti a b c (zb0<|zh1 a b c)<|zc8<|ieq (zdk a b c) 4)
def zlZ (N:Nat)(f:Host)(c d:Int):OA:=
 let j:=zxp f c d;let h:=ieq (zdk f c d) 4;let a:=zh1 f c d;let b:=zxo f c d;let k:=inb c<|ln b.Mons;let e:=ix (zcJ f c).Guests d zu;let g:=ix b.Mons c zh;let l:=inb d<|ln g.Guests; (oN (zbX a)<|oN (zkn h)<|oN (zzs f c d (zb0 a)<|zc8 h)<|cond (nB<|zzr f c d (zb0 a)<|zc8 h) (oN (zbX a)<|oN (zgo (zb0 a) h)<|oN (zcO e<|zeq (zb0 a) h)<|oN k<|oN l<|share (up b.Mons c ({g with Guests:=(up g.Guests d<|zcy e<|zeq (zb0 a) h)}:Mon)) λi=>some [aH ({b with Mons:=i}:Host),aB true])<|cond h (oN (zbX a)<|oN (zfk b.Memory j (zdf a) e.A)<|oN (zN e)<|oN k<|oN l<|share (up b.Mons c ({g with Guests:=(up g.Guests d<|zch e)}:Mon)) λi=>some [aH ({b with Memory:=(zft b.Memory j (zdf a) e.A),Mons:=i}:Host),aB true])<|oN (zbX a)<|oN (zfv b.Memory j<|zdf a)<|oN (zmA e<|zgB b.Memory j<|zdf a)<|oN k<|oN l<|share (up b.Mons c ({g with Guests:=(up g.Guests d<|zkl e<|zgB b.Memory j<|zdf a)}:Mon)) λi=>some [aH ({b with Mons:=i}:Host),aB true])
def zl0 (N:Nat)(f:Host)(a b:Int)(d:lN):OA:=
 let c:=zlY d a b;let e:=ix d a zh;let g:=({ (zh0 f a b) with Prog:=c.Prog,Written:=c.Written,Live:=c.Live,Seen:=c.Seen}:Guest); (oN (zN g)<|oN (inb b<|ln e.Guests)<|share (up d a ({e with Guests:=(up e.Guests b<|zch g)}:Mon)) λh=>some [aH ({ (zl f) with Mons:=h}:Host),aB true])
def zl1 (N:Nat)(e:Host)(a d:Int):OA:=
 let g:=(zl e).Mons;let c:=zh0 e a d;let b:=ix g a zh;let h:=ap b.Outs [(zdF c.Prog c.Pc).X]; (cond (ieq (zdk e a d) 7) (oN (zN c)<|oN (inb d<|ln b.Guests)<|share (up g a ({b with Guests:=(up b.Guests d<|zkH c)}:Mon)) λf=>some [aH ({ (zl e) with Mons:=f}:Host),aB true])<|cond (ilt (ln b.Outs) 40) (oN (zdN c.Prog c.Pc)<|oN (few<|ln h)<|oN (cond (ieq a a) true false)<|share (up g a ({b with Outs:=h}:Mon)) λf=>zl0 N e a d f)<|oN (zN c)<|oN (inb d<|ln b.Guests)<|share (up g a ({b with Guests:=(up b.Guests d<|zch c)}:Mon)) λf=>some [aH ({ (zl e) with Mons:=f}:Host),aB true])
def zl2 (N:Nat)(a:Int)(g:Host)(b:Int):OA:=
 let f:=zl g;let j:=zdk g a b;let d:=zh0 g a b;let c:=ix f.Mons a zh;let l:=zj0 c.Traps d.Ctl.Traps<|zie j; (oN (inb a<|ln f.Mons)<|oN (inb b<|ln c.Guests)<|oN (zoQ j)<|oN (znp c.Traps d.Ctl.Traps<|zie j)<|cond (ieq l 1) (oN (zm5 d j)<|oN (inb b<|ln c.Guests)<|share (up f.Mons a ({c with Guests:=(up c.Guests b<|zjY d j)}:Mon)) λe=>some [aH ({f with Mons:=e}:Host),aB true])<|cond (ieq l 2) (cond (ilt c.Own 1000000000) (share (up f.Mons a ({c with Own:=(zM .i64 c.Own 1)}:Mon)) (λe=>let i:=ix e a zh;let h:=zlY e a b;let k:=ap i.Outs [(zdF h.Prog d.Pc).X];let q:=({d with Prog:=h.Prog,Written:=h.Written,Live:=h.Live,Seen:=h.Seen}:Guest); (cond (ieq j 7) (oN (zN q)<|oN (inb b<|ln i.Guests)<|share (up e a ({i with Guests:=(up i.Guests b<|zkH q)}:Mon)) λm=>some [aH ({f with Mons:=m}:Host),aB true])<|cond (ilt (ln i.Outs) 40) (oN (zdN h.Prog d.Pc)<|oN (few<|ln k)<|oN (cond (ieq a a) true false)<|share (up e a ({i with Outs:=k}:Mon)) (λm=>let p:=ix m a zh;let n:=ix p.Guests b zu;let r:=({d with Prog:=n.Prog,Written:=n.Written,Live:=n.Live,Seen:=n.Seen}:Guest); (oN (zN r)<|oN (inb b<|ln p.Guests)<|share (up m a ({p with Guests:=(up p.Guests b<|zch r)}:Mon)) λs=>some [aH ({f with Mons:=s}:Host),aB true])))<|zl0 N g a b e)))<|zl1 N g a b)<|zl1 N g a b)
def zji (N:Nat)(a:Host)(b c:Int):OA:=
 (oN (zgX a b)<|oN (zdl (zqx a b) c)<|oN (inb b<|ln (zl a).Mons)<|share (up (zl a).Mons b ({ (ix (zl a).Mons b zh) with Guests:=(zjs (zqx a b) c).Guests}:Mon)) λd=>some [aH ({ (zl a) with Mons:=d}:Host),aB true])
def zgx (N:Nat)(a:Host)(b c:Int):OA:=
 let d:=zdk a b c; (cond (ieq d 5) (cond (ieq d 5) (zl2 N b a c)<|zji N a b c)<|cond (ieq d 7) (zl2 N b a c)<|zji N a b c)
def zBF (N:Nat)(a:Host)(c b:Int):OA:=
 let f:=aH<|zl a;let e:=zdk a c b;let d:=(zcJ a c).Guests;let g:=ix d b zu; (oN (zbC a)<|oN (zgX a c)<|oN (zez a)<|cond (nB<|zeu a) (some [f,aB false])<|cond (nB<|zlp a c) (some [f,aB false])<|oN (zbA b<|ln d)<|cond (nB<|zdo b<|ln d) (some [f,aB false])<|oN (inb b<|ln d)<|oN (zbs g)<|cond (ieq e 0) (some [f,aB false])<|oN (inb b<|ln d)<|oN (zbs g)<|oN (zbs g)<|cond (ieq e 3) (cond (ieq e 3) (zlZ N a c b)<|zgx N a c b)<|cond (ieq e 4) (zlZ N a c b)<|zgx N a c b)
theorem zUB {h:Host}{m:Int}(a:hasB m (ln h.Mons)=true):zcJ h m=ix h.Mons m mZ:=by unfold zcJ;rw[a];rfl
theorem is_1 {N:Nat}{a:Host}{c d:Int}(l:SmH a)(p:zbY a c d=true) :
 zlZ N a c d=some (zev (zhu (ziq a c d (gOf a c d)<|ieq (zL<|gOf a c d) 4) c d (gOf a c d)<|ieq (zL<|gOf a c d) 4,true)):=by
 obtain⟨s,i,n⟩:=zda p;have m:=zkP l i n;have k:=ztN (b:=a.Buffer) (page:=zbk (address<|gOf a c d)) (need:=zca (ieq (zL<|gOf a c d) 4)) (io:=false) l p;have F:=zmk k i n;have g:=zUB i;have e:zdk a c d=zL (gOf a c d):=by show zht (ix (zcJ a c).Guests d gZ)=_;rw[g];rfl
 have f:zh1 a c d=address (gOf a c d):=by show zg2 (ix (zcJ a c).Guests d gZ)=_;rw[g];rfl
 have q:zxo a c d=(ziq a c d (gOf a c d)<|ieq (zL<|gOf a c d) 4).1:=by show zth a c d (zb0<|zh1 a c d) (zc8<|ieq (zdk a c d) 4)=_;rw[e,f];rfl
 have r:zxp a c d=(ziq a c d (gOf a c d)<|ieq (zL<|gOf a c d) 4).2.1:=by show zti a c d (zb0<|zh1 a c d) (zc8<|ieq (zdk a c d) 4)=_;rw[e,f];rfl
 unfold zlZ oN nB
 conv=>zeta
 rw[q,e,f,r,g];unfold zhu;refine must rfl (must rfl (must (zbq<|(zU _).2 l)<|brN (λh=>?_) λh=>?_))
 .rw [show (ziq a c d (gOf a c d)<|ieq (zL<|gOf a c d) 4).2.2=false from h]
  exact must rfl (must rfl (must (zbq m)<|must (zC F.hm) (must (zC F.hg) rfl)))
 .rw [show (ziq a c d (gOf a c d)<|ieq (zL<|gOf a c d) 4).2.2=true from h]
  refine br (λj=>?_) (λj=>?_)
  .have kk:=k.shape.1.1;rw[j] at F kk ⊢;exact must rfl (must (zbq kk)<|must (zbq m)<|must (zC F.hm) (must (zC F.hg) rfl))
  .rw [j] at F ⊢;exact must rfl (must rfl (must (zbq m)<|must (zC F.hm) (must (zC F.hg) rfl)))
theorem is_2 {N:Nat}{c:Host}{d:List Mon}{a b:Int}(g:SmG (gOf c a b))(f:hasB b (ln (ix d a mZ).Guests)=true)(e:zlY d a b=zh0 c a b) :
 zl0 N c a b d=some (zev (zgs {c with Mons:=d} a b<|zb7<|gOf c a b,true)):=by
 unfold zl0 oN
 conv=>zeta
 rw[e];exact must (zbq g) (must (zC f) rfl)
def leftG (x:Guest)(w:Int):Guest:=bif ieq w 7 then held x else zb7 x
def zzH (h:Host)(m:Int)(x:Guest)(w:Int):Host:=bif ieq w 7 then h else zif h m (zci x.Prog x.Pc).X
theorem zx3 {h:Host}{m:Int}{x:Guest}{w:Int}(a:ieq w 7=true):leftG x w=held x/\zzH h m x w=h:=by unfold leftG zzH;rw[a];exact⟨rfl,rfl⟩
theorem zm9 {h:Host}{m:Int}{x:Guest}{w:Int}(a:ieq w 7=false):leftG x w=zb7 x/\zzH h m x w=zif h m (zci x.Prog x.Pc).X:=by unfold leftG zzH;rw[a];exact⟨rfl,rfl⟩
theorem zYk {h:Host}{m n:Int}(a:ilt (ln (ix h.Mons m mZ).Outs) 40=true):zif h m n={h with Mons:=up h.Mons m {ix h.Mons m mZ with Outs:=ap (ix h.Mons m mZ).Outs [n]}}:=by unfold zif;rw[a];rfl
theorem zYj {h:Host}{m n:Int}(a:ilt (ln (ix h.Mons m mZ).Outs) 40=false):zif h m n=h:=by unfold zif;rw[a];rfl
theorem is_3 {N:Nat}{b:Host}{a c:Int}(k:SmH b)(g:hasB a (ln b.Mons)=true)(e:hasB c (ln (ix b.Mons a mZ).Guests)=true)(j:zdk b a c=zL (gOf b a c)) :
 zl1 N b a c=some (zev (zgs (zzH b a (gOf b a c)<|zL<|gOf b a c) a c<|leftG (gOf b a c)<|zL<|gOf b a c,true)):=by
 have i:=zkP k g e;unfold zl1 oN
 conv=>zeta
 rw[j];refine br (λd=>?_) (λd=>br (λf=>?_) λf=>?_)
 .rw [(zx3 (x:=gOf b a c) (h:=b) (m:=a) d).1,(zx3 (x:=gOf b a c) d).2];exact must (zbq i) (must (zC e) rfl)
 .rw [(zm9 (x:=gOf b a c) (h:=b) (m:=a) d).1,(zm9 (x:=gOf b a c) d).2,zYk f];refine must rfl (must (zSm f)<|must (zKZ _)<|shr<|is_2 i ?_ ?_)
  .rw [zo0 g];exact e
  .show ix (ix (up b.Mons a _) a mZ).Guests c gZ=_
   rw[zo0 g]
 .rw [(zm9 (x:=gOf b a c) (h:=b) (m:=a) d).1,(zm9 (x:=gOf b a c) d).2,zYj f];exact must (zbq i) (must (zC e) rfl)
theorem zbaM {h:Host}{m g:Int}{x:Guest}{w:Int}(d:ieq w 6=false)(c:ieq w 5=false->ieq w 6=false->ieq w 7=true)(e:zdW x.Ctl.Traps (zfJ w)=false):zkw h m g x w=zgs (zzH (zeE h m x w) m x w) m g (leftG x w):=by unfold zkw;cases b:ieq w 7;{have a:ieq w 5=true:=(by cases a:ieq w 5;{have:=c a d;rw[b] at this;cases this};{rfl});obtain⟨f,i⟩:=tr3 x x.Ctl.Traps w d b e a;rw[(zm9 (x:=x) (h:=zeE h m x w) (m:=m) b).1,(zm9 (x:=x) b).2,f];unfold zgU;rw[i,a];rfl};{have a:ieq w 5=false:=(by have:w=7:=qD b;rw[this];rfl);rw[(zx3 (x:=x) (h:=zeE h m x w) (m:=m) b).1,(zx3 (x:=x) b).2,tr4 x x.Ctl.Traps w d c e a,zDR a]}
theorem is_p {f:Host}{d:List Mon}{a c:Int}(h:SmG (gOf f a c))(g:hasB c (ln (ix d a mZ).Guests)=true)(e:(ix (ix d a zh).Guests c zu)=gOf f a c) :
 (cond (zN ({ (ix (ix (zl f).Mons a zh).Guests c zu) with Prog:=(ix (ix d a zh).Guests c zu).Prog,Written:=(ix (ix d a zh).Guests c zu).Written,Live:=(ix (ix d a zh).Guests c zu).Live,Seen:=(ix (ix d a zh).Guests c zu).Seen}:Guest)) (cond (inb c<|ln (ix d a zh).Guests) (share (up d a ({ (ix d a zh) with Guests:=(up (ix d a zh).Guests c<|zch ({ (ix (ix (zl f).Mons a zh).Guests c zu) with Prog:=(ix (ix d a zh).Guests c zu).Prog,Written:=(ix (ix d a zh).Guests c zu).Written,Live:=(ix (ix d a zh).Guests c zu).Live,Seen:=(ix (ix d a zh).Guests c zu).Seen}:Guest))}:Mon)) λi=>some [.agg<|zbl ({ (zl f) with Mons:=i}:Host),.one<|.b true]) none) none)=some (zev (zgs {f with Mons:=d} a c<|zb7<|gOf f a c,true)):=by
 rw[e];exact must (zbq h) (must (zC g) rfl)
theorem is_o {f:Host}{d:List Mon}{a c:Int}(l:SmG (gOf f a c))(n:hasB a (ln d)=true)(k:hasB c (ln (ix d a mZ).Guests)=true)(e:(ix (ix d a zh).Guests c zu)=gOf f a c) :
 (cond (ieq (zL<|gOf f a c) 7) (cond (zN ({ (ix (ix (zl f).Mons a zh).Guests c zu) with Prog:=(ix (ix d a zh).Guests c zu).Prog,Written:=(ix (ix d a zh).Guests c zu).Written,Live:=(ix (ix d a zh).Guests c zu).Live,Seen:=(ix (ix d a zh).Guests c zu).Seen}:Guest)) (cond (inb c<|ln (ix d a zh).Guests) (share (up d a ({ (ix d a zh) with Guests:=(up (ix d a zh).Guests c<|zkH ({ (ix (ix (zl f).Mons a zh).Guests c zu) with Prog:=(ix (ix d a zh).Guests c zu).Prog,Written:=(ix (ix d a zh).Guests c zu).Written,Live:=(ix (ix d a zh).Guests c zu).Live,Seen:=(ix (ix d a zh).Guests c zu).Seen}:Guest))}:Mon)) λg=>some [.agg<|zbl ({ (zl f) with Mons:=g}:Host),.one<|.b true]) none) none)<|cond (ilt (ln (ix d a zh).Outs) 40) (cond (zdN (ix (ix d a zh).Guests c zu).Prog (ix (ix (zl f).Mons a zh).Guests c zu).Pc) (cond (few<|ln<|ap (ix d a zh).Outs [(zdF (ix (ix d a zh).Guests c zu).Prog (ix (ix (zl f).Mons a zh).Guests c zu).Pc).X]) (cond (cond (ieq a a) true false) (share (up d a ({ (ix d a zh) with Outs:=(ap (ix d a zh).Outs [(zdF (ix (ix d a zh).Guests c zu).Prog (ix (ix (zl f).Mons a zh).Guests c zu).Pc).X])}:Mon)) λg=>cond (zN ({ (ix (ix (zl f).Mons a zh).Guests c zu) with Prog:=(ix (ix g a zh).Guests c zu).Prog,Written:=(ix (ix g a zh).Guests c zu).Written,Live:=(ix (ix g a zh).Guests c zu).Live,Seen:=(ix (ix g a zh).Guests c zu).Seen}:Guest)) (cond (inb c<|ln (ix g a zh).Guests) (share (up g a ({ (ix g a zh) with Guests:=(up (ix g a zh).Guests c<|zch ({ (ix (ix (zl f).Mons a zh).Guests c zu) with Prog:=(ix (ix g a zh).Guests c zu).Prog,Written:=(ix (ix g a zh).Guests c zu).Written,Live:=(ix (ix g a zh).Guests c zu).Live,Seen:=(ix (ix g a zh).Guests c zu).Seen}:Guest))}:Mon)) λp=>some [.agg<|zbl ({ (zl f) with Mons:=p}:Host),.one<|.b true]) none) none) none) none) none)<|cond (zN ({ (ix (ix (zl f).Mons a zh).Guests c zu) with Prog:=(ix (ix d a zh).Guests c zu).Prog,Written:=(ix (ix d a zh).Guests c zu).Written,Live:=(ix (ix d a zh).Guests c zu).Live,Seen:=(ix (ix d a zh).Guests c zu).Seen}:Guest)) (cond (inb c<|ln (ix d a zh).Guests) (share (up d a ({ (ix d a zh) with Guests:=(up (ix d a zh).Guests c<|zch ({ (ix (ix (zl f).Mons a zh).Guests c zu) with Prog:=(ix (ix d a zh).Guests c zu).Prog,Written:=(ix (ix d a zh).Guests c zu).Written,Live:=(ix (ix d a zh).Guests c zu).Live,Seen:=(ix (ix d a zh).Guests c zu).Seen}:Guest))}:Mon)) λg=>some [.agg<|zbl ({ (zl f) with Mons:=g}:Host),.one<|.b true]) none) none)=some (zev (zgs (zzH {f with Mons:=d} a (gOf f a c)<|zL<|gOf f a c) a c<|leftG (gOf f a c)<|zL<|gOf f a c,true)):=by
 rw[e];refine br (λi=>?_) (λi=>br (λj=>?_) λj=>?_)
 .rw [(zx3 (x:=gOf f a c) (h:={f with Mons:=d}) (m:=a) i).1,(zx3 (x:=gOf f a c) i).2];exact must (zbq l) (must (zC k) rfl)
 .rw [(zm9 (x:=gOf f a c) (h:={f with Mons:=d}) (m:=a) i).1,(zm9 (x:=gOf f a c) i).2,zYk (h:={f with Mons:=d}) j];refine must rfl (must (zSm j)<|must (zKZ _)<|shr<|is_p l ?_ ?_)
  .rw [zo0 (h:={f with Mons:=d}) n];exact k
  .show ix (ix (up d a _) a mZ).Guests c gZ=_
   rw[zo0 (h:={f with Mons:=d}) n];exact e
 .rw [(zm9 (x:=gOf f a c) (h:={f with Mons:=d}) (m:=a) i).1,(zm9 (x:=gOf f a c) i).2,zYj (h:={f with Mons:=d}) j];exact must (zbq l) (must (zC k) rfl)
theorem tf (b:Bool):b=false\/b=true:=by cases b<;>simp
theorem is_4 {N:Nat}{a:Host}{b c:Int}(r:SmH a)(d:hasB b (ln a.Mons)=true)(e:hasB c (ln (ix a.Mons b mZ).Guests)=true)(q:zdk a b c=zL (gOf a b c))(l:ieq (zL<|gOf a b c) 6=false)(f:ieq (zL<|gOf a b c) 5=false->ieq (zL<|gOf a b c) 6=false->ieq (zL<|gOf a b c) 7=true) :
 zl2 N b a c=some (zev (zkw a b c (gOf a b c)<|zL<|gOf a b c,true)):=by
 have s:=zkP r d e;have n:=is_3 (N:=N) r d e q;have g:ine (zL<|gOf a b c) 6=true:=by rw[zmg,l];rfl
 unfold zl2 oN
 conv=>zeta
 rw[q];refine must (zC d) (must (zC e) (must rfl (must rfl ?_)));rw[show ieq (zj0 (ix a.Mons b zh).Traps (zh0 a b c).Ctl.Traps<|zie<|zL<|gOf a b c) 1=zdW (gOf a b c).Ctl.Traps (zfJ<|zL<|gOf a b c) from zbaz _ _ _]
 refine br (λh=>?_) (λh=>?_)
 .obtain⟨e1,e2⟩:=tr2 (gOf a b c) (gOf a b c).Ctl.Traps _ l f h;have i:zeE a b (gOf a b c) (zL<|gOf a b c)=a:=by unfold zeE;rw[g,zbaA h];rfl
  unfold zkw;rw[i,zMl e2,e1];exact must (zbq s) (must (zC e) rfl)
 .rw [zbaM l f h];have i:zeE a b (gOf a b c) (zL<|gOf a b c)=bif ieq (zmT (ix a.Mons b mZ).Traps (gOf a b c).Ctl.Traps<|zfJ<|zL<|gOf a b c) 2 then owned a b else a:=by unfold zeE;rw[g];rfl
  rw[i];refine br (λm=>?_) (λm=>?_)
  .rw [show ieq (zmT (ix a.Mons b mZ).Traps (gOf a b c).Ctl.Traps<|zfJ<|zL<|gOf a b c) 2=true from m]
   simp only[cT];unfold owned;refine br (λk=>?_) (λk=>?_)
   rotate_left
   .rw [k];exact n
   rw[k];refine shr ?_;have p:=zo0 d {ix a.Mons b mZ with Own:=zM .i64 (ix a.Mons b mZ).Own 1};have j:hasB b (ln<|up a.Mons b {ix a.Mons b mZ with Own:=zM .i64 (ix a.Mons b mZ).Own 1})=true:=ze4 d;have t:zlY (up a.Mons b {ix a.Mons b mZ with Own:=zM .i64 (ix a.Mons b mZ).Own 1}) b c=zh0 a b c:=by show ix (ix (up a.Mons b _) b mZ).Guests c gZ=_;rw[p]
   refine is_o s j ?_ t;rw[p];exact e
  .rw [show ieq (zmT (ix a.Mons b mZ).Traps (gOf a b c).Ctl.Traps<|zfJ<|zL<|gOf a b c) 2=false from m]
   exact n
theorem z4Q {N:Nat}{a:Host}{b c:Int}(r:SmH a)(q:zbY a b c=true)(m:ieq (zL<|gOf a b c) 0=false){y:Guest}{o:List Int}(s:(stepped (zK a b) c (gOf a b c)<|zL<|gOf a b c).Guests=up (ix a.Mons b mZ).Guests c y)(p:SmB (zK a b)) :
 zji N a b c=some (zev (zgs a b c y,true)):=by
 obtain⟨k,f,l⟩:=zda q;have g:=zwP k f;have i:(zK a b).Guests=(ix a.Mons b mZ).Guests:=by unfold zK;rw[f];rfl
 have e:hasB c (ln (zK a b).Guests)=true:=by rw[i];exact l
 have h:gAt (zK a b) c=gOf a b c:=by unfold gAt;rw[e,i];rfl
 have d:zg9 (zK a b) c=true:=by unfold zg9;rw[e,g,h,m];rfl
 have j:ze5 (zK a b) c=stepped (zK a b) c (gOf a b c) (zL<|gOf a b c):=by unfold ze5;rw[d,h];rfl
 have n:(zjs (zqx a b) c).Guests=up (ix a.Mons b mZ).Guests c y:=by show (ze5 (zK a b) c).Guests=_;rw[j,s]
 unfold zji oN;rw[n];exact must (zbq<|(zU _).2 r) (must (zbq p) (must (zC f) rfl))
theorem zIA {h:Host}{m:Int}(g:SmH h)(f:hasB m (ln h.Mons)=true):SmB (zK h m):=by
 have b:=g.2.1.2 _ (zbK f mZ);have e:∀(d:List (List Int)) (q:Int),SmM d->(zcG d q).length<=1048576:=λd q h=>zVz h;have c:∀p:Int,(zcR h m p).length<=1048576:=by intro p;unfold zcR;cases hasB m (ln h.Mons);{exact(by decide:zz8.length<=1048576)};{cases hasB p 8;{exact(by decide:zz8.length<=1048576)};{simp only [cT];cases ine (zbH (ix h.Mons m zh).Outer p).Page (-1);{exact e _ _ b.2.1};{exact e _ _ g.1}}}
 have j:∀(n i:Nat),∀x∈zcH h m n i,x.length<=1048576:=by
  intro n
  induction n with
  |zero=>intro i x a;cases a
  |succ n k=>intro i x a;rcases qG.1 a with rfl|a;{exact c _};{exact k (i+1) x a}
 unfold zK;rw[f];exact⟨⟨by show (zcH h m 8 0).length<=1048576;rw[zzN];decide,j 8 0⟩,b.2.2.2.1,b.2.2.2.2.1⟩
theorem zwV (b:Bare)(g:Int)(x:Guest):(zd6 b g x).Guests=up b.Guests g x:=rfl
theorem zN8 (a:Host)(b c:Int)(q:zbL big [aH a,aI b,aI c])(B:zcT a b c=true):∃N,zBF N a b c=some [aH (zcl a b c),aB (zcm a b c)]:=by
 have g:=(zU a).1 (zQ.1 B);refine⟨0,?_⟩;show _=some (zev (zbg a b c));unfold zBF oN nB;conv=>zeta
 refine must (zbq ((zU _).2 g)) (must (zbq ((zU _).2 g)) (must rfl (brN (fun u=>?_) (fun u=>brN (fun l=>?_) (fun l=>?_)))));{rw [ziB (zMU u)];rfl};{rw [ziB (zMV l)];rfl};have y:=zUB (h:=a) (m:=b) l;have n:zdk a b c=zL (gOf a b c):=(by show zht (ix (zcJ a b).Guests c gZ)=_;rw[y];rfl);rw[y,n];refine must rfl (brN (fun p=>?_) (fun p=>?_));{rw [ziB (zMW p)];rfl};have j:=zMX u l p;have s:hasB b (ln a.Mons)=true:=l;have t:hasB c (ln (ix a.Mons b mZ).Guests)=true:=p;have q:=zIA g s;have r:(zK a b).Guests=(ix a.Mons b mZ).Guests:=(by unfold zK;rw[s];rfl);rw[zi9 j];unfold zMe;refine must (zC t) (must rfl (br (fun d=>?_) (fun d=>must (zC t) (must rfl (must rfl (br (fun i=>must i ?_) (fun i=>br (fun k=>?_) (fun k=>?_))))))));{rw [d];rfl};{have e:zL (gOf a b c)=3:=qD i;have T:=is_1 (N:=0) g j;rw[T];rw[e];rfl};{have e:zL (gOf a b c)=4:=qD k;have T:=is_1 (N:=0) g j;rw[T];rw[e];rfl}
 .have fin:∀{R:Host×Bool},zgx 0 a b c=some (zev R)->R=(bif ieq (zL (gOf a b c)) 0 then (a,false) else (bif ieq (zL (gOf a b c)) 1 then (zgs a b c (interrupted (gOf a b c)),true) else (bif ieq (zL (gOf a b c)) 2 then (zgs a b c (plainly (gOf a b c)),true) else
   (cond (cond (ieq (zL (gOf a b c)) 3) true (ieq (zL (gOf a b c)) 4)) (zhu (ziq a b c (gOf a b c) (ieq (zL (gOf a b c)) 4)) b c (gOf a b c) (ieq (zL (gOf a b c)) 4),true) (zkw a b c (gOf a b c) (zL (gOf a b c)),true)))))->zgx 0 a b c=_:=fun h e=>h.trans (congrArg (fun x=>some (zev x)) e)
  have w:ieq (zL (gOf a b c)) 5=false->ieq (zL (gOf a b c)) 7=false->zgx 0 a b c=zji 0 a b c:=by
   intro v A;unfold zgx;conv=>zeta
   rw[n];exact zdp v (zdp A rfl)
  rcases tf (ieq (zL (gOf a b c)) 1) with f|f
  .rcases tf (ieq (zL (gOf a b c)) 2) with w2|w2
   .rcases tf (ieq (zL (gOf a b c)) 6) with w6|w6
    .have h57:ieq (zL (gOf a b c)) 5=false->ieq (zL (gOf a b c)) 6=false->ieq (zL (gOf a b c)) 7=true:=fun v z=>z0W _ d f w2 i k v z;have T:=is_4 (N:=0) g s t n w6 h57;refine fin (R:=(zkw a b c (gOf a b c) (zL (gOf a b c)),true)) ?_ (by rw[d,f,w2,i,k];rfl);unfold zgx;conv=>zeta
     rw[n];cases C:ieq (zL (gOf a b c)) 5;{exact zdp rfl (must (h57 C w6) T)};{exact must rfl (must rfl T)}
    {have e:zL (gOf a b c)=6:=qD w6;refine fin (R:=(zgs a b c (zfK (gOf a b c) (gOf a b c).Ctl.Traps (zL (gOf a b c))),true)) ?_ ?_;{rw [w (by rw[e];rfl) (by rw[e];rfl)];refine z4Q (o:=[]) g j d ?_ q;unfold stepped zqX;rw[f,w2,i,k,(tr1 (gOf a b c) (gOf a b c).Ctl.Traps _ w6).2];show (zd6 (zK a b) c _).Guests=_;rw[zwV,r]};{rw [d,f,w2,i,k];unfold zkw zeE;rw[zMl (tr1 (gOf a b c) (gOf a b c).Ctl.Traps _ w6).2,zmg,w6];rfl}}
   {have e:zL (gOf a b c)=2:=qD w2;refine fin (R:=(zgs a b c (plainly (gOf a b c)),true)) ?_ (by rw[d,f,w2];rfl);rw[w (by rw[e];rfl) (by rw[e];rfl)];refine z4Q (o:=[]) g j d ?_ q;unfold stepped;rw[f,w2];show (zd6 (zK a b) c _).Guests=_;rw[zwV,r]}
  {have e:zL (gOf a b c)=1:=qD f;refine fin (R:=(zgs a b c (interrupted (gOf a b c)),true)) ?_ (by rw[d,f];rfl);rw[w (by rw[e];rfl) (by rw[e];rfl)];refine z4Q (o:=[]) g j d ?_ q;unfold stepped;rw[f];show (zd6 (zK a b) c _).Guests=_;rw[zwV,r]}
theorem zup:vM 52 zqJ:=hF3 zP1 zA zcc zhi (zx []) zN8
def z7e:zbb:=[(52,zqJ)]++z1G
theorem z4y:zS z7e:=zi zup zP1
def z7f:zbb:=[(393,zsM)]++z7e
theorem z4z:zS z7f:=zi zvO z4y
def cnt (l:List Mon):List Nat:=l.map λx=>x.Guests.length
theorem z9U {l a:List Mon}(h:zeH a=zeH l):cnt a=cnt l:=by have e:∀l:List Mon,cnt l=(zeH l).map List.length:=λl=>(by simp[cnt,zeH]);rw[e,e,h]
theorem zSV {l:List Mon}{m:Int}{x:Mon}(b:hasB m (ln l)=true)(c:x.Guests.length=(ix l m mZ).Guests.length):cnt (up l m x)=cnt l:=by obtain⟨k,rfl,a⟩:=zef (n:=l.length) b;unfold cnt up;rw[List.map_set,kG,c,zbp a];have:=@u4 _ (l.map λx=>x.Guests.length) k (by simpa using a);simpa using this
theorem z8q {l a:List Mon}(h:cnt a=cnt l):a.length=l.length:=by have:=congrArg List.length h;simpa [cnt] using this
theorem z9V {l b:List Mon}(h:cnt b=cnt l)(m:Int):(ix b m mZ).Guests.length=(ix l m mZ).Guests.length:=by have a:(cnt b)[m.toNat]?=(cnt l)[m.toNat]?:=(by rw[h]);unfold cnt at a;rw[qQ,qQ]at a;unfold ix;simp only[kA];cases c:b[m.toNat]? <;> cases d:l[m.toNat]? <;> rw [c,d]at a<;>simp at a ⊢;exact a
theorem z9h (h:Host)(m p:Int):(zd5 h m p).Memory=h.Memory:=(zgZ (zfp h m p) m p noSlot).2
theorem z9g (h:Host):(zdm h).Memory=h.Memory:=by unfold zdm;cases ieq (ln<|zct h) 0;{rfl};{exact z9h _ _ _}
theorem z9f (m:List (List Int))(p:Int)(c:List Int):(zjb m p c).length=m.length:=by unfold zjb;cases hasB p (ln m);{rfl};{cases zcE c;{rfl};{simp}}
theorem z9d (m:List (List Int))(p c v:Int):(zbQ m p c v).length=m.length:=by unfold zbQ;cases zgv m p c;{rfl};{cases zk v 0 99;{rfl};{simp}}
theorem zZZ (h:Host)(m p:Int):(fetched h m p).Memory.length=h.Memory.length:=by unfold fetched zfC;rw[(zgZ _ _ _ _).2];unfold landing;rw[z9f,z9g]
theorem zUA (h:Host)(m p n:Int):(zke h m p n).Memory=h.Memory:=by unfold zke;cases ieq (wand .i64 n 2) 0;{unfold opened;cases ieq (wand .i64 (ix (ix (zbJ h m p).Mons m mZ).Outer p sZ).Rights 2) 0;{rfl};{exact(zgZ _ _ _ _).2}};{rfl}
theorem z2z (h:Host)(m p n:Int):(mended h m p n).Memory.length=h.Memory.length:=by unfold mended;cases ieq (ix (ix h.Mons m mZ).Outer p sZ).Page (-1);{exact congrArg List.length (zUA _ _ _ _)};{exact(congrArg List.length<|zUA _ _ _ _).trans (zZZ _ _ _)}
theorem z2A (h:Host)(m g p:Int)(a:Bool):(zv3 h m g p a).Memory=h.Memory:=by cases a<;>rfl
theorem z5e (h:Host)(b:List Entry)(m g c a q:Int)(d:Bool):(zgI h b m g c a q d).1.Memory.length=h.Memory.length:=by unfold zgI;cases ziw b m g c a;{cases zeN h m g c a;{exact congrArg List.length (z2A _ _ _ _ _)};{exact(congrArg List.length<|z2A _ _ _ _ _).trans (z2z h m q a)}};{rfl}
theorem z9e (h:Host)(b:List Entry)(m g page need:Int)(io:Bool):(lookOf h b m g page need io).1.Memory.length=h.Memory.length:=by unfold lookOf;cases zb2 h m g page need;{rfl};{simp only [cT];rw[z5e];cases ieq need 2<;>rfl}
structure Keep (h r:Host):Prop where
 shape:Shape r
 cnt:cnt r.Mons=cnt h.Mons
 mem:r.Memory.length=h.Memory.length
theorem Keep.has {h r:Host}(k:Keep h r){m:Int}(a:hasB m (ln h.Mons)=true):hasB m (ln r.Mons)=true:=by rw[ln,z8q k.cnt];exact a
theorem Keep.hg {h r:Host}(k:Keep h r){m g:Int}(hg:hasB g (ln (ix h.Mons m mZ).Guests)=true):hasB g (ln (ix r.Mons m mZ).Guests)=true:=by rw[ln,z9V k.cnt];exact hg
theorem Keep.trans {a b c:Host}(h:Keep a b)(k:Keep b c):Keep a c:=⟨k.shape,k.cnt.trans h.cnt,k.mem.trans h.mem⟩
theorem Keep.rfl' {h:Host}(a:Shape h):Keep h h:=⟨a,rfl,rfl⟩
theorem zol {h:Host}{m g:Int}{x:Guest}(b:Shape h)(a:hasB m (ln h.Mons)=true)(c:SmG x):Keep h (zgs h m g x):=⟨z0J b a c,zSV a (by simp),rfl⟩
theorem zCW {h:Host}{b:List Entry}{m g page need:Int}{io:Bool}(c:SmH h)(a:zbY h m g=true):Keep h (lookOf h b m g page need io).1:=by have k:=ztN (b:=b) (page:=page) (need:=need) (io:=io) c a;exact⟨k.shape,z9U k.gs,z9e _ _ _ _ _ _ _⟩
theorem z2h {h:Host}{p c v:Int}(a:Shape h):Keep h {h with Memory:=zbQ h.Memory p c v}:=⟨zQB a<|zz2 a.1.1,rfl,z9d _ _ _ _⟩
theorem zZL {h:Host}{m:Int}(a:Shape h)(b:hasB m (ln h.Mons)=true):Keep h (owned h m):=by obtain⟨c,d⟩:=zcF a b;unfold owned;cases ilt (ix h.Mons m mZ).Own 1000000000;{exact Keep.rfl' a};{exact⟨zi8 a c d,zSV b rfl,rfl⟩}
theorem zZK {h:Host}{m n:Int}(b:Shape h)(c:hasB m (ln h.Mons)=true):Keep h (zif h m n):=by obtain⟨a,d⟩:=zcF b c;unfold zif;cases e:ilt (ln (ix h.Mons m mZ).Outs) 40;{exact Keep.rfl' b};{have f:=qD e;simp only[ln]at f;refine⟨zi8 b ⟨a.1,a.2.1,a.2.2.1,a.2.2.2.1,?_,a.2.2.2.2.2⟩ d,zSV c rfl,rfl⟩;simp[ap];omega}
theorem z2j {h:Host}{m g:Int}{x:Guest}{w:Int}(d:Shape h)(b:hasB m (ln h.Mons)=true)(e:SmG x):Keep h (zkw h m g x w):=by have a:Keep h (zeE h m x w):=(by unfold zeE;cases (cond (ine w 6) (ieq (zmT (ix h.Mons m mZ).Traps x.Ctl.Traps<|zfJ w) 2) false);{exact Keep.rfl' d};{exact zZL d b});have f:Keep (zeE h m x w) (zgU (zeE h m x w) m x w):=(by unfold zgU;cases (cond (zhj x.Ctl.Traps w) (ieq w 5) false);{exact Keep.rfl' a.shape};{exact zZK a.shape (a.has b)});have c:=a.trans f;exact c.trans (zol c.shape (c.has b)<|zDL _ _ e)
theorem z2i {h:Host}{m g:Int}(f:SmH h)(e:zbY h m g=true):Keep h (zbg h m g).1:=by obtain⟨l,a,n⟩:=zda e;have d:=zkP f a n;have i:=(zf4 f l).1;rw[zi9 e];unfold zMe;cases ieq (zL<|gOf h m g) 0;{cases ieq (zL<|gOf h m g) 1;{cases ieq (zL<|gOf h m g) 2;{cases (cond (ieq (zL<|gOf h m g) 3) true<|ieq (zL<|gOf h m g) 4);{exact z2j i a d};{have k:=zCW (b:=h.Buffer) (page:=zbk (address<|gOf h m g)) (need:=zca (ieq (zL<|gOf h m g) 4)) (io:=false) f e;show Keep h (zhu (ziq h m g (gOf h m g)<|ieq (zL<|gOf h m g) 4) m g (gOf h m g)<|ieq (zL<|gOf h m g) 4);unfold zhu;cases (ziq h m g (gOf h m g)<|ieq (zL<|gOf h m g) 4).2.2;{exact k.trans (zol k.shape (k.has a) d)};{cases ieq (zL<|gOf h m g) 4;{have k:=zCW (b:=h.Buffer) (page:=zbk (address<|gOf h m g)) (need:=zca false) (io:=false) f e;exact k.trans (zol k.shape (k.has a)<|zL9 _ d)};{have k:=zCW (b:=h.Buffer) (page:=zbk (address<|gOf h m g)) (need:=zca true) (io:=false) f e;have q:=z2h (p:=(ziq h m g (gOf h m g) true).2.1) (c:=zdx (address<|gOf h m g)) (v:=(gOf h m g).A) k.shape;have j:=k.trans q;exact j.trans (zol j.shape (j.has a)<|zlV d)}}}};{exact zol i a (zGE d)}};{exact zol i a (zYy d)}};{exact Keep.rfl' i}
structure Same (h r:Host):Prop where
 sm:SmH r
 cnt:cnt r.Mons=cnt h.Mons
 mem:r.Memory.length=h.Memory.length
 st:r=h\/Shape r
theorem Same.rfl' {h:Host}(a:SmH h):Same h h:=⟨a,rfl,rfl,.inl rfl⟩
theorem Same.trans {a b c:Host}(h:Same a b)(k:Same b c):Same a c:=⟨k.sm,k.cnt.trans h.cnt,k.mem.trans h.mem,by
 rcases k.st with e|e
 .rw [e];exact h.st
 .exact .inr e⟩
theorem zDH {h:Host}(m g:Int)(b:SmH h):Same h (zbg h m g).1:=by cases a:zbY h m g;{rw [ziB a];exact Same.rfl' b};{have k:=z2i b a;exact⟨k.shape.1,k.cnt,k.mem,.inr k.shape⟩}
def z7g:zbb:=[(161,zqI),(393,zsM)]++zZa
theorem zuf:zS z7g:=zi zuo (zi zvO zqp)
theorem zSQ {a b:Bool}(h:(a=true)↔(b=true)):a=b:=by cases a<;>cases b<;>simp_all
@[simp] theorem zbaO (x:Int):zk x 0 3=hasB x 4:=zSQ (by rw[zfA];unfold hasB;rw[decide_eq_true_iff];omega)
@[simp] theorem z3F (x:Int):zk x 0 7=hasB x 8:=zSQ (by rw[zfA];unfold hasB;rw[decide_eq_true_iff];omega)
def zeQ (t:List Slot)(p:Int)(s:Slot):List Slot:=bif hasB p (ln t) then up t p s else t
@[simp] theorem zbaP (t:List Slot)(p:Int)(s:Slot):(zeQ t p s).length=t.length:=by unfold zeQ;cases hasB p (ln t)<;>simp
@[simp] abbrev zpM (t:List Slot)(p:Int)(s:Slot):Bool:=pc (t.length<=1048576)
@[simp] abbrev zmD (t:List Slot)(p:Int)(s:Slot):List Slot:=zeQ t p s
def zyy:Run:=rF3 (dS .slot) dI (dT .slot) λb c d=>(zpM b c d,[aS .slot<|zmD b c d])
def zCa (N:Nat)(a:lS)(b:Int)(c:Slot):OA:=
 (oN (few<|ln<|ap [] a)<|oN (zO b 0<|wsub .i64 (ln a) 1)<|cond (zk b 0<|wsub .i64 (ln a) 1) (oN (inb b<|ln<|ap [] a)<|share (up (ap [] a) b c) λd=>some [aS .slot d])<|some [aS .slot<|ap [] a])
theorem zOA (a:List Slot)(b:Int)(c:Slot)(d:zpM a b c=true):∃N,zCa N a b c=some [aS .slot<|zmD a b c]:=by have e:=zQ.1 d;refine⟨0,?_⟩;unfold zCa oN;refine mu (must rfl (br (λ_=>mu (shr ?_)) λ_=>?_));all_goals first|rfl|(simp only [*,zmD,zeQ,cT,cF]<;>rfl)|simp_all[Ty.cells,zmD,zeQ]
theorem zHQ:vM 244 zyy:=kF3 zuf zA zy zq (zx []) zOA
def zii (p n:Int):Bool:=bif zdM p then zk n 0 7 else false
def ztq (p n:Int):Int:=bif zii p n then wor .i64 p (zlX .i64 1 n) else p
theorem cv7 {n:Int}(h:hasB n 8=true):wcv .u64 n=n/\ile 0 n=true:=by have:=qD h;exact⟨zPj (by omega) (by omega),qI (by omega)⟩
@[simp] abbrev zkY (p n:Int):Bool:=true
@[simp] abbrev zhR (p n:Int):Int:=ztq p n
@[simp] abbrev znq (p n:Int):Bool:=zii p n
def zA2:Run:=rF2 dI dI λb c=>(zkY b c,[aI<|zhR b c,aB<|znq b c])
def zFO (N:Nat)(a b:Int):OA:=
 (oN (zcd a)<|cond (nB<|zew a) (some [aI a,aB false])<|oN (zO b 0 7)<|cond (nB<|zk b 0 7) (some [aI a,aB false])<|oN (ile 0<|wcv .u64 b)<|some [aI<|wor .i64 a<|zlX .i64 1<|wcv .u64 b,aB true])
theorem zRF (b a:Int)(c:zkY b a=true):∃N,zFO N b a=some [aI<|zhR b a,aB<|znq b a]:=by have d:=@cv7 a;refine⟨0,?_⟩;unfold zFO oN nB;refine must rfl (brN (λ_=>?_) λ_=>must rfl (brN (λ_=>?_) λ_=>mu ?_));all_goals first|rfl|(simp only [*,zhR,znq,ztq,zii,cT,cF]<;>rfl)|simp_all[Ty.cells,zhR,znq,ztq,zii]
theorem zKA:vM 247 zA2:=kF2 zuf zA zy zq (zx []) zRF
def posts (c:Ctl)(n:Int):Bool:=bif zl8 c then (cond (zk n 0 7) (ieq (wand .i64 (zkx .i64 c.Post n) 1) 1) false) else false
@[simp] abbrev zDC (c:Ctl)(n:Int):Bool:=true
@[simp] abbrev zyD (c:Ctl)(n:Int):Bool:=posts c n
def zGu:Run:=rF2 dC dI λb c=>(zDC b c,[aB<|zyD b c])
def zPB (N:Nat)(b:Ctl)(a:Int):OA:=
 (oN (zgn b)<|cond (zqO b) (oN (zO a 0 7)<|cond (zk a 0 7) (oN (ile 0<|wcv .u64 a)<|some [aB<|ieq (wand .i64 (zkx .i64 b.Post<|wcv .u64 a) 1) 1]) oF) oF)
theorem zW1 (b:Ctl)(a:Int)(c:zDC b a=true):∃N,zPB N b a=some [aB<|zyD b a]:=by have d:=@cv7 a;refine⟨0,?_⟩;unfold zPB oN;refine must rfl (br (λ_=>must rfl (br (λ_=>mu ?_) λ_=>?_)) λ_=>?_);all_goals first|rfl|(simp only [*,zyD,posts,cT,cF]<;>rfl)|simp_all[Ty.cells,zyD,posts]
theorem zQ6:vM 355 zGu:=kF2 zuf zA zy zq (zx []) zW1
def zco (b:Bare)(g:Int):Bool:=bif zbW b then hasB g (ln b.Guests) else false
theorem zd8 {b:Bare}{g:Int}:(zco b g=true)↔zbW b=true/\hasB g (ln b.Guests)=true:=by unfold zco;cases zbW b<;>simp
@[simp] abbrev zk0 (b:Bare)(g:Int):Bool:=zco b g
def zGv:Run:=rF2 (dT .bare) dI λb c=>(zdl b c,[aB<|zk0 b c])
def zPE (N:Nat)(a:Bare)(b:Int):OA:=
 (oN (zkk a)<|cond (zcV a) (oN (zO b 0<|wsub .i64 (ln a.Guests) 1)<|some [aB<|zk b 0<|wsub .i64 (ln a.Guests) 1]) oF)
theorem zW3 (a:Bare)(b:Int)(c:zdl a b=true):∃N,zPE N a b=some [aB<|zk0 a b]:=by have d:=zQ.1 c;have e:a.Guests.length<=1048576:=d.2.1.1;refine⟨0,?_⟩;unfold zPE oN;refine must rfl (br (λ_=>must rfl ?_) λ_=>?_);all_goals first|rfl|(simp only [*,zk0,zco,cT,cF]<;>rfl)|simp_all[Ty.cells,zk0,zco]
theorem zRa:vM 242 zGv:=kF2 zuf zA zy zq (zx []) zW3
def z7h:zbb:=[(244,zyy),(247,zA2),(355,zGu),(242,zGv)]++z7g
theorem zlm:zS z7h:=zi zHQ (zi zKA<|zi zQ6<|zi zRa zuf)
theorem z5V {b:Type}{l:List b}{i:Int}{d:b}(h:hasB i (ln l)=true):up l i (ix l i d)=l:=by obtain⟨k,rfl,a⟩:=zef (n:=l.length) h;unfold up;rw[zbp a,kG];exact u4 a
theorem zuk {b:Bare}{g:Int}(h:hasB g (ln b.Guests)=true):gAt b g=ix b.Guests g zu:=by unfold gAt;rw[h];rfl
theorem z3l {b:Bare}{g:Int}(h:hasB g (ln b.Guests)=true):zd6 b g (gAt b g)=b:=by unfold zd6;rw[zuk h,z5V h]
def chg (b:Bare)(g:Int)(c:Bool)(x:Guest):Bare:=bif (cond (zco b g) c false) then zd6 b g x else b
def zcq (b:Bare)(g:Int)(c:Bool):Bool:=bif zco b g then c else false
def zxf (p:Int)(s:Slot):Bool:=bif hasB p 4 then zed s 8 else false
def zDI (x:Guest)(p:Int)(s:Slot):Guest:={x with Written:=zeQ x.Written p s}
def zei (x:Guest)(p:Int):Guest:={x with Live:=zeQ x.Live p (zbH x.Written p)}
def zlw:GExit:=⟨0,0,false,0⟩
def zwN (x:Guest)(v:Int):Bool:=bif zk v 0 99 then (cond (ieq x.Exit.Kind 2) true<|ieq x.Exit.Kind 3) else false
def zy0 (x:Guest)(v:Int):Guest:=zb7 (stopped (cond (ieq x.Exit.Kind 2) {x with A:=v} x) zlw)
def zDl (x:Guest):Bool:=bif ieq x.Exit.Kind 1 then true else ieq x.Exit.Kind 4
def zzP (x:Guest):Guest:=bif ieq x.Exit.Kind 1 then stopped x zlw else held (stopped x zlw)
def zoR (x:Guest)(n:Int):Guest:={x with Pending:=ztq x.Pending n}
def zMK (x:Guest)(c:Ctl):Guest:={x with Ctl:=c}
theorem z81 {x:Guest}{n:Int}(h:zii x.Pending n=false):zoR x n=x:=by unfold zoR ztq;rw[h];rfl
theorem z5I {x:Guest}(p:Int)(s:Slot)(h:SmG x):SmG (zDI x p s):=⟨h.1,by simpa [zDI] using h.2.1,h.2.2.1,h.2.2.2⟩
theorem zL8 {x:Guest}(p:Int)(h:SmG x):SmG (zei x p):=⟨h.1,h.2.1,by simpa [zei] using h.2.2.1,h.2.2.2⟩
theorem z5G {x:Guest}(v:Int)(h:SmG x):SmG (zy0 x v):=by unfold zy0;cases ieq x.Exit.Kind 2<;>exact zlV h
theorem z5H {x:Guest}(h:SmG x):SmG (zzP x):=by unfold zzP;cases ieq x.Exit.Kind 1;{exact zVx (g:=stopped x zlw) h};{exact h}
theorem zqW {b:Bare}{g:Int}{c:Bool}{x:Guest}(h:SmB b)(a:SmG x):SmB (chg b g c x):=by unfold chg;cases (cond (zco b g) c false);{exact h};{exact zoc h a}
@[simp] abbrev zrv (b:Bare)(g p:Int)(s:Slot):Bool:=pc (SmB b)
@[simp] abbrev zeT (b:Bare)(g p:Int)(s:Slot):Bare:=chg b g (zxf p s) (zDI (gAt b g) p s)
@[simp] abbrev zfQ (b:Bare)(g p:Int)(s:Slot):Bool:=zcq b g (zxf p s)
def zsL:Run:=rF4 (dT .bare) dI dI (dT .slot) λb c d e=>(zrv b c d e,[aT .bare<|zeT b c d e,aB<|zfQ b c d e])
def zFz (N:Nat)(f:Bare)(b c:Int)(d:Slot):OA:=
 let a:=zbF f;let e:=ix a.Guests b zu; (oN (zcw f)<|oN (zdl a b)<|cond (nB<|zk0 a b) (some [aT .bare a,aB false])<|oN (zO c 0 3)<|cond (nB<|zk c 0 3) (some [aT .bare a,aB false])<|oN (zmC d 8)<|cond (nB<|zi0 d 8) (some [aT .bare a,aB false])<|oN (inb b<|ln a.Guests)<|oN (zpM e.Written c d)<|oN (inb b<|ln a.Guests)<|share (up a.Guests b ({e with Written:=(zmD e.Written c d)}:Guest)) λg=>some [aT .bare ({a with Guests:=g}:Bare),aB true])
theorem zRs (b:Bare)(a c:Int)(d:Slot)(e:zrv b a c d=true):∃N,zFz N b a c d=some [aT .bare<|zeT b a c d,aB<|zfQ b a c d]:=by
 have f:=zQ.1 e;have g:=zjW a f;have k:zco b a=true->hasB a (ln b.Guests)=true:=λh=>(zd8.1 h).2;have i:zco b a=true->gAt b a=ix b.Guests a zu:=λh=>zuk (zd8.1 h).2;have j:=g.2.1;refine⟨0,?_⟩;unfold zFz oN nB;conv=>zeta
 refine mu (mu<|brN (λ_=>?_) λ_=>must rfl (brN (λ_=>?_) λ_=>must rfl (brN (λ_=>?_) λ_=>mu (mu<|mu<|shr ?_))));all_goals first|rfl|(simp only [*,zeT,zfQ,chg,zcq,zxf,zDI,zd6,cT,cF]<;>rfl)|simp_all[Ty.cells,zeT,zfQ,chg,zcq,zxf,zDI,zd6]
theorem zvN:vM 95 zsL:=kF4 zlm zA zy zq (zx []) zRs
@[simp] abbrev zsS (b:Bare)(g p:Int):Bool:=pc (SmB b)
@[simp] abbrev zfq (b:Bare)(g p:Int):Bare:=chg b g (hasB p 4) (zei (gAt b g) p)
@[simp] abbrev ziA (b:Bare)(g p:Int):Bool:=zcq b g (hasB p 4)
def zpa:Run:=rF3 (dT .bare) dI dI λb c d=>(zsS b c d,[aT .bare<|zfq b c d,aB<|ziA b c d])
def zAn (N:Nat)(f:Bare)(d b:Int):OA:=
 let a:=zbF f;let e:=inb d<|ln a.Guests;let c:=ix a.Guests d zu; (oN (zcw f)<|oN (zdl a d)<|cond (nB<|zk0 a d) (some [aT .bare a,aB false])<|oN (zO b 0 3)<|cond (nB<|zk b 0 3) (some [aT .bare a,aB false])<|oN e<|oN e<|oN (zhG c.Written b)<|oN (zpM c.Live b<|zfy c.Written b)<|oN e<|share (up a.Guests d ({c with Live:=(zmD c.Live b<|zfy c.Written b)}:Guest)) λg=>some [aT .bare ({a with Guests:=g}:Bare),aB true])
theorem zLl (b:Bare)(a c:Int)(d:zsS b a c=true):∃N,zAn N b a c=some [aT .bare<|zfq b a c,aB<|ziA b a c]:=by
 have e:=zQ.1 d;have f:=zjW a e;have j:zco b a=true->hasB a (ln b.Guests)=true:=λh=>(zd8.1 h).2;have g:zco b a=true->gAt b a=ix b.Guests a zu:=λh=>zuk (zd8.1 h).2;have i:=f.2.2.1;refine⟨0,?_⟩;unfold zAn oN nB;conv=>zeta
 refine mu (mu<|brN (λ_=>?_) λ_=>must rfl (brN (λ_=>?_) λ_=>mu (mu (must rfl (mu<|mu<|shr ?_)))));all_goals first|rfl|(simp only [*,zfq,ziA,chg,zcq,zei,zd6,cT,cF]<;>rfl)|simp_all[Ty.cells,zfq,ziA,chg,zcq,zei,zd6]
theorem zs6:vM 96 zpa:=kF3 zlm zA zy zq (zx []) zLl
@[simp] abbrev zmy (b:Bare)(g v:Int):Bool:=pc (SmB b)
@[simp] abbrev zdC (b:Bare)(g v:Int):Bare:=chg b g (zwN (gAt b g) v) (zy0 (gAt b g) v)
@[simp] abbrev zen (b:Bare)(g v:Int):Bool:=zcq b g (zwN (gAt b g) v)
def zn5:Run:=rF3 (dT .bare) dI dI λb c d=>(zmy b c d,[aT .bare<|zdC b c d,aB<|zen b c d])
def zxu (N:Nat)(i:Bare)(b e:Int):OA:=
 let a:=zbF i;let h:=inb b<|ln a.Guests;let d:=(⟨0,0,false,0⟩:GExit);let c:=ix a.Guests b zu;let g:=({c with A:=e}:Guest); (oN (zcw i)<|oN (zdl a b)<|cond (nB<|zk0 a b) (some [aT .bare a,aB false])<|oN (zO e 0 99)<|cond (nB<|zk e 0 99) (some [aT .bare a,aB false])<|oN h<|cond (ieq c.Exit.Kind 2) (oN (zcO g d)<|oN (zN<|zcy g d)<|oN h<|share (up a.Guests b<|zch<|zcy g d) λf=>some [aT .bare ({a with Guests:=f}:Bare),aB true])<|cond (ieq c.Exit.Kind 3) (oN (zcO c d)<|oN (zN<|zcy c d)<|oN h<|share (up a.Guests b<|zch<|zcy c d) λf=>some [aT .bare ({a with Guests:=f}:Bare),aB true])<|some [aT .bare a,aB false])
theorem zH6 (b:Bare)(a c:Int)(d:zmy b a c=true):∃N,zxu N b a c=some [aT .bare<|zdC b a c,aB<|zen b a c]:=by
 have e:=zQ.1 d;have f:=zjW a e;have j:zco b a=true->hasB a (ln b.Guests)=true:=λh=>(zd8.1 h).2;have g:zco b a=true->gAt b a=ix b.Guests a zu:=λh=>zuk (zd8.1 h).2;have i:_/\_/\_/\_:=f;refine⟨0,?_⟩;unfold zxu oN nB;conv=>zeta
 refine mu (mu<|brN (λ_=>?_) λ_=>must rfl (brN (λ_=>?_) λ_=>mu (br (λ_=>mu (mu<|mu<|shr ?_)) λ_=>br (λ_=>mu (mu<|mu<|shr ?_)) λ_=>?_)));all_goals first|rfl|(simp only [*,zdC,zen,chg,zcq,zwN,zy0,zlw,zd6,SmG,stopped,cT,cF]<;>rfl)|simp_all[Ty.cells,zdC,zen,chg,zcq,zwN,zy0,zlw,zd6,SmG,stopped]
theorem zr6:vM 97 zn5:=kF3 zlm zA zy zq (zx []) zH6
@[simp] abbrev zdE (b:Bare)(g:Int):Bare:=chg b g (zDl<|gAt b g) (zzP<|gAt b g)
@[simp] abbrev zep (b:Bare)(g:Int):Bool:=zcq b g (zDl<|gAt b g)
def zn7:Run:=rF2 (dT .bare) dI λb c=>(zdl b c,[aT .bare<|zdE b c,aB<|zep b c])
def zxw (N:Nat)(g:Bare)(c:Int):OA:=
 let a:=zbF g;let f:=inb c<|ln a.Guests;let d:=(⟨0,0,false,0⟩:GExit);let b:=ix a.Guests c zu; (oN (zcw g)<|oN (zdl a c)<|cond (nB<|zk0 a c) (some [aT .bare a,aB false])<|oN f<|cond (ieq b.Exit.Kind 1) (oN (zcO b d)<|oN f<|share (up a.Guests c<|zcy b d) λe=>some [aT .bare ({a with Guests:=e}:Bare),aB true])<|cond (ieq b.Exit.Kind 4) (oN (zcO b d)<|oN (zN<|zcy b d)<|oN f<|share (up a.Guests c<|zkH<|zcy b d) λe=>some [aT .bare ({a with Guests:=e}:Bare),aB true])<|some [aT .bare a,aB false])
theorem zH8 (b:Bare)(a:Int)(c:zdl b a=true):∃N,zxw N b a=some [aT .bare<|zdE b a,aB<|zep b a]:=by
 have d:=zQ.1 c;have e:=zjW a d;have i:zco b a=true->hasB a (ln b.Guests)=true:=λh=>(zd8.1 h).2;have f:zco b a=true->gAt b a=ix b.Guests a zu:=λh=>zuk (zd8.1 h).2;have g:_/\_/\_/\_:=e;refine⟨0,?_⟩;unfold zxw oN nB;conv=>zeta
 refine mu (mu<|brN (λ_=>?_) λ_=>mu (br (λ_=>mu (mu<|shr ?_)) λ_=>br (λ_=>mu (mu<|mu<|shr ?_)) λ_=>?_));all_goals first|rfl|(simp only [*,zdE,zep,chg,zcq,zDl,zzP,zlw,zd6,SmG,stopped,cT,cF]<;>rfl)|simp_all[Ty.cells,zdE,zep,chg,zcq,zDl,zzP,zlw,zd6,SmG,stopped]
theorem zr8:vM 98 zn7:=kF2 zlm zA zy zq (zx []) zH8
theorem z9R {b:Bare}{g:Int}{c:Bool}{x:Guest}(h:zco b g=false):chg b g c x=b:=by unfold chg;rw[h];rfl
theorem z8o {b:Bare}{g n:Int}(h:zco b g=true):chg b g (zii (gAt b g).Pending n) (zoR (gAt b g) n)=zd6 b g (zoR (gAt b g) n):=by unfold chg;rw[h];cases a:zii (gAt b g).Pending n;{rw [z81 a,z3l (zd8.1 h).2];rfl};{rfl}
@[simp] abbrev zmz (b:Bare)(g n:Int):Bool:=pc (SmB b)
@[simp] abbrev zdD (b:Bare)(g n:Int):Bare:=chg b g (zii (gAt b g).Pending n) (zoR (gAt b g) n)
@[simp] abbrev zeo (b:Bare)(g n:Int):Bool:=zcq b g (zii (gAt b g).Pending n)
def zn6:Run:=rF3 (dT .bare) dI dI λb c d=>(zmz b c d,[aT .bare<|zdD b c d,aB<|zeo b c d])
def zxv (N:Nat)(e:Bare)(b d:Int):OA:=
 let a:=zbF e;let c:=ix a.Guests b zu; (oN (zcw e)<|oN (zdl a b)<|cond (nB<|zk0 a b) (some [aT .bare a,aB false])<|oN (inb b<|ln a.Guests)<|oN (zkY c.Pending d)<|oN (inb b<|ln a.Guests)<|share (up a.Guests b ({c with Pending:=(zhR c.Pending d)}:Guest)) λf=>some [aT .bare ({a with Guests:=f}:Bare),aB<|znq c.Pending d])
theorem zH7 (a:Bare)(b c:Int)(d:zmz a b c=true):∃N,zxv N a b c=some [aT .bare<|zdD a b c,aB<|zeo a b c]:=by
 have i:=zQ.1 d;have j:zco a b=true->hasB b (ln a.Guests)=true:=λh=>(zd8.1 h).2;have f:zco a b=true->gAt a b=ix a.Guests b zu:=λh=>zuk (zd8.1 h).2;have g:=@z8o a b c;have e:=@z9R a b (zii (gAt a b).Pending c) (zoR (gAt a b) c);refine⟨0,?_⟩;unfold zxv oN nB;conv=>zeta
 refine mu (mu<|brN (λ_=>?_) λ_=>mu (must rfl (mu<|shr ?_)));all_goals first|rfl|(simp only [*,zdD,zeo,zcq,zd6,zoR,cT,cF]<;>rfl)|simp_all[Ty.cells,zdD,zeo,zcq,zd6,zoR]
theorem zr7:vM 99 zn6:=kF3 zlm zA zy zq (zx []) zH7
@[simp] abbrev zru (b:Bare)(g:Int)(c:Ctl):Bool:=pc (SmB b)
@[simp] abbrev zeS (b:Bare)(g:Int)(c:Ctl):Bare:=chg b g (zl8 c) (zMK (gAt b g) c)
@[simp] abbrev zfP (b:Bare)(g:Int)(c:Ctl):Bool:=zcq b g (zl8 c)
def zsK:Run:=rF3 (dT .bare) dI dC λb c d=>(zru b c d,[aT .bare<|zeS b c d,aB<|zfP b c d])
def zFy (N:Nat)(d:Bare)(b:Int)(c:Ctl):OA:=
 let a:=zbF d; (oN (zcw d)<|oN (zdl a b)<|cond (nB<|zk0 a b) (some [aT .bare a,aB false])<|oN (zgn c)<|cond (nB<|zqO c) (some [aT .bare a,aB false])<|oN (inb b<|ln a.Guests)<|share (up a.Guests b ({ (ix a.Guests b zu) with Ctl:=c}:Guest)) λe=>some [aT .bare ({a with Guests:=e}:Bare),aB true])
theorem zRr (a:Bare)(b:Int)(c:Ctl)(d:zru a b c=true):∃N,zFy N a b c=some [aT .bare<|zeS a b c,aB<|zfP a b c]:=by
 have f:=zQ.1 d;have g:zco a b=true->hasB b (ln a.Guests)=true:=λh=>(zd8.1 h).2;have e:zco a b=true->gAt a b=ix a.Guests b zu:=λh=>zuk (zd8.1 h).2;refine⟨0,?_⟩;unfold zFy oN nB;conv=>zeta
 refine mu (mu<|brN (λ_=>?_) λ_=>must rfl (brN (λ_=>?_) λ_=>mu (shr ?_)));all_goals first|rfl|(simp only [*,zeS,zfP,chg,zcq,zMK,zd6,cT,cF]<;>rfl)|simp_all[Ty.cells,zeS,zfP,chg,zcq,zMK,zd6]
theorem zvM:vM 100 zsK:=kF3 zlm zA zy zq (zx []) zRr
def z7T (p c v:Int):Bool:=bif hasB p 8 then (cond (hasB c 4) (zk v 0 99) false) else false
def zx8 (b:Bare)(p c v:Int):Bool:=bif zbW b then z7T p c v else false
def zSp (b:Bare)(p c v:Int):Bare:=bif zx8 b p c v then {b with Memory:=zbQ b.Memory p c v} else b
def znU (b:Bare):Bare:=bif zbW b then {b with Pending:=zix b.Pending} else b
def zt4 (b:Bare):Int:=bif zbW b then zoS b.Pending else -1
def zny (b:Bare):Bool:=bif zbW b then !ilt (zd7 b.Pending) 0 else false
def zoJ (b:Bare)(g a n:Int):Bool:=bif zco b g then (cond (zk a 0 15) (zeP (gAt b g).Live (zbk a) n) false) else false
def zD4 (b:Bare)(g a n:Int):Int:=zcg (gAt b g).Live (zbk a) n
def zzc (b:Bare)(g a v:Int):Bool:=bif zoJ b g a 2 then zk v 0 99 else false
def zZn (b:Bare)(g a v:Int):Bare:=bif zzc b g a v then {b with Memory:=zbQ b.Memory (zD4 b g a 2) (zdx a) v} else b
def zSt (b:Bare)(g a:Int):Int:=bif zoJ b g a 1 then cellAt b.Memory (zD4 b g a 1) (zdx a) else 0
@[simp] abbrev zfi (b:Bare):Bare:=znU b
@[simp] abbrev zgJ (b:Bare):Int:=zt4 b
@[simp] abbrev zgK (b:Bare):Bool:=zny b
def zsJ:Run:=rF1 (dT .bare) λb=>(zcw b,[aT .bare<|zfi b,aI<|zgJ b,aB<|zgK b])
def zFx (N:Nat)(b:Bare):OA:=
 let a:=zbF b; (oN (zcw b)<|oN (zkk a)<|cond (nB<|zcV a) (some [aT .bare a,aI<|-1,aB false])<|oN (zcd a.Pending)<|some [aT .bare ({a with Pending:=(zfS a.Pending)}:Bare),aI<|zfT a.Pending,aB<|zhT a.Pending])
theorem zRq (a:Bare)(b:zcw a=true):∃N,zFx N a=some [aT .bare<|zfi a,aI<|zgJ a,aB<|zgK a]:=by
 have c:=zQ.1 b;refine⟨0,?_⟩;unfold zFx oN nB;conv=>zeta
 refine mu (must rfl (brN (λ_=>?_) λ_=>must rfl ?_));all_goals first|rfl|(simp only [*,zfi,zgJ,zgK,znU,zt4,zny,zix,zoS,cT,cF]<;>rfl)|simp_all[Ty.cells,zfi,zgJ,zgK,znU,zt4,zny,zix,zoS]
theorem zvL:vM 103 zsJ:=kF1 zlm zA zy zq (zx []) zRq
def z7i:zbb:=z7h
theorem zTa:zS z7i:=zlm
def zeK (l:List Guest)(n:Int):List Int:=idxs (λ(x:Guest)=>posts x.Ctl n) l 0
theorem zTI {d:Type}(p:d->Bool):∀(l:List d) (i:Nat),∀k∈idxs p l i,(i:Int)<=k/\k<(i:Int)+l.length
 |[],_,k,a=>by cases a
 |x::l,i,k,a=>by have c:=zTI p l (i+1);simp only[qZ];unfold idxs at a;cases b:p x;{rw [b]at a;have:=c k a;omega};{rw [b]at a;rcases qG.1 a with rfl|a;{omega};{have:=c k a;omega}}
@[simp] abbrev zmB (b:Bare)(n:Int):List Int:=zeK b.Guests n
def zyw:Run:=rF2 (dT .bare) dI λb c=>(zf7 b c,[aS .int<|zmB b c])
def zB4 (N:Nat)(c:Bare)(f:Int):OA:=
 (iter (σ:=(Int×Int×Int×(List Int)×lM×lG×(List Int)×Unit)) N (λd a=>let b:=a.2.2.2.2.2.1;let e:=(ix b a.2.1 zu).Ctl; (cond (ilt a.2.1<|ln b) (oN (inb a.2.1<|ln b)<|oN (zDC e a.1)<|cond (zyD e a.1) (oN (few<|ln<|ap a.2.2.2.1 [a.2.1])<|d (a.1,zM .i64 a.2.1 1,a.2.2.1,ap a.2.2.2.1 [a.2.1],a.2.2.2.2.1,b,a.2.2.2.2.2.2.1,()))<|d (a.1,zM .i64 a.2.1 1,a.2.2.1,a.2.2.2.1,a.2.2.2.2.1,b,a.2.2.2.2.2.2.1,()))<|some [aS .int a.2.2.2.1])) (f,0,c.Pending,[],c.Memory,c.Guests,c.Outs,()))
def zO8:=zx [(249,0,{n:=28,tm:=[(1,ti),(2,.lp 0 0),(5,.sl 0 []),(6,ti)],lo:=[(0,[.sl 1 [],.sl 2 [],.sl 3 [],ti])],ro:=[(0,.int,true),(1,.sl .int,false),(2,.guest,false),(3,.int,false)]})]
theorem zOu (a:Bare)(b:Int)(g:zf7 a b=true):∃N,zB4 N a b=some [aS .int<|zmB a b]:=by
 have h:=zQ.1 g;have e:=zdj h.2.1.1;refine zcA λN d=>?_;unfold zB4 oN;conv=>zeta
 refine(zbm a.Guests (λi (t:(List Int))=>(b,(i:Int),a.Pending,t,a.Memory,a.Guests,a.Outs,())) _ (λi (x:Guest) (t:List Int) f=>bif posts x.Ctl b then (cond (few<|ln<|ap t [(i:Int)]) (f<|ap t [(i:Int)]) none) else f t) (λ(t:(List Int))=>some [.one<|.s .int t]) (λi c t rec=>?_) (λt rec=>?_) _ ([])<|d e.1).trans ?_;{simp only [zbG c,zbi c,zbp c,zbh c e.1,cT]};{simp only [zbt,cF]};exact zum (λ(x:Guest)=>posts x.Ctl b) _ a.Guests 0 [] (by simpa using e.2)
theorem zHK:vM 249 zyw:=kF2 zTa zA zy zq zO8 zOu
def z7j:zbb:=[(249,zyw)]++z7i
theorem zTb:zS z7j:=zi zHK zTa
def zEk (n:Int)(l:List Guest)(k:Int):List Guest:=up l k (zoR (ix l k zu) n)
def zmn (n:Int)(a:List Int)(l:List Guest):List Guest:=a.foldl (zEk n) l
theorem zDi (n:Int)(l:List Guest)(k:Int):(zEk n l k).length=l.length:=zhy _ _ _
theorem z0M {n:Int}{l:List Guest}{k:Int}(a:hasB k (ln l)=true)(h:zlh l):zlh (zEk n l k):=zEn h (zVy h a _)
theorem zDM {n:Int}:∀(a:List Int) {l:List Guest},(∀k∈a,hasB k (ln l)=true)->zlh l->zlh (zmn n a l)/\(zmn n a l).length=l.length
 |[],_,_,h=>⟨h,rfl⟩
 |k::a,l,b,h=>by have e:=z0M (n:=n) (b k (by simp)) h;obtain⟨c,d⟩:=zDM (n:=n) a (l:=zEk n l k) (λj f=>by rw[ln,zDi];exact b j (by simp[f])) e;exact⟨c,d.trans<|zDi _ _ _⟩
theorem zTt {e:Type}(n:Int)(K:List Guest->Option e):∀(a:List Int) (i:Nat) (l:List Guest),(∀k∈a,hasB k (ln l)=true)->
 goL (λ_ k (t:List Guest) d=>bif inb k (ln t) then (cond (inb k<|ln t) (d<|up t k<|zoR (ix t k zu) n) none) else none) K a i l=K (zmn n a l)
 |[],_,_,_=>rfl
 |k::a,i,l,h=>by have c:inb k (ln l)=true:=h k (by simp);simp only[goL,c,cT];exact zTt n K a (i+1) (zEk n l k) (λj b=>by rw[ln,zDi];exact h j (by simp[b]))
def zEl (b:Bare)(n:Int):Bare:=bif ieq (ln<|zeK b.Guests n) 0 then {b with Pending:=ztq b.Pending n} else {b with Guests:=zmn n (zeK b.Guests n) b.Guests}
def zgg (b:Bare)(n:Int):Bool:=bif zbW b then hasB n 8 else false
def zk8 (b:Bare)(n:Int):Bare:=bif zgg b n then zEl b n else b
theorem zLK {b:Bare}{n:Int}:∀k∈zeK b.Guests n,hasB k (ln b.Guests)=true:=λk a=>by have:=zTI _ _ _ k a;exact qI (by simp only[ln];omega)
theorem z0d {b:Bare}{n:Int}(h:ieq (ln<|zeK b.Guests n) 0=true):zmn n (zeK b.Guests n) b.Guests=b.Guests:=by have a:((zeK b.Guests n).length:Int)=0:=qD h;have:zeK b.Guests n=[]:=uR.1 (by omega);rw[this];rfl
theorem z0c {b:Bare}{n:Int}:(cond (ieq (ln<|zeK b.Guests n) 0) (some [AV.agg<|Ty.cells .bare ⟨b.Memory,zmn n (zeK b.Guests n) b.Guests,b.Outs,ztq b.Pending n⟩,AV.one<|.b true])<|some [AV.agg<|Ty.cells .bare ⟨b.Memory,zmn n (zeK b.Guests n) b.Guests,b.Outs,b.Pending⟩,AV.one<|.b true])=some [AV.agg<|Ty.cells .bare<|zEl b n,AV.one<|.b true]:=by unfold zEl;cases h:ieq (ln<|zeK b.Guests n) 0;{rfl};{simp only [cT,z0d h]}
@[simp] abbrev zfj (b:Bare)(n:Int):Bare:=zk8 b n
@[simp] abbrev zg3 (b:Bare)(n:Int):Bool:=zgg b n
def zqK:Run:=rF2 (dT .bare) dI λb c=>(zf7 b c,[aT .bare<|zfj b c,aB<|zg3 b c])
def zBW (N:Nat)(i:Bare)(e:Int):OA:=
 let b:=zbF i; (oN (zcw i)<|oN (zkk b)<|cond (nB<|zcV b) (some [aT .bare b,aB false])<|oN (zO e 0 7)<|cond (nB<|zk e 0 7) (some [aT .bare b,aB false])<|oN (zf7 b e)<|iter (σ:=(Int×Int×Int×Int×(List Int)×lM×lG×(List Int)×lM×lG×(List Int)×Unit)) N (λj a=>let h:=a.2.2.2.2.2.2.2.1;let d:=a.2.2.2.2.1;let c:=a.2.2.2.2.2.2.1;let f:=ix d a.2.1 0;let g:=ix c f zu; (cond (ilt a.2.1<|ln d) (oN (inb a.2.1<|ln d)<|oN (inb a.2.1<|ln d)<|oN (inb f<|ln c)<|oN (zkY g.Pending a.1)<|oN (inb f<|ln c)<|j (a.1,zM .i64 a.2.1 1,a.2.2.1,a.2.2.2.1,d,a.2.2.2.2.2.1,up c f ({g with Pending:=(zhR g.Pending a.1)}:Guest),h,a.2.2.2.2.2.2.2.2.1,a.2.2.2.2.2.2.2.2.2.1,a.2.2.2.2.2.2.2.2.2.2.1,()))<|cond (ieq (ln d) 0) (oN (zkY a.2.2.1 a.1)<|some [aT .bare (⟨a.2.2.2.2.2.1,c,h,zhR a.2.2.1 a.1⟩:Bare),aB true])<|some [aT .bare (⟨a.2.2.2.2.2.1,c,h,a.2.2.1⟩:Bare),aB true])) (e,0,b.Pending,0,zmB b e,b.Memory,b.Guests,b.Outs,[],[],[],()))
def zO4:=zx [(102,0,{n:=62,tm:=[(1,ti),(2,.lp 0 0),(4,.lp 1 0),(6,.sl 0 []),(7,ti)],lo:=[(0,[.sl 1 [],.sl 2 [],.sl 3 [],ti]),(1,[.sl 4 [],.sl 5 [],.sl 6 [],ti])],ro:=[(0,.int,true),(1,.sl .int,true),(2,.guest,true),(3,.int,true),(4,.sl .int,true),(5,.guest,true),(6,.int,true)]})]
theorem zOm (a:Bare)(c:Int)(l:zf7 a c=true):∃N,zBW N a c=some [aT .bare<|zfj a c,aB<|zg3 a c]:=by
 have h:=zQ.1 l;have j:(zeK a.Guests c).length<=big:=qT (zzA _ _ _) (zdj h.2.1.1).1;refine zcA λN g=>?_;unfold zBW zfj zg3 zk8 zgg oN nB;conv=>zeta
 refine must (zbw h) (must rfl (brN (λe=>?_) λe=>must rfl (brN (λd=>?_) λd=>must (zbw h) ?_)));{simp only [show zbW a=false from e,cF]};{simp only [show zbW a=true from e,show hasB c 8=false from by first|exact d|exact(z3F c).symm.trans d,cT,cF]};simp only[show zbW a=true from e,show hasB c 8=true from by first|exact d|exact(z3F c).symm.trans d,cT];refine(zbm (zmB (zbF a) c) (λi (t:lG)=>(c,(i:Int),(zbF a).Pending,0,zmB (zbF a) c,(zbF a).Memory,t,(zbF a).Outs,[],[],[],())) _ (λ_ k (t:List Guest) m=>bif inb k (ln t) then (cond (inb k<|ln t) (m<|up t k<|zoR (ix t k zu) c) none) else none) (λ(t:lG)=>cond (ieq (ln<|zmB (zbF a) c) 0) (cond (zkY (zbF a).Pending c) (some [.agg<|Ty.cells .bare (⟨(zbF a).Memory,t,(zbF a).Outs,zhR (zbF a).Pending c⟩:Bare),.one<|.b true]) none)<|some [.agg<|Ty.cells .bare (⟨(zbF a).Memory,t,(zbF a).Outs,(zbF a).Pending⟩:Bare),.one<|.b true]) (λi f t rec=>?_) (λt rec=>?_) _ ((zbF a).Guests)<|g j).trans ?_;{simp only [zbG f,zbi f,zbp f,zbh f j,cT];rfl};{simp only [zbt,cF];rfl};exact(zTt c _ _ 0 _ zLK).trans z0c
theorem zur:vM 102 zqK:=kF2 zTb zA zy zq zO4 zOm
def z1c:zbb:=[(95,zsL),(96,zpa),(97,zn5),(98,zn7),(99,zn6),(100,zsK),(103,zsJ),(102,zqK)]++z7j
theorem zCq:zS z1c:=zi zvN (zi zs6<|zi zr6<|zi zr8<|zi zr7<|zi zvM<|zi zvL<|zi zur zTb)
theorem z3z {n:Int}(h:(ieq n 4||ieq n 8)=true):n=4\/n=8:=by rcases kD _ _ ▸ h with h|h;{exact .inl (qD h)};{exact .inr (qD h)}
theorem z2x {n:Int}(h:(ieq n 8||ieq n 12)=true):n=8\/n=12:=by rcases kD _ _ ▸ h with h|h;{exact .inl (qD h)};{exact .inr (qD h)}
@[simp] abbrev zjN (n:Int):Bool:=ieq n 4||ieq n 8
@[simp] abbrev zhH (n:Int):List Slot:=List.replicate n.toNat ⟨-1,0⟩
def zqM:Run:=rF1 dI λb=>(zjN b,[aS .slot<|zhH b])
def zSF (N:Nat)(b:Int):OA:=
 (oN (zrx b 0 24)<|iter (σ:=(Int×lS×Unit)) N (λc a=>cond (igt a.1 0) (oN zbP<|oN (few<|ln<|ap a.2.1 [zbf])<|c (wsub .i64 a.1 1,ap a.2.1 [zbf],()))<|some [aS .slot a.2.1]) (zsi b 0 24,[],()))
def zO9:=zx [(394,0,{n:=17,tm:=[(3,.sl 0 []),(4,ti)],lo:=[],ro:=[(0,.slot,true)]})]
theorem zOx (a:Int)(b:zjN a=true):∃N,zSF N a=some [aS .slot<|zhH a]:=by refine⟨30,?_⟩;have h:a=4\/a=8:=z3z b;rcases h with rfl|rfl<;>(change _=_;kernel_rfl)
theorem zuu:vM 394 zqM:=kF1 zCq zA zy zq zO9 zOx
@[simp] abbrev zpH (n:Int):Bool:=ieq n 8||ieq n 12
@[simp] abbrev zkm (n:Int):List (List Int):=List.replicate n.toNat [0,0,0,0]
def zuU:Run:=rF1 dI λb=>(zpH b,[aS (.sl .int)<|zkm b])
def zYP (N:Nat)(b:Int):OA:=
 (oN (zrx b 0 24)<|iter (σ:=(Int×lM×Unit)) N (λc a=>cond (igt a.1 0) (oN (cond (few 4) (ieq 4 4) false)<|oN (few<|ln<|ap a.2.1 [rp 4 0])<|c (wsub .i64 a.1 1,ap a.2.1 [rp 4 0],()))<|some [aS (.sl .int) a.2.1]) (zsi b 0 24,[],()))
def zV1:=zx [(343,0,{n:=17,tm:=[(3,.sl 0 []),(4,ti)],lo:=[],ro:=[(0,.sl .int,true)]})]
theorem zUf (a:Int)(b:zpH a=true):∃N,zYP N a=some [aS (.sl .int)<|zkm a]:=by refine⟨30,?_⟩;have h:a=8\/a=12:=z2x b;rcases h with rfl|rfl<;>(change _=_;kernel_rfl)
theorem zxO:vM 343 zuU:=kF1 zCq zA zy zq zV1 zUf
def z1d:zbb:=[(394,zqM),(343,zuU)]++z1c
theorem zPQ:zS z1d:=zi zuu (zi zxO zCq)
def zlU:List Slot:=List.replicate 4 ⟨-1,0⟩
def zfx (p:List Ins):Guest:=⟨p,0,0,zlU,zlU,⟨0,0,false⟩,0,⟨0,0,false,0⟩,false,[]⟩
@[simp] abbrev zjL (p:List Ins):Bool:=pc (p.length<=1048576)
@[simp] abbrev zcC (p:List Ins):Guest:=zfx p
def zmt:Run:=rF1 (dS .ins) λb=>(zjL b,[aT .guest<|zcC b])
def zBZ (N:Nat)(a:lI):OA:=
 (oN (few<|ln<|ap [] a)<|oN (zjN 4)<|oN (zjN 4)<|some [aT .guest (⟨ap [] a,0,0,zhH 4,zhH 4,⟨0,0,false⟩,0,⟨0,0,false,0⟩,false,[]⟩:Guest)])
theorem zOp (a:List Ins)(b:zjL a=true):∃N,zBZ N a=some [aT .guest<|zcC a]:=by have c:=zQ.1 b;refine⟨0,?_⟩;unfold zBZ oN;refine mu (must rfl (must rfl ?_));first|rfl|(simp only [*,zcC,zfx,zlU,cT,cF]<;>rfl)|simp_all[Ty.cells,zcC,zfx,zlU]
theorem zn0:vM 347 zmt:=kF1 zPQ zA zy zq (zx []) zOp
def z95:zbb:=[(347,zmt)]++z1d
theorem zCr:zS z95:=zi zn0 zPQ
def zOG:List (List Int):=List.replicate 8 [0,0,0,0]
def z9M (a:List (List Ins)):Prop:=a.length<=1048576/\∀p∈a,p.length<=1048576
theorem zQj {d c j:Type}(m:Nat)(f:d->c)(K:List c->Option j):∀(l:List d) (i:Nat) (a:List c),a.length+l.length<=2147483648->
 goL (λ(i:Nat) x a k=>bif ilt (i:Int) (m:Int) then (cond (few<|ln<|ap a [f x]) (k<|ap a [f x]) none) else K a) K l i a=K (a++(l.take<|m-i).map f)
 |[],i,a,_=>by simp[goL]
 |x::l,i,a,g=>by simp only[qZ]at g;have e:few (ln<|ap a [f x])=true:=zgu (by simp[ap];omega);by_cases h:i<m;{have b:ilt (i:Int) (m:Int)=true:=qI (by omega);simp only[goL,b,e,cT];rw[zQj m f K l (i+1) (ap a [f x]) (by simp[ap];omega)];rw[show m-i=m-(i+1)+1 by omega];simp[ap]};{have b:ilt (i:Int) (m:Int)=false:=qK (by omega);simp only[goL,b,cF];rw[show m-i=0 by omega];simp}
@[simp] abbrev zop (a:GAct):Bool:=true
@[simp] abbrev zyB (a:GAct):Bool:=zk a.Kind 1 17
def zGr:Run:=rF1 (dT .act) λb=>(zop b,[aB<|zyB b])
def zPs (N:Nat)(a:GAct):OA:=
 (oN (zO a.Kind 1 17)<|some [aB<|zk a.Kind 1 17])
theorem zWU (a:GAct)(b:zop a=true):∃N,zPs N a=some [aB<|zyB a]:=by refine⟨0,?_⟩;unfold zPs oN;refine must rfl ?_;first|rfl|(simp only [*,zyB,cT,cF]<;>rfl)|simp_all[Ty.cells,zyB]
theorem zQX:vM 25 zGr:=kF1 zCr zA zy zq (zx []) zWU
@[simp] abbrev zw8 (k:Int):Bool:=true
@[simp] abbrev zsj (k:Int):Bool:=zk k 13 17
def zAZ:Run:=rF1 dI λb=>(zw8 b,[aB<|zsj b])
def zFJ (N:Nat)(a:Int):OA:=
 (oN (zO a 13 17)<|some [aB<|zk a 13 17])
theorem zRB (a:Int)(b:zw8 a=true):∃N,zFJ N a=some [aB<|zsj a]:=by refine⟨0,?_⟩;unfold zFJ oN;refine must rfl ?_;first|rfl|(simp only [*,zsj,cT,cF]<;>rfl)|simp_all[Ty.cells,zsj]
theorem zKu:vM 13 zAZ:=kF1 zCr zA zy zq (zx []) zRB
@[simp] abbrev zqN (a:GAct):Ctl:=⟨a.X,a.Y,ieq a.Z 1⟩
def zGs:Run:=rF1 (dT .act) λb=>(zop b,[.agg<|zmR<|zqN b])
def zPt (N:Nat)(a:GAct):OA:=
 (some [.agg [.i .i64 a.X,.i .i64 a.Y,.b<|ieq a.Z 1]])
theorem zWV (a:GAct)(b:zop a=true):∃N,zPt N a=some [.agg<|zmR<|zqN a]:=by refine⟨0,?_⟩;unfold zPt;first|rfl|(simp only [*,zqN,cT,cF]<;>rfl)|simp_all[Ty.cells,zqN]
theorem zQY:vM 23 zGs:=kF1 zCr zA zy zq (zx []) zWV
def zS4:zbb:=[(95,zsL),(96,zpa),(97,zn5),(98,zn7),(99,zn6),(100,zsK),(103,zsJ),(102,zqK),(343,zuU)]++z7f
theorem zCs:zS zS4:=zi zvN (zi zs6<|zi zr6<|zi zr8<|zi zr7<|zi zvM<|zi zvL<|zi zur<|zi zxO z4z)
def zdc (x:Mon):Bare:=⟨zOG,x.Guests,x.Outs,x.Pending⟩
def zvu (x:Mon)(b:Bare):Mon:={x with Guests:=b.Guests,Pending:=b.Pending}
def zdn (h:Host)(m:Int)(b:Bare):Host:={h with Mons:=up h.Mons m (zvu (ix h.Mons m mZ) b)}
@[simp] abbrev zfm (x:Mon):Bool:=pc (zf1 x)
@[simp] abbrev zbT (x:Mon):Bare:=zdc x
def zA7:Run:=rF1 (dT .mon) λb=>(zfm b,[aT .bare<|zbT b])
def zFY (N:Nat)(a:Mon):OA:=
 (oN (zpH 8)<|oN (zgr a.Guests)<|oN (few<|ln<|ap [] a.Outs)<|some [aT .bare (⟨zkm 8,zgS a.Guests,ap [] a.Outs,a.Pending⟩:Bare)])
theorem zRT (a:Mon)(c:zfm a=true):∃N,zFY N a=some [aT .bare<|zbT a]:=by have b:=zQ.1 c;refine⟨0,?_⟩;unfold zFY oN;exact must rfl (must (zbw<|(zvB _).2 b.2.2.2.1) (must (zoh b.2.2.2.2.1) rfl))
theorem zKW:vM 210 zA7:=kF1 zCs zA zcc zhi (zx []) zRT
@[simp] abbrev zfl (h:Host)(m:Int)(b:Bare):Bool:=pc (hasB m (ln h.Mons)=true/\zlh b.Guests)
@[simp] abbrev zhZ (h:Host)(m:Int)(b:Bare):Host:=zdn h m b
theorem zbaN {l:List Mon}{m:Int}(a:hasB m (ln l)=true)(b:Bare):inb m (ln<|up l m {ix l m mZ with Guests:=b.Guests})=true/\
 up (up l m {ix l m mZ with Guests:=b.Guests}) m {ix (up l m {ix l m mZ with Guests:=b.Guests}) m mZ with Pending:=b.Pending}=up l m (zvu (ix l m mZ) b):=by
 obtain⟨k,rfl,c⟩:=zef (n:=l.length) a;refine⟨zC (by rw[ln,zhy];exact a),?_⟩
 rw[zwA,zel c];rfl
def zsR:List AV->Option (Bool×List AV)
 |[.agg [.s (.sl .int) b,.s .mon c,.s .entry d,.s .entry e],.one<|.i .i64 f,.agg [.s (.sl .int) g,.s .guest h,.s .int j,.i .i64 k]]=>some (zfl (⟨b,c,d,e⟩:Host) f (⟨g,h,j,k⟩:Bare),[aH<|zhZ (⟨b,c,d,e⟩:Host) f (⟨g,h,j,k⟩:Bare)])
 |_=>none
def zwL (N:Nat)(b:Host)(a:Int)(c:Bare):OA:=
 (oN (zgr c.Guests)<|oN (inb a<|ln b.Mons)<|share (up b.Mons a ({ (ix b.Mons a zh) with Guests:=(zgS c.Guests)}:Mon)) λd=>oN (inb a<|ln d)<|share (up d a ({ (ix d a zh) with Pending:=c.Pending}:Mon)) λe=>some [aH ({b with Mons:=e}:Host)])
theorem zUF (N:Nat)(a:Host)(b:Int)(c:Bare):zZp (cQ zS4 zoZ z0b z5U) (zx []) N 12 211 [true,true,true,true,false,false,false,false,false] [aH a,aI b,aT .bare c]=zwL N a b c:=by kernel_rfl
theorem zRS (b:Host)(c:Int)(a:Bare)(i:zbL big [aH b,aI c,aT .bare a])(h:zfl b c a=true):∃N,zwL N b c a=some [aH<|zhZ b c a]:=by obtain⟨d,hg⟩:=zQ.1 h;obtain⟨f,g⟩:=zbaN d a;refine⟨0,?_⟩;unfold zwL oN;refine must (zbw<|(zvB _).2 hg) (must (zC d)<|shr<|must f<|shr ?_);have e:zgS a.Guests=a.Guests:=rfl;rw[e];show some [AV.agg<|zbl {b with Mons:=_}]=some [AV.agg<|zbl {b with Mons:=_}];rw[show zh=mZ from rfl,g]
theorem zKV:zeF Tryz.prog 211 [true,true,true,true,false,false,false,false,false] none zsR:=by refine zMZ (zhb zCs zA zcc zhi) (zje (by kernel_rfl)) (by kernel_rfl) ?_;intro a g f e h;have c:=zjk e;unfold zsR at h;split at h;{obtain⟨d,rfl⟩:=zet h;obtain⟨N,b⟩:=zRS _ _ _ (by exact c) d;exact⟨_,N,12,(zUF N _ _ _ ).trans b⟩};{cases h}
def z1j:zbb:=[(210,zA7)]++zS4
theorem zjX:zS z1j:=zi zKW zCs
def zbbj:zfL:=[(211,[true,true,true,true,false,false,false,false,false],none,zsR)]++z5U
theorem zdA:zex zbbj:=zqZ zhi (by
 intro x a;simp only[qG,qN,or_false]at a;rcases a with rfl
 .exact zKV)
def z8a (h:Host)(m:Int)(a:Bool)(B:Bare)(b c:Host->Ans):OA:=
 bif zbC h then (cond (zgd h m) (cond (cond (zgc h m) false true) (some<|b h)<|cond (inb m<|ln h.Mons) (cond (zfm<|ix h.Mons m mZ) (cond a (cond (zfl h m B) (some<|c<|zdn h m B) none) none) none) none) none) else none
theorem zcP {h:Host}{m:Int}:(zc3 h m=true)↔zck h=true/\hasB m (ln h.Mons)=true:=by unfold zc3;cases zck h<;>simp
theorem zof {h:Host}{m:Int}{cB:Bool}{B:Bare}{o0 o1:Host->Ans}(c:SmH h)(e:zc3 h m=true->cB=true)(d:zc3 h m=true->SmB B):z8a h m cB B o0 o1=some (cond (zc3 h m) (o1<|zdn h m B)<|o0 h):=by unfold z8a;refine must (zbw<|(zU h).2 c) (must rfl ?_);rw[show zgc h m=zc3 h m from rfl];cases a:zc3 h m;{rfl};{have b:=(zcP.1 a).2;exact zdp rfl (must (zC b)<|must (zbw<|c.2.1.2 _<|zbK b _)<|must (e a) (must (zbw ⟨b,(d a).2.1⟩) rfl))}
structure SameB (b c:Bare):Prop where
 g:b.Guests=c.Guests
 p:b.Pending=c.Pending
 o:zbW b=zbW c
theorem SameB.at {b c:Bare}(h:SameB b c)(g:Int):gAt b g=gAt c g:=by unfold gAt;rw[h.g]
theorem SameB.has {b c:Bare}(h:SameB b c)(g:Int):zco b g=zco c g:=by unfold zco;rw[h.g,h.o]
theorem back_eq {h:Host}{m:Int}{b c:Bare}(hg:b.Guests=c.Guests)(a:b.Pending=c.Pending):zdn h m b=zdn h m c:=by unfold zdn zvu;rw[hg,a]
theorem zqm {b c:Bare}(a:SameB b c)(h:Host)(m g:Int)(k:Bool)(x:Guest):zdn h m (chg b g k x)=zdn h m (chg c g k x):=by unfold chg;rw[a.has];cases (cond (zco c g) k false);{exact back_eq a.g a.p};{exact back_eq (by simp only[cT,zd6,a.g]) a.p}
theorem zl7 {b c:Bare}(a:SameB b c)(g:Int)(k:Bool):zcq b g k=zcq c g k:=by unfold zcq;rw[a.has]
theorem zj1 {h:Host}{m:Int}(b:zc3 h m=true)(d:zbW (zdc<|ix h.Mons m mZ)=true):SameB (zdc<|ix h.Mons m mZ) (zK h m):=by obtain⟨c,a⟩:=zcP.1 b;refine⟨?_,?_,d.trans (zwP c a).symm⟩<;>unfold zK zdc<;>rw [a]<;>rfl
theorem z9c:ziK zOG 8=true:=by decide
theorem zow {h:Host}{m:Int}(b:zc3 h m=true):zbW (zdc<|ix h.Mons m mZ)=true:=by obtain⟨c,a⟩:=zcP.1 b;have:=zwP c a;unfold zK at this;rw[a,cT] at this;unfold zbW at this ⊢;simp only[zdc,z9c] at *;simp_all
theorem zfz {x:Mon}(h:zf1 x):SmB (zdc x):=⟨show SmM zOG from ⟨by decide,by decide⟩,h.2.2.2.1,h.2.2.2.2.1⟩
def zir (h:Host)(m:Int)(b:Bare):Host:=bif zc3 h m then zdn h m b else h
def zhe (h:Host)(m:Int)(ok:Bool):Bool:=bif zc3 h m then ok else false
@[simp] abbrev znf (h:Host)(m:Int)(g p:Int)(s:Slot):Host:=zir h m (zeT (zK h m) g p s)
@[simp] abbrev zng (h:Host)(m:Int)(g p:Int)(s:Slot):Bool:=zhe h m (zfQ (zK h m) g p s)
@[simp] abbrev zjy (h:Host)(m:Int)(g v:Int):Host:=zir h m (zdC (zK h m) g v)
@[simp] abbrev zjz (h:Host)(m:Int)(g v:Int):Bool:=zhe h m (zen (zK h m) g v)
@[simp] abbrev zjC (h:Host)(m:Int)(g:Int):Host:=zir h m (zdE (zK h m) g)
@[simp] abbrev zjD (h:Host)(m:Int)(g:Int):Bool:=zhe h m (zep (zK h m) g)
@[simp] abbrev zjA (h:Host)(m:Int)(g n:Int):Host:=zir h m (zdD (zK h m) g n)
@[simp] abbrev zjB (h:Host)(m:Int)(g n:Int):Bool:=zhe h m (zeo (zK h m) g n)
@[simp] abbrev znd (h:Host)(m:Int)(g:Int)(x:Ctl):Host:=zir h m (zeS (zK h m) g x)
@[simp] abbrev zne (h:Host)(m:Int)(g:Int)(x:Ctl):Bool:=zhe h m (zfP (zK h m) g x)
@[simp] abbrev zlt (h:Host)(m:Int)(n:Int):Host:=zir h m (zfj (zK h m) n)
@[simp] abbrev zlu (h:Host)(m:Int)(n:Int):Bool:=zhe h m (zg3 (zK h m) n)
@[simp] abbrev zna (h:Host)(m:Int):Host:=zir h m (zfi<|zK h m)
@[simp] abbrev znb (h:Host)(m:Int):Int:=bif zc3 h m then zgJ (zK h m) else -1
@[simp] abbrev znc (h:Host)(m:Int):Bool:=zhe h m (zgK<|zK h m)
@[simp] abbrev zkC (h:Host)(m g p:Int):Bool:=zhe h m (zcq (zK h m) g<|hasB p 4)
theorem z2S {b c:Bare}(a:SameB b c)(n:Int):(zk8 b n).Guests=(zk8 c n).Guests/\(zk8 b n).Pending=(zk8 c n).Pending/\zgg b n=zgg c n:=by have e:zgg b n=zgg c n:=(by unfold zgg;rw[a.o]);unfold zk8;rw[e];cases zgg c n;{exact⟨a.g,a.p,rfl⟩};{unfold zEl;rw[a.g];cases ieq (ln<|zeK c.Guests n) 0;{exact⟨by simp only[cT,cF],by simp only[cT,cF,a.p],rfl⟩};{exact⟨by simp only[cT,a.g],by simp only[cT,a.p],rfl⟩}}
theorem z3I {b c:Bare}(a:SameB b c):(znU b).Guests=(znU c).Guests/\(znU b).Pending=(znU c).Pending/\zt4 b=zt4 c/\zny b=zny c:=by unfold znU zt4 zny;rw[a.o,a.p];cases zbW c;{exact⟨a.g,a.p,rfl,rfl⟩};{exact⟨a.g,rfl,rfl,rfl⟩}
theorem z3r {b:Bare}{n:Int}(h:SmB b):SmB (zk8 b n):=by unfold zk8;cases zgg b n;{exact h};{unfold zEl;cases ieq (ln<|zeK b.Guests n) 0;{exact⟨h.1,(zDM _ zLK h.2.1).1,h.2.2⟩};{exact h}}
theorem z5F {b:Bare}(h:SmB b):SmB (znU b):=by unfold znU;cases zbW b;{exact h};{exact h}
theorem ztH {H a:Host}{x y:Bool}(c:H=a)(d:x=y):some [AV.agg<|zbl H,AV.one<|.b x]=some [AV.agg<|zbl a,AV.one<|.b y]:=by rw[c,d]
theorem z8r {H a:Host}{n k:Int}{x y:Bool}(c:H=a)(d:n=k)(e:x=y):some [AV.agg<|zbl H,AV.one<|.i .i64 n,AV.one<|.b x]=some [AV.agg<|zbl a,AV.one<|.i .i64 k,AV.one<|.b y]:=by rw[c,d,e]
theorem zYw {b:Bare}(g p:Int)(s:Slot)(a:SmB b):SmB (zeT b g p s):=zqW a (z5I _ _<|zjW _ a)
theorem z5B {b c:Bare}(a:SameB b c)(h:Host)(m:Int)(g p:Int)(s:Slot):zdn h m (zeT b g p s)=zdn h m (zeT c g p s)/\zfQ b g p s=zfQ c g p s:=by have e:=a.at g;simp only[zeT,zfQ,e];exact⟨zqm a _ _ _ _ _,zl7 a _ _⟩
@[simp] abbrev zw7 (h:Host)(m:Int)(g p:Int)(s:Slot):Bool:=pc (zdI h)
def zAY:Run:=rF5 dH dI dI dI (dT .slot) λb c d e f=>(zw7 b c d e f,[aH<|znf b c d e f,aB<|zng b c d e f])
def zFI (N:Nat)(g:Host)(b d e:Int)(f:Slot):OA:=
 let a:=zl g;let c:=ix a.Mons b zh; (oN (zbC g)<|oN (zgd a b)<|cond (nB<|zgc a b) (some [aH a,aB false])<|oN (inb b<|ln a.Mons)<|oN (zfm c)<|oN (zrv (zbT c) d e f)<|oN (zfl a b<|zeT (zbT c) d e f)<|some [aH<|zhZ a b<|zeT (zbT c) d e f,aB<|zfQ (zbT c) d e f])
theorem zRA (a:Host)(c d e:Int)(f:Slot)(n:zw7 a c d e f=true):∃N,zFI N a c d e f=some [aH<|znf a c d e f,aB<|zng a c d e f]:=by
 have i:=(zU a).1 (zQ.1 n);refine⟨0,?_⟩;have j:=zof (h:=a) (m:=c) (cB:=zrv (zdc<|ix a.Mons c mZ) d e f) (B:=zeT (zdc<|ix a.Mons c mZ) d e f) (o0:=λH=>[.agg<|zbl H,.one<|.b false]) (o1:=λH=>[.agg<|zbl H,.one<|.b<|zfQ (zdc<|ix a.Mons c mZ) d e f]) i
  (λg=>zbw (zfz<|i.2.1.2 _<|zbK (zcP.1 g).2 _)) (λg=>zYw _ _ _ (zfz<|i.2.1.2 _<|zbK (zcP.1 g).2 _))
 refine(show zFI 0 a c d e f=_ from j).trans ?_;unfold znf zng zir zhe;cases g:zc3 a c;{rfl};{obtain⟨k,l⟩:=z5B (zj1 g<|zow g) a c d e f;simp only[cT];exact ztH k l}
theorem zKt:vM 76 zAY:=kF5 zjX zA zcc zdA (zx []) zRA
theorem zL4 {b:Bare}(g v:Int)(a:SmB b):SmB (zdC b g v):=zqW a (z5G _<|zjW _ a)
theorem zXu {b c:Bare}(a:SameB b c)(h:Host)(m:Int)(g v:Int):zdn h m (zdC b g v)=zdn h m (zdC c g v)/\zen b g v=zen c g v:=by have e:=a.at g;simp only[zdC,zen,e];exact⟨zqm a _ _ _ _ _,zl7 a _ _⟩
@[simp] abbrev zqP (h:Host)(m:Int)(g v:Int):Bool:=pc (zdI h)
def zuR:Run:=rF4 dH dI dI dI λb c d e=>(zqP b c d e,[aH<|zjy b c d e,aB<|zjz b c d e])
def zxz (N:Nat)(f:Host)(b d e:Int):OA:=
 let a:=zl f;let c:=ix a.Mons b zh; (oN (zbC f)<|oN (zgd a b)<|cond (nB<|zgc a b) (some [aH a,aB false])<|oN (inb b<|ln a.Mons)<|oN (zfm c)<|oN (zmy (zbT c) d e)<|oN (zfl a b<|zdC (zbT c) d e)<|some [aH<|zhZ a b<|zdC (zbT c) d e,aB<|zen (zbT c) d e])
theorem zIb (a:Host)(c d e:Int)(l:zqP a c d e=true):∃N,zxz N a c d e=some [aH<|zjy a c d e,aB<|zjz a c d e]:=by
 have g:=(zU a).1 (zQ.1 l);refine⟨0,?_⟩;have i:=zof (h:=a) (m:=c) (cB:=zmy (zdc<|ix a.Mons c mZ) d e) (B:=zdC (zdc<|ix a.Mons c mZ) d e) (o0:=λH=>[.agg<|zbl H,.one<|.b false]) (o1:=λH=>[.agg<|zbl H,.one<|.b<|zen (zdc<|ix a.Mons c mZ) d e]) g
  (λf=>zbw (zfz<|g.2.1.2 _<|zbK (zcP.1 f).2 _)) (λf=>zL4 _ _ (zfz<|g.2.1.2 _<|zbK (zcP.1 f).2 _))
 refine(show zxz 0 a c d e=_ from i).trans ?_;unfold zjy zjz zir zhe;cases f:zc3 a c;{rfl};{obtain⟨j,k⟩:=zXu (zj1 f<|zow f) a c d e;simp only[cT];exact ztH j k}
theorem zCN:vM 78 zuR:=kF4 zjX zA zcc zdA (zx []) zIb
theorem zL6 {b:Bare}(g:Int)(a:SmB b):SmB (zdE b g):=zqW a (z5H<|zjW _ a)
theorem zXw {b c:Bare}(a:SameB b c)(h:Host)(m:Int)(g:Int):zdn h m (zdE b g)=zdn h m (zdE c g)/\zep b g=zep c g:=by have e:=a.at g;simp only[zdE,zep,e];exact⟨zqm a _ _ _ _ _,zl7 a _ _⟩
@[simp] abbrev zqR (h:Host)(m:Int)(g:Int):Bool:=pc (zdI h)
def zuT:Run:=rF3 dH dI dI λb c d=>(zqR b c d,[aH<|zjC b c d,aB<|zjD b c d])
def zxB (N:Nat)(e:Host)(b d:Int):OA:=
 let a:=zl e;let c:=ix a.Mons b zh; (oN (zbC e)<|oN (zgd a b)<|cond (nB<|zgc a b) (some [aH a,aB false])<|oN (inb b<|ln a.Mons)<|oN (zfm c)<|oN (zdl (zbT c) d)<|oN (zfl a b<|zdE (zbT c) d)<|some [aH<|zhZ a b<|zdE (zbT c) d,aB<|zep (zbT c) d])
theorem zId (a:Host)(c d:Int)(k:zqR a c d=true):∃N,zxB N a c d=some [aH<|zjC a c d,aB<|zjD a c d]:=by
 have f:=(zU a).1 (zQ.1 k);refine⟨0,?_⟩;have g:=zof (h:=a) (m:=c) (cB:=zdl (zdc<|ix a.Mons c mZ) d) (B:=zdE (zdc<|ix a.Mons c mZ) d) (o0:=λH=>[.agg<|zbl H,.one<|.b false]) (o1:=λH=>[.agg<|zbl H,.one<|.b<|zep (zdc<|ix a.Mons c mZ) d]) f
  (λe=>zbw (zfz<|f.2.1.2 _<|zbK (zcP.1 e).2 _)) (λe=>zL6 _ (zfz<|f.2.1.2 _<|zbK (zcP.1 e).2 _))
 refine(show zxB 0 a c d=_ from g).trans ?_;unfold zjC zjD zir zhe;cases e:zc3 a c;{rfl};{obtain⟨i,j⟩:=zXw (zj1 e<|zow e) a c d;simp only[cT];exact ztH i j}
theorem zCP:vM 79 zuT:=kF3 zjX zA zcc zdA (zx []) zId
theorem zL5 {b:Bare}(g n:Int)(a:SmB b):SmB (zdD b g n):=zqW a (zjW (b:=b) _ a)
theorem zXv {b c:Bare}(a:SameB b c)(h:Host)(m:Int)(g n:Int):zdn h m (zdD b g n)=zdn h m (zdD c g n)/\zeo b g n=zeo c g n:=by have e:=a.at g;simp only[zdD,zeo,e];exact⟨zqm a _ _ _ _ _,zl7 a _ _⟩
@[simp] abbrev zqQ (h:Host)(m:Int)(g n:Int):Bool:=pc (zdI h)
def zuS:Run:=rF4 dH dI dI dI λb c d e=>(zqQ b c d e,[aH<|zjA b c d e,aB<|zjB b c d e])
def zxA (N:Nat)(f:Host)(b d e:Int):OA:=
 let a:=zl f;let c:=ix a.Mons b zh; (oN (zbC f)<|oN (zgd a b)<|cond (nB<|zgc a b) (some [aH a,aB false])<|oN (inb b<|ln a.Mons)<|oN (zfm c)<|oN (zmz (zbT c) d e)<|oN (zfl a b<|zdD (zbT c) d e)<|some [aH<|zhZ a b<|zdD (zbT c) d e,aB<|zeo (zbT c) d e])
theorem zIc (a:Host)(c d e:Int)(l:zqQ a c d e=true):∃N,zxA N a c d e=some [aH<|zjA a c d e,aB<|zjB a c d e]:=by
 have g:=(zU a).1 (zQ.1 l);refine⟨0,?_⟩;have i:=zof (h:=a) (m:=c) (cB:=zmz (zdc<|ix a.Mons c mZ) d e) (B:=zdD (zdc<|ix a.Mons c mZ) d e) (o0:=λH=>[.agg<|zbl H,.one<|.b false]) (o1:=λH=>[.agg<|zbl H,.one<|.b<|zeo (zdc<|ix a.Mons c mZ) d e]) g
  (λf=>zbw (zfz<|g.2.1.2 _<|zbK (zcP.1 f).2 _)) (λf=>zL5 _ _ (zfz<|g.2.1.2 _<|zbK (zcP.1 f).2 _))
 refine(show zxA 0 a c d e=_ from i).trans ?_;unfold zjA zjB zir zhe;cases f:zc3 a c;{rfl};{obtain⟨j,k⟩:=zXv (zj1 f<|zow f) a c d e;simp only[cT];exact ztH j k}
theorem zCO:vM 80 zuS:=kF4 zjX zA zcc zdA (zx []) zIc
theorem zYv {b:Bare}(g:Int)(x:Ctl)(a:SmB b):SmB (zeS b g x):=zqW a (zjW (b:=b) _ a)
theorem z5A {b c:Bare}(a:SameB b c)(h:Host)(m:Int)(g:Int)(x:Ctl):zdn h m (zeS b g x)=zdn h m (zeS c g x)/\zfP b g x=zfP c g x:=by have e:=a.at g;simp only[zeS,zfP,e];exact⟨zqm a _ _ _ _ _,zl7 a _ _⟩
@[simp] abbrev zw4 (h:Host)(m:Int)(g:Int)(x:Ctl):Bool:=pc (zdI h)
def zAV:Run:=rF4 dH dI dI dC λb c d e=>(zw4 b c d e,[aH<|znd b c d e,aB<|zne b c d e])
def zFF (N:Nat)(f:Host)(b d:Int)(e:Ctl):OA:=
 let a:=zl f;let c:=ix a.Mons b zh; (oN (zbC f)<|oN (zgd a b)<|cond (nB<|zgc a b) (some [aH a,aB false])<|oN (inb b<|ln a.Mons)<|oN (zfm c)<|oN (zru (zbT c) d e)<|oN (zfl a b<|zeS (zbT c) d e)<|some [aH<|zhZ a b<|zeS (zbT c) d e,aB<|zfP (zbT c) d e])
theorem zRx (a:Host)(c d:Int)(e:Ctl)(l:zw4 a c d e=true):∃N,zFF N a c d e=some [aH<|znd a c d e,aB<|zne a c d e]:=by
 have g:=(zU a).1 (zQ.1 l);refine⟨0,?_⟩;have i:=zof (h:=a) (m:=c) (cB:=zru (zdc<|ix a.Mons c mZ) d e) (B:=zeS (zdc<|ix a.Mons c mZ) d e) (o0:=λH=>[.agg<|zbl H,.one<|.b false]) (o1:=λH=>[.agg<|zbl H,.one<|.b<|zfP (zdc<|ix a.Mons c mZ) d e]) g
  (λf=>zbw (zfz<|g.2.1.2 _<|zbK (zcP.1 f).2 _)) (λf=>zYv _ _ (zfz<|g.2.1.2 _<|zbK (zcP.1 f).2 _))
 refine(show zFF 0 a c d e=_ from i).trans ?_;unfold znd zne zir zhe;cases f:zc3 a c;{rfl};{obtain⟨j,k⟩:=z5A (zj1 f<|zow f) a c d e;simp only[cT];exact ztH j k}
theorem zKq:vM 81 zAV:=kF4 zjX zA zcc zdA (zx []) zRx
theorem zVw {b:Bare}(n:Int)(a:SmB b):SmB (zfj b n):=z3r a
theorem z3j {b c:Bare}(f:SameB b c)(h:Host)(m n:Int):zdn h m (zfj b n)=zdn h m (zfj c n)/\zg3 b n=zg3 c n:=by obtain⟨a,d,e⟩:=z2S f n;exact⟨back_eq a d,e⟩
@[simp] abbrev zu1 (h:Host)(m:Int)(n:Int):Bool:=pc (zdI h)
def zyu:Run:=rF3 dH dI dI λb c d=>(zu1 b c d,[aH<|zlt b c d,aB<|zlu b c d])
def zB2 (N:Nat)(e:Host)(b d:Int):OA:=
 let a:=zl e;let c:=ix a.Mons b zh; (oN (zbC e)<|oN (zgd a b)<|cond (nB<|zgc a b) (some [aH a,aB false])<|oN (inb b<|ln a.Mons)<|oN (zfm c)<|oN (zf7 (zbT c) d)<|oN (zfl a b<|zfj (zbT c) d)<|some [aH<|zhZ a b<|zfj (zbT c) d,aB<|zg3 (zbT c) d])
theorem zOs (a:Host)(c d:Int)(k:zu1 a c d=true):∃N,zB2 N a c d=some [aH<|zlt a c d,aB<|zlu a c d]:=by
 have f:=(zU a).1 (zQ.1 k);refine⟨0,?_⟩;have g:=zof (h:=a) (m:=c) (cB:=zf7 (zdc<|ix a.Mons c mZ) d) (B:=zfj (zdc<|ix a.Mons c mZ) d) (o0:=λH=>[.agg<|zbl H,.one<|.b false]) (o1:=λH=>[.agg<|zbl H,.one<|.b<|zg3 (zdc<|ix a.Mons c mZ) d]) f
  (λe=>zbw (zfz<|f.2.1.2 _<|zbK (zcP.1 e).2 _)) (λe=>zVw _ (zfz<|f.2.1.2 _<|zbK (zcP.1 e).2 _))
 refine(show zB2 0 a c d=_ from g).trans ?_;unfold zlt zlu zir zhe;cases e:zc3 a c;{rfl};{obtain⟨i,j⟩:=z3j (zj1 e<|zow e) a c d;simp only[cT];exact ztH i j}
theorem zHH:vM 83 zyu:=kF3 zjX zA zcc zdA (zx []) zOs
theorem zYu {b:Bare}(a:SmB b):SmB (zfi b):=z5F a
theorem z5z {b c:Bare}(g:SameB b c)(h:Host)(m:Int):zdn h m (zfi b)=zdn h m (zfi c)/\zgJ b=zgJ c/\zgK b=zgK c:=by obtain⟨a,d,e,f⟩:=z3I g;exact⟨back_eq a d,e,f⟩
def zAU:Run:=rF2 dH dI λb c=>(zgX b c,[aH<|zna b c,aI<|znb b c,aB<|znc b c])
def zFD (N:Nat)(d:Host)(b:Int):OA:=
 let a:=zl d;let c:=ix a.Mons b zh; (oN (zbC d)<|oN (zgd a b)<|cond (nB<|zgc a b) (some [aH a,aI<|-1,aB false])<|oN (inb b<|ln a.Mons)<|oN (zfm c)<|oN (zcw<|zbT c)<|oN (zfl a b<|zfi<|zbT c)<|some [aH<|zhZ a b<|zfi<|zbT c,aI<|zgJ<|zbT c,aB<|zgK<|zbT c])
theorem zRv (a:Host)(c:Int)(l:zgX a c=true):∃N,zFD N a c=some [aH<|zna a c,aI<|znb a c,aB<|znc a c]:=by
 have e:=(zU a).1 (zQ.1 l);refine⟨0,?_⟩;have f:=zof (h:=a) (m:=c) (cB:=zcw (zdc<|ix a.Mons c mZ)) (B:=zfi (zdc<|ix a.Mons c mZ)) (o0:=λH=>[.agg<|zbl H,.one<|.i .i64<|-1,.one<|.b false]) (o1:=λH=>[.agg<|zbl H,.one<|.i .i64<|zgJ<|zdc<|ix a.Mons c mZ,.one<|.b<|zgK<|zdc<|ix a.Mons c mZ]) e
  (λd=>zbw (zfz<|e.2.1.2 _<|zbK (zcP.1 d).2 _)) (λd=>zYu (zfz<|e.2.1.2 _<|zbK (zcP.1 d).2 _))
 refine(show zFD 0 a c=_ from f).trans ?_;unfold zna znb znc zir zhe;cases d:zc3 a c;{rfl};{obtain⟨g,j,k⟩:=z5z (zj1 d<|zow d) a c;simp only[cT];exact z8r g j k}
theorem zKp:vM 84 zAU:=kF2 zjX zA zcc zdA (zx []) zRv
def z1k:zbb:=[(76,zAY),(78,zuR),(79,zuT),(80,zuS),(81,zAV),(83,zyu),(84,zAU)]++z1j
theorem zvz:zS z1k:=zi zKt (zi zCN<|zi zCP<|zi zCO<|zi zKq<|zi zHH<|zi zKp zjX)
def zku (h:Host)(m t:Int):Host:=bif zck h then (cond (hasB m<|ln h.Mons) (cond (zk t 0 3) {h with Mons:=up h.Mons m {ix h.Mons m mZ with Traps:=t}} h) h) else h
def zzY (h:Host)(m t:Int):Bool:=bif zck h then (cond (hasB m<|ln h.Mons) (zk t 0 3) false) else false
@[simp] abbrev zu4 (h:Host)(m t:Int):Bool:=pc (zdI h)
@[simp] abbrev zpJ (h:Host)(m t:Int):Host:=zku h m t
@[simp] abbrev zpK (h:Host)(m t:Int):Bool:=zzY h m t
def zyx:Run:=rF3 dH dI dI λb c d=>(zu4 b c d,[aH<|zpJ b c d,aB<|zpK b c d])
def zB6 (N:Nat)(d:Host)(b c:Int):OA:=
 let a:=zl d; (oN (zbC d)<|oN (zez a)<|cond (nB<|zeu a) (some [aH a,aB false])<|oN (zO b 0<|wsub .i64 (ln a.Mons) 1)<|cond (nB<|zk b 0<|wsub .i64 (ln a.Mons) 1) (some [aH a,aB false])<|oN (zO c 0 3)<|cond (nB<|zk c 0 3) (some [aH a,aB false])<|oN (inb b<|ln a.Mons)<|share (up a.Mons b ({ (ix a.Mons b zh) with Traps:=c}:Mon)) λe=>some [aH ({a with Mons:=e}:Host),aB true])
theorem zOw (a:Host)(b c:Int)(d:zu4 a b c=true):∃N,zB6 N a b c=some [aH<|zpJ a b c,aB<|zpK a b c]:=by
 have g:=(zU a).1 (zQ.1 d);refine⟨0,?_⟩;unfold zB6 zpJ zpK zku zzY oN nB;conv=>zeta
 refine must d (must rfl ?_);rw[show zeu (zl a)=zck a from rfl];cases e:zck a;{rfl};{refine zdp rfl (must rfl ?_);rw[show zk b 0 (wsub .i64 (ln (zl a).Mons) 1)=hasB b (ln a.Mons) from zPk e b];cases f:hasB b (ln a.Mons);{rfl};{refine zdp rfl (must rfl ?_);rw[show zk c 0 3=zk c 0 3 from rfl];cases h:zk c 0 3;{rfl};{exact zdp rfl (must (zC f) rfl)}}}
theorem zHM:vM 201 zyx:=kF3 zvz zA zcc zdA (zx []) zOw
theorem zkX {h:Host}{m p:Int}:(zcN h m p=true)↔zck h=true/\hasB m (ln h.Mons)=true/\hasB p 8=true:=by unfold zcN;cases zck h<;>cases hasB m (ln h.Mons)<;>simp
def zk7 (h:Host)(m p:Int):Bool:=ieq (ix (ix h.Mons m mZ).Outer p sZ).Page (-1)
def zqB (h:Host)(m p:Int):Host:=bif zcN h m p then (cond (zk7 h m p) h<|zd5 h m p) else h
def zDh (h:Host)(m p:Int):Bool:=bif zcN h m p then !zk7 h m p else false
def zuE (h:Host)(m p:Int):Host:=bif zcN h m p then (cond (zk7 h m p) (fetched h m p) h) else h
def zIk (h:Host)(m p:Int):Bool:=bif zcN h m p then zk7 h m p else false
@[simp] abbrev zrA (h:Host)(m p:Int):Host:=zqB h m p
@[simp] abbrev zrB (h:Host)(m p:Int):Bool:=zDh h m p
@[simp] abbrev ztx (h:Host)(m p:Int):Host:=zuE h m p
@[simp] abbrev zty (h:Host)(m p:Int):Bool:=zIk h m p
theorem zLy {h:Host}(f:SmH h)(c:zck h=true){m p:Int}(d:hasB m (ln h.Mons)=true)(e:hasB p 8=true) :
 (cond (ieq (ix (ix h.Mons m mZ).Outer p sZ).Page<|-1) (ieq (ix (ix h.Mons m mZ).Outer p sZ).Rights 0) false)=zk7 h m p:=by
 have a:=(ztn (zhJ c _<|zbK d mZ) e).no;unfold zdb at a;unfold zk7;rw[<- a];cases b:ieq (ix (ix h.Mons m mZ).Outer p sZ).Page (-1)<;>simp [noSlot,b]
theorem zQp {h:Host}(d:SmH h)(a:zck h=true){m p:Int}(b:hasB m (ln h.Mons)=true)(c:hasB p 8=true):inb p (ln (ix h.Mons m mZ).Outer)=true :=
 zC (by rw[ln,((zf4 d a).1.2 _ (zbK b mZ)).1];exact c)
def zA1:Run:=rF3 dH dI dI λb c d=>(ziN b c d,[aH<|zrA b c d,aB<|zrB b c d])
def zFM (N:Nat)(e:Host)(c b:Int):OA:=
 let a:=zl e;let d:=(ix a.Mons c zh).Outer; (oN (zbC e)<|oN (zot a c b)<|cond (nB<|zgj a c b) (some [aH a,aB false])<|oN (inb c<|ln a.Mons)<|oN (inb b<|ln d)<|oN zbP<|cond (cond (ieq (ix d b zW).Page zbf.Page) (ieq (ix d b zW).Rights zbf.Rights) false) (some [aH a,aB false])<|oN (zkt a c b)<|some [aH<|zn9 a c b,aB true])
theorem zRD (a:Host)(b c:Int)(h:ziN a b c=true):∃N,zFM N a b c=some [aH<|zrA a b c,aB<|zrB a b c]:=by
 have g:=(zU a).1 (zQ.1 h);refine⟨0,?_⟩;unfold zFM zrA zrB zqB zDh oN nB;conv=>zeta
 refine must h (must rfl ?_);rw[show zgj (zl a) b c=zcN a b c from rfl];cases i:zcN a b c;{rfl};{obtain⟨e,d,f⟩:=zkX.1 i;refine zdp rfl (must (zC d)<|must (zQp g e d f) (must rfl ?_));rw[show (cond (ieq (ix (ix (zl a).Mons b zh).Outer c zW).Page zbf.Page) (ieq (ix (ix (zl a).Mons b zh).Outer c zW).Rights zbf.Rights) false)=zk7 a b c from zLy g e d f];cases j:zk7 a b c;{exact zdp rfl (must (zbw ⟨(zf4 g e).1,d,f⟩) rfl)};{rfl}}
theorem zKx:vM 198 zA1:=kF3 zvz zA zcc zdA (zx []) zRD
def zDv:Run:=rF3 dH dI dI λb c d=>(ziN b c d,[aH<|ztx b c d,aB<|zty b c d])
def zJj (N:Nat)(e:Host)(c b:Int):OA:=
 let a:=zl e;let d:=(ix a.Mons c zh).Outer; (oN (zbC e)<|oN (zot a c b)<|cond (nB<|zgj a c b) (some [aH a,aB false])<|oN (inb c<|ln a.Mons)<|oN (inb b<|ln d)<|oN zbP<|cond (nB<|cond (ieq (ix d b zW).Page zbf.Page) (ieq (ix d b zW).Rights zbf.Rights) false) (some [aH a,aB false])<|oN (zlR a c b)<|some [aH<|zmL a c b,aB true])
theorem zUi (a:Host)(b c:Int)(h:ziN a b c=true):∃N,zJj N a b c=some [aH<|ztx a b c,aB<|zty a b c]:=by
 have g:=(zU a).1 (zQ.1 h);refine⟨0,?_⟩;unfold zJj ztx zty zuE zIk oN nB;conv=>zeta
 refine must h (must rfl ?_);rw[show zgj (zl a) b c=zcN a b c from rfl];cases i:zcN a b c;{rfl};{obtain⟨e,d,f⟩:=zkX.1 i;refine zdp rfl (must (zC d)<|must (zQp g e d f) (must rfl ?_));rw[show (cond (ieq (ix (ix (zl a).Mons b zh).Outer c zW).Page zbf.Page) (ieq (ix (ix (zl a).Mons b zh).Outer c zW).Rights zbf.Rights) false)=zk7 a b c from zLy g e d f];cases j:zk7 a b c;{rfl};{exact zdp rfl (must (zbw ⟨zf4 g e,d,f⟩) rfl)}}
theorem zND:vM 199 zDv:=kF3 zvz zA zcc zdA (zx []) zUi
def z1l:zbb:=[(201,zyx),(198,zA1),(199,zDv)]++z1k
theorem zPR:zS z1l:=zi zHM (zi zKx<|zi zND zvz)
theorem z0O {x:Mon}{b:Bare}(h:zf1 x)(a:zlh b.Guests):zf1 (zvu x b):=⟨h.1,h.2.1,h.2.2.1,a,h.2.2.2.2⟩
theorem zIB {h:Host}{m:Int}{b:Bare}(a:SmH h)(d:hasB m (ln h.Mons)=true)(c:zlh b.Guests):SmH (zdn h m b):=
 ⟨a.1,zj2 a.2.1<|z0O (a.2.1.2 _<|zbK d _) c,a.2.2⟩
theorem zSO {h:Host}{m:Int}(b:Bare)(a:hasB m (ln h.Mons)=true):hasB m (ln (zdn h m b).Mons)=true:=by show hasB m (ln<|up h.Mons m _)=true;rw[ln,zhy];exact a
theorem z8i {h:Host}{m:Int}(b:Bare)(c:hasB m (ln h.Mons)=true):ix (zdn h m b).Mons m mZ=zvu (ix h.Mons m mZ) b:=by obtain⟨k,rfl,a⟩:=zef (n:=h.Mons.length) c;exact zel a _ _
def zCz (h:Host)(m g p:Int):Host:=⟨h.Memory,up h.Mons m {ix h.Mons m mZ with Tables:=up (ix h.Mons m mZ).Tables g (zb4 (ix (ix h.Mons m mZ).Tables g kZ) p)},zcQ h.Buffer (zeh m g) p,zcQ h.IoBuffer (zeh m g) p⟩
def z1T (H:Host)(m g p:Int)(o:Host->Ans):OA:=
 bif inb m (ln H.Mons) then (bif inb m (ln H.Mons) then (bif inb g (ln (ix H.Mons m mZ).Tables) then (bif zdQ (ix (ix H.Mons m mZ).Tables g kZ) p then (bif inb g (ln (ix H.Mons m mZ).Tables) then (share (up H.Mons m {ix H.Mons m mZ with Tables:=up (ix H.Mons m mZ).Tables g (zb4 (ix (ix H.Mons m mZ).Tables g kZ) p)}) λx=>
  (cond (zhS m g) (cond (zfs H.Buffer (zeh m g) p) (cond (zhS m g) (cond (zfs H.IoBuffer (zeh m g) p) (some<|o ⟨H.Memory,x,zcQ H.Buffer (zeh m g) p,zcQ H.IoBuffer (zeh m g) p⟩) none) none) none) none)) else none) else none) else none) else none) else none
theorem z1U {H:Host}{m g p:Int}{o:Host->Ans}(b:SmH H)(a:hasB m (ln H.Mons)=true)(hg:hasB g (ln (ix H.Mons m mZ).Tables)=true):z1T H m g p o=some (o<|zCz H m g p):=by have c:=b.2.1.2 _ (zbK a mZ);unfold z1T;exact must (zC a) (must (zC a)<|must (zC hg)<|must (zbw<|c.2.2.2.2.2.2 _<|zbK hg _)<|must (zC hg)<|shr (must rfl (must (zbw b.2.2.1) (must rfl (must (zbw b.2.2.2) rfl)))))
def zlo (h:Host)(m g p:Int):Host:=bif zc3 h m then (cond (zcq (zK h m) g<|hasB p 4) (zCz (zdn h m<|chg (zK h m) g (hasB p 4)<|zei (gAt (zK h m) g) p) m g p) h) else h
@[simp] abbrev zsV (h:Host)(m g p:Int):Bool:=pc (zdI h)
@[simp] abbrev znL (h:Host)(m g p:Int):Host:=zlo h m g p
theorem zXx {h:Host}{m:Int}(a:hasB m (ln h.Mons)=true):(zK h m).Guests=(ix h.Mons m mZ).Guests:=by unfold zK;rw[a];rfl
theorem zP6 {h:Host}{m g:Int}{k:Bool}(i:SmH h)(e:zc3 h m=true)(b:Bare)(a:zcq (zK h m) g k=true):hasB g (ln (ix (zdn h m b).Mons m mZ).Tables)=true:=by obtain⟨f,c⟩:=zcP.1 e;rw[z8i b c];show hasB g (ln (ix h.Mons m mZ).Tables)=true;rw[ln,((zf4 i f).1.2 _ (zbK c mZ)).2.2.2,<- zXx c];unfold zcq at a;cases d:zco (zK h m) g;{rw [d]at a;cases a};{exact(zd8.1 d).2}
def zwe:Run:=rF4 dH dI dI dI λb c d e=>(zsV b c d e,[aH<|znL b c d e,aB<|zkC b c d e])
def zAu (N:Nat)(i:Host)(a b c:Int):OA:=
 let h:=zkZ a b;let e:=zl i;let g:=ix e.Mons a zh;let d:=zhZ e a<|zfq (zbT g) b c;let f:=ix d.Mons a zh;let j:=ix f.Tables b zeC; (oN (zbC i)<|oN (zgd e a)<|cond (nB<|zgc e a) (some [aH e,aB false])<|oN (inb a<|ln e.Mons)<|oN (zfm g)<|oN (zsS (zbT g) b c)<|cond (nB<|ziA (zbT g) b c) (some [aH e,aB false])<|oN (zfl e a<|zfq (zbT g) b c)<|oN (inb a<|ln d.Mons)<|oN (inb a<|ln d.Mons)<|oN (inb b<|ln f.Tables)<|oN (zdQ j c)<|oN (inb b<|ln f.Tables)<|share (up d.Mons a ({f with Tables:=(up f.Tables b<|zhr j c)}:Mon)) λk=>oN (zhS a b)<|oN (zfs d.Buffer h c)<|oN (zhS a b)<|oN (zfs d.IoBuffer h c)<|some [aH (⟨d.Memory,k,zhO d.Buffer h c,zhO d.IoBuffer h c⟩:Host),aB true])
theorem zLr (a:Host)(c d e:Int)(j:zbL big [aH a,aI c,aI d,aI e])(q:zsV a c d e=true):∃N,zAu N a c d e=some [aH<|znL a c d e,aB<|zkC a c d e]:=by
 have k:=(zU a).1 (zQ.1 q);refine⟨0,?_⟩;unfold zAu znL zkC zlo zhe oN nB;conv=>zeta
 refine must q (must rfl ?_);rw[show zgc (zl a) c=zc3 a c from rfl];cases h:zc3 a c;{rfl};{obtain⟨v,f⟩:=zcP.1 h;have r:=k.2.1.2 _ (zbK f mZ);have l:=zfz r;have i:=zj1 h (zow h);have u:zcq (zdc<|ix a.Mons c mZ) d (hasB e 4)=zcq (zK a c) d (hasB e 4):=zl7 i _ _;have s:zdn a c (zfq (zdc<|ix a.Mons c mZ) d e)=zdn a c (chg (zK a c) d (hasB e 4)<|zei (gAt (zK a c) d) e):=(by rw[<- i.at];exact zqm i _ _ _ _ _);refine zdp rfl (must (zC f)<|must (zbw r)<|must (zbw l) ?_);rw[show ziA (zbT<|ix (zl a).Mons c zh) d e=zcq (zK a c) d (hasB e 4) from u];cases t:zcq (zK a c) d (hasB e 4);{rfl};{have j:SmB (zfq (zdc<|ix a.Mons c mZ) d e):=zqW l (zL8 _<|zjW _ l);refine zdp rfl (must (zbw ⟨f,j.2.1⟩) ?_);have n:=z1U (H:=zdn a c (zfq (zdc<|ix a.Mons c mZ) d e)) (m:=c) (g:=d) (p:=e) (o:=λH=>[.agg<|zbl H,.one<|.b true]) (zIB k f j.2.1) (zSO _ f) (zP6 k h _ t);refine(show _=_ from n).trans ?_;rw[s];rfl}}
theorem zEK:vM 77 zwe:=hF4 zPR zA zcc zdA (zx []) zLr
def z1m:zbb:=[(77,zwe)]++z1l
theorem zPS:zS z1m:=zi zEK zPR
def zU2 (h:Host)(m p c v:Int):Host:={mended h m p 2 with Memory:=zbQ (mended h m p 2).Memory (ix (ix (mended h m p 2).Mons m mZ).Outer p sZ).Page c v}
def zf5 (h:Host)(m p c v:Int):Bool:=bif zcN h m p then (cond (hasB c 4) (zk v 0 99) false) else false
def zn1 (h:Host)(m p c v:Int):Host:=bif zf5 h m p c v then zU2 h m p c v else h
@[simp] abbrev zu0 (h:Host)(m p c v:Int):Bool:=pc (zdI h)
@[simp] abbrev zpC (h:Host)(m p c v:Int):Host:=zn1 h m p c v
@[simp] abbrev zpD (h:Host)(m p c v:Int):Bool:=zf5 h m p c v
def z7U (H:Host)(m p c v:Int)(o:Host->Ans):OA:=
 bif zhW H m p 2 then (cond (inb m<|ln (mended H m p 2).Mons) (cond (inb p<|ln (ix (mended H m p 2).Mons m mZ).Outer) (cond (zfk (mended H m p 2).Memory (ix (ix (mended H m p 2).Mons m mZ).Outer p sZ).Page c v) (some<|o<|zU2 H m p c v) none) none) none) else none
theorem z5q {h:Host}{m p c v:Int}{o:Host->Ans}(j:SmH h)(i:zcN h m p=true):z7U h m p c v o=some (o<|zU2 h m p c v):=by obtain⟨g,b,a⟩:=zkX.1 i;have f:=zf4 j g;obtain⟨d,e⟩:=zva (n:=2) f b a;unfold z7U;refine must (zbw ⟨f,b,a,.inr rfl,ztn (zhJ g _<|zbK b mZ) a⟩) (must (zC e)<|must (zC ?_) (must (zbw d.1.1) rfl));rw[ln,(d.2 _<|zbK e mZ).1];exact a
def zyt:Run:=rF5 dH dI dI dI dI λb c d e f=>(zu0 b c d e f,[aH<|zpC b c d e f,aB<|zpD b c d e f])
def zB1 (N:Nat)(g:Host)(b c:Int)(e f:Int):OA:=
 let a:=zl g;let d:=zg8 a b c 2;let h:=(ix d.Mons b zh).Outer;let i:=(ix h c zW).Page; (oN (zbC g)<|oN (zot a b c)<|cond (nB<|zgj a b c) (some [aH a,aB false])<|oN (zO e 0 3)<|cond (nB<|zk e 0 3) (some [aH a,aB false])<|oN (zO f 0 99)<|cond (nB<|zk f 0 99) (some [aH a,aB false])<|oN (zhW a b c 2)<|oN (inb b<|ln d.Mons)<|oN (inb c<|ln h)<|oN (zfk d.Memory i e f)<|some [aH ({d with Memory:=(zft d.Memory i e f)}:Host),aB true])
theorem zOr (d:Host)(f g:Int)(a e:Int)(i:zu0 d f g a e=true):∃N,zB1 N d f g a e=some [aH<|zpC d f g a e,aB<|zpD d f g a e]:=by
 have k:=(zU d).1 (zQ.1 i);refine⟨0,?_⟩;unfold zB1 zpC zpD zn1 zf5 oN nB;conv=>zeta
 refine must i (must rfl ?_);rw[show zgj (zl d) f g=zcN d f g from rfl];cases j:zcN d f g;{rfl};{refine zdp rfl (must rfl ?_);rw[show zk a 0 3=hasB a 4 from zbaO a];cases l:hasB a 4;{rfl};{refine zdp rfl (must rfl ?_);rw[show zk e 0 99=zk e 0 99 from rfl];cases m:zk e 0 99;{rfl};{have h:=z5q (c:=a) (v:=e) (o:=λH=>[.agg<|zbl H,.one<|.b true]) k j;exact zdp rfl (show _=_ from h)}}}
theorem zHG:vM 82 zyt:=kF5 zPS zA zcc zdA (zx []) zOr
def z1o:zbb:=[(82,zyt)]++z1m
theorem z1p:zS z1o:=zi zHG zPS
end
end Go.Proofs.YtjapbkodhfpbbaaGreat.E
