/- What is proved here: a part of the proof that the statement of this claim holds (several texts of wip/, laid together). -/
import Derived.Test.YthhbajmehldikaaGreatY4
namespace Go.Proofs.YthhbajmehldikaaGreat.E
open Go
set_option linter.constructorNameAsVariable false
set_option linter.unusedVariables false
set_option maxRecDepth 100000
set_option linter.unusedSimpArgs false
set_option linter.unusedSectionVars false
noncomputable section
abbrev mZ:Mon:=Ty.dflt .mon
abbrev sZ:Slot:=Ty.dflt .slot
def ShM (x:Mon):Prop:=x.Outer.length=8/\x.Out.length=8/\x.Dirty.length=8/\x.Tables.length=x.Guests.length
def Shape (h:Host):Prop:=SmH h/\∀x∈h.Mons,ShM x
theorem zi1 {h:Host}{m:Int}{x:Mon}(a:Shape h)(c:zeT x)(d:ShM x):Shape {h with Mons:=up h.Mons m x}:=by refine⟨⟨a.1.1,ziH a.1.2.1 c,a.1.2.2⟩,fun y b=>?_⟩;rcases qT b with b|rfl;{exact a.2 y b};{exact d}
theorem zcx {h:Host}(b:Shape h){m:Int}(a:hasB m (ln h.Mons)=true):zeT (ix h.Mons m mZ)/\ShM (ix h.Mons m mZ):=⟨b.1.2.1.2 _ (zbG a _),b.2 _ (zbG a _)⟩
theorem zRD {h:Host}{b:List (List Int)}(a:Shape h)(c:SmM b):Shape {h with Memory:=b}:=⟨⟨c,a.1.2⟩,a.2⟩
theorem zs5 {h:Host}{m p:Int}{s:Slot}(e:hasB m (ln h.Mons)=true)(b:Shape h):Shape (zcq h m p s):=by refine⟨zHt e b.1,?_⟩;obtain⟨_,a⟩:=zcx b e;have d:∀y∈up h.Mons m {zkZ (ix h.Mons m mZ) p (ix h.Mons m mZ).Tables.length with Outer:=up (ix h.Mons m mZ).Outer p s},ShM y:=(by intro y c;rcases qT c with c|rfl;{exact b.2 y c};{exact⟨by simpa using a.1,a.2.1,a.2.2.1,by simpa [zkZ,zqW] using a.2.2.2⟩});unfold zcq;cases ine (ix (ix h.Mons m mZ).Outer p sZ).Page (-1)<;>exact d
theorem zgM (h:Host)(m p:Int)(s:Slot):(zcq h m p s).Mons=up h.Mons m {zkZ (ix h.Mons m mZ) p (ix h.Mons m mZ).Tables.length with Outer:=up (ix h.Mons m mZ).Outer p s}/\(zcq h m p s).Memory=h.Memory:=by unfold zcq;cases ine (ix (ix h.Mons m mZ).Outer p sZ).Page (-1)<;>exact⟨rfl,rfl⟩
theorem ze2 {h:Host}{m k:Int}{x:Mon}(a:hasB m (ln h.Mons)=true):hasB m (ln (up h.Mons k x))=true:=by simpa [ln] using a
theorem zGT {h:Host}{m k p:Int}{s:Slot}(a:hasB m (ln h.Mons)=true):hasB m (ln (zcq h k p s).Mons)=true:=by rw[(zgM h k p s).1];exact ze2 a
theorem zdN {b:Type}{l:List b}{p:Int}(h:l.length=8)(a:hasB p 8=true):hasB p (ln l)=true:=by rw[ln,h];exact a
def zzI (h:Host)(m p:Int)(s:Slot):Host :=
 bif ine s.Page (-1) then ⟨h.Memory,up h.Mons m (zkZ (ix h.Mons m mZ) p (ix h.Mons m mZ).Guests.length),flushed h.Buffer s.Page,flushed h.IoBuffer s.Page⟩
 else ⟨h.Memory,up h.Mons m (zkZ (ix h.Mons m mZ) p (ix h.Mons m mZ).Guests.length),h.Buffer,h.IoBuffer⟩
theorem zAh {h:Host}{k:Nat}{p:Int}{s:Slot}(a:k<h.Mons.length)(b:(ix h.Mons (k:Int) mZ).Tables.length=(ix h.Mons (k:Int) mZ).Guests.length) :
 zzI {h with Mons:=up h.Mons (k:Int) {ix h.Mons (k:Int) mZ with Outer:=up (ix h.Mons (k:Int) mZ).Outer p s}} (k:Int) p (ix (ix h.Mons (k:Int) mZ).Outer p sZ)=zcq h (k:Int) p s:=by
 unfold zcq zzI;simp only[zdT a,ztM,zkZ,b]
def z05 {a:Type}(m p:Int)(i:Nat)(t:List Mon)(b:List Mon->Option a):Option a :=
 (cond (inb (i:Int) (ln (ix t m mZ).Tables)) (cond (inb (i:Int) (ln (ix t m mZ).Guests)) (cond (pc (SmK (ix (ix t m mZ).Tables (i:Int) zcN)/\(ix (ix t m mZ).Guests (i:Int) zG).Live.length<=1048576)) (cond (inb (i:Int) (ln (ix t m mZ).Tables)) (b (up t m ({ (ix t m mZ) with Tables:=(up (ix t m mZ).Tables (i:Int) (zjV (ix (ix t m mZ).Tables (i:Int) zcN) (ix (ix t m mZ).Guests (i:Int) zG).Live p))}:Mon))) none) none) none) none)
theorem zZq {j:Type}{mons:List Mon}{k:Nat}(d:k<mons.length)(p:Int)(c:zeT (ix mons (k:Int) mZ))(f:(ix mons (k:Int) mZ).Tables.length=(ix mons (k:Int) mZ).Guests.length)(K:List Mon->Option j) :
 ∀(n i:Nat),i+n=(ix mons (k:Int) mZ).Guests.length->goN (fun i t g=>z05 (k:Int) p i t g) K n i (up mons (k:Int) (zkZ (ix mons (k:Int) mZ) p i))=K (up mons (k:Int) (zkZ (ix mons (k:Int) mZ) p (ix mons (k:Int) mZ).Guests.length))
 | 0,i,h=>by have:i=(ix mons (k:Int) mZ).Guests.length:=(by omega);subst this;rfl
 |n+1,i,h=>by
  have b:i<(ix mons (k:Int) mZ).Guests.length:=(by omega);have a:i<(zl1 (ix mons (k:Int) mZ).Guests p i (ix mons (k:Int) mZ).Tables).length:=by rw[zqW];omega
  have e:pc (SmK (ix (zl1 (ix mons (k:Int) mZ).Guests p i (ix mons (k:Int) mZ).Tables) (i:Int) zcN)/\(ix (ix mons (k:Int) mZ).Guests (i:Int) zG).Live.length<=1048576)=true :=
   zby ⟨by rw[zbd a];exact(zwM _ _ _ _ (by omega) c.2.2.2.2.2).2 _ (q9 a),by rw[zbd b];exact(c.2.2.2.1.2 _ (q9 b)).2.2.1⟩
  simp only[goN,z05,zdT d,ztM,zkZ,zT a,zT b,e,cT];exact zZq d p c f K n (i+1) (by omega)
@[simp] abbrev zeK (h:Host)(m p:Int)(s:Slot):Bool:=pc (Shape h/\hasB m (ln h.Mons)=true)
@[simp] abbrev zeL (h:Host)(m p:Int)(s:Slot):Host:=zzI h m p s
def zmP:List CV->List AV->Option (Bool×List CV×List AV)
 |[.s (.sl .int) b,.s .mon c,.s .entry d,.s .entry e],[.one (.i .i64 f),.one (.i .i64 g),.agg [.i .i64 h,.i .i64 j]]=>some ((zeK (⟨b,c,d,e⟩:Host) f g (⟨h,j⟩:Slot)),zbq (zeL (⟨b,c,d,e⟩:Host) f g (⟨h,j⟩:Slot)),[])
 |_,_=>none
def zqe (N:Nat)(c:Host)(i n:Int)(k:Slot):OA:=
 (oN (inb i (ln c.Mons)) (iter (σ:=(Int×(Int×(Int×(Int×(Int×(Int×(lN×(lM×(lE×(lE×Unit))))))))))) N (fun p a=>let j:=a.2.2.2.2.2.2.2.1;let h:=a.2.2.2.2.2.2.1;let e:=a.2.2.2.2.1;let g:=a.2.2.2.2.2.2.2.2.1;let f:=a.2.2.2.2.2.2.2.2.2.1;let b:=a.2.2.2.1;let d:=(ix h a.2.1 zi);let m:=(ix d.Tables b zcN);let l:=(ix d.Guests b zG).Live; (cond (ilt b a.2.2.1) (oN (inb b (ln d.Tables)) (oN (inb b (ln d.Guests)) (oN (zhM m l a.1) (oN (inb b (ln d.Tables)) (share (up h a.2.1 ({d with Tables:=(up d.Tables b (zlO m l a.1))}:Mon)) (fun q=>(p (a.1,(a.2.1,(a.2.2.1,((zL .i64 b 1),(e,(a.2.2.2.2.2.1,(q,(j,(g,(f,()))))))))))))))))) (cond (ine e (-1)) (oN (zed g e) (oN (zed f e) (some [(aH (⟨j,h,(zgz g e),(zgz f e)⟩:Host))]))) (some [(aH (⟨j,h,g,f⟩:Host))])))) (n,(i,((ln (ix c.Mons i zi).Guests),(0,(k.Page,(k.Rights,(c.Mons,(c.Memory,(c.Buffer,(c.IoBuffer,()))))))))))))
def zJC:FuncId->Nat->Option Tmpl:=zq [(210,0,{n:=71,tm:=[(0,.lp 0 0),(2,ti),(7,.lp 1 0),(8,.ep 0 [] 0),(20,ti),(21,ti)],lo:=[(0,[.sl 1 [],.sl 0 [],.sl 2 [],.sl 3 []]),(1,[ti,ti])],ro:=[(0,.mon,true),(1,(.sl .int),true),(2,.entry,true),(3,.entry,true)]})]
theorem zMx (N:Nat)(c:Host)(a b:Int)(d:Slot):zoM (cQ zq8 zqy zPI zW3) zJC N 12 210 [true,true,true,true] (zbq c) [aI a,aI b,aT .slot d]=zqe N c a b d:=by kernel_rfl
theorem zIY (c:Host)(d b:Int)(a:Slot)(s:zbU big (.agg (zbq c)::[aI d,aI b,aT .slot a]))(r:zeK c d b a=true):∃N,zqe N c d b a=some (.agg (zbq (zeL c d b a))::[]):=by
 obtain⟨h,g⟩:=zO.1 r;obtain⟨l,q⟩:=zcx h g;have hg:(ix c.Mons d mZ).Guests.length<=big:=(zcv l.2.2.2.1.1).1;refine zb6 fun N f=>?_;unfold zqe oN;conv=>zeta
 refine must (zF g) ?_;refine(zbk ((ix c.Mons d zi).Guests) (fun i (t:lN)=>(b,d,(ln (ix c.Mons d zi).Guests),(i:Int),a.Page,a.Rights,t,c.Memory,c.Buffer,c.IoBuffer,())) _ (fun i (x:Guest) (t:List Mon) j=>z05 d b i t j) (fun (t:lN)=>(cond (ine a.Page (-1)) (cond (zed c.Buffer a.Page) (cond (zed c.IoBuffer a.Page) (some [(.agg (zbq (⟨c.Memory,t,(zgz c.Buffer a.Page),(zgz c.IoBuffer a.Page)⟩:Host)))]) none) none) (some [(.agg (zbq (⟨c.Memory,t,c.Buffer,c.IoBuffer⟩:Host)))]))) (fun i e t rec=>?_) (fun t rec=>?_) _ (c.Mons) (f hg)).trans ?_;{simp only [zbn e,zT e,zbd e,zY e hg,cT];rfl};{simp only [zbh,cF]};obtain⟨k,rfl,m⟩:=zd4 (n:=c.Mons.length) g;rw[ztT (fun i t j=>z05 (k:Int) b i t j)];have p:c.Mons=up c.Mons (k:Int) (zkZ (ix c.Mons (k:Int) mZ) b 0):=(zE1 m _).symm;refine(congrArg _ p).trans ((zZq m b l q.2.2.2 _ _ 0 (jZ _)).trans ?_);show (cond (ine a.Page (-1)) _ _)=some [AV.agg (zbq (zzI c (k:Int) b a))];unfold zzI;cases ine a.Page (-1);{rfl};{exact must rfl (must (zby h.1.2.2.1) (must (zby h.1.2.2.2) rfl))}
theorem zC2:zbL Tryz.prog 210 [true,true,true,true] zmP:=by refine zhJ (zgZ zhP zC zx zdO) (zjU (by kernel_rfl)) ?_;intro g a b j i f h;have d:=zli f;unfold zmP at h;split at h;{obtain⟨e,rfl,rfl⟩:=znn h;obtain⟨N,c⟩:=zIY _ _ _ _ (by exact d) e;exact⟨rfl,_,N,12,(zMx N _ _ _ _ ).trans c⟩};{cases h}
def z1z:zcR:=[(210,([true,true,true,true],zmP))]++zPI
theorem zPJ:zb7 z1z:=zcs zx (by
 intro x a;simp only[qG,qN,or_false]at a;rcases a with rfl
 .exact zC2)
def zfc (h:Host)(m p:Int):Host:={h with Mons:=up h.Mons m {ix h.Mons m mZ with Out:=up (ix h.Mons m mZ).Out p (zcB h.Memory (ix (ix h.Mons m mZ).Outer p sZ).Page)}}
def zdV (h:Host)(m p:Int):Host:=zcq (zfc h m p) m p noSlot
theorem zWQ {m:List (List Int)}{p:Int}(h:SmM m):(zcB m p).length<=1048576:=by unfold zcB;cases a:hasB p (ln m);{exact(by decide:zAo.length<=1048576)};{exact h.2 _ (zbG a _)}
theorem zxp {h:Host}{m p:Int}(c:Shape h)(d:hasB m (ln h.Mons)=true):Shape (zfc h m p):=by obtain⟨a,b⟩:=zcx c d;exact zi1 c ⟨a.1,zNa a.2.1 (zWQ c.1.1),a.2.2⟩ ⟨b.1,by simpa using b.2.1,b.2.2⟩
theorem zM2 {h:Host}{m p:Int}(b:Shape h)(a:hasB m (ln h.Mons)=true):Shape (zdV h m p):=zs5 (ze2 a) (zxp b a)
@[simp] abbrev zkh (h:Host)(m p:Int):Bool:=pc (Shape h/\hasB m (ln h.Mons)=true/\hasB p 8=true)
@[simp] abbrev zn6 (h:Host)(m p:Int):Host:=zdV h m p
def zuX:List AV->Option (Bool×List AV)
 |[.agg [.s (.sl .int) b,.s .mon c,.s .entry d,.s .entry e],.one (.i .i64 f),.one (.i .i64 g)]=>some ((zkh (⟨b,c,d,e⟩:Host) f g),[aH (zn6 (⟨b,c,d,e⟩:Host) f g)])
 |_=>none
def zzb (N:Nat)(a:Host)(b c:Int):OA:=
 let d:=(ix a.Mons b zi);let e:=(ix d.Outer c zU).Page; (oN (inb b (ln a.Mons)) (oN (inb b (ln a.Mons)) (oN (inb c (ln d.Outer)) (oN (zhj a.Memory e) (oN (inb c (ln d.Out)) (share (up a.Mons b ({d with Out:=(up d.Out c (ziT a.Memory e))}:Mon)) (fun g=>let f:=({a with Mons:=g}:Host); (oN zbE (oN (zfA f b c zbc) (some [(aH (zhA f b c zbc))]))))))))))
theorem zYo (N:Nat)(a:Host)(b c:Int):zEC (cQ zq8 zqy z1z zW3) (zq []) N 12 281 [true,true,true,true,false,false] 1 1 [[0],[1],[2],[4],[7]] .mon [aH a,aI b,aI c]=zzb N a b c:=by kernel_rfl
theorem zVN (b:Host)(d c:Int)(m:zbU big [aH b,aI d,aI c])(j:zkh b d c=true):∃N,zzb N b d c=some [aH (zn6 b d c)]:=by
 obtain⟨g,a,f⟩:=zO.1 j;obtain⟨l,e⟩:=zcx g a;obtain⟨k,rfl,h⟩:=zd4 (n:=b.Mons.length) a;have i:=zxp (p:=c) g a;refine⟨0,?_⟩;unfold zzb oN;conv=>zeta
 refine must (zF a) (must (zF a) (must (zF (zdN e.1 f)) (must (zby ((zqo _).2 g.1.1)) (must (zF (zdN e.2.1 f)) (shr (must rfl (must (zby ⟨(zX _).2 i.1,ze2 a,?_,?_⟩) rfl)))))));{simp only [zdT h];exact zdN e.1 f};{simp only [zdT h];exact k7 e.2.2.2}
theorem zOL:zeu Tryz.prog 281 [true,true,true,true,false,false] (some (1,1,[[0],[1],[2],[4],[7]])) zuX:=by refine zmg (kt:=.mon) (zgZ zhP zC zPJ zdO) (zjU (by kernel_rfl)) (by kernel_rfl) ?_;intro a g f e h;have c:=zi9 e;unfold zuX at h;split at h;{obtain⟨d,rfl⟩:=zeA h;obtain⟨N,b⟩:=zVN _ _ _ (by exact c) d;exact⟨⟨_,rfl⟩,rfl,_,N,12,(zYo N _ _ _ ).trans b⟩};{cases h}
def zxb:List CV->List AV->Option (Bool×List CV×List AV)
 |[.s (.sl .int) b,.s .mon c,.s .entry d,.s .entry e],[.one (.i .i64 f),.one (.i .i64 g)]=>some ((zkh (⟨b,c,d,e⟩:Host) f g),zbq (zn6 (⟨b,c,d,e⟩:Host) f g),[])
 |_,_=>none
def zHE (N:Nat)(c:Host)(b a:Int):OA:=
 let d:=(ix c.Mons b zi);let e:=(ix d.Outer a zU); (oN (inb b (ln c.Mons)) (oN (inb a (ln d.Outer)) (oN (zhj c.Memory e.Page) (oN (inb a (ln d.Out)) (share (up c.Mons b ({d with Out:=(up d.Out a (ziT c.Memory e.Page))}:Mon)) (fun g=>let f:=(ix g b zi); (oN zbE (oN (inb a (ln f.Outer)) (share (up g b ({f with Outer:=(up f.Outer a zbc)}:Mon)) (fun i=>let h:=({c with Mons:=i}:Host); (oN (zeK h b a e) (some [(aH (zeL h b a e))]))))))))))))
theorem z4n (N:Nat)(c:Host)(a b:Int):zoM (cQ zq8 zqy z1z zW3) (zq []) N 12 314 [true,true,true,true] (zbq c) [aI a,aI b]=zHE N c a b:=by kernel_rfl
theorem z1i (c:Host)(e a:Int)(w:zbU big (.agg (zbq c)::[aI e,aI a]))(u:zkh c e a=true):∃N,zHE N c e a=some (.agg (zbq (zn6 c e a))::[]):=by
 obtain⟨l,b,j⟩:=zO.1 u;obtain⟨v,f⟩:=zcx l b;obtain⟨k,rfl,h⟩:=zd4 (n:=c.Mons.length) b;have m:=zxp (p:=a) l b;have d:hasB (k:Int) (ln (zfc c (k:Int) a).Mons)=true:=ze2 b;have i:k<(zfc c (k:Int) a).Mons.length:=(by simpa [zfc] using h);have g:ix (zfc c (k:Int) a).Mons (k:Int) mZ={ix c.Mons (k:Int) mZ with Out:=up (ix c.Mons (k:Int) mZ).Out a (zcB c.Memory (ix (ix c.Mons (k:Int) mZ).Outer a sZ).Page)}:=zdT h _ _;have t:Shape {zfc c (k:Int) a with Mons:=up (zfc c (k:Int) a).Mons (k:Int) {ix (zfc c (k:Int) a).Mons (k:Int) mZ with Outer:=up (ix (zfc c (k:Int) a).Mons (k:Int) mZ).Outer a noSlot}}:=(by obtain⟨q,r⟩:=zcx m d;exact zi1 m ⟨by simpa using q.1,q.2⟩ ⟨by simpa using r.1,r.2⟩);refine⟨0,?_⟩;unfold zHE oN;conv=>zeta
 refine must (zF b) (must (zF (zdN f.1 j)) (must (zby ((zqo _).2 l.1.1)) (must (zF (zdN f.2.1 j)) (shr (must rfl (must ?_ (shr (must (zby ⟨t,ze2 d⟩) ?_))))))));{rw [zdT h];exact zF (zdN f.1 j)};{have:=zAh (p:=a) (s:=noSlot) i (by rw[g];exact f.2.2.2);rw[g] at this;show some [AV.agg (zbq (zzI {zfc c (k:Int) a with Mons:=up (zfc c (k:Int) a).Mons (k:Int) {ix (zfc c (k:Int) a).Mons (k:Int) mZ with Outer:=up (ix (zfc c (k:Int) a).Mons (k:Int) mZ).Outer a noSlot}} (k:Int) a (ix (ix c.Mons (k:Int) mZ).Outer a sZ)))]=_;rw[g];exact congrArg (fun x=>some [AV.agg (zbq x)]) this}
theorem zUT:zbL Tryz.prog 314 [true,true,true,true] zxb:=by refine zhJ (zgZ zhP zC zPJ zdO) (zjU (by kernel_rfl)) ?_;intro g a b j i f h;have d:=zli f;unfold zxb at h;split at h;{obtain⟨e,rfl,rfl⟩:=znn h;obtain⟨N,c⟩:=z1i _ _ _ (by exact d) e;exact⟨rfl,_,N,12,(z4n N _ _ _ ).trans c⟩};{cases h}
def z1A:zcR:=[(314,([true,true,true,true],zxb))]++z1z
theorem zPK:zb7 z1A:=zcs zPJ (by
 intro x a;simp only[qG,qN,or_false]at a;rcases a with rfl
 .exact zUT)
def z2t:zfh:=[(281,([true,true,true,true,false,false],(some (1,1,[[0],[1],[2],[4],[7]])),zuX))]++zW3
theorem zPW:zd9 z2t:=zoa zdO (by
 intro x a;simp only[qG,qN,or_false]at a;rcases a with rfl
 .exact zOL)
def cz (l:List Slot):Nat:=l.countP fun s=>ieq s.Page 0
def zH:List Mon->Nat
 |[]=>0
 |m::l=>cz m.Outer+zH l
def bit (u:List Bool):Nat:=bif ix u 0 false then 1 else 0
theorem zxN (s:Slot)(l:List Slot):cz (s::l)=cz l+bif ieq s.Page 0 then 1 else 0:=by unfold cz;rw[uH];cases ieq s.Page 0<;>rfl
theorem zbcd {u:List Bool}{p:Int}(c:0<=p)(a:p.toNat<u.length)(x:Bool):ix (up u p x) 0 false=bif ieq p 0 then x else ix u 0 false:=by unfold ix up;cases h:ieq p 0;{have:p≠0:=(by simpa [ieq] using h);have b:p.toNat≠0:=(by omega);simp[List.getD,jB,b]};{have:p=0:=(by simpa [ieq] using h);subst this;have a:0<u.length:=a;simp[List.getD,jB,a]}
theorem zEp:∀(l:List Slot) (u b:List Bool),(∀s∈l,s.Page<12)->u.length=12->zgX l u=some b->cz l+bit u=bit b
 |[],u,b,_,_,h=>by cases h;simp[cz]
 |s::l,u,b,i,k,h=>by
  simp only[zgX]at h;rw[zxN];cases c:ilt s.Page 0;{have c:=jY c;rw[show ilt s.Page 0=false from qL (by omega)]at h;simp only[cF]at h;cases d:ix u s.Page false;{rw [d]at h;simp only[cF]at h;have g:s.Page.toNat<u.length:=(by have:=i s (by simp);omega);have a:=zEp l _ b (fun t j=>i t (by simp[j])) (by simpa using k) h;have e:bit (up u s.Page true)=bif ieq s.Page 0 then 1 else bit u:=(by unfold bit;rw[zbcd (by omega) g];cases ieq s.Page 0<;>rfl);rw[e] at a;cases f:ieq s.Page 0;{rw [f] at a;simp only[cF] at a ⊢;omega};{have n:s.Page=0:=(by simpa [ieq] using f);rw[n]at d;have:bit u=0:=(by unfold bit;rw[d];rfl);rw[f] at a;simp only[cT] at a ⊢;omega}};{rw [d]at h;cases h}};{have m:=qE c;rw[c]at h;simp only[cT]at h;have a:=zEp l u b (fun t j=>i t (by simp[j])) k h;have:ieq s.Page 0=false:=(by simp[ieq];omega);rw[this];simpa using a}
theorem zUW:∀(l:List Mon) (u:List Bool),u.length=12->zhS l u=true->zH l+bit u<=1
 |[],u,_,_=>by unfold zH bit;cases ix u 0 false<;>simp
 |m::l,u,c,h=>by simp only[zhS]at h;cases b:zd7 m;{rw [b]at h;cases h};{rw [b]at h;simp only[cT]at h;cases a:zgX m.Outer u with|none=>rw[a]at h;cases h|some d =>rw[a]at h;have e:=zEp _ _ _ (zEV (zkQ b)) c a;have f:=zUW l d ((zp8 _ _ _ a).trans c) h;simp only[zH];omega}
theorem z3u:∀(l:List Slot) (b:Nat) (s:Slot),l[b]?=some s->s.Page=0->cz (l.set b noSlot)+1=cz l
 |[],b,s,h,_=>by simp at h
 |t::l,0,s,h,a=>by simp only[qH,qC]at h;subst h;rw[List.set_cons_zero,zxN,zxN];have:ieq t.Page 0=true:=(by simp[ieq,a]);rw[this];rfl
 |t::l,b+1,s,h,a=>by rw[List.set_cons_succ,zxN,zxN];have:=z3u l b s (by simpa using h) a;omega
theorem zXz:∀(l:List Mon) (a:Nat) (x y:Mon),l[a]?=some x->zH (l.set a y)+cz x.Outer=zH l+cz y.Outer
 |[],a,x,y,h=>by simp at h
 |m::l,0,x,y,h=>by simp only[qH,qC]at h;subst h;rw[List.set_cons_zero];simp only[zH];omega
 |m::l,a+1,x,y,h=>by rw[List.set_cons_succ];have:=zXz l a x y (by simpa using h);simp only[zH];omega
theorem z0P {l:List Slot}(h:cz l=0):zoO l 0=none:=by unfold zoO;rw[List.findIdx?_eq_none_iff];intro s a;have:=(uN.1 h) s a;simpa using this
theorem zMC:∀(l:List Mon) (i:Nat),zH l=0->ziy 0 l i=(-1,-1)
 |[],_,_=>rfl
 |m::l,i,h=>by simp only[zH]at h;simp only[ziy];rw[z0P (by omega)];exact zMC l (i+1) (by omega)
theorem z0Q {l:List Slot}{k:Nat}(h:zoO l 0=some k):∃s,l[k]?=some s/\s.Page=0:=by unfold zoO at h;rw[u2]at h;obtain⟨a,b,_⟩:=h;exact⟨l[k],qB a,by simpa [ieq] using b⟩
theorem zG3:∀(l:List Mon) (i:Nat),ziy 0 l i=(-1,-1)\/∃a b x s,ziy 0 l i=(((i+a:Nat):Int),((b:Nat):Int))/\l[a]?=some x/\x.Outer[b]?=some s/\s.Page=0
 |[],_=>.inl rfl
 |m::l,i=>by
  simp only[ziy];cases h:zoO m.Outer 0 with
  |none=>rcases zG3 l (i+1) with c|⟨a,b,x,s,c,d,f,g⟩;{exact .inl c};{refine .inr ⟨a+1,b,x,s,?_,by simpa using d,f,g⟩;have e:i+1+a=i+(a+1):=(by omega);rw[c,e]}
  |some k=>obtain⟨s,c,d⟩:=z0Q h;exact .inr ⟨0,k,m,s,rfl,rfl,c,d⟩
def Fit (h:Host):Prop:=Shape h/\0<h.Memory.length/\zH h.Mons<=1
theorem zGR {h:Host}(c:0<h.Memory.length)(b:ilt (zbK h 0).1 0=true):inb 0 (ln (zco h))=true:=by unfold zco;obtain⟨n,a⟩:∃n,h.Memory.length=n+1:=⟨h.Memory.length-1,by omega⟩;rw[a];simp only[zw7];rw[show ilt (zbK h ((0:Nat):Int)).1 0=true from b];exact qI (by simp only[cT,ln,qX];omega)
theorem z0V {h:Host}(b:0<h.Memory.length)(a:ieq (ln (zco h)) 0=true):ilt (zbK h 0).1 0=false:=by cases c:ilt (zbK h 0).1 0;{rfl};{have d:=qE (zGR b c);have e:ln (zco h)=0:=(by simpa [ieq] using a);omega}
def zdl (h:Host):Host:=bif ieq (ln (zco h)) 0 then zdV h (zbK h 0).1 (zbK h 0).2 else h
structure Room (h r:Host):Prop where
 shape:Shape r
 free:inb 0 (ln (zco r))=true
 len:r.Mons.length=h.Mons.length
 outer:∀m,(ix r.Mons m mZ).Outer.length=8\/True
theorem z4v {h:Host}(i:Fit h)(f:ieq (ln (zco h)) 0=true):∃(a b:Nat) (x:Mon) (s:Slot),zbK h 0=((a:Int),(b:Int))/\h.Mons[a]?=some x/\x.Outer[b]?=some s/\s.Page=0:=by have d:=z0V i.2.1 f;have e:zbK h 0=ziy 0 h.Mons 0:=rfl;rcases zG3 h.Mons 0 with c|⟨a,b,x,s,c,g⟩;{rw [e,c]at d;cases d};{exact⟨a,b,x,s,by rw[e,c,jZ],g⟩}
theorem zEN {h:Host}(d:Fit h)(e:ieq (ln (zco h)) 0=true):hasB (zbK h 0).1 (ln h.Mons)=true/\hasB (zbK h 0).2 8=true:=by obtain⟨a,b,x,s,f,c,g,j⟩:=z4v d e;rw[f];have k:=(qA.1 c).1;have l:=(qA.1 g).1;have i:=d.1.2 x (qK c);refine⟨qI (by simp only[ln];omega),qI ?_⟩;have:=i.1;show 0<=(b:Int)/\(b:Int)<8;omega
theorem room {h:Host}(d:Fit h):Room h (zdl h):=by unfold zdl;cases g:ieq (ln (zco h)) 0;{refine⟨d.1,qI ?_,rfl,fun _=>.inr trivial⟩;have:ln (zco h)≠0:=(by simpa [ieq] using g);show 0<=(0:Int)/\(0:Int)<ln (zco h);simp only[ln] at *;omega};{obtain⟨n,u⟩:=zEN d g;obtain⟨a,b,x,s,r,i,k,t⟩:=z4v d g;simp only[cT];rw[r]at n u ⊢;have m:=(qA.1 i).1;have B:=(qA.1 k).1;have j:ix h.Mons (a:Int) mZ=x:=(by rw[zbd m];exact(qA.1 i).2);have c:=(zgM (zfc h (a:Int) (b:Int)) (a:Int) (b:Int) noSlot).1;have q:ix (zfc h (a:Int) (b:Int)).Mons (a:Int) mZ={x with Out:=up x.Out (b:Int) (zcB h.Memory (ix x.Outer (b:Int) sZ).Page)}:=(by unfold zfc;rw[zdT m,j]);obtain⟨y,l,v⟩:∃y,(zdV h (a:Int) (b:Int)).Mons=h.Mons.set a y/\y.Outer=x.Outer.set b noSlot:=(by unfold zdV;rw[c,q];unfold zfc;rw[ztM];exact⟨_,by simp[up];rfl,by simp[up]⟩);have w:zH (zdV h (a:Int) (b:Int)).Mons=0:=(by have p:=zXz h.Mons a x y i;have z:=z3u x.Outer b s k t;have A:=d.2.2;rw[l];rw[v] at p;omega);have f:(zdV h (a:Int) (b:Int)).Memory=h.Memory:=(zgM (zfc h (a:Int) (b:Int)) (a:Int) (b:Int) noSlot).2;refine⟨zM2 d.1 n,zGR (by rw[f];exact d.2.1) ?_,by rw[l];simp,fun _=>.inr trivial⟩;have e:zbK (zdV h (a:Int) (b:Int)) 0=ziy 0 (zdV h (a:Int) (b:Int)).Mons 0:=rfl;rw[e,zMC _ _ w];rfl}
theorem zWR {m:List (List Int)}{p:Int}{c:List Int}(h:SmM m)(a:c.length<=1048576):SmM (zi4 m p c):=by unfold zi4;cases hasB p (ln m);{exact h};{cases zcu c;{exact h};{exact zNa h a}}
def landing (r:Host)(m p to:Int):Host:={r with Memory:=zi4 r.Memory to (ix (ix r.Mons m mZ).Out p []),Mons:=up r.Mons m {ix r.Mons m mZ with Out:=up (ix r.Mons m mZ).Out p []}}
def zfn (r:Host)(m p to:Int):Host:=zcq (landing r m p to) m p ⟨to,3⟩
def fetched (h:Host)(m p:Int):Host:=zfn (zdl h) m p (ix (zco (zdl h)) 0 0)
theorem zWT {r:Host}{m p:Int}(e:Shape r)(c:hasB m (ln r.Mons)=true)(d:hasB p 8=true):(ix (ix r.Mons m mZ).Out p []).length<=1048576:=by obtain⟨a,b⟩:=zcx e c;exact a.2.1.2 _ (zbG (zdN b.2.1 d) _)
theorem zs4 {r:Host}{m p to:Int}(a:Shape r)(d:hasB m (ln r.Mons)=true)(e:hasB p 8=true):Shape (landing r m p to):=by obtain⟨b,c⟩:=zcx a d;exact zRD (h:={r with Mons:=up r.Mons m {ix r.Mons m mZ with Out:=up (ix r.Mons m mZ).Out p []}}) (zi1 (x:={ix r.Mons m mZ with Out:=up (ix r.Mons m mZ).Out p []}) a ⟨b.1,zNa b.2.1 (by simp),b.2.2⟩ ⟨c.1,by simpa using c.2.1,c.2.2⟩) (zWR a.1.1 (zWT a d e))
theorem zS7 {r:Host}{m p d:Int}(c:Shape r)(a:hasB m (ln r.Mons)=true)(b:hasB p 8=true):Shape (zfn r m p d):=zs5 (ze2 a) (zs4 c a b)
theorem zqF {h:Host}(a:Fit h){m:Int}(b:hasB m (ln h.Mons)=true):hasB m (ln (zdl h).Mons)=true:=by rw[ln,(room a).len];exact b
theorem zkJ {h:Host}{m p:Int}(a:Fit h)(b:hasB m (ln h.Mons)=true)(c:hasB p 8=true):Shape (fetched h m p)/\hasB m (ln (fetched h m p).Mons)=true :=
 ⟨zS7 (room a).shape (zqF a b) c,zGT (ze2 (zqF a b))⟩
@[simp] abbrev zlV (h:Host)(m p:Int):Bool:=pc (Fit h/\hasB m (ln h.Mons)=true/\hasB p 8=true)
@[simp] abbrev zmH (h:Host)(m p:Int):Host:=fetched h m p
def zxd:List AV->Option (Bool×List AV)
 |[.agg [.s (.sl .int) b,.s .mon c,.s .entry d,.s .entry e],.one (.i .i64 f),.one (.i .i64 g)]=>some ((zlV (⟨b,c,d,e⟩:Host) f g),[aH (zmH (⟨b,c,d,e⟩:Host) f g)])
 |_=>none
def zCx (N:Nat)(a:Host)(c b:Int):OA:=
 let h:=(ix (zcW a) 0 0);let f:=(ix a.Mons c zi);let d:=(zn6 a (zdB a 0) (zep a 0));let g:=(ix (zcW d) 0 0);let e:=(ix d.Mons c zi); (oN (zfP a) (cond (ieq (ln (zcW a)) 0) (oN (zfK a 0) (oN (zkh a (zdB a 0) (zep a 0)) (oN (zfP d) (oN (inb 0 (ln (zcW d))) (oN (inb c (ln d.Mons)) (oN (inb b (ln e.Out)) (oN (zfS d.Memory g (ix e.Out b [])) (oN (inb c (ln d.Mons)) (oN (inb b (ln e.Out)) (share (up d.Mons c ({e with Out:=(up e.Out b [])}:Mon)) (fun i=>let j:=({d with Memory:=(zeN d.Memory g (ix e.Out b [])),Mons:=i}:Host); (oN (zfA j c b (⟨g,3⟩:Slot)) (some [(aH (zhA j c b (⟨g,3⟩:Slot)))]))))))))))))) (oN (zfP a) (oN (inb 0 (ln (zcW a))) (oN (inb c (ln a.Mons)) (oN (inb b (ln f.Out)) (oN (zfS a.Memory h (ix f.Out b [])) (oN (inb c (ln a.Mons)) (oN (inb b (ln f.Out)) (share (up a.Mons c ({f with Out:=(up f.Out b [])}:Mon)) (fun i=>let k:=({a with Memory:=(zeN a.Memory h (ix f.Out b [])),Mons:=i}:Host); (oN (zfA k c b (⟨h,3⟩:Slot)) (some [(aH (zhA k c b (⟨h,3⟩:Slot)))])))))))))))))
theorem z1s (N:Nat)(a:Host)(b c:Int):zEC (cQ zq8 zqy z1A z2t) (zq []) N 12 212 [true,true,true,true,false,false] 1 1 [[0],[1],[2],[4],[7]] .mon [aH a,aI b,aI c]=zCx N a b c:=by kernel_rfl
theorem zYj (c:Host)(b d:Int)(z:zbU big [aH c,aI b,aI d])(u:zlV c b d=true):∃N,zCx N c b d=some [aH (zmH c b d)]:=by
 obtain⟨h,v,i⟩:=zO.1 u;have e:∀r,Shape r->inb 0 (ln (zco r))=true->hasB b (ln r.Mons)=true->(cond (zfP r) (cond (inb 0 (ln (zcW r))) (cond (inb b (ln r.Mons)) (cond (inb d (ln (ix r.Mons b zi).Out)) (cond (zfS r.Memory (ix (zcW r) 0 0) (ix (ix r.Mons b zi).Out d [])) (cond (inb b (ln r.Mons)) (cond (inb d (ln (ix r.Mons b zi).Out)) (share (up r.Mons b ({ (ix r.Mons b zi) with Out:=(up (ix r.Mons b zi).Out d [])}:Mon)) (fun s=>(cond (zfA ({r with Memory:=(zeN r.Memory (ix (zcW r) 0 0) (ix (ix r.Mons b zi).Out d [])),Mons:=s}:Host) b d (⟨(ix (zcW r) 0 0),3⟩:Slot)) (some [(AV.agg (zbq (zhA ({r with Memory:=(zeN r.Memory (ix (zcW r) 0 0) (ix (ix r.Mons b zi).Out d [])),Mons:=s}:Host) b d (⟨(ix (zcW r) 0 0),3⟩:Slot))))]) none))) none) none) none) none) none) none) none)=some [AV.agg (zbq (zfn r b d (ix (zco r) 0 0)))]:=(by intro r j f a;obtain⟨y,l⟩:=zcx j a;have t:=zs4 (to:=ix (zco r) 0 0) j a i;obtain⟨k,rfl,q⟩:=zd4 (n:=r.Mons.length) a;refine must (zby j.1.1.1) (must f (must (zF a) (must (zF (zdN l.2.1 i)) (must (zby ⟨j.1.1,zWT j a i⟩) (must (zF a) (must (zF (zdN l.2.1 i)) (shr (must (zby ⟨(zX _).2 t.1,ze2 a,?_,?_⟩) rfl))))))));{simp only [zdT q];exact zdN l.1 i};{simp only [zdT q];exact k7 l.2.2.2});have g:=room h;have a:=zqF h v;refine⟨0,?_⟩;unfold zCx zmH fetched oN;conv=>zeta
 refine must (zby h.1.1.1.1) ?_;cases p:ieq (ln (zcW c)) 0;{have m:zdl c=c:=(by unfold zdl;rw[show ieq (ln (zco c)) 0=false from p];rfl);rw[m]at g a ⊢;exact e c g.shape g.free a};{obtain⟨w,x⟩:=zEN h p;have m:zdl c=zdV c (zbK c 0).1 (zbK c 0).2:=(by unfold zdl;rw[show ieq (ln (zco c)) 0=true from p];rfl);rw[m]at g a ⊢;exact must rfl (must rfl (must (zby ⟨h.1,w,x⟩) (e _ g.shape g.free a)))}
theorem zSb:zeu Tryz.prog 212 [true,true,true,true,false,false] (some (1,1,[[0],[1],[2],[4],[7]])) zxd:=by refine zmg (kt:=.mon) (zgZ zhP zC zPK zPW) (zjU (by kernel_rfl)) (by kernel_rfl) ?_;intro a g f e h;have c:=zi9 e;unfold zxd at h;split at h;{obtain⟨d,rfl⟩:=zeA h;obtain⟨N,b⟩:=zYj _ _ _ (by exact c) d;exact⟨⟨_,rfl⟩,rfl,_,N,12,(z1s N _ _ _ ).trans b⟩};{cases h}
@[simp] abbrev zsG (h:Host):Bool:=pc (Shape h/\hasB (zbK h 0).1 (ln h.Mons)=true/\hasB (zbK h 0).2 8=true)
@[simp] abbrev zsH (h:Host):Host:=zdV h (zbK h 0).1 (zbK h 0).2
def znV:List CV->List AV->Option (Bool×List CV×List AV)
 |[.s (.sl .int) b,.s .mon c,.s .entry d,.s .entry e],[]=>some ((zsG (⟨b,c,d,e⟩:Host)),zbq (zsH (⟨b,c,d,e⟩:Host)),[])
 |_,_=>none
def zsy (N:Nat)(c:Host)  : OA :=
 (oN (zfK c 0) (oN (zkh c (zdB c 0) (zep c 0)) (some [(aH (zn6 c (zdB c 0) (zep c 0)))])))
theorem zPD (N:Nat)(c:Host)  : zoM (cQ zq8 zqy z1A z2t) (zq []) N 12 274 [true,true,true,true] (zbq c) []=zsy N c:=by kernel_rfl
theorem zL9 (c:Host)(d:zbU big (.agg (zbq c)::[]))(a:zsG c=true):∃N,zsy N c=some (.agg (zbq (zsH c))::[]):=by have b:=zO.1 a;refine⟨0,?_⟩;unfold zsy oN;exact must rfl (must (zby b) rfl)
theorem zFa:zbL Tryz.prog 274 [true,true,true,true] znV:=by refine zhJ (zgZ zhP zC zPK zPW) (zjU (by kernel_rfl)) ?_;intro g a b j i f h;have d:=zli f;unfold znV at h;split at h;{obtain⟨e,rfl,rfl⟩:=znn h;obtain⟨N,c⟩:=zL9 _ (by exact d) e;exact⟨rfl,_,N,12,(zPD N _ ).trans c⟩};{cases h}
def z7g:zcR:=[(274,([true,true,true,true],znV))]++z1A
theorem zZJ:zb7 z7g:=zcs zPK (by
 intro x a;simp only[qG,qN,or_false]at a;rcases a with rfl
 .exact zFa)
def zW4:zfh:=[(212,([true,true,true,true,false,false],(some (1,1,[[0],[1],[2],[4],[7]])),zxd))]++z2t
theorem zEY:zd9 zW4:=zoa zPW (by
 intro x a;simp only[qG,qN,or_false]at a;rcases a with rfl
 .exact zSb)
theorem z0o {r:Host}{m p to:Int}(d:Shape r)(b:hasB m (ln r.Mons)=true):zzI {landing r m p to with Mons:=up (landing r m p to).Mons m {ix (landing r m p to).Mons m mZ with Outer:=up (ix (landing r m p to).Mons m mZ).Outer p ⟨to,3⟩}} m p (ix (ix (landing r m p to).Mons m mZ).Outer p sZ)=zfn r m p to:=by obtain⟨e,c⟩:=zcx d b;obtain⟨k,rfl,a⟩:=zd4 (n:=r.Mons.length) b;refine zAh (h:=landing r (k:Int) p to) (by simpa [landing] using a) ?_;unfold landing;simp only[zdT a];exact c.2.2.2
theorem zYU {r:Host}{m p to:Int}(f:Shape r)(b:hasB m (ln r.Mons)=true)(e:hasB p 8=true):Shape {landing r m p to with Mons:=up (landing r m p to).Mons m {ix (landing r m p to).Mons m mZ with Outer:=up (ix (landing r m p to).Mons m mZ).Outer p ⟨to,3⟩}}:=by have a:=zs4 (to:=to) f b e;obtain⟨c,d⟩:=zcx a (ze2 b);exact zi1 a ⟨by simpa using c.1,c.2⟩ ⟨by simpa using d.1,d.2⟩
def zuJ:List CV->List AV->Option (Bool×List CV×List AV)
 |[.s (.sl .int) b,.s .mon c,.s .entry d,.s .entry e],[.one (.i .i64 f),.one (.i .i64 g)]=>some ((zlV (⟨b,c,d,e⟩:Host) f g),zbq (zmH (⟨b,c,d,e⟩:Host) f g),[])
 |_,_=>none
def zB4 (N:Nat)(c:Host)(b a:Int):OA:=
 let m:=(ix (zcW c) 0 0);let d:=(zsH c);let l:=(ix (zcW d) 0 0);let f:=(ix c.Mons b zi);let e:=(ix d.Mons b zi); (oN (zfP c) (cond (ieq (ln (zcW c)) 0) (oN (zsG c) (oN (inb b (ln d.Mons)) (oN (zfP d) (oN (inb 0 (ln (zcW d))) (oN (inb a (ln e.Out)) (oN (zfS d.Memory l (ix e.Out a [])) (oN (inb a (ln e.Out)) (share (up d.Mons b ({e with Out:=(up e.Out a [])}:Mon)) (fun g=>let i:=(ix g b zi);let q:=(ix i.Outer a zU); (oN (inb a (ln i.Outer)) (oN (inb a (ln i.Outer)) (share (up g b ({i with Outer:=(up i.Outer a (⟨l,3⟩:Slot))}:Mon)) (fun k=>let n:=({d with Memory:=(zeN d.Memory l (ix e.Out a [])),Mons:=k}:Host); (oN (zeK n b a q) (some [(aH (zeL n b a q))]))))))))))))))) (oN (inb b (ln c.Mons)) (oN (zfP c) (oN (inb 0 (ln (zcW c))) (oN (inb a (ln f.Out)) (oN (zfS c.Memory m (ix f.Out a [])) (oN (inb a (ln f.Out)) (share (up c.Mons b ({f with Out:=(up f.Out a [])}:Mon)) (fun g=>let j:=(ix g b zi);let h:=(ix j.Outer a zU); (oN (inb a (ln j.Outer)) (oN (inb a (ln j.Outer)) (share (up g b ({j with Outer:=(up j.Outer a (⟨m,3⟩:Slot))}:Mon)) (fun k=>let p:=({c with Memory:=(zeN c.Memory m (ix f.Out a [])),Mons:=k}:Host); (oN (zeK p b a h) (some [(aH (zeL p b a h))]))))))))))))))))
theorem z1r (N:Nat)(c:Host)(a b:Int):zoM (cQ zq8 zqy z7g zW4) (zq []) N 12 208 [true,true,true,true] (zbq c) [aI a,aI b]=zB4 N c a b:=by kernel_rfl
theorem zX6 (c:Host)(b d:Int)(F:zbU big (.agg (zbq c)::[aI b,aI d]))(w:zlV c b d=true):∃N,zB4 N c b d=some (.agg (zbq (zmH c b d))::[]):=by
 obtain⟨j,B,l⟩:=zO.1 w;have e:∀r,Shape r->inb 0 (ln (zco r))=true->hasB b (ln r.Mons)=true->(cond (inb b (ln r.Mons)) (cond (zfP r) (cond (inb 0 (ln (zcW r))) (cond (inb d (ln (ix r.Mons b zi).Out)) (cond (zfS r.Memory (ix (zcW r) 0 0) (ix (ix r.Mons b zi).Out d [])) (cond (inb d (ln (ix r.Mons b zi).Out)) (share (up r.Mons b ({ (ix r.Mons b zi) with Out:=(up (ix r.Mons b zi).Out d [])}:Mon)) (fun g=>(cond (inb d (ln (ix g b zi).Outer)) (cond (inb d (ln (ix g b zi).Outer)) (share (up g b ({ (ix g b zi) with Outer:=(up (ix g b zi).Outer d (⟨(ix (zcW r) 0 0),3⟩:Slot))}:Mon)) (fun u=>(cond (zeK ({r with Memory:=(zeN r.Memory (ix (zcW r) 0 0) (ix (ix r.Mons b zi).Out d [])),Mons:=u}:Host) b d (ix (ix g b zi).Outer d zU)) (some [(AV.agg (zbq (zeL ({r with Memory:=(zeN r.Memory (ix (zcW r) 0 0) (ix (ix r.Mons b zi).Out d [])),Mons:=u}:Host) b d (ix (ix g b zi).Outer d zU))))]) none))) none) none))) none) none) none) none) none) none)=some [AV.agg (zbq (zfn r b d (ix (zco r) 0 0)))]:=(by intro r i f a;obtain⟨E,q⟩:=zcx i a;have v:=zYU (to:=ix (zco r) 0 0) i a l;have hE:=z0o (p:=d) (to:=ix (zco r) 0 0) i a;obtain⟨k,rfl,A⟩:=zd4 (n:=r.Mons.length) a;have z:∀(x y:Mon),hasB (k:Int) (ln (up (up r.Mons (k:Int) x) (k:Int) y))=true:=fun x y=>(by simpa [ln] using a);have t:inb d (ln (ix (up r.Mons (k:Int) {ix r.Mons (k:Int) mZ with Out:=up (ix r.Mons (k:Int) mZ).Out d []}) (k:Int) mZ).Outer)=true:=(by rw[zdT A];exact zF (zdN q.1 l));refine must (zF a) (must (zby i.1.1.1) (must f (must (zF (zdN q.2.1 l)) (must (zby ⟨i.1.1,zWT i a l⟩) (must (zF (zdN q.2.1 l)) (shr (must t (must t (shr (must (zby ⟨v,z _ _⟩) ?_))))))))));exact congrArg (fun x=>some [AV.agg (zbq x)]) hE);have h:=room j;have a:=zqF j B;refine⟨0,?_⟩;unfold zB4 zmH fetched oN;conv=>zeta
 refine must (zby j.1.1.1.1) ?_;cases s:ieq (ln (zcW c)) 0;{have m:zdl c=c:=(by unfold zdl;rw[show ieq (ln (zco c)) 0=false from s];rfl);rw[m]at h a ⊢;exact e c h.shape h.free a};{obtain⟨C,D⟩:=zEN j s;have m:zdl c=zdV c (zbK c 0).1 (zbK c 0).2:=(by unfold zdl;rw[show ieq (ln (zco c)) 0=true from s];rfl);rw[m]at h a ⊢;exact must rfl (must (zby ⟨j.1,C,D⟩) (e _ h.shape h.free a))}
theorem zRU:zbL Tryz.prog 208 [true,true,true,true] zuJ:=by refine zhJ (zgZ zhP zC zZJ zEY) (zjU (by kernel_rfl)) ?_;intro g a b j i f h;have d:=zli f;unfold zuJ at h;split at h;{obtain⟨e,rfl,rfl⟩:=znn h;obtain⟨N,c⟩:=zX6 _ _ _ (by exact d) e;exact⟨rfl,_,N,12,(z1r N _ _ _ ).trans c⟩};{cases h}
def z1B:zcR:=[(208,([true,true,true,true],zuJ))]++z7g
theorem zPL:zb7 z1B:=zcs zZJ (by
 intro x a;simp only[qG,qN,or_false]at a;rcases a with rfl
 .exact zRU)
def zbA (h:Host)(m p:Int):Host:={h with Mons:=up h.Mons m {ix h.Mons m mZ with Dirty:=up (ix h.Mons m mZ).Dirty p true}}
def opened (h:Host)(m p:Int):Host:=bif ieq (wand .i64 (ix (ix h.Mons m mZ).Outer p sZ).Rights 2) 0 then zcq h m p ⟨(ix (ix h.Mons m mZ).Outer p sZ).Page,3⟩ else h
def zi6 (h:Host)(m p n:Int):Host:=bif ieq (wand .i64 n 2) 0 then h else opened (zbA h m p) m p
def mended (h:Host)(m p n:Int):Host:=bif ieq (ix (ix h.Mons m mZ).Outer p sZ).Page (-1) then zi6 (fetched h m p) m p n else zi6 h m p n
theorem zbaJ {r:Int}(a:0<=r)(b:r<=3):enough r 2 = !ieq (wand .i64 r 2) 0:=by have:r=0\/r=1\/r=2\/r=3:=(by omega);rcases this with rfl|rfl|rfl|rfl<;>rfl
structure SlotFit (s:Slot):Prop where
 no:zcQ s noSlot=ieq s.Page (-1)
 lo:0<=s.Rights
 hi:s.Rights<=3
theorem z2k {s:Slot}{n:Int}(h:zd2 s n=true):SlotFit s:=by refine⟨zRF h,?_,?_⟩<;>unfold zd2 at h<;>cases a:zcQ s noSlot;{rw [a]at h;simp only[cF,zdj]at h;have:=(zgs.1 h.2.2).1;omega};{unfold zcQ at a;rw[qD]at a;have:s.Rights=0:=qE a.2;omega};{rw [a]at h;simp only[cF,zdj]at h;have:=(zgs.1 h.2.2).2;omega};{unfold zcQ at a;rw[qD]at a;have:s.Rights=0:=qE a.2;omega}
theorem znJ {h:Host}{m p:Int}(c:Shape h)(d:hasB m (ln h.Mons)=true):Shape (zbA h m p):=by obtain⟨a,b⟩:=zcx c d;exact zi1 c ⟨a.1,a.2.1,by simpa using a.2.2.1,a.2.2.2⟩ ⟨b.1,b.2.1,by simpa using b.2.2.1,b.2.2.2⟩
theorem zWJ {h:Host}{m p:Int}(b:Shape h)(a:hasB m (ln h.Mons)=true):Shape (opened h m p)/\hasB m (ln (opened h m p).Mons)=true:=by unfold opened;cases ieq (wand .i64 (ix (ix h.Mons m mZ).Outer p sZ).Rights 2) 0;{exact⟨b,a⟩};{exact⟨zs5 a b,zGT a⟩}
theorem zHr {h:Host}{m p n:Int}(b:Shape h)(a:hasB m (ln h.Mons)=true):Shape (zi6 h m p n)/\hasB m (ln (zi6 h m p n).Mons)=true:=by unfold zi6;cases ieq (wand .i64 n 2) 0;{exact zWJ (znJ b a) (ze2 a)};{exact⟨b,a⟩}
theorem zvk {h:Host}{m p n:Int}(a:Fit h)(b:hasB m (ln h.Mons)=true)(e:hasB p 8=true):Shape (mended h m p n)/\hasB m (ln (mended h m p n).Mons)=true:=by unfold mended;cases ieq (ix (ix h.Mons m mZ).Outer p sZ).Page (-1);{exact zHr a.1 b};{obtain⟨c,d⟩:=zkJ a b e;exact zHr c d}
theorem zUD {h:Host}{m p:Int}(c:Fit h)(g:hasB m (ln h.Mons)=true)(j:hasB p 8=true):(ix (ix (fetched h m p).Mons m mZ).Outer p sZ).Rights=3:=by have f:=room c;have a:=zqF c g;obtain⟨r,e⟩:=zcx f.shape a;obtain⟨k,rfl,d⟩:=zd4 (n:=(zdl h).Mons.length) a;obtain⟨q,rfl,l⟩:=zd4 (n:=8) j;unfold fetched zfn;rw[(zgM _ _ _ _).1];have b:k<(landing (zdl h) (k:Int) (q:Int) (ix (zco (zdl h)) 0 0)).Mons.length:=(by simpa [landing] using d);rw[zdT b];have i:q<(ix (landing (zdl h) (k:Int) (q:Int) (ix (zco (zdl h)) 0 0)).Mons (k:Int) mZ).Outer.length:=(by unfold landing;rw[zdT d];show q<(ix (zdl h).Mons (k:Int) mZ).Outer.length;rw[e.1];exact l);show (ix (up (ix (landing (zdl h) (k:Int) (q:Int) (ix (zco (zdl h)) 0 0)).Mons (k:Int) mZ).Outer (q:Int) ⟨_,3⟩) (q:Int) sZ).Rights=3;rw[zdT i]
def z2B (h:Host)(m p n:Int):Prop:=Fit h/\hasB m (ln h.Mons)=true/\hasB p 8=true/\(n=1\/n=2)/\SlotFit (ix (ix h.Mons m mZ).Outer p sZ)
@[simp] abbrev zhz (h:Host)(m p n:Int):Bool:=pc (z2B h m p n)
@[simp] abbrev zgW (h:Host)(m p n:Int):Host:=mended h m p n
def zsS:List AV->Option (Bool×List AV)
 |[.agg [.s (.sl .int) b,.s .mon c,.s .entry d,.s .entry e],.one (.i .i64 f),.one (.i .i64 g),.one (.i .i64 h)]=>some ((zhz (⟨b,c,d,e⟩:Host) f g h),[aH (zgW (⟨b,c,d,e⟩:Host) f g h)])
 |_=>none
def zwY (N:Nat)(c:Host)(a b l:Int):OA:=
 let h:=(zmH c a b);let k:=(ix h.Mons a zi);let e:=(ix c.Mons a zi);let p:=(ix e.Outer b zU); (oN (inb a (ln c.Mons)) (oN (inb b (ln e.Outer)) (oN zbE (cond (cond (ieq p.Page zbc.Page) (ieq p.Rights zbc.Rights) false) (oN (zlV c a b) (cond (ieq (wand .i64 l 2) 0) (some [(aH h)]) (oN (inb a (ln h.Mons)) (oN (inb b (ln k.Dirty)) (share (up h.Mons a ({k with Dirty:=(up k.Dirty b true)}:Mon)) (fun d=>let q:=(ix d a zi).Outer;let i:=({h with Mons:=d}:Host);let m:=(ix q b zU);let r:=({m with Rights:=3}:Slot); (oN (inb a (ln d)) (oN (inb b (ln q)) (cond (ieq (wand .i64 m.Rights 2) 0) (oN (zfA i a b r) (some [(aH (zhA i a b r))])) (some [(aH i)])))))))))) (cond (ieq (wand .i64 l 2) 0) (some [(aH c)]) (oN (inb a (ln c.Mons)) (oN (inb b (ln e.Dirty)) (share (up c.Mons a ({e with Dirty:=(up e.Dirty b true)}:Mon)) (fun d=>let f:=(ix d a zi).Outer;let j:=({c with Mons:=d}:Host);let n:=(ix f b zU);let g:=({n with Rights:=3}:Slot); (oN (inb a (ln d)) (oN (inb b (ln f)) (cond (ieq (wand .i64 n.Rights 2) 0) (oN (zfA j a b g) (some [(aH (zhA j a b g))])) (some [(aH j)])))))))))))))
theorem zVW (N:Nat)(a:Host)(b c d:Int):zEC (cQ zq8 zqy z1B zW4) (zq []) N 12 115 [true,true,true,true,false,false,false] 1 1 [[0],[1],[2],[4],[7]] .mon [aH a,aI b,aI c,aI d]=zwY N a b c d:=by kernel_rfl
theorem zSS (d:Host)(b a h:Int)(C:zbU big [aH d,aI b,aI a,aI h])(z:zhz d b a h=true):∃N,zwY N d b a h=some [aH (zgW d b a h)]:=by
 obtain⟨l,j,i,D,A⟩:=zO.1 z;obtain⟨B,v⟩:=zcx l.1 j;have f:∀r,Shape r->hasB b (ln r.Mons)=true->(cond (ieq (wand .i64 h 2) 0) (some [(AV.agg (zbq r))]) (cond (inb b (ln r.Mons)) (cond (inb a (ln (ix r.Mons b zi).Dirty)) (share (up r.Mons b ({ (ix r.Mons b zi) with Dirty:=(up (ix r.Mons b zi).Dirty a true)}:Mon)) (fun g=>(cond (inb b (ln g)) (cond (inb a (ln (ix g b zi).Outer)) (cond (ieq (wand .i64 (ix (ix g b zi).Outer a zU).Rights 2) 0) (cond (zfA ({r with Mons:=g}:Host) b a ({ (ix (ix g b zi).Outer a zU) with Rights:=3}:Slot)) (some [(AV.agg (zbq (zhA ({r with Mons:=g}:Host) b a ({ (ix (ix g b zi).Outer a zU) with Rights:=3}:Slot))))]) none) (some [(AV.agg (zbq ({r with Mons:=g}:Host)))])) none) none))) none) none))=some [AV.agg (zbq (zi6 r b a h))]:=(by intro r u c;obtain⟨E,m⟩:=zcx u c;have y:=znJ (p:=a) u c;unfold zi6;cases w:ieq (wand .i64 h 2) 0;{obtain⟨k,rfl,t⟩:=zd4 (n:=r.Mons.length) c;have q:ix (zbA r (k:Int) a).Mons (k:Int) mZ={ix r.Mons (k:Int) mZ with Dirty:=up (ix r.Mons (k:Int) mZ).Dirty a true}:=zdT t _ _;refine zdU rfl (must (zF c) (must (zF (zdN m.2.2.1 i)) (shr (must (zF (ze2 c)) (must ?_ ?_)))));{rw [zdT t];exact zF (zdN m.1 i)};{unfold opened;show (cond (ieq (wand .i64 (ix (ix (zbA r (k:Int) a).Mons (k:Int) mZ).Outer a sZ).Rights 2) 0) _ _)=_;cases s:ieq (wand .i64 (ix (ix (zbA r (k:Int) a).Mons (k:Int) mZ).Outer a sZ).Rights 2) 0;{rfl};{refine must rfl (must (zby ⟨(zX _).2 y.1,ze2 c,?_,?_⟩) rfl);{show hasB a (ln (ix (zbA r (k:Int) a).Mons (k:Int) mZ).Outer)=true;rw[q];exact zdN m.1 i};{show (ix (zbA r (k:Int) a).Mons (k:Int) mZ).Tables.length<=(ix (zbA r (k:Int) a).Mons (k:Int) mZ).Guests.length;rw[q];exact k7 m.2.2.2}}}};{rfl});refine⟨0,?_⟩;unfold zwY zgW mended oN;conv=>zeta
 refine must (zF j) (must (zF (zdN v.1 i)) (must rfl ?_));have e:(cond (ieq (ix (ix d.Mons b mZ).Outer a sZ).Page zbc.Page) (ieq (ix (ix d.Mons b mZ).Outer a sZ).Rights zbc.Rights) false)=ieq (ix (ix d.Mons b mZ).Outer a sZ).Page (-1):=(by rw[<- A.no];unfold zcQ zbc;cases ieq (ix (ix d.Mons b mZ).Outer a sZ).Page noSlot.Page<;>rfl);rw[e];cases w:ieq (ix (ix d.Mons b mZ).Outer a sZ).Page (-1);{exact f d l.1 j};{obtain⟨s,x⟩:=zkJ (p:=a) l j i;exact must rfl (must (zby ⟨l,j,i⟩) (f _ s x))}
theorem zLQ:zeu Tryz.prog 115 [true,true,true,true,false,false,false] (some (1,1,[[0],[1],[2],[4],[7]])) zsS:=by refine zmg (kt:=.mon) (zgZ zhP zC zPL zEY) (zjU (by kernel_rfl)) (by kernel_rfl) ?_;intro a g f e h;have c:=zi9 e;unfold zsS at h;split at h;{obtain⟨d,rfl⟩:=zeA h;obtain⟨N,b⟩:=zSS _ _ _ _ (by exact c) d;exact⟨⟨_,rfl⟩,rfl,_,N,12,(zVW N _ _ _ _ ).trans b⟩};{cases h}
def zxa:List CV->List AV->Option (Bool×List CV×List AV)
 |[.s (.sl .int) b,.s .mon c,.s .entry d,.s .entry e],[.one (.i .i64 f),.one (.i .i64 g),.one (.i .i64 h)]=>some ((zhz (⟨b,c,d,e⟩:Host) f g h),zbq (zgW (⟨b,c,d,e⟩:Host) f g h),[])
 |_,_=>none
def zHD (N:Nat)(c:Host)(b a k:Int):OA:=
 let e:=(zmH c b a);let m:=(ix e.Mons b zi);let h:=(ix c.Mons b zi); (oN (inb b (ln c.Mons)) (oN (inb a (ln h.Outer)) (cond (ieq (ix h.Outer a zU).Page (-1)) (oN (zlV c b a) (oN (zbQ k 2) (cond (nB (zcO k 2)) (some [(aH e)]) (oN (inb b (ln e.Mons)) (oN (inb a (ln m.Dirty)) (share (up e.Mons b ({m with Dirty:=(up m.Dirty a true)}:Mon)) (fun d=>let i:=(ix d b zi);let f:=(ix i.Outer a zU); (oN (inb a (ln i.Outer)) (oN (zbQ f.Rights 2) (cond (nB (zcO f.Rights 2)) (oN (inb a (ln i.Outer)) (share (up d b ({i with Outer:=(up i.Outer a ({f with Rights:=3}:Slot))}:Mon)) (fun l=>let n:=({e with Mons:=l}:Host); (oN (zeK n b a f) (some [(aH (zeL n b a f))]))))) (some [(aH ({e with Mons:=d}:Host))]))))))))))) (oN (zbQ k 2) (cond (nB (zcO k 2)) (some [(aH c)]) (oN (inb b (ln c.Mons)) (oN (inb a (ln h.Dirty)) (share (up c.Mons b ({h with Dirty:=(up h.Dirty a true)}:Mon)) (fun d=>let j:=(ix d b zi);let g:=(ix j.Outer a zU); (oN (inb a (ln j.Outer)) (oN (zbQ g.Rights 2) (cond (nB (zcO g.Rights 2)) (oN (inb a (ln j.Outer)) (share (up d b ({j with Outer:=(up j.Outer a ({g with Rights:=3}:Slot))}:Mon)) (fun l=>let p:=({c with Mons:=l}:Host); (oN (zeK p b a g) (some [(aH (zeL p b a g))]))))) (some [(aH ({c with Mons:=d}:Host))])))))))))))))
theorem z4m (N:Nat)(c:Host)(a b d:Int):zoM (cQ zq8 zqy z1B zW4) (zq []) N 12 112 [true,true,true,true] (zbq c) [aI a,aI b,aI d]=zHD N c a b d:=by kernel_rfl
theorem z1h (c:Host)(b a f:Int)(R:zbU big (.agg (zbq c)::[aI b,aI a,aI f]))(M:zhz c b a f=true):∃N,zHD N c b a f=some (.agg (zbq (zgW c b a f))::[]):=by
 obtain⟨l,i,j,P,C⟩:=zO.1 M;obtain⟨Q,I⟩:=zcx l.1 i;have H:enough f 2 = !ieq (wand .i64 f 2) 0:=(by rcases P with rfl|rfl<;>rfl);have g:∀r,Shape r->hasB b (ln r.Mons)=true->enough (ix (ix r.Mons b mZ).Outer a sZ).Rights 2=(!ieq (wand .i64 (ix (ix r.Mons b mZ).Outer a sZ).Rights 2) 0)->(cond (zbQ f 2) (cond (cond (zcO f 2) false true) (some [(AV.agg (zbq r))]) (cond (inb b (ln r.Mons)) (cond (inb a (ln (ix r.Mons b zi).Dirty)) (share (up r.Mons b ({ (ix r.Mons b zi) with Dirty:=(up (ix r.Mons b zi).Dirty a true)}:Mon)) (fun e=>(cond (inb a (ln (ix e b zi).Outer)) (cond (zbQ (ix (ix e b zi).Outer a zU).Rights 2) (cond (cond (zcO (ix (ix e b zi).Outer a zU).Rights 2) false true) (cond (inb a (ln (ix e b zi).Outer)) (share (up e b ({ (ix e b zi) with Outer:=(up (ix e b zi).Outer a ({ (ix (ix e b zi).Outer a zU) with Rights:=3}:Slot))}:Mon)) (fun F=>(cond (zeK ({r with Mons:=F}:Host) b a (ix (ix e b zi).Outer a zU)) (some [(AV.agg (zbq (zeL ({r with Mons:=F}:Host) b a (ix (ix e b zi).Outer a zU))))]) none))) none) (some [(AV.agg (zbq ({r with Mons:=e}:Host)))])) none) none))) none) none)) none)=some [AV.agg (zbq (zi6 r b a f))]:=(by intro r B d q;obtain⟨S,u⟩:=zcx B d;have w:=znJ (p:=a) B d;unfold zi6;simp only[zbQ,zcO,H,cT];cases J:ieq (wand .i64 f 2) 0;{obtain⟨k,rfl,A⟩:=zd4 (n:=r.Mons.length) d;have m:ix (zbA r (k:Int) a).Mons (k:Int) mZ={ix r.Mons (k:Int) mZ with Dirty:=up (ix r.Mons (k:Int) mZ).Dirty a true}:=zdT A _ _;have t:k<(zbA r (k:Int) a).Mons.length:=(by simpa [zbA] using A);have z:inb a (ln (ix (zbA r (k:Int) a).Mons (k:Int) mZ).Outer)=true:=(by rw[m];exact zF (zdN u.1 j));refine zdU rfl (must (zF d) (must (zF (zdN u.2.2.1 j)) (shr (must z ?_))));unfold opened;show (cond (cond (enough (ix (ix (zbA r (k:Int) a).Mons (k:Int) mZ).Outer a sZ).Rights 2) false true) _ _)=_;have G:(cond (enough (ix (ix (zbA r (k:Int) a).Mons (k:Int) mZ).Outer a sZ).Rights 2) false true)=ieq (wand .i64 (ix (ix (zbA r (k:Int) a).Mons (k:Int) mZ).Outer a sZ).Rights 2) 0:=(by rw[m];show (cond (enough (ix (ix r.Mons (k:Int) mZ).Outer a sZ).Rights 2) false true)=ieq (wand .i64 (ix (ix r.Mons (k:Int) mZ).Outer a sZ).Rights 2) 0;rw[q];cases ieq (wand .i64 (ix (ix r.Mons (k:Int) mZ).Outer a sZ).Rights 2) 0<;>rfl);rw[G];cases v:ieq (wand .i64 (ix (ix (zbA r (k:Int) a).Mons (k:Int) mZ).Outer a sZ).Rights 2) 0;{rfl};{have L:Shape {zbA r (k:Int) a with Mons:=up (zbA r (k:Int) a).Mons (k:Int) {ix (zbA r (k:Int) a).Mons (k:Int) mZ with Outer:=up (ix (zbA r (k:Int) a).Mons (k:Int) mZ).Outer a ⟨(ix (ix (zbA r (k:Int) a).Mons (k:Int) mZ).Outer a sZ).Page,3⟩}}:=(by obtain⟨D,E⟩:=zcx w (ze2 d);exact zi1 w ⟨by simpa using D.1,D.2⟩ ⟨by simpa using E.1,E.2⟩);have O:∀(x y:Mon),hasB (k:Int) (ln (up (up r.Mons (k:Int) x) (k:Int) y))=true:=fun x y=>(by simpa [ln] using d);refine must rfl (must z (shr (must (zby ⟨L,O _ _⟩) ?_)));exact congrArg (fun x=>some [AV.agg (zbq x)]) (zAh (h:=zbA r (k:Int) a) (p:=a) (s:=⟨(ix (ix (zbA r (k:Int) a).Mons (k:Int) mZ).Outer a sZ).Page,3⟩) t (by rw[m];exact u.2.2.2))}};{rfl});refine⟨0,?_⟩;unfold zHD zgW mended oN nB;conv=>zeta
 refine must (zF i) (must (zF (zdN I.1 j)) ?_);cases J:ieq (ix (ix c.Mons b mZ).Outer a sZ).Page (-1);{exact g c l.1 i (zbaJ C.lo C.hi)};{obtain⟨v,K⟩:=zkJ (p:=a) l i j;exact must rfl (must (zby ⟨l,i,j⟩) (g _ v K (by rw[zUD l i j];rfl)))}
theorem zUS:zbL Tryz.prog 112 [true,true,true,true] zxa:=by refine zhJ (zgZ zhP zC zPL zEY) (zjU (by kernel_rfl)) ?_;intro g a b j i f h;have d:=zli f;unfold zxa at h;split at h;{obtain⟨e,rfl,rfl⟩:=znn h;obtain⟨N,c⟩:=z1h _ _ _ _ (by exact d) e;exact⟨rfl,_,N,12,(z4m N _ _ _ _ ).trans c⟩};{cases h}
def z1C:zcR:=[(112,([true,true,true,true],zxa))]++z1B
theorem zca:zb7 z1C:=zcs zPL (by
 intro x a;simp only[qG,qN,or_false]at a;rcases a with rfl
 .exact zUS)
def z2u:zfh:=[(115,([true,true,true,true,false,false,false],(some (1,1,[[0],[1],[2],[4],[7]])),zsS))]++zW4
theorem zEZ:zd9 z2u:=zoa zEY (by
 intro x a;simp only[qG,qN,or_false]at a;rcases a with rfl
 .exact zLQ)
theorem z03 {h:Host}(b:zb2 h=true):h.Memory.length=12:=by unfold zb2 at b;simp only[zdj]at b;have a:=b.1;unfold zix at a;simp only[zdj]at a;have:ln h.Memory=12:=qE a.2;simp only[ln] at this;omega
theorem zhp {h:Host}(a:zb2 h=true):∀x∈h.Mons,zd7 x=true:=by unfold zb2 at a;simp only[zdj]at a;exact zzE _ _ a.2.2.2.2
theorem zJd {x:Mon}(a:zd7 x=true):ShM x:=by have e:=zow (zkQ a);unfold zd7 at a;simp only[zdj]at a;have b:ln x.Tables=ln x.Guests:=qE a.2.1;have c:ln x.Out=8:=qE a.2.2.2.1;have d:ln x.Dirty=8:=qE a.2.2.2.2.1;simp only[ln] at *;exact⟨by omega,by omega,by omega,by omega⟩
theorem zfH {h:Host}(b:SmH h)(a:zb2 h=true):Fit h:=by refine⟨⟨b,fun x c=>zJd (zhp a x c)⟩,by rw[z03 a];decide,?_⟩;unfold zb2 at a;simp only[zdj]at a;have:=zUW _ _ rfl a.2.2.2.2;omega
theorem ztq {x:Mon}(b:zd7 x=true){p:Int}(c:hasB p 8=true):SlotFit (ix x.Outer p sZ):=by have a:=zkQ b;unfold zdc at a;simp only[zdj]at a;exact z2k (qJ.1 a.1 _ (zbG (zdN (zJd b).1 c) _))
theorem zXR {h:Host}{m p:Int}(a:Fit h)(c:hasB m (ln h.Mons)=true):Fit (zbA h m p):=by refine⟨znJ a.1 c,a.2.1,?_⟩;obtain⟨k,rfl,b⟩:=zd4 (n:=h.Mons.length) c;have:=zXz h.Mons k (ix h.Mons (k:Int) mZ) {ix h.Mons (k:Int) mZ with Dirty:=up (ix h.Mons (k:Int) mZ).Dirty p true} (by rw[zbd b];exact qB b);have d:=a.2.2;unfold zbA;simp only[up,kI];dsimp only at this;simp only[up] at this;omega
abbrev gZ:Guest:=Ty.dflt .guest
@[simp] abbrev zhq (h:Host)(m:Int):Bool:=pc (zcY h)
@[simp] abbrev zog (h:Host)(m:Int):Mon:=bif hasB m (ln h.Mons) then ix h.Mons m mZ else mZ
@[simp] abbrev zv4 (h:Host)(m:Int):Bool:=hasB m (ln h.Mons)
def zG8:Run:=rF2 dH dI fun b c=>(zhq b c,[aT .mon (zog b c),aB (zv4 b c)])
def zQk (N:Nat)(a:Host)(b:Int):OA:=
 let c:=(ix a.Mons b zi); (oN (zbQ b (ln a.Mons)) (cond (nB (zeW b (ln a.Mons))) (some [(aT .mon (⟨[],[],[],[],[],0,0,[],0⟩:Mon)),(aB false)]) (oN (inb b (ln a.Mons)) (oN (zkN c) (some [(aT .mon (zlv c)),(aB true)])))))
theorem zX3 (a:Host)(b:Int)(d:zhq a b=true):∃N,zQk N a b=some [aT .mon (zog a b),aB (zv4 a b)]:=by
 have e:=(zX a).1 (zO.1 d);refine⟨0,?_⟩;unfold zQk zog zv4 oN nB;conv=>zeta
 refine must rfl ?_;rw[show zeW b (ln a.Mons)=hasB b (ln a.Mons) from rfl];cases c:hasB b (ln a.Mons);{rfl};{exact zdU rfl (must (zF c) (must (zby (e.2.1.2 _ (zbG c _))) rfl))}
theorem zRR:vT 215 zG8:=kF2 zhP zC zca zEZ (zq []) zX3
def zb3 (h:Host)(m g:Int):Bool:=bif zb2 h then (cond (hasB m (ln h.Mons)) (hasB g (ln (ix h.Mons m mZ).Guests)) false) else false
@[simp] abbrev zdp (h:Host)(m g:Int):Bool:=pc (zcY h)
@[simp] abbrev zjG (h:Host)(m g:Int):Bool:=zb3 h m g
def zHh:Run:=rF3 dH dI dI fun b c d=>(zdp b c d,[aB (zjG b c d)])
def zQD (N:Nat)(a:Host)(b c:Int):OA:=
 let d:=(wsub .i64 (ln (ix a.Mons b zi).Guests) 1); (oN (zeo a) (cond (zel a) (oN (zM b 0 (wsub .i64 (ln a.Mons) 1)) (cond (zk b 0 (wsub .i64 (ln a.Mons) 1)) (oN (inb b (ln a.Mons)) (oN (zM c 0 d) (some [(aB (zk c 0 d))]))) oF)) oF))
theorem zYl (a:Host)(b c:Int)(f:zdp a b c=true):∃N,zQD N a b c=some [aB (zjG a b c)]:=by
 have e:=(zX a).1 (zO.1 f);refine⟨0,?_⟩;unfold zQD zjG zb3 oN;conv=>zeta
 refine must rfl ?_;rw[show zel a=zb2 a from rfl];cases g:zb2 a;{rfl};{rw [show zk b 0 (wsub .i64 (ln a.Mons) 1)=hasB b (ln a.Mons) from zqZ e.2.1.1 b];refine must rfl (must rfl ?_);cases d:hasB b (ln a.Mons);{rfl};{have hg:(ix a.Mons b mZ).Guests.length<=1048576:=(e.2.1.2 _ (zbG d _)).2.2.2.1.1;rw[show zk c 0 (wsub .i64 (ln (ix a.Mons b zi).Guests) 1)=hasB c (ln (ix a.Mons b mZ).Guests) from zqZ hg c];exact must rfl (must (zF d) (must rfl rfl))}}
theorem zSd:vT 339 zHh:=kF3 zhP zC zca zEZ (zq []) zYl
def zcC (h:Host)(m:Int):Nat->Nat->List (List Int)
 | 0,_=>[]
 |n+1,i=>zcK h m (i:Int)::zcC h m n (i+1)
theorem zzW (h:Host)(m:Int):∀(n i:Nat),(zcC h m n i).length=n
 | 0,_=>rfl
 |n+1,i=>by simp[zcC,zzW h m n]
def zK (h:Host)(m:Int):Bare:=bif hasB m (ln h.Mons) then ⟨zcC h m 8 0,(ix h.Mons m mZ).Guests,(ix h.Mons m mZ).Outs,(ix h.Mons m mZ).Pending⟩ else ⟨[],[],[],0⟩
theorem zRc {c:Type}(h:Host)(m:Int)(K:List (List Int)->Option c):∀(n i:Nat) (a:List (List Int)),a.length+n<=2147483648->
 goN (fun i a b=>bif few (ln (ap a [zcK h m (i:Int)])) then b (ap a [zcK h m (i:Int)]) else none) K n i a=K (a++zcC h m n i)
 | 0,_,a,_=>by simp[goN,zcC]
 |n+1,i,a,d=>by simp only[goN,zcC];rw[zge (by simp[ap];omega),cT,zRc h m K n (i+1) _ (by simp[ap];omega)];simp[ap]
def z8W:zZ:=[(215,zG8),(339,zHh)]++zq8
theorem z6p:zN z8W:=zh zRR (zh zSd zhP)
theorem zYp:zcu zAo=true:=by decide
theorem zY9 {p:Nat->Bool}:∀{n i q:Nat},zmL p n i=true->i<=q->q<i+n->p q=true
 | 0,i,q,_,a,b=>by omega
 |n+1,i,q,h,a,b=>by simp only[zmL,qD]at h;by_cases c:i=q;{subst c;exact h.1};{exact zY9 h.2 (by omega) (by omega)}
theorem z4z {h:Host}{m:Int}(e:zb2 h=true)(l:hasB m (ln h.Mons)=true){p:Int}(j:hasB p 8=true):zcu (zcK h m p)=true:=by have i:=zhp e _ (zbG l mZ);have s:=zJd i;have f:h.Memory.all zcu=true:=(by unfold zb2 at e;simp only[zdj]at e;have b:=e.1;unfold zix at b;simp only[zdj]at b;exact b.1);unfold zcK;rw[l,j];simp only[cT];have t:zbC (ix h.Mons m mZ).Outer p=ix (ix h.Mons m mZ).Outer p sZ:=(by unfold zbC;rw[zdN s.1 j];rfl);rw[t];have d:∀(g:List (List Int)) (q:Int),(hasB q (ln g)=true->zcu (ix g q [])=true)->zcu (zcB g q)=true:=(by intro g q k;unfold zcB;cases b:hasB q (ln g);{exact zYp};{exact k b});cases c:ine (ix (ix h.Mons m mZ).Outer p sZ).Page (-1);{refine d _ _ (fun k=>?_);obtain⟨q,rfl,u⟩:=zd4 (n:=8) j;have a:fits (ix h.Mons m mZ) q=true:=(by unfold zd7 at i;simp only[zdj]at i;exact zY9 i.2.2.2.2.2.2.2.2.2.2 (by omega) (by omega));unfold fits zml at a;have r:zcQ (ix (ix h.Mons m mZ).Outer (q:Int) sZ) noSlot=true:=(by rw[(ztq (zhp e _ (zbG l mZ)) j).no];rw[zoh]at c;cases b:ieq (ix (ix h.Mons m mZ).Outer (q:Int) sZ).Page (-1);{rw [b]at c;cases c};{rfl});rw[r]at a;exact a};{exact d _ _ (fun k=>qJ.1 f _ (zbG k _))}
theorem zRq {h:Host}{m:Int}(a:zb2 h=true)(b:hasB m (ln h.Mons)=true):∀(n i:Nat),i+n<=8->(zcC h m n i).all zcu=true
 | 0,_,_=>rfl
 |n+1,i,c=>by simp only[zcC,k5,qD];exact⟨z4z a b (qI (by omega)),zRq a b n (i+1) (by omega)⟩
theorem zGD {h:Host}{m:Int}(c:zb2 h=true)(b:hasB m (ln h.Mons)=true):zcf (zK h m)=true:=by have a:=zhp c _ (zbG b mZ);unfold zd7 at a;simp only[zdj]at a;unfold zK zcf zix;rw[b];simp only[cT,a.2.2.2.2.2.2.2.2.2.1,zRq c b 8 0 (by decide),ln,zzW];simp only[ln]at a;rw[a.1,a.2.2.2.2.2.1,a.2.2.2.2.2.2.1];rfl
def znr:zZ:=z8W
theorem zhQ:zN znr:=z6p
def zev (l:List Mon):List (List Guest):=l.map fun x=>x.Guests
theorem zzD {l:List Mon}{m:Int}{x:Mon}(b:hasB m (ln l)=true)(c:x.Guests=(ix l m mZ).Guests):zev (up l m x)=zev l:=by obtain⟨k,rfl,a⟩:=zd4 (n:=l.length) b;unfold zev up;rw[List.map_set,kI,c,zbd a];have:=@vB _ (l.map fun x=>x.Guests) k (by simpa using a);simpa using this
theorem zK7 {l b:List Mon}(h:zev b=zev l)(m:Int):(ix b m mZ).Guests=(ix l m mZ).Guests:=by unfold zev at h;have a:(b.map fun x=>x.Guests)[m.toNat]?=(l.map fun x=>x.Guests)[m.toNat]?:=(by rw[h]);rw[qP,qP]at a;unfold ix;simp only[kC];cases c:b[m.toNat]? <;> cases d:l[m.toNat]? <;> rw [c,d]at a<;>simp at a ⊢;exact a
theorem zzC {h:Host}{m p:Int}{s:Slot}(a:hasB m (ln h.Mons)=true):zev (zcq h m p s).Mons=zev h.Mons:=by rw[(zgM h m p s).1];exact zzD a rfl
theorem zbaQ {h:Host}{m p:Int}(a:hasB m (ln h.Mons)=true):zev (zdV h m p).Mons=zev h.Mons:=(zzC (h:=zfc h m p) (ze2 a)).trans (zzD a rfl)
theorem zbaP {h:Host}(b:Fit h):zev (zdl h).Mons=zev h.Mons:=by unfold zdl;cases a:ieq (ln (zco h)) 0;{rfl};{exact zbaQ (zEN b a).1}
theorem z00 {h:Host}{m p:Int}(a:Fit h)(c:hasB m (ln h.Mons)=true):zev (fetched h m p).Mons=zev h.Mons:=by have b:=zqF a c;exact((zzC (h:=landing (zdl h) m p (ix (zco (zdl h)) 0 0)) (ze2 b)).trans (zzD b rfl)).trans (zbaP a)
theorem zUO {h:Host}{m p n:Int}(b:hasB m (ln h.Mons)=true):zev (zi6 h m p n).Mons=zev h.Mons:=by have a:zev (zbA h m p).Mons=zev h.Mons:=zzD b rfl;unfold zi6;cases ieq (wand .i64 n 2) 0;{unfold opened;cases ieq (wand .i64 (ix (ix (zbA h m p).Mons m mZ).Outer p sZ).Rights 2) 0;{exact a};{exact(zzC (h:=zbA h m p) (ze2 b)).trans a}};{rfl}
theorem z3M {h:Host}{m p n:Int}(b:Fit h)(a:hasB m (ln h.Mons)=true)(c:hasB p 8=true):zev (mended h m p n).Mons=zev h.Mons:=by unfold mended;cases ieq (ix (ix h.Mons m mZ).Outer p sZ).Page (-1);{exact zUO a};{exact(zUO (zkJ b a c).2).trans (z00 b a)}
theorem zbb6 {l a:List Mon}(h:zev a=zev l):a.length=l.length:=by have:=congrArg List.length h;simpa [zev] using this
abbrev kZ:Kept:=Ty.dflt .kept
theorem zbc7 {x:Guest}(f:zd3 x=true){p n:Int}(d:zeB x.Live p n=true):hasB (zbZ x.Live p n) 8=true:=by have g:zdc x.Live 4 8=true:=(by unfold zd3 at f;simp only[qD]at f;exact f.2.2.2.2.1);unfold zbZ;rw[d];simp only[cT];unfold zeB at d;cases a:ieq (zbC x.Live p).Page (-1);{unfold zbC at a ⊢;cases e:hasB p (ln x.Live);{rw [e]at a;cases a};{rw [e]at a;simp only[cT]at a ⊢;unfold zdc at g;simp only[zdj]at g;have c:=qJ.1 g.1 _ (zbG e sZ);unfold zd2 at c;cases b:zcQ (ix x.Live p sZ) noSlot;{rw [b]at c;simp only[cF,zdj]at c;have:=zgs.1 c.2.1;rw[show wsub .i64 8 1=7 from rfl] at this;show hasB (ix x.Live p sZ).Page 8=true;exact qI (by omega)};{unfold zcQ at b;rw[qD]at b;have:(ix x.Live p sZ).Page = -1:=qE b.1;rw[show ieq (ix x.Live p zU).Page (-1)=true from qI this]at a;cases a}}};{rw [a]at d;cases d}
def zbW (h:Host)(m g:Int):List Slot:=(ix (ix h.Mons m mZ).Guests g gZ).Live
def zb4 (h:Host)(m g:Int):Kept:=ix (ix h.Mons m mZ).Tables g kZ
def zth (h:Host)(a:Bool):List Entry:=bif a then h.IoBuffer else h.Buffer
def zr6 (b:List Entry)(m g a:Int):Option Entry:=zzs b (zd8 m g) a
def zhG (b:List Entry)(m g a c:Int):Bool:=bif (zr6 b m g a).isSome then enough ((zr6 b m g a).getD ⟨0,0,0,0⟩).Rights c else false
def zeq (h:Host)(m g a b:Int):Bool:=bif zkv (zb4 h m g) a then (cond (ieq (zdZ (zb4 h m g) a).Page (-1)) true (!enough (zdZ (zb4 h m g) a).Rights b)) else true
def zcl (h:Host)(m g a:Int):Host:={h with Mons:=up h.Mons m {ix h.Mons m mZ with Tables:=up (ix h.Mons m mZ).Tables g (filled (zb4 h m g) (zbW h m g) (ix h.Mons m mZ).Outer a)}}
def zTu (h:Host)(m g a:Int):Entry:=⟨zd8 m g,a,(zdZ (zb4 h m g) a).Page,(zdZ (zb4 h m g) a).Rights⟩
def zri (h:Host)(m g a:Int)(b:Bool):Host:=bif b then {h with IoBuffer:=zo2 h.IoBuffer (zTu h m g a)} else {h with Buffer:=zo2 h.Buffer (zTu h m g a)}
def zet (h:Host)(m g a:Int)(b:Bool):Host×Int×Bool:=(zri h m g a b,(zdZ (zb4 h m g) a).Page,true)
def zfM (h:Host)(b:List Entry)(m g a c q:Int)(d:Bool):Host×Int×Bool :=
 bif zhG b m g a c then (h,((zr6 b m g a).getD ⟨0,0,0,0⟩).Host,true)
 else (cond (zeq h m g a c) (zet (zcl (mended h m q c) m g a) m g a d) (zet h m g a d))
def zgf (a:Int):Bool:=bif ieq a 1 then true else ieq a 2
def zbP (h:Host)(m g page need:Int):Bool:=bif zb3 h m g then (cond (zgf need) (zeB (zbW h m g) page need) false) else false
def lookOf (h:Host)(b:List Entry)(m g page need:Int)(io:Bool):Host×Int×Bool :=
 bif zbP h m g page need then zfM (cond (ieq need 2) (zbA h m (zbZ (zbW h m g) page need)) h) b m g page need (zbZ (zbW h m g) page need) io else (h,-1,false)
structure Kp (h r:Host):Prop where
 shape:Shape r
 gs:zev r.Mons=zev h.Mons
theorem Kp.has {h r:Host}(k:Kp h r){m:Int}(a:hasB m (ln h.Mons)=true):hasB m (ln r.Mons)=true:=by rw[ln,zbb6 k.gs];exact a
theorem z2h {h:Host}{m g c:Int}(d:Shape h)(e:hasB m (ln h.Mons)=true)(hg:hasB g (ln (ix h.Mons m mZ).Guests)=true):Shape (zcl h m g c):=by obtain⟨a,b⟩:=zcx d e;have f:hasB g (ln (ix h.Mons m mZ).Tables)=true:=(by rw[ln,b.2.2.2];exact hg);exact zi1 d ⟨a.1,a.2.1,a.2.2.1,a.2.2.2.1,a.2.2.2.2.1,ztZ a.2.2.2.2.2 (z2o (a.2.2.2.2.2.2 _ (zbG f _)))⟩ ⟨b.1,b.2.1,b.2.2.1,by simpa using b.2.2.2⟩
theorem z3W {h r:Host}{m g a:Int}{i:Bool}(k:Kp h r):Kp h (zri r m g a i):=by obtain⟨⟨b,c,d,e⟩,f⟩:=k.shape;unfold zri;cases i;{exact⟨⟨⟨b,c,(zuN _ d).1,e⟩,f⟩,k.gs⟩};{exact⟨⟨⟨b,c,d,(zuN _ e).1⟩,f⟩,k.gs⟩}
structure LookAt (h:Host) (m g q need:Int):Prop where
 fit:Fit h
 hm:hasB m (ln h.Mons)=true
 hg:hasB g (ln (ix h.Mons m mZ).Guests)=true
 hq:hasB q 8=true
 hn:need=1\/need=2
 hs:SlotFit (ix (ix h.Mons m mZ).Outer q sZ)
theorem LookAt.mend {h:Host}{m g q a:Int}(A:LookAt h m g q a):z2B h m q a:=⟨A.fit,A.hm,A.hq,A.hn,A.hs⟩
theorem LookAt.kp {h:Host}{m g q a:Int}(A:LookAt h m g q a):Kp h (mended h m q a):=⟨(zvk A.fit A.hm A.hq).1,z3M A.fit A.hm A.hq⟩
theorem LookAt.fill {h:Host}{m g q a:Int}(A:LookAt h m g q a)(b:Int):Kp h (zcl (mended h m q a) m g b):=by have k:=A.kp;have hg:hasB g (ln (ix (mended h m q a).Mons m mZ).Guests)=true:=(by rw[zK7 k.gs];exact A.hg);have e:zev (zcl (mended h m q a) m g b).Mons=zev (mended h m q a).Mons:=zzD (k.has A.hm) rfl;exact⟨z2h k.shape (k.has A.hm) hg,e.trans k.gs⟩
theorem zU4 {h:Host}{b:List Entry}{m g page a q:Int}{io:Bool}(A:LookAt h m g q a):Kp h (zfM h b m g page a q io).1:=by unfold zfM;cases zhG b m g page a;{cases zeq h m g page a;{exact z3W ⟨A.fit.1,rfl⟩};{exact z3W (A.fill page)}};{exact⟨A.fit.1,rfl⟩}
theorem zdA {h:Host}{m g:Int}(a:zb3 h m g=true):zb2 h=true/\hasB m (ln h.Mons)=true/\hasB g (ln (ix h.Mons m mZ).Guests)=true:=by unfold zb3 at a;simp only[zdj]at a;exact a
theorem z01 {h:Host}{m g:Int}(e:zb3 h m g=true):zd3 (ix (ix h.Mons m mZ).Guests g gZ)=true:=by obtain⟨b,c,d⟩:=zdA e;have a:=zhp b _ (zbG c mZ);unfold zd7 at a;simp only[zdj]at a;exact qJ.1 a.2.2.2.2.2.2.2.2.2.1 _ (zbG d _)
theorem zMw {n:Int}(h:zgf n=true):n=1\/n=2:=by unfold zgf at h;cases a:ieq n 1;{rw [a]at h;exact .inr (qE h)};{exact .inl (qE a)}
theorem zDv {h:Host}{m g page a:Int}(s:SmH h)(d:zbP h m g page a=true) :
 LookAt h m g (zbZ (zbW h m g) page a) a/\LookAt (zbA h m (zbZ (zbW h m g) page a)) m g (zbZ (zbW h m g) page a) a:=by
 unfold zbP at d;simp only[zdj]at d;obtain⟨l,p,r⟩:=d;obtain⟨i,b,j⟩:=zdA l;have f:hasB (zbZ (zbW h m g) page a) 8=true:=zbc7 (z01 l) r;have c:=ztq (zhp i _ (zbG b mZ)) f;have q:=zfH s i;refine⟨⟨q,b,j,f,zMw p,c⟩,⟨zXR q b,ze2 b,?_,f,zMw p,?_⟩⟩
 .have e:zev (zbA h m (zbZ (zbW h m g) page a)).Mons=zev h.Mons:=zzD b rfl;rw[zK7 e];exact j
 .obtain⟨k,rfl,hk⟩:=zd4 (n:=h.Mons.length) b;unfold zbA;rw[zdT hk];exact c
theorem zx2 {h:Host}{b:List Entry}{m g page need:Int}{io:Bool}(a:SmH h)(f:zb3 h m g=true):Kp h (lookOf h b m g page need io).1:=by have d:=zfH a (zdA f).1;unfold lookOf;cases c:zbP h m g page need;{exact⟨d.1,rfl⟩};{obtain⟨A,B⟩:=zDv a c;simp only[cT];cases ieq need 2;{exact zU4 A};{have k:=zU4 (b:=b) (page:=page) (io:=io) B;have e:zev (zbA h m (zbZ (zbW h m g) page need)).Mons=zev h.Mons:=zzD A.hm rfl;exact⟨k.shape,k.gs.trans e⟩}}
def zj4 (x:Host×Int×Bool):List AV:=[.agg (zbq x.1),.one (.i .i64 x.2.1),.one (.b x.2.2)]
theorem zgk {h:Host}{b:List Entry}{m g c a:Int}{e:Bool}(d:zbP h m g c a=false):lookOf h b m g c a e=(h,-1,false):=by unfold lookOf;rw[d];rfl
theorem zok {h:Host}{m g b a:Int}(c:zb3 h m g=false):zbP h m g b a=false:=by unfold zbP;rw[c];rfl
theorem zZs {h:Host}{m g:Int}(a:zb2 h=false):zb3 h m g=false:=by unfold zb3;rw[a];rfl
theorem zZt {h:Host}{m g:Int}(a:hasB m (ln h.Mons)=false):zb3 h m g=false:=by unfold zb3;rw[a];cases zb2 h<;>rfl
theorem zZu {h:Host}{m g:Int}(a:hasB g (ln (ix h.Mons m mZ).Guests)=false):zb3 h m g=false:=by unfold zb3;rw[a];cases zb2 h<;>cases hasB m (ln h.Mons)<;>rfl
theorem zZv {h:Host}{m g:Int}(a:zb2 h=true)(b:hasB m (ln h.Mons)=true)(c:hasB g (ln (ix h.Mons m mZ).Guests)=true):zb3 h m g=true:=by unfold zb3;rw[a,b,c];rfl
structure LookF (r:Host) (m g:Int):Prop where
 hm:hasB m (ln r.Mons)=true
 hg:hasB g (ln (ix r.Mons m mZ).Guests)=true
 ht:hasB g (ln (ix r.Mons m mZ).Tables)=true
 hk:SmK (zb4 r m g)
 hb:r.Buffer.length<=1048576
 hi:r.IoBuffer.length<=1048576
theorem znu {h r:Host}{m g:Int}(k:Kp h r)(b:hasB m (ln h.Mons)=true)(hg:hasB g (ln (ix h.Mons m mZ).Guests)=true):LookF r m g:=by obtain⟨d,e⟩:=zcx k.shape (k.has b);have a:hasB g (ln (ix r.Mons m mZ).Guests)=true:=(by rw[zK7 k.gs];exact hg);have c:hasB g (ln (ix r.Mons m mZ).Tables)=true:=(by rw[ln,e.2.2.2];exact a);exact⟨k.has b,a,c,d.2.2.2.2.2.2 _ (zbG c _),k.shape.1.2.2.1,k.shape.1.2.2.2⟩
@[simp] abbrev zhC (h:Host)(b:List Entry)(m g c a:Int)(d:Bool):Bool:=pc (zcY h)
@[simp] abbrev zeI (h:Host)(b:List Entry)(m g page need:Int)(io:Bool):Host:=(lookOf h b m g page need io).1
@[simp] abbrev zhB (h:Host)(b:List Entry)(m g c a:Int)(d:Bool):Int:=(lookOf h b m g c a d).2.1
@[simp] abbrev zfB (h:Host)(b:List Entry)(m g c a:Int)(d:Bool):Bool:=(lookOf h b m g c a d).2.2
def znz:List AV->Option (Bool×List AV)
 |[.agg [.s (.sl .int) c,.s .mon d,.s .entry e,.s .entry f],.one (.s .entry g),.one (.i .i64 h),.one (.i .i64 j),.one (.i .i64 k),.one (.i .i64 l),.one (.b m)]=>some ((zhC (⟨c,d,e,f⟩:Host) g h j k l m),[aH (zeI (⟨c,d,e,f⟩:Host) g h j k l m),aI (zhB (⟨c,d,e,f⟩:Host) g h j k l m),aB (zfB (⟨c,d,e,f⟩:Host) g h j k l m)])
 |_=>none
abbrev zRK (b:lM)(c:lN)(d:lE)(e:lE)(a:Int)(g:Int)(f:Int):Mon :=
 (ix (zgW (⟨b,c,d,e⟩:Host) a g f).Mons a zi)
abbrev zRL (a:Host)(b c:Int)(d e:Int):Int :=
 (ze9 (ix (ix a.Mons b zi).Guests c zG).Live d e)
def zNE (N:Nat)(a:Int)(b:lM)(c:lN)(d:lE)(e:lE):OA:=
 (some [(aH (⟨b,c,d,e⟩:Host)),(aI a),(aB true)])
def zqh (N:Nat)(l:Int)(m:Bool)(n:Int)(c:Int)(d:Int)(k:lM)(e:lN)(a:lE)(b:lE)(f:lM)(g:lN)(h:lE)(i:lE):OA:=
 let q:=(⟨n,l,c,d⟩:Entry); (share (fun (j:(Int×(Int×(lM×(lN×(lE×(lE×(lM×(lN×(lE×(lE×Unit)))))))))))=>(zNE N j.1 j.2.2.1 j.2.2.2.1 j.2.2.2.2.1 j.2.2.2.2.2.1)) (fun p=>(cond m (oN (zgT b q) (p (c,(d,(k,(e,(a,((zgA b q),(f,(g,(h,(i,())))))))))))) (oN (zgT a q) (p (c,(d,(k,(e,((zgA a q),(b,(f,(g,(h,(i,())))))))))))))))
def zsC (N:Nat)(d:lM)(e:lN)(f:lE)(g:lE)(b:Int)(i:Int)(h:Int)(a:Int)(c:Int)(y:((Int×(Bool×(Int×(Int×(Int×(Int×(Int×(Int×(Int×(lM×(lN×(lE×(lE×(lM×(lN×(lE×(lE×Unit))))))))))))))))))->OA)(r:Bool)(s:Int)(t:Int)(u:Int)(v:Int)(k:Int)(l:lM)(m:lN)(n:lE)(p:lE):OA:=
 let D:=(⟨d,e,f,g⟩:Host);let w:=(zgW D b i h);let x:=(inb b (ln w.Mons));let j:=(zRK d e f g b i h);let C:=(ix j.Tables a zcN);let A:=(ix j.Guests a zG).Live; (oN (zhz D b i h) (oN x (oN x (oN (inb a (ln j.Tables)) (oN x (oN (inb a (ln j.Guests)) (oN x (oN (zuZ C A j.Outer c) (oN (inb a (ln j.Tables)) (share (up w.Mons b ({j with Tables:=(up j.Tables a (zuY C A j.Outer c))}:Mon)) (fun q=>let B:=(ix q b zi).Tables;let z:=(ix B a zcN); (oN (inb b (ln q)) (oN (inb a (ln B)) (oN (zcU z c) (y (c,(r,(s,(t,(u,(v,(k,((zik z c).Page,((zik z c).Rights,(w.Memory,(q,(w.Buffer,(w.IoBuffer,(l,(m,(n,(p,()))))))))))))))))))))))))))))))))
def zl4 (N:Nat)(d:Int)(e:Int)(c:Int)(n:Int)(p:Bool)(v:Int)(q:Int)(r:Int)(s:Int)(t:Int)(f:Int)(g:lM)(b:lN)(h:lE)(i:lE)(j:lM)(k:lN)(l:lE)(m:lE):OA:=
 let z:=(ix b d zi).Tables;let x:=(ix z e zcN);let w:=(zik x c); (oN (inb d (ln b)) (oN (inb e (ln z)) (oN (zcU x c) (share (fun (a:(Int×(Bool×(Int×(Int×(Int×(Int×(Int×(Int×(Int×(lM×(lN×(lE×(lE×(lM×(lN×(lE×(lE×Unit))))))))))))))))))=>(zqh N a.1 a.2.1 a.2.2.1 a.2.2.2.2.2.2.2.1 a.2.2.2.2.2.2.2.2.1 a.2.2.2.2.2.2.2.2.2.1 a.2.2.2.2.2.2.2.2.2.2.1 a.2.2.2.2.2.2.2.2.2.2.2.1 a.2.2.2.2.2.2.2.2.2.2.2.2.1 a.2.2.2.2.2.2.2.2.2.2.2.2.2.1 a.2.2.2.2.2.2.2.2.2.2.2.2.2.2.1 a.2.2.2.2.2.2.2.2.2.2.2.2.2.2.2.1 a.2.2.2.2.2.2.2.2.2.2.2.2.2.2.2.2.1)) (fun u=>let y:=(zsC N g b h i d v n e c u p q r s t f j k l m); (cond (nB (zoo x c)) y (cond (ieq w.Page (-1)) y (oN (zbQ w.Rights n) (cond (nB (zcO w.Rights n)) y (u (c,(p,(q,(r,(s,(t,(f,(w.Page,(w.Rights,(g,(b,(h,(i,(j,(k,(l,(m,())))))))))))))))))))))))))))
def zsD (N:Nat)(g:Int)(a:Host)(h e f:Int)(l:lE)(n:Bool):OA:=
 let i:=(zkT g h);let k:=(zRL a g h e f);let m:=(ix a.Mons g zi);let s:=(ix m.Guests h zG).Live;let d:=(zf8 l i e);let j:=d.Rights; (oN (inb g (ln a.Mons)) (oN (inb h (ln m.Guests)) (oN (zkt s e f) (cond (nB (zfa s e f)) (some [(aH a),(aI (-1)),(aB false)]) (oN (zhw g h) (cond (ieq f 2) (oN (inb g (ln a.Mons)) (oN (inb k (ln m.Dirty)) (share (up a.Mons g ({m with Dirty:=(up m.Dirty k true)}:Mon)) (fun p=>(oN (zg9 l i e) (share (fun (c:(Int×(Int×(Int×(Int×(Bool×(Int×(Int×(Int×(Int×(Int×(Int×(lM×(lN×(lE×(lE×(lM×(lN×(lE×(lE×Unit))))))))))))))))))))=>(zl4 N c.1 c.2.1 c.2.2.1 c.2.2.2.1 c.2.2.2.2.1 c.2.2.2.2.2.1 c.2.2.2.2.2.2.1 c.2.2.2.2.2.2.2.1 c.2.2.2.2.2.2.2.2.1 c.2.2.2.2.2.2.2.2.2.1 c.2.2.2.2.2.2.2.2.2.2.1 c.2.2.2.2.2.2.2.2.2.2.2.1 c.2.2.2.2.2.2.2.2.2.2.2.2.1 c.2.2.2.2.2.2.2.2.2.2.2.2.2.1 c.2.2.2.2.2.2.2.2.2.2.2.2.2.2.1 c.2.2.2.2.2.2.2.2.2.2.2.2.2.2.2.1 c.2.2.2.2.2.2.2.2.2.2.2.2.2.2.2.2.1 c.2.2.2.2.2.2.2.2.2.2.2.2.2.2.2.2.2.1 c.2.2.2.2.2.2.2.2.2.2.2.2.2.2.2.2.2.2.1)) (fun r=>(cond (zfe l i e) (oN (zbQ j f) (cond (zcO j f) (some [(aH ({a with Mons:=p}:Host)),(aI d.Host),(aB true)]) (r (g,(h,(e,(f,(n,(k,(i,(d.Tag,(d.Page,(d.Host,(j,(a.Memory,(p,(a.Buffer,(a.IoBuffer,([],([],([],([],())))))))))))))))))))))) (r (g,(h,(e,(f,(n,(k,(i,(d.Tag,(d.Page,(d.Host,(j,(a.Memory,(p,(a.Buffer,(a.IoBuffer,([],([],([],([],())))))))))))))))))))))))))))) (oN (zg9 l i e) (share (fun (b:(Int×(Int×(Int×(Int×(Bool×(Int×(Int×(Int×(Int×(Int×(Int×(lM×(lN×(lE×(lE×(lM×(lN×(lE×(lE×Unit))))))))))))))))))))=>(zl4 N b.1 b.2.1 b.2.2.1 b.2.2.2.1 b.2.2.2.2.1 b.2.2.2.2.2.1 b.2.2.2.2.2.2.1 b.2.2.2.2.2.2.2.1 b.2.2.2.2.2.2.2.2.1 b.2.2.2.2.2.2.2.2.2.1 b.2.2.2.2.2.2.2.2.2.2.1 b.2.2.2.2.2.2.2.2.2.2.2.1 b.2.2.2.2.2.2.2.2.2.2.2.2.1 b.2.2.2.2.2.2.2.2.2.2.2.2.2.1 b.2.2.2.2.2.2.2.2.2.2.2.2.2.2.1 b.2.2.2.2.2.2.2.2.2.2.2.2.2.2.2.1 b.2.2.2.2.2.2.2.2.2.2.2.2.2.2.2.2.1 b.2.2.2.2.2.2.2.2.2.2.2.2.2.2.2.2.2.1 b.2.2.2.2.2.2.2.2.2.2.2.2.2.2.2.2.2.2.1)) (fun q=>(cond (zfe l i e) (oN (zbQ j f) (cond (zcO j f) (some [(aH a),(aI d.Host),(aB true)]) (q (g,(h,(e,(f,(n,(k,(i,(d.Tag,(d.Page,(d.Host,(j,(a.Memory,(a.Mons,(a.Buffer,(a.IoBuffer,([],([],([],([],())))))))))))))))))))))) (q (g,(h,(e,(f,(n,(k,(i,(d.Tag,(d.Page,(d.Host,(j,(a.Memory,(a.Mons,(a.Buffer,(a.IoBuffer,([],([],([],([],()))))))))))))))))))))))))))))))
def zq2 (N:Nat)(a:Host)(g:lE)(b c:Int)(h d:Int)(i:Bool):OA:=
 let f:=(zsD N b a c h d g i);let e:=(wsub .i64 (ln (ix a.Mons b zi).Guests) 1); (oN (zeo a) (cond (nB (zel a)) (some [(aH a),(aI (-1)),(aB false)]) (oN (zM b 0 (wsub .i64 (ln a.Mons) 1)) (cond (nB (zk b 0 (wsub .i64 (ln a.Mons) 1))) (some [(aH a),(aI (-1)),(aB false)]) (oN (inb b (ln a.Mons)) (oN (zM c 0 e) (cond (nB (zk c 0 e)) (some [(aH a),(aI (-1)),(aB false)]) (cond (ine d 1) (cond (ine d 2) (some [(aH a),(aI (-1)),(aB false)]) f) f))))))))
def zs7:FuncId->Nat->Option Tmpl:=zq [(122,999999,{n:=0,tm:=[],lo:=[],ro:=[]}),(122,1007023,{n:=210,tm:=[(2,ti),(3,ti),(4,ti),(5,ti),(6,.b),(7,.lp 0 0),(14,.lp 1 0),(17,ti),(19,ti),(20,.lp 2 0)],lo:=[(0,[.sl 0 [],.sl 1 [],.sl 2 [],.sl 3 []]),(1,[.sl 4 [],.sl 5 [],.sl 6 [],.sl 7 []]),(2,[ti,ti,ti,ti])],ro:=[(0,(.sl .int),true),(1,.mon,true),(2,.entry,true),(3,.entry,true),(4,(.sl .int),true),(5,.mon,true),(6,.entry,true),(7,.entry,true)],kr:=1}),(122,1009011,{n:=210,tm:=[(4,ti),(6,.b),(7,.lp 0 0),(14,.lp 1 0),(19,ti),(20,.lp 2 0),(22,.lp 3 0)],lo:=[(0,[.sl 0 [],.sl 1 [],.sl 2 [],.sl 3 []]),(1,[.sl 4 [],.sl 5 [],.sl 6 [],.sl 7 []]),(2,[ti,ti,ti,ti]),(3,[ti,ti])],ro:=[(0,(.sl .int),true),(1,.mon,true),(2,.entry,true),(3,.entry,true),(4,(.sl .int),true),(5,.mon,true),(6,.entry,true),(7,.entry,true)],kr:=1}),(122,1005003,{n:=210,tm:=[(7,.lp 0 0),(14,.lp 1 0),(22,.lp 2 0)],lo:=[(0,[.sl 0 [],.sl 1 [],.sl 2 [],.sl 3 []]),(1,[.sl 4 [],.sl 5 [],.sl 6 [],.sl 7 []]),(2,[ti,ti])],ro:=[(0,(.sl .int),true),(1,.mon,true),(2,.entry,true),(3,.entry,true),(4,(.sl .int),true),(5,.mon,true),(6,.entry,true),(7,.entry,true)],kr:=1})]
theorem zPF (N:Nat)(a:Host)(b c:Int)(d e:Int)(f:Bool):zTv (cQ znr zqy z1C z2u) zs7 N 12 122 [true,true,true,true,false,false,false,false,false,false] [(4,2)] 1 1 [[0],[1],[2],[4],[7]] .mon [aH a,aS .entry a.Buffer,aI b,aI c,aI d,aI e,aB f]=zq2 N a a.Buffer b c d e f:=by kernel_rfl
theorem zPG (N:Nat)(a:Host)(b c:Int)(d e:Int)(f:Bool):zTv (cQ znr zqy z1C z2u) zs7 N 12 122 [true,true,true,true,false,false,false,false,false,false] [(4,3)] 1 1 [[0],[1],[2],[4],[7]] .mon [aH a,aS .entry a.IoBuffer,aI b,aI c,aI d,aI e,aB f]=zq2 N a a.IoBuffer b c d e f:=by kernel_rfl
theorem zED {N:Nat}{r:Host}{m g a:Int}{b:Bool}{z1 z2 z3 z4}(c:r.Buffer.length<=1048576)(d:r.IoBuffer.length<=1048576) :
 zqh N a b (zd8 m g) (zdZ (zb4 r m g) a).Page (zdZ (zb4 r m g) a).Rights r.Memory r.Mons r.Buffer r.IoBuffer z1 z2 z3 z4=some (zj4 (zet r m g a b)):=by
 unfold zqh oN
 conv=>zeta
 refine shr ?_;cases b
 .exact zdU rfl (must (zby c) rfl)
 .exact must rfl (must (zby d) rfl)
theorem zUE {N:Nat}{r:Host}{m g a b q:Int}{c:Bool}{R:OA}{r11}{u6 u7 u8 u9 u10 z1 z2 z3 z4}(A:LookAt r m g q b)(d:r11 (a,(c,(u6,(u7,(u8,(u9,(u10,((zdZ (zb4 (zcl (mended r m q b) m g a) m g) a).Page,((zdZ (zb4 (zcl (mended r m q b) m g a) m g) a).Rights,((zcl (mended r m q b) m g a).Memory,((zcl (mended r m q b) m g a).Mons,((zcl (mended r m q b) m g a).Buffer,((zcl (mended r m q b) m g a).IoBuffer,(z1,(z2,(z3,(z4,())))))))))))))))))=R) :
 zsC N r.Memory r.Mons r.Buffer r.IoBuffer m q b g a r11 c u6 u7 u8 u9 u10 z1 z2 z3 z4=R:=by
 have M:=znu A.kp A.hm A.hg;have F:=znu (A.fill a) A.hm A.hg;unfold zsC oN
 conv=>zeta
 exact must (zby A.mend) (must (zF M.hm) (must (zF M.hm) (must (zF M.ht) (must (zF M.hm) (must (zF M.hg) (must (zF M.hm) (must (zby M.hk) (must (zF M.ht) (shr (must (zF F.hm) (must (zF F.ht) (must (zby F.hk) d))))))))))))
theorem zZZ {r:Host}{m g a b:Int}(h:zkv (zb4 r m g) a=false):zeq r m g a b=true:=by unfold zeq;rw[h];rfl
theorem zZ0 {r:Host}{m g a b:Int}(h:ieq (zdZ (zb4 r m g) a).Page (-1)=true):zeq r m g a b=true:=by unfold zeq;rw[h];cases zkv (zb4 r m g) a<;>rfl
theorem zZ1 {r:Host}{m g a b:Int}(h:enough (zdZ (zb4 r m g) a).Rights b=false):zeq r m g a b=true:=by unfold zeq;rw[h];cases zkv (zb4 r m g) a<;>cases ieq (zdZ (zb4 r m g) a).Page (-1)<;>rfl
theorem zZ2 {r:Host}{m g a b:Int}(c:zkv (zb4 r m g) a=true)(d:ieq (zdZ (zb4 r m g) a).Page (-1)=false)(e:enough (zdZ (zb4 r m g) a).Rights b=true):zeq r m g a b=false:=by unfold zeq;rw[c,d,e];rfl
theorem ztV {r:Host}{m g a b q:Int}{c:Bool}(h:zeq r m g a b=true):(cond (zeq r m g a b) (zet (zcl (mended r m q b) m g a) m g a c) (zet r m g a c))=zet (zcl (mended r m q b) m g a) m g a c:=by rw[h];rfl
theorem zZD {r:Host}{m g a b q:Int}{c:Bool}(h:zeq r m g a b=false):(cond (zeq r m g a b) (zet (zcl (mended r m q b) m g a) m g a c) (zet r m g a c))=zet r m g a c:=by rw[h];rfl
theorem zEE {N:Nat}{r:Host}{m g a b q:Int}{f:Bool}{u7 u8 u9 u10 z1 z2 z3 z4}(A:LookAt r m g q b) :
 zl4 N m g a b f q (zd8 m g) u7 u8 u9 u10 r.Memory r.Mons r.Buffer r.IoBuffer z1 z2 z3 z4=some (zj4 (cond (zeq r m g a b) (zet (zcl (mended r m q b) m g a) m g a f) (zet r m g a f))):=by
 have M:=znu ⟨A.fit.1,rfl⟩ A.hm A.hg;have F:=znu (A.fill a) A.hm A.hg;unfold zl4 oN nB
 conv=>zeta
 refine must (zF M.hm) (must (zF M.ht) (must (zby M.hk) (shr (brN (fun c=>?_) (fun c=>br (fun d=>?_) (fun d=>must rfl (brN (fun e=>?_) (fun e=>?_))))))))
 .rw [ztV (zZZ c)];exact zUE A (zED (r:=zcl (mended r m q b) m g a) (m:=m) (g:=g) F.hb F.hi)
 .rw [ztV (zZ0 d)];exact zUE A (zED (r:=zcl (mended r m q b) m g a) (m:=m) (g:=g) F.hb F.hi)
 .rw [ztV (zZ1 e)];exact zUE A (zED (r:=zcl (mended r m q b) m g a) (m:=m) (g:=g) F.hb F.hi)
 .rw [zZD (zZ2 c d e)];exact zED (r:=r) (m:=m) (g:=g) M.hb M.hi
theorem zEH {b:List Entry}{m g a c:Int}(h:(zr6 b m g a).isSome=false):zhG b m g a c=false:=by unfold zhG;rw[h];rfl
theorem zof {b:List Entry}{m g a c:Int}{x:Bool}(d:(zr6 b m g a).isSome=true)(h:enough ((zr6 b m g a).getD ⟨0,0,0,0⟩).Rights c=x):zhG b m g a c=x:=by unfold zhG;rw[d,h];rfl
theorem zoj {r:Host}{b:List Entry}{m g a c q:Int}{d:Bool}(h:zhG b m g a c=false):zfM r b m g a c q d=bif zeq r m g a c then zet (zcl (mended r m q c) m g a) m g a d else zet r m g a d:=by unfold zfM;rw[h];rfl
theorem zEK {r:Host}{b:List Entry}{m g a c q:Int}{d:Bool}(h:zhG b m g a c=true):zfM r b m g a c q d=(r,((zr6 b m g a).getD ⟨0,0,0,0⟩).Host,true):=by unfold zfM;rw[h];rfl
theorem zJc {h:Host}{b:List Entry}{m g c a:Int}{d:Bool}(e:zbP h m g c a=true):lookOf h b m g c a d=zfM (cond (ieq a 2) (zbA h m (zbZ (zbW h m g) c a)) h) b m g c a (zbZ (zbW h m g) c a) d:=by unfold lookOf;rw[e];rfl
theorem z3z {N:Nat}{r:Host}{b:List Entry}{m g c a:Int}{f:Bool}(p:SmH r)(hg:zb3 r m g=true)(k:zgf a=true) :
 zsD N m r g c a b f=some (zj4 (lookOf r b m g c a f)):=by
 obtain⟨q,h,l⟩:=zdA hg;unfold zsD oN nB
 conv=>zeta
 refine must (zF h) (must (zF l) (must rfl (brN (fun j=>?_) (fun j=>must rfl ?_))))
 .have:zbP r m g c a=false:=by
   unfold zbP;rw[hg,k,show zeB (zbW r m g) c a=false from j];rfl
  rw[zgk this];rfl
 .have hl:zbP r m g c a=true:=by
   unfold zbP;rw[hg,k,show zeB (zbW r m g) c a=true from j];rfl
  obtain⟨A,B⟩:=zDv p hl;rw[zJc hl];have n:hasB (zbZ (zbW r m g) c a) (ln (ix r.Mons m mZ).Dirty)=true:=zdN (zcx A.fit.1 h).2.2.2.1 A.hq;refine br (fun i=>?_) (fun i=>?_)
  .rw [i]
   show _=some (zj4 (zfM (zbA r m (zbZ (zbW r m g) c a)) b m g c a (zbZ (zbW r m g) c a) f))
   refine must (zF h) (must (zF n) (shr (must rfl (shr (br (fun d=>must rfl (br (fun e=>?_) (fun e=>?_))) (fun d=>?_))))))
   .rw [zEK (zof d e)];rfl
   .rw [zoj (zof d e)];exact zEE (r:=zbA r m (zbZ (zbW r m g) c a)) B
   .rw [zoj (zEH d)];exact zEE (r:=zbA r m (zbZ (zbW r m g) c a)) B
  .rw [i]
   show _=some (zj4 (zfM r b m g c a (zbZ (zbW r m g) c a) f))
   refine must rfl (shr (br (fun d=>must rfl (br (fun e=>?_) (fun e=>?_))) (fun d=>?_)))
   .rw [zEK (zof d e)];rfl
   .rw [zoj (zof d e)];exact zEE A
   .rw [zoj (zEH d)];exact zEE A
theorem zSV (a:Host)(f:List Entry)(b c:Int)(e d:Int)(g:Bool)(t:zbU big [aH a,aS .entry f,aI b,aI c,aI e,aI d,aB g])(r:zhC a f b c e d g=true):∃N,zq2 N a f b c e d g=some [aH (zeI a f b c e d g),aI (zhB a f b c e d g),aB (zfB a f b c e d g)]:=by
 have j:=(zX a).1 (zO.1 r);refine⟨0,?_⟩;show _=some (zj4 (lookOf a f b c e d g));unfold zq2 oN nB;conv=>zeta
 refine must rfl (brN (fun k=>?_) (fun k=>must rfl ?_));{rw [zgk (zok (zZs k))];rfl};rw[show zk b 0 (wsub .i64 (ln a.Mons) 1)=hasB b (ln a.Mons) from zqZ j.2.1.1 b];refine brN (fun i=>?_) (fun i=>must (zF i) (must rfl ?_));{rw [zgk (zok (zZt i))];rfl};have s:(ix a.Mons b mZ).Guests.length<=1048576:=(j.2.1.2 _ (zbG i _)).2.2.2.1.1;rw[show zk c 0 (wsub .i64 (ln (ix a.Mons b zi).Guests) 1)=hasB c (ln (ix a.Mons b mZ).Guests) from zqZ s c];refine brN (fun l=>?_) (fun l=>?_);{rw [zgk (zok (zZu l))];rfl};have hg:=zZv k i l;have p:∀{n:Int},zgf n=false->zbP a b c e n=false:=fun {n} h=>(by unfold zbP;rw[hg,h];rfl);rw[zoh,zoh];cases m:ieq d 1;{cases q:ieq d 2;{have:zgf d=false:=(by unfold zgf;rw[m,q];rfl);rw[zgk (p this)];rfl};{exact z3z j hg (by unfold zgf;rw[m,q];rfl)}};{exact z3z j hg (by unfold zgf;rw[m];rfl)}
theorem zv3:zeu Tryz.prog 122 [true,true,true,true,false,false,false,false,false,false] (some (1,1,[[0],[1],[2],[4],[7]])) znz:=by refine zNT (kt:=.mon) (zgZ zhQ zC zca zEZ) (zjU (by kernel_rfl)) ?_;intro p s x f i w v h;have t:=zi9 v;have g:p=[(4,2)]\/p=[(4,3)]:=(by rw[show ziq 122=[[(4,2)],[(4,3)]] from by kernel_rfl]at f;simpa using f);unfold znz at h;split at h;{rename_i a b c d r j k l m n;obtain⟨u,rfl⟩:=zeA h;obtain⟨N,q⟩:=zSV (⟨a,b,c,d⟩:Host) r j k l m n t u;refine⟨⟨_,rfl⟩,rfl,zs7,N,12,?_⟩;rcases g with rfl|rfl;{have e:=i 4 2 (by simp);simp only[zB,kB,AV.cvs] at e;cases e;exact(zPF N (⟨a,b,c,d⟩:Host) j k l m n).trans q};{have e:=i 4 3 (by simp);simp only[zB,kB,AV.cvs] at e;cases e;exact(zPG N (⟨a,b,c,d⟩:Host) j k l m n).trans q}};{cases h}
def z7M:zfh:=[(122,([true,true,true,true,false,false,false,false,false,false],(some (1,1,[[0],[1],[2],[4],[7]])),znz))]++z2u
theorem zhN:zd9 z7M:=zoa zEZ (by
 intro x a;simp only[qG,qN,or_false]at a;rcases a with rfl
 .exact zv3)
def gOf (h:Host)(m g:Int):Guest:=ix (ix h.Mons m mZ).Guests g gZ
def zlG (h:Host)(m g:Int)(x:Guest):Host:={h with Mons:=up h.Mons m {ix h.Mons m mZ with Guests:=up (ix h.Mons m mZ).Guests g x}}
def znv (h:Host)(m g:Int)(x:Guest)(w:Bool):Host×Int×Bool:=lookOf h h.Buffer m g (zbp (address x)) (zcg w) false
def zko (L:Host×Int×Bool)(m g:Int)(x:Guest)(w:Bool):Host :=
 bif L.2.2 then (cond w (zlG {L.1 with Memory:=zbO L.1.Memory L.2.1 (zdu (address x)) x.A} m g (zcj x)) (zlG L.1 m g (loaded x (cellAt L.1.Memory L.2.1 (zdu (address x))))))
 else zlG L.1 m g (stopped x (zr5 (zbp (address x)) w))
def owned (h:Host)(m:Int):Host:=bif ilt (ix h.Mons m mZ).Own 1000000000 then {h with Mons:=up h.Mons m {ix h.Mons m mZ with Own:=zL .i64 (ix h.Mons m mZ).Own 1}} else h
def zoZ (h:Host)(m n:Int):Host:=bif ilt (ln (ix h.Mons m mZ).Outs) 40 then {h with Mons:=up h.Mons m {ix h.Mons m mZ with Outs:=ap (ix h.Mons m mZ).Outs [n]}} else h
def zg3 (h:Host)(m:Int)(x:Guest)(w:Int):Host:=bif (cond (ine w 6) (ieq (zzU (ix h.Mons m mZ).Traps x.Ctl.Traps (zyZ w)) 2) false) then owned h m else h
def zg2 (h:Host)(m:Int)(x:Guest)(w:Int):Host:=bif (cond (zle x.Ctl.Traps w) (ieq w 5) false) then zoZ h m (zcA x.Prog x.Pc).X else h
def zwO (h:Host)(m g:Int)(x:Guest)(w:Int):Host:=zlG (zg2 (zg3 h m x w) m x w) m g (zkp x x.Ctl.Traps w)
def zWW (h:Host)(m g:Int)(x:Guest)(w:Int):Host×Bool :=
 bif ieq w 0 then (h,false) else (bif ieq w 1 then (zlG h m g (interrupted x),true) else (bif ieq w 2 then (zlG h m g (plainly x),true) else
  (cond (cond (ieq w 3) true (ieq w 4)) (zko (znv h m g x (ieq w 4)) m g x (ieq w 4),true) (zwO h m g x w,true))))
def zcz (h:Host)(m g:Int):Host×Bool:=bif zb3 h m g then zWW h m g (gOf h m g) (zbi (gOf h m g)) else (h,false)
def zgl (x:Host×Bool):List AV:=[.agg (zbq x.1),.one (.b x.2)]
theorem zp7 {h:Host}{m g:Int}(b:SmH h)(a:hasB m (ln h.Mons)=true)(hg:hasB g (ln (ix h.Mons m mZ).Guests)=true):SmG (gOf h m g):=(b.2.1.2 _ (zbG a _)).2.2.2.1.2 _ (zbG hg _)
theorem z2i {h:Host}{m g:Int}{x:Guest}(c:Shape h)(d:hasB m (ln h.Mons)=true)(e:SmG x):Shape (zlG h m g x):=by obtain⟨a,b⟩:=zcx c d;exact zi1 c ⟨a.1,a.2.1,a.2.2.1,zEW a.2.2.2.1 e,a.2.2.2.2⟩ ⟨b.1,b.2.1,b.2.2.1,by simpa using b.2.2.2⟩
theorem zMu {h:Host}{m:Int}(b:hasB m (ln h.Mons)=true)(x:Mon):ix (up h.Mons m x) m mZ=x:=by obtain⟨k,rfl,a⟩:=zd4 (n:=h.Mons.length) b;exact zdT a _ _
@[simp] abbrev zcL (h:Host)(m g:Int):Host:=(zcz h m g).1
@[simp] abbrev zcM (h:Host)(m g:Int):Bool:=(zcz h m g).2
theorem z9l {a:Type}{l:List a}{x:a}(h:ilt (ln l) 40=true):few (ln (ap l [x]))=true:=by have:=qE h;simp only[ln] at this;exact zge (by simp[ap];omega)
theorem zZ5 {h:Host}{m:Int}{x:Guest}{w:Int}(a:(cond (zle x.Ctl.Traps w) (ieq w 5) false)=false):zg2 h m x w=h:=by unfold zg2;rw[a];rfl
theorem zRH {h:Host}{m:Int}{x:Guest}{w:Int}(a:ilt (ln (ix h.Mons m mZ).Outs) 40=false):zg2 h m x w=h:=by unfold zg2 zoZ;rw[a];cases (cond (zle x.Ctl.Traps w) (ieq w 5) false)<;>rfl
theorem zW6 {h:Host}{m:Int}{x:Guest}{w:Int}(a:zle x.Ctl.Traps w=true)(b:ieq w 5=true)(c:ilt (ln (ix h.Mons m mZ).Outs) 40=true):zg2 h m x w={h with Mons:=up h.Mons m {ix h.Mons m mZ with Outs:=ap (ix h.Mons m mZ).Outs [(zcA x.Prog x.Pc).X]}}:=by unfold zg2 zoZ;rw[a,b,c];rfl
theorem z5s {h:Host}{m:Int}{x:Guest}{w:Int}(a:zle x.Ctl.Traps w=false):zg2 h m x w=h:=zZ5 (by rw[a];rfl)
theorem zNh {h:Host}{m:Int}{x:Guest}{w:Int}(a:ieq w 5=false):zg2 h m x w=h:=zZ5 (by rw[a];cases zle x.Ctl.Traps w<;>rfl)
theorem z3O (a:Int):(cond (ieq a a) true false)=true:=by rw[zde];rfl
theorem zmK {h:Host}{m g:Int}(a:zb3 h m g=false):zcz h m g=(h,false):=by unfold zcz;rw[a];rfl
theorem zkm {h:Host}{m g:Int}(a:zb3 h m g=true):zcz h m g=zWW h m g (gOf h m g) (zbi (gOf h m g)):=by unfold zcz;rw[a];rfl
theorem zmM {a b:Bool}(h:(cond a b false)=true):a=true/\b=true:=by cases a;{cases h};{exact⟨rfl,h⟩}
theorem zi5 {a b:Bool}(c:a=true)(d:b=true):(cond a b false)=true:=by rw[c];exact d
theorem zZ8 {h:Host}{m:Int}{x:Guest}{w:Int}(b:ine w 6=true)(a:ieq (zzU (ix h.Mons m mZ).Traps x.Ctl.Traps (zyZ w)) 2=true)(c:ilt (ix h.Mons m mZ).Own 1000000000=true):zg3 h m x w={h with Mons:=up h.Mons m {ix h.Mons m mZ with Own:=zL .i64 (ix h.Mons m mZ).Own 1}}:=by unfold zg3 owned;rw[b,a,c];rfl
theorem zZ6 {h:Host}{m:Int}{x:Guest}{w:Int}(a:ieq (zzU (ix h.Mons m mZ).Traps x.Ctl.Traps (zyZ w)) 2=false):zg3 h m x w=h:=by unfold zg3;rw[a];cases ine w 6<;>rfl
theorem zZ7 {h:Host}{m:Int}{x:Guest}{w:Int}(a:ilt (ix h.Mons m mZ).Own 1000000000=false):zg3 h m x w=h:=by unfold zg3 owned;rw[a];cases (cond (ine w 6) (ieq (zzU (ix h.Mons m mZ).Traps x.Ctl.Traps (zyZ w)) 2) false)<;>rfl
theorem zbbt {h:Host}{m:Int}{x:Guest}:zg3 h m x 6=h:=rfl
theorem zob {h a:Host}{m g:Int}{x:Guest}{w:Int}(e:zg3 h m x w=a):zwO h m g x w=zlG (zg2 a m x w) m g (zkp x x.Ctl.Traps w):=by unfold zwO;rw[e]
theorem z7O (x:Guest):ieq (zbi x) 0=true\/ieq (zbi x) 1=true\/ieq (zbi x) 2=true\/ieq (zbi x) 3=true\/ieq (zbi x) 4=true\/ieq (zbi x) 5=true\/ieq (zbi x) 6=true\/ieq (zbi x) 7=true:=by cases a:ieq (zbi x) 0;{cases b:ieq (zbi x) 1;{cases c:ieq (zbi x) 2;{cases d:ieq (zbi x) 3;{cases e:ieq (zbi x) 4;{cases f:ieq (zbi x) 5;{cases g:ieq (zbi x) 6;{exact .inr (.inr (.inr (.inr (.inr (.inr (.inr (zbc8 x a b c d e f g)))))))};{exact .inr (.inr (.inr (.inr (.inr (.inr (.inl rfl))))))}};{exact .inr (.inr (.inr (.inr (.inr (.inl rfl)))))}};{exact .inr (.inr (.inr (.inr (.inl rfl))))}};{exact .inr (.inr (.inr (.inl rfl)))}};{exact .inr (.inr (.inl rfl))}};{exact .inr (.inl rfl)}};{exact .inl rfl}
abbrev zBt (x:Guest):Bool:=bif zbR x then ieq (zbi x) 0 else false
def zpj:List AV->Option (Bool×List AV)
 |[.agg [.s .ins c,.i .i64 d,.i .i64 e,.s .slot f,.s .slot g,.i .i64 h,.i .i64 j,.b k,.i .i64 l,.i .i64 m,.i .i64 n,.b o,.i .i64 p,.b q,.s .int r]]=>some ((zBt (⟨c,d,e,f,g,⟨h,j,k⟩,l,⟨m,n,o,p⟩,q,r⟩:Guest)),[.one (.i .i64 0)])
 |_=>none
theorem zFq:vT 340 zpj:=by refine⟨zcp.1,fun w b g j a h=>?_⟩;unfold zpj at h;split at h;{obtain⟨f,rfl⟩:=zeA h;obtain⟨d,e⟩:=zmM f;exact zcp.2 w _ g _ a (congr (congrArg (fun c v=>some (c,[AV.one (CV.i .i64 v)])) d) (qE e))};{cases h}
def zbar:zZ:=[(340,zpj)]++znr
theorem z0z:zN zbar:=zh zFq zhQ
@[simp] abbrev zwv (h:Host)(m g:Int):Bool:=bif zdp h m g then ieq (zbi (gOf h m g)) 0 else false
def zFO:Run:=rF3 dH dI dI fun b c d=>(zwv b c d,[aH (zcL b c d),aB (zcM b c d)])
def zvr (N:Nat)(d:Host)(b c:Int):OA:=
 let a:=(zu d);let e:=(ix a.Mons b zi).Guests; (oN (zV d) (oN (zdp a b c) (cond (nB (zjG a b c)) (some [(aH a),(aB false)]) (oN (inb b (ln a.Mons)) (oN (inb c (ln e)) (oN (zBt (ix e c zG)) (some [(aH a),(aB false)])))))))
abbrev zBu (x:Guest):Bool:=bif zbR x then ieq (zbi x) 1 else false
def zpk:List AV->Option (Bool×List AV)
 |[.agg [.s .ins c,.i .i64 d,.i .i64 e,.s .slot f,.s .slot g,.i .i64 h,.i .i64 j,.b k,.i .i64 l,.i .i64 m,.i .i64 n,.b o,.i .i64 p,.b q,.s .int r]]=>some ((zBu (⟨c,d,e,f,g,⟨h,j,k⟩,l,⟨m,n,o,p⟩,q,r⟩:Guest)),[.one (.i .i64 1)])
 |_=>none
theorem zFr:vT 340 zpk:=by refine⟨zcp.1,fun w b g j a h=>?_⟩;unfold zpk at h;split at h;{obtain⟨f,rfl⟩:=zeA h;obtain⟨d,e⟩:=zmM f;exact zcp.2 w _ g _ a (congr (congrArg (fun c v=>some (c,[AV.one (CV.i .i64 v)])) d) (qE e))};{cases h}
def zbas:zZ:=[(340,zpk)]++znr
theorem z0A:zN zbas:=zh zFr zhQ
@[simp] abbrev zww (h:Host)(m g:Int):Bool:=bif zdp h m g then ieq (zbi (gOf h m g)) 1 else false
def zFP:Run:=rF3 dH dI dI fun b c d=>(zww b c d,[aH (zcL b c d),aB (zcM b c d)])
def zvs (N:Nat)(f:Host)(b c:Int):OA:=
 let a:=(zu f);let d:=(ix a.Mons b zi);let e:=(ix d.Guests c zG); (oN (zV f) (oN (zdp a b c) (cond (nB (zjG a b c)) (some [(aH a),(aB false)]) (oN (inb b (ln a.Mons)) (oN (inb c (ln d.Guests)) (oN (zBu e) (oN (inb b (ln a.Mons)) (oN (zbr e) (oN (inb c (ln d.Guests)) (share (up a.Mons b ({d with Guests:=(up d.Guests c (zkC e))}:Mon)) (fun g=>(some [(aH ({a with Mons:=g}:Host)),(aB true)]))))))))))))
abbrev zBv (x:Guest):Bool:=bif zbR x then ieq (zbi x) 2 else false
def zpl:List AV->Option (Bool×List AV)
 |[.agg [.s .ins c,.i .i64 d,.i .i64 e,.s .slot f,.s .slot g,.i .i64 h,.i .i64 j,.b k,.i .i64 l,.i .i64 m,.i .i64 n,.b o,.i .i64 p,.b q,.s .int r]]=>some ((zBv (⟨c,d,e,f,g,⟨h,j,k⟩,l,⟨m,n,o,p⟩,q,r⟩:Guest)),[.one (.i .i64 2)])
 |_=>none
theorem zFs:vT 340 zpl:=by refine⟨zcp.1,fun w b g j a h=>?_⟩;unfold zpl at h;split at h;{obtain⟨f,rfl⟩:=zeA h;obtain⟨d,e⟩:=zmM f;exact zcp.2 w _ g _ a (congr (congrArg (fun c v=>some (c,[AV.one (CV.i .i64 v)])) d) (qE e))};{cases h}
def zbat:zZ:=[(340,zpl)]++znr
theorem z0B:zN zbat:=zh zFs zhQ
@[simp] abbrev zwx (h:Host)(m g:Int):Bool:=bif zdp h m g then ieq (zbi (gOf h m g)) 2 else false
def zFQ:Run:=rF3 dH dI dI fun b c d=>(zwx b c d,[aH (zcL b c d),aB (zcM b c d)])
def zvt (N:Nat)(f:Host)(b c:Int):OA:=
 let a:=(zu f);let d:=(ix a.Mons b zi);let e:=(ix d.Guests c zG); (oN (zV f) (oN (zdp a b c) (cond (nB (zjG a b c)) (some [(aH a),(aB false)]) (oN (inb b (ln a.Mons)) (oN (inb c (ln d.Guests)) (oN (zBv e) (oN (inb b (ln a.Mons)) (oN (zbr e) (oN (inb c (ln d.Guests)) (share (up a.Mons b ({d with Guests:=(up d.Guests c (zso e))}:Mon)) (fun g=>(some [(aH ({a with Mons:=g}:Host)),(aB true)]))))))))))))
abbrev zBw (x:Guest):Bool:=bif zbR x then ieq (zbi x) 3 else false
def zpm:List AV->Option (Bool×List AV)
 |[.agg [.s .ins c,.i .i64 d,.i .i64 e,.s .slot f,.s .slot g,.i .i64 h,.i .i64 j,.b k,.i .i64 l,.i .i64 m,.i .i64 n,.b o,.i .i64 p,.b q,.s .int r]]=>some ((zBw (⟨c,d,e,f,g,⟨h,j,k⟩,l,⟨m,n,o,p⟩,q,r⟩:Guest)),[.one (.i .i64 3)])
 |_=>none
theorem zFt:vT 340 zpm:=by refine⟨zcp.1,fun w b g j a h=>?_⟩;unfold zpm at h;split at h;{obtain⟨f,rfl⟩:=zeA h;obtain⟨d,e⟩:=zmM f;exact zcp.2 w _ g _ a (congr (congrArg (fun c v=>some (c,[AV.one (CV.i .i64 v)])) d) (qE e))};{cases h}
def zbau:zZ:=[(340,zpm)]++znr
theorem z0C:zN zbau:=zh zFt zhQ
@[simp] abbrev zwy (h:Host)(m g:Int):Bool:=bif zdp h m g then ieq (zbi (gOf h m g)) 3 else false
def zFR:Run:=rF3 dH dI dI fun b c d=>(zwy b c d,[aH (zcL b c d),aB (zcM b c d)])
def zvu (N:Nat)(m:Host)(a b:Int):OA:=
 let c:=(zu m);let n:=(ix c.Mons a zi).Guests;let h:=(ix n b zG);let f:=(zjM h);let g:=(zc4 f);let l:=(zhB c c.Buffer a b g (zfQ false) false);let d:=(zeI c c.Buffer a b g (zfQ false) false);let e:=(ix d.Mons a zi);let j:=(ix e.Guests b zG);let i:=({h with Prog:=j.Prog,Written:=j.Written,Live:=j.Live,Seen:=j.Seen}:Guest); (oN (zV m) (oN (zdp c a b) (cond (nB (zjG c a b)) (some [(aH c),(aB false)]) (oN (inb a (ln c.Mons)) (oN (inb b (ln n)) (oN (zBw h) (oN (zbR h) (oN (zdD f) (oN (ztC false) (oN (zhC c c.Buffer a b g (zfQ false) false) (cond (nB (zfB c c.Buffer a b g (zfQ false) false)) (oN (inb a (ln d.Mons)) (oN (zdD f) (oN (zkB g false) (oN (zeF i (zfy g false)) (oN (inb b (ln e.Guests)) (share (up d.Mons a ({e with Guests:=(up e.Guests b (zd1 i (zfy g false)))}:Mon)) (fun k=>(some [(aH ({d with Mons:=k}:Host)),(aB true)])))))))) (oN (inb a (ln d.Mons)) (oN (zdD f) (oN (ziE d.Memory l (zeM f)) (oN (zz4 i (zn0 d.Memory l (zeM f))) (oN (inb b (ln e.Guests)) (share (up d.Mons a ({e with Guests:=(up e.Guests b (zu8 i (zn0 d.Memory l (zeM f))))}:Mon)) (fun k=>(some [(aH ({d with Mons:=k}:Host)),(aB true)])))))))))))))))))))
abbrev zBx (x:Guest):Bool:=bif zbR x then ieq (zbi x) 4 else false
def zpn:List AV->Option (Bool×List AV)
 |[.agg [.s .ins c,.i .i64 d,.i .i64 e,.s .slot f,.s .slot g,.i .i64 h,.i .i64 j,.b k,.i .i64 l,.i .i64 m,.i .i64 n,.b o,.i .i64 p,.b q,.s .int r]]=>some ((zBx (⟨c,d,e,f,g,⟨h,j,k⟩,l,⟨m,n,o,p⟩,q,r⟩:Guest)),[.one (.i .i64 4)])
 |_=>none
theorem zFu:vT 340 zpn:=by refine⟨zcp.1,fun w b g j a h=>?_⟩;unfold zpn at h;split at h;{obtain⟨f,rfl⟩:=zeA h;obtain⟨d,e⟩:=zmM f;exact zcp.2 w _ g _ a (congr (congrArg (fun c v=>some (c,[AV.one (CV.i .i64 v)])) d) (qE e))};{cases h}
def zbav:zZ:=[(340,zpn)]++znr
theorem z0D:zN zbav:=zh zFu zhQ
@[simp] abbrev zwz (h:Host)(m g:Int):Bool:=bif zdp h m g then ieq (zbi (gOf h m g)) 4 else false
def zFS:Run:=rF3 dH dI dI fun b c d=>(zwz b c d,[aH (zcL b c d),aB (zcM b c d)])
def zvv (N:Nat)(l:Host)(a b:Int):OA:=
 let c:=(zu l);let n:=(ix c.Mons a zi).Guests;let g:=(ix n b zG);let h:=(zjM g);let f:=(zc4 h);let m:=(zhB c c.Buffer a b f (zfQ true) false);let d:=(zeI c c.Buffer a b f (zfQ true) false);let e:=(ix d.Mons a zi);let j:=(ix e.Guests b zG);let i:=({g with Prog:=j.Prog,Written:=j.Written,Live:=j.Live,Seen:=j.Seen}:Guest); (oN (zV l) (oN (zdp c a b) (cond (nB (zjG c a b)) (some [(aH c),(aB false)]) (oN (inb a (ln c.Mons)) (oN (inb b (ln n)) (oN (zBx g) (oN (zbR g) (oN (zdD h) (oN (ztC true) (oN (zhC c c.Buffer a b f (zfQ true) false) (cond (nB (zfB c c.Buffer a b f (zfQ true) false)) (oN (inb a (ln d.Mons)) (oN (zdD h) (oN (zkB f true) (oN (zeF i (zfy f true)) (oN (inb b (ln e.Guests)) (share (up d.Mons a ({e with Guests:=(up e.Guests b (zd1 i (zfy f true)))}:Mon)) (fun k=>(some [(aH ({d with Mons:=k}:Host)),(aB true)])))))))) (oN (zdD h) (oN (zjA d.Memory m (zeM h) g.A) (oN (inb a (ln d.Mons)) (oN (zbr i) (oN (inb b (ln e.Guests)) (share (up d.Mons a ({e with Guests:=(up e.Guests b (ze0 i))}:Mon)) (fun k=>(some [(aH ({d with Memory:=(zkc d.Memory m (zeM h) g.A),Mons:=k}:Host)),(aB true)])))))))))))))))))))
abbrev zBy (x:Guest):Bool:=bif zbR x then ieq (zbi x) 5 else false
def zpo:List AV->Option (Bool×List AV)
 |[.agg [.s .ins c,.i .i64 d,.i .i64 e,.s .slot f,.s .slot g,.i .i64 h,.i .i64 j,.b k,.i .i64 l,.i .i64 m,.i .i64 n,.b o,.i .i64 p,.b q,.s .int r]]=>some ((zBy (⟨c,d,e,f,g,⟨h,j,k⟩,l,⟨m,n,o,p⟩,q,r⟩:Guest)),[.one (.i .i64 5)])
 |_=>none
theorem zFv:vT 340 zpo:=by refine⟨zcp.1,fun w b g j a h=>?_⟩;unfold zpo at h;split at h;{obtain⟨f,rfl⟩:=zeA h;obtain⟨d,e⟩:=zmM f;exact zcp.2 w _ g _ a (congr (congrArg (fun c v=>some (c,[AV.one (CV.i .i64 v)])) d) (qE e))};{cases h}
def zbaw:zZ:=[(340,zpo)]++znr
theorem z0E:zN zbaw:=zh zFv zhQ
@[simp] abbrev zwA (h:Host)(m g:Int):Bool:=bif zdp h m g then ieq (zbi (gOf h m g)) 5 else false
def zFT:Run:=rF3 dH dI dI fun b c d=>(zwA b c d,[aH (zcL b c d),aB (zcM b c d)])
def zvw (N:Nat)(x:Host)(a e:Int):OA:=
 let d:=(zu x);let f:=(inb a (ln d.Mons));let g:=(ix d.Mons a zi);let j:=(inb e (ln g.Guests));let c:=(ix g.Guests e zG);let w:=(ap g.Outs [(zgn c.Prog c.Pc).X]);let s:=(up d.Mons a ({g with Outs:=w}:Mon));let h:=c.Ctl.Traps;let v:=(up d.Mons a ({g with Guests:=(up g.Guests e (zcn c h 5))}:Mon)); (oN (zV x) (oN (zdp d a e) (cond (nB (zjG d a e)) (some [(aH d),(aB false)]) (oN f (oN j (oN (zBy c) (oN f (oN (zry g.Traps h 1) (cond (ieq (zop g.Traps h 1) 2) (oN f (cond (ilt g.Own 1000000000) (oN f (oN f (share (up d.Mons a ({g with Own:=(zL .i64 g.Own 1)}:Mon)) (fun b=>let k:=(inb a (ln b));let l:=(ix b a zi);let q:=(ix l.Guests e zG);let t:=(ap l.Outs [(zgn q.Prog c.Pc).X]);let u:=({c with Prog:=q.Prog,Written:=q.Written,Live:=q.Live,Seen:=q.Seen}:Guest);let r:=(up b a ({l with Guests:=(up l.Guests e (zcn u h 5))}:Mon)); (oN (zej u h 5) (cond (zdM u h 5) (oN k (cond (ilt (ln l.Outs) 40) (oN k (oN (zf9 q.Prog c.Pc) (oN (few (ln t)) (oN k (oN (cond (ieq a a) true false) (share (up b a ({l with Outs:=t}:Mon)) (fun i=>let m:=(ix i a zi); (oN (inb a (ln i)) (oN (inb e (ln m.Guests)) (share (up i a ({m with Guests:=(up m.Guests e (zcn u h 5))}:Mon)) (fun y=>(some [(aH ({d with Mons:=y}:Host)),(aB true)])))))))))))) (oN k (oN (inb e (ln l.Guests)) (share r (fun i=>(some [(aH ({d with Mons:=i}:Host)),(aB true)]))))))) (oN k (oN (inb e (ln l.Guests)) (share r (fun i=>(some [(aH ({d with Mons:=i}:Host)),(aB true)]))))))))))) (oN (zej c h 5) (cond (zdM c h 5) (oN f (cond (ilt (ln g.Outs) 40) (oN f (oN (zf9 c.Prog c.Pc) (oN (few (ln w)) (oN f (oN (cond (ieq a a) true false) (share s (fun b=>let n:=(ix b a zi); (oN (inb a (ln b)) (oN (inb e (ln n.Guests)) (share (up b a ({n with Guests:=(up n.Guests e (zcn c h 5))}:Mon)) (fun i=>(some [(aH ({d with Mons:=i}:Host)),(aB true)])))))))))))) (oN f (oN j (share v (fun b=>(some [(aH ({d with Mons:=b}:Host)),(aB true)]))))))) (oN f (oN j (share v (fun b=>(some [(aH ({d with Mons:=b}:Host)),(aB true)]))))))))) (oN (zej c h 5) (cond (zdM c h 5) (oN f (cond (ilt (ln g.Outs) 40) (oN f (oN (zf9 c.Prog c.Pc) (oN (few (ln w)) (oN f (oN (cond (ieq a a) true false) (share s (fun b=>let p:=(ix b a zi); (oN (inb a (ln b)) (oN (inb e (ln p.Guests)) (share (up b a ({p with Guests:=(up p.Guests e (zcn c h 5))}:Mon)) (fun i=>(some [(aH ({d with Mons:=i}:Host)),(aB true)])))))))))))) (oN f (oN j (share v (fun b=>(some [(aH ({d with Mons:=b}:Host)),(aB true)]))))))) (oN f (oN j (share v (fun b=>(some [(aH ({d with Mons:=b}:Host)),(aB true)]))))))))))))))))
abbrev zBz (x:Guest):Bool:=bif zbR x then ieq (zbi x) 6 else false
def zpp:List AV->Option (Bool×List AV)
 |[.agg [.s .ins c,.i .i64 d,.i .i64 e,.s .slot f,.s .slot g,.i .i64 h,.i .i64 j,.b k,.i .i64 l,.i .i64 m,.i .i64 n,.b o,.i .i64 p,.b q,.s .int r]]=>some ((zBz (⟨c,d,e,f,g,⟨h,j,k⟩,l,⟨m,n,o,p⟩,q,r⟩:Guest)),[.one (.i .i64 6)])
 |_=>none
theorem zFw:vT 340 zpp:=by refine⟨zcp.1,fun w b g j a h=>?_⟩;unfold zpp at h;split at h;{obtain⟨f,rfl⟩:=zeA h;obtain⟨d,e⟩:=zmM f;exact zcp.2 w _ g _ a (congr (congrArg (fun c v=>some (c,[AV.one (CV.i .i64 v)])) d) (qE e))};{cases h}
def zbax:zZ:=[(340,zpp)]++znr
theorem z0F:zN zbax:=zh zFw zhQ
@[simp] abbrev zwB (h:Host)(m g:Int):Bool:=bif zdp h m g then ieq (zbi (gOf h m g)) 6 else false
def zFU:Run:=rF3 dH dI dI fun b c d=>(zwB b c d,[aH (zcL b c d),aB (zcM b c d)])
def zvx (N:Nat)(i:Host)(c d:Int):OA:=
 let a:=(zu i);let g:=(inb c (ln a.Mons));let e:=(ix a.Mons c zi);let h:=(inb d (ln e.Guests));let b:=(ix e.Guests d zG);let j:=(up a.Mons c ({e with Guests:=(up e.Guests d (zcn b b.Ctl.Traps 6))}:Mon)); (oN (zV i) (oN (zdp a c d) (cond (nB (zjG a c d)) (some [(aH a),(aB false)]) (oN g (oN h (oN (zBz b) (oN (zej b b.Ctl.Traps 6) (cond (zdM b b.Ctl.Traps 6) (oN g (oN h (share j (fun f=>(some [(aH ({a with Mons:=f}:Host)),(aB true)]))))) (oN g (oN h (share j (fun f=>(some [(aH ({a with Mons:=f}:Host)),(aB true)])))))))))))))
abbrev zBA (x:Guest):Bool:=bif zbR x then ieq (zbi x) 7 else false
def zpq:List AV->Option (Bool×List AV)
 |[.agg [.s .ins c,.i .i64 d,.i .i64 e,.s .slot f,.s .slot g,.i .i64 h,.i .i64 j,.b k,.i .i64 l,.i .i64 m,.i .i64 n,.b o,.i .i64 p,.b q,.s .int r]]=>some ((zBA (⟨c,d,e,f,g,⟨h,j,k⟩,l,⟨m,n,o,p⟩,q,r⟩:Guest)),[.one (.i .i64 7)])
 |_=>none
theorem zFx:vT 340 zpq:=by refine⟨zcp.1,fun w b g j a h=>?_⟩;unfold zpq at h;split at h;{obtain⟨f,rfl⟩:=zeA h;obtain⟨d,e⟩:=zmM f;exact zcp.2 w _ g _ a (congr (congrArg (fun c v=>some (c,[AV.one (CV.i .i64 v)])) d) (qE e))};{cases h}
def zbay:zZ:=[(340,zpq)]++znr
theorem z0G:zN zbay:=zh zFx zhQ
@[simp] abbrev zwC (h:Host)(m g:Int):Bool:=bif zdp h m g then ieq (zbi (gOf h m g)) 7 else false
def zFV:Run:=rF3 dH dI dI fun b c d=>(zwC b c d,[aH (zcL b c d),aB (zcM b c d)])
def zvy (N:Nat)(q:Host)(c e:Int):OA:=
 let a:=(zu q);let g:=(inb c (ln a.Mons));let f:=(ix a.Mons c zi);let k:=(inb e (ln f.Guests));let h:=(ix f.Guests e zG);let d:=h.Ctl.Traps;let l:=(up a.Mons c ({f with Guests:=(up f.Guests e (zcn h d 7))}:Mon)); (oN (zV q) (oN (zdp a c e) (cond (nB (zjG a c e)) (some [(aH a),(aB false)]) (oN g (oN k (oN (zBA h) (oN g (oN (zry f.Traps d 2) (cond (ieq (zop f.Traps d 2) 2) (oN g (cond (ilt f.Own 1000000000) (oN g (oN g (share (up a.Mons c ({f with Own:=(zL .i64 f.Own 1)}:Mon)) (fun b=>let j:=(ix b c zi);let m:=(ix j.Guests e zG);let p:=({h with Prog:=m.Prog,Written:=m.Written,Live:=m.Live,Seen:=m.Seen}:Guest);let i:=(up b c ({j with Guests:=(up j.Guests e (zcn p d 7))}:Mon)); (oN (zej p d 7) (cond (zdM p d 7) (oN (inb c (ln b)) (oN (inb e (ln j.Guests)) (share i (fun n=>(some [(aH ({a with Mons:=n}:Host)),(aB true)]))))) (oN (inb c (ln b)) (oN (inb e (ln j.Guests)) (share i (fun n=>(some [(aH ({a with Mons:=n}:Host)),(aB true)]))))))))))) (oN (zej h d 7) (cond (zdM h d 7) (oN g (oN k (share l (fun b=>(some [(aH ({a with Mons:=b}:Host)),(aB true)]))))) (oN g (oN k (share l (fun b=>(some [(aH ({a with Mons:=b}:Host)),(aB true)]))))))))) (oN (zej h d 7) (cond (zdM h d 7) (oN g (oN k (share l (fun b=>(some [(aH ({a with Mons:=b}:Host)),(aB true)]))))) (oN g (oN k (share l (fun b=>(some [(aH ({a with Mons:=b}:Host)),(aB true)]))))))))))))))))
theorem zFD (a:Host)(b c:Int)(e:zwv a b c=true):∃N,zvr N a b c=some [aH (zcL a b c),aB (zcM a b c)]:=by
 obtain⟨e,i⟩:=zmM e;have f:=(zX a).1 (zO.1 e);refine⟨0,?_⟩;show _=some (zgl (zcz a b c));unfold zvr oN nB;conv=>zeta
 refine must (zby ((zX _).2 f)) (must (zby ((zX _).2 f)) (brN (fun d=>?_) (fun d=>?_)));{rw [zmK d];rfl};obtain⟨k,g,h⟩:=zdA d;have l:=zp7 f g h;have j:zbi (gOf a b c)=0:=qE i;rw[zkm d,j];refine must (zF g) (must (zF h) (must (zi5 rfl i) ?_));rfl
theorem zqb:vT 326 zFO:=kF3 z0z zC zca zhN (zq []) zFD
theorem zFE (a:Host)(b c:Int)(g:zww a b c=true):∃N,zvs N a b c=some [aH (zcL a b c),aB (zcM a b c)]:=by
 obtain⟨g,i⟩:=zmM g;have h:=(zX a).1 (zO.1 g);refine⟨0,?_⟩;show _=some (zgl (zcz a b c));unfold zvs oN nB;conv=>zeta
 refine must (zby ((zX _).2 h)) (must (zby ((zX _).2 h)) (brN (fun d=>?_) (fun d=>?_)));{rw [zmK d];rfl};obtain⟨l,e,f⟩:=zdA d;have k:=zp7 h e f;have j:zbi (gOf a b c)=1:=qE i;rw[zkm d,j];refine must (zF e) (must (zF f) (must (zi5 rfl i) ?_));show _=some (zgl (zlG a b c (interrupted (gOf a b c)),true));exact must (zF e) (must (zby k) (must (zF f) rfl))
theorem zBK:vT 326 zFP:=kF3 z0A zC zca zhN (zq []) zFE
theorem zFF (a:Host)(b c:Int)(g:zwx a b c=true):∃N,zvt N a b c=some [aH (zcL a b c),aB (zcM a b c)]:=by
 obtain⟨g,i⟩:=zmM g;have h:=(zX a).1 (zO.1 g);refine⟨0,?_⟩;show _=some (zgl (zcz a b c));unfold zvt oN nB;conv=>zeta
 refine must (zby ((zX _).2 h)) (must (zby ((zX _).2 h)) (brN (fun d=>?_) (fun d=>?_)));{rw [zmK d];rfl};obtain⟨l,e,f⟩:=zdA d;have k:=zp7 h e f;have j:zbi (gOf a b c)=2:=qE i;rw[zkm d,j];refine must (zF e) (must (zF f) (must (zi5 rfl i) ?_));show _=some (zgl (zlG a b c (plainly (gOf a b c)),true));exact must (zF e) (must (zby k) (must (zF f) rfl))
theorem zBL:vT 326 zFQ:=kF3 z0B zC zca zhN (zq []) zFF
theorem zFG (a:Host)(c d:Int)(j:zwy a c d=true):∃N,zvu N a c d=some [aH (zcL a c d),aB (zcM a c d)]:=by
 obtain⟨j,m⟩:=zmM j;have f:=(zX a).1 (zO.1 j);refine⟨0,?_⟩;show _=some (zgl (zcz a c d));unfold zvu oN nB;conv=>zeta
 refine must (zby ((zX _).2 f)) (must (zby ((zX _).2 f)) (brN (fun e=>?_) (fun e=>?_)));{rw [zmK e];rfl};obtain⟨r,g,i⟩:=zdA e;have n:=zp7 f g i;have q:zbi (gOf a c d)=3:=qE m;rw[zkm e,q];refine must (zF g) (must (zF i) (must (zi5 rfl m) ?_));show _=some (zgl (zko (znv a c d (gOf a c d) false) c d (gOf a c d) false,true));have k:=zx2 (b:=a.Buffer) (page:=zbp (address (gOf a c d))) (need:=zcg false) (io:=false) f e;have F:=znu k g i;have p:(ix (ix (zeI (zu a) (zu a).Buffer c d (zc4 (zjM (ix (ix (zu a).Mons c zi).Guests d zG))) (zfQ false) false).Mons c zi).Guests d zG)=(ix (ix (zu a).Mons c zi).Guests d zG):=congrArg (fun l=>ix l d gZ) (zK7 k.gs c);rw[p];unfold zko;refine must rfl (must rfl (must rfl (must (zby ((zX _).2 f)) (brN (fun h=>?_) (fun h=>?_)))));{rw [show (znv a c d (gOf a c d) false).2.2=false from h];exact must (zF F.hm) (must rfl (must rfl (must (zby n) (must (zF F.hg) rfl))))};{rw [show (znv a c d (gOf a c d) false).2.2=true from h];exact must (zF F.hm) (must rfl (must rfl (must (zby n) (must (zF F.hg) rfl))))}
theorem zBM:vT 326 zFR:=kF3 z0C zC zca zhN (zq []) zFG
theorem zFH (a:Host)(c d:Int)(j:zwz a c d=true):∃N,zvv N a c d=some [aH (zcL a c d),aB (zcM a c d)]:=by
 obtain⟨j,m⟩:=zmM j;have f:=(zX a).1 (zO.1 j);refine⟨0,?_⟩;show _=some (zgl (zcz a c d));unfold zvv oN nB;conv=>zeta
 refine must (zby ((zX _).2 f)) (must (zby ((zX _).2 f)) (brN (fun e=>?_) (fun e=>?_)));{rw [zmK e];rfl};obtain⟨r,g,i⟩:=zdA e;have n:=zp7 f g i;have q:zbi (gOf a c d)=4:=qE m;rw[zkm e,q];refine must (zF g) (must (zF i) (must (zi5 rfl m) ?_));show _=some (zgl (zko (znv a c d (gOf a c d) true) c d (gOf a c d) true,true));have k:=zx2 (b:=a.Buffer) (page:=zbp (address (gOf a c d))) (need:=zcg true) (io:=false) f e;have F:=znu k g i;have p:(ix (ix (zeI (zu a) (zu a).Buffer c d (zc4 (zjM (ix (ix (zu a).Mons c zi).Guests d zG))) (zfQ true) false).Mons c zi).Guests d zG)=(ix (ix (zu a).Mons c zi).Guests d zG):=congrArg (fun l=>ix l d gZ) (zK7 k.gs c);rw[p];unfold zko;refine must rfl (must rfl (must rfl (must (zby ((zX _).2 f)) (brN (fun h=>?_) (fun h=>?_)))));{rw [show (znv a c d (gOf a c d) true).2.2=false from h];exact must (zF F.hm) (must rfl (must rfl (must (zby n) (must (zF F.hg) rfl))))};{rw [show (znv a c d (gOf a c d) true).2.2=true from h];exact must rfl (must (zby k.shape.1.1) (must (zF F.hm) (must (zby n) (must (zF F.hg) rfl))))}
theorem zBN:vT 326 zFS:=kF3 z0D zC zca zhN (zq []) zFH
theorem z9m {c:Host}{a d:Int}(k:SmG (gOf c a d))(f:hasB a (ln c.Mons)=true)(i:hasB d (ln (ix c.Mons a mZ).Guests)=true) :
 (cond (zej (ix (ix (zu c).Mons a zi).Guests d zG) (ix (ix (zu c).Mons a zi).Guests d zG).Ctl.Traps 5) (cond (zdM (ix (ix (zu c).Mons a zi).Guests d zG) (ix (ix (zu c).Mons a zi).Guests d zG).Ctl.Traps 5) (cond (inb a (ln (zu c).Mons)) (cond (ilt (ln (ix (zu c).Mons a zi).Outs) 40) (cond (inb a (ln (zu c).Mons)) (cond (zf9 (ix (ix (zu c).Mons a zi).Guests d zG).Prog (ix (ix (zu c).Mons a zi).Guests d zG).Pc) (cond (few (ln (ap (ix (zu c).Mons a zi).Outs [(zgn (ix (ix (zu c).Mons a zi).Guests d zG).Prog (ix (ix (zu c).Mons a zi).Guests d zG).Pc).X]))) (cond (inb a (ln (zu c).Mons)) (cond (cond (ieq a a) true false) (share (up (zu c).Mons a ({ (ix (zu c).Mons a zi) with Outs:=(ap (ix (zu c).Mons a zi).Outs [(zgn (ix (ix (zu c).Mons a zi).Guests d zG).Prog (ix (ix (zu c).Mons a zi).Guests d zG).Pc).X])}:Mon)) (fun e=>(cond (inb a (ln e)) (cond (inb d (ln (ix e a zi).Guests)) (share (up e a ({ (ix e a zi) with Guests:=(up (ix e a zi).Guests d (zcn (ix (ix (zu c).Mons a zi).Guests d zG) (ix (ix (zu c).Mons a zi).Guests d zG).Ctl.Traps 5))}:Mon)) (fun l=>(some [(.agg (zbq ({ (zu c) with Mons:=l}:Host))),(.one (.b true))]))) none) none))) none) none) none) none) none) (cond (inb a (ln (zu c).Mons)) (cond (inb d (ln (ix (zu c).Mons a zi).Guests)) (share (up (zu c).Mons a ({ (ix (zu c).Mons a zi) with Guests:=(up (ix (zu c).Mons a zi).Guests d (zcn (ix (ix (zu c).Mons a zi).Guests d zG) (ix (ix (zu c).Mons a zi).Guests d zG).Ctl.Traps 5))}:Mon)) (fun e=>(some [(.agg (zbq ({ (zu c) with Mons:=e}:Host))),(.one (.b true))]))) none) none)) none) (cond (inb a (ln (zu c).Mons)) (cond (inb d (ln (ix (zu c).Mons a zi).Guests)) (share (up (zu c).Mons a ({ (ix (zu c).Mons a zi) with Guests:=(up (ix (zu c).Mons a zi).Guests d (zcn (ix (ix (zu c).Mons a zi).Guests d zG) (ix (ix (zu c).Mons a zi).Guests d zG).Ctl.Traps 5))}:Mon)) (fun e=>(some [(.agg (zbq ({ (zu c) with Mons:=e}:Host))),(.one (.b true))]))) none) none)) none)=some (zgl (zlG (zg2 c a (gOf c a d) 5) a d (zkp (gOf c a d) (gOf c a d).Ctl.Traps 5),true)):=by
 refine must (zby k) (br (fun j=>must (zF f) (br (fun g=>?_) (fun g=>?_))) (fun j=>?_))
 .rw [zW6 (h:=c) (m:=a) (x:=gOf c a d) (w:=5) j rfl g];refine must (zF f) (must rfl (must (z9l g) (must (zF f) (must (z3O _) (shr (must (zF (ze2 f)) (must ?_ rfl)))))));rw[zMu f];exact zF i
 .rw [zRH (h:=c) (m:=a) (x:=gOf c a d) (w:=5) g];exact must (zF f) (must (zF i) rfl)
 .rw [z5s (h:=c) (m:=a) (x:=gOf c a d) (w:=5) j];exact must (zF f) (must (zF i) rfl)
theorem zbcN {f:Host}{d:List Mon}{a c:Int}(n:SmG (gOf f a c))(i:hasB a (ln d)=true)(k:hasB c (ln (ix d a mZ).Guests)=true)(e:(ix (ix d a zi).Guests c zG)=gOf f a c) :
 (cond (zej ({ (ix (ix (zu f).Mons a zi).Guests c zG) with Prog:=(ix (ix d a zi).Guests c zG).Prog,Written:=(ix (ix d a zi).Guests c zG).Written,Live:=(ix (ix d a zi).Guests c zG).Live,Seen:=(ix (ix d a zi).Guests c zG).Seen}:Guest) (ix (ix (zu f).Mons a zi).Guests c zG).Ctl.Traps 5) (cond (zdM ({ (ix (ix (zu f).Mons a zi).Guests c zG) with Prog:=(ix (ix d a zi).Guests c zG).Prog,Written:=(ix (ix d a zi).Guests c zG).Written,Live:=(ix (ix d a zi).Guests c zG).Live,Seen:=(ix (ix d a zi).Guests c zG).Seen}:Guest) (ix (ix (zu f).Mons a zi).Guests c zG).Ctl.Traps 5) (cond (inb a (ln d)) (cond (ilt (ln (ix d a zi).Outs) 40) (cond (inb a (ln d)) (cond (zf9 (ix (ix d a zi).Guests c zG).Prog (ix (ix (zu f).Mons a zi).Guests c zG).Pc) (cond (few (ln (ap (ix d a zi).Outs [(zgn (ix (ix d a zi).Guests c zG).Prog (ix (ix (zu f).Mons a zi).Guests c zG).Pc).X]))) (cond (inb a (ln d)) (cond (cond (ieq a a) true false) (share (up d a ({ (ix d a zi) with Outs:=(ap (ix d a zi).Outs [(zgn (ix (ix d a zi).Guests c zG).Prog (ix (ix (zu f).Mons a zi).Guests c zG).Pc).X])}:Mon)) (fun g=>(cond (inb a (ln g)) (cond (inb c (ln (ix g a zi).Guests)) (share (up g a ({ (ix g a zi) with Guests:=(up (ix g a zi).Guests c (zcn ({ (ix (ix (zu f).Mons a zi).Guests c zG) with Prog:=(ix (ix d a zi).Guests c zG).Prog,Written:=(ix (ix d a zi).Guests c zG).Written,Live:=(ix (ix d a zi).Guests c zG).Live,Seen:=(ix (ix d a zi).Guests c zG).Seen}:Guest) (ix (ix (zu f).Mons a zi).Guests c zG).Ctl.Traps 5))}:Mon)) (fun p=>(some [(.agg (zbq ({ (zu f) with Mons:=p}:Host))),(.one (.b true))]))) none) none))) none) none) none) none) none) (cond (inb a (ln d)) (cond (inb c (ln (ix d a zi).Guests)) (share (up d a ({ (ix d a zi) with Guests:=(up (ix d a zi).Guests c (zcn ({ (ix (ix (zu f).Mons a zi).Guests c zG) with Prog:=(ix (ix d a zi).Guests c zG).Prog,Written:=(ix (ix d a zi).Guests c zG).Written,Live:=(ix (ix d a zi).Guests c zG).Live,Seen:=(ix (ix d a zi).Guests c zG).Seen}:Guest) (ix (ix (zu f).Mons a zi).Guests c zG).Ctl.Traps 5))}:Mon)) (fun g=>(some [(.agg (zbq ({ (zu f) with Mons:=g}:Host))),(.one (.b true))]))) none) none)) none) (cond (inb a (ln d)) (cond (inb c (ln (ix d a zi).Guests)) (share (up d a ({ (ix d a zi) with Guests:=(up (ix d a zi).Guests c (zcn ({ (ix (ix (zu f).Mons a zi).Guests c zG) with Prog:=(ix (ix d a zi).Guests c zG).Prog,Written:=(ix (ix d a zi).Guests c zG).Written,Live:=(ix (ix d a zi).Guests c zG).Live,Seen:=(ix (ix d a zi).Guests c zG).Seen}:Guest) (ix (ix (zu f).Mons a zi).Guests c zG).Ctl.Traps 5))}:Mon)) (fun g=>(some [(.agg (zbq ({ (zu f) with Mons:=g}:Host))),(.one (.b true))]))) none) none)) none)=some (zgl (zlG (zg2 {f with Mons:=d} a (gOf f a c) 5) a c (zkp (gOf f a c) (gOf f a c).Ctl.Traps 5),true)):=by
 rw[e];refine must (zby n) (br (fun l=>must (zF i) (br (fun j=>?_) (fun j=>?_))) (fun l=>?_))
 .rw [zW6 (h:={f with Mons:=d}) (m:=a) (x:=gOf f a c) (w:=5) l rfl j];refine must (zF i) (must rfl (must (z9l j) (must (zF i) (must (z3O _) (shr (must (zF (ze2 (h:={f with Mons:=d}) i)) (must ?_ rfl)))))));rw[zMu (h:={f with Mons:=d}) i];exact zF k
 .rw [zRH (h:={f with Mons:=d}) (m:=a) (x:=gOf f a c) (w:=5) j];exact must (zF i) (must (zF k) rfl)
 .rw [z5s (h:={f with Mons:=d}) (m:=a) (x:=gOf f a c) (w:=5) l];exact must (zF i) (must (zF k) rfl)
theorem zFI (b:Host)(a c:Int)(j:zwA b a c=true):∃N,zvw N b a c=some [aH (zcL b a c),aB (zcM b a c)]:=by
 obtain⟨j,p⟩:=zmM j;have k:=(zX b).1 (zO.1 j);refine⟨0,?_⟩;show _=some (zgl (zcz b a c));unfold zvw oN nB;conv=>zeta
 refine must (zby ((zX _).2 k)) (must (zby ((zX _).2 k)) (brN (fun f=>?_) (fun f=>?_)));{rw [zmK f];rfl};obtain⟨r,d,e⟩:=zdA f;have l:=zp7 k d e;have q:zbi (gOf b a c)=5:=qE p;rw[zkm f,q];refine must (zF d) (must (zF e) (must (zi5 rfl p) ?_));show _=some (zgl (zwO b a c (gOf b a c) 5,true));refine must (zF d) (must rfl (br (fun g=>must (zF d) (br (fun i=>must (zF d) (must (zF d) (shr ?_))) (fun i=>?_))) (fun g=>?_)));{rw [zob (zZ8 (h:=b) (m:=a) (x:=gOf b a c) (w:=5) rfl g i)];have n:=zMu d {ix b.Mons a mZ with Own:=zL .i64 (ix b.Mons a mZ).Own 1};refine zbcN l (ze2 d) ?_ ?_;{show hasB c (ln (ix (up b.Mons a _) a mZ).Guests)=true;rw[n];exact e};{show ix (ix (up b.Mons a _) a mZ).Guests c gZ=_;rw[n];rfl}};{rw [zob (zZ7 (h:=b) (m:=a) (x:=gOf b a c) (w:=5) i)];exact z9m l d e};{rw [zob (zZ6 (h:=b) (m:=a) (x:=gOf b a c) (w:=5) g)];exact z9m l d e}
theorem zBO:vT 326 zFT:=kF3 z0E zC zca zhN (zq []) zFI
theorem zFJ (a:Host)(b c:Int)(g:zwB a b c=true):∃N,zvx N a b c=some [aH (zcL a b c),aB (zcM a b c)]:=by
 obtain⟨g,j⟩:=zmM g;have i:=(zX a).1 (zO.1 g);refine⟨0,?_⟩;show _=some (zgl (zcz a b c));unfold zvx oN nB;conv=>zeta
 refine must (zby ((zX _).2 i)) (must (zby ((zX _).2 i)) (brN (fun f=>?_) (fun f=>?_)));{rw [zmK f];rfl};obtain⟨p,d,e⟩:=zdA f;have n:=zp7 i d e;have l:zbi (gOf a b c)=6:=qE j;rw[zkm f,l];refine must (zF d) (must (zF e) (must (zi5 rfl j) ?_));show _=some (zgl (zwO a b c (gOf a b c) 6,true));rw[zob (zbbt (h:=a) (m:=b) (x:=gOf a b c)),zNh (w:=6) rfl];exact must (zby n) (br (fun k=>must (zF d) (must (zF e) rfl)) (fun k=>must (zF d) (must (zF e) rfl)))
theorem zBP:vT 326 zFU:=kF3 z0F zC zca zhN (zq []) zFJ
theorem z9n {a:Host}{c d:Int}(i:SmG (gOf a c d))(f:hasB c (ln a.Mons)=true)(g:hasB d (ln (ix a.Mons c mZ).Guests)=true) :
 (cond (zej (ix (ix (zu a).Mons c zi).Guests d zG) (ix (ix (zu a).Mons c zi).Guests d zG).Ctl.Traps 7) (cond (zdM (ix (ix (zu a).Mons c zi).Guests d zG) (ix (ix (zu a).Mons c zi).Guests d zG).Ctl.Traps 7) (cond (inb c (ln (zu a).Mons)) (cond (inb d (ln (ix (zu a).Mons c zi).Guests)) (share (up (zu a).Mons c ({ (ix (zu a).Mons c zi) with Guests:=(up (ix (zu a).Mons c zi).Guests d (zcn (ix (ix (zu a).Mons c zi).Guests d zG) (ix (ix (zu a).Mons c zi).Guests d zG).Ctl.Traps 7))}:Mon)) (fun e=>(some [(.agg (zbq ({ (zu a) with Mons:=e}:Host))),(.one (.b true))]))) none) none) (cond (inb c (ln (zu a).Mons)) (cond (inb d (ln (ix (zu a).Mons c zi).Guests)) (share (up (zu a).Mons c ({ (ix (zu a).Mons c zi) with Guests:=(up (ix (zu a).Mons c zi).Guests d (zcn (ix (ix (zu a).Mons c zi).Guests d zG) (ix (ix (zu a).Mons c zi).Guests d zG).Ctl.Traps 7))}:Mon)) (fun e=>(some [(.agg (zbq ({ (zu a) with Mons:=e}:Host))),(.one (.b true))]))) none) none)) none)=some (zgl (zlG a c d (zkp (gOf a c d) (gOf a c d).Ctl.Traps 7),true)):=
 must (zby i) (br (fun h=>must (zF f) (must (zF g) rfl)) (fun h=>must (zF f) (must (zF g) rfl)))
theorem zbcO {f:Host}{d:List Mon}{a c:Int}(k:SmG (gOf f a c))(h:hasB a (ln d)=true)(i:hasB c (ln (ix d a mZ).Guests)=true)(e:(ix (ix d a zi).Guests c zG)=gOf f a c) :
 (cond (zej ({ (ix (ix (zu f).Mons a zi).Guests c zG) with Prog:=(ix (ix d a zi).Guests c zG).Prog,Written:=(ix (ix d a zi).Guests c zG).Written,Live:=(ix (ix d a zi).Guests c zG).Live,Seen:=(ix (ix d a zi).Guests c zG).Seen}:Guest) (ix (ix (zu f).Mons a zi).Guests c zG).Ctl.Traps 7) (cond (zdM ({ (ix (ix (zu f).Mons a zi).Guests c zG) with Prog:=(ix (ix d a zi).Guests c zG).Prog,Written:=(ix (ix d a zi).Guests c zG).Written,Live:=(ix (ix d a zi).Guests c zG).Live,Seen:=(ix (ix d a zi).Guests c zG).Seen}:Guest) (ix (ix (zu f).Mons a zi).Guests c zG).Ctl.Traps 7) (cond (inb a (ln d)) (cond (inb c (ln (ix d a zi).Guests)) (share (up d a ({ (ix d a zi) with Guests:=(up (ix d a zi).Guests c (zcn ({ (ix (ix (zu f).Mons a zi).Guests c zG) with Prog:=(ix (ix d a zi).Guests c zG).Prog,Written:=(ix (ix d a zi).Guests c zG).Written,Live:=(ix (ix d a zi).Guests c zG).Live,Seen:=(ix (ix d a zi).Guests c zG).Seen}:Guest) (ix (ix (zu f).Mons a zi).Guests c zG).Ctl.Traps 7))}:Mon)) (fun g=>(some [(.agg (zbq ({ (zu f) with Mons:=g}:Host))),(.one (.b true))]))) none) none) (cond (inb a (ln d)) (cond (inb c (ln (ix d a zi).Guests)) (share (up d a ({ (ix d a zi) with Guests:=(up (ix d a zi).Guests c (zcn ({ (ix (ix (zu f).Mons a zi).Guests c zG) with Prog:=(ix (ix d a zi).Guests c zG).Prog,Written:=(ix (ix d a zi).Guests c zG).Written,Live:=(ix (ix d a zi).Guests c zG).Live,Seen:=(ix (ix d a zi).Guests c zG).Seen}:Guest) (ix (ix (zu f).Mons a zi).Guests c zG).Ctl.Traps 7))}:Mon)) (fun g=>(some [(.agg (zbq ({ (zu f) with Mons:=g}:Host))),(.one (.b true))]))) none) none)) none)=some (zgl (zlG {f with Mons:=d} a c (zkp (gOf f a c) (gOf f a c).Ctl.Traps 7),true)):=by
 rw[e];exact must (zby k) (br (fun j=>must (zF h) (must (zF i) rfl)) (fun j=>must (zF h) (must (zF i) rfl)))
theorem zFK (b:Host)(a c:Int)(j:zwC b a c=true):∃N,zvy N b a c=some [aH (zcL b a c),aB (zcM b a c)]:=by
 obtain⟨j,p⟩:=zmM j;have k:=(zX b).1 (zO.1 j);refine⟨0,?_⟩;show _=some (zgl (zcz b a c));unfold zvy oN nB;conv=>zeta
 refine must (zby ((zX _).2 k)) (must (zby ((zX _).2 k)) (brN (fun f=>?_) (fun f=>?_)));{rw [zmK f];rfl};obtain⟨r,d,e⟩:=zdA f;have l:=zp7 k d e;have q:zbi (gOf b a c)=7:=qE p;rw[zkm f,q];refine must (zF d) (must (zF e) (must (zi5 rfl p) ?_));show _=some (zgl (zwO b a c (gOf b a c) 7,true));refine must (zF d) (must rfl (br (fun g=>must (zF d) (br (fun i=>must (zF d) (must (zF d) (shr ?_))) (fun i=>?_))) (fun g=>?_)));{rw [zob (zZ8 (h:=b) (m:=a) (x:=gOf b a c) (w:=7) rfl g i),zNh (w:=7) rfl];have n:=zMu d {ix b.Mons a mZ with Own:=zL .i64 (ix b.Mons a mZ).Own 1};refine zbcO l (ze2 d) ?_ ?_;{show hasB c (ln (ix (up b.Mons a _) a mZ).Guests)=true;rw[n];exact e};{show ix (ix (up b.Mons a _) a mZ).Guests c gZ=_;rw[n];rfl}};{rw [zob (zZ7 (h:=b) (m:=a) (x:=gOf b a c) (w:=7) i),zNh (w:=7) rfl];exact z9n l d e};{rw [zob (zZ6 (h:=b) (m:=a) (x:=gOf b a c) (w:=7) g),zNh (w:=7) rfl];exact z9n l d e}
theorem zBQ:vT 326 zFV:=kF3 z0G zC zca zhN (zq []) zFK
def zqI:List AV->Option (Bool×List AV)
 |[.agg [.s (.sl .int) b,.s .mon c,.s .entry d,.s .entry e],.one (.i .i64 f),.one (.i .i64 g)]=>some ((zdp (⟨b,c,d,e⟩:Host) f g),[aH (zcL (⟨b,c,d,e⟩:Host) f g),aB (zcM (⟨b,c,d,e⟩:Host) f g)])
 |_=>none
theorem zIv:vT 326 zqI:=by refine⟨zqb.1,fun w m l n g h=>?_⟩;unfold zqI at h;split at h;{rename_i a b d f i j;obtain⟨k,rfl⟩:=zeA h;rcases z7O (gOf (⟨a,b,d,f⟩:Host) i j) with e|e|e|e|e|e|e|e;{exact zqb.2 w _ l _ g (congrArg (fun c=>some (c,zgl (zcz (⟨a,b,d,f⟩:Host) i j))) (zi5 k e))};{exact zBK.2 w _ l _ g (congrArg (fun c=>some (c,zgl (zcz (⟨a,b,d,f⟩:Host) i j))) (zi5 k e))};{exact zBL.2 w _ l _ g (congrArg (fun c=>some (c,zgl (zcz (⟨a,b,d,f⟩:Host) i j))) (zi5 k e))};{exact zBM.2 w _ l _ g (congrArg (fun c=>some (c,zgl (zcz (⟨a,b,d,f⟩:Host) i j))) (zi5 k e))};{exact zBN.2 w _ l _ g (congrArg (fun c=>some (c,zgl (zcz (⟨a,b,d,f⟩:Host) i j))) (zi5 k e))};{exact zBO.2 w _ l _ g (congrArg (fun c=>some (c,zgl (zcz (⟨a,b,d,f⟩:Host) i j))) (zi5 k e))};{exact zBP.2 w _ l _ g (congrArg (fun c=>some (c,zgl (zcz (⟨a,b,d,f⟩:Host) i j))) (zi5 k e))};{exact zBQ.2 w _ l _ g (congrArg (fun c=>some (c,zgl (zcz (⟨a,b,d,f⟩:Host) i j))) (zi5 k e))}};{cases h}
@[simp] abbrev ztm (h:Host)(m g b a:Int)(c:Bool):Bool:=pc (zcY h)
@[simp] abbrev ztj (h:Host)(m g b a:Int)(c:Bool):Host:=(lookOf h (zth h c) m g b a c).1
@[simp] abbrev ztk (h:Host)(m g b a:Int)(c:Bool):Int:=(lookOf h (zth h c) m g b a c).2.1
@[simp] abbrev ztl (h:Host)(m g b a:Int)(c:Bool):Bool:=(lookOf h (zth h c) m g b a c).2.2
def zDK:Run:=rF6 dH dI dI dI dI dB fun b c d e f g=>(ztm b c d e f g,[aH (ztj b c d e f g),aI (ztk b c d e f g),aB (ztl b c d e f g)])
abbrev zTI (b:lM)(c:lN)(d:lE)(e:lE)(a:Int)(g:Int)(f:Int):Mon :=
 (ix (zgW (⟨b,c,d,e⟩:Host) a g f).Mons a zi)
def zss (N:Nat)(d:Int)(e:Int)(b:Int)(f:Int)(g:lM)(h:lN)(c:lE)(a:lE):OA:=
 let i:=(⟨e,d,b,f⟩:Entry); (oN (zgT a i) (some [(aH (⟨g,h,c,(zgA a i)⟩:Host)),(aI b),(aB true)]))
def zt2 (N:Nat)(d:lM)(e:lN)(f:lE)(g:lE)(b:Int)(i:Int)(h:Int)(a:Int)(c:Int)(s:((Int×(Int×(Int×(Int×(lM×(lN×(lE×(lE×(lM×(lN×(lE×(lE×Unit)))))))))))))->OA)(k:Int)(l:lM)(m:lN)(n:lE)(p:lE):OA:=
 let x:=(⟨d,e,f,g⟩:Host);let r:=(zgW x b i h);let j:=(zTI d e f g b i h);let w:=(ix j.Tables a zcN);let u:=(ix j.Guests a zG).Live; (oN (zhz x b i h) (oN (inb b (ln r.Mons)) (oN (inb a (ln j.Tables)) (oN (inb a (ln j.Guests)) (oN (zuZ w u j.Outer c) (oN (inb a (ln j.Tables)) (share (up r.Mons b ({j with Tables:=(up j.Tables a (zuY w u j.Outer c))}:Mon)) (fun q=>let v:=(ix q b zi).Tables;let t:=(ix v a zcN); (oN (inb a (ln v)) (oN (zx0 t c) (s (c,(k,((zik t c).Page,((zik t c).Rights,(l,(m,(n,(p,(r.Memory,(q,(r.Buffer,(r.IoBuffer,())))))))))))))))))))))))
def zoz (N:Nat)(a:lN)(g:Int)(h:Int)(b:Int)(c:lM)(d:lE)(e:lE)(p:Int)(f:Int)(n:((Int×(Int×(Int×(Int×(lM×(lN×(lE×(lE×(lM×(lN×(lE×(lE×Unit)))))))))))))->OA)(i:Int)(j:lM)(k:lN)(l:lE)(m:lE):OA:=
 let r:=(zt2 N c a d e g p f h b n i j k l m);let s:=(ix (ix a g zi).Tables h zcN);let q:=(zik s b); (cond (nB (zoo s b)) r (cond (ieq q.Page (-1)) r (oN (zbQ q.Rights f) (cond (nB (zcO q.Rights f)) r (n (b,(i,(q.Page,(q.Rights,(j,(k,(l,(m,(c,(a,(d,(e,())))))))))))))))))
def zst (N:Nat)(c:Int)(d:Int)(e:Int)(i:Int)(j:Int)(k:Int)(l:lM)(m:lN)(n:lE)(p:lE)(f:lM)(b:lN)(g:lE)(h:lE):OA:=
 let r:=(ix b c zi).Tables; (oN (inb c (ln b)) (oN (inb d (ln r)) (oN (zx0 (ix r d zcN) e) (share (fun (a:(Int×(Int×(Int×(Int×(lM×(lN×(lE×(lE×(lM×(lN×(lE×(lE×Unit)))))))))))))=>(zss N a.1 a.2.1 a.2.2.1 a.2.2.2.1 a.2.2.2.2.2.2.2.2.1 a.2.2.2.2.2.2.2.2.2.1 a.2.2.2.2.2.2.2.2.2.2.1 a.2.2.2.2.2.2.2.2.2.2.2.1)) (fun q=>(zoz N b c d e f g h j i q k l m n p))))))
def zsu (N:Nat)(d:Int)(e:Int)(b:Int)(f:Int)(g:lM)(h:lN)(a:lE)(c:lE):OA:=
 let i:=(⟨e,d,b,f⟩:Entry); (oN (zgT a i) (some [(aH (⟨g,h,(zgA a i),c⟩:Host)),(aI b),(aB true)]))
def zsv (N:Nat)(c:Int)(d:Int)(e:Int)(i:Int)(j:Int)(k:Int)(l:lM)(m:lN)(n:lE)(p:lE)(f:lM)(b:lN)(g:lE)(h:lE):OA:=
 let r:=(ix b c zi).Tables; (oN (inb c (ln b)) (oN (inb d (ln r)) (oN (zx0 (ix r d zcN) e) (share (fun (a:(Int×(Int×(Int×(Int×(lM×(lN×(lE×(lE×(lM×(lN×(lE×(lE×Unit)))))))))))))=>(zsu N a.1 a.2.1 a.2.2.1 a.2.2.2.1 a.2.2.2.2.2.2.2.2.1 a.2.2.2.2.2.2.2.2.2.1 a.2.2.2.2.2.2.2.2.2.2.1 a.2.2.2.2.2.2.2.2.2.2.2.1)) (fun q=>(zoz N b c d e f g h j i q k l m n p))))))
def zsw (N:Nat)(f:Int)(g:Int)(c:Int)(e:Int)(r:Bool)(j:Int)(k:lM)(l:lN)(m:lE)(n:lE)(h:lM)(i:lN)(a:lE)(b:lE):OA:=
 let u:=(aH (⟨h,i,a,b⟩:Host));let p:=(zkT f g);let t:=(zf8 a p c);let s:=(zf8 b p c); (cond r (oN (zhw f g) (share (fun (d:(Int×(Int×(Int×(Int×(Int×(Int×(lM×(lN×(lE×(lE×(lM×(lN×(lE×(lE×Unit)))))))))))))))=>(zst N d.1 d.2.1 d.2.2.1 d.2.2.2.1 d.2.2.2.2.1 d.2.2.2.2.2.1 d.2.2.2.2.2.2.1 d.2.2.2.2.2.2.2.1 d.2.2.2.2.2.2.2.2.1 d.2.2.2.2.2.2.2.2.2.1 d.2.2.2.2.2.2.2.2.2.2.1 d.2.2.2.2.2.2.2.2.2.2.2.1 d.2.2.2.2.2.2.2.2.2.2.2.2.1 d.2.2.2.2.2.2.2.2.2.2.2.2.2.1)) (fun q=>(oN (zg9 b p c) (cond (zfe b p c) (oN (zbQ s.Rights e) (cond (zcO s.Rights e) (some [u,(aI s.Host),(aB true)]) (q (f,(g,(c,(e,(j,(p,(k,(l,(m,(n,(h,(i,(a,(b,()))))))))))))))))) (q (f,(g,(c,(e,(j,(p,(k,(l,(m,(n,(h,(i,(a,(b,())))))))))))))))))))) (oN (zhw f g) (share (fun (d:(Int×(Int×(Int×(Int×(Int×(Int×(lM×(lN×(lE×(lE×(lM×(lN×(lE×(lE×Unit)))))))))))))))=>(zsv N d.1 d.2.1 d.2.2.1 d.2.2.2.1 d.2.2.2.2.1 d.2.2.2.2.2.1 d.2.2.2.2.2.2.1 d.2.2.2.2.2.2.2.1 d.2.2.2.2.2.2.2.2.1 d.2.2.2.2.2.2.2.2.2.1 d.2.2.2.2.2.2.2.2.2.2.1 d.2.2.2.2.2.2.2.2.2.2.2.1 d.2.2.2.2.2.2.2.2.2.2.2.2.1 d.2.2.2.2.2.2.2.2.2.2.2.2.2.1)) (fun q=>(oN (zg9 a p c) (cond (zfe a p c) (oN (zbQ t.Rights e) (cond (zcO t.Rights e) (some [u,(aI t.Host),(aB true)]) (q (f,(g,(c,(e,(j,(p,(k,(l,(m,(n,(h,(i,(a,(b,()))))))))))))))))) (q (f,(g,(c,(e,(j,(p,(k,(l,(m,(n,(h,(i,(a,(b,())))))))))))))))))))))
def zsx (N:Nat)(c:Int)(i:Int)(d:Int)(b:Int)(m:Bool)(n:lM)(p:lN)(j:lE)(k:lE)(e:lM)(a:lN)(f:lE)(g:lE)(l:lG):OA:=
 let s:=(ix a c zi);let r:=(ix l i zG).Live;let q:=(ze9 r d b); (oN (inb i (ln l)) (oN (zkt r d b) (cond (nB (zfa r d b)) (some [(aH (⟨e,a,f,g⟩:Host)),(aI (-1)),(aB false)]) (share (fun (h:(Int×(Int×(Int×(Int×(Bool×(Int×(lM×(lN×(lE×(lE×(lM×(lN×(lE×(lE×Unit)))))))))))))))=>(zsw N h.1 h.2.1 h.2.2.1 h.2.2.2.1 h.2.2.2.2.1 h.2.2.2.2.2.1 h.2.2.2.2.2.2.1 h.2.2.2.2.2.2.2.1 h.2.2.2.2.2.2.2.2.1 h.2.2.2.2.2.2.2.2.2.1 h.2.2.2.2.2.2.2.2.2.2.1 h.2.2.2.2.2.2.2.2.2.2.2.1 h.2.2.2.2.2.2.2.2.2.2.2.2.1 h.2.2.2.2.2.2.2.2.2.2.2.2.2.1)) (fun t=>(cond (ieq b 2) (oN (inb c (ln a)) (oN (inb q (ln s.Dirty)) (share (up a c ({s with Dirty:=(up s.Dirty q true)}:Mon)) (fun u=>t (c,(i,(d,(b,(m,(q,(n,(p,(j,(k,(e,(u,(f,(g,())))))))))))))))))) (t (c,(i,(d,(b,(m,(q,(n,(p,(j,(k,(e,(a,(f,(g,())))))))))))))))))))))
def zJW (N:Nat)(d:Host)(e f:Int)(h g:Int)(i:Bool):OA:=
 let c:=(zu d);let a:=(zog d e); (oN (zV d) (oN (zhq d e) (share (fun (b:(Int×(Int×(Int×(Int×(Bool×(Int×(Int×(Int×(lM×(lN×(lE×(lE×(lM×(lN×(lE×(lE×(lS×(lM×(lB×(lG×((List Int)×(lK×Unit)))))))))))))))))))))))=>(zsx N b.1 b.2.1 b.2.2.1 b.2.2.2.1 b.2.2.2.2.1 b.2.2.2.2.2.2.2.2.1 b.2.2.2.2.2.2.2.2.2.1 b.2.2.2.2.2.2.2.2.2.2.1 b.2.2.2.2.2.2.2.2.2.2.2.1 b.2.2.2.2.2.2.2.2.2.2.2.2.1 b.2.2.2.2.2.2.2.2.2.2.2.2.2.1 b.2.2.2.2.2.2.2.2.2.2.2.2.2.2.1 b.2.2.2.2.2.2.2.2.2.2.2.2.2.2.2.1 b.2.2.2.2.2.2.2.2.2.2.2.2.2.2.2.2.2.2.2.1)) (fun j=>(oN (zeo d) (cond (nB (zel d)) (some [(aH c),(aI (-1)),(aB false)]) (cond (nB (zv4 d e)) (some [(aH c),(aI (-1)),(aB false)]) (oN (zbQ f (ln a.Guests)) (cond (nB (zeW f (ln a.Guests))) (some [(aH c),(aI (-1)),(aB false)]) (cond (ine g 1) (cond (ine g 2) (some [(aH c),(aI (-1)),(aB false)]) (j (e,(f,(h,(g,(i,(a.Pending,(a.Traps,(a.Own,([],([],([],([],(c.Memory,(c.Mons,(c.Buffer,(c.IoBuffer,(a.Outer,(a.Out,(a.Dirty,(a.Guests,(a.Outs,(a.Tables,())))))))))))))))))))))))) (j (e,(f,(h,(g,(i,(a.Pending,(a.Traps,(a.Own,([],([],([],([],(c.Memory,(c.Mons,(c.Buffer,(c.IoBuffer,(a.Outer,(a.Out,(a.Dirty,(a.Guests,(a.Outs,(a.Tables,())))))))))))))))))))))))))))))))))
def zXc:FuncId->Nat->Option Tmpl:=zq [(121,999999,{n:=0,tm:=[],lo:=[],ro:=[]}),(121,1007055,{n:=200,tm:=[(1,ti),(2,ti),(3,ti),(4,ti),(5,.b),(12,.lp 0 0),(15,.lp 1 0),(16,.lp 2 0)],lo:=[(0,[.sl 0 [],.sl 1 [],.sl 2 [],.sl 3 []]),(1,[.sl 4 [],.sl 5 [],.sl 6 [],.sl 7 []]),(2,[.sl 8 [],.sl 9 [],.sl 10 [],.sl 11 [],.sl 12 [],ti,ti,.sl 13 [],ti])],ro:=[(0,(.sl .int),true),(1,.mon,true),(2,.entry,true),(3,.entry,true),(4,(.sl .int),true),(5,.mon,true),(6,.entry,true),(7,.entry,true),(8,.slot,true),(9,(.sl .int),true),(10,.bool,true),(11,.guest,true),(12,.int,true),(13,.kept,true)]}),(121,1005039,{n:=200,tm:=[(1,ti),(2,ti),(3,ti),(4,ti),(5,.b),(12,.lp 0 0),(15,.lp 1 0),(18,ti)],lo:=[(0,[.sl 0 [],.sl 1 [],.sl 2 [],.sl 3 []]),(1,[.sl 4 [],.sl 5 [],.sl 6 [],.sl 7 []])],ro:=[(0,(.sl .int),true),(1,.mon,true),(2,.entry,true),(3,.entry,true),(4,(.sl .int),true),(5,.mon,true),(6,.entry,true),(7,.entry,true)]}),(121,1009019,{n:=200,tm:=[(1,ti),(2,ti),(3,ti),(4,ti),(12,.lp 0 0),(15,.lp 1 0),(18,ti),(20,.lp 1 3),(21,ti)],lo:=[(0,[.sl 0 [],.sl 1 [],.sl 2 [],.sl 3 []]),(1,[.sl 4 [],.sl 5 [],.sl 6 [],.sl 7 []])],ro:=[(0,(.sl .int),true),(1,.mon,true),(2,.entry,true),(3,.entry,true),(4,(.sl .int),true),(5,.mon,true),(6,.entry,true),(7,.entry,true)]}),(121,1011005,{n:=200,tm:=[(3,ti),(12,.lp 0 0),(15,.lp 1 0),(20,.lp 1 3),(21,ti),(24,.lp 2 0)],lo:=[(0,[.sl 0 [],.sl 1 [],.sl 2 [],.sl 3 []]),(1,[.sl 4 [],.sl 5 [],.sl 6 [],.sl 7 []]),(2,[ti,ti])],ro:=[(0,(.sl .int),true),(1,.mon,true),(2,.entry,true),(3,.entry,true),(4,(.sl .int),true),(5,.mon,true),(6,.entry,true),(7,.entry,true)]}),(121,1001009019,{n:=200,tm:=[(1,ti),(2,ti),(3,ti),(4,ti),(12,.lp 0 0),(15,.lp 1 0),(18,ti),(20,.lp 1 2),(21,ti)],lo:=[(0,[.sl 0 [],.sl 1 [],.sl 2 [],.sl 3 []]),(1,[.sl 4 [],.sl 5 [],.sl 6 [],.sl 7 []])],ro:=[(0,(.sl .int),true),(1,.mon,true),(2,.entry,true),(3,.entry,true),(4,(.sl .int),true),(5,.mon,true),(6,.entry,true),(7,.entry,true)]}),(121,1001011005,{n:=200,tm:=[(3,ti),(12,.lp 0 0),(15,.lp 1 0),(20,.lp 1 2),(21,ti),(24,.lp 2 0)],lo:=[(0,[.sl 0 [],.sl 1 [],.sl 2 [],.sl 3 []]),(1,[.sl 4 [],.sl 5 [],.sl 6 [],.sl 7 []]),(2,[ti,ti])],ro:=[(0,(.sl .int),true),(1,.mon,true),(2,.entry,true),(3,.entry,true),(4,(.sl .int),true),(5,.mon,true),(6,.entry,true),(7,.entry,true)]})]
theorem z9q {N:Nat}{r:Host}{m g a:Int}(b:r.IoBuffer.length<=1048576) :
 zss N a (zd8 m g) (zdZ (zb4 r m g) a).Page (zdZ (zb4 r m g) a).Rights r.Memory r.Mons r.Buffer r.IoBuffer=some (zj4 (zet r m g a true)):=by
 unfold zss oN
 conv=>zeta
 exact must (zby b) rfl
theorem z9s {N:Nat}{r:Host}{m g a:Int}(b:r.Buffer.length<=1048576) :
 zsu N a (zd8 m g) (zdZ (zb4 r m g) a).Page (zdZ (zb4 r m g) a).Rights r.Memory r.Mons r.Buffer r.IoBuffer=some (zj4 (zet r m g a false)):=by
 unfold zsu oN
 conv=>zeta
 exact must (zby b) rfl
theorem z6P {N:Nat}{r:Host}{m g a b q:Int}{R:OA}{r10}{u5 u6 u7 u8 u9}(A:LookAt r m g q b)(c:r10 (a,(u5,((zdZ (zb4 (zcl (mended r m q b) m g a) m g) a).Page,((zdZ (zb4 (zcl (mended r m q b) m g a) m g) a).Rights,(u6,(u7,(u8,(u9,((zcl (mended r m q b) m g a).Memory,((zcl (mended r m q b) m g a).Mons,((zcl (mended r m q b) m g a).Buffer,((zcl (mended r m q b) m g a).IoBuffer,()))))))))))))=R) :
 zt2 N r.Memory r.Mons r.Buffer r.IoBuffer m q b g a r10 u5 u6 u7 u8 u9=R:=by
 have M:=znu A.kp A.hm A.hg;have F:=znu (A.fill a) A.hm A.hg;unfold zt2 oN
 conv=>zeta
 exact must (zby A.mend) (must (zF M.hm) (must (zF M.ht) (must (zF M.hg) (must (zby M.hk) (must (zF M.ht) (shr (must (zF F.ht) (must rfl c))))))))
theorem lk_3 {N:Nat}{r:Host}{m g a b q:Int}{c:Bool}{r10}{u5 u6 u7 u8 u9}(A:LookAt r m g q b)(h:r10 (a,(u5,((zdZ (zb4 (zcl (mended r m q b) m g a) m g) a).Page,((zdZ (zb4 (zcl (mended r m q b) m g a) m g) a).Rights,(u6,(u7,(u8,(u9,((zcl (mended r m q b) m g a).Memory,((zcl (mended r m q b) m g a).Mons,((zcl (mended r m q b) m g a).Buffer,((zcl (mended r m q b) m g a).IoBuffer,()))))))))))))=some (zj4 (zet (zcl (mended r m q b) m g a) m g a c)))(i:r10 (a,(u5,((zdZ (zb4 r m g) a).Page,((zdZ (zb4 r m g) a).Rights,(u6,(u7,(u8,(u9,(r.Memory,(r.Mons,(r.Buffer,(r.IoBuffer,()))))))))))))=some (zj4 (zet r m g a c))) :
 zoz N r.Mons m g a r.Memory r.Buffer r.IoBuffer q b r10 u5 u6 u7 u8 u9=some (zj4 (cond (zeq r m g a b) (zet (zcl (mended r m q b) m g a) m g a c) (zet r m g a c))):=by
 unfold zoz oN nB
 conv=>zeta
 refine brN (fun d=>?_) (fun d=>br (fun e=>?_) (fun e=>must rfl (brN (fun f=>?_) (fun f=>?_))))
 .rw [ztV (zZZ d)];exact z6P A h
 .rw [ztV (zZ0 e)];exact z6P A h
 .rw [ztV (zZ1 f)];exact z6P A h
 .rw [zZD (zZ2 d e f)];exact i
theorem z9r {N:Nat}{r:Host}{m g a b q:Int}{u6 u7 u8 u9}(A:LookAt r m g q b) :
 zst N m g a b q (zd8 m g) u6 u7 u8 u9 r.Memory r.Mons r.Buffer r.IoBuffer=some (zj4 (cond (zeq r m g a b) (zet (zcl (mended r m q b) m g a) m g a true) (zet r m g a true))):=by
 have M:=znu ⟨A.fit.1,rfl⟩ A.hm A.hg;have F:=znu (A.fill a) A.hm A.hg;unfold zst oN
 conv=>zeta
 exact must (zF M.hm) (must (zF M.ht) (must rfl (shr (lk_3 A (z9q (r:=zcl (mended r m q b) m g a) (m:=m) (g:=g) F.hi) (z9q (r:=r) (m:=m) (g:=g) M.hi)))))
theorem z9t {N:Nat}{r:Host}{m g a b q:Int}{u6 u7 u8 u9}(A:LookAt r m g q b) :
 zsv N m g a b q (zd8 m g) u6 u7 u8 u9 r.Memory r.Mons r.Buffer r.IoBuffer=some (zj4 (cond (zeq r m g a b) (zet (zcl (mended r m q b) m g a) m g a false) (zet r m g a false))):=by
 have M:=znu ⟨A.fit.1,rfl⟩ A.hm A.hg;have F:=znu (A.fill a) A.hm A.hg;unfold zsv oN
 conv=>zeta
 exact must (zF M.hm) (must (zF M.ht) (must rfl (shr (lk_3 A (z9s (r:=zcl (mended r m q b) m g a) (m:=m) (g:=g) F.hb) (z9s (r:=r) (m:=m) (g:=g) M.hb)))))
theorem z9u {N:Nat}{r:Host}{m g b a q:Int}{e:Bool}{u6 u7 u8 u9}(A:LookAt r m g q a) :
 zsw N m g b a e q u6 u7 u8 u9 r.Memory r.Mons r.Buffer r.IoBuffer=some (zj4 (zfM r (zth r e) m g b a q e)):=by
 unfold zsw oN
 conv=>zeta
 cases e
 .show _=some (zj4 (zfM r r.Buffer m g b a q false))
  refine zdU rfl (must rfl (shr (must rfl (br (fun c=>must rfl (br (fun d=>?_) (fun d=>?_))) (fun c=>?_)))))
  .rw [zEK (zof c d)];rfl
  .rw [zoj (zof c d)];exact z9t A
  .rw [zoj (zEH c)];exact z9t A
 .show _=some (zj4 (zfM r r.IoBuffer m g b a q true))
  refine must rfl (must rfl (shr (must rfl (br (fun c=>must rfl (br (fun d=>?_) (fun d=>?_))) (fun c=>?_)))))
  .rw [zEK (zof c d)];rfl
  .rw [zoj (zof c d)];exact z9r A
  .rw [zoj (zEH c)];exact z9r A
theorem zbcG (r:Host)(m q:Int)(a:Bool):zth (zbA r m q) a=zth r a:=by cases a<;>rfl
theorem z9v {N:Nat}{r:Host}{m g b a:Int}{c:Bool}{z1 z2 z3 z4}(k:SmH r)(hg:zb3 r m g=true)(h:zgf a=true) :
 zsx N m g b a c z1 z2 z3 z4 r.Memory r.Mons r.Buffer r.IoBuffer (ix r.Mons m mZ).Guests=some (zj4 (lookOf r (zth r c) m g b a c)):=by
 obtain⟨l,f,i⟩:=zdA hg;unfold zsx oN nB
 conv=>zeta
 refine must (zF i) (must rfl (brN (fun e=>?_) (fun e=>?_)))
 .have:zbP r m g b a=false:=by
   unfold zbP;rw[hg,h,show zeB (zbW r m g) b a=false from e];rfl
  rw[zgk this];rfl
 .have hl:zbP r m g b a=true:=by
   unfold zbP;rw[hg,h,show zeB (zbW r m g) b a=true from e];rfl
  obtain⟨A,B⟩:=zDv k hl;rw[zJc hl];have j:hasB (zbZ (zbW r m g) b a) (ln (ix r.Mons m mZ).Dirty)=true:=zdN (zcx A.fit.1 f).2.2.2.1 A.hq;refine shr (br (fun d=>?_) (fun d=>?_))
  .rw [d]
   show _=some (zj4 (zfM (zbA r m (zbZ (zbW r m g) b a)) (zth r c) m g b a (zbZ (zbW r m g) b a) c))
   rw[<- zbcG r m (zbZ (zbW r m g) b a) c];exact must (zF f) (must (zF j) (shr (z9u (r:=zbA r m (zbZ (zbW r m g) b a)) B)))
  .rw [d];exact z9u A
theorem zVi (a:Host)(b d:Int)(e c:Int)(f:Bool)(s:ztm a b d e c f=true):∃N,zJW N a b d e c f=some [aH (ztj a b d e c f),aI (ztk a b d e c f),aB (ztl a b d e c f)]:=by
 have i:=(zX a).1 (zO.1 s);refine⟨0,?_⟩;show _=some (zj4 (lookOf a (zth a f) b d e c f));unfold zJW oN nB;conv=>zeta
 refine must (zby ((zX _).2 i)) (must (zby ((zX _).2 i)) (shr (must rfl (brN (fun j=>?_) (fun j=>?_)))));{rw [zgk (zok (zZs j))];rfl};refine brN (fun g=>?_) (fun g=>?_);{rw [zgk (zok (zZt g))];rfl};have q:zog a b=ix a.Mons b mZ:=(by unfold zog;rw[show hasB b (ln a.Mons)=true from g];rfl);rw[q];refine must rfl (brN (fun k=>?_) (fun k=>?_));{rw [zgk (zok (zZu k))];rfl};have hg:=zZv j g k;have m:∀{n:Int},zgf n=false->zbP a b d e n=false:=fun {n} h=>(by unfold zbP;rw[hg,h];rfl);rw[zoh,zoh];cases l:ieq c 1;{cases p:ieq c 2;{have:zgf c=false:=(by unfold zgf;rw[l,p];rfl);rw[zgk (m this)];rfl};{exact z9v (r:=a) i hg (by unfold zgf;rw[l,p];rfl)}};{exact z9v (r:=a) i hg (by unfold zgf;rw[l];rfl)}
theorem zN8:vT 121 zDK:=kF6 zhQ zC zca zhN zXc zVi
def z8X:zZ:=[(121,zDK),(326,zqI)]++znr
theorem zUm:zN z8X:=zh zN8 (zh zIv zhQ)
@[simp] abbrev zfJ (h:Host)(m g b a:Int):Bool:=pc (zcY h)
@[simp] abbrev zgv (h:Host)(m g b a:Int):Host:=(lookOf h h.Buffer m g b a false).1
@[simp] abbrev zhg (h:Host)(m g b a:Int):Int:=(lookOf h h.Buffer m g b a false).2.1
@[simp] abbrev zhh (h:Host)(m g b a:Int):Bool:=(lookOf h h.Buffer m g b a false).2.2
def zlK:Run:=rF5 dH dI dI dI dI fun b c d e f=>(zfJ b c d e f,[aH (zgv b c d e f),aI (zhg b c d e f),aB (zhh b c d e f)])
def zJP (N:Nat)(a:Host)(b c:Int)(d e:Int):OA:=
 (oN (ztm a b c d e false) (some [(aH (ztj a b c d e false)),(aI (ztk a b c d e false)),(aB (ztl a b c d e false))]))
theorem zVb (a:Host)(b c:Int)(d e:Int)(f:zfJ a b c d e=true):∃N,zJP N a b c d e=some [aH (zgv a b c d e),aI (zhg a b c d e),aB (zhh a b c d e)]:=by refine⟨0,?_⟩;unfold zJP oN;exact must f rfl
theorem zxT:vT 40 zlK:=kF5 zUm zC zca zhN (zq []) zVb
def z8Y:zZ:=[(40,zlK)]++z8X
theorem z6q:zN z8Y:=zh zxT zUm
def brought (n a b:Int):Int:=bif ilt n a then a else (cond (ilt b a) a (zOP n b))
@[simp] abbrev zru (_ _ _:Int):Bool:=true
@[simp] abbrev zsk (n a b:Int):Int:=brought n a b
def zsO:Run:=rF3 dI dI dI fun b c d=>(zru b c d,[aI (zsk b c d)])
def zGa (N:Nat)(b a c:Int):OA:=
 (cond (ilt c a) (some [(aI a)]) (cond (ilt b a) (some [(aI a)]) (cond (igt b c) (some [(aI c)]) (some [(aI b)]))))
theorem zSq (a b c:Int)(g:zru a b c=true):∃N,zGa N a b c=some [aI (zsk a b c)]:=by refine⟨0,?_⟩;unfold zGa;unfold zsk brought zOP;cases d:ilt c b<;>cases e:ilt a b<;>cases f:igt a c<;>simp [igt] at * <;> omega
theorem zvX:vT 193 zsO:=kF3 zuj zC zx zo (zq []) zSq
structure RI (a:List Bare) (i:Nat) (l:List Bare):Prop where
 len:l.length=a.length
 sm:z0i l
 eq:∀k,i<=k->l[k]?=a[k]?
theorem RI.up {a l:List Bare}{i:Nat}(h:RI a i l)(x:Bare)(b:SmB x):RI a (i+1) (up l (i:Int) x):=
 ⟨by rw[zfW];exact h.len,zbbn h.sm b,fun k c=>by rw[zbb5 (by omega)];exact h.eq k (by omega)⟩
structure RJ (l:List Bare) (i:Nat) (l':List Bare):Prop where
 len:l'.length=l.length
 sm:SmB (ix l' (i:Int) zND)
 up:∀x,E.up l' (i:Int) x=E.up l (i:Int) x
theorem RJ.next {l a:List Bare}{i:Nat}(h:RJ l i a)(b:i<l.length)(x:Bare)(c:SmB x):RJ l i (E.up a (i:Int) x):=
 ⟨by rw[zfW];exact h.len,by rw[zdT (by rw[h.len];exact b)];exact c,fun y=>by rw[ztM];exact h.up y⟩
def z3m:zZ:=z8Y
theorem z3n:zN z3m:=z6q
theorem zWN {h:Host}{m:Int}(g:SmH h)(f:hasB m (ln h.Mons)=true):SmB (zK h m):=by
 have b:=g.2.1.2 _ (zbG f mZ);have e:∀(d:List (List Int)) (q:Int),SmM d->(zcB d q).length<=1048576:=fun d q h=>zWQ h;have c:∀p:Int,(zcK h m p).length<=1048576:=by intro p;unfold zcK;cases hasB m (ln h.Mons);{exact(by decide:zAo.length<=1048576)};{cases hasB p 8;{exact(by decide:zAo.length<=1048576)};{simp only [cT];cases ine (zbC (ix h.Mons m zi).Outer p).Page (-1);{exact e _ _ b.2.1};{exact e _ _ g.1}}}
 have j:∀(n i:Nat),∀x∈zcC h m n i,x.length<=1048576:=by
  intro n
  induction n with
  |zero=>intro i x a;cases a
  |succ n k=>intro i x a;rcases qG.1 a with rfl|a;{exact c _};{exact k (i+1) x a}
 unfold zK;rw[f];exact⟨⟨by show (zcC h m 8 0).length<=1048576;rw[zzW];decide,j 8 0⟩,b.2.2.2.1,b.2.2.2.2.1⟩
def z8Z:zZ:=z3m
theorem z6r:zN z8Z:=z3n
def z81:zZ:=[(193,zsO)]++z8Z
theorem z6s:zN z81:=zh zvX z6r
def cnt (l:List Mon):List Nat:=l.map fun x=>x.Guests.length
theorem zbbI {l a:List Mon}(h:zev a=zev l):cnt a=cnt l:=by have e:∀l:List Mon,cnt l=(zev l).map List.length:=fun l=>(by simp[cnt,zev]);rw[e,e,h]
theorem zT5 {l:List Mon}{m:Int}{x:Mon}(b:hasB m (ln l)=true)(c:x.Guests.length=(ix l m mZ).Guests.length):cnt (up l m x)=cnt l:=by obtain⟨k,rfl,a⟩:=zd4 (n:=l.length) b;unfold cnt up;rw[List.map_set,kI,c,zbd a];have:=@vB _ (l.map fun x=>x.Guests.length) k (by simpa using a);simpa using this
theorem zbai {l a:List Mon}(h:cnt a=cnt l):a.length=l.length:=by have:=congrArg List.length h;simpa [cnt] using this
theorem zbbJ {l b:List Mon}(h:cnt b=cnt l)(m:Int):(ix b m mZ).Guests.length=(ix l m mZ).Guests.length:=by have a:(cnt b)[m.toNat]?=(cnt l)[m.toNat]?:=(by rw[h]);unfold cnt at a;rw[qP,qP]at a;unfold ix;simp only[kC];cases c:b[m.toNat]? <;> cases d:l[m.toNat]? <;> rw [c,d]at a<;>simp at a ⊢;exact a
theorem zba2 (h:Host)(m p:Int):(zdV h m p).Memory=h.Memory:=(zgM (zfc h m p) m p noSlot).2
theorem zba1 (h:Host):(zdl h).Memory=h.Memory:=by unfold zdl;cases ieq (ln (zco h)) 0;{rfl};{exact zba2 _ _ _}
theorem zba0 (m:List (List Int))(p:Int)(c:List Int):(zi4 m p c).length=m.length:=by unfold zi4;cases hasB p (ln m);{rfl};{cases zcu c;{rfl};{simp}}
theorem zbaY (m:List (List Int))(p c v:Int):(zbO m p c v).length=m.length:=by unfold zbO;cases ziw m p c;{rfl};{cases zk v 0 99;{rfl};{simp}}
theorem z1q (h:Host)(m p:Int):(fetched h m p).Memory.length=h.Memory.length:=by unfold fetched zfn;rw[(zgM _ _ _ _).2];unfold landing;rw[zba0,zba1]
theorem zVU (h:Host)(m p n:Int):(zi6 h m p n).Memory=h.Memory:=by unfold zi6;cases ieq (wand .i64 n 2) 0;{unfold opened;cases ieq (wand .i64 (ix (ix (zbA h m p).Mons m mZ).Outer p sZ).Rights 2) 0;{rfl};{exact(zgM _ _ _ _).2}};{rfl}
theorem z4i (h:Host)(m p n:Int):(mended h m p n).Memory.length=h.Memory.length:=by unfold mended;cases ieq (ix (ix h.Mons m mZ).Outer p sZ).Page (-1);{exact congrArg List.length (zVU _ _ _ _)};{exact(congrArg List.length (zVU _ _ _ _)).trans (z1q _ _ _)}
theorem z4j (h:Host)(m g p:Int)(a:Bool):(zri h m g p a).Memory=h.Memory:=by cases a<;>rfl
theorem z6Z (h:Host)(b:List Entry)(m g c a q:Int)(d:Bool):(zfM h b m g c a q d).1.Memory.length=h.Memory.length:=by unfold zfM;cases zhG b m g c a;{cases zeq h m g c a;{exact congrArg List.length (z4j _ _ _ _ _)};{exact(congrArg List.length (z4j _ _ _ _ _)).trans (z4i h m q a)}};{rfl}
theorem zbaZ (h:Host)(b:List Entry)(m g page need:Int)(io:Bool):(lookOf h b m g page need io).1.Memory.length=h.Memory.length:=by unfold lookOf;cases zbP h m g page need;{rfl};{simp only [cT];rw[z6Z];cases ieq need 2<;>rfl}
structure Keep (h r:Host):Prop where
 shape:Shape r
 cnt:cnt r.Mons=cnt h.Mons
 mem:r.Memory.length=h.Memory.length
theorem Keep.has {h r:Host}(k:Keep h r){m:Int}(a:hasB m (ln h.Mons)=true):hasB m (ln r.Mons)=true:=by rw[ln,zbai k.cnt];exact a
theorem Keep.hg {h r:Host}(k:Keep h r){m g:Int}(hg:hasB g (ln (ix h.Mons m mZ).Guests)=true):hasB g (ln (ix r.Mons m mZ).Guests)=true:=by rw[ln,zbbJ k.cnt];exact hg
theorem Keep.trans {a b c:Host}(h:Keep a b)(k:Keep b c):Keep a c:=⟨k.shape,k.cnt.trans h.cnt,k.mem.trans h.mem⟩
theorem Keep.rfl' {h:Host}(a:Shape h):Keep h h:=⟨a,rfl,rfl⟩
theorem zoi {h:Host}{m g:Int}{x:Guest}(b:Shape h)(a:hasB m (ln h.Mons)=true)(c:SmG x):Keep h (zlG h m g x):=⟨z2i b a c,zT5 a (by simp),rfl⟩
theorem zDk {h:Host}{b:List Entry}{m g page need:Int}{io:Bool}(c:SmH h)(a:zb3 h m g=true):Keep h (lookOf h b m g page need io).1:=by have k:=zx2 (b:=b) (page:=page) (need:=need) (io:=io) c a;exact⟨k.shape,zbbI k.gs,zbaZ _ _ _ _ _ _ _⟩
theorem z3T {h:Host}{p c v:Int}(a:Shape h):Keep h {h with Memory:=zbO h.Memory p c v}:=⟨zRD a (zAj a.1.1),rfl,zbaY _ _ _ _⟩
theorem z08 {h:Host}{m:Int}(a:Shape h)(b:hasB m (ln h.Mons)=true):Keep h (owned h m):=by obtain⟨c,d⟩:=zcx a b;unfold owned;cases ilt (ix h.Mons m mZ).Own 1000000000;{exact Keep.rfl' a};{exact⟨zi1 a c d,zT5 b rfl,rfl⟩}
theorem z07 {h:Host}{m n:Int}(b:Shape h)(c:hasB m (ln h.Mons)=true):Keep h (zoZ h m n):=by obtain⟨a,d⟩:=zcx b c;unfold zoZ;cases e:ilt (ln (ix h.Mons m mZ).Outs) 40;{exact Keep.rfl' b};{have f:=qE e;simp only[ln]at f;refine⟨zi1 b ⟨a.1,a.2.1,a.2.2.1,a.2.2.2.1,?_,a.2.2.2.2.2⟩ d,zT5 c rfl,rfl⟩;simp[ap];omega}
theorem z3V {h:Host}{m g:Int}{x:Guest}{w:Int}(d:Shape h)(b:hasB m (ln h.Mons)=true)(e:SmG x):Keep h (zwO h m g x w):=by have a:Keep h (zg3 h m x w):=(by unfold zg3;cases (cond (ine w 6) (ieq (zzU (ix h.Mons m mZ).Traps x.Ctl.Traps (zyZ w)) 2) false);{exact Keep.rfl' d};{exact z08 d b});have f:Keep (zg3 h m x w) (zg2 (zg3 h m x w) m x w):=(by unfold zg2;cases (cond (zle x.Ctl.Traps w) (ieq w 5) false);{exact Keep.rfl' a.shape};{exact z07 a.shape (a.has b)});have c:=a.trans f;exact c.trans (zoi c.shape (c.has b) (zEe _ _ e))
theorem z3U {h:Host}{m g:Int}(f:SmH h)(e:zb3 h m g=true):Keep h (zcz h m g).1:=by obtain⟨l,a,n⟩:=zdA e;have d:=zp7 f a n;have i:=(zfH f l).1;rw[zkm e];unfold zWW;cases ieq (zbi (gOf h m g)) 0;{cases ieq (zbi (gOf h m g)) 1;{cases ieq (zbi (gOf h m g)) 2;{cases (cond (ieq (zbi (gOf h m g)) 3) true (ieq (zbi (gOf h m g)) 4));{exact z3V i a d};{have k:=zDk (b:=h.Buffer) (page:=zbp (address (gOf h m g))) (need:=zcg (ieq (zbi (gOf h m g)) 4)) (io:=false) f e;show Keep h (zko (znv h m g (gOf h m g) (ieq (zbi (gOf h m g)) 4)) m g (gOf h m g) (ieq (zbi (gOf h m g)) 4));unfold zko;cases (znv h m g (gOf h m g) (ieq (zbi (gOf h m g)) 4)).2.2;{exact k.trans (zoi k.shape (k.has a) d)};{cases ieq (zbi (gOf h m g)) 4;{have k:=zDk (b:=h.Buffer) (page:=zbp (address (gOf h m g))) (need:=zcg false) (io:=false) f e;exact k.trans (zoi k.shape (k.has a) (zM8 _ d))};{have k:=zDk (b:=h.Buffer) (page:=zbp (address (gOf h m g))) (need:=zcg true) (io:=false) f e;have q:=z3T (p:=(znv h m g (gOf h m g) true).2.1) (c:=zdu (address (gOf h m g))) (v:=(gOf h m g).A) k.shape;have j:=k.trans q;exact j.trans (zoi j.shape (j.has a) (zl0 d))}}}};{exact zoi i a (zHs d)}};{exact zoi i a (zZU d)}};{exact Keep.rfl' i}
structure Same (h r:Host):Prop where
 sm:SmH r
 cnt:cnt r.Mons=cnt h.Mons
 mem:r.Memory.length=h.Memory.length
 st:r=h\/Shape r
theorem Same.rfl' {h:Host}(a:SmH h):Same h h:=⟨a,rfl,rfl,.inl rfl⟩
theorem Same.trans {a b c:Host}(h:Same a b)(k:Same b c):Same a c:=⟨k.sm,k.cnt.trans h.cnt,k.mem.trans h.mem,by
 rcases k.st with e|e
 .rw [e];exact h.st
 .exact .inr e⟩
theorem z4X {h:Host}(m g:Int)(b:SmH h):Same h (zcz h m g).1:=by cases a:zb3 h m g;{rw [zmK a];exact Same.rfl' b};{have k:=z3U b a;exact⟨k.shape.1,k.cnt,k.mem,.inr k.shape⟩}
def z88:zZ:=[(193,zsO)]++z0y
theorem zum:zN z88:=zh zvX zuj
theorem zT0 {a b:Bool}(h:(a=true)↔(b=true)):a=b:=by cases a<;>cases b<;>simp_all
@[simp] theorem zbcx (x:Int):zk x 0 3=hasB x 4:=zT0 (by rw[zgs];unfold hasB;rw[decide_eq_true_iff];omega)
@[simp] theorem z5y (x:Int):zk x 0 7=hasB x 8:=zT0 (by rw[zgs];unfold hasB;rw[decide_eq_true_iff];omega)
def zeC (t:List Slot)(p:Int)(s:Slot):List Slot:=bif hasB p (ln t) then up t p s else t
@[simp] theorem zbcy (t:List Slot)(p:Int)(s:Slot):(zeC t p s).length=t.length:=by unfold zeC;cases hasB p (ln t)<;>simp
@[simp] abbrev zpF (t:List Slot)(p:Int)(s:Slot):Bool:=pc (t.length<=1048576)
@[simp] abbrev zmA (t:List Slot)(p:Int)(s:Slot):List Slot:=zeC t p s
def zyL:Run:=rF3 (dS .slot) dI (dT .slot) fun b c d=>(zpF b c d,[aS .slot (zmA b c d)])
def zCu (N:Nat)(a:lS)(b:Int)(c:Slot):OA:=
 (oN (few (ln (ap [] a))) (oN (zM b 0 (wsub .i64 (ln a) 1)) (cond (zk b 0 (wsub .i64 (ln a) 1)) (oN (inb b (ln (ap [] a))) (share (up (ap [] a) b c) (fun d=>(some [(aS .slot d)])))) (some [(aS .slot (ap [] a))]))))
theorem zPw (a:List Slot)(b:Int)(c:Slot)(d:zpF a b c=true):∃N,zCu N a b c=some [aS .slot (zmA a b c)]:=by have e:=zO.1 d;refine⟨0,?_⟩;unfold zCu oN;refine mu (must rfl (br (fun _=>mu (shr ?_)) (fun _=>?_)));all_goals first|rfl|(simp only [*,zmA,zeC,cT,cF]<;>rfl)|simp_all[Ty.cells,zmA,zeC]
theorem zIJ:vT 172 zyL:=kF3 zum zC zx zo (zq []) zPw
def zhY (p n:Int):Bool:=bif zdQ p then zk n 0 7 else false
def ztu (p n:Int):Int:=bif zhY p n then wor .i64 p (zqa .i64 1 n) else p
theorem cv7 {n:Int}(h:hasB n 8=true):wcv .u64 n=n/\ile 0 n=true:=by have:=qE h;exact⟨z0c (by omega) (by omega),qI (by omega)⟩
@[simp] abbrev zkS (p n:Int):Bool:=true
@[simp] abbrev zhv (p n:Int):Int:=ztu p n
@[simp] abbrev znd (p n:Int):Bool:=zhY p n
def zBj:Run:=rF2 dI dI fun b c=>(zkS b c,[aI (zhv b c),aB (znd b c)])
def zGq (N:Nat)(a b:Int):OA:=
 (oN (zc5 a) (cond (nB (zfk a)) (some [(aI a),(aB false)]) (oN (zM b 0 7) (cond (nB (zk b 0 7)) (some [(aI a),(aB false)]) (oN (ile 0 (wcv .u64 b)) (some [(aI (wor .i64 a (zqa .i64 1 (wcv .u64 b)))),(aB true)]))))))
theorem zSG (b a:Int)(c:zkS b a=true):∃N,zGq N b a=some [aI (zhv b a),aB (znd b a)]:=by have d:=@cv7 a;refine⟨0,?_⟩;unfold zGq oN nB;refine must rfl (brN (fun _=>?_) (fun _=>must rfl (brN (fun _=>?_) (fun _=>mu ?_))));all_goals first|rfl|(simp only [*,zhv,znd,ztu,zhY,cT,cF]<;>rfl)|simp_all[Ty.cells,zhv,znd,ztu,zhY]
theorem zLw:vT 188 zBj:=kF2 zum zC zx zo (zq []) zSG
def posts (c:Ctl)(n:Int):Bool:=bif zl9 c then (cond (zk n 0 7) (ieq (wand .i64 (zEr .i64 c.Post n) 1) 1) false) else false
@[simp] abbrev zD4 (c:Ctl)(n:Int):Bool:=true
@[simp] abbrev zyS (c:Ctl)(n:Int):Bool:=posts c n
def zHe:Run:=rF2 dC dI fun b c=>(zD4 b c,[aB (zyS b c)])
def zQy (N:Nat)(b:Ctl)(a:Int):OA:=
 (oN (zf7 b) (cond (zqM b) (oN (zM a 0 7) (cond (zk a 0 7) (oN (ile 0 (wcv .u64 a)) (some [(aB (ieq (wand .i64 (zEr .i64 b.Post (wcv .u64 a)) 1) 1))])) oF)) oF))
theorem zYg (b:Ctl)(a:Int)(c:zD4 b a=true):∃N,zQy N b a=some [aB (zyS b a)]:=by have d:=@cv7 a;refine⟨0,?_⟩;unfold zQy oN;refine must rfl (br (fun _=>must rfl (br (fun _=>mu ?_) (fun _=>?_))) (fun _=>?_));all_goals first|rfl|(simp only [*,zyS,posts,cT,cF]<;>rfl)|simp_all[Ty.cells,zyS,posts]
theorem zR5:vT 295 zHe:=kF2 zum zC zx zo (zq []) zYg
def zci (b:Bare)(g:Int):Bool:=bif zcf b then hasB g (ln b.Guests) else false
theorem zdW {b:Bare}{g:Int}:(zci b g=true)↔zcf b=true/\hasB g (ln b.Guests)=true:=by unfold zci;cases zcf b<;>simp
@[simp] abbrev zgc (b:Bare)(g:Int):Bool:=pc (SmB b)
@[simp] abbrev zkX (b:Bare)(g:Int):Bool:=zci b g
def zHf:Run:=rF2 (dT .bare) dI fun b c=>(zgc b c,[aB (zkX b c)])
def zQB (N:Nat)(a:Bare)(b:Int):OA:=
 (oN (zps a) (cond (zfj a) (oN (zM b 0 (wsub .i64 (ln a.Guests) 1)) (some [(aB (zk b 0 (wsub .i64 (ln a.Guests) 1)))])) oF))
theorem zYi (a:Bare)(b:Int)(c:zgc a b=true):∃N,zQB N a b=some [aB (zkX a b)]:=by have d:=zO.1 c;have e:a.Guests.length<=1048576:=d.2.1.1;refine⟨0,?_⟩;unfold zQB oN;refine must rfl (br (fun _=>must rfl ?_) (fun _=>?_));all_goals first|rfl|(simp only [*,zkX,zci,cT,cF]<;>rfl)|simp_all[Ty.cells,zkX,zci]
theorem zR9:vT 170 zHf:=kF2 zum zC zx zo (zq []) zYi
def z9a:zZ:=[(172,zyL),(188,zBj),(295,zHe),(170,zHf)]++z88
theorem zll:zN z9a:=zh zIJ (zh zLw (zh zR5 (zh zR9 zum)))
theorem z7N {b:Type}{l:List b}{i:Int}{d:b}(h:hasB i (ln l)=true):up l i (ix l i d)=l:=by obtain⟨k,rfl,a⟩:=zd4 (n:=l.length) h;unfold up;rw[zbd a,kI];exact vB a
theorem zuq {b:Bare}{g:Int}(h:hasB g (ln b.Guests)=true):gAt b g=ix b.Guests g zG:=by unfold gAt;rw[h];rfl
theorem z4Z {b:Bare}{g:Int}(h:hasB g (ln b.Guests)=true):zeO b g (gAt b g)=b:=by unfold zeO;rw[zuq h,z7N h]
def chg (b:Bare)(g:Int)(c:Bool)(x:Guest):Bare:=bif (cond (zci b g) c false) then zeO b g x else b
def zck (b:Bare)(g:Int)(c:Bool):Bool:=bif zci b g then c else false
def zxo (p:Int)(s:Slot):Bool:=bif hasB p 4 then zd2 s 8 else false
def zEb (x:Guest)(p:Int)(s:Slot):Guest:={x with Written:=zeC x.Written p s}
def zea (x:Guest)(p:Int):Guest:={x with Live:=zeC x.Live p (zbC x.Written p)}
def zlA:GExit:=⟨0,0,false,0⟩
def zw2 (x:Guest)(v:Int):Bool:=bif zk v 0 99 then (cond (ieq x.Exit.Kind 2) true (ieq x.Exit.Kind 3)) else false
def zzd (x:Guest)(v:Int):Guest:=zcj (stopped (cond (ieq x.Exit.Kind 2) {x with A:=v} x) zlA)
def zDH (x:Guest):Bool:=bif ieq x.Exit.Kind 1 then true else ieq x.Exit.Kind 4
def zz0 (x:Guest):Guest:=bif ieq x.Exit.Kind 1 then stopped x zlA else held (stopped x zlA)
def zoS (x:Guest)(n:Int):Guest:={x with Pending:=ztu x.Pending n}
def zNK (x:Guest)(c:Ctl):Guest:={x with Ctl:=c}
theorem zbaT {x:Guest}{n:Int}(h:zhY x.Pending n=false):zoS x n=x:=by unfold zoS ztu;rw[h];rfl
theorem z7B {x:Guest}(p:Int)(s:Slot)(h:SmG x):SmG (zEb x p s):=⟨h.1,by simpa [zEb] using h.2.1,h.2.2.1,h.2.2.2⟩
theorem zM7 {x:Guest}(p:Int)(h:SmG x):SmG (zea x p):=⟨h.1,h.2.1,by simpa [zea] using h.2.2.1,h.2.2.2⟩
theorem z7z {x:Guest}(v:Int)(h:SmG x):SmG (zzd x v):=by unfold zzd;cases ieq x.Exit.Kind 2<;>exact zl0 h
theorem z7A {x:Guest}(h:SmG x):SmG (zz0 x):=by unfold zz0;cases ieq x.Exit.Kind 1;{exact zWO (g:=stopped x zlA) h};{exact h}
theorem zqV {b:Bare}{g:Int}{c:Bool}{x:Guest}(h:SmB b)(a:SmG x):SmB (chg b g c x):=by unfold chg;cases (cond (zci b g) c false);{exact h};{exact zn8 h a}
@[simp] abbrev zrt (b:Bare)(g p:Int)(s:Slot):Bool:=pc (SmB b)
@[simp] abbrev zeE (b:Bare)(g p:Int)(s:Slot):Bare:=chg b g (zxo p s) (zEb (gAt b g) p s)
@[simp] abbrev zfx (b:Bare)(g p:Int)(s:Slot):Bool:=zck b g (zxo p s)
def zsN:Run:=rF4 (dT .bare) dI dI (dT .slot) fun b c d e=>(zrt b c d e,[aT .bare (zeE b c d e),aB (zfx b c d e)])
def zF9 (N:Nat)(f:Bare)(b c:Int)(d:Slot):OA:=
 let a:=(zcw f);let e:=(ix a.Guests b zG); (oN (zdY f) (oN (zgc a b) (cond (nB (zkX a b)) (some [(aT .bare a),(aB false)]) (oN (zM c 0 3) (cond (nB (zk c 0 3)) (some [(aT .bare a),(aB false)]) (oN (zmy d 8) (cond (nB (ziU d 8)) (some [(aT .bare a),(aB false)]) (oN (inb b (ln a.Guests)) (oN (zpF e.Written c d) (oN (inb b (ln a.Guests)) (share (up a.Guests b ({e with Written:=(zmA e.Written c d)}:Guest)) (fun g=>(some [(aT .bare ({a with Guests:=g}:Bare)),(aB true)])))))))))))))
theorem zSp (b:Bare)(a c:Int)(d:Slot)(e:zrt b a c d=true):∃N,zF9 N b a c d=some [aT .bare (zeE b a c d),aB (zfx b a c d)]:=by
 have f:=zO.1 e;have g:=zkK a f;have k:zci b a=true->hasB a (ln b.Guests)=true:=fun h=>(zdW.1 h).2;have i:zci b a=true->gAt b a=ix b.Guests a zG:=fun h=>zuq (zdW.1 h).2;have j:=g.2.1;refine⟨0,?_⟩;unfold zF9 oN nB;conv=>zeta
 refine mu (mu (brN (fun _=>?_) (fun _=>must rfl (brN (fun _=>?_) (fun _=>must rfl (brN (fun _=>?_) (fun _=>mu (mu (mu (shr ?_))))))))));all_goals first|rfl|(simp only [*,zeE,zfx,chg,zck,zxo,zEb,zeO,cT,cF]<;>rfl)|simp_all[Ty.cells,zeE,zfx,chg,zck,zxo,zEb,zeO]
theorem zvW:vT 75 zsN:=kF4 zll zC zx zo (zq []) zSp
@[simp] abbrev zsW (b:Bare)(g p:Int):Bool:=pc (SmB b)
@[simp] abbrev zfd (b:Bare)(g p:Int):Bare:=chg b g (hasB p 4) (zea (gAt b g) p)
@[simp] abbrev zil (b:Bare)(g p:Int):Bool:=zck b g (hasB p 4)
def zo6:Run:=rF3 (dT .bare) dI dI fun b c d=>(zsW b c d,[aT .bare (zfd b c d),aB (zil b c d)])
def zAC (N:Nat)(f:Bare)(d b:Int):OA:=
 let a:=(zcw f);let e:=(inb d (ln a.Guests));let c:=(ix a.Guests d zG); (oN (zdY f) (oN (zgc a d) (cond (nB (zkX a d)) (some [(aT .bare a),(aB false)]) (oN (zM b 0 3) (cond (nB (zk b 0 3)) (some [(aT .bare a),(aB false)]) (oN e (oN e (oN (zfR c.Written b) (oN (zpF c.Live b (zey c.Written b)) (oN e (share (up a.Guests d ({c with Live:=(zmA c.Live b (zey c.Written b))}:Guest)) (fun g=>(some [(aT .bare ({a with Guests:=g}:Bare)),(aB true)])))))))))))))
theorem zMg (b:Bare)(a c:Int)(d:zsW b a c=true):∃N,zAC N b a c=some [aT .bare (zfd b a c),aB (zil b a c)]:=by
 have e:=zO.1 d;have f:=zkK a e;have j:zci b a=true->hasB a (ln b.Guests)=true:=fun h=>(zdW.1 h).2;have g:zci b a=true->gAt b a=ix b.Guests a zG:=fun h=>zuq (zdW.1 h).2;have i:=f.2.2.1;refine⟨0,?_⟩;unfold zAC oN nB;conv=>zeta
 refine mu (mu (brN (fun _=>?_) (fun _=>must rfl (brN (fun _=>?_) (fun _=>mu (mu (must rfl (mu (mu (shr ?_))))))))));all_goals first|rfl|(simp only [*,zfd,zil,chg,zck,zea,zeO,cT,cF]<;>rfl)|simp_all[Ty.cells,zfd,zil,chg,zck,zea,zeO]
theorem zs8:vT 107 zo6:=kF3 zll zC zx zo (zq []) zMg
@[simp] abbrev zmv (b:Bare)(g v:Int):Bool:=pc (SmB b)
@[simp] abbrev zdw (b:Bare)(g v:Int):Bare:=chg b g (zw2 (gAt b g) v) (zzd (gAt b g) v)
@[simp] abbrev zeg (b:Bare)(g v:Int):Bool:=zck b g (zw2 (gAt b g) v)
def znX:Run:=rF3 (dT .bare) dI dI fun b c d=>(zmv b c d,[aT .bare (zdw b c d),aB (zeg b c d)])
def zxz (N:Nat)(i:Bare)(b e:Int):OA:=
 let a:=(zcw i);let h:=(inb b (ln a.Guests));let d:=(⟨0,0,false,0⟩:GExit);let c:=(ix a.Guests b zG);let g:=({c with A:=e}:Guest); (oN (zdY i) (oN (zgc a b) (cond (nB (zkX a b)) (some [(aT .bare a),(aB false)]) (oN (zM e 0 99) (cond (nB (zk e 0 99)) (some [(aT .bare a),(aB false)]) (oN h (cond (ieq c.Exit.Kind 2) (oN (zeF g d) (oN (zbr (zd1 g d)) (oN h (share (up a.Guests b (ze0 (zd1 g d))) (fun f=>(some [(aT .bare ({a with Guests:=f}:Bare)),(aB true)])))))) (cond (ieq c.Exit.Kind 3) (oN (zeF c d) (oN (zbr (zd1 c d)) (oN h (share (up a.Guests b (ze0 (zd1 c d))) (fun f=>(some [(aT .bare ({a with Guests:=f}:Bare)),(aB true)])))))) (some [(aT .bare a),(aB false)])))))))))
theorem zI1 (b:Bare)(a c:Int)(d:zmv b a c=true):∃N,zxz N b a c=some [aT .bare (zdw b a c),aB (zeg b a c)]:=by
 have e:=zO.1 d;have f:=zkK a e;have j:zci b a=true->hasB a (ln b.Guests)=true:=fun h=>(zdW.1 h).2;have g:zci b a=true->gAt b a=ix b.Guests a zG:=fun h=>zuq (zdW.1 h).2;have i:_/\_/\_/\_:=f;refine⟨0,?_⟩;unfold zxz oN nB;conv=>zeta
 refine mu (mu (brN (fun _=>?_) (fun _=>must rfl (brN (fun _=>?_) (fun _=>mu (br (fun _=>mu (mu (mu (shr ?_)))) (fun _=>br (fun _=>mu (mu (mu (shr ?_)))) (fun _=>?_))))))));all_goals first|rfl|(simp only [*,zdw,zeg,chg,zck,zw2,zzd,zlA,zeO,SmG,stopped,cT,cF]<;>rfl)|simp_all[Ty.cells,zdw,zeg,chg,zck,zw2,zzd,zlA,zeO,SmG,stopped]
theorem zr9:vT 82 znX:=kF3 zll zC zx zo (zq []) zI1
@[simp] abbrev zdy (b:Bare)(g:Int):Bare:=chg b g (zDH (gAt b g)) (zz0 (gAt b g))
@[simp] abbrev zei (b:Bare)(g:Int):Bool:=zck b g (zDH (gAt b g))
def znZ:Run:=rF2 (dT .bare) dI fun b c=>(zgc b c,[aT .bare (zdy b c),aB (zei b c)])
def zxB (N:Nat)(g:Bare)(c:Int):OA:=
 let a:=(zcw g);let f:=(inb c (ln a.Guests));let d:=(⟨0,0,false,0⟩:GExit);let b:=(ix a.Guests c zG); (oN (zdY g) (oN (zgc a c) (cond (nB (zkX a c)) (some [(aT .bare a),(aB false)]) (oN f (cond (ieq b.Exit.Kind 1) (oN (zeF b d) (oN f (share (up a.Guests c (zd1 b d)) (fun e=>(some [(aT .bare ({a with Guests:=e}:Bare)),(aB true)]))))) (cond (ieq b.Exit.Kind 4) (oN (zeF b d) (oN (zbr (zd1 b d)) (oN f (share (up a.Guests c (zyR (zd1 b d))) (fun e=>(some [(aT .bare ({a with Guests:=e}:Bare)),(aB true)])))))) (some [(aT .bare a),(aB false)])))))))
theorem zI3 (b:Bare)(a:Int)(c:zgc b a=true):∃N,zxB N b a=some [aT .bare (zdy b a),aB (zei b a)]:=by
 have d:=zO.1 c;have e:=zkK a d;have i:zci b a=true->hasB a (ln b.Guests)=true:=fun h=>(zdW.1 h).2;have f:zci b a=true->gAt b a=ix b.Guests a zG:=fun h=>zuq (zdW.1 h).2;have g:_/\_/\_/\_:=e;refine⟨0,?_⟩;unfold zxB oN nB;conv=>zeta
 refine mu (mu (brN (fun _=>?_) (fun _=>mu (br (fun _=>mu (mu (shr ?_))) (fun _=>br (fun _=>mu (mu (mu (shr ?_)))) (fun _=>?_))))));all_goals first|rfl|(simp only [*,zdy,zei,chg,zck,zDH,zz0,zlA,zeO,SmG,stopped,cT,cF]<;>rfl)|simp_all[Ty.cells,zdy,zei,chg,zck,zDH,zz0,zlA,zeO,SmG,stopped]
theorem zsb:vT 85 znZ:=kF2 zll zC zx zo (zq []) zI3
theorem zbbF {b:Bare}{g:Int}{c:Bool}{x:Guest}(h:zci b g=false):chg b g c x=b:=by unfold chg;rw[h];rfl
theorem zbag {b:Bare}{g n:Int}(h:zci b g=true):chg b g (zhY (gAt b g).Pending n) (zoS (gAt b g) n)=zeO b g (zoS (gAt b g) n):=by unfold chg;rw[h];cases a:zhY (gAt b g).Pending n;{rw [zbaT a,z4Z (zdW.1 h).2];rfl};{rfl}
@[simp] abbrev zmw (b:Bare)(g n:Int):Bool:=pc (SmB b)
@[simp] abbrev zdx (b:Bare)(g n:Int):Bare:=chg b g (zhY (gAt b g).Pending n) (zoS (gAt b g) n)
@[simp] abbrev zeh (b:Bare)(g n:Int):Bool:=zck b g (zhY (gAt b g).Pending n)
def znY:Run:=rF3 (dT .bare) dI dI fun b c d=>(zmw b c d,[aT .bare (zdx b c d),aB (zeh b c d)])
def zxA (N:Nat)(e:Bare)(b d:Int):OA:=
 let a:=(zcw e);let c:=(ix a.Guests b zG); (oN (zdY e) (oN (zgc a b) (cond (nB (zkX a b)) (some [(aT .bare a),(aB false)]) (oN (inb b (ln a.Guests)) (oN (zkS c.Pending d) (oN (inb b (ln a.Guests)) (share (up a.Guests b ({c with Pending:=(zhv c.Pending d)}:Guest)) (fun f=>(some [(aT .bare ({a with Guests:=f}:Bare)),(aB (znd c.Pending d))])))))))))
theorem zI2 (a:Bare)(b c:Int)(d:zmw a b c=true):∃N,zxA N a b c=some [aT .bare (zdx a b c),aB (zeh a b c)]:=by
 have i:=zO.1 d;have j:zci a b=true->hasB b (ln a.Guests)=true:=fun h=>(zdW.1 h).2;have f:zci a b=true->gAt a b=ix a.Guests b zG:=fun h=>zuq (zdW.1 h).2;have g:=@zbag a b c;have e:=@zbbF a b (zhY (gAt a b).Pending c) (zoS (gAt a b) c);refine⟨0,?_⟩;unfold zxA oN nB;conv=>zeta
 refine mu (mu (brN (fun _=>?_) (fun _=>mu (must rfl (mu (shr ?_))))));all_goals first|rfl|(simp only [*,zdx,zeh,zck,zeO,zoS,cT,cF]<;>rfl)|simp_all[Ty.cells,zdx,zeh,zck,zeO,zoS]
theorem zsa:vT 89 znY:=kF3 zll zC zx zo (zq []) zI2
@[simp] abbrev zrr (b:Bare)(g:Int)(c:Ctl):Bool:=pc (SmB b)
@[simp] abbrev zeD (b:Bare)(g:Int)(c:Ctl):Bare:=chg b g (zl9 c) (zNK (gAt b g) c)
@[simp] abbrev zfw (b:Bare)(g:Int)(c:Ctl):Bool:=zck b g (zl9 c)
def zsM:Run:=rF3 (dT .bare) dI dC fun b c d=>(zrr b c d,[aT .bare (zeD b c d),aB (zfw b c d)])
def zF8 (N:Nat)(d:Bare)(b:Int)(c:Ctl):OA:=
 let a:=(zcw d); (oN (zdY d) (oN (zgc a b) (cond (nB (zkX a b)) (some [(aT .bare a),(aB false)]) (oN (zf7 c) (cond (nB (zqM c)) (some [(aT .bare a),(aB false)]) (oN (inb b (ln a.Guests)) (share (up a.Guests b ({ (ix a.Guests b zG) with Ctl:=c}:Guest)) (fun e=>(some [(aT .bare ({a with Guests:=e}:Bare)),(aB true)])))))))))
theorem zSo (a:Bare)(b:Int)(c:Ctl)(d:zrr a b c=true):∃N,zF8 N a b c=some [aT .bare (zeD a b c),aB (zfw a b c)]:=by
 have f:=zO.1 d;have g:zci a b=true->hasB b (ln a.Guests)=true:=fun h=>(zdW.1 h).2;have e:zci a b=true->gAt a b=ix a.Guests b zG:=fun h=>zuq (zdW.1 h).2;refine⟨0,?_⟩;unfold zF8 oN nB;conv=>zeta
 refine mu (mu (brN (fun _=>?_) (fun _=>must rfl (brN (fun _=>?_) (fun _=>mu (shr ?_))))));all_goals first|rfl|(simp only [*,zeD,zfw,chg,zck,zNK,zeO,cT,cF]<;>rfl)|simp_all[Ty.cells,zeD,zfw,chg,zck,zNK,zeO]
theorem zvV:vT 93 zsM:=kF3 zll zC zx zo (zq []) zSo
def z9U (p c v:Int):Bool:=bif hasB p 8 then (cond (hasB c 4) (zk v 0 99) false) else false
def zyb (b:Bare)(p c v:Int):Bool:=bif zcf b then z9U p c v else false
def zTy (b:Bare)(p c v:Int):Bare:=bif zyb b p c v then {b with Memory:=zbO b.Memory p c v} else b
def znK (b:Bare):Bare:=bif zcf b then {b with Pending:=zkO b.Pending} else b
def zue (b:Bare):Int:=bif zcf b then zuC b.Pending else -1
def znq (b:Bare):Bool:=bif zcf b then !ilt (zee b.Pending) 0 else false
def zoL (b:Bare)(g a n:Int):Bool:=bif zci b g then (cond (zk a 0 15) (zeB (gAt b g).Live (zbp a) n) false) else false
def zEz (b:Bare)(g a n:Int):Int:=zbZ (gAt b g).Live (zbp a) n
def zzr (b:Bare)(g a v:Int):Bool:=bif zoL b g a 2 then zk v 0 99 else false
def z0L (b:Bare)(g a v:Int):Bare:=bif zzr b g a v then {b with Memory:=zbO b.Memory (zEz b g a 2) (zdu a) v} else b
def zTC (b:Bare)(g a:Int):Int:=bif zoL b g a 1 then cellAt b.Memory (zEz b g a 1) (zdu a) else 0
@[simp] abbrev ze5 (b:Bare):Bare:=znK b
@[simp] abbrev zgx (b:Bare):Int:=zue b
@[simp] abbrev zgy (b:Bare):Bool:=znq b
def zsL:Run:=rF1 (dT .bare) fun b=>(zdY b,[aT .bare (ze5 b),aI (zgx b),aB (zgy b)])
def zF7 (N:Nat)(b:Bare):OA:=
 let a:=(zcw b); (oN (zdY b) (oN (zps a) (cond (nB (zfj a)) (some [(aT .bare a),(aI (-1)),(aB false)]) (oN (zc5 a.Pending) (some [(aT .bare ({a with Pending:=(zkU a.Pending)}:Bare)),(aI (zkV a.Pending)),(aB (zne a.Pending))])))))
theorem zSn (a:Bare)(b:zdY a=true):∃N,zF7 N a=some [aT .bare (ze5 a),aI (zgx a),aB (zgy a)]:=by
 have c:=zO.1 b;refine⟨0,?_⟩;unfold zF7 oN nB;conv=>zeta
 refine mu (must rfl (brN (fun _=>?_) (fun _=>must rfl ?_)));all_goals first|rfl|(simp only [*,ze5,zgx,zgy,znK,zue,znq,zkO,zuC,cT,cF]<;>rfl)|simp_all[Ty.cells,ze5,zgx,zgy,znK,zue,znq,zkO,zuC]
theorem zvU:vT 140 zsL:=kF1 zll zC zx zo (zq []) zSn
def z9b:zZ:=z9a
theorem zUn:zN z9b:=zll
def zex (l:List Guest)(n:Int):List Int:=idxs (fun (x:Guest)=>posts x.Ctl n) l 0
theorem zUY {d:Type}(p:d->Bool):∀(l:List d) (i:Nat),∀k∈idxs p l i,(i:Int)<=k/\k<(i:Int)+l.length
 |[],_,k,a=>by cases a
 |x::l,i,k,a=>by have c:=zUY p l (i+1);simp only[qX];unfold idxs at a;cases b:p x;{rw [b]at a;have:=c k a;omega};{rw [b]at a;rcases qG.1 a with rfl|a;{omega};{have:=c k a;omega}}
@[simp] abbrev zh0 (b:Bare)(n:Int):Bool:=pc (SmB b)
@[simp] abbrev zmx (b:Bare)(n:Int):List Int:=zex b.Guests n
def zyD:Run:=rF2 (dT .bare) dI fun b c=>(zh0 b c,[aS .int (zmx b c)])
def zCk (N:Nat)(c:Bare)(f:Int):OA:=
 (iter (σ:=(Int×(Int×(Int×((List Int)×(lM×(lG×((List Int)×Unit)))))))) N (fun d a=>let b:=a.2.2.2.2.2.1;let e:=(ix b a.2.1 zG).Ctl; (cond (ilt a.2.1 (ln b)) (oN (inb a.2.1 (ln b)) (oN (zD4 e a.1) (cond (zyS e a.1) (oN (few (ln (ap a.2.2.2.1 [a.2.1]))) (d (a.1,((zL .i64 a.2.1 1),(a.2.2.1,((ap a.2.2.2.1 [a.2.1]),(a.2.2.2.2.1,(b,(a.2.2.2.2.2.2.1,()))))))))) (d (a.1,((zL .i64 a.2.1 1),(a.2.2.1,(a.2.2.2.1,(a.2.2.2.2.1,(b,(a.2.2.2.2.2.2.1,()))))))))))) (some [(aS .int a.2.2.2.1)]))) (f,(0,(c.Pending,([],(c.Memory,(c.Guests,(c.Outs,()))))))))
def zP6:FuncId->Nat->Option Tmpl:=zq [(237,0,{n:=28,tm:=[(1,ti),(2,.lp 0 0),(5,.sl 0 []),(6,ti)],lo:=[(0,[.sl 1 [],.sl 2 [],.sl 3 [],ti])],ro:=[(0,.int,true),(1,(.sl .int),false),(2,.guest,false),(3,.int,false)]})]
theorem zPk (a:Bare)(b:Int)(g:zh0 a b=true):∃N,zCk N a b=some [aS .int (zmx a b)]:=by
 have h:=zO.1 g;have e:=zcv h.2.1.1;refine zb6 fun N d=>?_;unfold zCk oN;conv=>zeta
 refine(zbk a.Guests (fun i (t:(List Int))=>(b,(i:Int),a.Pending,t,a.Memory,a.Guests,a.Outs,())) _ (fun i (x:Guest) (t:List Int) f=>bif posts x.Ctl b then (cond (few (ln (ap t [(i:Int)]))) (f (ap t [(i:Int)])) none) else f t) (fun (t:(List Int))=>(some [(.one (.s .int t))])) (fun i c t rec=>?_) (fun t rec=>?_) _ ([]) (d e.1)).trans ?_;{simp only [zbn c,zT c,zbd c,zY c e.1,cT]};{simp only [zbh,cF]};exact zus (fun (x:Guest)=>posts x.Ctl b) _ a.Guests 0 [] (by simpa using e.2)
theorem zIy:vT 237 zyD:=kF2 zUn zC zx zo zP6 zPk
def z9c:zZ:=[(237,zyD)]++z9b
theorem zUo:zN z9c:=zh zIy zUn
def zEP (n:Int)(l:List Guest)(k:Int):List Guest:=up l k (zoS (ix l k zG) n)
def zmn (n:Int)(a:List Int)(l:List Guest):List Guest:=a.foldl (zEP n) l
theorem zDD (n:Int)(l:List Guest)(k:Int):(zEP n l k).length=l.length:=zfW _ _ _
theorem z2m {n:Int}{l:List Guest}{k:Int}(a:hasB k (ln l)=true)(h:zlg l):zlg (zEP n l k):=zEW h (z5g h a _)
theorem zEf {n:Int}:∀(a:List Int) {l:List Guest},(∀k∈a,hasB k (ln l)=true)->zlg l->zlg (zmn n a l)/\(zmn n a l).length=l.length
 |[],_,_,h=>⟨h,rfl⟩
 |k::a,l,b,h=>by have e:=z2m (n:=n) (b k (by simp)) h;obtain⟨c,d⟩:=zEf (n:=n) a (l:=zEP n l k) (fun j f=>by rw[ln,zDD];exact b j (by simp[f])) e;exact⟨c,d.trans (zDD _ _ _)⟩
theorem zUL {e:Type}(n:Int)(K:List Guest->Option e):∀(a:List Int) (i:Nat) (l:List Guest),(∀k∈a,hasB k (ln l)=true)->
 goL (fun _ k (t:List Guest) d=>bif inb k (ln t) then (cond (inb k (ln t)) (d (up t k (zoS (ix t k zG) n))) none) else none) K a i l=K (zmn n a l)
 |[],_,_,_=>rfl
 |k::a,i,l,h=>by have c:inb k (ln l)=true:=h k (by simp);simp only[goL,c,cT];exact zUL n K a (i+1) (zEP n l k) (fun j b=>by rw[ln,zDD];exact h j (by simp[b]))
def zEQ (b:Bare)(n:Int):Bare:=bif ieq (ln (zex b.Guests n)) 0 then {b with Pending:=ztu b.Pending n} else {b with Guests:=zmn n (zex b.Guests n) b.Guests}
def zfZ (b:Bare)(n:Int):Bool:=bif zcf b then hasB n 8 else false
def zk2 (b:Bare)(n:Int):Bare:=bif zfZ b n then zEQ b n else b
theorem zMJ {b:Bare}{n:Int}:∀k∈zex b.Guests n,hasB k (ln b.Guests)=true:=fun k a=>by have:=zUY _ _ _ k a;exact qI (by simp only[ln];omega)
theorem z1E {b:Bare}{n:Int}(h:ieq (ln (zex b.Guests n)) 0=true):zmn n (zex b.Guests n) b.Guests=b.Guests:=by have a:((zex b.Guests n).length:Int)=0:=qE h;have:zex b.Guests n=[]:=uX.1 (by omega);rw[this];rfl
theorem z1D {b:Bare}{n:Int}:(cond (ieq (ln (zex b.Guests n)) 0) (some [AV.agg (Ty.cells .bare ⟨b.Memory,zmn n (zex b.Guests n) b.Guests,b.Outs,ztu b.Pending n⟩),AV.one (.b true)]) (some [AV.agg (Ty.cells .bare ⟨b.Memory,zmn n (zex b.Guests n) b.Guests,b.Outs,b.Pending⟩),AV.one (.b true)]))=some [AV.agg (Ty.cells .bare (zEQ b n)),AV.one (.b true)]:=by unfold zEQ;cases h:ieq (ln (zex b.Guests n)) 0;{rfl};{simp only [cT,z1E h]}
@[simp] abbrev ze6 (b:Bare)(n:Int):Bare:=zk2 b n
@[simp] abbrev zgP (b:Bare)(n:Int):Bool:=zfZ b n
def zqG:Run:=rF2 (dT .bare) dI fun b c=>(zh0 b c,[aT .bare (ze6 b c),aB (zgP b c)])
def zCa (N:Nat)(i:Bare)(e:Int):OA:=
 let b:=(zcw i); (oN (zdY i) (oN (zps b) (cond (nB (zfj b)) (some [(aT .bare b),(aB false)]) (oN (zM e 0 7) (cond (nB (zk e 0 7)) (some [(aT .bare b),(aB false)]) (oN (zh0 b e) (iter (σ:=(Int×(Int×(Int×(Int×((List Int)×(lM×(lG×((List Int)×(lM×(lG×((List Int)×Unit)))))))))))) N (fun j a=>let h:=a.2.2.2.2.2.2.2.1;let d:=a.2.2.2.2.1;let c:=a.2.2.2.2.2.2.1;let f:=(ix d a.2.1 0);let g:=(ix c f zG); (cond (ilt a.2.1 (ln d)) (oN (inb a.2.1 (ln d)) (oN (inb a.2.1 (ln d)) (oN (inb f (ln c)) (oN (zkS g.Pending a.1) (oN (inb f (ln c)) (j (a.1,((zL .i64 a.2.1 1),(a.2.2.1,(a.2.2.2.1,(d,(a.2.2.2.2.2.1,((up c f ({g with Pending:=(zhv g.Pending a.1)}:Guest)),(h,(a.2.2.2.2.2.2.2.2.1,(a.2.2.2.2.2.2.2.2.2.1,(a.2.2.2.2.2.2.2.2.2.2.1,()))))))))))))))))) (cond (ieq (ln d) 0) (oN (zkS a.2.2.1 a.1) (some [(aT .bare (⟨a.2.2.2.2.2.1,c,h,(zhv a.2.2.1 a.1)⟩:Bare)),(aB true)])) (some [(aT .bare (⟨a.2.2.2.2.2.1,c,h,a.2.2.1⟩:Bare)),(aB true)])))) (e,(0,(b.Pending,(0,((zmx b e),(b.Memory,(b.Guests,(b.Outs,([],([],([],()))))))))))))))))))
def zP2:FuncId->Nat->Option Tmpl:=zq [(136,0,{n:=62,tm:=[(1,ti),(2,.lp 0 0),(4,.lp 1 0),(6,.sl 0 []),(7,ti)],lo:=[(0,[.sl 1 [],.sl 2 [],.sl 3 [],ti]),(1,[.sl 4 [],.sl 5 [],.sl 6 [],ti])],ro:=[(0,.int,true),(1,(.sl .int),true),(2,.guest,true),(3,.int,true),(4,(.sl .int),true),(5,.guest,true),(6,.int,true)]})]
theorem zO9 (a:Bare)(c:Int)(l:zh0 a c=true):∃N,zCa N a c=some [aT .bare (ze6 a c),aB (zgP a c)]:=by
 have h:=zO.1 l;have j:(zex a.Guests c).length<=big:=qV (zzH _ _ _) (zcv h.2.1.1).1;refine zb6 fun N g=>?_;unfold zCa ze6 zgP zk2 zfZ oN nB;conv=>zeta
 refine must (zbm h) (must rfl (brN (fun e=>?_) (fun e=>must rfl (brN (fun d=>?_) (fun d=>must (zbm h) ?_)))));{simp only [show zcf a=false from e,cF]};{simp only [show zcf a=true from e,show hasB c 8=false from by first|exact d|exact(z5y c).symm.trans d,cT,cF]};simp only[show zcf a=true from e,show hasB c 8=true from by first|exact d|exact(z5y c).symm.trans d,cT];refine(zbk (zmx (zcw a) c) (fun i (t:lG)=>(c,(i:Int),(zcw a).Pending,0,(zmx (zcw a) c),(zcw a).Memory,t,(zcw a).Outs,[],[],[],())) _ (fun _ k (t:List Guest) m=>bif inb k (ln t) then (cond (inb k (ln t)) (m (up t k (zoS (ix t k zG) c))) none) else none) (fun (t:lG)=>(cond (ieq (ln (zmx (zcw a) c)) 0) (cond (zkS (zcw a).Pending c) (some [(.agg (Ty.cells .bare (⟨(zcw a).Memory,t,(zcw a).Outs,(zhv (zcw a).Pending c)⟩:Bare))),(.one (.b true))]) none) (some [(.agg (Ty.cells .bare (⟨(zcw a).Memory,t,(zcw a).Outs,(zcw a).Pending⟩:Bare))),(.one (.b true))]))) (fun i f t rec=>?_) (fun t rec=>?_) _ ((zcw a).Guests) (g j)).trans ?_;{simp only [zbn f,zT f,zbd f,zY f j,cT];rfl};{simp only [zbh,cF];rfl};exact(zUL c _ _ 0 _ zMJ).trans z1D
theorem zuv:vT 136 zqG:=kF2 zUo zC zx zo zP2 zO9
def z2N:zZ:=[(75,zsN),(107,zo6),(82,znX),(85,znZ),(89,znY),(93,zsM),(140,zsL),(136,zqG)]++z9c
theorem zCJ:zN z2N:=zh zvW (zh zs8 (zh zr9 (zh zsb (zh zsa (zh zvV (zh zvU (zh zuv zUo)))))))
theorem z5q {n:Int}(h:(ieq n 4||ieq n 8)=true):n=4\/n=8:=by rcases j4 _ _ ▸ h with h|h;{exact .inl (qE h)};{exact .inr (qE h)}
theorem z4g {n:Int}(h:(ieq n 8||ieq n 12)=true):n=8\/n=12:=by rcases j4 _ _ ▸ h with h|h;{exact .inl (qE h)};{exact .inr (qE h)}
@[simp] abbrev zjz (n:Int):Bool:=ieq n 4||ieq n 8
@[simp] abbrev zhk (n:Int):List Slot:=List.replicate n.toNat ⟨-1,0⟩
def zqJ:Run:=rF1 dI fun b=>(zjz b,[aS .slot (zhk b)])
def zTP (N:Nat)(b:Int):OA:=
 (oN (zru b 0 24) (iter (σ:=(Int×(lS×Unit))) N (fun c a=>(cond (igt a.1 0) (oN zbE (oN (few (ln (ap a.2.1 [zbc]))) (c ((wsub .i64 a.1 1),((ap a.2.1 [zbc]),()))))) (some [(aS .slot a.2.1)]))) ((zsk b 0 24),([],()))))
def zP8:FuncId->Nat->Option Tmpl:=zq [(194,0,{n:=17,tm:=[(3,.sl 0 []),(4,ti)],lo:=[],ro:=[(0,.slot,true)]})]
theorem zPr (a:Int)(b:zjz a=true):∃N,zTP N a=some [aS .slot (zhk a)]:=by refine⟨30,?_⟩;have h:a=4\/a=8:=z5q b;rcases h with rfl|rfl<;>(change _=_;kernel_rfl)
theorem zuy:vT 194 zqJ:=kF1 zCJ zC zx zo zP8 zPr
@[simp] abbrev zpz (n:Int):Bool:=ieq n 8||ieq n 12
@[simp] abbrev zka (n:Int):List (List Int):=List.replicate n.toNat [0,0,0,0]
def zuU:Run:=rF1 dI fun b=>(zpz b,[aS (.sl .int) (zka b)])
def z0e (N:Nat)(b:Int):OA:=
 (oN (zru b 0 24) (iter (σ:=(Int×(lM×Unit))) N (fun c a=>(cond (igt a.1 0) (oN (cond (few 4) (ieq 4 4) false) (oN (few (ln (ap a.2.1 [(rp 4 0)]))) (c ((wsub .i64 a.1 1),((ap a.2.1 [(rp 4 0)]),()))))) (some [(aS (.sl .int) a.2.1)]))) ((zsk b 0 24),([],()))))
def zXh:FuncId->Nat->Option Tmpl:=zq [(94,0,{n:=17,tm:=[(3,.sl 0 []),(4,ti)],lo:=[],ro:=[(0,(.sl .int),true)]})]
theorem zVu (a:Int)(b:zpz a=true):∃N,z0e N a=some [aS (.sl .int) (zka a)]:=by refine⟨30,?_⟩;have h:a=8\/a=12:=z4g b;rcases h with rfl|rfl<;>(change _=_;kernel_rfl)
theorem zxV:vT 94 zuU:=kF1 zCJ zC zx zo zXh zVu
def z2O:zZ:=[(194,zqJ),(94,zuU)]++z2N
theorem zQP:zN z2O:=zh zuy (zh zxV zCJ)
def zlZ:List Slot:=List.replicate 4 ⟨-1,0⟩
def zfi (p:List Ins):Guest:=⟨p,0,0,zlZ,zlZ,⟨0,0,false⟩,0,⟨0,0,false,0⟩,false,[]⟩
@[simp] abbrev zjy (p:List Ins):Bool:=pc (p.length<=1048576)
@[simp] abbrev zcr (p:List Ins):Guest:=zfi p
def zms:Run:=rF1 (dS .ins) fun b=>(zjy b,[aT .guest (zcr b)])
def zCd (N:Nat)(a:lI):OA:=
 (oN (few (ln (ap [] a))) (oN (zjz 4) (oN (zjz 4) (some [(aT .guest (⟨(ap [] a),0,0,(zhk 4),(zhk 4),⟨0,0,false⟩,0,⟨0,0,false,0⟩,false,[]⟩:Guest))]))))
theorem zPd (a:List Ins)(b:zjy a=true):∃N,zCd N a=some [aT .guest (zcr a)]:=by have c:=zO.1 b;refine⟨0,?_⟩;unfold zCd oN;refine mu (must rfl (must rfl ?_));first|rfl|(simp only [*,zcr,zfi,zlZ,cT,cF]<;>rfl)|simp_all[Ty.cells,zcr,zfi,zlZ]
theorem znQ:vT 195 zms:=kF1 zQP zC zx zo (zq []) zPd
def zbbR:zZ:=[(195,zms)]++z2O
theorem zCK:zN zbbR:=zh znQ zQP
def zPC:List (List Int):=List.replicate 8 [0,0,0,0]
def SmPs (a:List (List Ins)):Prop:=a.length<=1048576/\∀p∈a,p.length<=1048576
theorem zRj {d c j:Type}(m:Nat)(f:d->c)(K:List c->Option j):∀(l:List d) (i:Nat) (a:List c),a.length+l.length<=2147483648->
 goL (fun (i:Nat) x a k=>bif ilt (i:Int) (m:Int) then (cond (few (ln (ap a [f x]))) (k (ap a [f x])) none) else K a) K l i a=K (a++(l.take (m-i)).map f)
 |[],i,a,_=>by simp[goL]
 |x::l,i,a,g=>by simp only[qX]at g;have e:few (ln (ap a [f x]))=true:=zge (by simp[ap];omega);by_cases h:i<m;{have b:ilt (i:Int) (m:Int)=true:=qI (by omega);simp only[goL,b,e,cT];rw[zRj m f K l (i+1) (ap a [f x]) (by simp[ap];omega)];rw[show m-i=m-(i+1)+1 by omega];simp[ap]};{have b:ilt (i:Int) (m:Int)=false:=qL (by omega);simp only[goL,b,cF];rw[show m-i=0 by omega];simp}
@[simp] abbrev zon (a:GAct):Bool:=true
@[simp] abbrev zyO (a:GAct):Bool:=zk a.Kind 1 17
def zG9:Run:=rF1 (dT .act) fun b=>(zon b,[aB (zyO b)])
def zQn (N:Nat)(a:GAct):OA:=
 (oN (zM a.Kind 1 17) (some [(aB (zk a.Kind 1 17))]))
theorem zX7 (a:GAct)(b:zon a=true):∃N,zQn N a=some [aB (zyO a)]:=by refine⟨0,?_⟩;unfold zQn oN;refine must rfl ?_;first|rfl|(simp only [*,zyO,cT,cF]<;>rfl)|simp_all[Ty.cells,zyO]
theorem zRV:vT 323 zG9:=kF1 zCK zC zx zo (zq []) zX7
@[simp] abbrev zxi (k:Int):Bool:=true
@[simp] abbrev zsl (k:Int):Bool:=zk k 13 17
def zBe:Run:=rF1 dI fun b=>(zxi b,[aB (zsl b)])
def zGj (N:Nat)(a:Int):OA:=
 (oN (zM a 13 17) (some [(aB (zk a 13 17))]))
theorem zSy (a:Int)(b:zxi a=true):∃N,zGj N a=some [aB (zsl a)]:=by refine⟨0,?_⟩;unfold zGj oN;refine must rfl ?_;first|rfl|(simp only [*,zsl,cT,cF]<;>rfl)|simp_all[Ty.cells,zsl]
theorem zLq:vT 324 zBe:=kF1 zCK zC zx zo (zq []) zSy
@[simp] abbrev zqL (a:GAct):Ctl:=⟨a.X,a.Y,ieq a.Z 1⟩
def zHb:Run:=rF1 (dT .act) fun b=>(zon b,[.agg (zmO (zqL b))])
def zQp (N:Nat)(a:GAct):OA:=
 (some [(.agg [(.i .i64 a.X),(.i .i64 a.Y),(.b (ieq a.Z 1))])])
theorem zX9 (a:GAct)(b:zon a=true):∃N,zQp N a=some [.agg (zmO (zqL a))]:=by refine⟨0,?_⟩;unfold zQp;first|rfl|(simp only [*,zqL,cT,cF]<;>rfl)|simp_all[Ty.cells,zqL]
theorem zRX:vT 327 zHb:=kF1 zCK zC zx zo (zq []) zX9
def zUh:zZ:=[(75,zsN),(107,zo6),(82,znX),(85,znZ),(89,znY),(93,zsM),(140,zsL),(136,zqG),(94,zuU)]++z81
theorem zCM:zN zUh:=zh zvW (zh zs8 (zh zr9 (zh zsb (zh zsa (zh zvV (zh zvU (zh zuv (zh zxV z6s))))))))
def zda (x:Mon):Bare:=⟨zPC,x.Guests,x.Outs,x.Pending⟩
def zvE (x:Mon)(b:Bare):Mon:={x with Guests:=b.Guests,Pending:=b.Pending}
def zdn (h:Host)(m:Int)(b:Bare):Host:={h with Mons:=up h.Mons m (zvE (ix h.Mons m mZ) b)}
@[simp] abbrev ze8 (x:Mon):Bool:=pc (zeT x)
@[simp] abbrev zbS (x:Mon):Bare:=zda x
def zBs:Run:=rF1 (dT .mon) fun b=>(ze8 b,[aT .bare (zbS b)])
def zGB (N:Nat)(a:Mon):OA:=
 (oN (zpz 8) (oN (zgb a.Guests) (oN (few (ln (ap [] a.Outs))) (some [(aT .bare (⟨(zka 8),(zgG a.Guests),(ap [] a.Outs),a.Pending⟩:Bare))]))))
theorem zSX (a:Mon)(c:ze8 a=true):∃N,zGB N a=some [aT .bare (zbS a)]:=by have b:=zO.1 c;refine⟨0,?_⟩;unfold zGB oN;exact must rfl (must (zbm ((zvJ _).2 b.2.2.2.1)) (must (zod b.2.2.2.2.1) rfl))
theorem zLU:vT 76 zBs:=kF1 zCM zC zca zhN (zq []) zSX
@[simp] abbrev ze7 (h:Host)(m:Int)(b:Bare):Bool:=pc (hasB m (ln h.Mons)=true/\zlg b.Guests)
@[simp] abbrev zhD (h:Host)(m:Int)(b:Bare):Host:=zdn h m b
theorem zbcw {l:List Mon}{m:Int}(a:hasB m (ln l)=true)(b:Bare):inb m (ln (up l m {ix l m mZ with Guests:=b.Guests}))=true/\
 up (up l m {ix l m mZ with Guests:=b.Guests}) m {ix (up l m {ix l m mZ with Guests:=b.Guests}) m mZ with Pending:=b.Pending}=up l m (zvE (ix l m mZ) b):=by
 obtain⟨k,rfl,c⟩:=zd4 (n:=l.length) a;refine⟨zF (by rw[ln,zfW];exact a),?_⟩
 rw[ztM,zdT c];rfl
def zsV:List AV->Option (Bool×List AV)
 |[.agg [.s (.sl .int) b,.s .mon c,.s .entry d,.s .entry e],.one (.i .i64 f),.agg [.s (.sl .int) g,.s .guest h,.s .int j,.i .i64 k]]=>some ((ze7 (⟨b,c,d,e⟩:Host) f (⟨g,h,j,k⟩:Bare)),[aH (zhD (⟨b,c,d,e⟩:Host) f (⟨g,h,j,k⟩:Bare))])
 |_=>none
def zw0 (N:Nat)(b:Host)(a:Int)(c:Bare):OA:=
 (oN (zgb c.Guests) (oN (inb a (ln b.Mons)) (share (up b.Mons a ({ (ix b.Mons a zi) with Guests:=(zgG c.Guests)}:Mon)) (fun d=>(oN (inb a (ln d)) (share (up d a ({ (ix d a zi) with Pending:=c.Pending}:Mon)) (fun e=>(some [(aH ({b with Mons:=e}:Host))]))))))))
theorem zVY (N:Nat)(a:Host)(b:Int)(c:Bare):z0N (cQ zUh zqy z1C z7M) (zq []) N 12 77 [true,true,true,true,false,false,false,false,false] [aH a,aI b,aT .bare c]=zw0 N a b c:=by kernel_rfl
theorem zSW (b:Host)(c:Int)(a:Bare)(i:zbU big [aH b,aI c,aT .bare a])(h:ze7 b c a=true):∃N,zw0 N b c a=some [aH (zhD b c a)]:=by obtain⟨d,hg⟩:=zO.1 h;obtain⟨f,g⟩:=zbcw d a;refine⟨0,?_⟩;unfold zw0 oN;refine must (zbm ((zvJ _).2 hg)) (must (zF d) (shr (must f (shr ?_))));have e:zgG a.Guests=a.Guests:=rfl;rw[e];show some [AV.agg (zbq {b with Mons:=_})]=some [AV.agg (zbq {b with Mons:=_})];rw[show zi=mZ from rfl,g]
theorem zLT:zeu Tryz.prog 77 [true,true,true,true,false,false,false,false,false] none zsV:=by refine zNU (zgZ zCM zC zca zhN) (zjU (by kernel_rfl)) (by kernel_rfl) ?_;intro a g f e h;have c:=zi9 e;unfold zsV at h;split at h;{obtain⟨d,rfl⟩:=zeA h;obtain⟨N,b⟩:=zSW _ _ _ (by exact c) d;exact⟨_,N,12,(zVY N _ _ _ ).trans b⟩};{cases h}
def z2S:zZ:=[(76,zBs)]++zUh
theorem zjJ:zN z2S:=zh zLU zCM
def zbc4:zfh:=[(77,([true,true,true,true,false,false,false,false,false],none,zsV))]++z7M
theorem zc8:zd9 zbc4:=zoa zhN (by
 intro x a;simp only[qG,qN,or_false]at a;rcases a with rfl
 .exact zLT)
def z92 (h:Host)(m:Int)(a:Bool)(B:Bare)(b c:Host->Ans):OA:=
 bif zV h then (cond (zfV h m) (cond (cond (zfU h m) false true) (some (b h)) (cond (inb m (ln h.Mons)) (cond (ze8 (ix h.Mons m mZ)) (cond a (cond (ze7 h m B) (some (c (zdn h m B))) none) none) none) none)) none) else none
theorem zcI {h:Host}{m:Int}:(zc2 h m=true)↔zb2 h=true/\hasB m (ln h.Mons)=true:=by unfold zc2;cases zb2 h<;>simp
theorem zoc {h:Host}{m:Int}{cB:Bool}{B:Bare}{o0 o1:Host->Ans}(c:SmH h)(e:zc2 h m=true->cB=true)(d:zc2 h m=true->SmB B):z92 h m cB B o0 o1=some (cond (zc2 h m) (o1 (zdn h m B)) (o0 h)):=by unfold z92;refine must (zbm ((zX h).2 c)) (must rfl ?_);rw[show zfU h m=zc2 h m from rfl];cases a:zc2 h m;{rfl};{have b:=(zcI.1 a).2;exact zdU rfl (must (zF b) (must (zbm (c.2.1.2 _ (zbG b _))) (must (e a) (must (zbm ⟨b,(d a).2.1⟩) rfl))))}
structure SameB (b c:Bare):Prop where
 g:b.Guests=c.Guests
 p:b.Pending=c.Pending
 o:zcf b=zcf c
theorem SameB.at {b c:Bare}(h:SameB b c)(g:Int):gAt b g=gAt c g:=by unfold gAt;rw[h.g]
theorem SameB.has {b c:Bare}(h:SameB b c)(g:Int):zci b g=zci c g:=by unfold zci;rw[h.g,h.o]
theorem back_eq {h:Host}{m:Int}{b c:Bare}(hg:b.Guests=c.Guests)(a:b.Pending=c.Pending):zdn h m b=zdn h m c:=by unfold zdn zvE;rw[hg,a]
theorem zqi {b c:Bare}(a:SameB b c)(h:Host)(m g:Int)(k:Bool)(x:Guest):zdn h m (chg b g k x)=zdn h m (chg c g k x):=by unfold chg;rw[a.has];cases (cond (zci c g) k false);{exact back_eq a.g a.p};{exact back_eq (by simp only[cT,zeO,a.g]) a.p}
theorem zl8 {b c:Bare}(a:SameB b c)(g:Int)(k:Bool):zck b g k=zck c g k:=by unfold zck;rw[a.has]
theorem zjN {h:Host}{m:Int}(b:zc2 h m=true)(d:zcf (zda (ix h.Mons m mZ))=true):SameB (zda (ix h.Mons m mZ)) (zK h m):=by obtain⟨c,a⟩:=zcI.1 b;refine⟨?_,?_,d.trans (zGD c a).symm⟩<;>unfold zK zda<;>rw [a]<;>rfl
theorem zbaX:zix zPC 8=true:=by decide
theorem zoy {h:Host}{m:Int}(b:zc2 h m=true):zcf (zda (ix h.Mons m mZ))=true:=by obtain⟨c,a⟩:=zcI.1 b;have:=zGD c a;unfold zK at this;rw[a,cT] at this;unfold zcf at this ⊢;simp only[zda,zbaX] at *;simp_all
theorem zfl {x:Mon}(h:zeT x):SmB (zda x):=⟨show SmM zPC from ⟨by decide,by decide⟩,h.2.2.2.1,h.2.2.2.2.1⟩
def zh8 (h:Host)(m:Int)(b:Bare):Host:=bif zc2 h m then zdn h m b else h
def zg0 (h:Host)(m:Int)(ok:Bool):Bool:=bif zc2 h m then ok else false
@[simp] abbrev zm3 (h:Host)(m:Int)(g p:Int)(s:Slot):Host:=zh8 h m (zeE (zK h m) g p s)
@[simp] abbrev zm4 (h:Host)(m:Int)(g p:Int)(s:Slot):Bool:=zg0 h m (zfx (zK h m) g p s)
@[simp] abbrev zjg (h:Host)(m:Int)(g v:Int):Host:=zh8 h m (zdw (zK h m) g v)
@[simp] abbrev zjh (h:Host)(m:Int)(g v:Int):Bool:=zg0 h m (zeg (zK h m) g v)
@[simp] abbrev zjk (h:Host)(m:Int)(g:Int):Host:=zh8 h m (zdy (zK h m) g)
@[simp] abbrev zjl (h:Host)(m:Int)(g:Int):Bool:=zg0 h m (zei (zK h m) g)
@[simp] abbrev zji (h:Host)(m:Int)(g n:Int):Host:=zh8 h m (zdx (zK h m) g n)
@[simp] abbrev zjj (h:Host)(m:Int)(g n:Int):Bool:=zg0 h m (zeh (zK h m) g n)
@[simp] abbrev zm1 (h:Host)(m:Int)(g:Int)(x:Ctl):Host:=zh8 h m (zeD (zK h m) g x)
@[simp] abbrev zm2 (h:Host)(m:Int)(g:Int)(x:Ctl):Bool:=zg0 h m (zfw (zK h m) g x)
@[simp] abbrev zly (h:Host)(m:Int)(n:Int):Host:=zh8 h m (ze6 (zK h m) n)
@[simp] abbrev zlz (h:Host)(m:Int)(n:Int):Bool:=zg0 h m (zgP (zK h m) n)
@[simp] abbrev zmY (h:Host)(m:Int):Host:=zh8 h m (ze5 (zK h m))
@[simp] abbrev zmZ (h:Host)(m:Int):Int:=bif zc2 h m then zgx (zK h m) else -1
@[simp] abbrev zm0 (h:Host)(m:Int):Bool:=zg0 h m (zgy (zK h m))
@[simp] abbrev zkw (h:Host)(m g p:Int):Bool:=zg0 h m (zck (zK h m) g (hasB p 4))
theorem z4C {b c:Bare}(a:SameB b c)(n:Int):(zk2 b n).Guests=(zk2 c n).Guests/\(zk2 b n).Pending=(zk2 c n).Pending/\zfZ b n=zfZ c n:=by have e:zfZ b n=zfZ c n:=(by unfold zfZ;rw[a.o]);unfold zk2;rw[e];cases zfZ c n;{exact⟨a.g,a.p,rfl⟩};{unfold zEQ;rw[a.g];cases ieq (ln (zex c.Guests n)) 0;{exact⟨by simp only[cT,cF],by simp only[cT,cF,a.p],rfl⟩};{exact⟨by simp only[cT,a.g],by simp only[cT,a.p],rfl⟩}}
theorem z5C {b c:Bare}(a:SameB b c):(znK b).Guests=(znK c).Guests/\(znK b).Pending=(znK c).Pending/\zue b=zue c/\znq b=znq c:=by unfold znK zue znq;rw[a.o,a.p];cases zcf c;{exact⟨a.g,a.p,rfl,rfl⟩};{exact⟨a.g,rfl,rfl,rfl⟩}
theorem z5f {b:Bare}{n:Int}(h:SmB b):SmB (zk2 b n):=by unfold zk2;cases zfZ b n;{exact h};{unfold zEQ;cases ieq (ln (zex b.Guests n)) 0;{exact⟨h.1,(zEf _ zMJ h.2.1).1,h.2.2⟩};{exact h}}
theorem z7y {b:Bare}(h:SmB b):SmB (znK b):=by unfold znK;cases zcf b;{exact h};{exact h}
theorem ztP {H a:Host}{x y:Bool}(c:H=a)(d:x=y):some [AV.agg (zbq H),AV.one (.b x)]=some [AV.agg (zbq a),AV.one (.b y)]:=by rw[c,d]
theorem zbaj {H a:Host}{n k:Int}{x y:Bool}(c:H=a)(d:n=k)(e:x=y):some [AV.agg (zbq H),AV.one (.i .i64 n),AV.one (.b x)]=some [AV.agg (zbq a),AV.one (.i .i64 k),AV.one (.b y)]:=by rw[c,d,e]
theorem zZS {b:Bare}(g p:Int)(s:Slot)(a:SmB b):SmB (zeE b g p s):=zqV a (z7B _ _ (zkK _ a))
theorem z7u {b c:Bare}(a:SameB b c)(h:Host)(m:Int)(g p:Int)(s:Slot):zdn h m (zeE b g p s)=zdn h m (zeE c g p s)/\zfx b g p s=zfx c g p s:=by have e:=a.at g;simp only[zeE,zfx,e];exact⟨zqi a _ _ _ _ _,zl8 a _ _⟩
@[simp] abbrev zxh (h:Host)(m:Int)(g p:Int)(s:Slot):Bool:=pc (zcY h)
def zBd:Run:=rF5 dH dI dI dI (dT .slot) fun b c d e f=>(zxh b c d e f,[aH (zm3 b c d e f),aB (zm4 b c d e f)])
def zGi (N:Nat)(g:Host)(b d e:Int)(f:Slot):OA:=
 let a:=(zu g);let c:=(ix a.Mons b zi); (oN (zV g) (oN (zfV a b) (cond (nB (zfU a b)) (some [(aH a),(aB false)]) (oN (inb b (ln a.Mons)) (oN (ze8 c) (oN (zrt (zbS c) d e f) (oN (ze7 a b (zeE (zbS c) d e f)) (some [(aH (zhD a b (zeE (zbS c) d e f))),(aB (zfx (zbS c) d e f))]))))))))
theorem zSx (a:Host)(c d e:Int)(f:Slot)(n:zxh a c d e f=true):∃N,zGi N a c d e f=some [aH (zm3 a c d e f),aB (zm4 a c d e f)]:=by
 have i:=(zX a).1 (zO.1 n);refine⟨0,?_⟩;have j:=zoc (h:=a) (m:=c) (cB:=zrt (zda (ix a.Mons c mZ)) d e f) (B:=zeE (zda (ix a.Mons c mZ)) d e f) (o0:=fun H=>[.agg (zbq H),.one (.b false)]) (o1:=fun H=>[.agg (zbq H),.one (.b (zfx (zda (ix a.Mons c mZ)) d e f))]) i
  (fun g=>zbm (zfl (i.2.1.2 _ (zbG (zcI.1 g).2 _)))) (fun g=>zZS _ _ _ (zfl (i.2.1.2 _ (zbG (zcI.1 g).2 _))))
 refine(show zGi 0 a c d e f=_ from j).trans ?_;unfold zm3 zm4 zh8 zg0;cases g:zc2 a c;{rfl};{obtain⟨k,l⟩:=z7u (zjN g (zoy g)) a c d e f;simp only[cT];exact ztP k l}
theorem zLp:vT 10 zBd:=kF5 zjJ zC zca zc8 (zq []) zSx
theorem zM4 {b:Bare}(g v:Int)(a:SmB b):SmB (zdw b g v):=zqV a (z7z _ (zkK _ a))
theorem zYQ {b c:Bare}(a:SameB b c)(h:Host)(m:Int)(g v:Int):zdn h m (zdw b g v)=zdn h m (zdw c g v)/\zeg b g v=zeg c g v:=by have e:=a.at g;simp only[zdw,zeg,e];exact⟨zqi a _ _ _ _ _,zl8 a _ _⟩
@[simp] abbrev zqN (h:Host)(m:Int)(g v:Int):Bool:=pc (zcY h)
def zuR:Run:=rF4 dH dI dI dI fun b c d e=>(zqN b c d e,[aH (zjg b c d e),aB (zjh b c d e)])
def zxE (N:Nat)(f:Host)(b d e:Int):OA:=
 let a:=(zu f);let c:=(ix a.Mons b zi); (oN (zV f) (oN (zfV a b) (cond (nB (zfU a b)) (some [(aH a),(aB false)]) (oN (inb b (ln a.Mons)) (oN (ze8 c) (oN (zmv (zbS c) d e) (oN (ze7 a b (zdw (zbS c) d e)) (some [(aH (zhD a b (zdw (zbS c) d e))),(aB (zeg (zbS c) d e))]))))))))
theorem zI6 (a:Host)(c d e:Int)(l:zqN a c d e=true):∃N,zxE N a c d e=some [aH (zjg a c d e),aB (zjh a c d e)]:=by
 have g:=(zX a).1 (zO.1 l);refine⟨0,?_⟩;have i:=zoc (h:=a) (m:=c) (cB:=zmv (zda (ix a.Mons c mZ)) d e) (B:=zdw (zda (ix a.Mons c mZ)) d e) (o0:=fun H=>[.agg (zbq H),.one (.b false)]) (o1:=fun H=>[.agg (zbq H),.one (.b (zeg (zda (ix a.Mons c mZ)) d e))]) g
  (fun f=>zbm (zfl (g.2.1.2 _ (zbG (zcI.1 f).2 _)))) (fun f=>zM4 _ _ (zfl (g.2.1.2 _ (zbG (zcI.1 f).2 _))))
 refine(show zxE 0 a c d e=_ from i).trans ?_;unfold zjg zjh zh8 zg0;cases f:zc2 a c;{rfl};{obtain⟨j,k⟩:=zYQ (zjN f (zoy f)) a c d e;simp only[cT];exact ztP j k}
theorem zC9:vT 13 zuR:=kF4 zjJ zC zca zc8 (zq []) zI6
theorem zM6 {b:Bare}(g:Int)(a:SmB b):SmB (zdy b g):=zqV a (z7A (zkK _ a))
theorem zYS {b c:Bare}(a:SameB b c)(h:Host)(m:Int)(g:Int):zdn h m (zdy b g)=zdn h m (zdy c g)/\zei b g=zei c g:=by have e:=a.at g;simp only[zdy,zei,e];exact⟨zqi a _ _ _ _ _,zl8 a _ _⟩
@[simp] abbrev zqP (h:Host)(m:Int)(g:Int):Bool:=pc (zcY h)
def zuT:Run:=rF3 dH dI dI fun b c d=>(zqP b c d,[aH (zjk b c d),aB (zjl b c d)])
def zxG (N:Nat)(e:Host)(b d:Int):OA:=
 let a:=(zu e);let c:=(ix a.Mons b zi); (oN (zV e) (oN (zfV a b) (cond (nB (zfU a b)) (some [(aH a),(aB false)]) (oN (inb b (ln a.Mons)) (oN (ze8 c) (oN (zgc (zbS c) d) (oN (ze7 a b (zdy (zbS c) d)) (some [(aH (zhD a b (zdy (zbS c) d))),(aB (zei (zbS c) d))]))))))))
theorem zI8 (a:Host)(c d:Int)(k:zqP a c d=true):∃N,zxG N a c d=some [aH (zjk a c d),aB (zjl a c d)]:=by
 have f:=(zX a).1 (zO.1 k);refine⟨0,?_⟩;have g:=zoc (h:=a) (m:=c) (cB:=zgc (zda (ix a.Mons c mZ)) d) (B:=zdy (zda (ix a.Mons c mZ)) d) (o0:=fun H=>[.agg (zbq H),.one (.b false)]) (o1:=fun H=>[.agg (zbq H),.one (.b (zei (zda (ix a.Mons c mZ)) d))]) f
  (fun e=>zbm (zfl (f.2.1.2 _ (zbG (zcI.1 e).2 _)))) (fun e=>zM6 _ (zfl (f.2.1.2 _ (zbG (zcI.1 e).2 _))))
 refine(show zxG 0 a c d=_ from g).trans ?_;unfold zjk zjl zh8 zg0;cases e:zc2 a c;{rfl};{obtain⟨i,j⟩:=zYS (zjN e (zoy e)) a c d;simp only[cT];exact ztP i j}
theorem zDb:vT 16 zuT:=kF3 zjJ zC zca zc8 (zq []) zI8
theorem zM5 {b:Bare}(g n:Int)(a:SmB b):SmB (zdx b g n):=zqV a (zkK (b:=b) _ a)
theorem zYR {b c:Bare}(a:SameB b c)(h:Host)(m:Int)(g n:Int):zdn h m (zdx b g n)=zdn h m (zdx c g n)/\zeh b g n=zeh c g n:=by have e:=a.at g;simp only[zdx,zeh,e];exact⟨zqi a _ _ _ _ _,zl8 a _ _⟩
@[simp] abbrev zqO (h:Host)(m:Int)(g n:Int):Bool:=pc (zcY h)
def zuS:Run:=rF4 dH dI dI dI fun b c d e=>(zqO b c d e,[aH (zji b c d e),aB (zjj b c d e)])
def zxF (N:Nat)(f:Host)(b d e:Int):OA:=
 let a:=(zu f);let c:=(ix a.Mons b zi); (oN (zV f) (oN (zfV a b) (cond (nB (zfU a b)) (some [(aH a),(aB false)]) (oN (inb b (ln a.Mons)) (oN (ze8 c) (oN (zmw (zbS c) d e) (oN (ze7 a b (zdx (zbS c) d e)) (some [(aH (zhD a b (zdx (zbS c) d e))),(aB (zeh (zbS c) d e))]))))))))
theorem zI7 (a:Host)(c d e:Int)(l:zqO a c d e=true):∃N,zxF N a c d e=some [aH (zji a c d e),aB (zjj a c d e)]:=by
 have g:=(zX a).1 (zO.1 l);refine⟨0,?_⟩;have i:=zoc (h:=a) (m:=c) (cB:=zmw (zda (ix a.Mons c mZ)) d e) (B:=zdx (zda (ix a.Mons c mZ)) d e) (o0:=fun H=>[.agg (zbq H),.one (.b false)]) (o1:=fun H=>[.agg (zbq H),.one (.b (zeh (zda (ix a.Mons c mZ)) d e))]) g
  (fun f=>zbm (zfl (g.2.1.2 _ (zbG (zcI.1 f).2 _)))) (fun f=>zM5 _ _ (zfl (g.2.1.2 _ (zbG (zcI.1 f).2 _))))
 refine(show zxF 0 a c d e=_ from i).trans ?_;unfold zji zjj zh8 zg0;cases f:zc2 a c;{rfl};{obtain⟨j,k⟩:=zYR (zjN f (zoy f)) a c d e;simp only[cT];exact ztP j k}
theorem zDa:vT 19 zuS:=kF4 zjJ zC zca zc8 (zq []) zI7
theorem zZR {b:Bare}(g:Int)(x:Ctl)(a:SmB b):SmB (zeD b g x):=zqV a (zkK (b:=b) _ a)
theorem z7t {b c:Bare}(a:SameB b c)(h:Host)(m:Int)(g:Int)(x:Ctl):zdn h m (zeD b g x)=zdn h m (zeD c g x)/\zfw b g x=zfw c g x:=by have e:=a.at g;simp only[zeD,zfw,e];exact⟨zqi a _ _ _ _ _,zl8 a _ _⟩
@[simp] abbrev zxe (h:Host)(m:Int)(g:Int)(x:Ctl):Bool:=pc (zcY h)
def zBa:Run:=rF4 dH dI dI dC fun b c d e=>(zxe b c d e,[aH (zm1 b c d e),aB (zm2 b c d e)])
def zGf (N:Nat)(f:Host)(b d:Int)(e:Ctl):OA:=
 let a:=(zu f);let c:=(ix a.Mons b zi); (oN (zV f) (oN (zfV a b) (cond (nB (zfU a b)) (some [(aH a),(aB false)]) (oN (inb b (ln a.Mons)) (oN (ze8 c) (oN (zrr (zbS c) d e) (oN (ze7 a b (zeD (zbS c) d e)) (some [(aH (zhD a b (zeD (zbS c) d e))),(aB (zfw (zbS c) d e))]))))))))
theorem zSu (a:Host)(c d:Int)(e:Ctl)(l:zxe a c d e=true):∃N,zGf N a c d e=some [aH (zm1 a c d e),aB (zm2 a c d e)]:=by
 have g:=(zX a).1 (zO.1 l);refine⟨0,?_⟩;have i:=zoc (h:=a) (m:=c) (cB:=zrr (zda (ix a.Mons c mZ)) d e) (B:=zeD (zda (ix a.Mons c mZ)) d e) (o0:=fun H=>[.agg (zbq H),.one (.b false)]) (o1:=fun H=>[.agg (zbq H),.one (.b (zfw (zda (ix a.Mons c mZ)) d e))]) g
  (fun f=>zbm (zfl (g.2.1.2 _ (zbG (zcI.1 f).2 _)))) (fun f=>zZR _ _ (zfl (g.2.1.2 _ (zbG (zcI.1 f).2 _))))
 refine(show zGf 0 a c d e=_ from i).trans ?_;unfold zm1 zm2 zh8 zg0;cases f:zc2 a c;{rfl};{obtain⟨j,k⟩:=z7t (zjN f (zoy f)) a c d e;simp only[cT];exact ztP j k}
theorem zLm:vT 22 zBa:=kF4 zjJ zC zca zc8 (zq []) zSu
theorem zWM {b:Bare}(n:Int)(a:SmB b):SmB (ze6 b n):=z5f a
theorem z4W {b c:Bare}(f:SameB b c)(h:Host)(m n:Int):zdn h m (ze6 b n)=zdn h m (ze6 c n)/\zgP b n=zgP c n:=by obtain⟨a,d,e⟩:=z4C f n;exact⟨back_eq a d,e⟩
@[simp] abbrev zu4 (h:Host)(m:Int)(n:Int):Bool:=pc (zcY h)
def zyA:Run:=rF3 dH dI dI fun b c d=>(zu4 b c d,[aH (zly b c d),aB (zlz b c d)])
def zCg (N:Nat)(e:Host)(b d:Int):OA:=
 let a:=(zu e);let c:=(ix a.Mons b zi); (oN (zV e) (oN (zfV a b) (cond (nB (zfU a b)) (some [(aH a),(aB false)]) (oN (inb b (ln a.Mons)) (oN (ze8 c) (oN (zh0 (zbS c) d) (oN (ze7 a b (ze6 (zbS c) d)) (some [(aH (zhD a b (ze6 (zbS c) d))),(aB (zgP (zbS c) d))]))))))))
theorem zPg (a:Host)(c d:Int)(k:zu4 a c d=true):∃N,zCg N a c d=some [aH (zly a c d),aB (zlz a c d)]:=by
 have f:=(zX a).1 (zO.1 k);refine⟨0,?_⟩;have g:=zoc (h:=a) (m:=c) (cB:=zh0 (zda (ix a.Mons c mZ)) d) (B:=ze6 (zda (ix a.Mons c mZ)) d) (o0:=fun H=>[.agg (zbq H),.one (.b false)]) (o1:=fun H=>[.agg (zbq H),.one (.b (zgP (zda (ix a.Mons c mZ)) d))]) f
  (fun e=>zbm (zfl (f.2.1.2 _ (zbG (zcI.1 e).2 _)))) (fun e=>zWM _ (zfl (f.2.1.2 _ (zbG (zcI.1 e).2 _))))
 refine(show zCg 0 a c d=_ from g).trans ?_;unfold zly zlz zh8 zg0;cases e:zc2 a c;{rfl};{obtain⟨i,j⟩:=z4W (zjN e (zoy e)) a c d;simp only[cT];exact ztP i j}
theorem zIt:vT 53 zyA:=kF3 zjJ zC zca zc8 (zq []) zPg
theorem zZQ {b:Bare}(a:SmB b):SmB (ze5 b):=z7y a
theorem z7s {b c:Bare}(g:SameB b c)(h:Host)(m:Int):zdn h m (ze5 b)=zdn h m (ze5 c)/\zgx b=zgx c/\zgy b=zgy c:=by obtain⟨a,d,e,f⟩:=z5C g;exact⟨back_eq a d,e,f⟩
def zA9:Run:=rF2 dH dI fun b c=>(zhq b c,[aH (zmY b c),aI (zmZ b c),aB (zm0 b c)])
def zGd (N:Nat)(d:Host)(b:Int):OA:=
 let a:=(zu d);let c:=(ix a.Mons b zi); (oN (zV d) (oN (zfV a b) (cond (nB (zfU a b)) (some [(aH a),(aI (-1)),(aB false)]) (oN (inb b (ln a.Mons)) (oN (ze8 c) (oN (zdY (zbS c)) (oN (ze7 a b (ze5 (zbS c))) (some [(aH (zhD a b (ze5 (zbS c)))),(aI (zgx (zbS c))),(aB (zgy (zbS c)))]))))))))
theorem zSs (a:Host)(c:Int)(l:zhq a c=true):∃N,zGd N a c=some [aH (zmY a c),aI (zmZ a c),aB (zm0 a c)]:=by
 have e:=(zX a).1 (zO.1 l);refine⟨0,?_⟩;have f:=zoc (h:=a) (m:=c) (cB:=zdY (zda (ix a.Mons c mZ))) (B:=ze5 (zda (ix a.Mons c mZ))) (o0:=fun H=>[.agg (zbq H),.one (.i .i64 (-1)),.one (.b false)]) (o1:=fun H=>[.agg (zbq H),.one (.i .i64 (zgx (zda (ix a.Mons c mZ)))),.one (.b (zgy (zda (ix a.Mons c mZ))))]) e
  (fun d=>zbm (zfl (e.2.1.2 _ (zbG (zcI.1 d).2 _)))) (fun d=>zZQ (zfl (e.2.1.2 _ (zbG (zcI.1 d).2 _))))
 refine(show zGd 0 a c=_ from f).trans ?_;unfold zmY zmZ zm0 zh8 zg0;cases d:zc2 a c;{rfl};{obtain⟨g,j,k⟩:=z7s (zjN d (zoy d)) a c;simp only[cT];exact zbaj g j k}
theorem zLl:vT 56 zA9:=kF2 zjJ zC zca zc8 (zq []) zSs
def z2T:zZ:=[(10,zBd),(13,zuR),(16,zuT),(19,zuS),(22,zBa),(53,zyA),(56,zA9)]++z2S
theorem zvH:zN z2T:=zh zLp (zh zC9 (zh zDb (zh zDa (zh zLm (zh zIt (zh zLl zjJ))))))
def zkj (h:Host)(m t:Int):Host:=bif zb2 h then (cond (hasB m (ln h.Mons)) (cond (zk t 0 3) {h with Mons:=up h.Mons m {ix h.Mons m mZ with Traps:=t}} h) h) else h
def zAg (h:Host)(m t:Int):Bool:=bif zb2 h then (cond (hasB m (ln h.Mons)) (zk t 0 3) false) else false
@[simp] abbrev zvc (h:Host)(m t:Int):Bool:=pc (zcY h)
@[simp] abbrev zpA (h:Host)(m t:Int):Host:=zkj h m t
@[simp] abbrev zpB (h:Host)(m t:Int):Bool:=zAg h m t
def zyH:Run:=rF3 dH dI dI fun b c d=>(zvc b c d,[aH (zpA b c d),aB (zpB b c d)])
def zCp (N:Nat)(d:Host)(b c:Int):OA:=
 let a:=(zu d); (oN (zV d) (oN (zeo a) (cond (nB (zel a)) (some [(aH a),(aB false)]) (oN (zM b 0 (wsub .i64 (ln a.Mons) 1)) (cond (nB (zk b 0 (wsub .i64 (ln a.Mons) 1))) (some [(aH a),(aB false)]) (oN (zM c 0 3) (cond (nB (zk c 0 3)) (some [(aH a),(aB false)]) (oN (inb b (ln a.Mons)) (share (up a.Mons b ({ (ix a.Mons b zi) with Traps:=c}:Mon)) (fun e=>(some [(aH ({a with Mons:=e}:Host)),(aB true)])))))))))))
theorem zPq (a:Host)(b c:Int)(d:zvc a b c=true):∃N,zCp N a b c=some [aH (zpA a b c),aB (zpB a b c)]:=by
 have g:=(zX a).1 (zO.1 d);refine⟨0,?_⟩;unfold zCp zpA zpB zkj zAg oN nB;conv=>zeta
 refine must d (must rfl ?_);rw[show zel (zu a)=zb2 a from rfl];cases e:zb2 a;{rfl};{refine zdU rfl (must rfl ?_);rw[show zk b 0 (wsub .i64 (ln (zu a).Mons) 1)=hasB b (ln a.Mons) from zQh e b];cases f:hasB b (ln a.Mons);{rfl};{refine zdU rfl (must rfl ?_);rw[show zk c 0 3=zk c 0 3 from rfl];cases h:zk c 0 3;{rfl};{exact zdU rfl (must (zF f) rfl)}}}
theorem zIE:vT 338 zyH:=kF3 zvH zC zca zc8 (zq []) zPq
theorem zkR {h:Host}{m p:Int}:(zcH h m p=true)↔zb2 h=true/\hasB m (ln h.Mons)=true/\hasB p 8=true:=by unfold zcH;cases zb2 h<;>cases hasB m (ln h.Mons)<;>simp
def zk1 (h:Host)(m p:Int):Bool:=ieq (ix (ix h.Mons m mZ).Outer p sZ).Page (-1)
def zqB (h:Host)(m p:Int):Host:=bif zcH h m p then (cond (zk1 h m p) h (zdV h m p)) else h
def zDC (h:Host)(m p:Int):Bool:=bif zcH h m p then !zk1 h m p else false
def zuH (h:Host)(m p:Int):Host:=bif zcH h m p then (cond (zk1 h m p) (fetched h m p) h) else h
def zJg (h:Host)(m p:Int):Bool:=bif zcH h m p then zk1 h m p else false
@[simp] abbrev zrz (h:Host)(m p:Int):Host:=zqB h m p
@[simp] abbrev zrA (h:Host)(m p:Int):Bool:=zDC h m p
@[simp] abbrev ztD (h:Host)(m p:Int):Host:=zuH h m p
@[simp] abbrev ztE (h:Host)(m p:Int):Bool:=zJg h m p
theorem zMy {h:Host}(f:SmH h)(c:zb2 h=true){m p:Int}(d:hasB m (ln h.Mons)=true)(e:hasB p 8=true) :
 (cond (ieq (ix (ix h.Mons m mZ).Outer p sZ).Page (-1)) (ieq (ix (ix h.Mons m mZ).Outer p sZ).Rights 0) false)=zk1 h m p:=by
 have a:=(ztq (zhp c _ (zbG d mZ)) e).no;unfold zcQ at a;unfold zk1;rw[<- a];cases b:ieq (ix (ix h.Mons m mZ).Outer p sZ).Page (-1)<;>simp [noSlot,b]
theorem zRn {h:Host}(d:SmH h)(a:zb2 h=true){m p:Int}(b:hasB m (ln h.Mons)=true)(c:hasB p 8=true):inb p (ln (ix h.Mons m mZ).Outer)=true :=
 zF (by rw[ln,((zfH d a).1.2 _ (zbG b mZ)).1];exact c)
def zBh:Run:=rF3 dH dI dI fun b c d=>(ziA b c d,[aH (zrz b c d),aB (zrA b c d)])
def zGo (N:Nat)(e:Host)(c b:Int):OA:=
 let a:=(zu e);let d:=(ix a.Mons c zi).Outer; (oN (zV e) (oN (zot a c b) (cond (nB (zf1 a c b)) (some [(aH a),(aB false)]) (oN (inb c (ln a.Mons)) (oN (inb b (ln d)) (oN zbE (cond (cond (ieq (ix d b zU).Page zbc.Page) (ieq (ix d b zU).Rights zbc.Rights) false) (some [(aH a),(aB false)]) (oN (zkh a c b) (some [(aH (zn6 a c b)),(aB true)])))))))))
theorem zSE (a:Host)(b c:Int)(h:ziA a b c=true):∃N,zGo N a b c=some [aH (zrz a b c),aB (zrA a b c)]:=by
 have g:=(zX a).1 (zO.1 h);refine⟨0,?_⟩;unfold zGo zrz zrA zqB zDC oN nB;conv=>zeta
 refine must h (must rfl ?_);rw[show zf1 (zu a) b c=zcH a b c from rfl];cases i:zcH a b c;{rfl};{obtain⟨e,d,f⟩:=zkR.1 i;refine zdU rfl (must (zF d) (must (zRn g e d f) (must rfl ?_)));rw[show (cond (ieq (ix (ix (zu a).Mons b zi).Outer c zU).Page zbc.Page) (ieq (ix (ix (zu a).Mons b zi).Outer c zU).Rights zbc.Rights) false)=zk1 a b c from zMy g e d f];cases j:zk1 a b c;{exact zdU rfl (must (zbm ⟨(zfH g e).1,d,f⟩) rfl)};{rfl}}
theorem zLu:vT 335 zBh:=kF3 zvH zC zca zc8 (zq []) zSE
def zDS:Run:=rF3 dH dI dI fun b c d=>(ziA b c d,[aH (ztD b c d),aB (ztE b c d)])
def zKb (N:Nat)(e:Host)(c b:Int):OA:=
 let a:=(zu e);let d:=(ix a.Mons c zi).Outer; (oN (zV e) (oN (zot a c b) (cond (nB (zf1 a c b)) (some [(aH a),(aB false)]) (oN (inb c (ln a.Mons)) (oN (inb b (ln d)) (oN zbE (cond (nB (cond (ieq (ix d b zU).Page zbc.Page) (ieq (ix d b zU).Rights zbc.Rights) false)) (some [(aH a),(aB false)]) (oN (zlV a c b) (some [(aH (zmH a c b)),(aB true)])))))))))
theorem zVy (a:Host)(b c:Int)(h:ziA a b c=true):∃N,zKb N a b c=some [aH (ztD a b c),aB (ztE a b c)]:=by
 have g:=(zX a).1 (zO.1 h);refine⟨0,?_⟩;unfold zKb ztD ztE zuH zJg oN nB;conv=>zeta
 refine must h (must rfl ?_);rw[show zf1 (zu a) b c=zcH a b c from rfl];cases i:zcH a b c;{rfl};{obtain⟨e,d,f⟩:=zkR.1 i;refine zdU rfl (must (zF d) (must (zRn g e d f) (must rfl ?_)));rw[show (cond (ieq (ix (ix (zu a).Mons b zi).Outer c zU).Page zbc.Page) (ieq (ix (ix (zu a).Mons b zi).Outer c zU).Rights zbc.Rights) false)=zk1 a b c from zMy g e d f];cases j:zk1 a b c;{rfl};{exact zdU rfl (must (zbm ⟨zfH g e,d,f⟩) rfl)}}
theorem zOn:vT 336 zDS:=kF3 zvH zC zca zc8 (zq []) zVy
def z2U:zZ:=[(338,zyH),(335,zBh),(336,zDS)]++z2T
theorem zQR:zN z2U:=zh zIE (zh zLu (zh zOn zvH))
theorem z2p {x:Mon}{b:Bare}(h:zeT x)(a:zlg b.Guests):zeT (zvE x b):=⟨h.1,h.2.1,h.2.2.1,a,h.2.2.2.2⟩
theorem zJx {h:Host}{m:Int}{b:Bare}(a:SmH h)(d:hasB m (ln h.Mons)=true)(c:zlg b.Guests):SmH (zdn h m b):=
 ⟨a.1,ziH a.2.1 (z2p (a.2.1.2 _ (zbG d _)) c),a.2.2⟩
theorem zTY {h:Host}{m:Int}(b:Bare)(a:hasB m (ln h.Mons)=true):hasB m (ln (zdn h m b).Mons)=true:=by show hasB m (ln (up h.Mons m _))=true;rw[ln,zfW];exact a
theorem zbaa {h:Host}{m:Int}(b:Bare)(c:hasB m (ln h.Mons)=true):ix (zdn h m b).Mons m mZ=zvE (ix h.Mons m mZ) b:=by obtain⟨k,rfl,a⟩:=zd4 (n:=h.Mons.length) c;exact zdT a _ _
def zCT (h:Host)(m g p:Int):Host:=⟨h.Memory,up h.Mons m {ix h.Mons m mZ with Tables:=up (ix h.Mons m mZ).Tables g (zbN (ix (ix h.Mons m mZ).Tables g kZ) p)},zcJ h.Buffer (zd8 m g) p,zcJ h.IoBuffer (zd8 m g) p⟩
def z3A (H:Host)(m g p:Int)(o:Host->Ans):OA:=
 bif inb m (ln H.Mons) then (bif inb m (ln H.Mons) then (bif inb g (ln (ix H.Mons m mZ).Tables) then (bif zcU (ix (ix H.Mons m mZ).Tables g kZ) p then (bif inb g (ln (ix H.Mons m mZ).Tables) then (share (up H.Mons m {ix H.Mons m mZ with Tables:=up (ix H.Mons m mZ).Tables g (zbN (ix (ix H.Mons m mZ).Tables g kZ) p)}) fun x=>
  (cond (zhw m g) (cond (zff H.Buffer (zd8 m g) p) (cond (zhw m g) (cond (zff H.IoBuffer (zd8 m g) p) (some (o ⟨H.Memory,x,zcJ H.Buffer (zd8 m g) p,zcJ H.IoBuffer (zd8 m g) p⟩)) none) none) none) none)) else none) else none) else none) else none) else none
theorem z3B {H:Host}{m g p:Int}{o:Host->Ans}(b:SmH H)(a:hasB m (ln H.Mons)=true)(hg:hasB g (ln (ix H.Mons m mZ).Tables)=true):z3A H m g p o=some (o (zCT H m g p)):=by have c:=b.2.1.2 _ (zbG a mZ);unfold z3A;exact must (zF a) (must (zF a) (must (zF hg) (must (zbm (c.2.2.2.2.2.2 _ (zbG hg _))) (must (zF hg) (shr (must rfl (must (zbm b.2.2.1) (must rfl (must (zbm b.2.2.2) rfl)))))))))
def zlr (h:Host)(m g p:Int):Host:=bif zc2 h m then (cond (zck (zK h m) g (hasB p 4)) (zCT (zdn h m (chg (zK h m) g (hasB p 4) (zea (gAt (zK h m) g) p))) m g p) h) else h
@[simp] abbrev zsY (h:Host)(m g p:Int):Bool:=pc (zcY h)
@[simp] abbrev znA (h:Host)(m g p:Int):Host:=zlr h m g p
theorem zYT {h:Host}{m:Int}(a:hasB m (ln h.Mons)=true):(zK h m).Guests=(ix h.Mons m mZ).Guests:=by unfold zK;rw[a];rfl
theorem zQ7 {h:Host}{m g:Int}{k:Bool}(i:SmH h)(e:zc2 h m=true)(b:Bare)(a:zck (zK h m) g k=true):hasB g (ln (ix (zdn h m b).Mons m mZ).Tables)=true:=by obtain⟨f,c⟩:=zcI.1 e;rw[zbaa b c];show hasB g (ln (ix h.Mons m mZ).Tables)=true;rw[ln,((zfH i f).1.2 _ (zbG c mZ)).2.2.2,<- zYT c];unfold zck at a;cases d:zci (zK h m) g;{rw [d]at a;cases a};{exact(zdW.1 d).2}
def zwq:Run:=rF4 dH dI dI dI fun b c d e=>(zsY b c d e,[aH (znA b c d e),aB (zkw b c d e)])
def zAJ (N:Nat)(i:Host)(a b c:Int):OA:=
 let h:=(zkT a b);let e:=(zu i);let g:=(ix e.Mons a zi);let d:=(zhD e a (zfd (zbS g) b c));let f:=(ix d.Mons a zi);let j:=(ix f.Tables b zcN); (oN (zV i) (oN (zfV e a) (cond (nB (zfU e a)) (some [(aH e),(aB false)]) (oN (inb a (ln e.Mons)) (oN (ze8 g) (oN (zsW (zbS g) b c) (cond (nB (zil (zbS g) b c)) (some [(aH e),(aB false)]) (oN (ze7 e a (zfd (zbS g) b c)) (oN (inb a (ln d.Mons)) (oN (inb a (ln d.Mons)) (oN (inb b (ln f.Tables)) (oN (zcU j c) (oN (inb b (ln f.Tables)) (share (up d.Mons a ({f with Tables:=(up f.Tables b (zem j c))}:Mon)) (fun k=>(oN (zhw a b) (oN (zff d.Buffer h c) (oN (zhw a b) (oN (zff d.IoBuffer h c) (some [(aH (⟨d.Memory,k,(zht d.Buffer h c),(zht d.IoBuffer h c)⟩:Host)),(aB true)]))))))))))))))))))))
theorem zMm (a:Host)(c d e:Int)(j:zbU big [aH a,aI c,aI d,aI e])(q:zsY a c d e=true):∃N,zAJ N a c d e=some [aH (znA a c d e),aB (zkw a c d e)]:=by
 have k:=(zX a).1 (zO.1 q);refine⟨0,?_⟩;unfold zAJ znA zkw zlr zg0 oN nB;conv=>zeta
 refine must q (must rfl ?_);rw[show zfU (zu a) c=zc2 a c from rfl];cases h:zc2 a c;{rfl};{obtain⟨v,f⟩:=zcI.1 h;have r:=k.2.1.2 _ (zbG f mZ);have l:=zfl r;have i:=zjN h (zoy h);have u:zck (zda (ix a.Mons c mZ)) d (hasB e 4)=zck (zK a c) d (hasB e 4):=zl8 i _ _;have s:zdn a c (zfd (zda (ix a.Mons c mZ)) d e)=zdn a c (chg (zK a c) d (hasB e 4) (zea (gAt (zK a c) d) e)):=(by rw[<- i.at];exact zqi i _ _ _ _ _);refine zdU rfl (must (zF f) (must (zbm r) (must (zbm l) ?_)));rw[show zil (zbS (ix (zu a).Mons c zi)) d e=zck (zK a c) d (hasB e 4) from u];cases t:zck (zK a c) d (hasB e 4);{rfl};{have j:SmB (zfd (zda (ix a.Mons c mZ)) d e):=zqV l (zM7 _ (zkK _ l));refine zdU rfl (must (zbm ⟨f,j.2.1⟩) ?_);have n:=z3B (H:=zdn a c (zfd (zda (ix a.Mons c mZ)) d e)) (m:=c) (g:=d) (p:=e) (o:=fun H=>[.agg (zbq H),.one (.b true)]) (zJx k f j.2.1) (zTY _ f) (zQ7 k h _ t);refine(show _=_ from n).trans ?_;rw[s];rfl}}
theorem zFm:vT 29 zwq:=hF4 zQR zC zca zc8 (zq []) zMm
def z2V:zZ:=[(29,zwq)]++z2U
theorem zQS:zN z2V:=zh zFm zQR
def zWk (h:Host)(m p c v:Int):Host:={mended h m p 2 with Memory:=zbO (mended h m p 2).Memory (ix (ix (mended h m p 2).Mons m mZ).Outer p sZ).Page c v}
def zfI (h:Host)(m p c v:Int):Bool:=bif zcH h m p then (cond (hasB c 4) (zk v 0 99) false) else false
def znR (h:Host)(m p c v:Int):Host:=bif zfI h m p c v then zWk h m p c v else h
@[simp] abbrev zu3 (h:Host)(m p c v:Int):Bool:=pc (zcY h)
@[simp] abbrev zpu (h:Host)(m p c v:Int):Host:=znR h m p c v
@[simp] abbrev zpv (h:Host)(m p c v:Int):Bool:=zfI h m p c v
def z9V (H:Host)(m p c v:Int)(o:Host->Ans):OA:=
 bif zhz H m p 2 then (cond (inb m (ln (mended H m p 2).Mons)) (cond (inb p (ln (ix (mended H m p 2).Mons m mZ).Outer)) (cond (zjA (mended H m p 2).Memory (ix (ix (mended H m p 2).Mons m mZ).Outer p sZ).Page c v) (some (o (zWk H m p c v))) none) none) none) else none
theorem z7j {h:Host}{m p c v:Int}{o:Host->Ans}(j:SmH h)(i:zcH h m p=true):z9V h m p c v o=some (o (zWk h m p c v)):=by obtain⟨g,b,a⟩:=zkR.1 i;have f:=zfH j g;obtain⟨d,e⟩:=zvk (n:=2) f b a;unfold z9V;refine must (zbm ⟨f,b,a,.inr rfl,ztq (zhp g _ (zbG b mZ)) a⟩) (must (zF e) (must (zF ?_) (must (zbm d.1.1) rfl)));rw[ln,(d.2 _ (zbG e mZ)).1];exact a
def zyz:Run:=rF5 dH dI dI dI dI fun b c d e f=>(zu3 b c d e f,[aH (zpu b c d e f),aB (zpv b c d e f)])
def zCf (N:Nat)(g:Host)(b c:Int)(e f:Int):OA:=
 let a:=(zu g);let d:=(zgW a b c 2);let h:=(ix d.Mons b zi).Outer;let i:=(ix h c zU).Page; (oN (zV g) (oN (zot a b c) (cond (nB (zf1 a b c)) (some [(aH a),(aB false)]) (oN (zM e 0 3) (cond (nB (zk e 0 3)) (some [(aH a),(aB false)]) (oN (zM f 0 99) (cond (nB (zk f 0 99)) (some [(aH a),(aB false)]) (oN (zhz a b c 2) (oN (inb b (ln d.Mons)) (oN (inb c (ln h)) (oN (zjA d.Memory i e f) (some [(aH ({d with Memory:=(zkc d.Memory i e f)}:Host)),(aB true)]))))))))))))
theorem zPf (d:Host)(f g:Int)(a e:Int)(i:zu3 d f g a e=true):∃N,zCf N d f g a e=some [aH (zpu d f g a e),aB (zpv d f g a e)]:=by
 have k:=(zX d).1 (zO.1 i);refine⟨0,?_⟩;unfold zCf zpu zpv znR zfI oN nB;conv=>zeta
 refine must i (must rfl ?_);rw[show zf1 (zu d) f g=zcH d f g from rfl];cases j:zcH d f g;{rfl};{refine zdU rfl (must rfl ?_);rw[show zk a 0 3=hasB a 4 from zbcx a];cases l:hasB a 4;{rfl};{refine zdU rfl (must rfl ?_);rw[show zk e 0 99=zk e 0 99 from rfl];cases m:zk e 0 99;{rfl};{have h:=z7j (c:=a) (v:=e) (o:=fun H=>[.agg (zbq H),.one (.b true)]) k j;exact zdU rfl (show _=_ from h)}}}
theorem zIs:vT 32 zyz:=kF5 zQS zC zca zc8 (zq []) zPf
def z2W:zZ:=[(32,zyz)]++z2V
theorem zQT:zN z2W:=zh zIs zQS
@[simp] abbrev zhU (h:Host)(m g b a:Int):Host:=(lookOf h h.IoBuffer m g b a true).1
@[simp] abbrev zls (h:Host)(m g b a:Int):Int:=(lookOf h h.IoBuffer m g b a true).2.1
@[simp] abbrev zlt (h:Host)(m g b a:Int):Bool:=(lookOf h h.IoBuffer m g b a true).2.2
def zjo:Run:=rF5 dH dI dI dI dI fun b c d e f=>(zfJ b c d e f,[aH (zhU b c d e f),aI (zls b c d e f),aB (zlt b c d e f)])
def zBX (N:Nat)(a:Host)(b c:Int)(d e:Int):OA:=
 (oN (ztm a b c d e true) (some [(aH (ztj a b c d e true)),(aI (ztk a b c d e true)),(aB (ztl a b c d e true))]))
theorem zOV (a:Host)(b c:Int)(d e:Int)(f:zfJ a b c d e=true):∃N,zBX N a b c d e=some [aH (zhU a b c d e),aI (zls a b c d e),aB (zlt a b c d e)]:=by refine⟨0,?_⟩;unfold zBX oN;exact must f rfl
theorem zuu:vT 42 zjo:=kF5 zQT zC zca zc8 (zq []) zOV
def z2X:zZ:=[(42,zjo)]++z2W
theorem zCN:zN z2X:=zh zuu zQT
theorem zVR (h:Host)(b:List Entry)(m g c a:Int)(e:Bool):(lookOf h b m g c a e).2.2=zbP h m g c a:=by cases d:zbP h m g c a;{rw [zgk d]};{rw [zJc d];unfold zfM zet;generalize zhG b m g c a=x;cases x;{generalize zeq _ m g c a=y;cases y<;>rfl};{rfl}}
theorem zbaU {h:Host}{m g c a:Int}(b:List Entry)(i:Bool)(f:SmH h)(d:zbP h m g c a=true):SmM (lookOf h b m g c a i).1.Memory:=by have hg:zb3 h m g=true:=(by unfold zbP at d;cases e:zb3 h m g;{rw [e]at d;cases d};{rfl});exact(zx2 f hg).shape.1.1
def zDi (h:Host)(m g a n:Int):Host×Int×Bool:=lookOf h h.IoBuffer m g (zbp a) n true
def zho (h:Host)(m g a v:Int):Bool:=bif zk a 0 15 then (cond (zk v 0 99) (zbP h m g (zbp a) 2) false) else false
def zqu (h:Host)(m g a v:Int):Host:=bif zho h m g a v then { (zDi h m g a 2).1 with Memory:=zbO (zDi h m g a 2).1.Memory (zDi h m g a 2).2.1 (zdu a) v} else h
def zgu (h:Host)(m g a:Int):Bool:=bif zk a 0 15 then zbP h m g (zbp a) 1 else false
def znS (h:Host)(m g a:Int):Host:=bif zgu h m g a then (zDi h m g a 1).1 else h
def zsd (h:Host)(m g a:Int):Int:=bif zgu h m g a then cellAt (zDi h m g a 1).1.Memory (zDi h m g a 1).2.1 (zdu a) else 0
@[simp] abbrev zxf (h:Host)(m g a v:Int):Bool:=pc (zcY h)
@[simp] abbrev zrv (h:Host)(m g a v:Int):Host:=zqu h m g a v
@[simp] abbrev zrx (h:Host)(m g a v:Int):Bool:=zho h m g a v
@[simp] abbrev zu5 (h:Host)(m g a:Int):Bool:=pc (zcY h)
@[simp] abbrev zpw (h:Host)(m g a:Int):Host:=znS h m g a
@[simp] abbrev zpx (h:Host)(m g a:Int):Int:=zsd h m g a
@[simp] abbrev zpy (h:Host)(m g a:Int):Bool:=zgu h m g a
def zBb:Run:=rF5 dH dI dI dI dI fun b c d e f=>(zxf b c d e f,[aH (zrv b c d e f),aB (zrx b c d e f)])
def zGg (N:Nat)(g:Host)(c d:Int)(a e:Int):OA:=
 let b:=(zu g);let h:=(zhB b b.IoBuffer c d (zc4 a) 2 true);let f:=(zeI b b.IoBuffer c d (zc4 a) 2 true); (oN (zV g) (oN (zM a 0 15) (cond (nB (zk a 0 15)) (some [(aH b),(aB false)]) (oN (zM e 0 99) (cond (nB (zk e 0 99)) (some [(aH b),(aB false)]) (oN (zdD a) (oN (zhC b b.IoBuffer c d (zc4 a) 2 true) (cond (nB (zfB b b.IoBuffer c d (zc4 a) 2 true)) (some [(aH f),(aB false)]) (oN (zdD a) (oN (zjA f.Memory h (zeM a) e) (some [(aH ({f with Memory:=(zkc f.Memory h (zeM a) e)}:Host)),(aB true)])))))))))))
theorem zSv (a:Host)(c d:Int)(b e:Int)(f:zxf a c d b e=true):∃N,zGg N a c d b e=some [aH (zrv a c d b e),aB (zrx a c d b e)]:=by
 have h:=(zX a).1 (zO.1 f);refine⟨0,?_⟩;unfold zGg zrv zrx zqu zho oN nB;conv=>zeta
 refine must f (must rfl ?_);rw[show zk b 0 15=zk b 0 15 from rfl];cases i:zk b 0 15;{rfl};{refine zdU rfl (must rfl ?_);rw[show zk e 0 99=zk e 0 99 from rfl];cases j:zk e 0 99;{rfl};{refine zdU rfl (must rfl (must f ?_));rw[show zfB (zu a) (zu a).IoBuffer c d (zc4 b) 2 true=zbP a c d (zbp b) 2 from zVR _ _ _ _ _ _ _];cases g:zbP a c d (zbp b) 2;{rw [show zeI (zu a) (zu a).IoBuffer c d (zc4 b) 2 true=a from congrArg Prod.fst (zgk g)];rfl};{exact zdU rfl (must rfl (must (zbm (zbaU a.IoBuffer true h g)) rfl))}}}
theorem zLn:vT 59 zBb:=kF5 zCN zC zca zc8 (zq []) zSv
def zyB:Run:=rF4 dH dI dI dI fun b c d e=>(zu5 b c d e,[aH (zpw b c d e),aI (zpx b c d e),aB (zpy b c d e)])
def zCh (N:Nat)(f:Host)(c d a:Int):OA:=
 let b:=(zu f);let g:=(zhB b b.IoBuffer c d (zc4 a) 1 true);let e:=(zeI b b.IoBuffer c d (zc4 a) 1 true); (oN (zV f) (oN (zM a 0 15) (cond (nB (zk a 0 15)) (some [(aH b),(aI 0),(aB false)]) (oN (zdD a) (oN (zhC b b.IoBuffer c d (zc4 a) 1 true) (cond (nB (zfB b b.IoBuffer c d (zc4 a) 1 true)) (some [(aH e),(aI 0),(aB false)]) (oN (zdD a) (oN (ziE e.Memory g (zeM a)) (some [(aH e),(aI (zn0 e.Memory g (zeM a))),(aB true)])))))))))
theorem zPh (a:Host)(c d b:Int)(e:zu5 a c d b=true):∃N,zCh N a c d b=some [aH (zpw a c d b),aI (zpx a c d b),aB (zpy a c d b)]:=by
 have h:=(zX a).1 (zO.1 e);refine⟨0,?_⟩;unfold zCh zpw zpx zpy znS zsd zgu oN nB;conv=>zeta
 refine must e (must rfl ?_);rw[show zk b 0 15=zk b 0 15 from rfl];cases g:zk b 0 15;{rfl};{refine zdU rfl (must rfl (must e ?_));rw[show zfB (zu a) (zu a).IoBuffer c d (zc4 b) 1 true=zbP a c d (zbp b) 1 from zVR _ _ _ _ _ _ _];cases f:zbP a c d (zbp b) 1;{rw [show zeI (zu a) (zu a).IoBuffer c d (zc4 b) 1 true=a from congrArg Prod.fst (zgk f)];rfl};{exact zdU rfl (must rfl (must rfl rfl))}}
theorem zIu:vT 62 zyB:=kF4 zCN zC zca zc8 (zq []) zPh
def z2Y:zZ:=[(59,zBb),(62,zyB)]++z2X
theorem z2Z:zN z2Y:=zh zLn (zh zIu zCN)
def z3a:zZ:=[(194,zqJ),(195,zms)]++z2Y
theorem zQU:zN z3a:=zh zuy (zh znQ z2Z)
def zkP:Kept:=⟨rp 4 false,zlZ⟩
@[simp] abbrev zxj (n:Int):Bool:=ieq n 4
@[simp] abbrev zwE (n:Int):Kept:=zkP
def zBf:Run:=rF1 dI fun b=>(zxj b,[aT .kept (zwE b)])
def zXB (N:Nat)(b:Int):OA:=
 let a:=(ln (zhk b)); (oN (zjz b) (oN (cond (few a) (ieq a a) false) (some [(aT .kept (⟨(rp a false),(zhk b)⟩:Kept))])))
theorem zSz (a:Int)(b:zxj a=true):∃N,zXB N a=some [aT .kept (zwE a)]:=by refine⟨0,?_⟩;have h:a=4:=qE b;subst h;change _=_;kernel_rfl
theorem zLr:vT 196 zBf:=kF1 zQU zC zca zc8 (zq []) zSz
def z3b:zZ:=[(196,zBf)]++z3a
theorem zQV:zN z3b:=zh zLr zQU
def zvm:List Slot:=List.replicate 8 ⟨-1,0⟩
def zhb (a:List (List Ins)):Mon:=⟨zvm,zPC,rp 8 false,(a.take 2).map zfi,[],0,0,(a.take 2).map (fun _=>zkP),0⟩
theorem zMs {d a b q:Type}(m:Nat)(f:d->a)(g:d->b)(K:List a×List b->Option q):∀(l:List d) (i:Nat) (u:List a×List b),u.1.length+l.length<=2147483648->u.2.length+l.length<=2147483648->
 goL (fun (i:Nat) x (u:List a×List b) k=>bif ilt (i:Int) (m:Int) then (cond (few (ln (ap u.1 [f x]))) (cond (few (ln (ap u.2 [g x]))) (k (ap u.1 [f x],ap u.2 [g x])) none) none) else K u) K l i u=K (u.1++(l.take (m-i)).map f,u.2++(l.take (m-i)).map g)
 |[],i,u,_,_=>by simp[goL]
 |x::l,i,u,n,p=>by simp only[qX]at n p;have e:few (ln (ap u.1 [f x]))=true:=zge (by simp[ap];omega);have j:few (ln (ap u.2 [g x]))=true:=zge (by simp[ap];omega);by_cases h:i<m;{have c:ilt (i:Int) (m:Int)=true:=qI (by omega);simp only[goL,c,e,j,cT];rw[zMs m f g K l (i+1) _ (by simp[ap];omega) (by simp[ap];omega)];rw[show m-i=m-(i+1)+1 by omega];simp[ap]};{have c:ilt (i:Int) (m:Int)=false:=qL (by omega);simp only[goL,c,cF];rw[show m-i=0 by omega];simp}
def z4k (u:List Guest×List Kept):OA:=some [AV.agg (Ty.cells .mon (⟨zvm,zPC,rp 8 false,u.1,[],0,0,u.2,0⟩:Mon))]
@[simp] abbrev ztB (a:List (List Ins)):Bool:=pc (SmPs a)
@[simp] abbrev zJt (a:List (List Ins)):Mon:=zhb a
def zDQ:Run:=rF1 (dS (.sl .ins)) fun b=>(ztB b,[aT .mon (zJt b)])
def zJ8 (N:Nat)(k:lP):OA:=
 (oN (zjz 8) (oN (zpz 8) (oN (cond (few 8) (ieq 8 8) false) (iter (σ:=(Int×(Int×(Int×(Int×(Int×(Int×(Int×(lP×(lS×(lM×(lB×(lG×((List Int)×(lK×(lS×(lM×(lB×(lG×((List Int)×(lK×Unit))))))))))))))))))))) N (fun l a=>let j:=a.2.2.2.2.2.2.2.2.2.2.2.2.2.2.1;let i:=a.2.2.2.2.2.2.2.2.2.2.2.2.2.2.2.1;let h:=a.2.2.2.2.2.2.2.2.2.2.2.2.2.2.2.2.1;let g:=a.2.2.2.2.2.2.2.2.2.2.2.2.2.2.2.2.2.1;let f:=a.2.2.2.2.2.2.2.2.2.2.2.2.2.2.2.2.2.2.1;let b:=a.2.2.2.2.2.2.2.1;let c:=a.2.2.2.2.2.2.2.2.2.2.2.2.2.2.2.2.2.2.2.1;let e:=(ap g [(zcr (ix b a.1 []))]);let d:=(aT .mon (⟨j,i,h,g,f,a.2.2.2.2.1,a.2.2.2.2.2.1,c,a.2.2.2.2.2.2.1⟩:Mon)); (cond (ilt a.1 (ln b)) (cond (ilt a.1 2) (oN (inb a.1 (ln b)) (oN (zjy (ix b a.1 [])) (oN (few (ln e)) (oN (zxj 4) (oN (few (ln (ap c [(zwE 4)]))) (l ((zL .i64 a.1 1),(a.2.1,(a.2.2.1,(a.2.2.2.1,(a.2.2.2.2.1,(a.2.2.2.2.2.1,(a.2.2.2.2.2.2.1,(b,(a.2.2.2.2.2.2.2.2.1,(a.2.2.2.2.2.2.2.2.2.1,(a.2.2.2.2.2.2.2.2.2.2.1,(a.2.2.2.2.2.2.2.2.2.2.2.1,(a.2.2.2.2.2.2.2.2.2.2.2.2.1,(a.2.2.2.2.2.2.2.2.2.2.2.2.2.1,(j,(i,(h,(e,(f,((ap c [(zwE 4)]),())))))))))))))))))))))))))) (some [d])) (some [d]))) (0,(0,(0,(0,(0,(0,(0,(k,([],([],([],([],([],([],((zhk 8),((zka 8),((rp 8 false),([],([],([],()))))))))))))))))))))))))
def zXi:FuncId->Nat->Option Tmpl:=zq [(95,0,{n:=36,tm:=[(0,.sl 0 []),(2,.lp 0 0),(3,.lp 1 0),(4,ti)],lo:=[(0,[.sl 1 [],.sl 2 [],.sl 3 [],.sl 4 [],.sl 5 [],ti,ti,.sl 6 [],ti]),(1,[.sl 7 [],.sl 8 [],.sl 9 [],.sl 10 [],.sl 11 [],ti,ti,.sl 12 [],ti])],ro:=[(0,(.sl .ins),false),(1,.slot,true),(2,(.sl .int),true),(3,.bool,true),(4,.guest,true),(5,.int,true),(6,.kept,true),(7,.slot,true),(8,(.sl .int),true),(9,.bool,true),(10,.guest,true),(11,.int,true),(12,.kept,true)]})]
theorem zVv (a:List lI)(f:ztB a=true):∃N,zJ8 N a=some [aT .mon (zJt a)]:=by
 have e:=zO.1 f;have c:=zcv e.1;refine zb6 fun N d=>?_;unfold zJ8 oN;conv=>zeta
 refine must rfl (must rfl (must rfl ?_));refine(zbk a (fun i (t:lG×lK)=>((i:Int),0,0,0,0,0,0,a,[],[],[],[],[],[],(zhk 8),(zka 8),(rp 8 false),t.1,[],t.2,())) _ (fun i (x:List Ins) (u:List Guest×List Kept) h=>bif ilt (i:Int) ((2:Nat):Int) then (cond (few (ln (ap u.1 [zfi x]))) (cond (few (ln (ap u.2 [zkP]))) (h (ap u.1 [zfi x],ap u.2 [zkP])) none) none) else z4k u) (fun (t:lG×lK)=>(some [(.agg (Ty.cells .mon (⟨(zhk 8),(zka 8),(rp 8 false),t.1,[],0,0,t.2,0⟩:Mon)))])) (fun i b t rec=>?_) (fun t rec=>?_) _ ([],[]) (d c.1)).trans ?_;{simp only [zbn b,zT b,zbd b,zY b c.1,cT];have g:zjy a[i]=true:=zbm (e.2 _ (q9 b));simp only[g,cT];rfl};{simp only [zbh,cF]};exact zMs 2 zfi (fun _=>zkP) z4k a 0 ([],[]) (by simpa using c.2) (by simpa using c.2)
theorem zOk:vT 95 zDQ:=kF1 zQV zC zca zc8 zXi zVv
def z3c:zZ:=[(95,zDQ)]++z3b
theorem zQW:zN z3c:=zh zOk zQV
def z1o:List (List Int):=List.replicate 12 [0,0,0,0]
def zfY (a:List (List (List Ins))):Host:=⟨z1o,(a.take 3).map zhb,[],[]⟩
def zKt (a:List (List (List Ins))):Prop:=a.length<=1048576/\∀p∈a,SmPs p
@[simp] abbrev zxg (a:List (List (List Ins))):Bool:=pc (zKt a)
@[simp] abbrev zhu (a:List (List (List Ins))):Host:=zfY a
def zZw (t:List Mon):OA:=some [AV.agg (zbq ⟨z1o,t,[],[]⟩)]
def zBc:Run:=rF1 (dS (.sl (.sl .ins))) fun b=>(zxg b,[aH (zhu b)])
def zGh (N:Nat)(d:lQ):OA:=
 (oN (zpz 12) (iter (σ:=(Int×(lQ×(lM×(lN×(lE×(lE×(lM×(lN×(lE×(lE×Unit))))))))))) N (fun e a=>let c:=(ap a.2.2.2.2.2.2.2.1 [(zJt (ix a.2.1 a.1 []))]);let b:=(aH (⟨a.2.2.2.2.2.2.1,a.2.2.2.2.2.2.2.1,a.2.2.2.2.2.2.2.2.1,a.2.2.2.2.2.2.2.2.2.1⟩:Host)); (cond (ilt a.1 (ln a.2.1)) (cond (ilt a.1 3) (oN (inb a.1 (ln a.2.1)) (oN (ztB (ix a.2.1 a.1 [])) (oN (few (ln c)) (e ((zL .i64 a.1 1),(a.2.1,(a.2.2.1,(a.2.2.2.1,(a.2.2.2.2.1,(a.2.2.2.2.2.1,(a.2.2.2.2.2.2.1,(c,(a.2.2.2.2.2.2.2.2.1,(a.2.2.2.2.2.2.2.2.2.1,())))))))))))))) (some [b])) (some [b]))) (0,(d,([],([],([],([],((zka 12),([],([],([],()))))))))))))
def zTe:FuncId->Nat->Option Tmpl:=zq [(23,0,{n:=28,tm:=[(0,.sl 0 []),(2,.lp 0 0),(3,.lp 1 0),(4,ti)],lo:=[(0,[.sl 1 [],.sl 2 [],.sl 3 [],.sl 4 []]),(1,[.sl 5 [],.sl 6 [],.sl 7 [],.sl 8 []])],ro:=[(0,(.sl (.sl .ins)),false),(1,(.sl .int),true),(2,.mon,true),(3,.entry,true),(4,.entry,true),(5,(.sl .int),true),(6,.mon,true),(7,.entry,true),(8,.entry,true)]})]
theorem zSw (a:List lP)(f:zxg a=true):∃N,zGh N a=some [aH (zhu a)]:=by
 have e:=zO.1 f;have d:=zcv e.1;refine zb6 fun N c=>?_;unfold zGh oN;conv=>zeta
 refine must rfl ?_;refine(zbk a (fun i (t:lN)=>((i:Int),a,[],[],[],[],(zka 12),t,[],[],())) _ (fun i (x:List lI) (t:List Mon) h=>bif ilt (i:Int) ((3:Nat):Int) then (cond (few (ln (ap t [zhb x]))) (h (ap t [zhb x])) none) else zZw t) (fun (t:lN)=>(some [(.agg (zbq (⟨(zka 12),t,[],[]⟩:Host)))])) (fun i b t rec=>?_) (fun t rec=>?_) _ ([]) (c d.1)).trans ?_;{simp only [zbn b,zT b,zbd b,zY b d.1,cT];have g:ztB a[i]=true:=zbm (e.2 _ (q9 b));simp only[g,cT];rfl};{simp only [zbh,cF]};exact zRj 3 zhb zZw a 0 [] (by simpa using d.2)
theorem zLo:vT 23 zBc:=kF1 zQW zC zca zc8 zTe zSw
def z3d:zZ:=[(23,zBc)]++z3c
theorem zCO:zN z3d:=zh zLo zQW
def zfo:Nat->Nat->Kept->Kept
 | 0,_,k=>k
 |n+1,i,k=>zfo n (i+1) (zbN k (i:Int))
def zfG (k:Kept):Kept:=zfo k.Known.length 0 k
theorem z0U (k:Kept)(p:Int):(zbN k p).Known.length=k.Known.length:=by unfold zbN;cases zdb k p;{rfl};{exact zfW _ _ _}
theorem zrW:∀(n i:Nat) (k:Kept),SmK k->SmK (zfo n i k)
 | 0,_,_,h=>h
 |n+1,i,k,h=>zrW n (i+1) _ (zmI h)
@[simp] abbrev zna (k:Kept):Kept:=zfG k
theorem zGS {b d:Type}(K:List Bool×List Slot->Option d):∀(l:List b) (i:Nat) (k:Kept),SmK k->
 goL (fun (i:Nat) _ (t:List Bool×List Slot) c=>bif zcU ⟨t.1,t.2⟩ (i:Int) then c ((zem ⟨t.1,t.2⟩ (i:Int)).Known,(zem ⟨t.1,t.2⟩ (i:Int)).Slots) else none) K l i (k.Known,k.Slots)=K ((zfo l.length i k).Known,(zfo l.length i k).Slots)
 |[],_,_,_=>rfl
 |x::l,i,k,h=>by have a:zcU ⟨k.Known,k.Slots⟩ (i:Int)=true:=zbm h;simp only[goL,a,cT];exact zGS K l (i+1) (zbN k (i:Int)) (zmI h)
def zk3:Run:=rF1 (dT .kept) fun b=>(zdC b,[aT .kept (zna b)])
def zAt (N:Nat)(b:Kept):OA:=
 (oN (zdC b) (iter (σ:=(Int×(Int×(lB×(lS×(lB×(lS×Unit))))))) N (fun d a=>let c:=(⟨a.2.2.2.2.1,a.2.2.2.2.2.1⟩:Kept); (cond (ilt a.2.1 a.1) (oN (zcU c a.2.1) (d (a.1,((zL .i64 a.2.1 1),(a.2.2.1,(a.2.2.2.1,((zem c a.2.1).Known,((zem c a.2.1).Slots,())))))))) (some [(aT .kept c)]))) ((ln b.Known),(0,([],([],((zcS b).Known,((zcS b).Slots,()))))))))
def zNm:FuncId->Nat->Option Tmpl:=zq [(124,0,{n:=18,tm:=[(2,.lp 0 0),(3,.lp 1 0),(9,ti),(10,ti)],lo:=[(0,[.sl 0 [],.sl 1 []]),(1,[.sl 2 [],.sl 3 []])],ro:=[(0,.bool,true),(1,.slot,true),(2,.bool,true),(3,.slot,true)]})]
theorem zL5 (a:Kept)(f:zdC a=true):∃N,zAt N a=some [aT .kept (zna a)]:=by
 have d:=zO.1 f;have e:=zcv d.1;refine zb6 fun N c=>?_;unfold zAt oN;conv=>zeta
 refine must (zbm d) ?_;refine(zbk a.Known (fun i (t:lB×lS)=>((ln a.Known),(i:Int),[],[],t.1,t.2,())) _ (fun i (x:Bool) (t:List Bool×List Slot) g=>bif zcU ⟨t.1,t.2⟩ (i:Int) then g ((zem ⟨t.1,t.2⟩ (i:Int)).Known,(zem ⟨t.1,t.2⟩ (i:Int)).Slots) else none) (fun (t:lB×lS)=>(some [(.agg (Ty.cells .kept (⟨t.1,t.2⟩:Kept)))])) (fun i b t rec=>?_) (fun t rec=>?_) _ ((zcS a).Known,(zcS a).Slots) (c e.1)).trans ?_;{simp only [zbn b,zT b,zbd b,zY b e.1,cT]};{simp only [zbh,cF]};exact zGS _ a.Known 0 a d
theorem zE6:vT 124 zk3:=kF1 zCO zC zca zc8 zNm zL5
def zAI (N:Nat)(c:Kept):OA:=
 (oN (zgE c) (iter (σ:=(Int×(lB×(lS×(lB×(lS×Unit)))))) N (fun d a=>let b:=(⟨a.2.1,a.2.2.1⟩:Kept); (cond (ilt a.1 (ln a.2.1)) (oN (zcU b a.1) (d ((zL .i64 a.1 1),((zem b a.1).Known,((zem b a.1).Slots,(a.2.2.2.1,(a.2.2.2.2.1,()))))))) (some [(aT .kept b)]))) (0,((zdS c).Known,((zdS c).Slots,([],([],())))))))
def zNv:FuncId->Nat->Option Tmpl:=zq [(125,0,{n:=17,tm:=[(1,.lp 0 0),(2,.lp 1 0),(3,ti)],lo:=[(0,[.sl 0 [],.sl 1 []]),(1,[.sl 2 [],.sl 3 []])],ro:=[(0,.bool,true),(1,.slot,true),(2,.bool,true),(3,.slot,true)]})]
theorem zMl (a:Kept)(g:zdC a=true):∃N,zAI N a=some [aT .kept (zna a)]:=by
 have d:=zO.1 g;have f:=zcv d.1;refine zb6 fun N c=>?_;unfold zAI oN;conv=>zeta
 refine must (zby ((zxJ _).2 d)) ?_;refine(zif a.Known.length (fun i (k:Kept)=>((i:Int),(k.Known,(k.Slots,([],([],())))))) _ (fun i k=>SmK k/\k.Known.length=a.Known.length) (fun i k=>some [AV.agg (Ty.cells .kept (zfo (a.Known.length-i) i k))]) (fun i k rec e b h=>?_) (fun k rec b=>?_) N 0 a ⟨d,rfl⟩ (jQ _) (c f.1)).trans rfl;{refine must (zbn (by rw[b.2];exact e)) (must (zbm b.1) ?_);have q:=h (zbN k (i:Int)) ⟨zmI b.1,by rw[z0U];exact b.2⟩;rw[show a.Known.length-i=a.Known.length-(i+1)+1 by omega];rw[zY e f.1];exact q};{refine zdU (by show ilt (a.Known.length:Int) (ln k.Known)=false;rw[ln,b.2];exact qL (by omega)) ?_;rw[kW];rfl}
theorem zFl:vT 125 zk3:=kF1 zCO zC zca zc8 zNv zMl
def z3e:zZ:=[(125,zk3),(124,zk3)]++z3d
theorem zQX:zN z3e:=zh zFl (zh zE6 zCO)
def zoJ:Nat->Nat->List Kept->List Kept
 | 0,_,l=>l
 |n+1,j,l=>zoJ n (j+1) (up l (j:Int) (zfG (ix l (j:Int) kZ)))
def zoK (x:Mon)(n j:Nat):Mon:={x with Tables:=zoJ n j x.Tables}
def zkq:Nat->Nat->List Mon->List Mon
 | 0,_,t=>t
 |n+1,i,t=>zkq n (i+1) (up t (i:Int) (zoK (ix t (i:Int) mZ) (ix t (i:Int) mZ).Tables.length 0))
def cold (h:Host):Host:=⟨h.Memory,zkq h.Mons.length 0 h.Mons,[],[]⟩
theorem zM9:∀(n j:Nat) (l:List Kept),j+n<=l.length->zCz l->zCz (zoJ n j l)
 | 0,_,_,_,h=>h
 |n+1,j,l,b,h=>by have a:j<l.length:=(by omega);refine zM9 n (j+1) _ (by rw[zfW];omega) (ztZ h (zrW _ _ _ ?_));rw[zbd a];exact h.2 _ (q9 a)
theorem zAk {x:Mon}(h:zeT x){n j:Nat}(a:j+n<=x.Tables.length):zeT (zoK x n j):=⟨h.1,h.2.1,h.2.2.1,h.2.2.2.1,h.2.2.2.2.1,zM9 n j _ a h.2.2.2.2.2⟩
@[simp] abbrev zhZ (h:Host):Host:=cold h
def zmr:Run:=rF1 dH fun b=>(zV b,[aH (zhZ b)])
def zTL (N:Nat)(d:Host):OA:=
 (oN (zV d) (iter (σ:=(Int×(lM×(lN×(lE×(lE×(lM×(lN×(lE×(lE×Unit)))))))))) N (fun g b=>(cond (ilt b.1 (ln b.2.2.1)) (iter (σ:=(Int×(Int×(lM×(lN×(lE×(lE×(lM×(lN×(lE×(lE×Unit))))))))))) N (fun h a=>let e:=(inb a.1 (ln a.2.2.2.1));let c:=(ix a.2.2.2.1 a.1 zi);let f:=(ix c.Tables a.2.1 zcN); (oN e (cond (ilt a.2.1 (ln c.Tables)) (oN e (oN e (oN (inb a.2.1 (ln c.Tables)) (oN (zdC f) (oN (inb a.2.1 (ln c.Tables)) (share (up a.2.2.2.1 a.1 ({c with Tables:=(up c.Tables a.2.1 (zna f))}:Mon)) (fun i=>(h (a.1,((zL .i64 a.2.1 1),(a.2.2.1,(i,(a.2.2.2.2.1,(a.2.2.2.2.2.1,(a.2.2.2.2.2.2.1,(a.2.2.2.2.2.2.2.1,(a.2.2.2.2.2.2.2.2.1,(a.2.2.2.2.2.2.2.2.2.1,())))))))))))))))))) (g ((zL .i64 a.1 1),(a.2.2.1,(a.2.2.2.1,(a.2.2.2.2.1,(a.2.2.2.2.2.1,(a.2.2.2.2.2.2.1,(a.2.2.2.2.2.2.2.1,(a.2.2.2.2.2.2.2.2.1,(a.2.2.2.2.2.2.2.2.2.1,()))))))))))))) (b.1,(0,(b.2.1,(b.2.2.1,(b.2.2.2.1,(b.2.2.2.2.1,(b.2.2.2.2.2.1,(b.2.2.2.2.2.2.1,(b.2.2.2.2.2.2.2.1,(b.2.2.2.2.2.2.2.2.1,()))))))))))) (some [(aH (⟨b.2.1,b.2.2.1,[],[]⟩:Host))]))) (0,((zu d).Memory,((zu d).Mons,((zu d).Buffer,((zu d).IoBuffer,([],([],([],([],())))))))))))
def z2w:FuncId->Nat->Option Tmpl:=zq [(46,0,{n:=48,tm:=[(1,.lp 0 0),(2,.lp 1 0),(3,ti)],lo:=[(0,[.sl 0 [],.sl 1 [],.sl 2 [],.sl 3 []]),(1,[.sl 4 [],.sl 5 [],.sl 6 [],.sl 7 []])],ro:=[(0,(.sl .int),true),(1,.mon,true),(2,.entry,true),(3,.entry,true),(4,(.sl .int),true),(5,.mon,true),(6,.entry,true),(7,.entry,true)]}),(46,2,{n:=48,tm:=[(1,.lp 0 0),(2,.lp 1 0),(3,ti),(4,ti)],lo:=[(0,[.sl 0 [],.sl 1 [],.sl 2 [],.sl 3 []]),(1,[.sl 4 [],.sl 5 [],.sl 6 [],.sl 7 []])],ro:=[(0,(.sl .int),true),(1,.mon,true),(2,.entry,true),(3,.entry,true),(4,(.sl .int),true),(5,.mon,true),(6,.entry,true),(7,.entry,true)]})]
theorem z1j (a:Host)(m:zV a=true):∃N,zTL N a=some [aH (zhZ a)]:=by
 have v:=(zX a).1 (zO.1 m);have s:=zcv v.2.1.1;refine zb6 fun N f=>?_;unfold zTL oN;conv=>zeta
 refine must m ?_;refine(zif a.Mons.length (fun i (t:List Mon)=>((i:Int),(a.Memory,(t,(a.Buffer,(a.IoBuffer,([],([],([],([],())))))))))) _ (fun i t=>zoE t/\t.length=a.Mons.length) (fun i t=>some [AV.agg (zbq ⟨a.Memory,zkq (a.Mons.length-i) i t,[],[]⟩)]) (fun i t rec n e x=>?_) (fun t rec e=>?_) N 0 a.Mons ⟨v.2.1,rfl⟩ (jQ _) (f s.1)).trans rfl
 .have hit:i<t.length:=(by rw[e.2];exact n);have l:zeT (ix t (i:Int) mZ):=by rw[zbd hit];exact e.1.2 _ (q9 hit)
  have r:=zcv l.2.2.2.2.2.1;refine must (zbn hit) ?_;refine(zif (ix t (i:Int) mZ).Tables.length (fun j (u:List Mon)=>((i:Int),((j:Int),(a.Memory,(u,(a.Buffer,(a.IoBuffer,([],([],([],([],())))))))))))
   _ (fun j u=>u.length=t.length/\zeT (ix u (i:Int) mZ)/\(ix u (i:Int) mZ).Tables.length=(ix t (i:Int) mZ).Tables.length)
   (fun j u=>rec (((i+1:Nat):Int),(a.Memory,(up u (i:Int) (zoK (ix u (i:Int) mZ) ((ix t (i:Int) mZ).Tables.length-j) j),(a.Buffer,(a.IoBuffer,([],([],([],([],()))))))))))
   (fun j u h p c k=>?_) (fun u h c=>?_) N 0 t ⟨rfl,l,rfl⟩ (jQ _) (f r.1)).trans ?_
  .have b:i<u.length:=(by rw[c.1];exact hit);have d:j<(ix u (i:Int) mZ).Tables.length:=(by rw[c.2.2];exact p);have g:SmK (ix (ix u (i:Int) mZ).Tables (j:Int) kZ):=by rw[zbd d];exact c.2.1.2.2.2.2.2.2 _ (q9 d)
   refine must (zT b) (must (zbn d) (must (zT b) (must (zT b) (must (zT d) (must (zbm g) (must (zT d) (shr ?_)))))));have w:zeT {ix u (i:Int) mZ with Tables:=up (ix u (i:Int) mZ).Tables (j:Int) (zfG (ix (ix u (i:Int) mZ).Tables (j:Int) kZ))} :=
    ⟨c.2.1.1,c.2.1.2.1,c.2.1.2.2.1,c.2.1.2.2.2.1,c.2.1.2.2.2.2.1,ztZ c.2.1.2.2.2.2.2 (zrW _ _ _ g)⟩
   have q:=k (up u (i:Int) {ix u (i:Int) mZ with Tables:=up (ix u (i:Int) mZ).Tables (j:Int) (zfG (ix (ix u (i:Int) mZ).Tables (j:Int) kZ))}) ⟨by rw[zfW];exact c.1,by rw[zdT b];exact w,by rw[zdT b];simp only[zfW];exact c.2.2⟩;rw[zY p r.1];refine q.trans ?_;rw[zdT b,ztM,show (ix t (i:Int) mZ).Tables.length-j=(ix t (i:Int) mZ).Tables.length-(j+1)+1 by omega];rfl
  {have b:i<u.length:=(by rw[c.1];exact hit);refine must (zT b) (zdU (by show ilt ((ix t (i:Int) mZ).Tables.length:Int) (ln (ix u (i:Int) mZ).Tables)=false;rw[ln,c.2.2];exact qL (by omega)) ?_);rw[zY n s.1,kW];show rec (_,(a.Memory,(u,_)))=rec (_,(a.Memory,(up u (i:Int) (ix u (i:Int) mZ),_)));rw[zE1 b]};{have q:=x (up t (i:Int) (zoK (ix t (i:Int) mZ) (ix t (i:Int) mZ).Tables.length 0)) ⟨ziH e.1 (zAk l (by omega)),by rw[zfW];exact e.2⟩;refine q.trans ?_;rw[show a.Mons.length-i=a.Mons.length-(i+1)+1 by omega];rfl}
 {refine zdU (by show ilt (a.Mons.length:Int) (ln t)=false;rw[ln,e.2];exact qL (by omega)) ?_;rw[kW];rfl}
theorem zC6:vT 46 zmr:=kF1 zQX zC zca zc8 z2w z1j
def z3f:zZ:=[(46,zmr)]++z3e
theorem zQY:zN z3f:=zh zC6 zQX
end
end Go.Proofs.YthhbajmehldikaaGreat.E
