/- What is proved here: a part of the proof that the statement of this claim holds (several texts of wip/, laid together). -/
import Derived.Test.YthhbajmehldikaaGreatU4
namespace Go.Proofs.YthhbajmehldikaaGreat.E
open Go
set_option linter.constructorNameAsVariable false
set_option linter.unusedVariables false
set_option maxRecDepth 100000
set_option linter.unusedSimpArgs false
set_option linter.unusedSectionVars false
noncomputable section
abbrev mZ:Mon:=Ty.dflt .mon
abbrev sZ:Slot:=Ty.dflt .slot
def ShM (x:Mon):Prop:=x.Outer.length=8/\x.Out.length=8/\x.Dirty.length=8/\x.Tables.length=x.Guests.length
def Shape (h:Host):Prop:=SmH h/\∀x∈h.Mons,ShM x
theorem ziv {h:Host}{m:Int}{x:Mon}(a:Shape h)(c:zeZ x)(d:ShM x):Shape {h with Mons:=up h.Mons m x}:=by refine⟨⟨a.1.1,zjc a.1.2.1 c,a.1.2.2⟩,fun y b=>?_⟩;rcases qY b with b|rfl;{exact a.2 y b};{exact d}
theorem zcB {h:Host}(b:Shape h){m:Int}(a:hasB m (ln h.Mons)=true):zeZ (ix h.Mons m mZ)/\ShM (ix h.Mons m mZ):=⟨b.1.2.1.2 _ (zbu a _),b.2 _ (zbu a _)⟩
theorem zSo {h:Host}{b:List (List Int)}(a:Shape h)(c:SmM b):Shape {h with Memory:=b}:=⟨⟨c,a.1.2⟩,a.2⟩
theorem zs5 {h:Host}{m p:Int}{s:Slot}(e:hasB m (ln h.Mons)=true)(b:Shape h):Shape (zcm h m p s):=by refine⟨zIC e b.1,?_⟩;obtain⟨_,a⟩:=zcB b e;have d:∀y∈up h.Mons m {zks (ix h.Mons m mZ) p (ix h.Mons m mZ).Tables.length with Outer:=up (ix h.Mons m mZ).Outer p s},ShM y:=(by intro y c;rcases qY c with c|rfl;{exact b.2 y c};{exact⟨by simpa using a.1,a.2.1,a.2.2.1,by simpa [zks,zqJ] using a.2.2.2⟩});unfold zcm;cases ine (ix (ix h.Mons m mZ).Outer p sZ).Page (-1)<;>exact d
theorem zf5 (h:Host)(m p:Int)(s:Slot):(zcm h m p s).Mons=up h.Mons m {zks (ix h.Mons m mZ) p (ix h.Mons m mZ).Tables.length with Outer:=up (ix h.Mons m mZ).Outer p s}/\(zcm h m p s).Memory=h.Memory:=by unfold zcm;cases ine (ix (ix h.Mons m mZ).Outer p sZ).Page (-1)<;>exact⟨rfl,rfl⟩
theorem zer {h:Host}{m k:Int}{x:Mon}(a:hasB m (ln h.Mons)=true):hasB m (ln (up h.Mons k x))=true:=by simpa [ln] using a
theorem zHW {h:Host}{m k p:Int}{s:Slot}(a:hasB m (ln h.Mons)=true):hasB m (ln (zcm h k p s).Mons)=true:=by rw[(zf5 h k p s).1];exact zer a
theorem zdB {b:Type}{l:List b}{p:Int}(h:l.length=8)(a:hasB p 8=true):hasB p (ln l)=true:=by rw[ln,h];exact a
def zAz (h:Host)(m p:Int)(s:Slot):Host :=
 bif ine s.Page (-1) then ⟨h.Memory,up h.Mons m (zks (ix h.Mons m mZ) p (ix h.Mons m mZ).Guests.length),flushed h.Buffer s.Page,flushed h.IoBuffer s.Page⟩
 else ⟨h.Memory,up h.Mons m (zks (ix h.Mons m mZ) p (ix h.Mons m mZ).Guests.length),h.Buffer,h.IoBuffer⟩
theorem zBb {h:Host}{k:Nat}{p:Int}{s:Slot}(a:k<h.Mons.length)(b:(ix h.Mons (k:Int) mZ).Tables.length=(ix h.Mons (k:Int) mZ).Guests.length) :
 zAz {h with Mons:=up h.Mons (k:Int) {ix h.Mons (k:Int) mZ with Outer:=up (ix h.Mons (k:Int) mZ).Outer p s}} (k:Int) p (ix (ix h.Mons (k:Int) mZ).Outer p sZ)=zcm h (k:Int) p s:=by
 unfold zcm zAz;simp only[zdP a,zxi,zks,b]
def z1v {a:Type}(m p:Int)(i:Nat)(t:List Mon)(b:List Mon->Option a):Option a :=
 (cond (inb (i:Int) (ln (ix t m mZ).Tables)) (cond (inb (i:Int) (ln (ix t m mZ).Guests)) (cond (pc (SmK (ix (ix t m mZ).Tables (i:Int) zeh)/\(ix (ix t m mZ).Guests (i:Int) zD).Live.length<=1048576)) (cond (inb (i:Int) (ln (ix t m mZ).Tables)) (b (up t m ({ (ix t m mZ) with Tables:=(up (ix t m mZ).Tables (i:Int) (zhV (ix (ix t m mZ).Tables (i:Int) zeh) (ix (ix t m mZ).Guests (i:Int) zD).Live p))}:Mon))) none) none) none) none)
theorem zZX {j:Type}{mons:List Mon}{k:Nat}(d:k<mons.length)(p:Int)(c:zeZ (ix mons (k:Int) mZ))(f:(ix mons (k:Int) mZ).Tables.length=(ix mons (k:Int) mZ).Guests.length)(K:List Mon->Option j) :
 ∀(n i:Nat),i+n=(ix mons (k:Int) mZ).Guests.length->goN (fun i t g=>z1v (k:Int) p i t g) K n i (up mons (k:Int) (zks (ix mons (k:Int) mZ) p i))=K (up mons (k:Int) (zks (ix mons (k:Int) mZ) p (ix mons (k:Int) mZ).Guests.length))
 | 0,i,h=>by have:i=(ix mons (k:Int) mZ).Guests.length:=(by omega);subst this;rfl
 |n+1,i,h=>by
  have b:i<(ix mons (k:Int) mZ).Guests.length:=(by omega);have a:i<(zlq (ix mons (k:Int) mZ).Guests p i (ix mons (k:Int) mZ).Tables).length:=by rw[zqJ];omega
  have e:pc (SmK (ix (zlq (ix mons (k:Int) mZ).Guests p i (ix mons (k:Int) mZ).Tables) (i:Int) zeh)/\(ix (ix mons (k:Int) mZ).Guests (i:Int) zD).Live.length<=1048576)=true :=
   zbM ⟨by rw[zbp a];exact(zxf _ _ _ _ (by omega) c.2.2.2.2.2).2 _ (jL a),by rw[zbp b];exact(c.2.2.2.1.2 _ (jL b)).2.2.1⟩
  simp only[goN,z1v,zdP d,zxi,zks,zbf a,zbf b,e,cT];exact zZX d p c f K n (i+1) (by omega)
@[simp] abbrev zec (h:Host)(m p:Int)(s:Slot):Bool:=pc (Shape h/\hasB m (ln h.Mons)=true)
@[simp] abbrev zed (h:Host)(m p:Int)(s:Slot):Host:=zAz h m p s
def zml:List CV->List AV->Option (Bool×List CV×List AV)
 |[.s (.sl .int) b,.s .mon c,.s .entry d,.s .entry e],[.one (.i .i64 f),.one (.i .i64 g),.agg [.i .i64 h,.i .i64 j]]=>some ((zec (⟨b,c,d,e⟩:Host) f g (⟨h,j⟩:Slot)),zbk (zed (⟨b,c,d,e⟩:Host) f g (⟨h,j⟩:Slot)),[])
 |_,_=>none
def zpO (N:Nat)(c:Host)(i n:Int)(k:Slot):OA:=
 (oN (inb i (ln c.Mons)) (iter (σ:=(Int×(Int×(Int×(Int×(Int×(Int×(lN×(lM×(lE×(lE×Unit))))))))))) N (fun p a=>let j:=a.2.2.2.2.2.2.2.1;let h:=a.2.2.2.2.2.2.1;let e:=a.2.2.2.2.1;let g:=a.2.2.2.2.2.2.2.2.1;let f:=a.2.2.2.2.2.2.2.2.2.1;let b:=a.2.2.2.1;let d:=(ix h a.2.1 zi);let m:=(ix d.Tables b zeh);let l:=(ix d.Guests b zD).Live; (cond (ilt b a.2.2.1) (oN (inb b (ln d.Tables)) (oN (inb b (ln d.Guests)) (oN (zp5 m l a.1) (oN (inb b (ln d.Tables)) (share (up h a.2.1 ({d with Tables:=(up d.Tables b (zuG m l a.1))}:Mon)) (fun q=>(p (a.1,(a.2.1,(a.2.2.1,((zM .i64 b 1),(e,(a.2.2.2.2.2.1,(q,(j,(g,(f,()))))))))))))))))) (cond (ine e (-1)) (oN (zhH g e) (oN (zhH f e) (some [(aH (⟨j,h,(zka g e),(zka f e)⟩:Host))]))) (some [(aH (⟨j,h,g,f⟩:Host))])))) (n,(i,((ln (ix c.Mons i zi).Guests),(0,(k.Page,(k.Rights,(c.Mons,(c.Memory,(c.Buffer,(c.IoBuffer,()))))))))))))
def zKD:FuncId->Nat->Option Tmpl:=zq [(210,0,{n:=71,tm:=[(0,.lp 0 0),(2,ti),(7,.lp 1 0),(8,.ep 0 [] 0),(20,ti),(21,ti)],lo:=[(0,[.sl 1 [],.sl 0 [],.sl 2 [],.sl 3 []]),(1,[ti,ti])],ro:=[(0,.mon,true),(1,(.sl .int),true),(2,.entry,true),(3,.entry,true)]})]
theorem zNm (N:Nat)(c:Host)(a b:Int)(d:Slot):zoe (cQ zqV zp8 zQz zXs) zKD N 12 210 [true,true,true,true] (zbk c) [aI a,aI b,aT .slot d]=zpO N c a b d:=by kernel_rfl
theorem zJX (c:Host)(d b:Int)(a:Slot)(s:zce big (.agg (zbk c)::[aI d,aI b,aT .slot a]))(r:zec c d b a=true):∃N,zpO N c d b a=some (.agg (zbk (zed c d b a))::[]):=by
 obtain⟨h,g⟩:=zL.1 r;obtain⟨l,q⟩:=zcB h g;have hg:(ix c.Mons d mZ).Guests.length<=big:=(zc3 l.2.2.2.1.1).1;refine zcz fun N f=>?_;unfold zpO oN;conv=>zeta
 refine must (zG g) ?_;refine(zbo ((ix c.Mons d zi).Guests) (fun i (t:lN)=>(b,d,(ln (ix c.Mons d zi).Guests),(i:Int),a.Page,a.Rights,t,c.Memory,c.Buffer,c.IoBuffer,())) _ (fun i (x:Guest) (t:List Mon) j=>z1v d b i t j) (fun (t:lN)=>(cond (ine a.Page (-1)) (cond (zhH c.Buffer a.Page) (cond (zhH c.IoBuffer a.Page) (some [(.agg (zbk (⟨c.Memory,t,(zka c.Buffer a.Page),(zka c.IoBuffer a.Page)⟩:Host)))]) none) none) (some [(.agg (zbk (⟨c.Memory,t,c.Buffer,c.IoBuffer⟩:Host)))]))) (fun i e t rec=>?_) (fun t rec=>?_) _ (c.Mons) (f hg)).trans ?_;{simp only [zbD e,zbf e,zbp e,zbi e hg,cT];rfl};{simp only [zbt,cF]};obtain⟨k,rfl,m⟩:=zdJ (n:=c.Mons.length) g;rw[zyu (fun i t j=>z1v (k:Int) b i t j)];have p:c.Mons=up c.Mons (k:Int) (zks (ix c.Mons (k:Int) mZ) b 0):=(zQ4 m _).symm;refine(congrArg _ p).trans ((zZX m b l q.2.2.2 _ _ 0 (j7 _)).trans ?_);show (cond (ine a.Page (-1)) _ _)=some [AV.agg (zbk (zAz c (k:Int) b a))];unfold zAz;cases ine a.Page (-1);{rfl};{exact must rfl (must (zbM h.1.2.2.1) (must (zbM h.1.2.2.2) rfl))}
theorem zDV:zbK Tryz.prog 210 [true,true,true,true] zml:=by refine zgV (zge zg5 zA zB zdX) (zjj (by kernel_rfl)) ?_;intro g a b j i f h;have d:=zkE f;unfold zml at h;split at h;{obtain⟨e,rfl,rfl⟩:=zm0 h;obtain⟨N,c⟩:=zJX _ _ _ _ (by exact d) e;exact⟨rfl,_,N,12,(zNm N _ _ _ _ ).trans c⟩};{cases h}
def z1U:zcL:=[(210,([true,true,true,true],zml))]++zQz
theorem zQA:zb3 z1U:=zcq zB (by
 intro x a;simp only[qG,qN,or_false]at a;rcases a with rfl
 .exact zDV)
def zey (h:Host)(m p:Int):Host:={h with Mons:=up h.Mons m {ix h.Mons m mZ with Out:=up (ix h.Mons m mZ).Out p (zct h.Memory (ix (ix h.Mons m mZ).Outer p sZ).Page)}}
def zdq (h:Host)(m p:Int):Host:=zcm (zey h m p) m p noSlot
theorem zXh {m:List (List Int)}{p:Int}(h:SmM m):(zct m p).length<=1048576:=by unfold zct;cases a:hasB p (ln m);{exact(by decide:zBi.length<=1048576)};{exact h.2 _ (zbu a _)}
theorem zx1 {h:Host}{m p:Int}(c:Shape h)(d:hasB m (ln h.Mons)=true):Shape (zey h m p):=by obtain⟨a,b⟩:=zcB c d;exact ziv c ⟨a.1,zN4 a.2.1 (zXh c.1.1),a.2.2⟩ ⟨b.1,by simpa using b.2.1,b.2.2⟩
theorem zNX {h:Host}{m p:Int}(b:Shape h)(a:hasB m (ln h.Mons)=true):Shape (zdq h m p):=zs5 (zer a) (zx1 b a)
@[simp] abbrev ztO (h:Host)(m p:Int):Bool:=pc (Shape h/\hasB m (ln h.Mons)=true/\hasB p 8=true)
@[simp] abbrev zA7 (h:Host)(m p:Int):Host:=zdq h m p
def zva:List AV->Option (Bool×List AV)
 |[.agg [.s (.sl .int) b,.s .mon c,.s .entry d,.s .entry e],.one (.i .i64 f),.one (.i .i64 g)]=>some ((ztO (⟨b,c,d,e⟩:Host) f g),[aH (zA7 (⟨b,c,d,e⟩:Host) f g)])
 |_=>none
def zzX (N:Nat)(a:Host)(b c:Int):OA:=
 let d:=(ix a.Mons b zi);let e:=(ix d.Outer c zV).Page; (oN (inb b (ln a.Mons)) (oN (inb b (ln a.Mons)) (oN (inb c (ln d.Outer)) (oN (zjB a.Memory e) (oN (inb c (ln d.Out)) (share (up a.Mons b ({d with Out:=(up d.Out c (znC a.Memory e))}:Mon)) (fun g=>let f:=({a with Mons:=g}:Host); (oN zcx (oN (zeW f b c zbw) (some [(aH (zgO f b c zbw))]))))))))))
theorem zYW (N:Nat)(a:Host)(b c:Int):zFU (cQ zqV zp8 z1U zXs) (zq []) N 12 281 [true,true,true,true,false,false] 1 1 [[0],[1],[2],[4],[7]] .mon [aH a,aI b,aI c]=zzX N a b c:=by kernel_rfl
theorem zWe (b:Host)(d c:Int)(m:zce big [aH b,aI d,aI c])(j:ztO b d c=true):∃N,zzX N b d c=some [aH (zA7 b d c)]:=by
 obtain⟨g,a,f⟩:=zL.1 j;obtain⟨l,e⟩:=zcB g a;obtain⟨k,rfl,h⟩:=zdJ (n:=b.Mons.length) a;have i:=zx1 (p:=c) g a;refine⟨0,?_⟩;unfold zzX oN;conv=>zeta
 refine must (zG a) (must (zG a) (must (zG (zdB e.1 f)) (must (zbM ((zpZ _).2 g.1.1)) (must (zG (zdB e.2.1 f)) (shr (must rfl (must (zbM ⟨(zT _).2 i.1,zer a,?_,?_⟩) rfl)))))));{simp only [zdP h];exact zdB e.1 f};{simp only [zdP h];exact kY e.2.2.2}
theorem zPA:zdZ Tryz.prog 281 [true,true,true,true,false,false] (some (1,1,[[0],[1],[2],[4],[7]])) zva:=by refine zlD (kt:=.mon) (zge zg5 zA zQA zdX) (zjj (by kernel_rfl)) (by kernel_rfl) ?_;intro a g f e h;have c:=ziA e;unfold zva at h;split at h;{obtain⟨d,rfl⟩:=zd5 h;obtain⟨N,b⟩:=zWe _ _ _ (by exact c) d;exact⟨⟨_,rfl⟩,rfl,_,N,12,(zYW N _ _ _ ).trans b⟩};{cases h}
@[simp] abbrev zJP (h:Host)(m p:Int):Bool:=pc (Shape h/\hasB m (ln h.Mons)=true/\hasB p 8=true)
@[simp] abbrev zJQ (h:Host)(m p:Int):Host:=zdq h m p
def zxJ:List CV->List AV->Option (Bool×List CV×List AV)
 |[.s (.sl .int) b,.s .mon c,.s .entry d,.s .entry e],[.one (.i .i64 f),.one (.i .i64 g)]=>some ((zJP (⟨b,c,d,e⟩:Host) f g),zbk (zJQ (⟨b,c,d,e⟩:Host) f g),[])
 |_,_=>none
def zIM (N:Nat)(c:Host)(b a:Int):OA:=
 let d:=(ix c.Mons b zi);let e:=(ix d.Outer a zV); (oN (inb b (ln c.Mons)) (oN (inb a (ln d.Outer)) (oN (zjo c.Memory e.Page) (oN (inb a (ln d.Out)) (share (up c.Mons b ({d with Out:=(up d.Out a (zns c.Memory e.Page))}:Mon)) (fun g=>let f:=(ix g b zi); (oN ze7 (oN (inb a (ln f.Outer)) (share (up g b ({f with Outer:=(up f.Outer a ze6)}:Mon)) (fun i=>let h:=({c with Mons:=i}:Host); (oN (zec h b a e) (some [(aH (zed h b a e))]))))))))))))
theorem z4I (N:Nat)(c:Host)(a b:Int):zoe (cQ zqV zp8 z1U zXs) (zq []) N 12 314 [true,true,true,true] (zbk c) [aI a,aI b]=zIM N c a b:=by kernel_rfl
theorem z1F (c:Host)(e a:Int)(w:zce big (.agg (zbk c)::[aI e,aI a]))(u:zJP c e a=true):∃N,zIM N c e a=some (.agg (zbk (zJQ c e a))::[]):=by
 obtain⟨l,b,j⟩:=zL.1 u;obtain⟨v,f⟩:=zcB l b;obtain⟨k,rfl,h⟩:=zdJ (n:=c.Mons.length) b;have m:=zx1 (p:=a) l b;have d:hasB (k:Int) (ln (zey c (k:Int) a).Mons)=true:=zer b;have i:k<(zey c (k:Int) a).Mons.length:=(by simpa [zey] using h);have g:ix (zey c (k:Int) a).Mons (k:Int) mZ={ix c.Mons (k:Int) mZ with Out:=up (ix c.Mons (k:Int) mZ).Out a (zct c.Memory (ix (ix c.Mons (k:Int) mZ).Outer a sZ).Page)}:=zdP h _ _;have t:Shape {zey c (k:Int) a with Mons:=up (zey c (k:Int) a).Mons (k:Int) {ix (zey c (k:Int) a).Mons (k:Int) mZ with Outer:=up (ix (zey c (k:Int) a).Mons (k:Int) mZ).Outer a noSlot}}:=(by obtain⟨q,r⟩:=zcB m d;exact ziv m ⟨by simpa using q.1,q.2⟩ ⟨by simpa using r.1,r.2⟩);refine⟨0,?_⟩;unfold zIM oN;conv=>zeta
 refine must (zG b) (must (zG (zdB f.1 j)) (must (zbM ((zpZ _).2 l.1.1)) (must (zG (zdB f.2.1 j)) (shr (must rfl (must ?_ (shr (must (zbM ⟨t,zer d⟩) ?_))))))));{rw [zdP h];exact zG (zdB f.1 j)};{have:=zBb (p:=a) (s:=noSlot) i (by rw[g];exact f.2.2.2);rw[g] at this;show some [AV.agg (zbk (zAz {zey c (k:Int) a with Mons:=up (zey c (k:Int) a).Mons (k:Int) {ix (zey c (k:Int) a).Mons (k:Int) mZ with Outer:=up (ix (zey c (k:Int) a).Mons (k:Int) mZ).Outer a noSlot}} (k:Int) a (ix (ix c.Mons (k:Int) mZ).Outer a sZ)))]=_;rw[g];exact congrArg (fun x=>some [AV.agg (zbk x)]) this}
theorem zVg:zbK Tryz.prog 314 [true,true,true,true] zxJ:=by refine zgV (zge zg5 zA zQA zdX) (zjj (by kernel_rfl)) ?_;intro g a b j i f h;have d:=zkE f;unfold zxJ at h;split at h;{obtain⟨e,rfl,rfl⟩:=zm0 h;obtain⟨N,c⟩:=z1F _ _ _ (by exact d) e;exact⟨rfl,_,N,12,(z4I N _ _ _ ).trans c⟩};{cases h}
def z1V:zcL:=[(314,([true,true,true,true],zxJ))]++z1U
theorem zQB:zb3 z1V:=zcq zQA (by
 intro x a;simp only[qG,qN,or_false]at a;rcases a with rfl
 .exact zVg)
def z2O:zfA:=[(281,([true,true,true,true,false,false],(some (1,1,[[0],[1],[2],[4],[7]])),zva))]++zXs
theorem zQO:zeg z2O:=zqK zdX (by
 intro x a;simp only[qG,qN,or_false]at a;rcases a with rfl
 .exact zPA)
def cz (l:List Slot):Nat:=l.countP fun s=>ieq s.Page 0
def zH:List Mon->Nat
 |[]=>0
 |m::l=>cz m.Outer+zH l
def bit (u:List Bool):Nat:=bif ix u 0 false then 1 else 0
theorem zyq (s:Slot)(l:List Slot):cz (s::l)=cz l+bif ieq s.Page 0 then 1 else 0:=by unfold cz;rw[vG];cases ieq s.Page 0<;>rfl
theorem zbck {u:List Bool}{p:Int}(c:0<=p)(a:p.toNat<u.length)(x:Bool):ix (up u p x) 0 false=bif ieq p 0 then x else ix u 0 false:=by unfold ix up;cases h:ieq p 0;{have:p≠0:=(by simpa [ieq] using h);have b:p.toNat≠0:=(by omega);simp[List.getD,q9,b]};{have:p=0:=(by simpa [ieq] using h);subst this;have a:0<u.length:=a;simp[List.getD,q9,a]}
theorem zFF:∀(l:List Slot) (u b:List Bool),(∀s∈l,s.Page<12)->u.length=12->zgz l u=some b->cz l+bit u=bit b
 |[],u,b,_,_,h=>by cases h;simp[cz]
 |s::l,u,b,i,k,h=>by
  simp only[zgz]at h;rw[zyq];cases c:ilt s.Page 0;{have c:=jU c;rw[show ilt s.Page 0=false from qH (by omega)]at h;simp only[cF]at h;cases d:ix u s.Page false;{rw [d]at h;simp only[cF]at h;have g:s.Page.toNat<u.length:=(by have:=i s (by simp);omega);have a:=zFF l _ b (fun t j=>i t (by simp[j])) (by simpa using k) h;have e:bit (up u s.Page true)=bif ieq s.Page 0 then 1 else bit u:=(by unfold bit;rw[zbck (by omega) g];cases ieq s.Page 0<;>rfl);rw[e] at a;cases f:ieq s.Page 0;{rw [f] at a;simp only[cF] at a ⊢;omega};{have n:s.Page=0:=(by simpa [ieq] using f);rw[n]at d;have:bit u=0:=(by unfold bit;rw[d];rfl);rw[f] at a;simp only[cT] at a ⊢;omega}};{rw [d]at h;cases h}};{have m:=qE c;rw[c]at h;simp only[cT]at h;have a:=zFF l u b (fun t j=>i t (by simp[j])) k h;have:ieq s.Page 0=false:=(by simp[ieq];omega);rw[this];simpa using a}
theorem zVk:∀(l:List Mon) (u:List Bool),u.length=12->ziE l u=true->zH l+bit u<=1
 |[],u,_,_=>by unfold zH bit;cases ix u 0 false<;>simp
 |m::l,u,c,h=>by simp only[ziE]at h;cases b:zdY m;{rw [b]at h;cases h};{rw [b]at h;simp only[cT]at h;cases a:zgz m.Outer u with|none=>rw[a]at h;cases h|some d =>rw[a]at h;have e:=zFF _ _ _ (zGe (zmF b)) c a;have f:=zVk l d ((zpJ _ _ _ a).trans c) h;simp only[zH];omega}
theorem z3R:∀(l:List Slot) (b:Nat) (s:Slot),l[b]?=some s->s.Page=0->cz (l.set b noSlot)+1=cz l
 |[],b,s,h,_=>by simp at h
 |t::l,0,s,h,a=>by simp only[qI,qC]at h;subst h;rw[List.set_cons_zero,zyq,zyq];have:ieq t.Page 0=true:=(by simp[ieq,a]);rw[this];rfl
 |t::l,b+1,s,h,a=>by rw[List.set_cons_succ,zyq,zyq];have:=z3R l b s (by simpa using h) a;omega
theorem zX0:∀(l:List Mon) (a:Nat) (x y:Mon),l[a]?=some x->zH (l.set a y)+cz x.Outer=zH l+cz y.Outer
 |[],a,x,y,h=>by simp at h
 |m::l,0,x,y,h=>by simp only[qI,qC]at h;subst h;rw[List.set_cons_zero];simp only[zH];omega
 |m::l,a+1,x,y,h=>by rw[List.set_cons_succ];have:=zX0 l a x y (by simpa using h);simp only[zH];omega
theorem z1d {l:List Slot}(h:cz l=0):zog l 0=none:=by unfold zog;rw[List.findIdx?_eq_none_iff];intro s a;have:=(vA.1 h) s a;simpa using this
theorem zNs:∀(l:List Mon) (i:Nat),zH l=0->zh2 0 l i=(-1,-1)
 |[],_,_=>rfl
 |m::l,i,h=>by simp only[zH]at h;simp only[zh2];rw[z1d (by omega)];exact zNs l (i+1) (by omega)
theorem z1e {l:List Slot}{k:Nat}(h:zog l 0=some k):∃s,l[k]?=some s/\s.Page=0:=by unfold zog at h;rw[uY]at h;obtain⟨a,b,_⟩:=h;exact⟨l[k],qB a,by simpa [ieq] using b⟩
theorem zH3:∀(l:List Mon) (i:Nat),zh2 0 l i=(-1,-1)\/∃a b x s,zh2 0 l i=(((i+a:Nat):Int),((b:Nat):Int))/\l[a]?=some x/\x.Outer[b]?=some s/\s.Page=0
 |[],_=>.inl rfl
 |m::l,i=>by
  simp only[zh2];cases h:zog m.Outer 0 with
  |none=>rcases zH3 l (i+1) with c|⟨a,b,x,s,c,d,f,g⟩;{exact .inl c};{refine .inr ⟨a+1,b,x,s,?_,by simpa using d,f,g⟩;have e:i+1+a=i+(a+1):=(by omega);rw[c,e]}
  |some k=>obtain⟨s,c,d⟩:=z1e h;exact .inr ⟨0,k,m,s,rfl,rfl,c,d⟩
def Fit (h:Host):Prop:=Shape h/\0<h.Memory.length/\zH h.Mons<=1
theorem zHV {h:Host}(c:0<h.Memory.length)(b:ilt (zbG h 0).1 0=true):inb 0 (ln (zch h))=true:=by unfold zch;obtain⟨n,a⟩:∃n,h.Memory.length=n+1:=⟨h.Memory.length-1,by omega⟩;rw[a];simp only[zxF];rw[show ilt (zbG h ((0:Nat):Int)).1 0=true from b];exact qJ (by simp only[cT,ln,q0];omega)
theorem z1j {h:Host}(b:0<h.Memory.length)(a:ieq (ln (zch h)) 0=true):ilt (zbG h 0).1 0=false:=by cases c:ilt (zbG h 0).1 0;{rfl};{have d:=qE (zHV b c);have e:ln (zch h)=0:=(by simpa [ieq] using a);omega}
def zc8 (h:Host):Host:=bif ieq (ln (zch h)) 0 then zdq h (zbG h 0).1 (zbG h 0).2 else h
structure Room (h r:Host):Prop where
 shape:Shape r
 free:inb 0 (ln (zch r))=true
 len:r.Mons.length=h.Mons.length
 outer:∀m,(ix r.Mons m mZ).Outer.length=8\/True
theorem z4Q {h:Host}(i:Fit h)(f:ieq (ln (zch h)) 0=true):∃(a b:Nat) (x:Mon) (s:Slot),zbG h 0=((a:Int),(b:Int))/\h.Mons[a]?=some x/\x.Outer[b]?=some s/\s.Page=0:=by have d:=z1j i.2.1 f;have e:zbG h 0=zh2 0 h.Mons 0:=rfl;rcases zH3 h.Mons 0 with c|⟨a,b,x,s,c,g⟩;{rw [e,c]at d;cases d};{exact⟨a,b,x,s,by rw[e,c,j7],g⟩}
theorem zF7 {h:Host}(d:Fit h)(e:ieq (ln (zch h)) 0=true):hasB (zbG h 0).1 (ln h.Mons)=true/\hasB (zbG h 0).2 8=true:=by obtain⟨a,b,x,s,f,c,g,j⟩:=z4Q d e;rw[f];have k:=(qA.1 c).1;have l:=(qA.1 g).1;have i:=d.1.2 x (qK c);refine⟨qJ (by simp only[ln];omega),qJ ?_⟩;have:=i.1;show 0<=(b:Int)/\(b:Int)<8;omega
theorem room {h:Host}(d:Fit h):Room h (zc8 h):=by unfold zc8;cases g:ieq (ln (zch h)) 0;{refine⟨d.1,qJ ?_,rfl,fun _=>.inr trivial⟩;have:ln (zch h)≠0:=(by simpa [ieq] using g);show 0<=(0:Int)/\(0:Int)<ln (zch h);simp only[ln] at *;omega};{obtain⟨n,u⟩:=zF7 d g;obtain⟨a,b,x,s,r,i,k,t⟩:=z4Q d g;simp only[cT];rw[r]at n u ⊢;have m:=(qA.1 i).1;have B:=(qA.1 k).1;have j:ix h.Mons (a:Int) mZ=x:=(by rw[zbp m];exact(qA.1 i).2);have c:=(zf5 (zey h (a:Int) (b:Int)) (a:Int) (b:Int) noSlot).1;have q:ix (zey h (a:Int) (b:Int)).Mons (a:Int) mZ={x with Out:=up x.Out (b:Int) (zct h.Memory (ix x.Outer (b:Int) sZ).Page)}:=(by unfold zey;rw[zdP m,j]);obtain⟨y,l,v⟩:∃y,(zdq h (a:Int) (b:Int)).Mons=h.Mons.set a y/\y.Outer=x.Outer.set b noSlot:=(by unfold zdq;rw[c,q];unfold zey;rw[zxi];exact⟨_,by simp[up];rfl,by simp[up]⟩);have w:zH (zdq h (a:Int) (b:Int)).Mons=0:=(by have p:=zX0 h.Mons a x y i;have z:=z3R x.Outer b s k t;have A:=d.2.2;rw[l];rw[v] at p;omega);have f:(zdq h (a:Int) (b:Int)).Memory=h.Memory:=(zf5 (zey h (a:Int) (b:Int)) (a:Int) (b:Int) noSlot).2;refine⟨zNX d.1 n,zHV (by rw[f];exact d.2.1) ?_,by rw[l];simp,fun _=>.inr trivial⟩;have e:zbG (zdq h (a:Int) (b:Int)) 0=zh2 0 (zdq h (a:Int) (b:Int)).Mons 0:=rfl;rw[e,zNs _ _ w];rfl}
theorem zXi {m:List (List Int)}{p:Int}{c:List Int}(h:SmM m)(a:c.length<=1048576):SmM (zhu m p c):=by unfold zhu;cases hasB p (ln m);{exact h};{cases zci c;{exact h};{exact zN4 h a}}
def landing (r:Host)(m p to:Int):Host:={r with Memory:=zhu r.Memory to (ix (ix r.Mons m mZ).Out p []),Mons:=up r.Mons m {ix r.Mons m mZ with Out:=up (ix r.Mons m mZ).Out p []}}
def zeH (r:Host)(m p to:Int):Host:=zcm (landing r m p to) m p ⟨to,3⟩
def fetched (h:Host)(m p:Int):Host:=zeH (zc8 h) m p (ix (zch (zc8 h)) 0 0)
theorem zXk {r:Host}{m p:Int}(e:Shape r)(c:hasB m (ln r.Mons)=true)(d:hasB p 8=true):(ix (ix r.Mons m mZ).Out p []).length<=1048576:=by obtain⟨a,b⟩:=zcB e c;exact a.2.1.2 _ (zbu (zdB b.2.1 d) _)
theorem zs4 {r:Host}{m p to:Int}(a:Shape r)(d:hasB m (ln r.Mons)=true)(e:hasB p 8=true):Shape (landing r m p to):=by obtain⟨b,c⟩:=zcB a d;exact zSo (h:={r with Mons:=up r.Mons m {ix r.Mons m mZ with Out:=up (ix r.Mons m mZ).Out p []}}) (ziv (x:={ix r.Mons m mZ with Out:=up (ix r.Mons m mZ).Out p []}) a ⟨b.1,zN4 b.2.1 (by simp),b.2.2⟩ ⟨c.1,by simpa using c.2.1,c.2.2⟩) (zXi a.1.1 (zXk a d e))
theorem zTO {r:Host}{m p d:Int}(c:Shape r)(a:hasB m (ln r.Mons)=true)(b:hasB p 8=true):Shape (zeH r m p d):=zs5 (zer a) (zs4 c a b)
theorem zqi {h:Host}(a:Fit h){m:Int}(b:hasB m (ln h.Mons)=true):hasB m (ln (zc8 h).Mons)=true:=by rw[ln,(room a).len];exact b
theorem zj5 {h:Host}{m p:Int}(a:Fit h)(b:hasB m (ln h.Mons)=true)(c:hasB p 8=true):Shape (fetched h m p)/\hasB m (ln (fetched h m p).Mons)=true :=
 ⟨zTO (room a).shape (zqi a b) c,zHW (zer (zqi a b))⟩
@[simp] abbrev zxb (h:Host)(m p:Int):Bool:=pc (Fit h/\hasB m (ln h.Mons)=true/\hasB p 8=true)
@[simp] abbrev zzC (h:Host)(m p:Int):Host:=fetched h m p
def zxN:List AV->Option (Bool×List AV)
 |[.agg [.s (.sl .int) b,.s .mon c,.s .entry d,.s .entry e],.one (.i .i64 f),.one (.i .i64 g)]=>some ((zxb (⟨b,c,d,e⟩:Host) f g),[aH (zzC (⟨b,c,d,e⟩:Host) f g)])
 |_=>none
def zDr (N:Nat)(a:Host)(c b:Int):OA:=
 let h:=(ix (zfd a) 0 0);let f:=(ix a.Mons c zi);let d:=(zA7 a (zgi a 0) (zh4 a 0));let g:=(ix (zfd d) 0 0);let e:=(ix d.Mons c zi); (oN (zlW a) (cond (ieq (ln (zfd a)) 0) (oN (zkx a 0) (oN (ztO a (zgi a 0) (zh4 a 0)) (oN (zlW d) (oN (inb 0 (ln (zfd d))) (oN (inb c (ln d.Mons)) (oN (inb b (ln e.Out)) (oN (zlf d.Memory g (ix e.Out b [])) (oN (inb c (ln d.Mons)) (oN (inb b (ln e.Out)) (share (up d.Mons c ({e with Out:=(up e.Out b [])}:Mon)) (fun i=>let j:=({d with Memory:=(zjE d.Memory g (ix e.Out b [])),Mons:=i}:Host); (oN (zeW j c b (⟨g,3⟩:Slot)) (some [(aH (zgO j c b (⟨g,3⟩:Slot)))]))))))))))))) (oN (zlW a) (oN (inb 0 (ln (zfd a))) (oN (inb c (ln a.Mons)) (oN (inb b (ln f.Out)) (oN (zlf a.Memory h (ix f.Out b [])) (oN (inb c (ln a.Mons)) (oN (inb b (ln f.Out)) (share (up a.Mons c ({f with Out:=(up f.Out b [])}:Mon)) (fun i=>let k:=({a with Memory:=(zjE a.Memory h (ix f.Out b [])),Mons:=i}:Host); (oN (zeW k c b (⟨h,3⟩:Slot)) (some [(aH (zgO k c b (⟨h,3⟩:Slot)))])))))))))))))
theorem z1O (N:Nat)(a:Host)(b c:Int):zFU (cQ zqV zp8 z1V z2O) (zq []) N 12 212 [true,true,true,true,false,false] 1 1 [[0],[1],[2],[4],[7]] .mon [aH a,aI b,aI c]=zDr N a b c:=by kernel_rfl
theorem zYM (c:Host)(b d:Int)(z:zce big [aH c,aI b,aI d])(u:zxb c b d=true):∃N,zDr N c b d=some [aH (zzC c b d)]:=by
 obtain⟨h,v,i⟩:=zL.1 u;have e:∀r,Shape r->inb 0 (ln (zch r))=true->hasB b (ln r.Mons)=true->(cond (zlW r) (cond (inb 0 (ln (zfd r))) (cond (inb b (ln r.Mons)) (cond (inb d (ln (ix r.Mons b zi).Out)) (cond (zlf r.Memory (ix (zfd r) 0 0) (ix (ix r.Mons b zi).Out d [])) (cond (inb b (ln r.Mons)) (cond (inb d (ln (ix r.Mons b zi).Out)) (share (up r.Mons b ({ (ix r.Mons b zi) with Out:=(up (ix r.Mons b zi).Out d [])}:Mon)) (fun s=>(cond (zeW ({r with Memory:=(zjE r.Memory (ix (zfd r) 0 0) (ix (ix r.Mons b zi).Out d [])),Mons:=s}:Host) b d (⟨(ix (zfd r) 0 0),3⟩:Slot)) (some [(AV.agg (zbk (zgO ({r with Memory:=(zjE r.Memory (ix (zfd r) 0 0) (ix (ix r.Mons b zi).Out d [])),Mons:=s}:Host) b d (⟨(ix (zfd r) 0 0),3⟩:Slot))))]) none))) none) none) none) none) none) none) none)=some [AV.agg (zbk (zeH r b d (ix (zch r) 0 0)))]:=(by intro r j f a;obtain⟨y,l⟩:=zcB j a;have t:=zs4 (to:=ix (zch r) 0 0) j a i;obtain⟨k,rfl,q⟩:=zdJ (n:=r.Mons.length) a;refine must (zbM j.1.1.1) (must f (must (zG a) (must (zG (zdB l.2.1 i)) (must (zbM ⟨j.1.1,zXk j a i⟩) (must (zG a) (must (zG (zdB l.2.1 i)) (shr (must (zbM ⟨(zT _).2 t.1,zer a,?_,?_⟩) rfl))))))));{simp only [zdP q];exact zdB l.1 i};{simp only [zdP q];exact kY l.2.2.2});have g:=room h;have a:=zqi h v;refine⟨0,?_⟩;unfold zDr zzC fetched oN;conv=>zeta
 refine must (zbM h.1.1.1.1) ?_;cases p:ieq (ln (zfd c)) 0;{have m:zc8 c=c:=(by unfold zc8;rw[show ieq (ln (zch c)) 0=false from p];rfl);rw[m]at g a ⊢;exact e c g.shape g.free a};{obtain⟨w,x⟩:=zF7 h p;have m:zc8 c=zdq c (zbG c 0).1 (zbG c 0).2:=(by unfold zc8;rw[show ieq (ln (zch c)) 0=true from p];rfl);rw[m]at g a ⊢;exact must rfl (must rfl (must (zbM ⟨h.1,w,x⟩) (e _ g.shape g.free a)))}
theorem zSV:zdZ Tryz.prog 212 [true,true,true,true,false,false] (some (1,1,[[0],[1],[2],[4],[7]])) zxN:=by refine zlD (kt:=.mon) (zge zg5 zA zQB zQO) (zjj (by kernel_rfl)) (by kernel_rfl) ?_;intro a g f e h;have c:=ziA e;unfold zxN at h;split at h;{obtain⟨d,rfl⟩:=zd5 h;obtain⟨N,b⟩:=zYM _ _ _ (by exact c) d;exact⟨⟨_,rfl⟩,rfl,_,N,12,(z1O N _ _ _ ).trans b⟩};{cases h}
@[simp] abbrev zsD (h:Host):Bool:=pc (Shape h/\hasB (zbG h 0).1 (ln h.Mons)=true/\hasB (zbG h 0).2 8=true)
@[simp] abbrev zsE (h:Host):Host:=zdq h (zbG h 0).1 (zbG h 0).2
def znx:List CV->List AV->Option (Bool×List CV×List AV)
 |[.s (.sl .int) b,.s .mon c,.s .entry d,.s .entry e],[]=>some ((zsD (⟨b,c,d,e⟩:Host)),zbk (zsE (⟨b,c,d,e⟩:Host)),[])
 |_,_=>none
def zsp (N:Nat)(c:Host)  : OA :=
 (oN (zkt c 0) (oN (zJP c (zgg c 0) (zhW c 0)) (some [(aH (zJQ c (zgg c 0) (zhW c 0)))])))
theorem zQv (N:Nat)(c:Host)  : zoe (cQ zqV zp8 z1V z2O) (zq []) N 12 274 [true,true,true,true] (zbk c) []=zsp N c:=by kernel_rfl
theorem zM1 (c:Host)(d:zce big (.agg (zbk c)::[]))(a:zsD c=true):∃N,zsp N c=some (.agg (zbk (zsE c))::[]):=by have b:=zL.1 a;refine⟨0,?_⟩;unfold zsp oN;exact must rfl (must (zbM b) rfl)
theorem zGp:zbK Tryz.prog 274 [true,true,true,true] znx:=by refine zgV (zge zg5 zA zQB zQO) (zjj (by kernel_rfl)) ?_;intro g a b j i f h;have d:=zkE f;unfold znx at h;split at h;{obtain⟨e,rfl,rfl⟩:=zm0 h;obtain⟨N,c⟩:=zM1 _ (by exact d) e;exact⟨rfl,_,N,12,(zQv N _ ).trans c⟩};{cases h}
def z7v:zcL:=[(274,([true,true,true,true],znx))]++z1V
theorem z0a:zb3 z7v:=zcq zQB (by
 intro x a;simp only[qG,qN,or_false]at a;rcases a with rfl
 .exact zGp)
def zXt:zfA:=[(212,([true,true,true,true,false,false],(some (1,1,[[0],[1],[2],[4],[7]])),zxN))]++z2O
theorem zGh:zeg zXt:=zqK zQO (by
 intro x a;simp only[qG,qN,or_false]at a;rcases a with rfl
 .exact zSV)
@[simp] abbrev zD8 (h:Host)(m p:Int):Bool:=pc (Fit h/\hasB m (ln h.Mons)=true/\hasB p 8=true)
@[simp] abbrev zwb (h:Host)(m p:Int):Host:=fetched h m p
theorem z0L {r:Host}{m p to:Int}(d:Shape r)(b:hasB m (ln r.Mons)=true):zAz {landing r m p to with Mons:=up (landing r m p to).Mons m {ix (landing r m p to).Mons m mZ with Outer:=up (ix (landing r m p to).Mons m mZ).Outer p ⟨to,3⟩}} m p (ix (ix (landing r m p to).Mons m mZ).Outer p sZ)=zeH r m p to:=by obtain⟨e,c⟩:=zcB d b;obtain⟨k,rfl,a⟩:=zdJ (n:=r.Mons.length) b;refine zBb (h:=landing r (k:Int) p to) (by simpa [landing] using a) ?_;unfold landing;simp only[zdP a];exact c.2.2.2
theorem zZr {r:Host}{m p to:Int}(f:Shape r)(b:hasB m (ln r.Mons)=true)(e:hasB p 8=true):Shape {landing r m p to with Mons:=up (landing r m p to).Mons m {ix (landing r m p to).Mons m mZ with Outer:=up (ix (landing r m p to).Mons m mZ).Outer p ⟨to,3⟩}}:=by have a:=zs4 (to:=to) f b e;obtain⟨c,d⟩:=zcB a (zer b);exact ziv a ⟨by simpa using c.1,c.2⟩ ⟨by simpa using d.1,d.2⟩
def zuT:List CV->List AV->Option (Bool×List CV×List AV)
 |[.s (.sl .int) b,.s .mon c,.s .entry d,.s .entry e],[.one (.i .i64 f),.one (.i .i64 g)]=>some ((zD8 (⟨b,c,d,e⟩:Host) f g),zbk (zwb (⟨b,c,d,e⟩:Host) f g),[])
 |_,_=>none
def zC2 (N:Nat)(c:Host)(b a:Int):OA:=
 let m:=(ix (zfF c) 0 0);let d:=(zsE c);let l:=(ix (zfF d) 0 0);let f:=(ix c.Mons b zi);let e:=(ix d.Mons b zi); (oN (zlE c) (cond (ieq (ln (zfF c)) 0) (oN (zsD c) (oN (inb b (ln d.Mons)) (oN (zlE d) (oN (inb 0 (ln (zfF d))) (oN (inb a (ln e.Out)) (oN (zkU d.Memory l (ix e.Out a [])) (oN (inb a (ln e.Out)) (share (up d.Mons b ({e with Out:=(up e.Out a [])}:Mon)) (fun g=>let i:=(ix g b zi);let q:=(ix i.Outer a zV); (oN (inb a (ln i.Outer)) (oN (inb a (ln i.Outer)) (share (up g b ({i with Outer:=(up i.Outer a (⟨l,3⟩:Slot))}:Mon)) (fun k=>let n:=({d with Memory:=(zjr d.Memory l (ix e.Out a [])),Mons:=k}:Host); (oN (zec n b a q) (some [(aH (zed n b a q))]))))))))))))))) (oN (inb b (ln c.Mons)) (oN (zlE c) (oN (inb 0 (ln (zfF c))) (oN (inb a (ln f.Out)) (oN (zkU c.Memory m (ix f.Out a [])) (oN (inb a (ln f.Out)) (share (up c.Mons b ({f with Out:=(up f.Out a [])}:Mon)) (fun g=>let j:=(ix g b zi);let h:=(ix j.Outer a zV); (oN (inb a (ln j.Outer)) (oN (inb a (ln j.Outer)) (share (up g b ({j with Outer:=(up j.Outer a (⟨m,3⟩:Slot))}:Mon)) (fun k=>let p:=({c with Memory:=(zjr c.Memory m (ix f.Out a [])),Mons:=k}:Host); (oN (zec p b a h) (some [(aH (zed p b a h))]))))))))))))))))
theorem z1N (N:Nat)(c:Host)(a b:Int):zoe (cQ zqV zp8 z7v zXt) (zq []) N 12 208 [true,true,true,true] (zbk c) [aI a,aI b]=zC2 N c a b:=by kernel_rfl
theorem zYy (c:Host)(b d:Int)(F:zce big (.agg (zbk c)::[aI b,aI d]))(w:zD8 c b d=true):∃N,zC2 N c b d=some (.agg (zbk (zwb c b d))::[]):=by
 obtain⟨j,B,l⟩:=zL.1 w;have e:∀r,Shape r->inb 0 (ln (zch r))=true->hasB b (ln r.Mons)=true->(cond (inb b (ln r.Mons)) (cond (zlE r) (cond (inb 0 (ln (zfF r))) (cond (inb d (ln (ix r.Mons b zi).Out)) (cond (zkU r.Memory (ix (zfF r) 0 0) (ix (ix r.Mons b zi).Out d [])) (cond (inb d (ln (ix r.Mons b zi).Out)) (share (up r.Mons b ({ (ix r.Mons b zi) with Out:=(up (ix r.Mons b zi).Out d [])}:Mon)) (fun g=>(cond (inb d (ln (ix g b zi).Outer)) (cond (inb d (ln (ix g b zi).Outer)) (share (up g b ({ (ix g b zi) with Outer:=(up (ix g b zi).Outer d (⟨(ix (zfF r) 0 0),3⟩:Slot))}:Mon)) (fun u=>(cond (zec ({r with Memory:=(zjr r.Memory (ix (zfF r) 0 0) (ix (ix r.Mons b zi).Out d [])),Mons:=u}:Host) b d (ix (ix g b zi).Outer d zV)) (some [(AV.agg (zbk (zed ({r with Memory:=(zjr r.Memory (ix (zfF r) 0 0) (ix (ix r.Mons b zi).Out d [])),Mons:=u}:Host) b d (ix (ix g b zi).Outer d zV))))]) none))) none) none))) none) none) none) none) none) none)=some [AV.agg (zbk (zeH r b d (ix (zch r) 0 0)))]:=(by intro r i f a;obtain⟨E,q⟩:=zcB i a;have v:=zZr (to:=ix (zch r) 0 0) i a l;have hE:=z0L (p:=d) (to:=ix (zch r) 0 0) i a;obtain⟨k,rfl,A⟩:=zdJ (n:=r.Mons.length) a;have z:∀(x y:Mon),hasB (k:Int) (ln (up (up r.Mons (k:Int) x) (k:Int) y))=true:=fun x y=>(by simpa [ln] using a);have t:inb d (ln (ix (up r.Mons (k:Int) {ix r.Mons (k:Int) mZ with Out:=up (ix r.Mons (k:Int) mZ).Out d []}) (k:Int) mZ).Outer)=true:=(by rw[zdP A];exact zG (zdB q.1 l));refine must (zG a) (must (zbM i.1.1.1) (must f (must (zG (zdB q.2.1 l)) (must (zbM ⟨i.1.1,zXk i a l⟩) (must (zG (zdB q.2.1 l)) (shr (must t (must t (shr (must (zbM ⟨v,z _ _⟩) ?_))))))))));exact congrArg (fun x=>some [AV.agg (zbk x)]) hE);have h:=room j;have a:=zqi j B;refine⟨0,?_⟩;unfold zC2 zwb fetched oN;conv=>zeta
 refine must (zbM j.1.1.1.1) ?_;cases s:ieq (ln (zfF c)) 0;{have m:zc8 c=c:=(by unfold zc8;rw[show ieq (ln (zch c)) 0=false from s];rfl);rw[m]at h a ⊢;exact e c h.shape h.free a};{obtain⟨C,D⟩:=zF7 j s;have m:zc8 c=zdq c (zbG c 0).1 (zbG c 0).2:=(by unfold zc8;rw[show ieq (ln (zch c)) 0=true from s];rfl);rw[m]at h a ⊢;exact must rfl (must (zbM ⟨j.1,C,D⟩) (e _ h.shape h.free a))}
theorem zSG:zbK Tryz.prog 208 [true,true,true,true] zuT:=by refine zgV (zge zg5 zA z0a zGh) (zjj (by kernel_rfl)) ?_;intro g a b j i f h;have d:=zkE f;unfold zuT at h;split at h;{obtain⟨e,rfl,rfl⟩:=zm0 h;obtain⟨N,c⟩:=zYy _ _ _ (by exact d) e;exact⟨rfl,_,N,12,(z1N N _ _ _ ).trans c⟩};{cases h}
def z1W:zcL:=[(208,([true,true,true,true],zuT))]++z7v
theorem zQC:zb3 z1W:=zcq z0a (by
 intro x a;simp only[qG,qN,or_false]at a;rcases a with rfl
 .exact zSG)
def zbI (h:Host)(m p:Int):Host:={h with Mons:=up h.Mons m {ix h.Mons m mZ with Dirty:=up (ix h.Mons m mZ).Dirty p true}}
def opened (h:Host)(m p:Int):Host:=bif ieq (wand .i64 (ix (ix h.Mons m mZ).Outer p sZ).Rights 2) 0 then zcm h m p ⟨(ix (ix h.Mons m mZ).Outer p sZ).Page,3⟩ else h
def zjw (h:Host)(m p n:Int):Host:=bif ieq (wand .i64 n 2) 0 then h else opened (zbI h m p) m p
def mended (h:Host)(m p n:Int):Host:=bif ieq (ix (ix h.Mons m mZ).Outer p sZ).Page (-1) then zjw (fetched h m p) m p n else zjw h m p n
theorem zbaJ {r:Int}(a:0<=r)(b:r<=3):enough r 2 = !ieq (wand .i64 r 2) 0:=by have:r=0\/r=1\/r=2\/r=3:=(by omega);rcases this with rfl|rfl|rfl|rfl<;>rfl
structure SlotFit (s:Slot):Prop where
 no:zcU s noSlot=ieq s.Page (-1)
 lo:0<=s.Rights
 hi:s.Rights<=3
theorem z2F {s:Slot}{n:Int}(h:zdD s n=true):SlotFit s:=by refine⟨zSq h,?_,?_⟩<;>unfold zdD at h<;>cases a:zcU s noSlot;{rw [a]at h;simp only[cF,zda]at h;have:=(zfP.1 h.2.2).1;omega};{unfold zcU at a;rw[qD]at a;have:s.Rights=0:=qE a.2;omega};{rw [a]at h;simp only[cF,zda]at h;have:=(zfP.1 h.2.2).2;omega};{unfold zcU at a;rw[qD]at a;have:s.Rights=0:=qE a.2;omega}
theorem znk {h:Host}{m p:Int}(c:Shape h)(d:hasB m (ln h.Mons)=true):Shape (zbI h m p):=by obtain⟨a,b⟩:=zcB c d;exact ziv c ⟨a.1,a.2.1,by simpa using a.2.2.1,a.2.2.2⟩ ⟨b.1,b.2.1,by simpa using b.2.2.1,b.2.2.2⟩
theorem zXb {h:Host}{m p:Int}(b:Shape h)(a:hasB m (ln h.Mons)=true):Shape (opened h m p)/\hasB m (ln (opened h m p).Mons)=true:=by unfold opened;cases ieq (wand .i64 (ix (ix h.Mons m mZ).Outer p sZ).Rights 2) 0;{exact⟨b,a⟩};{exact⟨zs5 a b,zHW a⟩}
theorem zIA {h:Host}{m p n:Int}(b:Shape h)(a:hasB m (ln h.Mons)=true):Shape (zjw h m p n)/\hasB m (ln (zjw h m p n).Mons)=true:=by unfold zjw;cases ieq (wand .i64 n 2) 0;{exact zXb (znk b a) (zer a)};{exact⟨b,a⟩}
theorem zvs {h:Host}{m p n:Int}(a:Fit h)(b:hasB m (ln h.Mons)=true)(e:hasB p 8=true):Shape (mended h m p n)/\hasB m (ln (mended h m p n).Mons)=true:=by unfold mended;cases ieq (ix (ix h.Mons m mZ).Outer p sZ).Page (-1);{exact zIA a.1 b};{obtain⟨c,d⟩:=zj5 a b e;exact zIA c d}
theorem zU2 {h:Host}{m p:Int}(c:Fit h)(g:hasB m (ln h.Mons)=true)(j:hasB p 8=true):(ix (ix (fetched h m p).Mons m mZ).Outer p sZ).Rights=3:=by have f:=room c;have a:=zqi c g;obtain⟨r,e⟩:=zcB f.shape a;obtain⟨k,rfl,d⟩:=zdJ (n:=(zc8 h).Mons.length) a;obtain⟨q,rfl,l⟩:=zdJ (n:=8) j;unfold fetched zeH;rw[(zf5 _ _ _ _).1];have b:k<(landing (zc8 h) (k:Int) (q:Int) (ix (zch (zc8 h)) 0 0)).Mons.length:=(by simpa [landing] using d);rw[zdP b];have i:q<(ix (landing (zc8 h) (k:Int) (q:Int) (ix (zch (zc8 h)) 0 0)).Mons (k:Int) mZ).Outer.length:=(by unfold landing;rw[zdP d];show q<(ix (zc8 h).Mons (k:Int) mZ).Outer.length;rw[e.1];exact l);show (ix (up (ix (landing (zc8 h) (k:Int) (q:Int) (ix (zch (zc8 h)) 0 0)).Mons (k:Int) mZ).Outer (q:Int) ⟨_,3⟩) (q:Int) sZ).Rights=3;rw[zdP i]
def zUq (h:Host)(m p n:Int):Prop:=Fit h/\hasB m (ln h.Mons)=true/\hasB p 8=true/\(n=1\/n=2)/\SlotFit (ix (ix h.Mons m mZ).Outer p sZ)
@[simp] abbrev zmX (h:Host)(m p n:Int):Bool:=pc (zUq h m p n)
@[simp] abbrev znY (h:Host)(m p n:Int):Host:=mended h m p n
def zsP:List AV->Option (Bool×List AV)
 |[.agg [.s (.sl .int) b,.s .mon c,.s .entry d,.s .entry e],.one (.i .i64 f),.one (.i .i64 g),.one (.i .i64 h)]=>some ((zmX (⟨b,c,d,e⟩:Host) f g h),[aH (znY (⟨b,c,d,e⟩:Host) f g h)])
 |_=>none
def zxt (N:Nat)(c:Host)(a b l:Int):OA:=
 let h:=(zzC c a b);let k:=(ix h.Mons a zi);let e:=(ix c.Mons a zi);let p:=(ix e.Outer b zV); (oN (inb a (ln c.Mons)) (oN (inb b (ln e.Outer)) (oN zcx (cond (cond (ieq p.Page zbw.Page) (ieq p.Rights zbw.Rights) false) (oN (zxb c a b) (cond (ieq (wand .i64 l 2) 0) (some [(aH h)]) (oN (inb a (ln h.Mons)) (oN (inb b (ln k.Dirty)) (share (up h.Mons a ({k with Dirty:=(up k.Dirty b true)}:Mon)) (fun d=>let q:=(ix d a zi).Outer;let i:=({h with Mons:=d}:Host);let m:=(ix q b zV);let r:=({m with Rights:=3}:Slot); (oN (inb a (ln d)) (oN (inb b (ln q)) (cond (ieq (wand .i64 m.Rights 2) 0) (oN (zeW i a b r) (some [(aH (zgO i a b r))])) (some [(aH i)])))))))))) (cond (ieq (wand .i64 l 2) 0) (some [(aH c)]) (oN (inb a (ln c.Mons)) (oN (inb b (ln e.Dirty)) (share (up c.Mons a ({e with Dirty:=(up e.Dirty b true)}:Mon)) (fun d=>let f:=(ix d a zi).Outer;let j:=({c with Mons:=d}:Host);let n:=(ix f b zV);let g:=({n with Rights:=3}:Slot); (oN (inb a (ln d)) (oN (inb b (ln f)) (cond (ieq (wand .i64 n.Rights 2) 0) (oN (zeW j a b g) (some [(aH (zgO j a b g))])) (some [(aH j)])))))))))))))
theorem zWq (N:Nat)(a:Host)(b c d:Int):zFU (cQ zqV zp8 z1W zXt) (zq []) N 12 115 [true,true,true,true,false,false,false] 1 1 [[0],[1],[2],[4],[7]] .mon [aH a,aI b,aI c,aI d]=zxt N a b c d:=by kernel_rfl
theorem zTz (d:Host)(b a h:Int)(C:zce big [aH d,aI b,aI a,aI h])(z:zmX d b a h=true):∃N,zxt N d b a h=some [aH (znY d b a h)]:=by
 obtain⟨l,j,i,D,A⟩:=zL.1 z;obtain⟨B,v⟩:=zcB l.1 j;have f:∀r,Shape r->hasB b (ln r.Mons)=true->(cond (ieq (wand .i64 h 2) 0) (some [(AV.agg (zbk r))]) (cond (inb b (ln r.Mons)) (cond (inb a (ln (ix r.Mons b zi).Dirty)) (share (up r.Mons b ({ (ix r.Mons b zi) with Dirty:=(up (ix r.Mons b zi).Dirty a true)}:Mon)) (fun g=>(cond (inb b (ln g)) (cond (inb a (ln (ix g b zi).Outer)) (cond (ieq (wand .i64 (ix (ix g b zi).Outer a zV).Rights 2) 0) (cond (zeW ({r with Mons:=g}:Host) b a ({ (ix (ix g b zi).Outer a zV) with Rights:=3}:Slot)) (some [(AV.agg (zbk (zgO ({r with Mons:=g}:Host) b a ({ (ix (ix g b zi).Outer a zV) with Rights:=3}:Slot))))]) none) (some [(AV.agg (zbk ({r with Mons:=g}:Host)))])) none) none))) none) none))=some [AV.agg (zbk (zjw r b a h))]:=(by intro r u c;obtain⟨E,m⟩:=zcB u c;have y:=znk (p:=a) u c;unfold zjw;cases w:ieq (wand .i64 h 2) 0;{obtain⟨k,rfl,t⟩:=zdJ (n:=r.Mons.length) c;have q:ix (zbI r (k:Int) a).Mons (k:Int) mZ={ix r.Mons (k:Int) mZ with Dirty:=up (ix r.Mons (k:Int) mZ).Dirty a true}:=zdP t _ _;refine zdy rfl (must (zG c) (must (zG (zdB m.2.2.1 i)) (shr (must (zG (zer c)) (must ?_ ?_)))));{rw [zdP t];exact zG (zdB m.1 i)};{unfold opened;show (cond (ieq (wand .i64 (ix (ix (zbI r (k:Int) a).Mons (k:Int) mZ).Outer a sZ).Rights 2) 0) _ _)=_;cases s:ieq (wand .i64 (ix (ix (zbI r (k:Int) a).Mons (k:Int) mZ).Outer a sZ).Rights 2) 0;{rfl};{refine must rfl (must (zbM ⟨(zT _).2 y.1,zer c,?_,?_⟩) rfl);{show hasB a (ln (ix (zbI r (k:Int) a).Mons (k:Int) mZ).Outer)=true;rw[q];exact zdB m.1 i};{show (ix (zbI r (k:Int) a).Mons (k:Int) mZ).Tables.length<=(ix (zbI r (k:Int) a).Mons (k:Int) mZ).Guests.length;rw[q];exact kY m.2.2.2}}}};{rfl});refine⟨0,?_⟩;unfold zxt znY mended oN;conv=>zeta
 refine must (zG j) (must (zG (zdB v.1 i)) (must rfl ?_));have e:(cond (ieq (ix (ix d.Mons b mZ).Outer a sZ).Page zbw.Page) (ieq (ix (ix d.Mons b mZ).Outer a sZ).Rights zbw.Rights) false)=ieq (ix (ix d.Mons b mZ).Outer a sZ).Page (-1):=(by rw[<- A.no];unfold zcU zbw;cases ieq (ix (ix d.Mons b mZ).Outer a sZ).Page noSlot.Page<;>rfl);rw[e];cases w:ieq (ix (ix d.Mons b mZ).Outer a sZ).Page (-1);{exact f d l.1 j};{obtain⟨s,x⟩:=zj5 (p:=a) l j i;exact must rfl (must (zbM ⟨l,j,i⟩) (f _ s x))}
theorem zMI:zdZ Tryz.prog 115 [true,true,true,true,false,false,false] (some (1,1,[[0],[1],[2],[4],[7]])) zsP:=by refine zlD (kt:=.mon) (zge zg5 zA zQC zGh) (zjj (by kernel_rfl)) (by kernel_rfl) ?_;intro a g f e h;have c:=ziA e;unfold zsP at h;split at h;{obtain⟨d,rfl⟩:=zd5 h;obtain⟨N,b⟩:=zTz _ _ _ _ (by exact c) d;exact⟨⟨_,rfl⟩,rfl,_,N,12,(zWq N _ _ _ _ ).trans b⟩};{cases h}
@[simp] abbrev zAx (h:Host)(m p n:Int):Bool:=pc (zUq h m p n)
@[simp] abbrev zuK (h:Host)(m p n:Int):Host:=mended h m p n
def zxI:List CV->List AV->Option (Bool×List CV×List AV)
 |[.s (.sl .int) b,.s .mon c,.s .entry d,.s .entry e],[.one (.i .i64 f),.one (.i .i64 g),.one (.i .i64 h)]=>some ((zAx (⟨b,c,d,e⟩:Host) f g h),zbk (zuK (⟨b,c,d,e⟩:Host) f g h),[])
 |_,_=>none
def zIL (N:Nat)(c:Host)(b a k:Int):OA:=
 let e:=(zwb c b a);let m:=(ix e.Mons b zi);let h:=(ix c.Mons b zi); (oN (inb b (ln c.Mons)) (oN (inb a (ln h.Outer)) (cond (ieq (ix h.Outer a zV).Page (-1)) (oN (zD8 c b a) (oN (zew k 2) (cond (nB (ze5 k 2)) (some [(aH e)]) (oN (inb b (ln e.Mons)) (oN (inb a (ln m.Dirty)) (share (up e.Mons b ({m with Dirty:=(up m.Dirty a true)}:Mon)) (fun d=>let i:=(ix d b zi);let f:=(ix i.Outer a zV); (oN (inb a (ln i.Outer)) (oN (zew f.Rights 2) (cond (nB (ze5 f.Rights 2)) (oN (inb a (ln i.Outer)) (share (up d b ({i with Outer:=(up i.Outer a ({f with Rights:=3}:Slot))}:Mon)) (fun l=>let n:=({e with Mons:=l}:Host); (oN (zec n b a f) (some [(aH (zed n b a f))]))))) (some [(aH ({e with Mons:=d}:Host))]))))))))))) (oN (zew k 2) (cond (nB (ze5 k 2)) (some [(aH c)]) (oN (inb b (ln c.Mons)) (oN (inb a (ln h.Dirty)) (share (up c.Mons b ({h with Dirty:=(up h.Dirty a true)}:Mon)) (fun d=>let j:=(ix d b zi);let g:=(ix j.Outer a zV); (oN (inb a (ln j.Outer)) (oN (zew g.Rights 2) (cond (nB (ze5 g.Rights 2)) (oN (inb a (ln j.Outer)) (share (up d b ({j with Outer:=(up j.Outer a ({g with Rights:=3}:Slot))}:Mon)) (fun l=>let p:=({c with Mons:=l}:Host); (oN (zec p b a g) (some [(aH (zed p b a g))]))))) (some [(aH ({c with Mons:=d}:Host))])))))))))))))
theorem z4H (N:Nat)(c:Host)(a b d:Int):zoe (cQ zqV zp8 z1W zXt) (zq []) N 12 112 [true,true,true,true] (zbk c) [aI a,aI b,aI d]=zIL N c a b d:=by kernel_rfl
theorem z1E (c:Host)(b a f:Int)(R:zce big (.agg (zbk c)::[aI b,aI a,aI f]))(M:zAx c b a f=true):∃N,zIL N c b a f=some (.agg (zbk (zuK c b a f))::[]):=by
 obtain⟨l,i,j,P,C⟩:=zL.1 M;obtain⟨Q,I⟩:=zcB l.1 i;have H:enough f 2 = !ieq (wand .i64 f 2) 0:=(by rcases P with rfl|rfl<;>rfl);have g:∀r,Shape r->hasB b (ln r.Mons)=true->enough (ix (ix r.Mons b mZ).Outer a sZ).Rights 2=(!ieq (wand .i64 (ix (ix r.Mons b mZ).Outer a sZ).Rights 2) 0)->(cond (zew f 2) (cond (cond (ze5 f 2) false true) (some [(AV.agg (zbk r))]) (cond (inb b (ln r.Mons)) (cond (inb a (ln (ix r.Mons b zi).Dirty)) (share (up r.Mons b ({ (ix r.Mons b zi) with Dirty:=(up (ix r.Mons b zi).Dirty a true)}:Mon)) (fun e=>(cond (inb a (ln (ix e b zi).Outer)) (cond (zew (ix (ix e b zi).Outer a zV).Rights 2) (cond (cond (ze5 (ix (ix e b zi).Outer a zV).Rights 2) false true) (cond (inb a (ln (ix e b zi).Outer)) (share (up e b ({ (ix e b zi) with Outer:=(up (ix e b zi).Outer a ({ (ix (ix e b zi).Outer a zV) with Rights:=3}:Slot))}:Mon)) (fun F=>(cond (zec ({r with Mons:=F}:Host) b a (ix (ix e b zi).Outer a zV)) (some [(AV.agg (zbk (zed ({r with Mons:=F}:Host) b a (ix (ix e b zi).Outer a zV))))]) none))) none) (some [(AV.agg (zbk ({r with Mons:=e}:Host)))])) none) none))) none) none)) none)=some [AV.agg (zbk (zjw r b a f))]:=(by intro r B d q;obtain⟨S,u⟩:=zcB B d;have w:=znk (p:=a) B d;unfold zjw;simp only[zew,ze5,H,cT];cases J:ieq (wand .i64 f 2) 0;{obtain⟨k,rfl,A⟩:=zdJ (n:=r.Mons.length) d;have m:ix (zbI r (k:Int) a).Mons (k:Int) mZ={ix r.Mons (k:Int) mZ with Dirty:=up (ix r.Mons (k:Int) mZ).Dirty a true}:=zdP A _ _;have t:k<(zbI r (k:Int) a).Mons.length:=(by simpa [zbI] using A);have z:inb a (ln (ix (zbI r (k:Int) a).Mons (k:Int) mZ).Outer)=true:=(by rw[m];exact zG (zdB u.1 j));refine zdy rfl (must (zG d) (must (zG (zdB u.2.2.1 j)) (shr (must z ?_))));unfold opened;show (cond (cond (enough (ix (ix (zbI r (k:Int) a).Mons (k:Int) mZ).Outer a sZ).Rights 2) false true) _ _)=_;have G:(cond (enough (ix (ix (zbI r (k:Int) a).Mons (k:Int) mZ).Outer a sZ).Rights 2) false true)=ieq (wand .i64 (ix (ix (zbI r (k:Int) a).Mons (k:Int) mZ).Outer a sZ).Rights 2) 0:=(by rw[m];show (cond (enough (ix (ix r.Mons (k:Int) mZ).Outer a sZ).Rights 2) false true)=ieq (wand .i64 (ix (ix r.Mons (k:Int) mZ).Outer a sZ).Rights 2) 0;rw[q];cases ieq (wand .i64 (ix (ix r.Mons (k:Int) mZ).Outer a sZ).Rights 2) 0<;>rfl);rw[G];cases v:ieq (wand .i64 (ix (ix (zbI r (k:Int) a).Mons (k:Int) mZ).Outer a sZ).Rights 2) 0;{rfl};{have L:Shape {zbI r (k:Int) a with Mons:=up (zbI r (k:Int) a).Mons (k:Int) {ix (zbI r (k:Int) a).Mons (k:Int) mZ with Outer:=up (ix (zbI r (k:Int) a).Mons (k:Int) mZ).Outer a ⟨(ix (ix (zbI r (k:Int) a).Mons (k:Int) mZ).Outer a sZ).Page,3⟩}}:=(by obtain⟨D,E⟩:=zcB w (zer d);exact ziv w ⟨by simpa using D.1,D.2⟩ ⟨by simpa using E.1,E.2⟩);have O:∀(x y:Mon),hasB (k:Int) (ln (up (up r.Mons (k:Int) x) (k:Int) y))=true:=fun x y=>(by simpa [ln] using d);refine must rfl (must z (shr (must (zbM ⟨L,O _ _⟩) ?_)));exact congrArg (fun x=>some [AV.agg (zbk x)]) (zBb (h:=zbI r (k:Int) a) (p:=a) (s:=⟨(ix (ix (zbI r (k:Int) a).Mons (k:Int) mZ).Outer a sZ).Page,3⟩) t (by rw[m];exact u.2.2.2))}};{rfl});refine⟨0,?_⟩;unfold zIL zuK mended oN nB;conv=>zeta
 refine must (zG i) (must (zG (zdB I.1 j)) ?_);cases J:ieq (ix (ix c.Mons b mZ).Outer a sZ).Page (-1);{exact g c l.1 i (zbaJ C.lo C.hi)};{obtain⟨v,K⟩:=zj5 (p:=a) l i j;exact must rfl (must (zbM ⟨l,i,j⟩) (g _ v K (by rw[zU2 l i j];rfl)))}
theorem zVf:zbK Tryz.prog 112 [true,true,true,true] zxI:=by refine zgV (zge zg5 zA zQC zGh) (zjj (by kernel_rfl)) ?_;intro g a b j i f h;have d:=zkE f;unfold zxI at h;split at h;{obtain⟨e,rfl,rfl⟩:=zm0 h;obtain⟨N,c⟩:=z1E _ _ _ _ (by exact d) e;exact⟨rfl,_,N,12,(z4H N _ _ _ _ ).trans c⟩};{cases h}
def z1X:zcL:=[(112,([true,true,true,true],zxI))]++z1W
theorem zb9:zb3 z1X:=zcq zQC (by
 intro x a;simp only[qG,qN,or_false]at a;rcases a with rfl
 .exact zVf)
def z2P:zfA:=[(115,([true,true,true,true,false,false,false],(some (1,1,[[0],[1],[2],[4],[7]])),zsP))]++zXt
theorem zzI:zeg z2P:=zqK zGh (by
 intro x a;simp only[qG,qN,or_false]at a;rcases a with rfl
 .exact zMI)
theorem z1s {h:Host}(b:zbW h=true):h.Memory.length=12:=by unfold zbW at b;simp only[zda]at b;have a:=b.1;unfold zhy at a;simp only[zda]at a;have:ln h.Memory=12:=qE a.2;simp only[ln] at this;omega
theorem zgI {h:Host}(a:zbW h=true):∀x∈h.Mons,zdY x=true:=by unfold zbW at a;simp only[zda]at a;exact zAo _ _ a.2.2.2.2
theorem zKa {x:Mon}(a:zdY x=true):ShM x:=by have e:=zsn (zmF a);unfold zdY at a;simp only[zda]at a;have b:ln x.Tables=ln x.Guests:=qE a.2.1;have c:ln x.Out=8:=qE a.2.2.2.1;have d:ln x.Dirty=8:=qE a.2.2.2.2.1;simp only[ln] at *;exact⟨by omega,by omega,by omega,by omega⟩
theorem ze3 {h:Host}(b:SmH h)(a:zbW h=true):Fit h:=by refine⟨⟨b,fun x c=>zKa (zgI a x c)⟩,by rw[z1s a];decide,?_⟩;unfold zbW at a;simp only[zda]at a;have:=zVk _ _ rfl a.2.2.2.2;omega
theorem ztw {x:Mon}(b:zdY x=true){p:Int}(c:hasB p 8=true):SlotFit (ix x.Outer p sZ):=by have a:=zmF b;unfold zcS at a;simp only[zda]at a;exact z2F (qM.1 a.1 _ (zbu (zdB (zKa b).1 c) _))
theorem zYi {h:Host}{m p:Int}(a:Fit h)(c:hasB m (ln h.Mons)=true):Fit (zbI h m p):=by refine⟨znk a.1 c,a.2.1,?_⟩;obtain⟨k,rfl,b⟩:=zdJ (n:=h.Mons.length) c;have:=zX0 h.Mons k (ix h.Mons (k:Int) mZ) {ix h.Mons (k:Int) mZ with Dirty:=up (ix h.Mons (k:Int) mZ).Dirty p true} (by rw[zbp b];exact qB b);have d:=a.2.2;unfold zbI;simp only[up,kH];dsimp only at this;simp only[up] at this;omega
abbrev gZ:Guest:=Ty.dflt .guest
@[simp] abbrev zD6 (h:Host)(m:Int):Bool:=pc (zcD h)
@[simp] abbrev zeI (h:Host)(m:Int):Mon:=bif hasB m (ln h.Mons) then ix h.Mons m mZ else mZ
@[simp] abbrev zr5 (h:Host)(m:Int):Bool:=hasB m (ln h.Mons)
def zIb:Run:=rF2 dH dI fun b c=>(zD6 b c,[aT .mon (zeI b c),aB (zr5 b c)])
def zRc (N:Nat)(a:Host)(b:Int):OA:=
 let c:=(ix a.Mons b zi); (oN (zdh b (ln a.Mons)) (cond (nB (zdG b (ln a.Mons))) (some [(aT .mon (⟨[],[],[],[],[],0,0,[],0⟩:Mon)),(aB false)]) (oN (inb b (ln a.Mons)) (oN (zkc c) (some [(aT .mon (zkV c)),(aB true)])))))
theorem zYv (a:Host)(b:Int)(d:zD6 a b=true):∃N,zRc N a b=some [aT .mon (zeI a b),aB (zr5 a b)]:=by
 have e:=(zT a).1 (zL.1 d);refine⟨0,?_⟩;unfold zRc zeI zr5 oN nB;conv=>zeta
 refine must rfl ?_;rw[show zdG b (ln a.Mons)=hasB b (ln a.Mons) from rfl];cases c:hasB b (ln a.Mons);{rfl};{exact zdy rfl (must (zG c) (must (zbM (e.2.1.2 _ (zbu c _))) rfl))}
theorem zSD:vN 215 zIb:=kF2 zg5 zA zb9 zzI (zq []) zYv
def zbZ (h:Host)(m g:Int):Bool:=bif zbW h then (cond (hasB m (ln h.Mons)) (hasB g (ln (ix h.Mons m mZ).Guests)) false) else false
@[simp] abbrev zgQ (h:Host)(m g:Int):Bool:=pc (zcD h)
@[simp] abbrev zi1 (h:Host)(m g:Int):Bool:=zbZ h m g
def zIr:Run:=rF3 dH dI dI fun b c d=>(zgQ b c d,[aB (zi1 b c d)])
def zRt (N:Nat)(a:Host)(b c:Int):OA:=
 let d:=(wsub .i64 (ln (ix a.Mons b zi).Guests) 1); (oN (zff a) (cond (zfe a) (oN (zO b 0 (wsub .i64 (ln a.Mons) 1)) (cond (zS b 0 (wsub .i64 (ln a.Mons) 1)) (oN (inb b (ln a.Mons)) (oN (zO c 0 d) (some [(aB (zS c 0 d))]))) oF)) oF))
theorem zYO (a:Host)(b c:Int)(f:zgQ a b c=true):∃N,zRt N a b c=some [aB (zi1 a b c)]:=by
 have e:=(zT a).1 (zL.1 f);refine⟨0,?_⟩;unfold zRt zi1 zbZ oN;conv=>zeta
 refine must rfl ?_;rw[show zfe a=zbW a from rfl];cases g:zbW a;{rfl};{rw [show zS b 0 (wsub .i64 (ln a.Mons) 1)=hasB b (ln a.Mons) from zqM e.2.1.1 b];refine must rfl (must rfl ?_);cases d:hasB b (ln a.Mons);{rfl};{have hg:(ix a.Mons b mZ).Guests.length<=1048576:=(e.2.1.2 _ (zbu d _)).2.2.2.1.1;rw[show zS c 0 (wsub .i64 (ln (ix a.Mons b zi).Guests) 1)=hasB c (ln (ix a.Mons b mZ).Guests) from zqM hg c];exact must rfl (must (zG d) (must rfl rfl))}}
theorem zSX:vN 339 zIr:=kF3 zg5 zA zb9 zzI (zq []) zYO
def zcw (h:Host)(m:Int):Nat->Nat->List (List Int)
 | 0,_=>[]
 |n+1,i=>zcd h m (i:Int)::zcw h m n (i+1)
theorem zAM (h:Host)(m:Int):∀(n i:Nat),(zcw h m n i).length=n
 | 0,_=>rfl
 |n+1,i=>by simp[zcw,zAM h m n]
def zC (h:Host)(m:Int):Bare:=bif hasB m (ln h.Mons) then ⟨zcw h m 8 0,(ix h.Mons m mZ).Guests,(ix h.Mons m mZ).Outs,(ix h.Mons m mZ).Pending⟩ else ⟨[],[],[],0⟩
theorem zRW {c:Type}(h:Host)(m:Int)(K:List (List Int)->Option c):∀(n i:Nat) (a:List (List Int)),a.length+n<=2147483648->
 goN (fun i a b=>bif few (ln (ap a [zcd h m (i:Int)])) then b (ap a [zcd h m (i:Int)]) else none) K n i a=K (a++zcw h m n i)
 | 0,_,a,_=>by simp[goN,zcw]
 |n+1,i,a,d=>by simp only[goN,zcw];rw[zg8 (by simp[ap];omega),cT,zRW h m K n (i+1) _ (by simp[ap];omega)];simp[ap]
@[simp] abbrev zts (h:Host)(m:Int):Bool:=pc (zcD h)
@[simp] abbrev zhb (h:Host)(m:Int):Bare:=zC h m
def z9h:zba:=[(215,zIb),(339,zIr)]++zqV
theorem zUR:zK z9h:=zh zSD (zh zSX zg5)
def zEJ:Run:=rF2 dH dI fun b c=>(zts b c,[aT .bare (zhb b c)])
def zKW (N:Nat)(b:Host)(c:Int):OA:=
 (oN (zD6 b c) (cond (nB (zr5 b c)) (some [(aT .bare (⟨[],[],[],0⟩:Bare))]) (iter (σ:=(Int×(Int×(Int×(Int×(lM×(lN×(lE×(lE×(lM×(lG×((List Int)×(lM×(lG×((List Int)×Unit))))))))))))))) N (fun h a=>let g:=a.2.2.2.2.2.2.2.2.2.2.2.2.1;let f:=a.2.2.2.2.2.2.2.2.2.2.2.2.2.1;let d:=(⟨a.2.2.2.2.1,a.2.2.2.2.2.1,a.2.2.2.2.2.2.1,a.2.2.2.2.2.2.2.1⟩:Host);let e:=(ap a.2.2.2.2.2.2.2.2.2.2.2.1 [(zAs d a.1 a.2.1)]); (cond (ilt a.2.1 8) (oN (zAt d a.1 a.2.1) (oN (few (ln e)) (h (a.1,((zM .i64 a.2.1 1),(a.2.2.1,(a.2.2.2.1,(a.2.2.2.2.1,(a.2.2.2.2.2.1,(a.2.2.2.2.2.2.1,(a.2.2.2.2.2.2.2.1,(a.2.2.2.2.2.2.2.2.1,(a.2.2.2.2.2.2.2.2.2.1,(a.2.2.2.2.2.2.2.2.2.2.1,(e,(g,(f,()))))))))))))))))) (some [(aT .bare (⟨a.2.2.2.2.2.2.2.2.2.2.2.1,g,f,a.2.2.2.1⟩:Bare))]))) (c,(0,(0,((zeI b c).Pending,(b.Memory,(b.Mons,(b.Buffer,(b.IoBuffer,([],([],([],([],((zeI b c).Guests,((zeI b c).Outs,())))))))))))))))))
def zXA:FuncId->Nat->Option Tmpl:=zq [(161,0,{n:=39,tm:=[(1,ti),(2,.lp 0 0),(4,.lp 1 0),(7,.lp 2 0),(8,ti)],lo:=[(0,[.sl 0 [],.sl 1 [],.sl 2 [],.sl 3 []]),(1,[.sl 4 [],.sl 5 [],.sl 6 [],ti]),(2,[.sl 7 [],.sl 8 [],.sl 9 [],ti])],ro:=[(0,(.sl .int),false),(1,.mon,false),(2,.entry,false),(3,.entry,false),(4,(.sl .int),true),(5,.guest,true),(6,.int,true),(7,(.sl .int),true),(8,.guest,true),(9,.int,true)]})]
theorem zVF (a:Host)(b:Int)(f:zts a b=true):∃N,zKW N a b=some [aT .bare (zhb a b)]:=by
 have e:=zL.1 f;refine zcz fun N d=>?_;unfold zKW zhb zC oN nB;conv=>zeta
 refine must (zbM e) ?_;rw[show zr5 a b=hasB b (ln a.Mons) from rfl];cases g:hasB b (ln a.Mons);{rfl};{refine zdy rfl ?_;refine(zAA 8 (fun i (t:lM)=>(b,(i:Int),0,(zeI a b).Pending,a.Memory,a.Mons,a.Buffer,a.IoBuffer,[],[],[],t,(zeI a b).Guests,(zeI a b).Outs,())) _ (fun i (c:List (List Int)) j=>bif few (ln (ap c [zcd a b (i:Int)])) then j (ap c [zcd a b (i:Int)]) else none) (fun (t:lM)=>(some [(.agg (Ty.cells .bare (⟨t,(zeI a b).Guests,(zeI a b).Outs,(zeI a b).Pending⟩:Bare)))])) (fun i h t rec=>?_) (fun t rec=>?_) _ ([]) (d (by decide))).trans ?_;{simp only [show ilt (i:Int) 8=true from qJ (by omega),zbi h (show 8<=big by decide),cT];exact must (zbM e) rfl};{simp only [show ilt (((8:Nat)):Int) 8=false from qH (by omega),cF]};rw[zRW a b _ 8 0 [] (by decide)];simp only[zeI,g,cT,jQ]}
theorem zOX:vN 161 zEJ:=kF2 zUR zA zb9 zzI zXA zVF
theorem zYX:zci zBi=true:=by decide
theorem zZF {p:Nat->Bool}:∀{n i q:Nat},zn5 p n i=true->i<=q->q<i+n->p q=true
 | 0,i,q,_,a,b=>by omega
 |n+1,i,q,h,a,b=>by simp only[zn5,qD]at h;by_cases c:i=q;{subst c;exact h.1};{exact zZF h.2 (by omega) (by omega)}
theorem z4U {h:Host}{m:Int}(e:zbW h=true)(l:hasB m (ln h.Mons)=true){p:Int}(j:hasB p 8=true):zci (zcd h m p)=true:=by have i:=zgI e _ (zbu l mZ);have s:=zKa i;have f:h.Memory.all zci=true:=(by unfold zbW at e;simp only[zda]at e;have b:=e.1;unfold zhy at b;simp only[zda]at b;exact b.1);unfold zcd;rw[l,j];simp only[cT];have t:zbv (ix h.Mons m mZ).Outer p=ix (ix h.Mons m mZ).Outer p sZ:=(by unfold zbv;rw[zdB s.1 j];rfl);rw[t];have d:∀(g:List (List Int)) (q:Int),(hasB q (ln g)=true->zci (ix g q [])=true)->zci (zct g q)=true:=(by intro g q k;unfold zct;cases b:hasB q (ln g);{exact zYX};{exact k b});cases c:ine (ix (ix h.Mons m mZ).Outer p sZ).Page (-1);{refine d _ _ (fun k=>?_);obtain⟨q,rfl,u⟩:=zdJ (n:=8) j;have a:fits (ix h.Mons m mZ) q=true:=(by unfold zdY at i;simp only[zda]at i;exact zZF i.2.2.2.2.2.2.2.2.2.2 (by omega) (by omega));unfold fits zlN at a;have r:zcU (ix (ix h.Mons m mZ).Outer (q:Int) sZ) noSlot=true:=(by rw[(ztw (zgI e _ (zbu l mZ)) j).no];rw[zyG]at c;cases b:ieq (ix (ix h.Mons m mZ).Outer (q:Int) sZ).Page (-1);{rw [b]at c;cases c};{rfl});rw[r]at a;exact a};{exact d _ _ (fun k=>qM.1 f _ (zbu k _))}
theorem zSc {h:Host}{m:Int}(a:zbW h=true)(b:hasB m (ln h.Mons)=true):∀(n i:Nat),i+n<=8->(zcw h m n i).all zci=true
 | 0,_,_=>rfl
 |n+1,i,c=>by simp only[zcw,kW,qD];exact⟨z4U a b (qJ (by omega)),zSc a b n (i+1) (by omega)⟩
theorem zxz {h:Host}{m:Int}(c:zbW h=true)(b:hasB m (ln h.Mons)=true):zbQ (zC h m)=true:=by have a:=zgI c _ (zbu b mZ);unfold zdY at a;simp only[zda]at a;unfold zC zbQ zhy;rw[b];simp only[cT,a.2.2.2.2.2.2.2.2.2.1,zSc c b 8 0 (by decide),ln,zAM];simp only[ln]at a;rw[a.1,a.2.2.2.2.2.1,a.2.2.2.2.2.2.1];rfl
def zm1:zba:=[(161,zEJ)]++z9h
theorem zie:zK zm1:=zh zOX zUR
def zd0 (l:List Mon):List (List Guest):=l.map fun x=>x.Guests
theorem zAm {l:List Mon}{m:Int}{x:Mon}(b:hasB m (ln l)=true)(c:x.Guests=(ix l m mZ).Guests):zd0 (up l m x)=zd0 l:=by obtain⟨k,rfl,a⟩:=zdJ (n:=l.length) b;unfold zd0 up;rw[List.map_set,kH,c,zbp a];have:=@u1 _ (l.map fun x=>x.Guests) k (by simpa using a);simpa using this
theorem zL2 {l b:List Mon}(h:zd0 b=zd0 l)(m:Int):(ix b m mZ).Guests=(ix l m mZ).Guests:=by unfold zd0 at h;have a:(b.map fun x=>x.Guests)[m.toNat]?=(l.map fun x=>x.Guests)[m.toNat]?:=(by rw[h]);rw[qP,qP]at a;unfold ix;simp only[kB];cases c:b[m.toNat]? <;> cases d:l[m.toNat]? <;> rw [c,d]at a<;>simp at a ⊢;exact a
theorem zAl {h:Host}{m p:Int}{s:Slot}(a:hasB m (ln h.Mons)=true):zd0 (zcm h m p s).Mons=zd0 h.Mons:=by rw[(zf5 h m p s).1];exact zAm a rfl
theorem zbaQ {h:Host}{m p:Int}(a:hasB m (ln h.Mons)=true):zd0 (zdq h m p).Mons=zd0 h.Mons:=(zAl (h:=zey h m p) (zer a)).trans (zAm a rfl)
theorem zbaP {h:Host}(b:Fit h):zd0 (zc8 h).Mons=zd0 h.Mons:=by unfold zc8;cases a:ieq (ln (zch h)) 0;{rfl};{exact zbaQ (zF7 b a).1}
theorem z1p {h:Host}{m p:Int}(a:Fit h)(c:hasB m (ln h.Mons)=true):zd0 (fetched h m p).Mons=zd0 h.Mons:=by have b:=zqi a c;exact((zAl (h:=landing (zc8 h) m p (ix (zch (zc8 h)) 0 0)) (zer b)).trans (zAm b rfl)).trans (zbaP a)
theorem zVc {h:Host}{m p n:Int}(b:hasB m (ln h.Mons)=true):zd0 (zjw h m p n).Mons=zd0 h.Mons:=by have a:zd0 (zbI h m p).Mons=zd0 h.Mons:=zAm b rfl;unfold zjw;cases ieq (wand .i64 n 2) 0;{unfold opened;cases ieq (wand .i64 (ix (ix (zbI h m p).Mons m mZ).Outer p sZ).Rights 2) 0;{exact a};{exact(zAl (h:=zbI h m p) (zer b)).trans a}};{rfl}
theorem z4i {h:Host}{m p n:Int}(b:Fit h)(a:hasB m (ln h.Mons)=true)(c:hasB p 8=true):zd0 (mended h m p n).Mons=zd0 h.Mons:=by unfold mended;cases ieq (ix (ix h.Mons m mZ).Outer p sZ).Page (-1);{exact zVc a};{exact(zVc (zj5 b a c).2).trans (z1p b a)}
theorem zbcf {l a:List Mon}(h:zd0 a=zd0 l):a.length=l.length:=by have:=congrArg List.length h;simpa [zd0] using this
abbrev kZ:Kept:=Ty.dflt .kept
theorem zbc7 {x:Guest}(f:zc4 x=true){p n:Int}(d:zfn x.Live p n=true):hasB (zcE x.Live p n) 8=true:=by have g:zcS x.Live 4 8=true:=(by unfold zc4 at f;simp only[qD]at f;exact f.2.2.2.2.1);unfold zcE;rw[d];simp only[cT];unfold zfn at d;cases a:ieq (zbv x.Live p).Page (-1);{unfold zbv at a ⊢;cases e:hasB p (ln x.Live);{rw [e]at a;cases a};{rw [e]at a;simp only[cT]at a ⊢;unfold zcS at g;simp only[zda]at g;have c:=qM.1 g.1 _ (zbu e sZ);unfold zdD at c;cases b:zcU (ix x.Live p sZ) noSlot;{rw [b]at c;simp only[cF,zda]at c;have:=zfP.1 c.2.1;rw[show wsub .i64 8 1=7 from rfl] at this;show hasB (ix x.Live p sZ).Page 8=true;exact qJ (by omega)};{unfold zcU at b;rw[qD]at b;have:(ix x.Live p sZ).Page = -1:=qE b.1;rw[show ieq (ix x.Live p zV).Page (-1)=true from qJ this]at a;cases a}}};{rw [a]at d;cases d}
def zcO (h:Host)(m g:Int):List Slot:=(ix (ix h.Mons m mZ).Guests g gZ).Live
def zcA (h:Host)(m g:Int):Kept:=ix (ix h.Mons m mZ).Tables g kZ
def zrW (b:List Entry)(m g a:Int):Option Entry:=zvW b (zdm m g) a
def zhF (b:List Entry)(m g a c:Int):Bool:=bif (zrW b m g a).isSome then enough ((zrW b m g a).getD ⟨0,0,0,0⟩).Rights c else false
def zeO (h:Host)(m g a b:Int):Bool:=bif zhe (zcA h m g) a then (cond (ieq (ze0 (zcA h m g) a).Page (-1)) true (!enough (ze0 (zcA h m g) a).Rights b)) else true
def zdL (h:Host)(m g a:Int):Host:={h with Mons:=up h.Mons m {ix h.Mons m mZ with Tables:=up (ix h.Mons m mZ).Tables g (filled (zcA h m g) (zcO h m g) (ix h.Mons m mZ).Outer a)}}
def zT5 (h:Host)(m g a:Int):Entry:=⟨zdm m g,a,(ze0 (zcA h m g) a).Page,(ze0 (zcA h m g) a).Rights⟩
def zwo (h:Host)(m g a:Int)(b:Bool):Host:=bif b then {h with IoBuffer:=zqe h.IoBuffer (zT5 h m g a)} else {h with Buffer:=zqe h.Buffer (zT5 h m g a)}
def zh1 (h:Host)(m g a:Int)(b:Bool):Host×Int×Bool:=(zwo h m g a b,(ze0 (zcA h m g) a).Page,true)
def zh0 (h:Host)(b:List Entry)(m g a c q:Int)(d:Bool):Host×Int×Bool :=
 bif zhF b m g a c then (h,((zrW b m g a).getD ⟨0,0,0,0⟩).Host,true)
 else (cond (zeO h m g a c) (zh1 (zdL (mended h m q c) m g a) m g a d) (zh1 h m g a d))
def zjR (a:Int):Bool:=bif ieq a 1 then true else ieq a 2
def zca (h:Host)(m g page need:Int):Bool:=bif zbZ h m g then (cond (zjR need) (zfn (zcO h m g) page need) false) else false
def lookOf (h:Host)(b:List Entry)(m g page need:Int)(io:Bool):Host×Int×Bool :=
 bif zca h m g page need then zh0 (cond (ieq need 2) (zbI h m (zcE (zcO h m g) page need)) h) b m g page need (zcE (zcO h m g) page need) io else (h,-1,false)
structure Kp (h r:Host):Prop where
 shape:Shape r
 gs:zd0 r.Mons=zd0 h.Mons
theorem Kp.has {h r:Host}(k:Kp h r){m:Int}(a:hasB m (ln h.Mons)=true):hasB m (ln r.Mons)=true:=by rw[ln,zbcf k.gs];exact a
theorem z2C {h:Host}{m g c:Int}(d:Shape h)(e:hasB m (ln h.Mons)=true)(hg:hasB g (ln (ix h.Mons m mZ).Guests)=true):Shape (zdL h m g c):=by obtain⟨a,b⟩:=zcB d e;have f:hasB g (ln (ix h.Mons m mZ).Tables)=true:=(by rw[ln,b.2.2.2];exact hg);exact ziv d ⟨a.1,a.2.1,a.2.2.1,a.2.2.2.1,a.2.2.2.2.1,zzE a.2.2.2.2.2 (z2I (a.2.2.2.2.2.2 _ (zbu f _)))⟩ ⟨b.1,b.2.1,b.2.2.1,by simpa using b.2.2.2⟩
theorem z4r {h r:Host}{m g a:Int}{i:Bool}(k:Kp h r):Kp h (zwo r m g a i):=by obtain⟨⟨b,c,d,e⟩,f⟩:=k.shape;unfold zwo;cases i;{exact⟨⟨⟨b,c,(zAP _ d).1,e⟩,f⟩,k.gs⟩};{exact⟨⟨⟨b,c,d,(zAP _ e).1⟩,f⟩,k.gs⟩}
structure LookAt (h:Host) (m g q need:Int):Prop where
 fit:Fit h
 hm:hasB m (ln h.Mons)=true
 hg:hasB g (ln (ix h.Mons m mZ).Guests)=true
 hq:hasB q 8=true
 hn:need=1\/need=2
 hs:SlotFit (ix (ix h.Mons m mZ).Outer q sZ)
theorem LookAt.mend {h:Host}{m g q a:Int}(A:LookAt h m g q a):zUq h m q a:=⟨A.fit,A.hm,A.hq,A.hn,A.hs⟩
theorem LookAt.kp {h:Host}{m g q a:Int}(A:LookAt h m g q a):Kp h (mended h m q a):=⟨(zvs A.fit A.hm A.hq).1,z4i A.fit A.hm A.hq⟩
theorem LookAt.fill {h:Host}{m g q a:Int}(A:LookAt h m g q a)(b:Int):Kp h (zdL (mended h m q a) m g b):=by have k:=A.kp;have hg:hasB g (ln (ix (mended h m q a).Mons m mZ).Guests)=true:=(by rw[zL2 k.gs];exact A.hg);have e:zd0 (zdL (mended h m q a) m g b).Mons=zd0 (mended h m q a).Mons:=zAm (k.has A.hm) rfl;exact⟨z2C k.shape (k.has A.hm) hg,e.trans k.gs⟩
theorem zVr {h:Host}{b:List Entry}{m g page a q:Int}{io:Bool}(A:LookAt h m g q a):Kp h (zh0 h b m g page a q io).1:=by unfold zh0;cases zhF b m g page a;{cases zeO h m g page a;{exact z4r ⟨A.fit.1,rfl⟩};{exact z4r (A.fill page)}};{exact⟨A.fit.1,rfl⟩}
theorem zdA {h:Host}{m g:Int}(a:zbZ h m g=true):zbW h=true/\hasB m (ln h.Mons)=true/\hasB g (ln (ix h.Mons m mZ).Guests)=true:=by unfold zbZ at a;simp only[zda]at a;exact a
theorem z1q {h:Host}{m g:Int}(e:zbZ h m g=true):zc4 (ix (ix h.Mons m mZ).Guests g gZ)=true:=by obtain⟨b,c,d⟩:=zdA e;have a:=zgI b _ (zbu c mZ);unfold zdY at a;simp only[zda]at a;exact qM.1 a.2.2.2.2.2.2.2.2.2.1 _ (zbu d _)
theorem zNl {n:Int}(h:zjR n=true):n=1\/n=2:=by unfold zjR at h;cases a:ieq n 1;{rw [a]at h;exact .inr (qE h)};{exact .inl (qE a)}
theorem zR0 {h:Host}{m g page a:Int}(s:SmH h)(d:zca h m g page a=true) :
 LookAt h m g (zcE (zcO h m g) page a) a/\LookAt (zbI h m (zcE (zcO h m g) page a)) m g (zcE (zcO h m g) page a) a:=by
 unfold zca at d;simp only[zda]at d;obtain⟨l,p,r⟩:=d;obtain⟨i,b,j⟩:=zdA l;have f:hasB (zcE (zcO h m g) page a) 8=true:=zbc7 (z1q l) r;have c:=ztw (zgI i _ (zbu b mZ)) f;have q:=ze3 s i;refine⟨⟨q,b,j,f,zNl p,c⟩,⟨zYi q b,zer b,?_,f,zNl p,?_⟩⟩
 .have e:zd0 (zbI h m (zcE (zcO h m g) page a)).Mons=zd0 h.Mons:=zAm b rfl;rw[zL2 e];exact j
 .obtain⟨k,rfl,hk⟩:=zdJ (n:=h.Mons.length) b;unfold zbI;rw[zdP hk];exact c
theorem zyH {h:Host}{b:List Entry}{m g page need:Int}{io:Bool}(a:SmH h)(f:zbZ h m g=true):Kp h (lookOf h b m g page need io).1:=by have d:=ze3 a (zdA f).1;unfold lookOf;cases c:zca h m g page need;{exact⟨d.1,rfl⟩};{obtain⟨A,B⟩:=zR0 a c;simp only[cT];cases ieq need 2;{exact zVr A};{have k:=zVr (b:=b) (page:=page) (io:=io) B;have e:zd0 (zbI h m (zcE (zcO h m g) page need)).Mons=zd0 h.Mons:=zAm A.hm rfl;exact⟨k.shape,k.gs.trans e⟩}}
def zQF (x:Host×Int×Bool):List AV:=[.agg (zbk x.1),.one (.i .i64 x.2.1),.one (.b x.2.2)]
theorem znQ {h:Host}{b:List Entry}{m g c a:Int}{e:Bool}(d:zca h m g c a=false):lookOf h b m g c a e=(h,-1,false):=by unfold lookOf;rw[d];rfl
theorem zEl {h:Host}{m g b a:Int}(c:zbZ h m g=false):zca h m g b a=false:=by unfold zca;rw[c];rfl
theorem zbaR {h:Host}{m g:Int}(a:zbW h=false):zbZ h m g=false:=by unfold zbZ;rw[a];rfl
theorem zbaS {h:Host}{m g:Int}(a:hasB m (ln h.Mons)=false):zbZ h m g=false:=by unfold zbZ;rw[a];cases zbW h<;>rfl
theorem zbaT {h:Host}{m g:Int}(a:hasB g (ln (ix h.Mons m mZ).Guests)=false):zbZ h m g=false:=by unfold zbZ;rw[a];cases zbW h<;>cases hasB m (ln h.Mons)<;>rfl
theorem zbaU {h:Host}{m g:Int}(a:zbW h=true)(b:hasB m (ln h.Mons)=true)(c:hasB g (ln (ix h.Mons m mZ).Guests)=true):zbZ h m g=true:=by unfold zbZ;rw[a,b,c];rfl
structure LookF (r:Host) (m g:Int):Prop where
 hm:hasB m (ln r.Mons)=true
 hg:hasB g (ln (ix r.Mons m mZ).Guests)=true
 ht:hasB g (ln (ix r.Mons m mZ).Tables)=true
 hk:SmK (zcA r m g)
 hb:r.Buffer.length<=1048576
 hi:r.IoBuffer.length<=1048576
theorem zF4 {h r:Host}{m g:Int}(k:Kp h r)(b:hasB m (ln h.Mons)=true)(hg:hasB g (ln (ix h.Mons m mZ).Guests)=true):LookF r m g:=by obtain⟨d,e⟩:=zcB k.shape (k.has b);have a:hasB g (ln (ix r.Mons m mZ).Guests)=true:=(by rw[zL2 k.gs];exact hg);have c:hasB g (ln (ix r.Mons m mZ).Tables)=true:=(by rw[ln,e.2.2.2];exact a);exact⟨k.has b,a,c,d.2.2.2.2.2.2 _ (zbu c _),k.shape.1.2.2.1,k.shape.1.2.2.2⟩
@[simp] abbrev zkr (h:Host)(b:List Entry)(m g c a:Int)(d:Bool):Bool:=pc (zcD h)
@[simp] abbrev zeX (h:Host)(b:List Entry)(m g page need:Int)(io:Bool):Host:=(lookOf h b m g page need io).1
@[simp] abbrev zkq (h:Host)(b:List Entry)(m g c a:Int)(d:Bool):Int:=(lookOf h b m g c a d).2.1
@[simp] abbrev zgP (h:Host)(b:List Entry)(m g c a:Int)(d:Bool):Bool:=(lookOf h b m g c a d).2.2
def zsR:List AV->Option (Bool×List AV)
 |[.agg [.s (.sl .int) c,.s .mon d,.s .entry e,.s .entry f],.one (.s .entry g),.one (.i .i64 h),.one (.i .i64 j),.one (.i .i64 k),.one (.i .i64 l),.one (.b m)]=>some ((zkr (⟨c,d,e,f⟩:Host) g h j k l m),[aH (zeX (⟨c,d,e,f⟩:Host) g h j k l m),aI (zkq (⟨c,d,e,f⟩:Host) g h j k l m),aB (zgP (⟨c,d,e,f⟩:Host) g h j k l m)])
 |_=>none
abbrev zSw (b:lM)(c:lN)(d:lE)(e:lE)(a:Int)(g:Int)(f:Int):Mon :=
 (ix (znY (⟨b,c,d,e⟩:Host) a g f).Mons a zi)
abbrev zSx (a:Host)(b c:Int)(d e:Int):Int :=
 (zjX (ix (ix a.Mons b zi).Guests c zD).Live d e)
def zOu (N:Nat)(a:Int)(b:lM)(c:lN)(d:lE)(e:lE):OA:=
 (some [(aH (⟨b,c,d,e⟩:Host)),(aI a),(aB true)])
def zpR (N:Nat)(l:Int)(m:Bool)(n:Int)(c:Int)(d:Int)(k:lM)(e:lN)(a:lE)(b:lE)(f:lM)(g:lN)(h:lE)(i:lE):OA:=
 let q:=(⟨n,l,c,d⟩:Entry); (share (fun (j:(Int×(Int×(lM×(lN×(lE×(lE×(lM×(lN×(lE×(lE×Unit)))))))))))=>(zOu N j.1 j.2.2.1 j.2.2.2.1 j.2.2.2.2.1 j.2.2.2.2.2.1)) (fun p=>(cond m (oN (zle b q) (p (c,(d,(k,(e,(a,((zl5 b q),(f,(g,(h,(i,())))))))))))) (oN (zle a q) (p (c,(d,(k,(e,((zl5 a q),(b,(f,(g,(h,(i,())))))))))))))))
def zst (N:Nat)(d:lM)(e:lN)(f:lE)(g:lE)(b:Int)(i:Int)(h:Int)(a:Int)(c:Int)(y:((Int×(Bool×(Int×(Int×(Int×(Int×(Int×(Int×(Int×(lM×(lN×(lE×(lE×(lM×(lN×(lE×(lE×Unit))))))))))))))))))->OA)(r:Bool)(s:Int)(t:Int)(u:Int)(v:Int)(k:Int)(l:lM)(m:lN)(n:lE)(p:lE):OA:=
 let D:=(⟨d,e,f,g⟩:Host);let w:=(znY D b i h);let x:=(inb b (ln w.Mons));let j:=(zSw d e f g b i h);let C:=(ix j.Tables a zeh);let A:=(ix j.Guests a zD).Live; (oN (zmX D b i h) (oN x (oN x (oN (inb a (ln j.Tables)) (oN x (oN (inb a (ln j.Guests)) (oN x (oN (zKt C A j.Outer c) (oN (inb a (ln j.Tables)) (share (up w.Mons b ({j with Tables:=(up j.Tables a (zNK C A j.Outer c))}:Mon)) (fun q=>let B:=(ix q b zi).Tables;let z:=(ix B a zeh); (oN (inb b (ln q)) (oN (inb a (ln B)) (oN (zt2 z c) (y (c,(r,(s,(t,(u,(v,(k,((zt1 z c).Page,((zt1 z c).Rights,(w.Memory,(q,(w.Buffer,(w.IoBuffer,(l,(m,(n,(p,()))))))))))))))))))))))))))))))))
def zlr (N:Nat)(d:Int)(e:Int)(c:Int)(n:Int)(p:Bool)(v:Int)(q:Int)(r:Int)(s:Int)(t:Int)(f:Int)(g:lM)(b:lN)(h:lE)(i:lE)(j:lM)(k:lN)(l:lE)(m:lE):OA:=
 let z:=(ix b d zi).Tables;let x:=(ix z e zeh);let w:=(zt1 x c); (oN (inb d (ln b)) (oN (inb e (ln z)) (oN (zt2 x c) (share (fun (a:(Int×(Bool×(Int×(Int×(Int×(Int×(Int×(Int×(Int×(lM×(lN×(lE×(lE×(lM×(lN×(lE×(lE×Unit))))))))))))))))))=>(zpR N a.1 a.2.1 a.2.2.1 a.2.2.2.2.2.2.2.1 a.2.2.2.2.2.2.2.2.1 a.2.2.2.2.2.2.2.2.2.1 a.2.2.2.2.2.2.2.2.2.2.1 a.2.2.2.2.2.2.2.2.2.2.2.1 a.2.2.2.2.2.2.2.2.2.2.2.2.1 a.2.2.2.2.2.2.2.2.2.2.2.2.2.1 a.2.2.2.2.2.2.2.2.2.2.2.2.2.2.1 a.2.2.2.2.2.2.2.2.2.2.2.2.2.2.2.1 a.2.2.2.2.2.2.2.2.2.2.2.2.2.2.2.2.1)) (fun u=>let y:=(zst N g b h i d v n e c u p q r s t f j k l m); (cond (nB (zzv x c)) y (cond (ieq w.Page (-1)) y (oN (zgC w.Rights n) (cond (nB (zho w.Rights n)) y (u (c,(p,(q,(r,(s,(t,(f,(w.Page,(w.Rights,(g,(b,(h,(i,(j,(k,(l,(m,())))))))))))))))))))))))))))
def zsu (N:Nat)(g:Int)(a:Host)(h e f:Int)(l:lE)(n:Bool):OA:=
 let i:=(zqC g h);let k:=(zSx a g h e f);let m:=(ix a.Mons g zi);let s:=(ix m.Guests h zD).Live;let d:=(zna l i e);let j:=d.Rights; (oN (inb g (ln a.Mons)) (oN (inb h (ln m.Guests)) (oN (zsX s e f) (cond (nB (zjY s e f)) (some [(aH a),(aI (-1)),(aB false)]) (oN (zi8 g h) (cond (ieq f 2) (oN (inb g (ln a.Mons)) (oN (inb k (ln m.Dirty)) (share (up a.Mons g ({m with Dirty:=(up m.Dirty k true)}:Mon)) (fun p=>(oN (zfw l i e) (share (fun (c:(Int×(Int×(Int×(Int×(Bool×(Int×(Int×(Int×(Int×(Int×(Int×(lM×(lN×(lE×(lE×(lM×(lN×(lE×(lE×Unit))))))))))))))))))))=>(zlr N c.1 c.2.1 c.2.2.1 c.2.2.2.1 c.2.2.2.2.1 c.2.2.2.2.2.1 c.2.2.2.2.2.2.1 c.2.2.2.2.2.2.2.1 c.2.2.2.2.2.2.2.2.1 c.2.2.2.2.2.2.2.2.2.1 c.2.2.2.2.2.2.2.2.2.2.1 c.2.2.2.2.2.2.2.2.2.2.2.1 c.2.2.2.2.2.2.2.2.2.2.2.2.1 c.2.2.2.2.2.2.2.2.2.2.2.2.2.1 c.2.2.2.2.2.2.2.2.2.2.2.2.2.2.1 c.2.2.2.2.2.2.2.2.2.2.2.2.2.2.2.1 c.2.2.2.2.2.2.2.2.2.2.2.2.2.2.2.2.1 c.2.2.2.2.2.2.2.2.2.2.2.2.2.2.2.2.2.1 c.2.2.2.2.2.2.2.2.2.2.2.2.2.2.2.2.2.2.1)) (fun r=>(cond (zd7 l i e) (oN (zgC j f) (cond (zho j f) (some [(aH ({a with Mons:=p}:Host)),(aI d.Host),(aB true)]) (r (g,(h,(e,(f,(n,(k,(i,(d.Tag,(d.Page,(d.Host,(j,(a.Memory,(p,(a.Buffer,(a.IoBuffer,([],([],([],([],())))))))))))))))))))))) (r (g,(h,(e,(f,(n,(k,(i,(d.Tag,(d.Page,(d.Host,(j,(a.Memory,(p,(a.Buffer,(a.IoBuffer,([],([],([],([],())))))))))))))))))))))))))))) (oN (zfw l i e) (share (fun (b:(Int×(Int×(Int×(Int×(Bool×(Int×(Int×(Int×(Int×(Int×(Int×(lM×(lN×(lE×(lE×(lM×(lN×(lE×(lE×Unit))))))))))))))))))))=>(zlr N b.1 b.2.1 b.2.2.1 b.2.2.2.1 b.2.2.2.2.1 b.2.2.2.2.2.1 b.2.2.2.2.2.2.1 b.2.2.2.2.2.2.2.1 b.2.2.2.2.2.2.2.2.1 b.2.2.2.2.2.2.2.2.2.1 b.2.2.2.2.2.2.2.2.2.2.1 b.2.2.2.2.2.2.2.2.2.2.2.1 b.2.2.2.2.2.2.2.2.2.2.2.2.1 b.2.2.2.2.2.2.2.2.2.2.2.2.2.1 b.2.2.2.2.2.2.2.2.2.2.2.2.2.2.1 b.2.2.2.2.2.2.2.2.2.2.2.2.2.2.2.1 b.2.2.2.2.2.2.2.2.2.2.2.2.2.2.2.2.1 b.2.2.2.2.2.2.2.2.2.2.2.2.2.2.2.2.2.1 b.2.2.2.2.2.2.2.2.2.2.2.2.2.2.2.2.2.2.1)) (fun q=>(cond (zd7 l i e) (oN (zgC j f) (cond (zho j f) (some [(aH a),(aI d.Host),(aB true)]) (q (g,(h,(e,(f,(n,(k,(i,(d.Tag,(d.Page,(d.Host,(j,(a.Memory,(a.Mons,(a.Buffer,(a.IoBuffer,([],([],([],([],())))))))))))))))))))))) (q (g,(h,(e,(f,(n,(k,(i,(d.Tag,(d.Page,(d.Host,(j,(a.Memory,(a.Mons,(a.Buffer,(a.IoBuffer,([],([],([],([],()))))))))))))))))))))))))))))))
def zqO (N:Nat)(a:Host)(g:lE)(b c:Int)(h d:Int)(i:Bool):OA:=
 let f:=(zsu N b a c h d g i);let e:=(wsub .i64 (ln (ix a.Mons b zi).Guests) 1); (oN (zff a) (cond (nB (zfe a)) (some [(aH a),(aI (-1)),(aB false)]) (oN (zO b 0 (wsub .i64 (ln a.Mons) 1)) (cond (nB (zS b 0 (wsub .i64 (ln a.Mons) 1))) (some [(aH a),(aI (-1)),(aB false)]) (oN (inb b (ln a.Mons)) (oN (zO c 0 e) (cond (nB (zS c 0 e)) (some [(aH a),(aI (-1)),(aB false)]) (cond (ine d 1) (cond (ine d 2) (some [(aH a),(aI (-1)),(aB false)]) f) f))))))))
def zs7:FuncId->Nat->Option Tmpl:=zq [(122,999999,{n:=0,tm:=[],lo:=[],ro:=[]}),(122,1007023,{n:=210,tm:=[(2,ti),(3,ti),(4,ti),(5,ti),(6,.b),(7,.lp 0 0),(14,.lp 1 0),(17,ti),(19,ti),(20,.lp 2 0)],lo:=[(0,[.sl 0 [],.sl 1 [],.sl 2 [],.sl 3 []]),(1,[.sl 4 [],.sl 5 [],.sl 6 [],.sl 7 []]),(2,[ti,ti,ti,ti])],ro:=[(0,(.sl .int),true),(1,.mon,true),(2,.entry,true),(3,.entry,true),(4,(.sl .int),true),(5,.mon,true),(6,.entry,true),(7,.entry,true)],kr:=1}),(122,1009011,{n:=210,tm:=[(4,ti),(6,.b),(7,.lp 0 0),(14,.lp 1 0),(19,ti),(20,.lp 2 0),(22,.lp 3 0)],lo:=[(0,[.sl 0 [],.sl 1 [],.sl 2 [],.sl 3 []]),(1,[.sl 4 [],.sl 5 [],.sl 6 [],.sl 7 []]),(2,[ti,ti,ti,ti]),(3,[ti,ti])],ro:=[(0,(.sl .int),true),(1,.mon,true),(2,.entry,true),(3,.entry,true),(4,(.sl .int),true),(5,.mon,true),(6,.entry,true),(7,.entry,true)],kr:=1}),(122,1005003,{n:=210,tm:=[(7,.lp 0 0),(14,.lp 1 0),(22,.lp 2 0)],lo:=[(0,[.sl 0 [],.sl 1 [],.sl 2 [],.sl 3 []]),(1,[.sl 4 [],.sl 5 [],.sl 6 [],.sl 7 []]),(2,[ti,ti])],ro:=[(0,(.sl .int),true),(1,.mon,true),(2,.entry,true),(3,.entry,true),(4,(.sl .int),true),(5,.mon,true),(6,.entry,true),(7,.entry,true)],kr:=1})]
theorem zQw (N:Nat)(a:Host)(b c:Int)(d e:Int)(f:Bool):zT6 (cQ zm1 zp8 z1X z2P) zs7 N 12 122 [true,true,true,true,false,false,false,false,false,false] [(4,2)] 1 1 [[0],[1],[2],[4],[7]] .mon [aH a,aS .entry a.Buffer,aI b,aI c,aI d,aI e,aB f]=zqO N a a.Buffer b c d e f:=by kernel_rfl
theorem zQx (N:Nat)(a:Host)(b c:Int)(d e:Int)(f:Bool):zT6 (cQ zm1 zp8 z1X z2P) zs7 N 12 122 [true,true,true,true,false,false,false,false,false,false] [(4,3)] 1 1 [[0],[1],[2],[4],[7]] .mon [aH a,aS .entry a.IoBuffer,aI b,aI c,aI d,aI e,aB f]=zqO N a a.IoBuffer b c d e f:=by kernel_rfl
theorem zFV {N:Nat}{r:Host}{m g a:Int}{b:Bool}{z1 z2 z3 z4}(c:r.Buffer.length<=1048576)(d:r.IoBuffer.length<=1048576) :
 zpR N a b (zdm m g) (ze0 (zcA r m g) a).Page (ze0 (zcA r m g) a).Rights r.Memory r.Mons r.Buffer r.IoBuffer z1 z2 z3 z4=some (zQF (zh1 r m g a b)):=by
 unfold zpR oN
 conv=>zeta
 refine shr ?_;cases b
 .exact zdy rfl (must (zbM c) rfl)
 .exact must rfl (must (zbM d) rfl)
theorem zU3 {N:Nat}{r:Host}{m g a b q:Int}{c:Bool}{R:OA}{r11}{u6 u7 u8 u9 u10 z1 z2 z3 z4}(A:LookAt r m g q b)(d:r11 (a,(c,(u6,(u7,(u8,(u9,(u10,((ze0 (zcA (zdL (mended r m q b) m g a) m g) a).Page,((ze0 (zcA (zdL (mended r m q b) m g a) m g) a).Rights,((zdL (mended r m q b) m g a).Memory,((zdL (mended r m q b) m g a).Mons,((zdL (mended r m q b) m g a).Buffer,((zdL (mended r m q b) m g a).IoBuffer,(z1,(z2,(z3,(z4,())))))))))))))))))=R) :
 zst N r.Memory r.Mons r.Buffer r.IoBuffer m q b g a r11 c u6 u7 u8 u9 u10 z1 z2 z3 z4=R:=by
 have M:=zF4 A.kp A.hm A.hg;have F:=zF4 (A.fill a) A.hm A.hg;unfold zst oN
 conv=>zeta
 exact must (zbM A.mend) (must (zG M.hm) (must (zG M.hm) (must (zG M.ht) (must (zG M.hm) (must (zG M.hg) (must (zG M.hm) (must (zbM M.hk) (must (zG M.ht) (shr (must (zG F.hm) (must (zG F.ht) (must (zbM F.hk) d))))))))))))
theorem zbbu {r:Host}{m g a b:Int}(h:zhe (zcA r m g) a=false):zeO r m g a b=true:=by unfold zeO;rw[h];rfl
theorem zbbv {r:Host}{m g a b:Int}(h:ieq (ze0 (zcA r m g) a).Page (-1)=true):zeO r m g a b=true:=by unfold zeO;rw[h];cases zhe (zcA r m g) a<;>rfl
theorem zbbw {r:Host}{m g a b:Int}(h:enough (ze0 (zcA r m g) a).Rights b=false):zeO r m g a b=true:=by unfold zeO;rw[h];cases zhe (zcA r m g) a<;>cases ieq (ze0 (zcA r m g) a).Page (-1)<;>rfl
theorem zbbx {r:Host}{m g a b:Int}(c:zhe (zcA r m g) a=true)(d:ieq (ze0 (zcA r m g) a).Page (-1)=false)(e:enough (ze0 (zcA r m g) a).Rights b=true):zeO r m g a b=false:=by unfold zeO;rw[c,d,e];rfl
theorem zQl {r:Host}{m g a b q:Int}{c:Bool}(h:zeO r m g a b=true):(cond (zeO r m g a b) (zh1 (zdL (mended r m q b) m g a) m g a c) (zh1 r m g a c))=zh1 (zdL (mended r m q b) m g a) m g a c:=by rw[h];rfl
theorem zbaX {r:Host}{m g a b q:Int}{c:Bool}(h:zeO r m g a b=false):(cond (zeO r m g a b) (zh1 (zdL (mended r m q b) m g a) m g a c) (zh1 r m g a c))=zh1 r m g a c:=by rw[h];rfl
theorem zFW {N:Nat}{r:Host}{m g a b q:Int}{f:Bool}{u7 u8 u9 u10 z1 z2 z3 z4}(A:LookAt r m g q b) :
 zlr N m g a b f q (zdm m g) u7 u8 u9 u10 r.Memory r.Mons r.Buffer r.IoBuffer z1 z2 z3 z4=some (zQF (cond (zeO r m g a b) (zh1 (zdL (mended r m q b) m g a) m g a f) (zh1 r m g a f))):=by
 have M:=zF4 ⟨A.fit.1,rfl⟩ A.hm A.hg;have F:=zF4 (A.fill a) A.hm A.hg;unfold zlr oN nB
 conv=>zeta
 refine must (zG M.hm) (must (zG M.ht) (must (zbM M.hk) (shr (brN (fun c=>?_) (fun c=>br (fun d=>?_) (fun d=>must rfl (brN (fun e=>?_) (fun e=>?_))))))))
 .rw [zQl (zbbu c)];exact zU3 A (zFV (r:=zdL (mended r m q b) m g a) (m:=m) (g:=g) F.hb F.hi)
 .rw [zQl (zbbv d)];exact zU3 A (zFV (r:=zdL (mended r m q b) m g a) (m:=m) (g:=g) F.hb F.hi)
 .rw [zQl (zbbw e)];exact zU3 A (zFV (r:=zdL (mended r m q b) m g a) (m:=m) (g:=g) F.hb F.hi)
 .rw [zbaX (zbbx c d e)];exact zFV (r:=r) (m:=m) (g:=g) M.hb M.hi
theorem zZR {b:List Entry}{m g a c:Int}(h:(zrW b m g a).isSome=false):zhF b m g a c=false:=by unfold zhF;rw[h];rfl
theorem zFZ {b:List Entry}{m g a c:Int}{x:Bool}(d:(zrW b m g a).isSome=true)(h:enough ((zrW b m g a).getD ⟨0,0,0,0⟩).Rights c=x):zhF b m g a c=x:=by unfold zhF;rw[d,h];rfl
theorem zF3 {r:Host}{b:List Entry}{m g a c q:Int}{d:Bool}(h:zhF b m g a c=false):zh0 r b m g a c q d=bif zeO r m g a c then zh1 (zdL (mended r m q c) m g a) m g a d else zh1 r m g a d:=by unfold zh0;rw[h];rfl
theorem zZ2 {r:Host}{b:List Entry}{m g a c q:Int}{d:Bool}(h:zhF b m g a c=true):zh0 r b m g a c q d=(r,((zrW b m g a).getD ⟨0,0,0,0⟩).Host,true):=by unfold zh0;rw[h];rfl
theorem zWj {h:Host}{b:List Entry}{m g c a:Int}{d:Bool}(e:zca h m g c a=true):lookOf h b m g c a d=zh0 (cond (ieq a 2) (zbI h m (zcE (zcO h m g) c a)) h) b m g c a (zcE (zcO h m g) c a) d:=by unfold lookOf;rw[e];rfl
theorem z3W {N:Nat}{r:Host}{b:List Entry}{m g c a:Int}{f:Bool}(p:SmH r)(hg:zbZ r m g=true)(k:zjR a=true) :
 zsu N m r g c a b f=some (zQF (lookOf r b m g c a f)):=by
 obtain⟨q,h,l⟩:=zdA hg;unfold zsu oN nB
 conv=>zeta
 refine must (zG h) (must (zG l) (must rfl (brN (fun j=>?_) (fun j=>must rfl ?_))))
 .have:zca r m g c a=false:=by
   unfold zca;rw[hg,k,show zfn (zcO r m g) c a=false from j];rfl
  rw[znQ this];rfl
 .have hl:zca r m g c a=true:=by
   unfold zca;rw[hg,k,show zfn (zcO r m g) c a=true from j];rfl
  obtain⟨A,B⟩:=zR0 p hl;rw[zWj hl];have n:hasB (zcE (zcO r m g) c a) (ln (ix r.Mons m mZ).Dirty)=true:=zdB (zcB A.fit.1 h).2.2.2.1 A.hq;refine br (fun i=>?_) (fun i=>?_)
  .rw [i]
   show _=some (zQF (zh0 (zbI r m (zcE (zcO r m g) c a)) b m g c a (zcE (zcO r m g) c a) f))
   refine must (zG h) (must (zG n) (shr (must rfl (shr (br (fun d=>must rfl (br (fun e=>?_) (fun e=>?_))) (fun d=>?_))))))
   .rw [zZ2 (zFZ d e)];rfl
   .rw [zF3 (zFZ d e)];exact zFW (r:=zbI r m (zcE (zcO r m g) c a)) B
   .rw [zF3 (zZR d)];exact zFW (r:=zbI r m (zcE (zcO r m g) c a)) B
  .rw [i]
   show _=some (zQF (zh0 r b m g c a (zcE (zcO r m g) c a) f))
   refine must rfl (shr (br (fun d=>must rfl (br (fun e=>?_) (fun e=>?_))) (fun d=>?_)))
   .rw [zZ2 (zFZ d e)];rfl
   .rw [zF3 (zFZ d e)];exact zFW A
   .rw [zF3 (zZR d)];exact zFW A
theorem zTB (a:Host)(f:List Entry)(b c:Int)(e d:Int)(g:Bool)(t:zce big [aH a,aS .entry f,aI b,aI c,aI e,aI d,aB g])(r:zkr a f b c e d g=true):∃N,zqO N a f b c e d g=some [aH (zeX a f b c e d g),aI (zkq a f b c e d g),aB (zgP a f b c e d g)]:=by
 have j:=(zT a).1 (zL.1 r);refine⟨0,?_⟩;show _=some (zQF (lookOf a f b c e d g));unfold zqO oN nB;conv=>zeta
 refine must rfl (brN (fun k=>?_) (fun k=>must rfl ?_));{rw [znQ (zEl (zbaR k))];rfl};rw[show zS b 0 (wsub .i64 (ln a.Mons) 1)=hasB b (ln a.Mons) from zqM j.2.1.1 b];refine brN (fun i=>?_) (fun i=>must (zG i) (must rfl ?_));{rw [znQ (zEl (zbaS i))];rfl};have s:(ix a.Mons b mZ).Guests.length<=1048576:=(j.2.1.2 _ (zbu i _)).2.2.2.1.1;rw[show zS c 0 (wsub .i64 (ln (ix a.Mons b zi).Guests) 1)=hasB c (ln (ix a.Mons b mZ).Guests) from zqM s c];refine brN (fun l=>?_) (fun l=>?_);{rw [znQ (zEl (zbaT l))];rfl};have hg:=zbaU k i l;have p:∀{n:Int},zjR n=false->zca a b c e n=false:=fun {n} h=>(by unfold zca;rw[hg,h];rfl);rw[zyG,zyG];cases m:ieq d 1;{cases q:ieq d 2;{have:zjR d=false:=(by unfold zjR;rw[m,q];rfl);rw[znQ (p this)];rfl};{exact z3W j hg (by unfold zjR;rw[m,q];rfl)}};{exact z3W j hg (by unfold zjR;rw[m];rfl)}
theorem zMK:zdZ Tryz.prog 122 [true,true,true,true,false,false,false,false,false,false] (some (1,1,[[0],[1],[2],[4],[7]])) zsR:=by refine zOJ (kt:=.mon) (zge zie zA zb9 zzI) (zjj (by kernel_rfl)) ?_;intro p s x f i w v h;have t:=ziA v;have g:p=[(4,2)]\/p=[(4,3)]:=(by rw[show zhR 122=[[(4,2)],[(4,3)]] from by kernel_rfl]at f;simpa using f);unfold zsR at h;split at h;{rename_i a b c d r j k l m n;obtain⟨u,rfl⟩:=zd5 h;obtain⟨N,q⟩:=zTB (⟨a,b,c,d⟩:Host) r j k l m n t u;refine⟨⟨_,rfl⟩,rfl,zs7,N,12,?_⟩;rcases g with rfl|rfl;{have e:=i 4 2 (by simp);simp only[zy,kA,AV.cvs] at e;cases e;exact(zQw N (⟨a,b,c,d⟩:Host) j k l m n).trans q};{have e:=i 4 3 (by simp);simp only[zy,kA,AV.cvs] at e;cases e;exact(zQx N (⟨a,b,c,d⟩:Host) j k l m n).trans q}};{cases h}
def z8a:zfA:=[(122,([true,true,true,true,false,false,false,false,false,false],(some (1,1,[[0],[1],[2],[4],[7]])),zsR))]++z2P
theorem zi4:zeg z8a:=zqK zzI (by
 intro x a;simp only[qG,qN,or_false]at a;rcases a with rfl
 .exact zMK)
def gOf (h:Host)(m g:Int):Guest:=ix (ix h.Mons m mZ).Guests g gZ
def zk6 (h:Host)(m g:Int)(x:Guest):Host:={h with Mons:=up h.Mons m {ix h.Mons m mZ with Guests:=up (ix h.Mons m mZ).Guests g x}}
def zm7 (h:Host)(m g:Int)(x:Guest)(w:Bool):Host×Int×Bool:=lookOf h h.Buffer m g (zbj (address x)) (zcc w) false
def zjM (L:Host×Int×Bool)(m g:Int)(x:Guest)(w:Bool):Host :=
 bif L.2.2 then (cond w (zk6 {L.1 with Memory:=zbC L.1.Memory L.2.1 (zdf (address x)) x.A} m g (zcb x)) (zk6 L.1 m g (loaded x (cellAt L.1.Memory L.2.1 (zdf (address x))))))
 else zk6 L.1 m g (stopped x (zrV (zbj (address x)) w))
def owned (h:Host)(m:Int):Host:=bif ilt (ix h.Mons m mZ).Own 1000000000 then {h with Mons:=up h.Mons m {ix h.Mons m mZ with Own:=zM .i64 (ix h.Mons m mZ).Own 1}} else h
def zoA (h:Host)(m n:Int):Host:=bif ilt (ln (ix h.Mons m mZ).Outs) 40 then {h with Mons:=up h.Mons m {ix h.Mons m mZ with Outs:=ap (ix h.Mons m mZ).Outs [n]}} else h
def zgl (h:Host)(m:Int)(x:Guest)(w:Int):Host:=bif (cond (ine w 6) (ieq (zAK (ix h.Mons m mZ).Traps x.Ctl.Traps (zzJ w)) 2) false) then owned h m else h
def zgk (h:Host)(m:Int)(x:Guest)(w:Int):Host:=bif (cond (zkA x.Ctl.Traps w) (ieq w 5) false) then zoA h m (zcv x.Prog x.Pc).X else h
def zxh (h:Host)(m g:Int)(x:Guest)(w:Int):Host:=zk6 (zgk (zgl h m x w) m x w) m g (zjN x x.Ctl.Traps w)
def zXm (h:Host)(m g:Int)(x:Guest)(w:Int):Host×Bool :=
 bif ieq w 0 then (h,false) else (bif ieq w 1 then (zk6 h m g (interrupted x),true) else (bif ieq w 2 then (zk6 h m g (plainly x),true) else
  (cond (cond (ieq w 3) true (ieq w 4)) (zjM (zm7 h m g x (ieq w 4)) m g x (ieq w 4),true) (zxh h m g x w,true))))
def zbF (h:Host)(m g:Int):Host×Bool:=bif zbZ h m g then zXm h m g (gOf h m g) (zbd (gOf h m g)) else (h,false)
def zfH (x:Host×Bool):List AV:=[.agg (zbk x.1),.one (.b x.2)]
theorem zpH {h:Host}{m g:Int}(b:SmH h)(a:hasB m (ln h.Mons)=true)(hg:hasB g (ln (ix h.Mons m mZ).Guests)=true):SmG (gOf h m g):=(b.2.1.2 _ (zbu a _)).2.2.2.1.2 _ (zbu hg _)
theorem z2D {h:Host}{m g:Int}{x:Guest}(c:Shape h)(d:hasB m (ln h.Mons)=true)(e:SmG x):Shape (zk6 h m g x):=by obtain⟨a,b⟩:=zcB c d;exact ziv c ⟨a.1,a.2.1,a.2.2.1,zGf a.2.2.2.1 e,a.2.2.2.2⟩ ⟨b.1,b.2.1,b.2.2.1,by simpa using b.2.2.2⟩
theorem zNj {h:Host}{m:Int}(b:hasB m (ln h.Mons)=true)(x:Mon):ix (up h.Mons m x) m mZ=x:=by obtain⟨k,rfl,a⟩:=zdJ (n:=h.Mons.length) b;exact zdP a _ _
@[simp] abbrev zet (h:Host)(m g:Int):Bool:=pc (zcD h)
@[simp] abbrev zFj (h:Host)(m g:Int):Host:=(zbF h m g).1
@[simp] abbrev zFk (h:Host)(m g:Int):Bool:=(zbF h m g).2
theorem z9r {a:Type}{l:List a}{x:a}(h:ilt (ln l) 40=true):few (ln (ap l [x]))=true:=by have:=qE h;simp only[ln] at this;exact zg8 (by simp[ap];omega)
theorem z0r {h:Host}{m:Int}{x:Guest}{w:Int}(a:(cond (zkA x.Ctl.Traps w) (ieq w 5) false)=false):zgk h m x w=h:=by unfold zgk;rw[a];rfl
theorem zSt {h:Host}{m:Int}{x:Guest}{w:Int}(a:ilt (ln (ix h.Mons m mZ).Outs) 40=false):zgk h m x w=h:=by unfold zgk zoA;rw[a];cases (cond (zkA x.Ctl.Traps w) (ieq w 5) false)<;>rfl
theorem zXu {h:Host}{m:Int}{x:Guest}{w:Int}(a:zkA x.Ctl.Traps w=true)(b:ieq w 5=true)(c:ilt (ln (ix h.Mons m mZ).Outs) 40=true):zgk h m x w={h with Mons:=up h.Mons m {ix h.Mons m mZ with Outs:=ap (ix h.Mons m mZ).Outs [(zcv x.Prog x.Pc).X]}}:=by unfold zgk zoA;rw[a,b,c];rfl
theorem z5I {h:Host}{m:Int}{x:Guest}{w:Int}(a:zkA x.Ctl.Traps w=false):zgk h m x w=h:=z0r (by rw[a];rfl)
theorem zOc {h:Host}{m:Int}{x:Guest}{w:Int}(a:ieq w 5=false):zgk h m x w=h:=z0r (by rw[a];cases zkA x.Ctl.Traps w<;>rfl)
theorem z4k (a:Int):(cond (ieq a a) true false)=true:=by rw[zd1];rfl
theorem zmh {h:Host}{m g:Int}(a:zbZ h m g=false):zbF h m g=(h,false):=by unfold zbF;rw[a];rfl
theorem zjL {h:Host}{m g:Int}(a:zbZ h m g=true):zbF h m g=zXm h m g (gOf h m g) (zbd (gOf h m g)):=by unfold zbF;rw[a];rfl
theorem zmj {a b:Bool}(h:(cond a b false)=true):a=true/\b=true:=by cases a;{cases h};{exact⟨rfl,h⟩}
theorem ziy {a b:Bool}(c:a=true)(d:b=true):(cond a b false)=true:=by rw[c];exact d
theorem z0u {h:Host}{m:Int}{x:Guest}{w:Int}(b:ine w 6=true)(a:ieq (zAK (ix h.Mons m mZ).Traps x.Ctl.Traps (zzJ w)) 2=true)(c:ilt (ix h.Mons m mZ).Own 1000000000=true):zgl h m x w={h with Mons:=up h.Mons m {ix h.Mons m mZ with Own:=zM .i64 (ix h.Mons m mZ).Own 1}}:=by unfold zgl owned;rw[b,a,c];rfl
theorem z0s {h:Host}{m:Int}{x:Guest}{w:Int}(a:ieq (zAK (ix h.Mons m mZ).Traps x.Ctl.Traps (zzJ w)) 2=false):zgl h m x w=h:=by unfold zgl;rw[a];cases ine w 6<;>rfl
theorem z0t {h:Host}{m:Int}{x:Guest}{w:Int}(a:ilt (ix h.Mons m mZ).Own 1000000000=false):zgl h m x w=h:=by unfold zgl owned;rw[a];cases (cond (ine w 6) (ieq (zAK (ix h.Mons m mZ).Traps x.Ctl.Traps (zzJ w)) 2) false)<;>rfl
theorem zbbz {h:Host}{m:Int}{x:Guest}:zgl h m x 6=h:=rfl
theorem znL {h a:Host}{m g:Int}{x:Guest}{w:Int}(e:zgl h m x w=a):zxh h m g x w=zk6 (zgk a m x w) m g (zjN x x.Ctl.Traps w):=by unfold zxh;rw[e]
theorem z8b (x:Guest):ieq (zbd x) 0=true\/ieq (zbd x) 1=true\/ieq (zbd x) 2=true\/ieq (zbd x) 3=true\/ieq (zbd x) 4=true\/ieq (zbd x) 5=true\/ieq (zbd x) 6=true\/ieq (zbd x) 7=true:=by cases a:ieq (zbd x) 0;{cases b:ieq (zbd x) 1;{cases c:ieq (zbd x) 2;{cases d:ieq (zbd x) 3;{cases e:ieq (zbd x) 4;{cases f:ieq (zbd x) 5;{cases g:ieq (zbd x) 6;{exact .inr (.inr (.inr (.inr (.inr (.inr (.inr (zbc8 x a b c d e f g)))))))};{exact .inr (.inr (.inr (.inr (.inr (.inr (.inl rfl))))))}};{exact .inr (.inr (.inr (.inr (.inr (.inl rfl)))))}};{exact .inr (.inr (.inr (.inr (.inl rfl))))}};{exact .inr (.inr (.inr (.inl rfl)))}};{exact .inr (.inr (.inl rfl))}};{exact .inr (.inl rfl)}};{exact .inl rfl}
abbrev zCp (x:Guest):Bool:=bif zeB x then ieq (zbd x) 0 else false
def zoN:List AV->Option (Bool×List AV)
 |[.agg [.s .ins c,.i .i64 d,.i .i64 e,.s .slot f,.s .slot g,.i .i64 h,.i .i64 j,.b k,.i .i64 l,.i .i64 m,.i .i64 n,.b o,.i .i64 p,.b q,.s .int r]]=>some ((zCp (⟨c,d,e,f,g,⟨h,j,k⟩,l,⟨m,n,o,p⟩,q,r⟩:Guest)),[.one (.i .i64 0)])
 |_=>none
theorem zGA:vN 340 zoN:=by refine⟨zcl.1,fun w b g j a h=>?_⟩;unfold zoN at h;split at h;{obtain⟨f,rfl⟩:=zd5 h;obtain⟨d,e⟩:=zmj f;exact zcl.2 w _ g _ a (congr (congrArg (fun c v=>some (c,[AV.one (CV.i .i64 v)])) d) (qE e))};{cases h}
def zbar:zba:=[(340,zoN)]++zm1
theorem z0X:zK zbar:=zh zGA zie
@[simp] abbrev zwM (h:Host)(m g:Int):Bool:=bif zet h m g then ieq (zbd (gOf h m g)) 0 else false
@[simp] abbrev zwK (h:Host)(m g:Int):Host:=(zbF h m g).1
@[simp] abbrev zwL (h:Host)(m g:Int):Bool:=(zbF h m g).2
def zGZ:Run:=rF3 dH dI dI fun b c d=>(zwM b c d,[aH (zwK b c d),aB (zwL b c d)])
def zvA (N:Nat)(d:Host)(b c:Int):OA:=
 let a:=(zo d);let e:=(ix a.Mons b zi).Guests; (oN (zbU d) (oN (zgQ a b c) (cond (nB (zi1 a b c)) (some [(aH a),(aB false)]) (oN (inb b (ln a.Mons)) (oN (inb c (ln e)) (oN (zCp (ix e c zD)) (some [(aH a),(aB false)])))))))
abbrev zCq (x:Guest):Bool:=bif zeB x then ieq (zbd x) 1 else false
def zoO:List AV->Option (Bool×List AV)
 |[.agg [.s .ins c,.i .i64 d,.i .i64 e,.s .slot f,.s .slot g,.i .i64 h,.i .i64 j,.b k,.i .i64 l,.i .i64 m,.i .i64 n,.b o,.i .i64 p,.b q,.s .int r]]=>some ((zCq (⟨c,d,e,f,g,⟨h,j,k⟩,l,⟨m,n,o,p⟩,q,r⟩:Guest)),[.one (.i .i64 1)])
 |_=>none
theorem zGB:vN 340 zoO:=by refine⟨zcl.1,fun w b g j a h=>?_⟩;unfold zoO at h;split at h;{obtain⟨f,rfl⟩:=zd5 h;obtain⟨d,e⟩:=zmj f;exact zcl.2 w _ g _ a (congr (congrArg (fun c v=>some (c,[AV.one (CV.i .i64 v)])) d) (qE e))};{cases h}
def zbas:zba:=[(340,zoO)]++zm1
theorem z0Y:zK zbas:=zh zGB zie
@[simp] abbrev zwP (h:Host)(m g:Int):Bool:=bif zet h m g then ieq (zbd (gOf h m g)) 1 else false
@[simp] abbrev zwN (h:Host)(m g:Int):Host:=(zbF h m g).1
@[simp] abbrev zwO (h:Host)(m g:Int):Bool:=(zbF h m g).2
def zG0:Run:=rF3 dH dI dI fun b c d=>(zwP b c d,[aH (zwN b c d),aB (zwO b c d)])
def zvB (N:Nat)(f:Host)(b c:Int):OA:=
 let a:=(zo f);let d:=(ix a.Mons b zi);let e:=(ix d.Guests c zD); (oN (zbU f) (oN (zgQ a b c) (cond (nB (zi1 a b c)) (some [(aH a),(aB false)]) (oN (inb b (ln a.Mons)) (oN (inb c (ln d.Guests)) (oN (zCq e) (oN (inb b (ln a.Mons)) (oN (zo8 e) (oN (inb c (ln d.Guests)) (share (up a.Mons b ({d with Guests:=(up d.Guests c (zjW e))}:Mon)) (fun g=>(some [(aH ({a with Mons:=g}:Host)),(aB true)]))))))))))))
abbrev zCr (x:Guest):Bool:=bif zeB x then ieq (zbd x) 2 else false
def zoP:List AV->Option (Bool×List AV)
 |[.agg [.s .ins c,.i .i64 d,.i .i64 e,.s .slot f,.s .slot g,.i .i64 h,.i .i64 j,.b k,.i .i64 l,.i .i64 m,.i .i64 n,.b o,.i .i64 p,.b q,.s .int r]]=>some ((zCr (⟨c,d,e,f,g,⟨h,j,k⟩,l,⟨m,n,o,p⟩,q,r⟩:Guest)),[.one (.i .i64 2)])
 |_=>none
theorem zGC:vN 340 zoP:=by refine⟨zcl.1,fun w b g j a h=>?_⟩;unfold zoP at h;split at h;{obtain⟨f,rfl⟩:=zd5 h;obtain⟨d,e⟩:=zmj f;exact zcl.2 w _ g _ a (congr (congrArg (fun c v=>some (c,[AV.one (CV.i .i64 v)])) d) (qE e))};{cases h}
def zbat:zba:=[(340,zoP)]++zm1
theorem z0Z:zK zbat:=zh zGC zie
@[simp] abbrev zwS (h:Host)(m g:Int):Bool:=bif zet h m g then ieq (zbd (gOf h m g)) 2 else false
@[simp] abbrev zwQ (h:Host)(m g:Int):Host:=(zbF h m g).1
@[simp] abbrev zwR (h:Host)(m g:Int):Bool:=(zbF h m g).2
def zG1:Run:=rF3 dH dI dI fun b c d=>(zwS b c d,[aH (zwQ b c d),aB (zwR b c d)])
def zvC (N:Nat)(f:Host)(b c:Int):OA:=
 let a:=(zo f);let d:=(ix a.Mons b zi);let e:=(ix d.Guests c zD); (oN (zbU f) (oN (zgQ a b c) (cond (nB (zi1 a b c)) (some [(aH a),(aB false)]) (oN (inb b (ln a.Mons)) (oN (inb c (ln d.Guests)) (oN (zCr e) (oN (inb b (ln a.Mons)) (oN (zxW e) (oN (inb c (ln d.Guests)) (share (up a.Mons b ({d with Guests:=(up d.Guests c (zsi e))}:Mon)) (fun g=>(some [(aH ({a with Mons:=g}:Host)),(aB true)]))))))))))))
abbrev zCs (x:Guest):Bool:=bif zeB x then ieq (zbd x) 3 else false
def zoQ:List AV->Option (Bool×List AV)
 |[.agg [.s .ins c,.i .i64 d,.i .i64 e,.s .slot f,.s .slot g,.i .i64 h,.i .i64 j,.b k,.i .i64 l,.i .i64 m,.i .i64 n,.b o,.i .i64 p,.b q,.s .int r]]=>some ((zCs (⟨c,d,e,f,g,⟨h,j,k⟩,l,⟨m,n,o,p⟩,q,r⟩:Guest)),[.one (.i .i64 3)])
 |_=>none
theorem zGD:vN 340 zoQ:=by refine⟨zcl.1,fun w b g j a h=>?_⟩;unfold zoQ at h;split at h;{obtain⟨f,rfl⟩:=zd5 h;obtain⟨d,e⟩:=zmj f;exact zcl.2 w _ g _ a (congr (congrArg (fun c v=>some (c,[AV.one (CV.i .i64 v)])) d) (qE e))};{cases h}
def zbau:zba:=[(340,zoQ)]++zm1
theorem z00:zK zbau:=zh zGD zie
@[simp] abbrev zwV (h:Host)(m g:Int):Bool:=bif zet h m g then ieq (zbd (gOf h m g)) 3 else false
@[simp] abbrev zwT (h:Host)(m g:Int):Host:=(zbF h m g).1
@[simp] abbrev zwU (h:Host)(m g:Int):Bool:=(zbF h m g).2
def zG2:Run:=rF3 dH dI dI fun b c d=>(zwV b c d,[aH (zwT b c d),aB (zwU b c d)])
def zvD (N:Nat)(m:Host)(a b:Int):OA:=
 let c:=(zo m);let n:=(ix c.Mons a zi).Guests;let h:=(ix n b zD);let f:=(zi7 h);let g:=(zcQ f);let l:=(zkq c c.Buffer a b g (zfg false) false);let d:=(zeX c c.Buffer a b g (zfg false) false);let e:=(ix d.Mons a zi);let j:=(ix e.Guests b zD);let i:=({h with Prog:=j.Prog,Written:=j.Written,Live:=j.Live,Seen:=j.Seen}:Guest); (oN (zbU m) (oN (zgQ c a b) (cond (nB (zi1 c a b)) (some [(aH c),(aB false)]) (oN (inb a (ln c.Mons)) (oN (inb b (ln n)) (oN (zCs h) (oN (zq7 h) (oN (zf9 f) (oN (ztD false) (oN (zkr c c.Buffer a b g (zfg false) false) (cond (nB (zgP c c.Buffer a b g (zfg false) false)) (oN (inb a (ln d.Mons)) (oN (zf9 f) (oN (zjU g false) (oN (zd8 i (zeT g false)) (oN (inb b (ln e.Guests)) (share (up d.Mons a ({e with Guests:=(up e.Guests b (zdH i (zeT g false)))}:Mon)) (fun k=>(some [(aH ({d with Mons:=k}:Host)),(aB true)])))))))) (oN (inb a (ln d.Mons)) (oN (ziP f) (oN (zo1 d.Memory l (zee f)) (oN (zAT i (zk9 d.Memory l (zee f))) (oN (inb b (ln e.Guests)) (share (up d.Mons a ({e with Guests:=(up e.Guests b (zvi i (zk9 d.Memory l (zee f))))}:Mon)) (fun k=>(some [(aH ({d with Mons:=k}:Host)),(aB true)])))))))))))))))))))
abbrev zCt (x:Guest):Bool:=bif zeB x then ieq (zbd x) 4 else false
def zoR:List AV->Option (Bool×List AV)
 |[.agg [.s .ins c,.i .i64 d,.i .i64 e,.s .slot f,.s .slot g,.i .i64 h,.i .i64 j,.b k,.i .i64 l,.i .i64 m,.i .i64 n,.b o,.i .i64 p,.b q,.s .int r]]=>some ((zCt (⟨c,d,e,f,g,⟨h,j,k⟩,l,⟨m,n,o,p⟩,q,r⟩:Guest)),[.one (.i .i64 4)])
 |_=>none
theorem zGE:vN 340 zoR:=by refine⟨zcl.1,fun w b g j a h=>?_⟩;unfold zoR at h;split at h;{obtain⟨f,rfl⟩:=zd5 h;obtain⟨d,e⟩:=zmj f;exact zcl.2 w _ g _ a (congr (congrArg (fun c v=>some (c,[AV.one (CV.i .i64 v)])) d) (qE e))};{cases h}
def zbav:zba:=[(340,zoR)]++zm1
theorem z01:zK zbav:=zh zGE zie
@[simp] abbrev zwY (h:Host)(m g:Int):Bool:=bif zet h m g then ieq (zbd (gOf h m g)) 4 else false
@[simp] abbrev zwW (h:Host)(m g:Int):Host:=(zbF h m g).1
@[simp] abbrev zwX (h:Host)(m g:Int):Bool:=(zbF h m g).2
def zG3:Run:=rF3 dH dI dI fun b c d=>(zwY b c d,[aH (zwW b c d),aB (zwX b c d)])
def zvE (N:Nat)(l:Host)(a b:Int):OA:=
 let c:=(zo l);let n:=(ix c.Mons a zi).Guests;let g:=(ix n b zD);let h:=(zi7 g);let f:=(zcQ h);let m:=(zkq c c.Buffer a b f (zfg true) false);let d:=(zeX c c.Buffer a b f (zfg true) false);let e:=(ix d.Mons a zi);let j:=(ix e.Guests b zD);let i:=({g with Prog:=j.Prog,Written:=j.Written,Live:=j.Live,Seen:=j.Seen}:Guest); (oN (zbU l) (oN (zgQ c a b) (cond (nB (zi1 c a b)) (some [(aH c),(aB false)]) (oN (inb a (ln c.Mons)) (oN (inb b (ln n)) (oN (zCt g) (oN (zq7 g) (oN (zf9 h) (oN (ztD true) (oN (zkr c c.Buffer a b f (zfg true) false) (cond (nB (zgP c c.Buffer a b f (zfg true) false)) (oN (inb a (ln d.Mons)) (oN (zf9 h) (oN (zjU f true) (oN (zd8 i (zeT f true)) (oN (inb b (ln e.Guests)) (share (up d.Mons a ({e with Guests:=(up e.Guests b (zdH i (zeT f true)))}:Mon)) (fun k=>(some [(aH ({d with Mons:=k}:Host)),(aB true)])))))))) (oN (ziP h) (oN (ziV d.Memory m (zee h) g.A) (oN (inb a (ln d.Mons)) (oN (zAX i) (oN (inb b (ln e.Guests)) (share (up d.Mons a ({e with Guests:=(up e.Guests b (zvl i))}:Mon)) (fun k=>(some [(aH ({d with Memory:=(zjD d.Memory m (zee h) g.A),Mons:=k}:Host)),(aB true)])))))))))))))))))))
abbrev zCu (x:Guest):Bool:=bif zeB x then ieq (zbd x) 5 else false
def zoS:List AV->Option (Bool×List AV)
 |[.agg [.s .ins c,.i .i64 d,.i .i64 e,.s .slot f,.s .slot g,.i .i64 h,.i .i64 j,.b k,.i .i64 l,.i .i64 m,.i .i64 n,.b o,.i .i64 p,.b q,.s .int r]]=>some ((zCu (⟨c,d,e,f,g,⟨h,j,k⟩,l,⟨m,n,o,p⟩,q,r⟩:Guest)),[.one (.i .i64 5)])
 |_=>none
theorem zGF:vN 340 zoS:=by refine⟨zcl.1,fun w b g j a h=>?_⟩;unfold zoS at h;split at h;{obtain⟨f,rfl⟩:=zd5 h;obtain⟨d,e⟩:=zmj f;exact zcl.2 w _ g _ a (congr (congrArg (fun c v=>some (c,[AV.one (CV.i .i64 v)])) d) (qE e))};{cases h}
def zbaw:zba:=[(340,zoS)]++zm1
theorem z02:zK zbaw:=zh zGF zie
@[simp] abbrev zw1 (h:Host)(m g:Int):Bool:=bif zet h m g then ieq (zbd (gOf h m g)) 5 else false
@[simp] abbrev zwZ (h:Host)(m g:Int):Host:=(zbF h m g).1
@[simp] abbrev zw0 (h:Host)(m g:Int):Bool:=(zbF h m g).2
def zG4:Run:=rF3 dH dI dI fun b c d=>(zw1 b c d,[aH (zwZ b c d),aB (zw0 b c d)])
def zvF (N:Nat)(x:Host)(a e:Int):OA:=
 let d:=(zo x);let f:=(inb a (ln d.Mons));let g:=(ix d.Mons a zi);let j:=(inb e (ln g.Guests));let c:=(ix g.Guests e zD);let w:=(ap g.Outs [(zfM c.Prog c.Pc).X]);let s:=(up d.Mons a ({g with Outs:=w}:Mon));let h:=c.Ctl.Traps;let v:=(up d.Mons a ({g with Guests:=(up g.Guests e (zck c h 5))}:Mon)); (oN (zbU x) (oN (zgQ d a e) (cond (nB (zi1 d a e)) (some [(aH d),(aB false)]) (oN f (oN j (oN (zCu c) (oN f (oN (zrq g.Traps h 1) (cond (ieq (znT g.Traps h 1) 2) (oN f (cond (ilt g.Own 1000000000) (oN f (oN f (share (up d.Mons a ({g with Own:=(zM .i64 g.Own 1)}:Mon)) (fun b=>let k:=(inb a (ln b));let l:=(ix b a zi);let q:=(ix l.Guests e zD);let t:=(ap l.Outs [(zfM q.Prog c.Pc).X]);let u:=({c with Prog:=q.Prog,Written:=q.Written,Live:=q.Live,Seen:=q.Seen}:Guest);let r:=(up b a ({l with Guests:=(up l.Guests e (zck u h 5))}:Mon)); (oN (zdS u h 5) (cond (zdp u h 5) (oN k (cond (ilt (ln l.Outs) 40) (oN k (oN (zfx q.Prog c.Pc) (oN (few (ln t)) (oN k (oN (cond (ieq a a) true false) (share (up b a ({l with Outs:=t}:Mon)) (fun i=>let m:=(ix i a zi); (oN (inb a (ln i)) (oN (inb e (ln m.Guests)) (share (up i a ({m with Guests:=(up m.Guests e (zck u h 5))}:Mon)) (fun y=>(some [(aH ({d with Mons:=y}:Host)),(aB true)])))))))))))) (oN k (oN (inb e (ln l.Guests)) (share r (fun i=>(some [(aH ({d with Mons:=i}:Host)),(aB true)]))))))) (oN k (oN (inb e (ln l.Guests)) (share r (fun i=>(some [(aH ({d with Mons:=i}:Host)),(aB true)]))))))))))) (oN (zdS c h 5) (cond (zdp c h 5) (oN f (cond (ilt (ln g.Outs) 40) (oN f (oN (zfx c.Prog c.Pc) (oN (few (ln w)) (oN f (oN (cond (ieq a a) true false) (share s (fun b=>let n:=(ix b a zi); (oN (inb a (ln b)) (oN (inb e (ln n.Guests)) (share (up b a ({n with Guests:=(up n.Guests e (zck c h 5))}:Mon)) (fun i=>(some [(aH ({d with Mons:=i}:Host)),(aB true)])))))))))))) (oN f (oN j (share v (fun b=>(some [(aH ({d with Mons:=b}:Host)),(aB true)]))))))) (oN f (oN j (share v (fun b=>(some [(aH ({d with Mons:=b}:Host)),(aB true)]))))))))) (oN (zdS c h 5) (cond (zdp c h 5) (oN f (cond (ilt (ln g.Outs) 40) (oN f (oN (zfx c.Prog c.Pc) (oN (few (ln w)) (oN f (oN (cond (ieq a a) true false) (share s (fun b=>let p:=(ix b a zi); (oN (inb a (ln b)) (oN (inb e (ln p.Guests)) (share (up b a ({p with Guests:=(up p.Guests e (zck c h 5))}:Mon)) (fun i=>(some [(aH ({d with Mons:=i}:Host)),(aB true)])))))))))))) (oN f (oN j (share v (fun b=>(some [(aH ({d with Mons:=b}:Host)),(aB true)]))))))) (oN f (oN j (share v (fun b=>(some [(aH ({d with Mons:=b}:Host)),(aB true)]))))))))))))))))
abbrev zCv (x:Guest):Bool:=bif zeB x then ieq (zbd x) 6 else false
def zoT:List AV->Option (Bool×List AV)
 |[.agg [.s .ins c,.i .i64 d,.i .i64 e,.s .slot f,.s .slot g,.i .i64 h,.i .i64 j,.b k,.i .i64 l,.i .i64 m,.i .i64 n,.b o,.i .i64 p,.b q,.s .int r]]=>some ((zCv (⟨c,d,e,f,g,⟨h,j,k⟩,l,⟨m,n,o,p⟩,q,r⟩:Guest)),[.one (.i .i64 6)])
 |_=>none
theorem zGG:vN 340 zoT:=by refine⟨zcl.1,fun w b g j a h=>?_⟩;unfold zoT at h;split at h;{obtain⟨f,rfl⟩:=zd5 h;obtain⟨d,e⟩:=zmj f;exact zcl.2 w _ g _ a (congr (congrArg (fun c v=>some (c,[AV.one (CV.i .i64 v)])) d) (qE e))};{cases h}
def zbax:zba:=[(340,zoT)]++zm1
theorem z03:zK zbax:=zh zGG zie
@[simp] abbrev zw4 (h:Host)(m g:Int):Bool:=bif zet h m g then ieq (zbd (gOf h m g)) 6 else false
@[simp] abbrev zw2 (h:Host)(m g:Int):Host:=(zbF h m g).1
@[simp] abbrev zw3 (h:Host)(m g:Int):Bool:=(zbF h m g).2
def zG5:Run:=rF3 dH dI dI fun b c d=>(zw4 b c d,[aH (zw2 b c d),aB (zw3 b c d)])
def zvG (N:Nat)(i:Host)(c d:Int):OA:=
 let a:=(zo i);let g:=(inb c (ln a.Mons));let e:=(ix a.Mons c zi);let h:=(inb d (ln e.Guests));let b:=(ix e.Guests d zD);let j:=(up a.Mons c ({e with Guests:=(up e.Guests d (zck b b.Ctl.Traps 6))}:Mon)); (oN (zbU i) (oN (zgQ a c d) (cond (nB (zi1 a c d)) (some [(aH a),(aB false)]) (oN g (oN h (oN (zCv b) (oN (zdS b b.Ctl.Traps 6) (cond (zdp b b.Ctl.Traps 6) (oN g (oN h (share j (fun f=>(some [(aH ({a with Mons:=f}:Host)),(aB true)]))))) (oN g (oN h (share j (fun f=>(some [(aH ({a with Mons:=f}:Host)),(aB true)])))))))))))))
abbrev zCw (x:Guest):Bool:=bif zeB x then ieq (zbd x) 7 else false
def zoU:List AV->Option (Bool×List AV)
 |[.agg [.s .ins c,.i .i64 d,.i .i64 e,.s .slot f,.s .slot g,.i .i64 h,.i .i64 j,.b k,.i .i64 l,.i .i64 m,.i .i64 n,.b o,.i .i64 p,.b q,.s .int r]]=>some ((zCw (⟨c,d,e,f,g,⟨h,j,k⟩,l,⟨m,n,o,p⟩,q,r⟩:Guest)),[.one (.i .i64 7)])
 |_=>none
theorem zGH:vN 340 zoU:=by refine⟨zcl.1,fun w b g j a h=>?_⟩;unfold zoU at h;split at h;{obtain⟨f,rfl⟩:=zd5 h;obtain⟨d,e⟩:=zmj f;exact zcl.2 w _ g _ a (congr (congrArg (fun c v=>some (c,[AV.one (CV.i .i64 v)])) d) (qE e))};{cases h}
def zbay:zba:=[(340,zoU)]++zm1
theorem z04:zK zbay:=zh zGH zie
@[simp] abbrev zw7 (h:Host)(m g:Int):Bool:=bif zet h m g then ieq (zbd (gOf h m g)) 7 else false
@[simp] abbrev zw5 (h:Host)(m g:Int):Host:=(zbF h m g).1
@[simp] abbrev zw6 (h:Host)(m g:Int):Bool:=(zbF h m g).2
def zG6:Run:=rF3 dH dI dI fun b c d=>(zw7 b c d,[aH (zw5 b c d),aB (zw6 b c d)])
def zvH (N:Nat)(q:Host)(c e:Int):OA:=
 let a:=(zo q);let g:=(inb c (ln a.Mons));let f:=(ix a.Mons c zi);let k:=(inb e (ln f.Guests));let h:=(ix f.Guests e zD);let d:=h.Ctl.Traps;let l:=(up a.Mons c ({f with Guests:=(up f.Guests e (zck h d 7))}:Mon)); (oN (zbU q) (oN (zgQ a c e) (cond (nB (zi1 a c e)) (some [(aH a),(aB false)]) (oN g (oN k (oN (zCw h) (oN g (oN (zrq f.Traps d 2) (cond (ieq (znT f.Traps d 2) 2) (oN g (cond (ilt f.Own 1000000000) (oN g (oN g (share (up a.Mons c ({f with Own:=(zM .i64 f.Own 1)}:Mon)) (fun b=>let j:=(ix b c zi);let m:=(ix j.Guests e zD);let p:=({h with Prog:=m.Prog,Written:=m.Written,Live:=m.Live,Seen:=m.Seen}:Guest);let i:=(up b c ({j with Guests:=(up j.Guests e (zck p d 7))}:Mon)); (oN (zdS p d 7) (cond (zdp p d 7) (oN (inb c (ln b)) (oN (inb e (ln j.Guests)) (share i (fun n=>(some [(aH ({a with Mons:=n}:Host)),(aB true)]))))) (oN (inb c (ln b)) (oN (inb e (ln j.Guests)) (share i (fun n=>(some [(aH ({a with Mons:=n}:Host)),(aB true)]))))))))))) (oN (zdS h d 7) (cond (zdp h d 7) (oN g (oN k (share l (fun b=>(some [(aH ({a with Mons:=b}:Host)),(aB true)]))))) (oN g (oN k (share l (fun b=>(some [(aH ({a with Mons:=b}:Host)),(aB true)]))))))))) (oN (zdS h d 7) (cond (zdp h d 7) (oN g (oN k (share l (fun b=>(some [(aH ({a with Mons:=b}:Host)),(aB true)]))))) (oN g (oN k (share l (fun b=>(some [(aH ({a with Mons:=b}:Host)),(aB true)]))))))))))))))))
theorem zGO (a:Host)(b c:Int)(e:zwM a b c=true):∃N,zvA N a b c=some [aH (zwK a b c),aB (zwL a b c)]:=by
 obtain⟨e,i⟩:=zmj e;have f:=(zT a).1 (zL.1 e);refine⟨0,?_⟩;show _=some (zfH (zbF a b c));unfold zvA oN nB;conv=>zeta
 refine must (zbM ((zT _).2 f)) (must (zbM ((zT _).2 f)) (brN (fun d=>?_) (fun d=>?_)));{rw [zmh d];rfl};obtain⟨k,g,h⟩:=zdA d;have l:=zpH f g h;have j:zbd (gOf a b c)=0:=qE i;rw[zjL d,j];refine must (zG g) (must (zG h) (must (ziy rfl i) ?_));rfl
theorem zpL:vN 326 zGZ:=kF3 z0X zA zb9 zi4 (zq []) zGO
theorem zGP (a:Host)(b c:Int)(g:zwP a b c=true):∃N,zvB N a b c=some [aH (zwN a b c),aB (zwO a b c)]:=by
 obtain⟨g,i⟩:=zmj g;have h:=(zT a).1 (zL.1 g);refine⟨0,?_⟩;show _=some (zfH (zbF a b c));unfold zvB oN nB;conv=>zeta
 refine must (zbM ((zT _).2 h)) (must (zbM ((zT _).2 h)) (brN (fun d=>?_) (fun d=>?_)));{rw [zmh d];rfl};obtain⟨l,e,f⟩:=zdA d;have k:=zpH h e f;have j:zbd (gOf a b c)=1:=qE i;rw[zjL d,j];refine must (zG e) (must (zG f) (must (ziy rfl i) ?_));show _=some (zfH (zk6 a b c (interrupted (gOf a b c)),true));exact must (zG e) (must (zbM k) (must (zG f) rfl))
theorem zCE:vN 326 zG0:=kF3 z0Y zA zb9 zi4 (zq []) zGP
theorem zGQ (a:Host)(b c:Int)(g:zwS a b c=true):∃N,zvC N a b c=some [aH (zwQ a b c),aB (zwR a b c)]:=by
 obtain⟨g,i⟩:=zmj g;have h:=(zT a).1 (zL.1 g);refine⟨0,?_⟩;show _=some (zfH (zbF a b c));unfold zvC oN nB;conv=>zeta
 refine must (zbM ((zT _).2 h)) (must (zbM ((zT _).2 h)) (brN (fun d=>?_) (fun d=>?_)));{rw [zmh d];rfl};obtain⟨l,e,f⟩:=zdA d;have k:=zpH h e f;have j:zbd (gOf a b c)=2:=qE i;rw[zjL d,j];refine must (zG e) (must (zG f) (must (ziy rfl i) ?_));show _=some (zfH (zk6 a b c (plainly (gOf a b c)),true));exact must (zG e) (must (zbM k) (must (zG f) rfl))
theorem zCF:vN 326 zG1:=kF3 z0Z zA zb9 zi4 (zq []) zGQ
theorem zGR (a:Host)(c d:Int)(j:zwV a c d=true):∃N,zvD N a c d=some [aH (zwT a c d),aB (zwU a c d)]:=by
 obtain⟨j,m⟩:=zmj j;have f:=(zT a).1 (zL.1 j);refine⟨0,?_⟩;show _=some (zfH (zbF a c d));unfold zvD oN nB;conv=>zeta
 refine must (zbM ((zT _).2 f)) (must (zbM ((zT _).2 f)) (brN (fun e=>?_) (fun e=>?_)));{rw [zmh e];rfl};obtain⟨r,g,i⟩:=zdA e;have n:=zpH f g i;have q:zbd (gOf a c d)=3:=qE m;rw[zjL e,q];refine must (zG g) (must (zG i) (must (ziy rfl m) ?_));show _=some (zfH (zjM (zm7 a c d (gOf a c d) false) c d (gOf a c d) false,true));have k:=zyH (b:=a.Buffer) (page:=zbj (address (gOf a c d))) (need:=zcc false) (io:=false) f e;have F:=zF4 k g i;have p:(ix (ix (zeX (zo a) (zo a).Buffer c d (zcQ (zi7 (ix (ix (zo a).Mons c zi).Guests d zD))) (zfg false) false).Mons c zi).Guests d zD)=(ix (ix (zo a).Mons c zi).Guests d zD):=congrArg (fun l=>ix l d gZ) (zL2 k.gs c);rw[p];unfold zjM;refine must rfl (must rfl (must rfl (must (zbM ((zT _).2 f)) (brN (fun h=>?_) (fun h=>?_)))));{rw [show (zm7 a c d (gOf a c d) false).2.2=false from h];exact must (zG F.hm) (must rfl (must rfl (must (zbM n) (must (zG F.hg) rfl))))};{rw [show (zm7 a c d (gOf a c d) false).2.2=true from h];exact must (zG F.hm) (must rfl (must rfl (must (zbM n) (must (zG F.hg) rfl))))}
theorem zCG:vN 326 zG2:=kF3 z00 zA zb9 zi4 (zq []) zGR
theorem zGS (a:Host)(c d:Int)(j:zwY a c d=true):∃N,zvE N a c d=some [aH (zwW a c d),aB (zwX a c d)]:=by
 obtain⟨j,m⟩:=zmj j;have f:=(zT a).1 (zL.1 j);refine⟨0,?_⟩;show _=some (zfH (zbF a c d));unfold zvE oN nB;conv=>zeta
 refine must (zbM ((zT _).2 f)) (must (zbM ((zT _).2 f)) (brN (fun e=>?_) (fun e=>?_)));{rw [zmh e];rfl};obtain⟨r,g,i⟩:=zdA e;have n:=zpH f g i;have q:zbd (gOf a c d)=4:=qE m;rw[zjL e,q];refine must (zG g) (must (zG i) (must (ziy rfl m) ?_));show _=some (zfH (zjM (zm7 a c d (gOf a c d) true) c d (gOf a c d) true,true));have k:=zyH (b:=a.Buffer) (page:=zbj (address (gOf a c d))) (need:=zcc true) (io:=false) f e;have F:=zF4 k g i;have p:(ix (ix (zeX (zo a) (zo a).Buffer c d (zcQ (zi7 (ix (ix (zo a).Mons c zi).Guests d zD))) (zfg true) false).Mons c zi).Guests d zD)=(ix (ix (zo a).Mons c zi).Guests d zD):=congrArg (fun l=>ix l d gZ) (zL2 k.gs c);rw[p];unfold zjM;refine must rfl (must rfl (must rfl (must (zbM ((zT _).2 f)) (brN (fun h=>?_) (fun h=>?_)))));{rw [show (zm7 a c d (gOf a c d) true).2.2=false from h];exact must (zG F.hm) (must rfl (must rfl (must (zbM n) (must (zG F.hg) rfl))))};{rw [show (zm7 a c d (gOf a c d) true).2.2=true from h];exact must rfl (must (zbM k.shape.1.1) (must (zG F.hm) (must (zbM n) (must (zG F.hg) rfl))))}
theorem zCH:vN 326 zG3:=kF3 z01 zA zb9 zi4 (zq []) zGS
theorem z9s {c:Host}{a d:Int}(k:SmG (gOf c a d))(f:hasB a (ln c.Mons)=true)(i:hasB d (ln (ix c.Mons a mZ).Guests)=true) :
 (cond (zdS (ix (ix (zo c).Mons a zi).Guests d zD) (ix (ix (zo c).Mons a zi).Guests d zD).Ctl.Traps 5) (cond (zdp (ix (ix (zo c).Mons a zi).Guests d zD) (ix (ix (zo c).Mons a zi).Guests d zD).Ctl.Traps 5) (cond (inb a (ln (zo c).Mons)) (cond (ilt (ln (ix (zo c).Mons a zi).Outs) 40) (cond (inb a (ln (zo c).Mons)) (cond (zfx (ix (ix (zo c).Mons a zi).Guests d zD).Prog (ix (ix (zo c).Mons a zi).Guests d zD).Pc) (cond (few (ln (ap (ix (zo c).Mons a zi).Outs [(zfM (ix (ix (zo c).Mons a zi).Guests d zD).Prog (ix (ix (zo c).Mons a zi).Guests d zD).Pc).X]))) (cond (inb a (ln (zo c).Mons)) (cond (cond (ieq a a) true false) (share (up (zo c).Mons a ({ (ix (zo c).Mons a zi) with Outs:=(ap (ix (zo c).Mons a zi).Outs [(zfM (ix (ix (zo c).Mons a zi).Guests d zD).Prog (ix (ix (zo c).Mons a zi).Guests d zD).Pc).X])}:Mon)) (fun e=>(cond (inb a (ln e)) (cond (inb d (ln (ix e a zi).Guests)) (share (up e a ({ (ix e a zi) with Guests:=(up (ix e a zi).Guests d (zck (ix (ix (zo c).Mons a zi).Guests d zD) (ix (ix (zo c).Mons a zi).Guests d zD).Ctl.Traps 5))}:Mon)) (fun l=>(some [(.agg (zbk ({ (zo c) with Mons:=l}:Host))),(.one (.b true))]))) none) none))) none) none) none) none) none) (cond (inb a (ln (zo c).Mons)) (cond (inb d (ln (ix (zo c).Mons a zi).Guests)) (share (up (zo c).Mons a ({ (ix (zo c).Mons a zi) with Guests:=(up (ix (zo c).Mons a zi).Guests d (zck (ix (ix (zo c).Mons a zi).Guests d zD) (ix (ix (zo c).Mons a zi).Guests d zD).Ctl.Traps 5))}:Mon)) (fun e=>(some [(.agg (zbk ({ (zo c) with Mons:=e}:Host))),(.one (.b true))]))) none) none)) none) (cond (inb a (ln (zo c).Mons)) (cond (inb d (ln (ix (zo c).Mons a zi).Guests)) (share (up (zo c).Mons a ({ (ix (zo c).Mons a zi) with Guests:=(up (ix (zo c).Mons a zi).Guests d (zck (ix (ix (zo c).Mons a zi).Guests d zD) (ix (ix (zo c).Mons a zi).Guests d zD).Ctl.Traps 5))}:Mon)) (fun e=>(some [(.agg (zbk ({ (zo c) with Mons:=e}:Host))),(.one (.b true))]))) none) none)) none)=some (zfH (zk6 (zgk c a (gOf c a d) 5) a d (zjN (gOf c a d) (gOf c a d).Ctl.Traps 5),true)):=by
 refine must (zbM k) (br (fun j=>must (zG f) (br (fun g=>?_) (fun g=>?_))) (fun j=>?_))
 .rw [zXu (h:=c) (m:=a) (x:=gOf c a d) (w:=5) j rfl g];refine must (zG f) (must rfl (must (z9r g) (must (zG f) (must (z4k _) (shr (must (zG (zer f)) (must ?_ rfl)))))));rw[zNj f];exact zG i
 .rw [zSt (h:=c) (m:=a) (x:=gOf c a d) (w:=5) g];exact must (zG f) (must (zG i) rfl)
 .rw [z5I (h:=c) (m:=a) (x:=gOf c a d) (w:=5) j];exact must (zG f) (must (zG i) rfl)
theorem zbcN {f:Host}{d:List Mon}{a c:Int}(n:SmG (gOf f a c))(i:hasB a (ln d)=true)(k:hasB c (ln (ix d a mZ).Guests)=true)(e:(ix (ix d a zi).Guests c zD)=gOf f a c) :
 (cond (zdS ({ (ix (ix (zo f).Mons a zi).Guests c zD) with Prog:=(ix (ix d a zi).Guests c zD).Prog,Written:=(ix (ix d a zi).Guests c zD).Written,Live:=(ix (ix d a zi).Guests c zD).Live,Seen:=(ix (ix d a zi).Guests c zD).Seen}:Guest) (ix (ix (zo f).Mons a zi).Guests c zD).Ctl.Traps 5) (cond (zdp ({ (ix (ix (zo f).Mons a zi).Guests c zD) with Prog:=(ix (ix d a zi).Guests c zD).Prog,Written:=(ix (ix d a zi).Guests c zD).Written,Live:=(ix (ix d a zi).Guests c zD).Live,Seen:=(ix (ix d a zi).Guests c zD).Seen}:Guest) (ix (ix (zo f).Mons a zi).Guests c zD).Ctl.Traps 5) (cond (inb a (ln d)) (cond (ilt (ln (ix d a zi).Outs) 40) (cond (inb a (ln d)) (cond (zfx (ix (ix d a zi).Guests c zD).Prog (ix (ix (zo f).Mons a zi).Guests c zD).Pc) (cond (few (ln (ap (ix d a zi).Outs [(zfM (ix (ix d a zi).Guests c zD).Prog (ix (ix (zo f).Mons a zi).Guests c zD).Pc).X]))) (cond (inb a (ln d)) (cond (cond (ieq a a) true false) (share (up d a ({ (ix d a zi) with Outs:=(ap (ix d a zi).Outs [(zfM (ix (ix d a zi).Guests c zD).Prog (ix (ix (zo f).Mons a zi).Guests c zD).Pc).X])}:Mon)) (fun g=>(cond (inb a (ln g)) (cond (inb c (ln (ix g a zi).Guests)) (share (up g a ({ (ix g a zi) with Guests:=(up (ix g a zi).Guests c (zck ({ (ix (ix (zo f).Mons a zi).Guests c zD) with Prog:=(ix (ix d a zi).Guests c zD).Prog,Written:=(ix (ix d a zi).Guests c zD).Written,Live:=(ix (ix d a zi).Guests c zD).Live,Seen:=(ix (ix d a zi).Guests c zD).Seen}:Guest) (ix (ix (zo f).Mons a zi).Guests c zD).Ctl.Traps 5))}:Mon)) (fun p=>(some [(.agg (zbk ({ (zo f) with Mons:=p}:Host))),(.one (.b true))]))) none) none))) none) none) none) none) none) (cond (inb a (ln d)) (cond (inb c (ln (ix d a zi).Guests)) (share (up d a ({ (ix d a zi) with Guests:=(up (ix d a zi).Guests c (zck ({ (ix (ix (zo f).Mons a zi).Guests c zD) with Prog:=(ix (ix d a zi).Guests c zD).Prog,Written:=(ix (ix d a zi).Guests c zD).Written,Live:=(ix (ix d a zi).Guests c zD).Live,Seen:=(ix (ix d a zi).Guests c zD).Seen}:Guest) (ix (ix (zo f).Mons a zi).Guests c zD).Ctl.Traps 5))}:Mon)) (fun g=>(some [(.agg (zbk ({ (zo f) with Mons:=g}:Host))),(.one (.b true))]))) none) none)) none) (cond (inb a (ln d)) (cond (inb c (ln (ix d a zi).Guests)) (share (up d a ({ (ix d a zi) with Guests:=(up (ix d a zi).Guests c (zck ({ (ix (ix (zo f).Mons a zi).Guests c zD) with Prog:=(ix (ix d a zi).Guests c zD).Prog,Written:=(ix (ix d a zi).Guests c zD).Written,Live:=(ix (ix d a zi).Guests c zD).Live,Seen:=(ix (ix d a zi).Guests c zD).Seen}:Guest) (ix (ix (zo f).Mons a zi).Guests c zD).Ctl.Traps 5))}:Mon)) (fun g=>(some [(.agg (zbk ({ (zo f) with Mons:=g}:Host))),(.one (.b true))]))) none) none)) none)=some (zfH (zk6 (zgk {f with Mons:=d} a (gOf f a c) 5) a c (zjN (gOf f a c) (gOf f a c).Ctl.Traps 5),true)):=by
 rw[e];refine must (zbM n) (br (fun l=>must (zG i) (br (fun j=>?_) (fun j=>?_))) (fun l=>?_))
 .rw [zXu (h:={f with Mons:=d}) (m:=a) (x:=gOf f a c) (w:=5) l rfl j];refine must (zG i) (must rfl (must (z9r j) (must (zG i) (must (z4k _) (shr (must (zG (zer (h:={f with Mons:=d}) i)) (must ?_ rfl)))))));rw[zNj (h:={f with Mons:=d}) i];exact zG k
 .rw [zSt (h:={f with Mons:=d}) (m:=a) (x:=gOf f a c) (w:=5) j];exact must (zG i) (must (zG k) rfl)
 .rw [z5I (h:={f with Mons:=d}) (m:=a) (x:=gOf f a c) (w:=5) l];exact must (zG i) (must (zG k) rfl)
theorem zGT (b:Host)(a c:Int)(j:zw1 b a c=true):∃N,zvF N b a c=some [aH (zwZ b a c),aB (zw0 b a c)]:=by
 obtain⟨j,p⟩:=zmj j;have k:=(zT b).1 (zL.1 j);refine⟨0,?_⟩;show _=some (zfH (zbF b a c));unfold zvF oN nB;conv=>zeta
 refine must (zbM ((zT _).2 k)) (must (zbM ((zT _).2 k)) (brN (fun f=>?_) (fun f=>?_)));{rw [zmh f];rfl};obtain⟨r,d,e⟩:=zdA f;have l:=zpH k d e;have q:zbd (gOf b a c)=5:=qE p;rw[zjL f,q];refine must (zG d) (must (zG e) (must (ziy rfl p) ?_));show _=some (zfH (zxh b a c (gOf b a c) 5,true));refine must (zG d) (must rfl (br (fun g=>must (zG d) (br (fun i=>must (zG d) (must (zG d) (shr ?_))) (fun i=>?_))) (fun g=>?_)));{rw [znL (z0u (h:=b) (m:=a) (x:=gOf b a c) (w:=5) rfl g i)];have n:=zNj d {ix b.Mons a mZ with Own:=zM .i64 (ix b.Mons a mZ).Own 1};refine zbcN l (zer d) ?_ ?_;{show hasB c (ln (ix (up b.Mons a _) a mZ).Guests)=true;rw[n];exact e};{show ix (ix (up b.Mons a _) a mZ).Guests c gZ=_;rw[n];rfl}};{rw [znL (z0t (h:=b) (m:=a) (x:=gOf b a c) (w:=5) i)];exact z9s l d e};{rw [znL (z0s (h:=b) (m:=a) (x:=gOf b a c) (w:=5) g)];exact z9s l d e}
theorem zCI:vN 326 zG4:=kF3 z02 zA zb9 zi4 (zq []) zGT
theorem zGU (a:Host)(b c:Int)(g:zw4 a b c=true):∃N,zvG N a b c=some [aH (zw2 a b c),aB (zw3 a b c)]:=by
 obtain⟨g,j⟩:=zmj g;have i:=(zT a).1 (zL.1 g);refine⟨0,?_⟩;show _=some (zfH (zbF a b c));unfold zvG oN nB;conv=>zeta
 refine must (zbM ((zT _).2 i)) (must (zbM ((zT _).2 i)) (brN (fun f=>?_) (fun f=>?_)));{rw [zmh f];rfl};obtain⟨p,d,e⟩:=zdA f;have n:=zpH i d e;have l:zbd (gOf a b c)=6:=qE j;rw[zjL f,l];refine must (zG d) (must (zG e) (must (ziy rfl j) ?_));show _=some (zfH (zxh a b c (gOf a b c) 6,true));rw[znL (zbbz (h:=a) (m:=b) (x:=gOf a b c)),zOc (w:=6) rfl];exact must (zbM n) (br (fun k=>must (zG d) (must (zG e) rfl)) (fun k=>must (zG d) (must (zG e) rfl)))
theorem zCJ:vN 326 zG5:=kF3 z03 zA zb9 zi4 (zq []) zGU
theorem z9t {a:Host}{c d:Int}(i:SmG (gOf a c d))(f:hasB c (ln a.Mons)=true)(g:hasB d (ln (ix a.Mons c mZ).Guests)=true) :
 (cond (zdS (ix (ix (zo a).Mons c zi).Guests d zD) (ix (ix (zo a).Mons c zi).Guests d zD).Ctl.Traps 7) (cond (zdp (ix (ix (zo a).Mons c zi).Guests d zD) (ix (ix (zo a).Mons c zi).Guests d zD).Ctl.Traps 7) (cond (inb c (ln (zo a).Mons)) (cond (inb d (ln (ix (zo a).Mons c zi).Guests)) (share (up (zo a).Mons c ({ (ix (zo a).Mons c zi) with Guests:=(up (ix (zo a).Mons c zi).Guests d (zck (ix (ix (zo a).Mons c zi).Guests d zD) (ix (ix (zo a).Mons c zi).Guests d zD).Ctl.Traps 7))}:Mon)) (fun e=>(some [(.agg (zbk ({ (zo a) with Mons:=e}:Host))),(.one (.b true))]))) none) none) (cond (inb c (ln (zo a).Mons)) (cond (inb d (ln (ix (zo a).Mons c zi).Guests)) (share (up (zo a).Mons c ({ (ix (zo a).Mons c zi) with Guests:=(up (ix (zo a).Mons c zi).Guests d (zck (ix (ix (zo a).Mons c zi).Guests d zD) (ix (ix (zo a).Mons c zi).Guests d zD).Ctl.Traps 7))}:Mon)) (fun e=>(some [(.agg (zbk ({ (zo a) with Mons:=e}:Host))),(.one (.b true))]))) none) none)) none)=some (zfH (zk6 a c d (zjN (gOf a c d) (gOf a c d).Ctl.Traps 7),true)):=
 must (zbM i) (br (fun h=>must (zG f) (must (zG g) rfl)) (fun h=>must (zG f) (must (zG g) rfl)))
theorem zbcO {f:Host}{d:List Mon}{a c:Int}(k:SmG (gOf f a c))(h:hasB a (ln d)=true)(i:hasB c (ln (ix d a mZ).Guests)=true)(e:(ix (ix d a zi).Guests c zD)=gOf f a c) :
 (cond (zdS ({ (ix (ix (zo f).Mons a zi).Guests c zD) with Prog:=(ix (ix d a zi).Guests c zD).Prog,Written:=(ix (ix d a zi).Guests c zD).Written,Live:=(ix (ix d a zi).Guests c zD).Live,Seen:=(ix (ix d a zi).Guests c zD).Seen}:Guest) (ix (ix (zo f).Mons a zi).Guests c zD).Ctl.Traps 7) (cond (zdp ({ (ix (ix (zo f).Mons a zi).Guests c zD) with Prog:=(ix (ix d a zi).Guests c zD).Prog,Written:=(ix (ix d a zi).Guests c zD).Written,Live:=(ix (ix d a zi).Guests c zD).Live,Seen:=(ix (ix d a zi).Guests c zD).Seen}:Guest) (ix (ix (zo f).Mons a zi).Guests c zD).Ctl.Traps 7) (cond (inb a (ln d)) (cond (inb c (ln (ix d a zi).Guests)) (share (up d a ({ (ix d a zi) with Guests:=(up (ix d a zi).Guests c (zck ({ (ix (ix (zo f).Mons a zi).Guests c zD) with Prog:=(ix (ix d a zi).Guests c zD).Prog,Written:=(ix (ix d a zi).Guests c zD).Written,Live:=(ix (ix d a zi).Guests c zD).Live,Seen:=(ix (ix d a zi).Guests c zD).Seen}:Guest) (ix (ix (zo f).Mons a zi).Guests c zD).Ctl.Traps 7))}:Mon)) (fun g=>(some [(.agg (zbk ({ (zo f) with Mons:=g}:Host))),(.one (.b true))]))) none) none) (cond (inb a (ln d)) (cond (inb c (ln (ix d a zi).Guests)) (share (up d a ({ (ix d a zi) with Guests:=(up (ix d a zi).Guests c (zck ({ (ix (ix (zo f).Mons a zi).Guests c zD) with Prog:=(ix (ix d a zi).Guests c zD).Prog,Written:=(ix (ix d a zi).Guests c zD).Written,Live:=(ix (ix d a zi).Guests c zD).Live,Seen:=(ix (ix d a zi).Guests c zD).Seen}:Guest) (ix (ix (zo f).Mons a zi).Guests c zD).Ctl.Traps 7))}:Mon)) (fun g=>(some [(.agg (zbk ({ (zo f) with Mons:=g}:Host))),(.one (.b true))]))) none) none)) none)=some (zfH (zk6 {f with Mons:=d} a c (zjN (gOf f a c) (gOf f a c).Ctl.Traps 7),true)):=by
 rw[e];exact must (zbM k) (br (fun j=>must (zG h) (must (zG i) rfl)) (fun j=>must (zG h) (must (zG i) rfl)))
theorem zGV (b:Host)(a c:Int)(j:zw7 b a c=true):∃N,zvH N b a c=some [aH (zw5 b a c),aB (zw6 b a c)]:=by
 obtain⟨j,p⟩:=zmj j;have k:=(zT b).1 (zL.1 j);refine⟨0,?_⟩;show _=some (zfH (zbF b a c));unfold zvH oN nB;conv=>zeta
 refine must (zbM ((zT _).2 k)) (must (zbM ((zT _).2 k)) (brN (fun f=>?_) (fun f=>?_)));{rw [zmh f];rfl};obtain⟨r,d,e⟩:=zdA f;have l:=zpH k d e;have q:zbd (gOf b a c)=7:=qE p;rw[zjL f,q];refine must (zG d) (must (zG e) (must (ziy rfl p) ?_));show _=some (zfH (zxh b a c (gOf b a c) 7,true));refine must (zG d) (must rfl (br (fun g=>must (zG d) (br (fun i=>must (zG d) (must (zG d) (shr ?_))) (fun i=>?_))) (fun g=>?_)));{rw [znL (z0u (h:=b) (m:=a) (x:=gOf b a c) (w:=7) rfl g i),zOc (w:=7) rfl];have n:=zNj d {ix b.Mons a mZ with Own:=zM .i64 (ix b.Mons a mZ).Own 1};refine zbcO l (zer d) ?_ ?_;{show hasB c (ln (ix (up b.Mons a _) a mZ).Guests)=true;rw[n];exact e};{show ix (ix (up b.Mons a _) a mZ).Guests c gZ=_;rw[n];rfl}};{rw [znL (z0t (h:=b) (m:=a) (x:=gOf b a c) (w:=7) i),zOc (w:=7) rfl];exact z9t l d e};{rw [znL (z0s (h:=b) (m:=a) (x:=gOf b a c) (w:=7) g),zOc (w:=7) rfl];exact z9t l d e}
theorem zCK:vN 326 zG6:=kF3 z04 zA zb9 zi4 (zq []) zGV
def zqq:List AV->Option (Bool×List AV)
 |[.agg [.s (.sl .int) b,.s .mon c,.s .entry d,.s .entry e],.one (.i .i64 f),.one (.i .i64 g)]=>some ((zet (⟨b,c,d,e⟩:Host) f g),[aH (zFj (⟨b,c,d,e⟩:Host) f g),aB (zFk (⟨b,c,d,e⟩:Host) f g)])
 |_=>none
theorem zJy:vN 326 zqq:=by refine⟨zpL.1,fun w m l n g h=>?_⟩;unfold zqq at h;split at h;{rename_i a b d f i j;obtain⟨k,rfl⟩:=zd5 h;rcases z8b (gOf (⟨a,b,d,f⟩:Host) i j) with e|e|e|e|e|e|e|e;{exact zpL.2 w _ l _ g (congrArg (fun c=>some (c,zfH (zbF (⟨a,b,d,f⟩:Host) i j))) (ziy k e))};{exact zCE.2 w _ l _ g (congrArg (fun c=>some (c,zfH (zbF (⟨a,b,d,f⟩:Host) i j))) (ziy k e))};{exact zCF.2 w _ l _ g (congrArg (fun c=>some (c,zfH (zbF (⟨a,b,d,f⟩:Host) i j))) (ziy k e))};{exact zCG.2 w _ l _ g (congrArg (fun c=>some (c,zfH (zbF (⟨a,b,d,f⟩:Host) i j))) (ziy k e))};{exact zCH.2 w _ l _ g (congrArg (fun c=>some (c,zfH (zbF (⟨a,b,d,f⟩:Host) i j))) (ziy k e))};{exact zCI.2 w _ l _ g (congrArg (fun c=>some (c,zfH (zbF (⟨a,b,d,f⟩:Host) i j))) (ziy k e))};{exact zCJ.2 w _ l _ g (congrArg (fun c=>some (c,zfH (zbF (⟨a,b,d,f⟩:Host) i j))) (ziy k e))};{exact zCK.2 w _ l _ g (congrArg (fun c=>some (c,zfH (zbF (⟨a,b,d,f⟩:Host) i j))) (ziy k e))}};{cases h}
def z9i:zba:=[(326,zqq)]++zm1
theorem z6G:zK z9i:=zh zJy zie
def z9j:zba:=z9i
theorem z6H:zK z9j:=z6G
def brought (n a b:Int):Int:=bif ilt n a then a else (cond (ilt b a) a (zPE n b))
@[simp] abbrev zrb (_ _ _:Int):Bool:=true
@[simp] abbrev zsd (n a b:Int):Int:=brought n a b
def zsL:Run:=rF3 dI dI dI fun b c d=>(zrb b c d,[aI (zsd b c d)])
def zHk (N:Nat)(b a c:Int):OA:=
 (cond (ilt c a) (some [(aI a)]) (cond (ilt b a) (some [(aI a)]) (cond (igt b c) (some [(aI c)]) (some [(aI b)]))))
theorem zTa (a b c:Int)(g:zrb a b c=true):∃N,zHk N a b c=some [aI (zsd a b c)]:=by refine⟨0,?_⟩;unfold zHk;unfold zsd brought zPE;cases d:ilt c b<;>cases e:ilt a b<;>cases f:igt a c<;>simp [igt] at * <;> omega
theorem zv7:vN 193 zsL:=kF3 zul zA zB zn (zq []) zTa
structure RI (a:List Bare) (i:Nat) (l:List Bare):Prop where
 len:l.length=a.length
 sm:z0E l
 eq:∀k,i<=k->l[k]?=a[k]?
theorem RI.up {a l:List Bare}{i:Nat}(h:RI a i l)(x:Bare)(b:SmB x):RI a (i+1) (up l (i:Int) x):=
 ⟨by rw[zgy];exact h.len,zbbq h.sm b,fun k c=>by rw[zbce (by omega)];exact h.eq k (by omega)⟩
structure RJ (l:List Bare) (i:Nat) (l':List Bare):Prop where
 len:l'.length=l.length
 sm:SmB (ix l' (i:Int) zXZ)
 up:∀x,E.up l' (i:Int) x=E.up l (i:Int) x
theorem RJ.next {l a:List Bare}{i:Nat}(h:RJ l i a)(b:i<l.length)(x:Bare)(c:SmB x):RJ l i (E.up a (i:Int) x):=
 ⟨by rw[zgy];exact h.len,by rw[zdP (by rw[h.len];exact b)];exact c,fun y=>by rw[zxi];exact h.up y⟩
def z3J:zba:=z9j
theorem z3K:zK z3J:=z6H
theorem zBc {h:Host}{m:Int}(g:SmH h)(f:hasB m (ln h.Mons)=true):SmB (zC h m):=by
 have b:=g.2.1.2 _ (zbu f mZ);have e:∀(d:List (List Int)) (q:Int),SmM d->(zct d q).length<=1048576:=fun d q h=>zXh h;have c:∀p:Int,(zcd h m p).length<=1048576:=by intro p;unfold zcd;cases hasB m (ln h.Mons);{exact(by decide:zBi.length<=1048576)};{cases hasB p 8;{exact(by decide:zBi.length<=1048576)};{simp only [cT];cases ine (zbv (ix h.Mons m zi).Outer p).Page (-1);{exact e _ _ b.2.1};{exact e _ _ g.1}}}
 have j:∀(n i:Nat),∀x∈zcw h m n i,x.length<=1048576:=by
  intro n
  induction n with
  |zero=>intro i x a;cases a
  |succ n k=>intro i x a;rcases qG.1 a with rfl|a;{exact c _};{exact k (i+1) x a}
 unfold zC;rw[f];exact⟨⟨by show (zcw h m 8 0).length<=1048576;rw[zAM];decide,j 8 0⟩,b.2.2.2.1,b.2.2.2.2.1⟩
def z9k:zba:=z3J
theorem z6I:zK z9k:=z3K
def z9l:zba:=[(193,zsL)]++z9k
theorem z6J:zK z9l:=zh zv7 z6I
def cnt (l:List Mon):List Nat:=l.map fun x=>x.Guests.length
theorem zbbP {l a:List Mon}(h:zd0 a=zd0 l):cnt a=cnt l:=by have e:∀l:List Mon,cnt l=(zd0 l).map List.length:=fun l=>(by simp[cnt,zd0]);rw[e,e,h]
theorem zUC {l:List Mon}{m:Int}{x:Mon}(b:hasB m (ln l)=true)(c:x.Guests.length=(ix l m mZ).Guests.length):cnt (up l m x)=cnt l:=by obtain⟨k,rfl,a⟩:=zdJ (n:=l.length) b;unfold cnt up;rw[List.map_set,kH,c,zbp a];have:=@u1 _ (l.map fun x=>x.Guests.length) k (by simpa using a);simpa using this
theorem zbai {l a:List Mon}(h:cnt a=cnt l):a.length=l.length:=by have:=congrArg List.length h;simpa [cnt] using this
theorem zbbQ {l b:List Mon}(h:cnt b=cnt l)(m:Int):(ix b m mZ).Guests.length=(ix l m mZ).Guests.length:=by have a:(cnt b)[m.toNat]?=(cnt l)[m.toNat]?:=(by rw[h]);unfold cnt at a;rw[qP,qP]at a;unfold ix;simp only[kB];cases c:b[m.toNat]? <;> cases d:l[m.toNat]? <;> rw [c,d]at a<;>simp at a ⊢;exact a
theorem zba6 (h:Host)(m p:Int):(zdq h m p).Memory=h.Memory:=(zf5 (zey h m p) m p noSlot).2
theorem zba5 (h:Host):(zc8 h).Memory=h.Memory:=by unfold zc8;cases ieq (ln (zch h)) 0;{rfl};{exact zba6 _ _ _}
theorem zba4 (m:List (List Int))(p:Int)(c:List Int):(zhu m p c).length=m.length:=by unfold zhu;cases hasB p (ln m);{rfl};{cases zci c;{rfl};{simp}}
theorem zba2 (m:List (List Int))(p c v:Int):(zbC m p c v).length=m.length:=by unfold zbC;cases zgs m p c;{rfl};{cases win v 0 99;{rfl};{simp}}
theorem z1L (h:Host)(m p:Int):(fetched h m p).Memory.length=h.Memory.length:=by unfold fetched zeH;rw[(zf5 _ _ _ _).2];unfold landing;rw[zba4,zba5]
theorem zWo (h:Host)(m p n:Int):(zjw h m p n).Memory=h.Memory:=by unfold zjw;cases ieq (wand .i64 n 2) 0;{unfold opened;cases ieq (wand .i64 (ix (ix (zbI h m p).Mons m mZ).Outer p sZ).Rights 2) 0;{rfl};{exact(zf5 _ _ _ _).2}};{rfl}
theorem z4D (h:Host)(m p n:Int):(mended h m p n).Memory.length=h.Memory.length:=by unfold mended;cases ieq (ix (ix h.Mons m mZ).Outer p sZ).Page (-1);{exact congrArg List.length (zWo _ _ _ _)};{exact(congrArg List.length (zWo _ _ _ _)).trans (z1L _ _ _)}
theorem z4E (h:Host)(m g p:Int)(a:Bool):(zwo h m g p a).Memory=h.Memory:=by cases a<;>rfl
theorem z7o (h:Host)(b:List Entry)(m g c a q:Int)(d:Bool):(zh0 h b m g c a q d).1.Memory.length=h.Memory.length:=by unfold zh0;cases zhF b m g c a;{cases zeO h m g c a;{exact congrArg List.length (z4E _ _ _ _ _)};{exact(congrArg List.length (z4E _ _ _ _ _)).trans (z4D h m q a)}};{rfl}
theorem zba3 (h:Host)(b:List Entry)(m g page need:Int)(io:Bool):(lookOf h b m g page need io).1.Memory.length=h.Memory.length:=by unfold lookOf;cases zca h m g page need;{rfl};{simp only [cT];rw[z7o];cases ieq need 2<;>rfl}
structure Keep (h r:Host):Prop where
 shape:Shape r
 cnt:cnt r.Mons=cnt h.Mons
 mem:r.Memory.length=h.Memory.length
theorem Keep.has {h r:Host}(k:Keep h r){m:Int}(a:hasB m (ln h.Mons)=true):hasB m (ln r.Mons)=true:=by rw[ln,zbai k.cnt];exact a
theorem Keep.hg {h r:Host}(k:Keep h r){m g:Int}(hg:hasB g (ln (ix h.Mons m mZ).Guests)=true):hasB g (ln (ix r.Mons m mZ).Guests)=true:=by rw[ln,zbbQ k.cnt];exact hg
theorem Keep.trans {a b c:Host}(h:Keep a b)(k:Keep b c):Keep a c:=⟨k.shape,k.cnt.trans h.cnt,k.mem.trans h.mem⟩
theorem Keep.rfl' {h:Host}(a:Shape h):Keep h h:=⟨a,rfl,rfl⟩
theorem znP {h:Host}{m g:Int}{x:Guest}(b:Shape h)(a:hasB m (ln h.Mons)=true)(c:SmG x):Keep h (zk6 h m g x):=⟨z2D b a c,zUC a (by simp),rfl⟩
theorem zEf {h:Host}{b:List Entry}{m g page need:Int}{io:Bool}(c:SmH h)(a:zbZ h m g=true):Keep h (lookOf h b m g page need io).1:=by have k:=zyH (b:=b) (page:=page) (need:=need) (io:=io) c a;exact⟨k.shape,zbbP k.gs,zba3 _ _ _ _ _ _ _⟩
theorem z4o {h:Host}{p c v:Int}(a:Shape h):Keep h {h with Memory:=zbC h.Memory p c v}:=⟨zSo a (zvw a.1.1),rfl,zba2 _ _ _ _⟩
theorem z1y {h:Host}{m:Int}(a:Shape h)(b:hasB m (ln h.Mons)=true):Keep h (owned h m):=by obtain⟨c,d⟩:=zcB a b;unfold owned;cases ilt (ix h.Mons m mZ).Own 1000000000;{exact Keep.rfl' a};{exact⟨ziv a c d,zUC b rfl,rfl⟩}
theorem z1x {h:Host}{m n:Int}(b:Shape h)(c:hasB m (ln h.Mons)=true):Keep h (zoA h m n):=by obtain⟨a,d⟩:=zcB b c;unfold zoA;cases e:ilt (ln (ix h.Mons m mZ).Outs) 40;{exact Keep.rfl' b};{have f:=qE e;simp only[ln]at f;refine⟨ziv b ⟨a.1,a.2.1,a.2.2.1,a.2.2.2.1,?_,a.2.2.2.2.2⟩ d,zUC c rfl,rfl⟩;simp[ap];omega}
theorem z4q {h:Host}{m g:Int}{x:Guest}{w:Int}(d:Shape h)(b:hasB m (ln h.Mons)=true)(e:SmG x):Keep h (zxh h m g x w):=by have a:Keep h (zgl h m x w):=(by unfold zgl;cases (cond (ine w 6) (ieq (zAK (ix h.Mons m mZ).Traps x.Ctl.Traps (zzJ w)) 2) false);{exact Keep.rfl' d};{exact z1y d b});have f:Keep (zgl h m x w) (zgk (zgl h m x w) m x w):=(by unfold zgk;cases (cond (zkA x.Ctl.Traps w) (ieq w 5) false);{exact Keep.rfl' a.shape};{exact z1x a.shape (a.has b)});have c:=a.trans f;exact c.trans (znP c.shape (c.has b) (zFv _ _ e))
theorem z4p {h:Host}{m g:Int}(f:SmH h)(e:zbZ h m g=true):Keep h (zbF h m g).1:=by obtain⟨l,a,n⟩:=zdA e;have d:=zpH f a n;have i:=(ze3 f l).1;rw[zjL e];unfold zXm;cases ieq (zbd (gOf h m g)) 0;{cases ieq (zbd (gOf h m g)) 1;{cases ieq (zbd (gOf h m g)) 2;{cases (cond (ieq (zbd (gOf h m g)) 3) true (ieq (zbd (gOf h m g)) 4));{exact z4q i a d};{have k:=zEf (b:=h.Buffer) (page:=zbj (address (gOf h m g))) (need:=zcc (ieq (zbd (gOf h m g)) 4)) (io:=false) f e;show Keep h (zjM (zm7 h m g (gOf h m g) (ieq (zbd (gOf h m g)) 4)) m g (gOf h m g) (ieq (zbd (gOf h m g)) 4));unfold zjM;cases (zm7 h m g (gOf h m g) (ieq (zbd (gOf h m g)) 4)).2.2;{exact k.trans (znP k.shape (k.has a) d)};{cases ieq (zbd (gOf h m g)) 4;{have k:=zEf (b:=h.Buffer) (page:=zbj (address (gOf h m g))) (need:=zcc false) (io:=false) f e;exact k.trans (znP k.shape (k.has a) (zN2 _ d))};{have k:=zEf (b:=h.Buffer) (page:=zbj (address (gOf h m g))) (need:=zcc true) (io:=false) f e;have q:=z4o (p:=(zm7 h m g (gOf h m g) true).2.1) (c:=zdf (address (gOf h m g))) (v:=(gOf h m g).A) k.shape;have j:=k.trans q;exact j.trans (znP j.shape (j.has a) (zlp d))}}}};{exact znP i a (zIB d)}};{exact znP i a (z0l d)}};{exact Keep.rfl' i}
structure Same (h r:Host):Prop where
 sm:SmH r
 cnt:cnt r.Mons=cnt h.Mons
 mem:r.Memory.length=h.Memory.length
 st:r=h\/Shape r
theorem Same.rfl' {h:Host}(a:SmH h):Same h h:=⟨a,rfl,rfl,.inl rfl⟩
theorem Same.trans {a b c:Host}(h:Same a b)(k:Same b c):Same a c:=⟨k.sm,k.cnt.trans h.cnt,k.mem.trans h.mem,by
 rcases k.st with e|e
 .rw [e];exact h.st
 .exact .inr e⟩
theorem z5r {h:Host}(m g:Int)(b:SmH h):Same h (zbF h m g).1:=by cases a:zbZ h m g;{rw [zmh a];exact Same.rfl' b};{have k:=z4p b a;exact⟨k.shape.1,k.cnt,k.mem,.inr k.shape⟩}
def z9m:zba:=[(193,zsL)]++z0W
theorem zpY:zK z9m:=zh zv7 zul
theorem zUx {a b:Bool}(h:(a=true)↔(b=true)):a=b:=by cases a<;>cases b<;>simp_all
@[simp] theorem zbcC (x:Int):win x 0 3=hasB x 4:=zUx (by rw[zfP];unfold hasB;rw[decide_eq_true_iff];omega)
@[simp] theorem z5O (x:Int):win x 0 7=hasB x 8:=zUx (by rw[zfP];unfold hasB;rw[decide_eq_true_iff];omega)
def zdE (t:List Slot)(p:Int)(s:Slot):List Slot:=bif hasB p (ln t) then up t p s else t
@[simp] theorem zbcD (t:List Slot)(p:Int)(s:Slot):(zdE t p s).length=t.length:=by unfold zdE;cases hasB p (ln t)<;>simp
@[simp] abbrev zpd (t:List Slot)(p:Int)(s:Slot):Bool:=pc (t.length<=1048576)
@[simp] abbrev zl7 (t:List Slot)(p:Int)(s:Slot):List Slot:=zdE t p s
def zzr:Run:=rF3 (dS .slot) dI (dT .slot) fun b c d=>(zpd b c d,[aS .slot (zl7 b c d)])
def zDo (N:Nat)(a:lS)(b:Int)(c:Slot):OA:=
 (oN (few (ln (ap [] a))) (oN (zO b 0 (wsub .i64 (ln a) 1)) (cond (zS b 0 (wsub .i64 (ln a) 1)) (oN (inb b (ln (ap [] a))) (share (up (ap [] a) b c) (fun d=>(some [(aS .slot d)])))) (some [(aS .slot (ap [] a))]))))
theorem zQh (a:List Slot)(b:Int)(c:Slot)(d:zpd a b c=true):∃N,zDo N a b c=some [aS .slot (zl7 a b c)]:=by have e:=zL.1 d;refine⟨0,?_⟩;unfold zDo oN;refine mu (must rfl (br (fun _=>mu (shr ?_)) (fun _=>?_)));all_goals first|rfl|(simp only [*,zl7,zdE,cT,cF]<;>rfl)|simp_all[Ty.cells,zl7,zdE]
theorem zJF:vN 172 zzr:=kF3 zpY zA zB zn (zq []) zQh
@[simp] abbrev zuI (t:List Slot)(p:Int)(s:Slot):Bool:=pc (t.length<=1048576)
@[simp] abbrev zoo (t:List Slot)(p:Int)(s:Slot):List Slot:=zdE t p s
def zy6:Run:=rF3 (dS .slot) dI (dT .slot) fun b c d=>(zuI b c d,[aS .slot (zoo b c d)])
def zCW (N:Nat)(a:lS)(b:Int)(c:Slot):OA:=
 (oN (zfu a) (oN (zdh b (ln a)) (cond (zdG b (ln a)) (oN (inb b (ln (zdR a))) (share (up (zdR a) b c) (fun d=>(some [(aS .slot d)])))) (some [(aS .slot (zdR a))]))))
theorem zPO (a:List Slot)(b:Int)(c:Slot)(d:zuI a b c=true):∃N,zCW N a b c=some [aS .slot (zoo a b c)]:=by have e:=zL.1 d;refine⟨0,?_⟩;unfold zCW oN;refine mu (must rfl (br (fun _=>mu (shr ?_)) (fun _=>?_)));all_goals first|rfl|(simp only [*,zoo,zdE,cT,cF]<;>rfl)|simp_all[Ty.cells,zoo,zdE]
theorem zJj:vN 166 zy6:=kF3 zpY zA zB zn (zq []) zPO
def zf7 (p n:Int):Bool:=bif zc6 p then win n 0 7 else false
def zty (p n:Int):Int:=bif zf7 p n then wor .i64 p (zpK .i64 1 n) else p
theorem cv7 {n:Int}(h:hasB n 8=true):wcv .u64 n=n/\ile 0 n=true:=by have:=qE h;exact⟨z0y (by omega) (by omega),qJ (by omega)⟩
@[simp] abbrev zkm (p n:Int):Bool:=true
@[simp] abbrev zgK (p n:Int):Int:=zty p n
@[simp] abbrev zmP (p n:Int):Bool:=zf7 p n
def zCe:Run:=rF2 dI dI fun b c=>(zkm b c,[aI (zgK b c),aB (zmP b c)])
def zHy (N:Nat)(a b:Int):OA:=
 (oN (zfj a) (cond (nB (zfi a)) (some [(aI a),(aB false)]) (oN (zO b 0 7) (cond (nB (zS b 0 7)) (some [(aI a),(aB false)]) (oN (ile 0 (wcv .u64 b)) (some [(aI (wor .i64 a (zpK .i64 1 (wcv .u64 b)))),(aB true)]))))))
theorem zTp (b a:Int)(c:zkm b a=true):∃N,zHy N b a=some [aI (zgK b a),aB (zmP b a)]:=by have d:=@cv7 a;refine⟨0,?_⟩;unfold zHy oN nB;refine must rfl (brN (fun _=>?_) (fun _=>must rfl (brN (fun _=>?_) (fun _=>mu ?_))));all_goals first|rfl|(simp only [*,zgK,zmP,zty,zf7,cT,cF]<;>rfl)|simp_all[Ty.cells,zgK,zmP,zty,zf7]
theorem zMo:vN 188 zCe:=kF2 zpY zA zB zn (zq []) zTp
def posts (c:Ctl)(n:Int):Bool:=bif zhv c then (cond (win n 0 7) (ieq (wand .i64 (zFH .i64 c.Post n) 1) 1) false) else false
@[simp] abbrev zFm (c:Ctl)(n:Int):Bool:=true
@[simp] abbrev zzy (c:Ctl)(n:Int):Bool:=posts c n
def zIn:Run:=rF2 dC dI fun b c=>(zFm b c,[aB (zzy b c)])
def zRo (N:Nat)(b:Ctl)(a:Int):OA:=
 (oN (zse b) (cond (zqx b) (oN (zO a 0 7) (cond (zS a 0 7) (oN (ile 0 (wcv .u64 a)) (some [(aB (ieq (wand .i64 (zFH .i64 b.Post (wcv .u64 a)) 1) 1))])) oF)) oF))
theorem zYI (b:Ctl)(a:Int)(c:zFm b a=true):∃N,zRo N b a=some [aB (zzy b a)]:=by have d:=@cv7 a;refine⟨0,?_⟩;unfold zRo oN;refine must rfl (br (fun _=>must rfl (br (fun _=>mu ?_) (fun _=>?_))) (fun _=>?_));all_goals first|rfl|(simp only [*,zzy,posts,cT,cF]<;>rfl)|simp_all[Ty.cells,zzy,posts]
theorem zSQ:vN 295 zIn:=kF2 zpY zA zB zn (zq []) zYI
def zb7 (b:Bare)(g:Int):Bool:=bif zbQ b then hasB g (ln b.Guests) else false
theorem zdF {b:Bare}{g:Int}:(zb7 b g=true)↔zbQ b=true/\hasB g (ln b.Guests)=true:=by unfold zb7;cases zbQ b<;>simp
@[simp] abbrev zi9 (b:Bare)(g:Int):Bool:=pc (SmB b)
@[simp] abbrev zkp (b:Bare)(g:Int):Bool:=zb7 b g
def zIp:Run:=rF2 (dT .bare) dI fun b c=>(zi9 b c,[aB (zkp b c)])
def zRr (N:Nat)(a:Bare)(b:Int):OA:=
 (oN (zoW a) (cond (zeF a) (oN (zO b 0 (wsub .i64 (ln a.Guests) 1)) (some [(aB (zS b 0 (wsub .i64 (ln a.Guests) 1)))])) oF))
theorem zYL (a:Bare)(b:Int)(c:zi9 a b=true):∃N,zRr N a b=some [aB (zkp a b)]:=by have d:=zL.1 c;have e:a.Guests.length<=1048576:=d.2.1.1;refine⟨0,?_⟩;unfold zRr oN;refine must rfl (br (fun _=>must rfl ?_) (fun _=>?_));all_goals first|rfl|(simp only [*,zkp,zb7,cT,cF]<;>rfl)|simp_all[Ty.cells,zkp,zb7]
theorem zST:vN 170 zIp:=kF2 zpY zA zB zn (zq []) zYL
def z9n:zba:=[(172,zzr),(166,zy6),(188,zCe),(295,zIn),(170,zIp)]++z9m
theorem zif:zK z9n:=zh zJF (zh zJj (zh zMo (zh zSQ (zh zST zpY))))
theorem zXV {b:Type}{l:List b}{i:Int}{d:b}(h:hasB i (ln l)=true):up l i (ix l i d)=l:=by obtain⟨k,rfl,a⟩:=zdJ (n:=l.length) h;unfold up;rw[zbp a,kH];exact u1 a
theorem zuq {b:Bare}{g:Int}(h:hasB g (ln b.Guests)=true):gAt b g=ix b.Guests g zD:=by unfold gAt;rw[h];rfl
theorem z5t {b:Bare}{g:Int}(h:hasB g (ln b.Guests)=true):zdU b g (gAt b g)=b:=by unfold zdU;rw[zuq h,zXV h]
def chg (b:Bare)(g:Int)(c:Bool)(x:Guest):Bare:=bif (cond (zb7 b g) c false) then zdU b g x else b
def zbS (b:Bare)(g:Int)(c:Bool):Bool:=bif zb7 b g then c else false
def zs3 (p:Int)(s:Slot):Bool:=bif hasB p 4 then zdD s 8 else false
def zA9 (x:Guest)(p:Int)(s:Slot):Guest:={x with Written:=zdE x.Written p s}
def zde (x:Guest)(p:Int):Guest:={x with Live:=zdE x.Live p (zbv x.Written p)}
def zkZ:GExit:=⟨0,0,false,0⟩
def zsw (x:Guest)(v:Int):Bool:=bif win v 0 99 then (cond (ieq x.Exit.Kind 2) true (ieq x.Exit.Kind 3)) else false
def zxx (x:Guest)(v:Int):Guest:=zcb (stopped (cond (ieq x.Exit.Kind 2) {x with A:=v} x) zkZ)
def zxK (x:Guest):Bool:=bif ieq x.Exit.Kind 1 then true else ieq x.Exit.Kind 4
def zxL (x:Guest):Guest:=bif ieq x.Exit.Kind 1 then stopped x zkZ else held (stopped x zkZ)
def znu (x:Guest)(n:Int):Guest:={x with Pending:=zty x.Pending n}
def zIV (x:Guest)(c:Ctl):Guest:={x with Ctl:=c}
theorem zbaW {x:Guest}{n:Int}(h:zf7 x.Pending n=false):znu x n=x:=by unfold znu zty;rw[h];rfl
theorem z7P {x:Guest}(p:Int)(s:Slot)(h:SmG x):SmG (zA9 x p s):=⟨h.1,by simpa [zA9] using h.2.1,h.2.2.1,h.2.2.2⟩
theorem ztQ {x:Guest}(p:Int)(h:SmG x):SmG (zde x p):=⟨h.1,h.2.1,by simpa [zde] using h.2.2.1,h.2.2.2⟩
theorem z7N {x:Guest}(v:Int)(h:SmG x):SmG (zxx x v):=by unfold zxx;cases ieq x.Exit.Kind 2<;>exact zlp h
theorem z7O {x:Guest}(h:SmG x):SmG (zxL x):=by unfold zxL;cases ieq x.Exit.Kind 1;{exact zXf (g:=stopped x zkZ) h};{exact h}
theorem znZ {b:Bare}{g:Int}{c:Bool}{x:Guest}(h:SmB b)(a:SmG x):SmB (chg b g c x):=by unfold chg;cases (cond (zb7 b g) c false);{exact h};{exact znJ h a}
@[simp] abbrev zra (b:Bare)(g p:Int)(s:Slot):Bool:=pc (SmB b)
@[simp] abbrev zin (b:Bare)(g p:Int)(s:Slot):Bare:=chg b g (zs3 p s) (zA9 (gAt b g) p s)
@[simp] abbrev zkl (b:Bare)(g p:Int)(s:Slot):Bool:=zbS b g (zs3 p s)
def zsK:Run:=rF4 (dT .bare) dI dI (dT .slot) fun b c d e=>(zra b c d e,[aT .bare (zin b c d e),aB (zkl b c d e)])
def zHj (N:Nat)(f:Bare)(b c:Int)(d:Slot):OA:=
 let a:=(zcu f);let e:=(ix a.Guests b zD); (oN (zeV f) (oN (zi9 a b) (cond (nB (zkp a b)) (some [(aT .bare a),(aB false)]) (oN (zO c 0 3) (cond (nB (zS c 0 3)) (some [(aT .bare a),(aB false)]) (oN (ztH d 8) (cond (nB (zqB d 8)) (some [(aT .bare a),(aB false)]) (oN (inb b (ln a.Guests)) (oN (zpd e.Written c d) (oN (inb b (ln a.Guests)) (share (up a.Guests b ({e with Written:=(zl7 e.Written c d)}:Guest)) (fun g=>(some [(aT .bare ({a with Guests:=g}:Bare)),(aB true)])))))))))))))
theorem zS9 (b:Bare)(a c:Int)(d:Slot)(e:zra b a c d=true):∃N,zHj N b a c d=some [aT .bare (zin b a c d),aB (zkl b a c d)]:=by
 have f:=zL.1 e;have g:=zh8 a f;have k:zb7 b a=true->hasB a (ln b.Guests)=true:=fun h=>(zdF.1 h).2;have i:zb7 b a=true->gAt b a=ix b.Guests a zD:=fun h=>zuq (zdF.1 h).2;have j:=g.2.1;refine⟨0,?_⟩;unfold zHj oN nB;conv=>zeta
 refine mu (mu (brN (fun _=>?_) (fun _=>must rfl (brN (fun _=>?_) (fun _=>must rfl (brN (fun _=>?_) (fun _=>mu (mu (mu (shr ?_))))))))));all_goals first|rfl|(simp only [*,zin,zkl,chg,zbS,zs3,zA9,zdU,cT,cF]<;>rfl)|simp_all[Ty.cells,zin,zkl,chg,zbS,zs3,zA9,zdU]
theorem zv6:vN 75 zsK:=kF4 zif zA zB zn (zq []) zS9
@[simp] abbrev zsU (b:Bare)(g p:Int):Bool:=pc (SmB b)
@[simp] abbrev zeA (b:Bare)(g p:Int):Bare:=chg b g (hasB p 4) (zde (gAt b g) p)
@[simp] abbrev zhL (b:Bare)(g p:Int):Bool:=zbS b g (hasB p 4)
def zoI:Run:=rF3 (dT .bare) dI dI fun b c d=>(zsU b c d,[aT .bare (zeA b c d),aB (zhL b c d)])
def zBx (N:Nat)(f:Bare)(d b:Int):OA:=
 let a:=(zcu f);let e:=(inb d (ln a.Guests));let c:=(ix a.Guests d zD); (oN (zeV f) (oN (zi9 a d) (cond (nB (zkp a d)) (some [(aT .bare a),(aB false)]) (oN (zO b 0 3) (cond (nB (zS b 0 3)) (some [(aT .bare a),(aB false)]) (oN e (oN e (oN (zjC c.Written b) (oN (zpd c.Live b (zhp c.Written b)) (oN e (share (up a.Guests d ({c with Live:=(zl7 c.Live b (zhp c.Written b))}:Guest)) (fun g=>(some [(aT .bare ({a with Guests:=g}:Bare)),(aB true)])))))))))))))
theorem zM7 (b:Bare)(a c:Int)(d:zsU b a c=true):∃N,zBx N b a c=some [aT .bare (zeA b a c),aB (zhL b a c)]:=by
 have e:=zL.1 d;have f:=zh8 a e;have j:zb7 b a=true->hasB a (ln b.Guests)=true:=fun h=>(zdF.1 h).2;have g:zb7 b a=true->gAt b a=ix b.Guests a zD:=fun h=>zuq (zdF.1 h).2;have i:=f.2.2.1;refine⟨0,?_⟩;unfold zBx oN nB;conv=>zeta
 refine mu (mu (brN (fun _=>?_) (fun _=>must rfl (brN (fun _=>?_) (fun _=>mu (mu (must rfl (mu (mu (shr ?_))))))))));all_goals first|rfl|(simp only [*,zeA,zhL,chg,zbS,zde,zdU,cT,cF]<;>rfl)|simp_all[Ty.cells,zeA,zhL,chg,zbS,zde,zdU]
theorem zta:vN 107 zoI:=kF3 zif zA zB zn (zq []) zM7
@[simp] abbrev zsz (b:Bare)(g p:Int):Bool:=pc (SmB b)
@[simp] abbrev zft (b:Bare)(g p:Int):Bare:=chg b g (hasB p 4) (zde (gAt b g) p)
@[simp] abbrev zhG (b:Bare)(g p:Int):Bool:=zbS b g (hasB p 4)
def zoE:Run:=rF3 (dT .bare) dI dI fun b c d=>(zsz b c d,[aT .bare (zft b c d),aB (zhG b c d)])
def zBk (N:Nat)(a:Bare)(b c:Int):OA:=
 let e:=(aT .bare (ze8 a));let d:=(zmu a b);let f:=({d with Live:=(zoo d.Live c (zkR d.Written c))}:Guest); (oN (zdh c 4) (oN (zxE a b) (oN (ztq a) (cond (nB (ze4 a)) (oN (zhc a) (some [e,(aB false)])) (cond (nB (zmv a b)) (oN (zhc a) (some [e,(aB false)])) (cond (nB (zdG c 4)) (oN (zhc a) (some [e,(aB false)])) (oN (zon d.Written c) (oN (zuI d.Live c (zkR d.Written c)) (oN (cond (ieq a.Pending a.Pending) true false) (oN (ieq b b) (oN (zsC a b f) (some [(aT .bare (zmy a b f)),(aB true)]))))))))))))
theorem zMT (b:Bare)(a c:Int)(e:zsz b a c=true):∃N,zBk N b a c=some [aT .bare (zft b a c),aB (zhG b a c)]:=by
 have f:=zL.1 e;have d:=zh8 a f;have h:_/\_/\_/\_:=d;have g:=fun p=>ztQ (x:=gAt b a) p d;unfold zde at g;refine⟨0,?_⟩;unfold zBk oN nB;conv=>zeta
 refine must rfl (mu (must rfl (brN (fun _=>mu ?_) (fun _=>brN (fun _=>mu ?_) (fun _=>brN (fun _=>mu ?_) (fun _=>must rfl (mu (mu (mu (mu ?_))))))))));all_goals first|rfl|(simp only [*,zft,zhG,chg,zbS,zde,zb7,zso,cT,cF]<;>rfl)|simp_all[Ty.cells,zft,zhG,chg,zbS,zde,zb7,zso]
theorem zs8:vN 103 zoE:=kF3 zif zA zB zn (zq []) zMT
@[simp] abbrev zlR (b:Bare)(g v:Int):Bool:=pc (SmB b)
@[simp] abbrev zfI (b:Bare)(g v:Int):Bare:=chg b g (zsw (gAt b g) v) (zxx (gAt b g) v)
@[simp] abbrev zg0 (b:Bare)(g v:Int):Bool:=zbS b g (zsw (gAt b g) v)
def zny:Run:=rF3 (dT .bare) dI dI fun b c d=>(zlR b c d,[aT .bare (zfI b c d),aB (zg0 b c d)])
def zyd (N:Nat)(i:Bare)(b e:Int):OA:=
 let a:=(zcu i);let h:=(inb b (ln a.Guests));let d:=(⟨0,0,false,0⟩:GExit);let c:=(ix a.Guests b zD);let g:=({c with A:=e}:Guest); (oN (zeV i) (oN (zi9 a b) (cond (nB (zkp a b)) (some [(aT .bare a),(aB false)]) (oN (zO e 0 99) (cond (nB (zS e 0 99)) (some [(aT .bare a),(aB false)]) (oN h (cond (ieq c.Exit.Kind 2) (oN (zd8 g d) (oN (zd4 (zdH g d)) (oN h (share (up a.Guests b (zgh (zdH g d))) (fun f=>(some [(aT .bare ({a with Guests:=f}:Bare)),(aB true)])))))) (cond (ieq c.Exit.Kind 3) (oN (zd8 c d) (oN (zd4 (zdH c d)) (oN h (share (up a.Guests b (zgh (zdH c d))) (fun f=>(some [(aT .bare ({a with Guests:=f}:Bare)),(aB true)])))))) (some [(aT .bare a),(aB false)])))))))))
theorem zJ0 (b:Bare)(a c:Int)(d:zlR b a c=true):∃N,zyd N b a c=some [aT .bare (zfI b a c),aB (zg0 b a c)]:=by
 have e:=zL.1 d;have f:=zh8 a e;have j:zb7 b a=true->hasB a (ln b.Guests)=true:=fun h=>(zdF.1 h).2;have g:zb7 b a=true->gAt b a=ix b.Guests a zD:=fun h=>zuq (zdF.1 h).2;have i:_/\_/\_/\_:=f;refine⟨0,?_⟩;unfold zyd oN nB;conv=>zeta
 refine mu (mu (brN (fun _=>?_) (fun _=>must rfl (brN (fun _=>?_) (fun _=>mu (br (fun _=>mu (mu (mu (shr ?_)))) (fun _=>br (fun _=>mu (mu (mu (shr ?_)))) (fun _=>?_))))))));all_goals first|rfl|(simp only [*,zfI,zg0,chg,zbS,zsw,zxx,zkZ,zdU,SmG,stopped,cT,cF]<;>rfl)|simp_all[Ty.cells,zfI,zg0,chg,zbS,zsw,zxx,zkZ,zdU,SmG,stopped]
theorem zrZ:vN 82 zny:=kF3 zif zA zB zn (zq []) zJ0
@[simp] abbrev zlT (b:Bare)(g:Int):Bool:=pc (SmB b)
@[simp] abbrev zfK (b:Bare)(g:Int):Bare:=chg b g (zxK (gAt b g)) (zxL (gAt b g))
@[simp] abbrev zg2 (b:Bare)(g:Int):Bool:=zbS b g (zxK (gAt b g))
def znA:Run:=rF2 (dT .bare) dI fun b c=>(zlT b c,[aT .bare (zfK b c),aB (zg2 b c)])
def zyf (N:Nat)(g:Bare)(c:Int):OA:=
 let a:=(zcu g);let f:=(inb c (ln a.Guests));let d:=(⟨0,0,false,0⟩:GExit);let b:=(ix a.Guests c zD); (oN (zeV g) (oN (zi9 a c) (cond (nB (zkp a c)) (some [(aT .bare a),(aB false)]) (oN f (cond (ieq b.Exit.Kind 1) (oN (zd8 b d) (oN f (share (up a.Guests c (zdH b d)) (fun e=>(some [(aT .bare ({a with Guests:=e}:Bare)),(aB true)]))))) (cond (ieq b.Exit.Kind 4) (oN (zd8 b d) (oN (znB (zdH b d)) (oN f (share (up a.Guests c (zzw (zdH b d))) (fun e=>(some [(aT .bare ({a with Guests:=e}:Bare)),(aB true)])))))) (some [(aT .bare a),(aB false)])))))))
theorem zJ2 (b:Bare)(a:Int)(c:zlT b a=true):∃N,zyf N b a=some [aT .bare (zfK b a),aB (zg2 b a)]:=by
 have d:=zL.1 c;have e:=zh8 a d;have i:zb7 b a=true->hasB a (ln b.Guests)=true:=fun h=>(zdF.1 h).2;have f:zb7 b a=true->gAt b a=ix b.Guests a zD:=fun h=>zuq (zdF.1 h).2;have g:_/\_/\_/\_:=e;refine⟨0,?_⟩;unfold zyf oN nB;conv=>zeta
 refine mu (mu (brN (fun _=>?_) (fun _=>mu (br (fun _=>mu (mu (shr ?_))) (fun _=>br (fun _=>mu (mu (mu (shr ?_)))) (fun _=>?_))))));all_goals first|rfl|(simp only [*,zfK,zg2,chg,zbS,zxK,zxL,zkZ,zdU,SmG,stopped,cT,cF]<;>rfl)|simp_all[Ty.cells,zfK,zg2,chg,zbS,zxK,zxL,zkZ,zdU,SmG,stopped]
theorem zr1:vN 85 znA:=kF2 zif zA zB zn (zq []) zJ2
theorem zbbM {b:Bare}{g:Int}{c:Bool}{x:Guest}(h:zb7 b g=false):chg b g c x=b:=by unfold chg;rw[h];rfl
theorem zbag {b:Bare}{g n:Int}(h:zb7 b g=true):chg b g (zf7 (gAt b g).Pending n) (znu (gAt b g) n)=zdU b g (znu (gAt b g) n):=by unfold chg;rw[h];cases a:zf7 (gAt b g).Pending n;{rw [zbaW a,z5t (zdF.1 h).2];rfl};{rfl}
@[simp] abbrev zlS (b:Bare)(g n:Int):Bool:=pc (SmB b)
@[simp] abbrev zfJ (b:Bare)(g n:Int):Bare:=chg b g (zf7 (gAt b g).Pending n) (znu (gAt b g) n)
@[simp] abbrev zg1 (b:Bare)(g n:Int):Bool:=zbS b g (zf7 (gAt b g).Pending n)
def znz:Run:=rF3 (dT .bare) dI dI fun b c d=>(zlS b c d,[aT .bare (zfJ b c d),aB (zg1 b c d)])
def zye (N:Nat)(e:Bare)(b d:Int):OA:=
 let a:=(zcu e);let c:=(ix a.Guests b zD); (oN (zeV e) (oN (zi9 a b) (cond (nB (zkp a b)) (some [(aT .bare a),(aB false)]) (oN (inb b (ln a.Guests)) (oN (zkm c.Pending d) (oN (inb b (ln a.Guests)) (share (up a.Guests b ({c with Pending:=(zgK c.Pending d)}:Guest)) (fun f=>(some [(aT .bare ({a with Guests:=f}:Bare)),(aB (zmP c.Pending d))])))))))))
theorem zJ1 (a:Bare)(b c:Int)(d:zlS a b c=true):∃N,zye N a b c=some [aT .bare (zfJ a b c),aB (zg1 a b c)]:=by
 have i:=zL.1 d;have j:zb7 a b=true->hasB b (ln a.Guests)=true:=fun h=>(zdF.1 h).2;have f:zb7 a b=true->gAt a b=ix a.Guests b zD:=fun h=>zuq (zdF.1 h).2;have g:=@zbag a b c;have e:=@zbbM a b (zf7 (gAt a b).Pending c) (znu (gAt a b) c);refine⟨0,?_⟩;unfold zye oN nB;conv=>zeta
 refine mu (mu (brN (fun _=>?_) (fun _=>mu (must rfl (mu (shr ?_))))));all_goals first|rfl|(simp only [*,zfJ,zg1,zbS,zdU,znu,cT,cF]<;>rfl)|simp_all[Ty.cells,zfJ,zg1,zbS,zdU,znu]
theorem zr0:vN 89 znz:=kF3 zif zA zB zn (zq []) zJ1
@[simp] abbrev zq9 (b:Bare)(g:Int)(c:Ctl):Bool:=pc (SmB b)
@[simp] abbrev zim (b:Bare)(g:Int)(c:Ctl):Bare:=chg b g (zhv c) (zIV (gAt b g) c)
@[simp] abbrev zkk (b:Bare)(g:Int)(c:Ctl):Bool:=zbS b g (zhv c)
def zsJ:Run:=rF3 (dT .bare) dI dC fun b c d=>(zq9 b c d,[aT .bare (zim b c d),aB (zkk b c d)])
def zHi (N:Nat)(d:Bare)(b:Int)(c:Ctl):OA:=
 let a:=(zcu d); (oN (zeV d) (oN (zi9 a b) (cond (nB (zkp a b)) (some [(aT .bare a),(aB false)]) (oN (zse c) (cond (nB (zqx c)) (some [(aT .bare a),(aB false)]) (oN (inb b (ln a.Guests)) (share (up a.Guests b ({ (ix a.Guests b zD) with Ctl:=c}:Guest)) (fun e=>(some [(aT .bare ({a with Guests:=e}:Bare)),(aB true)])))))))))
theorem zS8 (a:Bare)(b:Int)(c:Ctl)(d:zq9 a b c=true):∃N,zHi N a b c=some [aT .bare (zim a b c),aB (zkk a b c)]:=by
 have f:=zL.1 d;have g:zb7 a b=true->hasB b (ln a.Guests)=true:=fun h=>(zdF.1 h).2;have e:zb7 a b=true->gAt a b=ix a.Guests b zD:=fun h=>zuq (zdF.1 h).2;refine⟨0,?_⟩;unfold zHi oN nB;conv=>zeta
 refine mu (mu (brN (fun _=>?_) (fun _=>must rfl (brN (fun _=>?_) (fun _=>mu (shr ?_))))));all_goals first|rfl|(simp only [*,zim,zkk,chg,zbS,zIV,zdU,cT,cF]<;>rfl)|simp_all[Ty.cells,zim,zkk,chg,zbS,zIV,zdU]
theorem zv5:vN 93 zsJ:=kF3 zif zA zB zn (zq []) zS8
def zNz (p c v:Int):Bool:=bif hasB p 8 then (cond (hasB c 4) (win v 0 99) false) else false
def ziO (b:Bare)(p c v:Int):Bool:=bif zbQ b then zNz p c v else false
def zm8 (b:Bare)(p c v:Int):Bare:=bif ziO b p c v then {b with Memory:=zbC b.Memory p c v} else b
def zmi (b:Bare):Bare:=bif zbQ b then {b with Pending:=zkd b.Pending} else b
def zsv (b:Bare):Int:=bif zbQ b then zuM b.Pending else -1
def zls (b:Bare):Bool:=bif zbQ b then !ilt (zdO b.Pending) 0 else false
def zoc (b:Bare)(g a n:Int):Bool:=bif zb7 b g then (cond (win a 0 15) (zfn (gAt b g).Live (zbj a) n) false) else false
def zFQ (b:Bare)(g a n:Int):Int:=zcE (gAt b g).Live (zbj a) n
def zAd (b:Bare)(g a v:Int):Bool:=bif zoc b g a 2 then win v 0 99 else false
def z09 (b:Bare)(g a v:Int):Bare:=bif zAd b g a v then {b with Memory:=zbC b.Memory (zFQ b g a 2) (zdf a) v} else b
def zUc (b:Bare)(g a:Int):Int:=bif zoc b g a 1 then cellAt b.Memory (zFQ b g a 1) (zdf a) else 0
@[simp] abbrev zq8 (b:Bare):Bool:=pc (SmB b)
@[simp] abbrev zil (b:Bare):Bare:=zmi b
@[simp] abbrev zki (b:Bare):Int:=zsv b
@[simp] abbrev zkj (b:Bare):Bool:=zls b
def zsI:Run:=rF1 (dT .bare) fun b=>(zq8 b,[aT .bare (zil b),aI (zki b),aB (zkj b)])
def zHh (N:Nat)(b:Bare):OA:=
 let a:=(zcu b); (oN (zeV b) (oN (zoW a) (cond (nB (zeF a)) (some [(aT .bare a),(aI (-1)),(aB false)]) (oN (zru a.Pending) (some [(aT .bare ({a with Pending:=(zkn a.Pending)}:Bare)),(aI (zko a.Pending)),(aB (zmR a.Pending))])))))
theorem zS7 (a:Bare)(b:zq8 a=true):∃N,zHh N a=some [aT .bare (zil a),aI (zki a),aB (zkj a)]:=by
 have c:=zL.1 b;refine⟨0,?_⟩;unfold zHh oN nB;conv=>zeta
 refine mu (must rfl (brN (fun _=>?_) (fun _=>must rfl ?_)));all_goals first|rfl|(simp only [*,zil,zki,zkj,zmi,zsv,zls,zkd,zuM,cT,cF]<;>rfl)|simp_all[Ty.cells,zil,zki,zkj,zmi,zsv,zls,zkd,zuM]
theorem zv4:vN 140 zsI:=kF1 zif zA zB zn (zq []) zS7
@[simp] abbrev zuE (b:Bare)(p c v:Int):Bool:=pc (SmB b)
@[simp] abbrev zf3 (b:Bare)(p c v:Int):Bare:=zm8 b p c v
@[simp] abbrev ziF (b:Bare)(p c v:Int):Bool:=ziO b p c v
def zqj:Run:=rF4 (dT .bare) dI dI dI fun b c d e=>(zuE b c d e,[aT .bare (zf3 b c d e),aB (ziF b c d e)])
def zCR (N:Nat)(a:Bare)(b c d:Int):OA:=
 let e:=(aT .bare (ze8 a)); (oN (zhc a) (oN (ztq a) (cond (nB (ze4 a)) (some [e,(aB false)]) (oN (zdh b 8) (cond (nB (zdG b 8)) (some [e,(aB false)]) (oN (zdh c 4) (cond (nB (zdG c 4)) (some [e,(aB false)]) (oN (zb0 d 0 99) (cond (nB (zcp d 0 99)) (some [e,(aB false)]) (oN (zkT a.Memory b c d) (some [(aT .bare ({ (ze8 a) with Memory:=(zjq a.Memory b c d)}:Bare)),(aB true)])))))))))))
theorem zPI (a:Bare)(b c d:Int)(e:zuE a b c d=true):∃N,zCR N a b c d=some [aT .bare (zf3 a b c d),aB (ziF a b c d)]:=by
 have f:=zL.1 e;have g:_/\_/\_:=f;refine⟨0,?_⟩;unfold zCR oN nB;conv=>zeta
 refine mu (must rfl (brN (fun _=>?_) (fun _=>must rfl (brN (fun _=>?_) (fun _=>must rfl (brN (fun _=>?_) (fun _=>must rfl (brN (fun _=>?_) (fun _=>mu ?_)))))))));all_goals first|rfl|(simp only [*,zf3,ziF,zm8,ziO,zNz,cT,cF]<;>rfl)|simp_all[Ty.cells,zf3,ziF,zm8,ziO,zNz]
theorem zuu:vN 111 zqj:=kF4 zif zA zB zn (zq []) zPI
def z9o:zba:=z9n
theorem zUS:zK z9o:=zif
def zd2 (l:List Guest)(n:Int):List Int:=idxs (fun (x:Guest)=>posts x.Ctl n) l 0
theorem zVn {d:Type}(p:d->Bool):∀(l:List d) (i:Nat),∀k∈idxs p l i,(i:Int)<=k/\k<(i:Int)+l.length
 |[],_,k,a=>by cases a
 |x::l,i,k,a=>by have c:=zVn p l (i+1);simp only[q0];unfold idxs at a;cases b:p x;{rw [b]at a;have:=c k a;omega};{rw [b]at a;rcases qG.1 a with rfl|a;{omega};{have:=c k a;omega}}
@[simp] abbrev zvj (b:Bare)(n:Int):Bool:=pc (SmB b)
@[simp] abbrev zl4 (b:Bare)(n:Int):List Int:=zd2 b.Guests n
def zzl:Run:=rF2 (dT .bare) dI fun b c=>(zvj b c,[aS .int (zl4 b c)])
def zDi (N:Nat)(c:Bare)(f:Int):OA:=
 (iter (σ:=(Int×(Int×(Int×((List Int)×(lM×(lG×((List Int)×Unit)))))))) N (fun d a=>let b:=a.2.2.2.2.2.1;let e:=(ix b a.2.1 zD).Ctl; (cond (ilt a.2.1 (ln b)) (oN (inb a.2.1 (ln b)) (oN (zFm e a.1) (cond (zzy e a.1) (oN (few (ln (ap a.2.2.2.1 [a.2.1]))) (d (a.1,((zM .i64 a.2.1 1),(a.2.2.1,((ap a.2.2.2.1 [a.2.1]),(a.2.2.2.2.1,(b,(a.2.2.2.2.2.2.1,()))))))))) (d (a.1,((zM .i64 a.2.1 1),(a.2.2.1,(a.2.2.2.1,(a.2.2.2.2.1,(b,(a.2.2.2.2.2.2.1,()))))))))))) (some [(aS .int a.2.2.2.1)]))) (f,(0,(c.Pending,([],(c.Memory,(c.Guests,(c.Outs,()))))))))
def zQX:FuncId->Nat->Option Tmpl:=zq [(237,0,{n:=28,tm:=[(1,ti),(2,.lp 0 0),(5,.sl 0 []),(6,ti)],lo:=[(0,[.sl 1 [],.sl 2 [],.sl 3 [],ti])],ro:=[(0,.int,true),(1,(.sl .int),false),(2,.guest,false),(3,.int,false)]})]
theorem zP9 (a:Bare)(b:Int)(g:zvj a b=true):∃N,zDi N a b=some [aS .int (zl4 a b)]:=by
 have h:=zL.1 g;have e:=zc3 h.2.1.1;refine zcz fun N d=>?_;unfold zDi oN;conv=>zeta
 refine(zbo a.Guests (fun i (t:(List Int))=>(b,(i:Int),a.Pending,t,a.Memory,a.Guests,a.Outs,())) _ (fun i (x:Guest) (t:List Int) f=>bif posts x.Ctl b then (cond (few (ln (ap t [(i:Int)]))) (f (ap t [(i:Int)])) none) else f t) (fun (t:(List Int))=>(some [(.one (.s .int t))])) (fun i c t rec=>?_) (fun t rec=>?_) _ ([]) (d e.1)).trans ?_;{simp only [zbD c,zbf c,zbp c,zbi c e.1,cT]};{simp only [zbt,cF]};exact zus (fun (x:Guest)=>posts x.Ctl b) _ a.Guests 0 [] (by simpa using e.2)
theorem zJz:vN 237 zzl:=kF2 zUS zA zB zn zQX zP9
def z9p:zba:=[(237,zzl)]++z9o
theorem zUT:zK z9p:=zh zJz zUS
def zF9 (n:Int)(l:List Guest)(k:Int):List Guest:=up l k (znu (ix l k zD) n)
def zlO (n:Int)(a:List Int)(l:List Guest):List Guest:=a.foldl (zF9 n) l
theorem zEr (n:Int)(l:List Guest)(k:Int):(zF9 n l k).length=l.length:=zgy _ _ _
theorem z2H {n:Int}{l:List Guest}{k:Int}(a:hasB k (ln l)=true)(h:zkC l):zkC (zF9 n l k):=zGf h (zXg h a _)
theorem zFw {n:Int}:∀(a:List Int) {l:List Guest},(∀k∈a,hasB k (ln l)=true)->zkC l->zkC (zlO n a l)/\(zlO n a l).length=l.length
 |[],_,_,h=>⟨h,rfl⟩
 |k::a,l,b,h=>by have e:=z2H (n:=n) (b k (by simp)) h;obtain⟨c,d⟩:=zFw (n:=n) a (l:=zF9 n l k) (fun j f=>by rw[ln,zEr];exact b j (by simp[f])) e;exact⟨c,d.trans (zEr _ _ _)⟩
theorem zVa {e:Type}(n:Int)(K:List Guest->Option e):∀(a:List Int) (i:Nat) (l:List Guest),(∀k∈a,hasB k (ln l)=true)->
 goL (fun _ k (t:List Guest) d=>bif inb k (ln t) then (cond (inb k (ln t)) (d (up t k (znu (ix t k zD) n))) none) else none) K a i l=K (zlO n a l)
 |[],_,_,_=>rfl
 |k::a,i,l,h=>by have c:inb k (ln l)=true:=h k (by simp);simp only[goL,c,cT];exact zVa n K a (i+1) (zF9 n l k) (fun j b=>by rw[ln,zEr];exact h j (by simp[b]))
def zGa (b:Bare)(n:Int):Bare:=bif ieq (ln (zd2 b.Guests n)) 0 then {b with Pending:=zty b.Pending n} else {b with Guests:=zlO n (zd2 b.Guests n) b.Guests}
def zeN (b:Bare)(n:Int):Bool:=bif zbQ b then hasB n 8 else false
def zjy (b:Bare)(n:Int):Bare:=bif zeN b n then zGa b n else b
theorem zNB {b:Bare}{n:Int}:∀k∈zd2 b.Guests n,hasB k (ln b.Guests)=true:=fun k a=>by have:=zVn _ _ _ k a;exact qJ (by simp only[ln];omega)
theorem z1Z {b:Bare}{n:Int}(h:ieq (ln (zd2 b.Guests n)) 0=true):zlO n (zd2 b.Guests n) b.Guests=b.Guests:=by have a:((zd2 b.Guests n).length:Int)=0:=qE h;have:zd2 b.Guests n=[]:=uS.1 (by omega);rw[this];rfl
theorem z1Y {b:Bare}{n:Int}:(cond (ieq (ln (zd2 b.Guests n)) 0) (some [AV.agg (Ty.cells .bare ⟨b.Memory,zlO n (zd2 b.Guests n) b.Guests,b.Outs,zty b.Pending n⟩),AV.one (.b true)]) (some [AV.agg (Ty.cells .bare ⟨b.Memory,zlO n (zd2 b.Guests n) b.Guests,b.Outs,b.Pending⟩),AV.one (.b true)]))=some [AV.agg (Ty.cells .bare (zGa b n)),AV.one (.b true)]:=by unfold zGa;cases h:ieq (ln (zd2 b.Guests n)) 0;{rfl};{simp only [cT,z1Z h]}
@[simp] abbrev zoX (b:Bare)(n:Int):Bool:=pc (SmB b)
@[simp] abbrev ziQ (b:Bare)(n:Int):Bare:=zjy b n
@[simp] abbrev zk8 (b:Bare)(n:Int):Bool:=zeN b n
def zqn:Run:=rF2 (dT .bare) dI fun b c=>(zoX b c,[aT .bare (ziQ b c),aB (zk8 b c)])
def zDa (N:Nat)(i:Bare)(e:Int):OA:=
 let b:=(zcu i); (oN (zeV i) (oN (zoW b) (cond (nB (zeF b)) (some [(aT .bare b),(aB false)]) (oN (zO e 0 7) (cond (nB (zS e 0 7)) (some [(aT .bare b),(aB false)]) (oN (zvj b e) (iter (σ:=(Int×(Int×(Int×(Int×((List Int)×(lM×(lG×((List Int)×(lM×(lG×((List Int)×Unit)))))))))))) N (fun j a=>let h:=a.2.2.2.2.2.2.2.1;let d:=a.2.2.2.2.1;let c:=a.2.2.2.2.2.2.1;let f:=(ix d a.2.1 0);let g:=(ix c f zD); (cond (ilt a.2.1 (ln d)) (oN (inb a.2.1 (ln d)) (oN (inb a.2.1 (ln d)) (oN (inb f (ln c)) (oN (zkm g.Pending a.1) (oN (inb f (ln c)) (j (a.1,((zM .i64 a.2.1 1),(a.2.2.1,(a.2.2.2.1,(d,(a.2.2.2.2.2.1,((up c f ({g with Pending:=(zgK g.Pending a.1)}:Guest)),(h,(a.2.2.2.2.2.2.2.2.1,(a.2.2.2.2.2.2.2.2.2.1,(a.2.2.2.2.2.2.2.2.2.2.1,()))))))))))))))))) (cond (ieq (ln d) 0) (oN (zkm a.2.2.1 a.1) (some [(aT .bare (⟨a.2.2.2.2.2.1,c,h,(zgK a.2.2.1 a.1)⟩:Bare)),(aB true)])) (some [(aT .bare (⟨a.2.2.2.2.2.1,c,h,a.2.2.1⟩:Bare)),(aB true)])))) (e,(0,(b.Pending,(0,((zl4 b e),(b.Memory,(b.Guests,(b.Outs,([],([],([],()))))))))))))))))))
def zQU:FuncId->Nat->Option Tmpl:=zq [(136,0,{n:=62,tm:=[(1,ti),(2,.lp 0 0),(4,.lp 1 0),(6,.sl 0 []),(7,ti)],lo:=[(0,[.sl 1 [],.sl 2 [],.sl 3 [],ti]),(1,[.sl 4 [],.sl 5 [],.sl 6 [],ti])],ro:=[(0,.int,true),(1,(.sl .int),true),(2,.guest,true),(3,.int,true),(4,(.sl .int),true),(5,.guest,true),(6,.int,true)]})]
theorem zP1 (a:Bare)(c:Int)(l:zoX a c=true):∃N,zDa N a c=some [aT .bare (ziQ a c),aB (zk8 a c)]:=by
 have h:=zL.1 l;have j:(zd2 a.Guests c).length<=big:=qU (zAy _ _ _) (zc3 h.2.1.1).1;refine zcz fun N g=>?_;unfold zDa ziQ zk8 zjy zeN oN nB;conv=>zeta
 refine must (zbh h) (must rfl (brN (fun e=>?_) (fun e=>must rfl (brN (fun d=>?_) (fun d=>must (zbh h) ?_)))));{simp only [show zbQ a=false from e,cF]};{simp only [show zbQ a=true from e,show hasB c 8=false from by first|exact d|exact(z5O c).symm.trans d,cT,cF]};simp only[show zbQ a=true from e,show hasB c 8=true from by first|exact d|exact(z5O c).symm.trans d,cT];refine(zbo (zl4 (zcu a) c) (fun i (t:lG)=>(c,(i:Int),(zcu a).Pending,0,(zl4 (zcu a) c),(zcu a).Memory,t,(zcu a).Outs,[],[],[],())) _ (fun _ k (t:List Guest) m=>bif inb k (ln t) then (cond (inb k (ln t)) (m (up t k (znu (ix t k zD) c))) none) else none) (fun (t:lG)=>(cond (ieq (ln (zl4 (zcu a) c)) 0) (cond (zkm (zcu a).Pending c) (some [(.agg (Ty.cells .bare (⟨(zcu a).Memory,t,(zcu a).Outs,(zgK (zcu a).Pending c)⟩:Bare))),(.one (.b true))]) none) (some [(.agg (Ty.cells .bare (⟨(zcu a).Memory,t,(zcu a).Outs,(zcu a).Pending⟩:Bare))),(.one (.b true))]))) (fun i f t rec=>?_) (fun t rec=>?_) _ ((zcu a).Guests) (g j)).trans ?_;{simp only [zbD f,zbf f,zbp f,zbi f j,cT];rfl};{simp only [zbt,cF];rfl};exact(zVa c _ _ 0 _ zNB).trans z1Y
theorem zuy:vN 136 zqn:=kF2 zUT zA zB zn zQU zP1
def z3g:zba:=[(75,zsK),(107,zoI),(103,zoE),(82,zny),(85,znA),(89,znz),(93,zsJ),(111,zqj),(140,zsI),(136,zqn)]++z9p
theorem zDE:zK z3g:=zh zv6 (zh zta (zh zs8 (zh zrZ (zh zr1 (zh zr0 (zh zv5 (zh zuu (zh zv4 (zh zuy zUT)))))))))
theorem z5G {n:Int}(h:(ieq n 4||ieq n 8)=true):n=4\/n=8:=by rcases jV _ _ ▸ h with h|h;{exact .inl (qE h)};{exact .inr (qE h)}
theorem z4B {n:Int}(h:(ieq n 8||ieq n 12)=true):n=8\/n=12:=by rcases jV _ _ ▸ h with h|h;{exact .inl (qE h)};{exact .inr (qE h)}
@[simp] abbrev ziU (n:Int):Bool:=ieq n 4||ieq n 8
@[simp] abbrev zgE (n:Int):List Slot:=List.replicate n.toNat ⟨-1,0⟩
def zqs:Run:=rF1 dI fun b=>(ziU b,[aS .slot (zgE b)])
def zUn (N:Nat)(b:Int):OA:=
 (oN (zrb b 0 24) (iter (σ:=(Int×(lS×Unit))) N (fun c a=>(cond (igt a.1 0) (oN zcx (oN (few (ln (ap a.2.1 [zbw]))) (c ((wsub .i64 a.1 1),((ap a.2.1 [zbw]),()))))) (some [(aS .slot a.2.1)]))) ((zsd b 0 24),([],()))))
def zQY:FuncId->Nat->Option Tmpl:=zq [(194,0,{n:=17,tm:=[(3,.sl 0 []),(4,ti)],lo:=[],ro:=[(0,.slot,true)]})]
theorem zQd (a:Int)(b:ziU a=true):∃N,zUn N a=some [aS .slot (zgE a)]:=by refine⟨30,?_⟩;have h:a=4\/a=8:=z5G b;rcases h with rfl|rfl<;>(change _=_;kernel_rfl)
theorem zuC:vN 194 zqs:=kF1 zDE zA zB zn zQY zQd
@[simp] abbrev zo9 (n:Int):Bool:=ieq n 8||ieq n 12
@[simp] abbrev zjA (n:Int):List (List Int):=List.replicate n.toNat [0,0,0,0]
def zu8:Run:=rF1 dI fun b=>(zo9 b,[aS (.sl .int) (zjA b)])
def z0B (N:Nat)(b:Int):OA:=
 (oN (zrb b 0 24) (iter (σ:=(Int×(lM×Unit))) N (fun c a=>(cond (igt a.1 0) (oN (cond (few 4) (ieq 4 4) false) (oN (few (ln (ap a.2.1 [(rp 4 0)]))) (c ((wsub .i64 a.1 1),((ap a.2.1 [(rp 4 0)]),()))))) (some [(aS (.sl .int) a.2.1)]))) ((zsd b 0 24),([],()))))
def zXF:FuncId->Nat->Option Tmpl:=zq [(94,0,{n:=17,tm:=[(3,.sl 0 []),(4,ti)],lo:=[],ro:=[(0,(.sl .int),true)]})]
theorem zVU (a:Int)(b:zo9 a=true):∃N,z0B N a=some [aS (.sl .int) (zjA a)]:=by refine⟨30,?_⟩;have h:a=8\/a=12:=z4B b;rcases h with rfl|rfl<;>(change _=_;kernel_rfl)
theorem zyz:vN 94 zu8:=kF1 zDE zA zB zn zXF zVU
def z3h:zba:=[(194,zqs),(94,zu8)]++z3g
theorem zRE:zK z3h:=zh zuC (zh zyz zDE)
def zlo:List Slot:=List.replicate 4 ⟨-1,0⟩
def zeD (p:List Ins):Guest:=⟨p,0,0,zlo,zlo,⟨0,0,false⟩,0,⟨0,0,false,0⟩,false,[]⟩
@[simp] abbrev ziR (p:List Ins):Bool:=pc (p.length<=1048576)
@[simp] abbrev zco (p:List Ins):Guest:=zeD p
def zlQ:Run:=rF1 (dS .ins) fun b=>(ziR b,[aT .guest (zco b)])
def zDd (N:Nat)(a:lI):OA:=
 (oN (few (ln (ap [] a))) (oN (ziU 4) (oN (ziU 4) (some [(aT .guest (⟨(ap [] a),0,0,(zgE 4),(zgE 4),⟨0,0,false⟩,0,⟨0,0,false,0⟩,false,[]⟩:Guest))]))))
theorem zP4 (a:List Ins)(b:ziR a=true):∃N,zDd N a=some [aT .guest (zco a)]:=by have c:=zL.1 b;refine⟨0,?_⟩;unfold zDd oN;refine mu (must rfl (must rfl ?_));first|rfl|(simp only [*,zco,zeD,zlo,cT,cF]<;>rfl)|simp_all[Ty.cells,zco,zeD,zlo]
theorem zno:vN 195 zlQ:=kF1 zRE zA zB zn (zq []) zP4
def zbbY:zba:=[(195,zlQ)]++z3h
theorem zDF:zK zbbY:=zh zno zRE
def zQu:List (List Int):=List.replicate 8 [0,0,0,0]
def SmPs (a:List (List Ins)):Prop:=a.length<=1048576/\∀p∈a,p.length<=1048576
theorem zR5 {d c j:Type}(m:Nat)(f:d->c)(K:List c->Option j):∀(l:List d) (i:Nat) (a:List c),a.length+l.length<=2147483648->
 goL (fun (i:Nat) x a k=>bif ilt (i:Int) (m:Int) then (cond (few (ln (ap a [f x]))) (k (ap a [f x])) none) else K a) K l i a=K (a++(l.take (m-i)).map f)
 |[],i,a,_=>by simp[goL]
 |x::l,i,a,g=>by simp only[q0]at g;have e:few (ln (ap a [f x]))=true:=zg8 (by simp[ap];omega);by_cases h:i<m;{have b:ilt (i:Int) (m:Int)=true:=qJ (by omega);simp only[goL,b,e,cT];rw[zR5 m f K l (i+1) (ap a [f x]) (by simp[ap];omega)];rw[show m-i=m-(i+1)+1 by omega];simp[ap]};{have b:ilt (i:Int) (m:Int)=false:=qH (by omega);simp only[goL,b,cF];rw[show m-i=0 by omega];simp}
@[simp] abbrev zFf (a:GAct):Bool:=true
@[simp] abbrev zzu (a:GAct):Bool:=win a.Kind 1 17
def zIe:Run:=rF1 (dT .act) fun b=>(zFf b,[aB (zzu b)])
def zRf (N:Nat)(a:GAct):OA:=
 (oN (zO a.Kind 1 17) (some [(aB (zS a.Kind 1 17))]))
theorem zYz (a:GAct)(b:zFf a=true):∃N,zRf N a=some [aB (zzu a)]:=by refine⟨0,?_⟩;unfold zRf oN;refine must rfl ?_;first|rfl|(simp only [*,zzu,cT,cF]<;>rfl)|simp_all[Ty.cells,zzu]
theorem zSH:vN 323 zIe:=kF1 zDF zA zB zn (zq []) zYz
@[simp] abbrev zxT (k:Int):Bool:=true
@[simp] abbrev zsf (k:Int):Bool:=win k 13 17
def zB9:Run:=rF1 dI fun b=>(zxT b,[aB (zsf b)])
def zHt (N:Nat)(a:Int):OA:=
 (oN (zO a 13 17) (some [(aB (zS a 13 17))]))
theorem zTj (a:Int)(b:zxT a=true):∃N,zHt N a=some [aB (zsf a)]:=by refine⟨0,?_⟩;unfold zHt oN;refine must rfl ?_;first|rfl|(simp only [*,zsf,cT,cF]<;>rfl)|simp_all[Ty.cells,zsf]
theorem zMj:vN 324 zB9:=kF1 zDF zA zB zn (zq []) zTj
@[simp] abbrev zFg (a:GAct):Bool:=true
@[simp] abbrev zqw (a:GAct):Ctl:=⟨a.X,a.Y,ieq a.Z 1⟩
def zIf:Run:=rF1 (dT .act) fun b=>(zFg b,[.agg (zob (zqw b))])
def zRg (N:Nat)(a:GAct):OA:=
 (some [(.agg [(.i .i64 a.X),(.i .i64 a.Y),(.b (ieq a.Z 1))])])
theorem zYA (a:GAct)(b:zFg a=true):∃N,zRg N a=some [.agg (zob (zqw a))]:=by refine⟨0,?_⟩;unfold zRg;first|rfl|(simp only [*,zqw,cT,cF]<;>rfl)|simp_all[Ty.cells,zqw]
theorem zSI:vN 327 zIf:=kF1 zDF zA zB zn (zq []) zYA
def zUM:zba:=[(75,zsK),(107,zoI),(103,zoE),(82,zny),(85,znA),(89,znz),(93,zsJ),(111,zqj),(140,zsI),(136,zqn),(94,zu8)]++z9l
theorem zDH:zK zUM:=zh zv6 (zh zta (zh zs8 (zh zrZ (zh zr1 (zh zr0 (zh zv5 (zh zuu (zh zv4 (zh zuy (zh zyz z6J))))))))))
def zcV (x:Mon):Bare:=⟨zQu,x.Guests,x.Outs,x.Pending⟩
def zqT (x:Mon)(b:Bare):Mon:={x with Guests:=b.Guests,Pending:=b.Pending}
def zcG (h:Host)(m:Int)(b:Bare):Host:={h with Mons:=up h.Mons m (zqT (ix h.Mons m mZ) b)}
@[simp] abbrev zev (x:Mon):Bool:=pc (zeZ x)
@[simp] abbrev zbN (x:Mon):Bare:=zcV x
def zCo:Run:=rF1 (dT .mon) fun b=>(zev b,[aT .bare (zbN b)])
def zHI (N:Nat)(a:Mon):OA:=
 (oN (zo9 8) (oN (zfz a.Guests) (oN (few (ln (ap [] a.Outs))) (some [(aT .bare (⟨(zjA 8),(zfY a.Guests),(ap [] a.Outs),a.Pending⟩:Bare))]))))
theorem zTD (a:Mon)(c:zev a=true):∃N,zHI N a=some [aT .bare (zbN a)]:=by have b:=zL.1 c;refine⟨0,?_⟩;unfold zHI oN;exact must rfl (must (zbh ((zvR _).2 b.2.2.2.1)) (must (znN b.2.2.2.2.1) rfl))
theorem zMM:vN 76 zCo:=kF1 zDH zA zb9 zi4 (zq []) zTD
@[simp] abbrev zeu (h:Host)(m:Int)(b:Bare):Bool:=pc (hasB m (ln h.Mons)=true/\zkC b.Guests)
@[simp] abbrev zgR (h:Host)(m:Int)(b:Bare):Host:=zcG h m b
theorem zXT {l:List Mon}{m:Int}(a:hasB m (ln l)=true)(b:Bare):inb m (ln (up l m {ix l m mZ with Guests:=b.Guests}))=true/\
 up (up l m {ix l m mZ with Guests:=b.Guests}) m {ix (up l m {ix l m mZ with Guests:=b.Guests}) m mZ with Pending:=b.Pending}=up l m (zqT (ix l m mZ) b):=by
 obtain⟨k,rfl,c⟩:=zdJ (n:=l.length) a;refine⟨zG (by rw[ln,zgy];exact a),?_⟩
 rw[zxi,zdP c];rfl
def zsS:List AV->Option (Bool×List AV)
 |[.agg [.s (.sl .int) b,.s .mon c,.s .entry d,.s .entry e],.one (.i .i64 f),.agg [.s (.sl .int) g,.s .guest h,.s .int j,.i .i64 k]]=>some ((zeu (⟨b,c,d,e⟩:Host) f (⟨g,h,j,k⟩:Bare)),[aH (zgR (⟨b,c,d,e⟩:Host) f (⟨g,h,j,k⟩:Bare))])
 |_=>none
def zxv (N:Nat)(b:Host)(a:Int)(c:Bare):OA:=
 (oN (zfz c.Guests) (oN (inb a (ln b.Mons)) (share (up b.Mons a ({ (ix b.Mons a zi) with Guests:=(zfY c.Guests)}:Mon)) (fun d=>(oN (inb a (ln d)) (share (up d a ({ (ix d a zi) with Pending:=c.Pending}:Mon)) (fun e=>(some [(aH ({b with Mons:=e}:Host))]))))))))
theorem zWs (N:Nat)(a:Host)(b:Int)(c:Bare):z1b (cQ zUM zp8 z1X z8a) (zq []) N 12 77 [true,true,true,true,false,false,false,false,false] [aH a,aI b,aT .bare c]=zxv N a b c:=by kernel_rfl
theorem zTC (b:Host)(c:Int)(a:Bare)(i:zce big [aH b,aI c,aT .bare a])(h:zeu b c a=true):∃N,zxv N b c a=some [aH (zgR b c a)]:=by obtain⟨d,hg⟩:=zL.1 h;obtain⟨f,g⟩:=zXT d a;refine⟨0,?_⟩;unfold zxv oN;refine must (zbh ((zvR _).2 hg)) (must (zG d) (shr (must f (shr ?_))));have e:zfY a.Guests=a.Guests:=rfl;rw[e];show some [AV.agg (zbk {b with Mons:=_})]=some [AV.agg (zbk {b with Mons:=_})];rw[show zi=mZ from rfl,g]
theorem zML:zdZ Tryz.prog 77 [true,true,true,true,false,false,false,false,false] none zsS:=by refine zOK (zge zDH zA zb9 zi4) (zjj (by kernel_rfl)) (by kernel_rfl) ?_;intro a g f e h;have c:=ziA e;unfold zsS at h;split at h;{obtain⟨d,rfl⟩:=zd5 h;obtain⟨N,b⟩:=zTC _ _ _ (by exact c) d;exact⟨_,N,12,(zWs N _ _ _ ).trans b⟩};{cases h}
def z3n:zba:=[(76,zCo)]++zUM
theorem zi5:zK z3n:=zh zMM zDH
def zbc4:zfA:=[(77,([true,true,true,true,false,false,false,false,false],none,zsS))]++z8a
theorem zcZ:zeg zbc4:=zqK zi4 (by
 intro x a;simp only[qG,qN,or_false]at a;rcases a with rfl
 .exact zML)
def z92 (h:Host)(m:Int)(a:Bool)(B:Bare)(b c:Host->Ans):OA:=
 bif zbU h then (cond (zfm h m) (cond (cond (zfl h m) false true) (some (b h)) (cond (inb m (ln h.Mons)) (cond (zev (ix h.Mons m mZ)) (cond a (cond (zeu h m B) (some (c (zcG h m B))) none) none) none) none)) none) else none
theorem zcn {h:Host}{m:Int}:(zcr h m=true)↔zbW h=true/\hasB m (ln h.Mons)=true:=by unfold zcr;cases zbW h<;>simp
theorem znM {h:Host}{m:Int}{cB:Bool}{B:Bare}{o0 o1:Host->Ans}(c:SmH h)(e:zcr h m=true->cB=true)(d:zcr h m=true->SmB B):z92 h m cB B o0 o1=some (cond (zcr h m) (o1 (zcG h m B)) (o0 h)):=by unfold z92;refine must (zbh ((zT h).2 c)) (must rfl ?_);rw[show zfl h m=zcr h m from rfl];cases a:zcr h m;{rfl};{have b:=(zcn.1 a).2;exact zdy rfl (must (zG b) (must (zbh (c.2.1.2 _ (zbu b _))) (must (e a) (must (zbh ⟨b,(d a).2.1⟩) rfl))))}
structure SameB (b c:Bare):Prop where
 g:b.Guests=c.Guests
 p:b.Pending=c.Pending
 o:zbQ b=zbQ c
theorem SameB.at {b c:Bare}(h:SameB b c)(g:Int):gAt b g=gAt c g:=by unfold gAt;rw[h.g]
theorem SameB.has {b c:Bare}(h:SameB b c)(g:Int):zb7 b g=zb7 c g:=by unfold zb7;rw[h.g,h.o]
theorem back_eq {h:Host}{m:Int}{b c:Bare}(hg:b.Guests=c.Guests)(a:b.Pending=c.Pending):zcG h m b=zcG h m c:=by unfold zcG zqT;rw[hg,a]
theorem zpS {b c:Bare}(a:SameB b c)(h:Host)(m g:Int)(k:Bool)(x:Guest):zcG h m (chg b g k x)=zcG h m (chg c g k x):=by unfold chg;rw[a.has];cases (cond (zb7 c g) k false);{exact back_eq a.g a.p};{exact back_eq (by simp only[cT,zdU,a.g]) a.p}
theorem zlw {b c:Bare}(a:SameB b c)(g:Int)(k:Bool):zbS b g k=zbS c g k:=by unfold zbS;rw[a.has]
theorem z3d {h:Host}{m:Int}(a:hasB m (ln h.Mons)=true):zcG h m (zC h m)=h:=by unfold zcG zqT zC;rw[a,cT];simp only;rw[zXV a]
theorem zjb {h:Host}{m:Int}(b:zcr h m=true)(d:zbQ (zcV (ix h.Mons m mZ))=true):SameB (zcV (ix h.Mons m mZ)) (zC h m):=by obtain⟨c,a⟩:=zcn.1 b;refine⟨?_,?_,d.trans (zxz c a).symm⟩<;>unfold zC zcV<;>rw [a]<;>rfl
theorem zba1:zhy zQu 8=true:=by decide
theorem zn2 {h:Host}{m:Int}(b:zcr h m=true):zbQ (zcV (ix h.Mons m mZ))=true:=by obtain⟨c,a⟩:=zcn.1 b;have:=zxz c a;unfold zC at this;rw[a,cT] at this;unfold zbQ at this ⊢;simp only[zcV,zba1] at *;simp_all
theorem zeG {x:Mon}(h:zeZ x):SmB (zcV x):=⟨show SmM zQu from ⟨by decide,by decide⟩,h.2.2.2.1,h.2.2.2.2.1⟩
def zez (h:Host)(m:Int)(b:Bare):Host:=bif zcr h m then zcG h m b else h
def zdk (h:Host)(m:Int)(ok:Bool):Bool:=bif zcr h m then ok else false
@[simp] abbrev zkg (b:Bare)(g p:Int)(s:Slot):Bare:=chg b g (zs3 p s) (zA9 (gAt b g) p s)
@[simp] abbrev zmE (b:Bare)(g p:Int)(s:Slot):Bool:=zbS b g (zs3 p s)
@[simp] abbrev zgW (b:Bare)(g v:Int):Bare:=chg b g (zsw (gAt b g) v) (zxx (gAt b g) v)
@[simp] abbrev ziJ (b:Bare)(g v:Int):Bool:=zbS b g (zsw (gAt b g) v)
@[simp] abbrev zgY (b:Bare)(g:Int):Bare:=chg b g (zxK (gAt b g)) (zxL (gAt b g))
@[simp] abbrev ziL (b:Bare)(g:Int):Bool:=zbS b g (zxK (gAt b g))
@[simp] abbrev zgX (b:Bare)(g n:Int):Bare:=chg b g (zf7 (gAt b g).Pending n) (znu (gAt b g) n)
@[simp] abbrev ziK (b:Bare)(g n:Int):Bool:=zbS b g (zf7 (gAt b g).Pending n)
@[simp] abbrev zkf (b:Bare)(g:Int)(c:Ctl):Bare:=chg b g (zhv c) (zIV (gAt b g) c)
@[simp] abbrev zmD (b:Bare)(g:Int)(c:Ctl):Bool:=zbS b g (zhv c)
@[simp] abbrev zmC (b:Bare):Bare:=zmi b
@[simp] abbrev zq2 (b:Bare):Int:=zsv b
@[simp] abbrev zq3 (b:Bare):Bool:=zls b
@[simp] abbrev zkY (b:Bare)(n:Int):Bare:=zjy b n
@[simp] abbrev zox (b:Bare)(n:Int):Bool:=zeN b n
@[simp] abbrev zYU (h:Host)(m:Int)(g p:Int)(s:Slot):Host:=zez h m (zkg (zC h m) g p s)
@[simp] abbrev zYV (h:Host)(m:Int)(g p:Int)(s:Slot):Bool:=zdk h m (zmE (zC h m) g p s)
@[simp] abbrev zQm (h:Host)(m:Int)(g v:Int):Host:=zez h m (zgW (zC h m) g v)
@[simp] abbrev zQn (h:Host)(m:Int)(g v:Int):Bool:=zdk h m (ziJ (zC h m) g v)
@[simp] abbrev zQq (h:Host)(m:Int)(g:Int):Host:=zez h m (zgY (zC h m) g)
@[simp] abbrev zQr (h:Host)(m:Int)(g:Int):Bool:=zdk h m (ziL (zC h m) g)
@[simp] abbrev zQo (h:Host)(m:Int)(g n:Int):Host:=zez h m (zgX (zC h m) g n)
@[simp] abbrev zQp (h:Host)(m:Int)(g n:Int):Bool:=zdk h m (ziK (zC h m) g n)
@[simp] abbrev zYS (h:Host)(m:Int)(g:Int)(x:Ctl):Host:=zez h m (zkf (zC h m) g x)
@[simp] abbrev zYT (h:Host)(m:Int)(g:Int)(x:Ctl):Bool:=zdk h m (zmD (zC h m) g x)
@[simp] abbrev zWk (h:Host)(m:Int)(n:Int):Host:=zez h m (zkY (zC h m) n)
@[simp] abbrev zWl (h:Host)(m:Int)(n:Int):Bool:=zdk h m (zox (zC h m) n)
@[simp] abbrev zYP (h:Host)(m:Int):Host:=zez h m (zmC (zC h m))
@[simp] abbrev zYQ (h:Host)(m:Int):Int:=bif zcr h m then zq2 (zC h m) else -1
@[simp] abbrev zYR (h:Host)(m:Int):Bool:=zdk h m (zq3 (zC h m))
@[simp] abbrev zTE (h:Host)(m g p:Int):Bool:=zdk h m (zbS (zC h m) g (hasB p 4))
theorem z4Y {b c:Bare}(a:SameB b c)(n:Int):(zjy b n).Guests=(zjy c n).Guests/\(zjy b n).Pending=(zjy c n).Pending/\zeN b n=zeN c n:=by have e:zeN b n=zeN c n:=(by unfold zeN;rw[a.o]);unfold zjy;rw[e];cases zeN c n;{exact⟨a.g,a.p,rfl⟩};{unfold zGa;rw[a.g];cases ieq (ln (zd2 c.Guests n)) 0;{exact⟨by simp only[cT,cF],by simp only[cT,cF,a.p],rfl⟩};{exact⟨by simp only[cT,a.g],by simp only[cT,a.p],rfl⟩}}
theorem z5R {b c:Bare}(a:SameB b c):(zmi b).Guests=(zmi c).Guests/\(zmi b).Pending=(zmi c).Pending/\zsv b=zsv c/\zls b=zls c:=by unfold zmi zsv zls;rw[a.o,a.p];cases zbQ c;{exact⟨a.g,a.p,rfl,rfl⟩};{exact⟨a.g,rfl,rfl,rfl⟩}
theorem z5z {b:Bare}{n:Int}(h:SmB b):SmB (zjy b n):=by unfold zjy;cases zeN b n;{exact h};{unfold zGa;cases ieq (ln (zd2 b.Guests n)) 0;{exact⟨h.1,(zFw _ zNB h.2.1).1,h.2.2⟩};{exact h}}
theorem z7M {b:Bare}(h:SmB b):SmB (zmi b):=by unfold zmi;cases zbQ b;{exact h};{exact h}
theorem ztS {H a:Host}{x y:Bool}(c:H=a)(d:x=y):some [AV.agg (zbk H),AV.one (.b x)]=some [AV.agg (zbk a),AV.one (.b y)]:=by rw[c,d]
theorem zbaj {H a:Host}{n k:Int}{x y:Bool}(c:H=a)(d:n=k)(e:x=y):some [AV.agg (zbk H),AV.one (.i .i64 n),AV.one (.b x)]=some [AV.agg (zbk a),AV.one (.i .i64 k),AV.one (.b y)]:=by rw[c,d,e]
theorem z0j {b:Bare}(g p:Int)(s:Slot)(a:SmB b):SmB (zkg b g p s):=znZ a (z7P _ _ (zh8 _ a))
theorem z7I {b c:Bare}(a:SameB b c)(h:Host)(m:Int)(g p:Int)(s:Slot):zcG h m (zkg b g p s)=zcG h m (zkg c g p s)/\zmE b g p s=zmE c g p s:=by have e:=a.at g;simp only[zkg,zmE,e];exact⟨zpS a _ _ _ _ _,zlw a _ _⟩
@[simp] abbrev zxS (h:Host)(m:Int)(g p:Int)(s:Slot):Bool:=pc (zcD h)
@[simp] abbrev zrn (h:Host)(m:Int)(g p:Int)(s:Slot):Host:=zez h m (zkg (zC h m) g p s)
@[simp] abbrev zro (h:Host)(m:Int)(g p:Int)(s:Slot):Bool:=zdk h m (zmE (zC h m) g p s)
def zB8:Run:=rF5 dH dI dI dI (dT .slot) fun b c d e f=>(zxS b c d e f,[aH (zrn b c d e f),aB (zro b c d e f)])
def zHs (N:Nat)(g:Host)(b d e:Int)(f:Slot):OA:=
 let a:=(zo g);let c:=(ix a.Mons b zi); (oN (zbU g) (oN (zfm a b) (cond (nB (zfl a b)) (some [(aH a),(aB false)]) (oN (inb b (ln a.Mons)) (oN (zev c) (oN (zra (zbN c) d e f) (oN (zeu a b (zin (zbN c) d e f)) (some [(aH (zgR a b (zin (zbN c) d e f))),(aB (zkl (zbN c) d e f))]))))))))
theorem zTi (a:Host)(c d e:Int)(f:Slot)(n:zxS a c d e f=true):∃N,zHs N a c d e f=some [aH (zrn a c d e f),aB (zro a c d e f)]:=by
 have i:=(zT a).1 (zL.1 n);refine⟨0,?_⟩;have j:=znM (h:=a) (m:=c) (cB:=zra (zcV (ix a.Mons c mZ)) d e f) (B:=zin (zcV (ix a.Mons c mZ)) d e f) (o0:=fun H=>[.agg (zbk H),.one (.b false)]) (o1:=fun H=>[.agg (zbk H),.one (.b (zkl (zcV (ix a.Mons c mZ)) d e f))]) i
  (fun g=>zbh (zeG (i.2.1.2 _ (zbu (zcn.1 g).2 _)))) (fun g=>z0j _ _ _ (zeG (i.2.1.2 _ (zbu (zcn.1 g).2 _))))
 refine(show zHs 0 a c d e f=_ from j).trans ?_;unfold zrn zro zez zdk;cases g:zcr a c;{rfl};{obtain⟨k,l⟩:=z7I (zjb g (zn2 g)) a c d e f;simp only[cT];exact ztS k l}
theorem zMi:vN 10 zB8:=kF5 zi5 zA zb9 zcZ (zq []) zTi
theorem zNZ {b:Bare}(g v:Int)(a:SmB b):SmB (zgW b g v):=znZ a (z7N _ (zh8 _ a))
theorem zZn {b c:Bare}(a:SameB b c)(h:Host)(m:Int)(g v:Int):zcG h m (zgW b g v)=zcG h m (zgW c g v)/\ziJ b g v=ziJ c g v:=by have e:=a.at g;simp only[zgW,ziJ,e];exact⟨zpS a _ _ _ _ _,zlw a _ _⟩
@[simp] abbrev zqy (h:Host)(m:Int)(g v:Int):Bool:=pc (zcD h)
@[simp] abbrev zlX (h:Host)(m:Int)(g v:Int):Host:=zez h m (zgW (zC h m) g v)
@[simp] abbrev zlY (h:Host)(m:Int)(g v:Int):Bool:=zdk h m (ziJ (zC h m) g v)
def zu5:Run:=rF4 dH dI dI dI fun b c d e=>(zqy b c d e,[aH (zlX b c d e),aB (zlY b c d e)])
def zyi (N:Nat)(f:Host)(b d e:Int):OA:=
 let a:=(zo f);let c:=(ix a.Mons b zi); (oN (zbU f) (oN (zfm a b) (cond (nB (zfl a b)) (some [(aH a),(aB false)]) (oN (inb b (ln a.Mons)) (oN (zev c) (oN (zlR (zbN c) d e) (oN (zeu a b (zfI (zbN c) d e)) (some [(aH (zgR a b (zfI (zbN c) d e))),(aB (zg0 (zbN c) d e))]))))))))
theorem zJ5 (a:Host)(c d e:Int)(l:zqy a c d e=true):∃N,zyi N a c d e=some [aH (zlX a c d e),aB (zlY a c d e)]:=by
 have g:=(zT a).1 (zL.1 l);refine⟨0,?_⟩;have i:=znM (h:=a) (m:=c) (cB:=zlR (zcV (ix a.Mons c mZ)) d e) (B:=zfI (zcV (ix a.Mons c mZ)) d e) (o0:=fun H=>[.agg (zbk H),.one (.b false)]) (o1:=fun H=>[.agg (zbk H),.one (.b (zg0 (zcV (ix a.Mons c mZ)) d e))]) g
  (fun f=>zbh (zeG (g.2.1.2 _ (zbu (zcn.1 f).2 _)))) (fun f=>zNZ _ _ (zeG (g.2.1.2 _ (zbu (zcn.1 f).2 _))))
 refine(show zyi 0 a c d e=_ from i).trans ?_;unfold zlX zlY zez zdk;cases f:zcr a c;{rfl};{obtain⟨j,k⟩:=zZn (zjb f (zn2 f)) a c d e;simp only[cT];exact ztS j k}
theorem zD0:vN 13 zu5:=kF4 zi5 zA zb9 zcZ (zq []) zJ5
theorem zN1 {b:Bare}(g:Int)(a:SmB b):SmB (zgY b g):=znZ a (z7O (zh8 _ a))
theorem zZp {b c:Bare}(a:SameB b c)(h:Host)(m:Int)(g:Int):zcG h m (zgY b g)=zcG h m (zgY c g)/\ziL b g=ziL c g:=by have e:=a.at g;simp only[zgY,ziL,e];exact⟨zpS a _ _ _ _ _,zlw a _ _⟩
@[simp] abbrev zqA (h:Host)(m:Int)(g:Int):Bool:=pc (zcD h)
@[simp] abbrev zl1 (h:Host)(m:Int)(g:Int):Host:=zez h m (zgY (zC h m) g)
@[simp] abbrev zl2 (h:Host)(m:Int)(g:Int):Bool:=zdk h m (ziL (zC h m) g)
def zu7:Run:=rF3 dH dI dI fun b c d=>(zqA b c d,[aH (zl1 b c d),aB (zl2 b c d)])
def zyk (N:Nat)(e:Host)(b d:Int):OA:=
 let a:=(zo e);let c:=(ix a.Mons b zi); (oN (zbU e) (oN (zfm a b) (cond (nB (zfl a b)) (some [(aH a),(aB false)]) (oN (inb b (ln a.Mons)) (oN (zev c) (oN (zlT (zbN c) d) (oN (zeu a b (zfK (zbN c) d)) (some [(aH (zgR a b (zfK (zbN c) d))),(aB (zg2 (zbN c) d))]))))))))
theorem zJ7 (a:Host)(c d:Int)(k:zqA a c d=true):∃N,zyk N a c d=some [aH (zl1 a c d),aB (zl2 a c d)]:=by
 have f:=(zT a).1 (zL.1 k);refine⟨0,?_⟩;have g:=znM (h:=a) (m:=c) (cB:=zlT (zcV (ix a.Mons c mZ)) d) (B:=zfK (zcV (ix a.Mons c mZ)) d) (o0:=fun H=>[.agg (zbk H),.one (.b false)]) (o1:=fun H=>[.agg (zbk H),.one (.b (zg2 (zcV (ix a.Mons c mZ)) d))]) f
  (fun e=>zbh (zeG (f.2.1.2 _ (zbu (zcn.1 e).2 _)))) (fun e=>zN1 _ (zeG (f.2.1.2 _ (zbu (zcn.1 e).2 _))))
 refine(show zyk 0 a c d=_ from g).trans ?_;unfold zl1 zl2 zez zdk;cases e:zcr a c;{rfl};{obtain⟨i,j⟩:=zZp (zjb e (zn2 e)) a c d;simp only[cT];exact ztS i j}
theorem zD2:vN 16 zu7:=kF3 zi5 zA zb9 zcZ (zq []) zJ7
theorem zN0 {b:Bare}(g n:Int)(a:SmB b):SmB (zgX b g n):=znZ a (zh8 (b:=b) _ a)
theorem zZo {b c:Bare}(a:SameB b c)(h:Host)(m:Int)(g n:Int):zcG h m (zgX b g n)=zcG h m (zgX c g n)/\ziK b g n=ziK c g n:=by have e:=a.at g;simp only[zgX,ziK,e];exact⟨zpS a _ _ _ _ _,zlw a _ _⟩
@[simp] abbrev zqz (h:Host)(m:Int)(g n:Int):Bool:=pc (zcD h)
@[simp] abbrev zlZ (h:Host)(m:Int)(g n:Int):Host:=zez h m (zgX (zC h m) g n)
@[simp] abbrev zl0 (h:Host)(m:Int)(g n:Int):Bool:=zdk h m (ziK (zC h m) g n)
def zu6:Run:=rF4 dH dI dI dI fun b c d e=>(zqz b c d e,[aH (zlZ b c d e),aB (zl0 b c d e)])
def zyj (N:Nat)(f:Host)(b d e:Int):OA:=
 let a:=(zo f);let c:=(ix a.Mons b zi); (oN (zbU f) (oN (zfm a b) (cond (nB (zfl a b)) (some [(aH a),(aB false)]) (oN (inb b (ln a.Mons)) (oN (zev c) (oN (zlS (zbN c) d e) (oN (zeu a b (zfJ (zbN c) d e)) (some [(aH (zgR a b (zfJ (zbN c) d e))),(aB (zg1 (zbN c) d e))]))))))))
theorem zJ6 (a:Host)(c d e:Int)(l:zqz a c d e=true):∃N,zyj N a c d e=some [aH (zlZ a c d e),aB (zl0 a c d e)]:=by
 have g:=(zT a).1 (zL.1 l);refine⟨0,?_⟩;have i:=znM (h:=a) (m:=c) (cB:=zlS (zcV (ix a.Mons c mZ)) d e) (B:=zfJ (zcV (ix a.Mons c mZ)) d e) (o0:=fun H=>[.agg (zbk H),.one (.b false)]) (o1:=fun H=>[.agg (zbk H),.one (.b (zg1 (zcV (ix a.Mons c mZ)) d e))]) g
  (fun f=>zbh (zeG (g.2.1.2 _ (zbu (zcn.1 f).2 _)))) (fun f=>zN0 _ _ (zeG (g.2.1.2 _ (zbu (zcn.1 f).2 _))))
 refine(show zyj 0 a c d e=_ from i).trans ?_;unfold zlZ zl0 zez zdk;cases f:zcr a c;{rfl};{obtain⟨j,k⟩:=zZo (zjb f (zn2 f)) a c d e;simp only[cT];exact ztS j k}
theorem zD1:vN 19 zu6:=kF4 zi5 zA zb9 zcZ (zq []) zJ6
theorem z0i {b:Bare}(g:Int)(x:Ctl)(a:SmB b):SmB (zkf b g x):=znZ a (zh8 (b:=b) _ a)
theorem z7H {b c:Bare}(a:SameB b c)(h:Host)(m:Int)(g:Int)(x:Ctl):zcG h m (zkf b g x)=zcG h m (zkf c g x)/\zmD b g x=zmD c g x:=by have e:=a.at g;simp only[zkf,zmD,e];exact⟨zpS a _ _ _ _ _,zlw a _ _⟩
@[simp] abbrev zxQ (h:Host)(m:Int)(g:Int)(x:Ctl):Bool:=pc (zcD h)
@[simp] abbrev zri (h:Host)(m:Int)(g:Int)(x:Ctl):Host:=zez h m (zkf (zC h m) g x)
@[simp] abbrev zrj (h:Host)(m:Int)(g:Int)(x:Ctl):Bool:=zdk h m (zmD (zC h m) g x)
def zB6:Run:=rF4 dH dI dI dC fun b c d e=>(zxQ b c d e,[aH (zri b c d e),aB (zrj b c d e)])
def zHp (N:Nat)(f:Host)(b d:Int)(e:Ctl):OA:=
 let a:=(zo f);let c:=(ix a.Mons b zi); (oN (zbU f) (oN (zfm a b) (cond (nB (zfl a b)) (some [(aH a),(aB false)]) (oN (inb b (ln a.Mons)) (oN (zev c) (oN (zq9 (zbN c) d e) (oN (zeu a b (zim (zbN c) d e)) (some [(aH (zgR a b (zim (zbN c) d e))),(aB (zkk (zbN c) d e))]))))))))
theorem zTf (a:Host)(c d:Int)(e:Ctl)(l:zxQ a c d e=true):∃N,zHp N a c d e=some [aH (zri a c d e),aB (zrj a c d e)]:=by
 have g:=(zT a).1 (zL.1 l);refine⟨0,?_⟩;have i:=znM (h:=a) (m:=c) (cB:=zq9 (zcV (ix a.Mons c mZ)) d e) (B:=zim (zcV (ix a.Mons c mZ)) d e) (o0:=fun H=>[.agg (zbk H),.one (.b false)]) (o1:=fun H=>[.agg (zbk H),.one (.b (zkk (zcV (ix a.Mons c mZ)) d e))]) g
  (fun f=>zbh (zeG (g.2.1.2 _ (zbu (zcn.1 f).2 _)))) (fun f=>z0i _ _ (zeG (g.2.1.2 _ (zbu (zcn.1 f).2 _))))
 refine(show zHp 0 a c d e=_ from i).trans ?_;unfold zri zrj zez zdk;cases f:zcr a c;{rfl};{obtain⟨j,k⟩:=z7H (zjb f (zn2 f)) a c d e;simp only[cT];exact ztS j k}
theorem zMg:vN 22 zB6:=kF4 zi5 zA zb9 zcZ (zq []) zTf
theorem zXe {b:Bare}(n:Int)(a:SmB b):SmB (zkY b n):=z5z a
theorem z5q {b c:Bare}(f:SameB b c)(h:Host)(m n:Int):zcG h m (zkY b n)=zcG h m (zkY c n)/\zox b n=zox c n:=by obtain⟨a,d,e⟩:=z4Y f n;exact⟨back_eq a d,e⟩
@[simp] abbrev zvg (h:Host)(m:Int)(n:Int):Bool:=pc (zcD h)
@[simp] abbrev zo3 (h:Host)(m:Int)(n:Int):Host:=zez h m (zkY (zC h m) n)
@[simp] abbrev zo4 (h:Host)(m:Int)(n:Int):Bool:=zdk h m (zox (zC h m) n)
def zzj:Run:=rF3 dH dI dI fun b c d=>(zvg b c d,[aH (zo3 b c d),aB (zo4 b c d)])
def zDg (N:Nat)(e:Host)(b d:Int):OA:=
 let a:=(zo e);let c:=(ix a.Mons b zi); (oN (zbU e) (oN (zfm a b) (cond (nB (zfl a b)) (some [(aH a),(aB false)]) (oN (inb b (ln a.Mons)) (oN (zev c) (oN (zoX (zbN c) d) (oN (zeu a b (ziQ (zbN c) d)) (some [(aH (zgR a b (ziQ (zbN c) d))),(aB (zk8 (zbN c) d))]))))))))
theorem zP7 (a:Host)(c d:Int)(k:zvg a c d=true):∃N,zDg N a c d=some [aH (zo3 a c d),aB (zo4 a c d)]:=by
 have f:=(zT a).1 (zL.1 k);refine⟨0,?_⟩;have g:=znM (h:=a) (m:=c) (cB:=zoX (zcV (ix a.Mons c mZ)) d) (B:=ziQ (zcV (ix a.Mons c mZ)) d) (o0:=fun H=>[.agg (zbk H),.one (.b false)]) (o1:=fun H=>[.agg (zbk H),.one (.b (zk8 (zcV (ix a.Mons c mZ)) d))]) f
  (fun e=>zbh (zeG (f.2.1.2 _ (zbu (zcn.1 e).2 _)))) (fun e=>zXe _ (zeG (f.2.1.2 _ (zbu (zcn.1 e).2 _))))
 refine(show zDg 0 a c d=_ from g).trans ?_;unfold zo3 zo4 zez zdk;cases e:zcr a c;{rfl};{obtain⟨i,j⟩:=z5q (zjb e (zn2 e)) a c d;simp only[cT];exact ztS i j}
theorem zJw:vN 53 zzj:=kF3 zi5 zA zb9 zcZ (zq []) zP7
theorem z0h {b:Bare}(a:SmB b):SmB (zmC b):=z7M a
theorem z7G {b c:Bare}(g:SameB b c)(h:Host)(m:Int):zcG h m (zmC b)=zcG h m (zmC c)/\zq2 b=zq2 c/\zq3 b=zq3 c:=by obtain⟨a,d,e,f⟩:=z5R g;exact⟨back_eq a d,e,f⟩
@[simp] abbrev zxP (h:Host)(m:Int):Bool:=pc (zcD h)
@[simp] abbrev zre (h:Host)(m:Int):Host:=zez h m (zmC (zC h m))
@[simp] abbrev zrf (h:Host)(m:Int):Int:=bif zcr h m then zq2 (zC h m) else -1
@[simp] abbrev zrg (h:Host)(m:Int):Bool:=zdk h m (zq3 (zC h m))
def zB5:Run:=rF2 dH dI fun b c=>(zxP b c,[aH (zre b c),aI (zrf b c),aB (zrg b c)])
def zHn (N:Nat)(d:Host)(b:Int):OA:=
 let a:=(zo d);let c:=(ix a.Mons b zi); (oN (zbU d) (oN (zfm a b) (cond (nB (zfl a b)) (some [(aH a),(aI (-1)),(aB false)]) (oN (inb b (ln a.Mons)) (oN (zev c) (oN (zq8 (zbN c)) (oN (zeu a b (zil (zbN c))) (some [(aH (zgR a b (zil (zbN c)))),(aI (zki (zbN c))),(aB (zkj (zbN c)))]))))))))
theorem zTd (a:Host)(c:Int)(l:zxP a c=true):∃N,zHn N a c=some [aH (zre a c),aI (zrf a c),aB (zrg a c)]:=by
 have e:=(zT a).1 (zL.1 l);refine⟨0,?_⟩;have f:=znM (h:=a) (m:=c) (cB:=zq8 (zcV (ix a.Mons c mZ))) (B:=zil (zcV (ix a.Mons c mZ))) (o0:=fun H=>[.agg (zbk H),.one (.i .i64 (-1)),.one (.b false)]) (o1:=fun H=>[.agg (zbk H),.one (.i .i64 (zki (zcV (ix a.Mons c mZ)))),.one (.b (zkj (zcV (ix a.Mons c mZ))))]) e
  (fun d=>zbh (zeG (e.2.1.2 _ (zbu (zcn.1 d).2 _)))) (fun d=>z0h (zeG (e.2.1.2 _ (zbu (zcn.1 d).2 _))))
 refine(show zHn 0 a c=_ from f).trans ?_;unfold zre zrf zrg zez zdk;cases d:zcr a c;{rfl};{obtain⟨g,j,k⟩:=z7G (zjb d (zn2 d)) a c;simp only[cT];exact zbaj g j k}
theorem zMf:vN 56 zB5:=kF2 zi5 zA zb9 zcZ (zq []) zTd
def z3o:zba:=[(10,zB8),(13,zu5),(16,zu7),(19,zu6),(22,zB6),(53,zzj),(56,zB5)]++z3n
theorem zvP:zK z3o:=zh zMi (zh zD0 (zh zD2 (zh zD1 (zh zMg (zh zJw (zh zMf zi5))))))
def zjJ (h:Host)(m t:Int):Host:=bif zbW h then (cond (hasB m (ln h.Mons)) (cond (win t 0 3) {h with Mons:=up h.Mons m {ix h.Mons m mZ with Traps:=t}} h) h) else h
def zA8 (h:Host)(m t:Int):Bool:=bif zbW h then (cond (hasB m (ln h.Mons)) (win t 0 3) false) else false
@[simp] abbrev zvk (h:Host)(m t:Int):Bool:=pc (zcD h)
@[simp] abbrev zpa (h:Host)(m t:Int):Host:=zjJ h m t
@[simp] abbrev zpb (h:Host)(m t:Int):Bool:=zA8 h m t
def zzn:Run:=rF3 dH dI dI fun b c d=>(zvk b c d,[aH (zpa b c d),aB (zpb b c d)])
def zDk (N:Nat)(d:Host)(b c:Int):OA:=
 let a:=(zo d); (oN (zbU d) (oN (zff a) (cond (nB (zfe a)) (some [(aH a),(aB false)]) (oN (zO b 0 (wsub .i64 (ln a.Mons) 1)) (cond (nB (zS b 0 (wsub .i64 (ln a.Mons) 1))) (some [(aH a),(aB false)]) (oN (zO c 0 3) (cond (nB (zS c 0 3)) (some [(aH a),(aB false)]) (oN (inb b (ln a.Mons)) (share (up a.Mons b ({ (ix a.Mons b zi) with Traps:=c}:Mon)) (fun e=>(some [(aH ({a with Mons:=e}:Host)),(aB true)])))))))))))
theorem zQc (a:Host)(b c:Int)(d:zvk a b c=true):∃N,zDk N a b c=some [aH (zpa a b c),aB (zpb a b c)]:=by
 have g:=(zT a).1 (zL.1 d);refine⟨0,?_⟩;unfold zDk zpa zpb zjJ zA8 oN nB;conv=>zeta
 refine must d (must rfl ?_);rw[show zfe (zo a)=zbW a from rfl];cases e:zbW a;{rfl};{refine zdy rfl (must rfl ?_);rw[show zS b 0 (wsub .i64 (ln (zo a).Mons) 1)=hasB b (ln a.Mons) from zQ8 e b];cases f:hasB b (ln a.Mons);{rfl};{refine zdy rfl (must rfl ?_);rw[show zS c 0 3=win c 0 3 from rfl];cases h:win c 0 3;{rfl};{exact zdy rfl (must (zG f) rfl)}}}
theorem zJB:vN 338 zzn:=kF3 zvP zA zb9 zcZ (zq []) zQc
theorem zkh {h:Host}{m p:Int}:(zb8 h m p=true)↔zbW h=true/\hasB m (ln h.Mons)=true/\hasB p 8=true:=by unfold zb8;cases zbW h<;>cases hasB m (ln h.Mons)<;>simp
def zkv (h:Host)(m p:Int):Bool:=ieq (ix (ix h.Mons m mZ).Outer p sZ).Page (-1)
def zqb (h:Host)(m p:Int):Host:=bif zb8 h m p then (cond (zkv h m p) h (zdq h m p)) else h
def zEq (h:Host)(m p:Int):Bool:=bif zb8 h m p then !zkv h m p else false
def zuR (h:Host)(m p:Int):Host:=bif zb8 h m p then (cond (zkv h m p) (fetched h m p) h) else h
def zKd (h:Host)(m p:Int):Bool:=bif zb8 h m p then zkv h m p else false
@[simp] abbrev zxV (h:Host)(m p:Int):Bool:=pc (zcD h)
@[simp] abbrev zrr (h:Host)(m p:Int):Host:=zqb h m p
@[simp] abbrev zrt (h:Host)(m p:Int):Bool:=zEq h m p
@[simp] abbrev zAU (h:Host)(m p:Int):Bool:=pc (zcD h)
@[simp] abbrev ztE (h:Host)(m p:Int):Host:=zuR h m p
@[simp] abbrev ztF (h:Host)(m p:Int):Bool:=zKd h m p
theorem zNn {h:Host}(f:SmH h)(c:zbW h=true){m p:Int}(d:hasB m (ln h.Mons)=true)(e:hasB p 8=true) :
 (cond (ieq (ix (ix h.Mons m mZ).Outer p sZ).Page (-1)) (ieq (ix (ix h.Mons m mZ).Outer p sZ).Rights 0) false)=zkv h m p:=by
 have a:=(ztw (zgI c _ (zbu d mZ)) e).no;unfold zcU at a;unfold zkv;rw[<- a];cases b:ieq (ix (ix h.Mons m mZ).Outer p sZ).Page (-1)<;>simp [noSlot,b]
theorem zSa {h:Host}(d:SmH h)(a:zbW h=true){m p:Int}(b:hasB m (ln h.Mons)=true)(c:hasB p 8=true):inb p (ln (ix h.Mons m mZ).Outer)=true :=
 zG (by rw[ln,((ze3 d a).1.2 _ (zbu b mZ)).1];exact c)
def zCc:Run:=rF3 dH dI dI fun b c d=>(zxV b c d,[aH (zrr b c d),aB (zrt b c d)])
def zHw (N:Nat)(e:Host)(c b:Int):OA:=
 let a:=(zo e);let d:=(ix a.Mons c zi).Outer; (oN (zbU e) (oN (znX a c b) (cond (nB (zhO a c b)) (some [(aH a),(aB false)]) (oN (inb c (ln a.Mons)) (oN (inb b (ln d)) (oN zcx (cond (cond (ieq (ix d b zV).Page zbw.Page) (ieq (ix d b zV).Rights zbw.Rights) false) (some [(aH a),(aB false)]) (oN (ztO a c b) (some [(aH (zA7 a c b)),(aB true)])))))))))
theorem zTn (a:Host)(b c:Int)(h:zxV a b c=true):∃N,zHw N a b c=some [aH (zrr a b c),aB (zrt a b c)]:=by
 have g:=(zT a).1 (zL.1 h);refine⟨0,?_⟩;unfold zHw zrr zrt zqb zEq oN nB;conv=>zeta
 refine must h (must rfl ?_);rw[show zhO (zo a) b c=zb8 a b c from rfl];cases i:zb8 a b c;{rfl};{obtain⟨e,d,f⟩:=zkh.1 i;refine zdy rfl (must (zG d) (must (zSa g e d f) (must rfl ?_)));rw[show (cond (ieq (ix (ix (zo a).Mons b zi).Outer c zV).Page zbw.Page) (ieq (ix (ix (zo a).Mons b zi).Outer c zV).Rights zbw.Rights) false)=zkv a b c from zNn g e d f];cases j:zkv a b c;{exact zdy rfl (must (zbh ⟨(ze3 g e).1,d,f⟩) rfl)};{rfl}}
theorem zMm:vN 335 zCc:=kF3 zvP zA zb9 zcZ (zq []) zTn
def zE1:Run:=rF3 dH dI dI fun b c d=>(zAU b c d,[aH (ztE b c d),aB (ztF b c d)])
def zLf (N:Nat)(e:Host)(c b:Int):OA:=
 let a:=(zo e);let d:=(ix a.Mons c zi).Outer; (oN (zbU e) (oN (znX a c b) (cond (nB (zhO a c b)) (some [(aH a),(aB false)]) (oN (inb c (ln a.Mons)) (oN (inb b (ln d)) (oN zcx (cond (nB (cond (ieq (ix d b zV).Page zbw.Page) (ieq (ix d b zV).Rights zbw.Rights) false)) (some [(aH a),(aB false)]) (oN (zxb a c b) (some [(aH (zzC a c b)),(aB true)])))))))))
theorem zVZ (a:Host)(b c:Int)(h:zAU a b c=true):∃N,zLf N a b c=some [aH (ztE a b c),aB (ztF a b c)]:=by
 have g:=(zT a).1 (zL.1 h);refine⟨0,?_⟩;unfold zLf ztE ztF zuR zKd oN nB;conv=>zeta
 refine must h (must rfl ?_);rw[show zhO (zo a) b c=zb8 a b c from rfl];cases i:zb8 a b c;{rfl};{obtain⟨e,d,f⟩:=zkh.1 i;refine zdy rfl (must (zG d) (must (zSa g e d f) (must rfl ?_)));rw[show (cond (ieq (ix (ix (zo a).Mons b zi).Outer c zV).Page zbw.Page) (ieq (ix (ix (zo a).Mons b zi).Outer c zV).Rights zbw.Rights) false)=zkv a b c from zNn g e d f];cases j:zkv a b c;{rfl};{exact zdy rfl (must (zbh ⟨ze3 g e,d,f⟩) rfl)}}
theorem zPe:vN 336 zE1:=kF3 zvP zA zb9 zcZ (zq []) zVZ
def z3p:zba:=[(338,zzn),(335,zCc),(336,zE1)]++z3o
theorem zDI:zK z3p:=zh zJB (zh zMm (zh zPe zvP))
theorem z2J {x:Mon}{b:Bare}(h:zeZ x)(a:zkC b.Guests):zeZ (zqT x b):=⟨h.1,h.2.1,h.2.2.1,a,h.2.2.2.2⟩
theorem zBd {h:Host}{m:Int}{b:Bare}(a:SmH h)(d:hasB m (ln h.Mons)=true)(c:zkC b.Guests):SmH (zcG h m b):=
 ⟨a.1,zjc a.2.1 (z2J (a.2.1.2 _ (zbu d _)) c),a.2.2⟩
theorem zz1 {h:Host}{m:Int}(b:Bare)(a:hasB m (ln h.Mons)=true):hasB m (ln (zcG h m b).Mons)=true:=by show hasB m (ln (up h.Mons m _))=true;rw[ln,zgy];exact a
theorem zbaa {h:Host}{m:Int}(b:Bare)(c:hasB m (ln h.Mons)=true):ix (zcG h m b).Mons m mZ=zqT (ix h.Mons m mZ) b:=by obtain⟨k,rfl,a⟩:=zdJ (n:=h.Mons.length) c;exact zdP a _ _
def zyr (h:Host)(m g p:Int):Host:=⟨h.Memory,up h.Mons m {ix h.Mons m mZ with Tables:=up (ix h.Mons m mZ).Tables g (zbR (ix (ix h.Mons m mZ).Tables g kZ) p)},zcg h.Buffer (zdm m g) p,zcg h.IoBuffer (zdm m g) p⟩
def z3X (H:Host)(m g p:Int)(o:Host->Ans):OA:=
 bif inb m (ln H.Mons) then (bif inb m (ln H.Mons) then (bif inb g (ln (ix H.Mons m mZ).Tables) then (bif zlV (ix (ix H.Mons m mZ).Tables g kZ) p then (bif inb g (ln (ix H.Mons m mZ).Tables) then (share (up H.Mons m {ix H.Mons m mZ with Tables:=up (ix H.Mons m mZ).Tables g (zbR (ix (ix H.Mons m mZ).Tables g kZ) p)}) fun x=>
  (cond (zi8 m g) (cond (zgr H.Buffer (zdm m g) p) (cond (zi8 m g) (cond (zgr H.IoBuffer (zdm m g) p) (some (o ⟨H.Memory,x,zcg H.Buffer (zdm m g) p,zcg H.IoBuffer (zdm m g) p⟩)) none) none) none) none)) else none) else none) else none) else none) else none
theorem zRR {H:Host}{m g p:Int}{o:Host->Ans}(b:SmH H)(a:hasB m (ln H.Mons)=true)(hg:hasB g (ln (ix H.Mons m mZ).Tables)=true):z3X H m g p o=some (o (zyr H m g p)):=by have c:=b.2.1.2 _ (zbu a mZ);unfold z3X;exact must (zG a) (must (zG a) (must (zG hg) (must (zbh (c.2.2.2.2.2.2 _ (zbu hg _))) (must (zG hg) (shr (must rfl (must (zbh b.2.2.1) (must rfl (must (zbh b.2.2.2) rfl)))))))))
def zc1 (h:Host)(m g p:Int):Host:=bif zcr h m then (cond (zbS (zC h m) g (hasB p 4)) (zyr (zcG h m (chg (zC h m) g (hasB p 4) (zde (gAt (zC h m) g) p))) m g p) h) else h
@[simp] abbrev znb (h:Host)(m g p:Int):Bool:=pc (zcD h)
@[simp] abbrev zhN (h:Host)(m g p:Int):Host:=zc1 h m g p
@[simp] abbrev zjV (h:Host)(m g p:Int):Bool:=zdk h m (zbS (zC h m) g (hasB p 4))
@[simp] abbrev zsB (h:Host)(m g p:Int):Bool:=pc (zcD h)
@[simp] abbrev zm2 (h:Host)(m g p:Int):Host:=zc1 h m g p
@[simp] abbrev zm3 (h:Host)(m g p:Int):Bool:=zdk h m (zbS (zC h m) g (hasB p 4))
theorem zZq {h:Host}{m:Int}(a:hasB m (ln h.Mons)=true):(zC h m).Guests=(ix h.Mons m mZ).Guests:=by unfold zC;rw[a];rfl
theorem zvY {h:Host}{m g:Int}{k:Bool}(i:SmH h)(e:zcr h m=true)(b:Bare)(a:zbS (zC h m) g k=true):hasB g (ln (ix (zcG h m b).Mons m mZ).Tables)=true:=by obtain⟨f,c⟩:=zcn.1 e;rw[zbaa b c];show hasB g (ln (ix h.Mons m mZ).Tables)=true;rw[ln,((ze3 i f).1.2 _ (zbu c mZ)).2.2.2,<- zZq c];unfold zbS at a;cases d:zb7 (zC h m) g;{rw [d]at a;cases a};{exact(zdF.1 d).2}
def zoL:Run:=rF4 dH dI dI dI fun b c d e=>(znb b c d e,[aH (zhN b c d e),aB (zjV b c d e)])
def zBE (N:Nat)(i:Host)(a b c:Int):OA:=
 let h:=(zqC a b);let e:=(zo i);let g:=(ix e.Mons a zi);let d:=(zgR e a (zeA (zbN g) b c));let f:=(ix d.Mons a zi);let j:=(ix f.Tables b zeh); (oN (zbU i) (oN (zfm e a) (cond (nB (zfl e a)) (some [(aH e),(aB false)]) (oN (inb a (ln e.Mons)) (oN (zev g) (oN (zsU (zbN g) b c) (cond (nB (zhL (zbN g) b c)) (some [(aH e),(aB false)]) (oN (zeu e a (zeA (zbN g) b c)) (oN (inb a (ln d.Mons)) (oN (inb a (ln d.Mons)) (oN (inb b (ln f.Tables)) (oN (zlV j c) (oN (inb b (ln f.Tables)) (share (up d.Mons a ({f with Tables:=(up f.Tables b (zlb j c))}:Mon)) (fun k=>(oN (zi8 a b) (oN (zgr d.Buffer h c) (oN (zi8 a b) (oN (zgr d.IoBuffer h c) (some [(aH (⟨d.Memory,k,(zmL d.Buffer h c),(zmL d.IoBuffer h c)⟩:Host)),(aB true)]))))))))))))))))))))
theorem zNe (a:Host)(c d e:Int)(j:zce big [aH a,aI c,aI d,aI e])(q:znb a c d e=true):∃N,zBE N a c d e=some [aH (zhN a c d e),aB (zjV a c d e)]:=by
 have k:=(zT a).1 (zL.1 q);refine⟨0,?_⟩;unfold zBE zhN zjV zc1 zdk oN nB;conv=>zeta
 refine must q (must rfl ?_);rw[show zfl (zo a) c=zcr a c from rfl];cases h:zcr a c;{rfl};{obtain⟨v,f⟩:=zcn.1 h;have r:=k.2.1.2 _ (zbu f mZ);have l:=zeG r;have i:=zjb h (zn2 h);have u:zbS (zcV (ix a.Mons c mZ)) d (hasB e 4)=zbS (zC a c) d (hasB e 4):=zlw i _ _;have s:zcG a c (zeA (zcV (ix a.Mons c mZ)) d e)=zcG a c (chg (zC a c) d (hasB e 4) (zde (gAt (zC a c) d) e)):=(by rw[<- i.at];exact zpS i _ _ _ _ _);refine zdy rfl (must (zG f) (must (zbh r) (must (zbh l) ?_)));rw[show zhL (zbN (ix (zo a).Mons c zi)) d e=zbS (zC a c) d (hasB e 4) from u];cases t:zbS (zC a c) d (hasB e 4);{rfl};{have j:SmB (zeA (zcV (ix a.Mons c mZ)) d e):=znZ l (ztQ _ (zh8 _ l));refine zdy rfl (must (zbh ⟨f,j.2.1⟩) ?_);have n:=zRR (H:=zcG a c (zeA (zcV (ix a.Mons c mZ)) d e)) (m:=c) (g:=d) (p:=e) (o:=fun H=>[.agg (zbk H),.one (.b true)]) (zBd k f j.2.1) (zz1 _ f) (zvY k h _ t);refine(show _=_ from n).trans ?_;rw[s];rfl}}
theorem ztd:vN 29 zoL:=hF4 zDI zA zb9 zcZ (zq []) zNe
def zoF:Run:=rF4 dH dI dI dI fun b c d e=>(zsB b c d e,[aH (zm2 b c d e),aB (zm3 b c d e)])
def zBo (N:Nat)(e:Host)(a d c:Int):OA:=
 let l:=(zD7 a d);let m:=(zft (zhb e a) d c);let f:=(zyE a d);let b:=(zjs e);let n:=(inb a (ln b.Mons));let g:=(zhG (zhb e a) d c);let h:=(ix b.Mons a zi);let q:=(ix h.Tables d zeh); (oN (zop e) (oN (ztr e) (cond (nB (znr e)) (some [(aH b),(aB false)]) (oN (zdh a (ln e.Mons)) (cond (nB (zdG a (ln e.Mons))) (some [(aH b),(aB false)]) (oN (zts e a) (oN (zsz (zhb e a) d c) (cond g (oN (zfG m.Guests) (oN n (share (up b.Mons a ({h with Guests:=(zf4 m.Guests)}:Mon)) (fun i=>(oN (inb a (ln i)) (share (up i a ({ (ix i a zi) with Pending:=m.Pending}:Mon)) (fun j=>let k:=(ix j a zi);let p:=(ix k.Tables d zeh); (cond g (oN (inb a (ln j)) (oN (inb a (ln j)) (oN (inb d (ln k.Tables)) (oN (zok p c) (oN (inb d (ln k.Tables)) (share (up j a ({k with Tables:=(up k.Tables d (znq p c))}:Mon)) (fun r=>(oN l (oN (zhI b.Buffer f c) (oN l (oN (zhI b.IoBuffer f c) (some [(aH (⟨b.Memory,r,(zkb b.Buffer f c),(zkb b.IoBuffer f c)⟩:Host)),(aB g)])))))))))))) (some [(aH ({b with Mons:=j}:Host)),(aB g)]))))))))) (cond g (oN n (oN n (oN (inb d (ln h.Tables)) (oN (zok q c) (oN (inb d (ln h.Tables)) (share (up b.Mons a ({h with Tables:=(up h.Tables d (znq q c))}:Mon)) (fun i=>(oN l (oN (zhI b.Buffer f c) (oN l (oN (zhI b.IoBuffer f c) (some [(aH (⟨b.Memory,i,(zkb b.Buffer f c),(zkb b.IoBuffer f c)⟩:Host)),(aB g)])))))))))))) (some [(aH b),(aB g)]))))))))))
theorem zMX (a:Host)(c d e:Int)(h:zce big [aH a,aI c,aI d,aI e])(i:zsB a c d e=true):∃N,zBo N a c d e=some [aH (zm2 a c d e),aB (zm3 a c d e)]:=by
 have k:=(zT a).1 (zL.1 i);refine⟨0,?_⟩;unfold zBo zm2 zm3 zc1 zdk oN nB;conv=>zeta
 refine must i (must rfl ?_);rw[show znr a=zbW a from rfl];cases j:zbW a;{unfold zcr;rw[j];rfl};{refine zdy rfl (must rfl ?_);rw[show zdG c (ln a.Mons)=hasB c (ln a.Mons) from rfl];cases f:hasB c (ln a.Mons);{unfold zcr;rw[j,f];rfl};{have q:zcr a c=true:=zcn.2 ⟨j,f⟩;have l:=zBc k f;have h:SmB (zft (zC a c) d e):=znZ l (ztQ _ (zh8 _ l));rw[q];refine zdy rfl (must i (must (zbh l) ?_));rw[show zhG (zhb a c) d e=zbS (zC a c) d (hasB e 4) from rfl];cases t:zbS (zC a c) d (hasB e 4);{rfl};{obtain⟨r,s⟩:=zXT f (zft (zC a c) d e);refine must rfl (must (zbh h.2.1) (must (zG f) (shr (must r (shr ?_)))));rw[show zi=mZ from rfl,s];have n:=zRR (H:=zcG a c (zft (zC a c) d e)) (m:=c) (g:=d) (p:=e) (o:=fun H=>[.agg (zbk H),.one (.b true)]) (zBd k f h.2.1) (zz1 _ f) (zvY k q _ t);exact must rfl (show _=_ from n)}}}
theorem zs9:vN 28 zoF:=hF4 zDI zA zb9 zcZ (zq []) zMX
def z3q:zba:=[(29,zoL),(28,zoF)]++z3p
theorem zDJ:zK z3q:=zh ztd (zh zs9 zDI)
def zNA (h:Host)(m p c v:Int):Host:={mended h m p 2 with Memory:=zbC (mended h m p 2).Memory (ix (ix (mended h m p 2).Mons m mZ).Outer p sZ).Page c v}
def zcH (h:Host)(m p c v:Int):Bool:=bif zb8 h m p then (cond (hasB c 4) (win v 0 99) false) else false
def zfE (h:Host)(m p c v:Int):Host:=bif zcH h m p c v then zNA h m p c v else h
@[simp] abbrev zo2 (h:Host)(m p c v:Int):Bool:=pc (zcD h)
@[simp] abbrev ziS (h:Host)(m p c v:Int):Host:=zfE h m p c v
@[simp] abbrev zld (h:Host)(m p c v:Int):Bool:=zcH h m p c v
@[simp] abbrev zol (h:Host)(m p c v:Int):Bool:=pc (zcD h)
@[simp] abbrev zg9 (h:Host)(m p c v:Int):Host:=zfE h m p c v
@[simp] abbrev zha (h:Host)(m p c v:Int):Bool:=zcH h m p c v
def z9V (H:Host)(m p c v:Int)(o:Host->Ans):OA:=
 bif zmX H m p 2 then (cond (inb m (ln (mended H m p 2).Mons)) (cond (inb p (ln (ix (mended H m p 2).Mons m mZ).Outer)) (cond (ziV (mended H m p 2).Memory (ix (ix (mended H m p 2).Mons m mZ).Outer p sZ).Page c v) (some (o (zNA H m p c v))) none) none) none) else none
theorem zWO {h:Host}{m p c v:Int}{o:Host->Ans}(j:SmH h)(i:zb8 h m p=true):z9V h m p c v o=some (o (zNA h m p c v)):=by obtain⟨g,b,a⟩:=zkh.1 i;have f:=ze3 j g;obtain⟨d,e⟩:=zvs (n:=2) f b a;unfold z9V;refine must (zbh ⟨f,b,a,.inr rfl,ztw (zgI g _ (zbu b mZ)) a⟩) (must (zG e) (must (zG ?_) (must (zbh d.1.1) rfl)));rw[ln,(d.2 _ (zbu e mZ)).1];exact a
def zqp:Run:=rF5 dH dI dI dI dI fun b c d e f=>(zo2 b c d e f,[aH (ziS b c d e f),aB (zld b c d e f)])
def zDf (N:Nat)(g:Host)(b c:Int)(e f:Int):OA:=
 let a:=(zo g);let d:=(znY a b c 2);let h:=(ix d.Mons b zi).Outer;let i:=(ix h c zV).Page; (oN (zbU g) (oN (znX a b c) (cond (nB (zhO a b c)) (some [(aH a),(aB false)]) (oN (zO e 0 3) (cond (nB (zS e 0 3)) (some [(aH a),(aB false)]) (oN (zO f 0 99) (cond (nB (zS f 0 99)) (some [(aH a),(aB false)]) (oN (zmX a b c 2) (oN (inb b (ln d.Mons)) (oN (inb c (ln h)) (oN (ziV d.Memory i e f) (some [(aH ({d with Memory:=(zjD d.Memory i e f)}:Host)),(aB true)]))))))))))))
theorem zP6 (d:Host)(f g:Int)(a e:Int)(i:zo2 d f g a e=true):∃N,zDf N d f g a e=some [aH (ziS d f g a e),aB (zld d f g a e)]:=by
 have k:=(zT d).1 (zL.1 i);refine⟨0,?_⟩;unfold zDf ziS zld zfE zcH oN nB;conv=>zeta
 refine must i (must rfl ?_);rw[show zhO (zo d) f g=zb8 d f g from rfl];cases j:zb8 d f g;{rfl};{refine zdy rfl (must rfl ?_);rw[show zS a 0 3=hasB a 4 from zbcC a];cases l:hasB a 4;{rfl};{refine zdy rfl (must rfl ?_);rw[show zS e 0 99=win e 0 99 from rfl];cases m:win e 0 99;{rfl};{have h:=zWO (c:=a) (v:=e) (o:=fun H=>[.agg (zbk H),.one (.b true)]) k j;exact zdy rfl (show _=_ from h)}}}
theorem zuA:vN 32 zqp:=kF5 zDJ zA zb9 zcZ (zq []) zP6
theorem z4X {h:Host}{m p c v:Int}(a:hasB m (ln h.Mons)=true):zcG h m (zm8 (zC h m) p c v)=h:=by have e:zcG h m (zm8 (zC h m) p c v)=zcG h m (zC h m):=(by refine back_eq ?_ ?_<;>unfold zm8<;>cases ziO (zC h m) p c v<;>rfl);rw[e];exact z3d a
theorem zbbd {h:Host}{m p c v:Int}(a:zbW h=true)(b:hasB m (ln h.Mons)=true):ziO (zC h m) p c v=zcH h m p c v:=by unfold ziO zcH zNz zb8;rw[zxz a b,a,b];cases hasB p 8<;>rfl
def zqk:Run:=rF5 dH dI dI dI dI fun b c d e f=>(zol b c d e f,[aH (zg9 b c d e f),aB (zha b c d e f)])
def zCT (N:Nat)(c:Host)(a b:Int)(e f:Int):OA:=
 let l:=(zf3 (zhb c a) b e f);let d:=(zjs c);let i:=(zuK d a b 2);let n:=(ix i.Mons a zi).Outer;let q:=(ix n b zV).Page;let g:=(ziF (zhb c a) b e f); (oN (zop c) (oN (ztr c) (cond (nB (znr c)) (some [(aH d),(aB false)]) (oN (zdh a (ln c.Mons)) (cond (nB (zdG a (ln c.Mons))) (some [(aH d),(aB false)]) (oN (zts c a) (oN (zuE (zhb c a) b e f) (cond g (oN (zfG l.Guests) (oN (inb a (ln d.Mons)) (share (up d.Mons a ({ (ix d.Mons a zi) with Guests:=(zf4 l.Guests)}:Mon)) (fun j=>(oN (inb a (ln j)) (share (up j a ({ (ix j a zi) with Pending:=l.Pending}:Mon)) (fun r=>let k:=({d with Mons:=r}:Host);let h:=(zuK k a b 2);let m:=(ix h.Mons a zi).Outer;let p:=(ix m b zV).Page; (cond g (oN (zAx k a b 2) (oN (inb a (ln h.Mons)) (oN (inb b (ln m)) (oN (zkT h.Memory p e f) (some [(aH ({h with Memory:=(zjq h.Memory p e f)}:Host)),(aB g)]))))) (some [(aH k),(aB g)]))))))))) (cond g (oN (zAx d a b 2) (oN (inb a (ln i.Mons)) (oN (inb b (ln n)) (oN (zkT i.Memory q e f) (some [(aH ({i with Memory:=(zjq i.Memory q e f)}:Host)),(aB g)]))))) (some [(aH d),(aB g)]))))))))))
theorem zPK (a:Host)(d e:Int)(f g:Int)(p:zce big [aH a,aI d,aI e,aI f,aI g])(k:zol a d e f g=true):∃N,zCT N a d e f g=some [aH (zg9 a d e f g),aB (zha a d e f g)]:=by
 have q:=(zT a).1 (zL.1 k);refine⟨0,?_⟩;unfold zCT zg9 zha zfE oN nB;conv=>zeta
 refine must k (must rfl ?_);rw[show znr a=zbW a from rfl];cases m:zbW a;{unfold zcH zb8;rw[m];rfl};{refine zdy rfl (must rfl ?_);rw[show zdG d (ln a.Mons)=hasB d (ln a.Mons) from rfl];cases h:hasB d (ln a.Mons);{unfold zcH zb8;rw[m,h];rfl};{have i:=zBc q h;have p:SmB (zf3 (zC a d) e f g):=(by show SmB (zm8 _ _ _ _);unfold zm8;cases ziO (zC a d) e f g;{exact i};{exact⟨zvw i.1,i.2⟩});refine zdy rfl (must k (must (zbh i) ?_));rw[show ziF (zhb a d) e f g=zcH a d e f g from zbbd m h];cases l:zcH a d e f g;{rfl};{have t:zb8 a d e=true:=(by unfold zcH at l;cases u:zb8 a d e;{rw [u]at l;cases l};{rfl});obtain⟨r,s⟩:=zXT h (zf3 (zC a d) e f g);refine must rfl (must (zbh p.2.1) (must (zG h) (shr (must r (shr ?_)))));rw[show zi=mZ from rfl,s];have j:({zjs a with Mons:=up (zjs a).Mons d (zqT (ix (zjs a).Mons d mZ) (zf3 (zC a d) e f g))}:Host)=a:=z4X h;have n:=zWO (c:=f) (v:=g) (o:=fun H=>[.agg (zbk H),.one (.b true)]) q t;refine must rfl ?_;rw[j];exact(show _=_ from n)}}}
theorem zuv:vN 31 zqk:=hF5 zDJ zA zb9 zcZ (zq []) zPK
def z3r:zba:=[(32,zqp),(31,zqk)]++z3q
theorem z3s:zK z3r:=zh zuA (zh zuv zDJ)
def z3t:zba:=z3r
theorem zDK:zK z3t:=z3s
theorem z4y (h:Host)(b:List Entry)(m g c a:Int)(e:Bool):(lookOf h b m g c a e).2.2=zca h m g c a:=by cases d:zca h m g c a;{rw [znQ d]};{rw [zWj d];unfold zh0 zh1;generalize zhF b m g c a=x;cases x;{generalize zeO _ m g c a=y;cases y<;>rfl};{rfl}}
theorem zbaY {h:Host}{m g c a:Int}(b:List Entry)(i:Bool)(f:SmH h)(d:zca h m g c a=true):SmM (lookOf h b m g c a i).1.Memory:=by have hg:zbZ h m g=true:=(by unfold zca at d;cases e:zbZ h m g;{rw [e]at d;cases d};{rfl});exact(zyH f hg).shape.1.1
def zEd (h:Host)(m g a n:Int):Host×Int×Bool:=lookOf h h.IoBuffer m g (zbj a) n true
def zgH (h:Host)(m g a v:Int):Bool:=bif win a 0 15 then (cond (win v 0 99) (zca h m g (zbj a) 2) false) else false
def zp4 (h:Host)(m g a v:Int):Host:=bif zgH h m g a v then { (zEd h m g a 2).1 with Memory:=zbC (zEd h m g a 2).1.Memory (zEd h m g a 2).2.1 (zdf a) v} else h
def zfR (h:Host)(m g a:Int):Bool:=bif win a 0 15 then zca h m g (zbj a) 1 else false
def znp (h:Host)(m g a:Int):Host:=bif zfR h m g a then (zEd h m g a 1).1 else h
def zr3 (h:Host)(m g a:Int):Int:=bif zfR h m g a then cellAt (zEd h m g a 1).1.Memory (zEd h m g a 1).2.1 (zdf a) else 0
@[simp] abbrev zxR (h:Host)(m g a v:Int):Bool:=pc (zcD h)
@[simp] abbrev zrk (h:Host)(m g a v:Int):Host:=zp4 h m g a v
@[simp] abbrev zrl (h:Host)(m g a v:Int):Bool:=zgH h m g a v
@[simp] abbrev zvh (h:Host)(m g a:Int):Bool:=pc (zcD h)
@[simp] abbrev zo5 (h:Host)(m g a:Int):Host:=znp h m g a
@[simp] abbrev zo6 (h:Host)(m g a:Int):Int:=zr3 h m g a
@[simp] abbrev zo7 (h:Host)(m g a:Int):Bool:=zfR h m g a
def zB7:Run:=rF5 dH dI dI dI dI fun b c d e f=>(zxR b c d e f,[aH (zrk b c d e f),aB (zrl b c d e f)])
def zHq (N:Nat)(g:Host)(c d:Int)(a e:Int):OA:=
 let b:=(zo g);let h:=(zkq b b.IoBuffer c d (zcQ a) 2 true);let f:=(zeX b b.IoBuffer c d (zcQ a) 2 true); (oN (zbU g) (oN (zO a 0 15) (cond (nB (zS a 0 15)) (some [(aH b),(aB false)]) (oN (zO e 0 99) (cond (nB (zS e 0 99)) (some [(aH b),(aB false)]) (oN (zf9 a) (oN (zkr b b.IoBuffer c d (zcQ a) 2 true) (cond (nB (zgP b b.IoBuffer c d (zcQ a) 2 true)) (some [(aH f),(aB false)]) (oN (ziP a) (oN (ziV f.Memory h (zee a) e) (some [(aH ({f with Memory:=(zjD f.Memory h (zee a) e)}:Host)),(aB true)])))))))))))
theorem zTg (a:Host)(c d:Int)(b e:Int)(f:zxR a c d b e=true):∃N,zHq N a c d b e=some [aH (zrk a c d b e),aB (zrl a c d b e)]:=by
 have h:=(zT a).1 (zL.1 f);refine⟨0,?_⟩;unfold zHq zrk zrl zp4 zgH oN nB;conv=>zeta
 refine must f (must rfl ?_);rw[show zS b 0 15=win b 0 15 from rfl];cases i:win b 0 15;{rfl};{refine zdy rfl (must rfl ?_);rw[show zS e 0 99=win e 0 99 from rfl];cases j:win e 0 99;{rfl};{refine zdy rfl (must rfl (must f ?_));rw[show zgP (zo a) (zo a).IoBuffer c d (zcQ b) 2 true=zca a c d (zbj b) 2 from z4y _ _ _ _ _ _ _];cases g:zca a c d (zbj b) 2;{rw [show zeX (zo a) (zo a).IoBuffer c d (zcQ b) 2 true=a from congrArg Prod.fst (znQ g)];rfl};{exact zdy rfl (must rfl (must (zbh (zbaY a.IoBuffer true h g)) rfl))}}}
theorem zMh:vN 59 zB7:=kF5 zDK zA zb9 zcZ (zq []) zTg
def zzk:Run:=rF4 dH dI dI dI fun b c d e=>(zvh b c d e,[aH (zo5 b c d e),aI (zo6 b c d e),aB (zo7 b c d e)])
def zDh (N:Nat)(f:Host)(c d a:Int):OA:=
 let b:=(zo f);let g:=(zkq b b.IoBuffer c d (zcQ a) 1 true);let e:=(zeX b b.IoBuffer c d (zcQ a) 1 true); (oN (zbU f) (oN (zO a 0 15) (cond (nB (zS a 0 15)) (some [(aH b),(aI 0),(aB false)]) (oN (zf9 a) (oN (zkr b b.IoBuffer c d (zcQ a) 1 true) (cond (nB (zgP b b.IoBuffer c d (zcQ a) 1 true)) (some [(aH e),(aI 0),(aB false)]) (oN (ziP a) (oN (zo1 e.Memory g (zee a)) (some [(aH e),(aI (zk9 e.Memory g (zee a))),(aB true)])))))))))
theorem zP8 (a:Host)(c d b:Int)(e:zvh a c d b=true):∃N,zDh N a c d b=some [aH (zo5 a c d b),aI (zo6 a c d b),aB (zo7 a c d b)]:=by
 have h:=(zT a).1 (zL.1 e);refine⟨0,?_⟩;unfold zDh zo5 zo6 zo7 znp zr3 zfR oN nB;conv=>zeta
 refine must e (must rfl ?_);rw[show zS b 0 15=win b 0 15 from rfl];cases g:win b 0 15;{rfl};{refine zdy rfl (must rfl (must e ?_));rw[show zgP (zo a) (zo a).IoBuffer c d (zcQ b) 1 true=zca a c d (zbj b) 1 from z4y _ _ _ _ _ _ _];cases f:zca a c d (zbj b) 1;{rw [show zeX (zo a) (zo a).IoBuffer c d (zcQ b) 1 true=a from congrArg Prod.fst (znQ f)];rfl};{exact zdy rfl (must rfl (must rfl rfl))}}
theorem zJx:vN 62 zzk:=kF4 zDK zA zb9 zcZ (zq []) zP8
def z3u:zba:=[(59,zB7),(62,zzk)]++z3t
theorem z3v:zK z3u:=zh zMh (zh zJx zDK)
def z3w:zba:=[(194,zqs),(195,zlQ)]++z3u
theorem zRF:zK z3w:=zh zuC (zh zno z3v)
def zke:Kept:=⟨rp 4 false,zlo⟩
@[simp] abbrev zxU (n:Int):Bool:=ieq n 4
@[simp] abbrev zw8 (n:Int):Kept:=zke
def zCa:Run:=rF1 dI fun b=>(zxU b,[aT .kept (zw8 b)])
def zX2 (N:Nat)(b:Int):OA:=
 let a:=(ln (zgE b)); (oN (ziU b) (oN (cond (few a) (ieq a a) false) (some [(aT .kept (⟨(rp a false),(zgE b)⟩:Kept))])))
theorem zTk (a:Int)(b:zxU a=true):∃N,zX2 N a=some [aT .kept (zw8 a)]:=by refine⟨0,?_⟩;have h:a=4:=qE b;subst h;change _=_;kernel_rfl
theorem zMk:vN 196 zCa:=kF1 zRF zA zb9 zcZ (zq []) zTk
def z3x:zba:=[(196,zCa)]++z3w
theorem zRG:zK z3x:=zh zMk zRF
def zvu:List Slot:=List.replicate 8 ⟨-1,0⟩
def zgt (a:List (List Ins)):Mon:=⟨zvu,zQu,rp 8 false,(a.take 2).map zeD,[],0,0,(a.take 2).map (fun _=>zke),0⟩
theorem zNh {d a b q:Type}(m:Nat)(f:d->a)(g:d->b)(K:List a×List b->Option q):∀(l:List d) (i:Nat) (u:List a×List b),u.1.length+l.length<=2147483648->u.2.length+l.length<=2147483648->
 goL (fun (i:Nat) x (u:List a×List b) k=>bif ilt (i:Int) (m:Int) then (cond (few (ln (ap u.1 [f x]))) (cond (few (ln (ap u.2 [g x]))) (k (ap u.1 [f x],ap u.2 [g x])) none) none) else K u) K l i u=K (u.1++(l.take (m-i)).map f,u.2++(l.take (m-i)).map g)
 |[],i,u,_,_=>by simp[goL]
 |x::l,i,u,n,p=>by simp only[q0]at n p;have e:few (ln (ap u.1 [f x]))=true:=zg8 (by simp[ap];omega);have j:few (ln (ap u.2 [g x]))=true:=zg8 (by simp[ap];omega);by_cases h:i<m;{have c:ilt (i:Int) (m:Int)=true:=qJ (by omega);simp only[goL,c,e,j,cT];rw[zNh m f g K l (i+1) _ (by simp[ap];omega) (by simp[ap];omega)];rw[show m-i=m-(i+1)+1 by omega];simp[ap]};{have c:ilt (i:Int) (m:Int)=false:=qH (by omega);simp only[goL,c,cF];rw[show m-i=0 by omega];simp}
def z4F (u:List Guest×List Kept):OA:=some [AV.agg (Ty.cells .mon (⟨zvu,zQu,rp 8 false,u.1,[],0,0,u.2,0⟩:Mon))]
@[simp] abbrev ztC (a:List (List Ins)):Bool:=pc (SmPs a)
@[simp] abbrev zKu (a:List (List Ins)):Mon:=zgt a
def zEY:Run:=rF1 (dS (.sl .ins)) fun b=>(ztC b,[aT .mon (zKu b)])
def zLc (N:Nat)(k:lP):OA:=
 (oN (ziU 8) (oN (zo9 8) (oN (cond (few 8) (ieq 8 8) false) (iter (σ:=(Int×(Int×(Int×(Int×(Int×(Int×(Int×(lP×(lS×(lM×(lB×(lG×((List Int)×(lK×(lS×(lM×(lB×(lG×((List Int)×(lK×Unit))))))))))))))))))))) N (fun l a=>let j:=a.2.2.2.2.2.2.2.2.2.2.2.2.2.2.1;let i:=a.2.2.2.2.2.2.2.2.2.2.2.2.2.2.2.1;let h:=a.2.2.2.2.2.2.2.2.2.2.2.2.2.2.2.2.1;let g:=a.2.2.2.2.2.2.2.2.2.2.2.2.2.2.2.2.2.1;let f:=a.2.2.2.2.2.2.2.2.2.2.2.2.2.2.2.2.2.2.1;let b:=a.2.2.2.2.2.2.2.1;let c:=a.2.2.2.2.2.2.2.2.2.2.2.2.2.2.2.2.2.2.2.1;let e:=(ap g [(zco (ix b a.1 []))]);let d:=(aT .mon (⟨j,i,h,g,f,a.2.2.2.2.1,a.2.2.2.2.2.1,c,a.2.2.2.2.2.2.1⟩:Mon)); (cond (ilt a.1 (ln b)) (cond (ilt a.1 2) (oN (inb a.1 (ln b)) (oN (ziR (ix b a.1 [])) (oN (few (ln e)) (oN (zxU 4) (oN (few (ln (ap c [(zw8 4)]))) (l ((zM .i64 a.1 1),(a.2.1,(a.2.2.1,(a.2.2.2.1,(a.2.2.2.2.1,(a.2.2.2.2.2.1,(a.2.2.2.2.2.2.1,(b,(a.2.2.2.2.2.2.2.2.1,(a.2.2.2.2.2.2.2.2.2.1,(a.2.2.2.2.2.2.2.2.2.2.1,(a.2.2.2.2.2.2.2.2.2.2.2.1,(a.2.2.2.2.2.2.2.2.2.2.2.2.1,(a.2.2.2.2.2.2.2.2.2.2.2.2.2.1,(j,(i,(h,(e,(f,((ap c [(zw8 4)]),())))))))))))))))))))))))))) (some [d])) (some [d]))) (0,(0,(0,(0,(0,(0,(0,(k,([],([],([],([],([],([],((zgE 8),((zjA 8),((rp 8 false),([],([],([],()))))))))))))))))))))))))
def zXG:FuncId->Nat->Option Tmpl:=zq [(95,0,{n:=36,tm:=[(0,.sl 0 []),(2,.lp 0 0),(3,.lp 1 0),(4,ti)],lo:=[(0,[.sl 1 [],.sl 2 [],.sl 3 [],.sl 4 [],.sl 5 [],ti,ti,.sl 6 [],ti]),(1,[.sl 7 [],.sl 8 [],.sl 9 [],.sl 10 [],.sl 11 [],ti,ti,.sl 12 [],ti])],ro:=[(0,(.sl .ins),false),(1,.slot,true),(2,(.sl .int),true),(3,.bool,true),(4,.guest,true),(5,.int,true),(6,.kept,true),(7,.slot,true),(8,(.sl .int),true),(9,.bool,true),(10,.guest,true),(11,.int,true),(12,.kept,true)]})]
theorem zVV (a:List lI)(f:ztC a=true):∃N,zLc N a=some [aT .mon (zKu a)]:=by
 have e:=zL.1 f;have c:=zc3 e.1;refine zcz fun N d=>?_;unfold zLc oN;conv=>zeta
 refine must rfl (must rfl (must rfl ?_));refine(zbo a (fun i (t:lG×lK)=>((i:Int),0,0,0,0,0,0,a,[],[],[],[],[],[],(zgE 8),(zjA 8),(rp 8 false),t.1,[],t.2,())) _ (fun i (x:List Ins) (u:List Guest×List Kept) h=>bif ilt (i:Int) ((2:Nat):Int) then (cond (few (ln (ap u.1 [zeD x]))) (cond (few (ln (ap u.2 [zke]))) (h (ap u.1 [zeD x],ap u.2 [zke])) none) none) else z4F u) (fun (t:lG×lK)=>(some [(.agg (Ty.cells .mon (⟨(zgE 8),(zjA 8),(rp 8 false),t.1,[],0,0,t.2,0⟩:Mon)))])) (fun i b t rec=>?_) (fun t rec=>?_) _ ([],[]) (d c.1)).trans ?_;{simp only [zbD b,zbf b,zbp b,zbi b c.1,cT];have g:ziR a[i]=true:=zbh (e.2 _ (jL b));simp only[g,cT];rfl};{simp only [zbt,cF]};exact zNh 2 zeD (fun _=>zke) z4F a 0 ([],[]) (by simpa using c.2) (by simpa using c.2)
theorem zPb:vN 95 zEY:=kF1 zRG zA zb9 zcZ zXG zVV
def z3y:zba:=[(95,zEY)]++z3x
theorem zRH:zK z3y:=zh zPb zRG
def z1J:List (List Int):=List.replicate 12 [0,0,0,0]
def zfp (a:List (List (List Ins))):Host:=⟨z1J,(a.take 3).map zgt,[],[]⟩
def zFJ (a:List (List (List Ins))):Prop:=a.length<=1048576/\∀p∈a,SmPs p
@[simp] abbrev zrm (a:List (List (List Ins))):Bool:=pc (zFJ a)
@[simp] abbrev zd3 (a:List (List (List Ins))):Host:=zfp a
def zZY (t:List Mon):OA:=some [AV.agg (zbk ⟨z1J,t,[],[]⟩)]
def zsN:Run:=rF1 (dS (.sl (.sl .ins))) fun b=>(zrm b,[aH (zd3 b)])
def zHr (N:Nat)(d:lQ):OA:=
 (oN (zo9 12) (iter (σ:=(Int×(lQ×(lM×(lN×(lE×(lE×(lM×(lN×(lE×(lE×Unit))))))))))) N (fun e a=>let c:=(ap a.2.2.2.2.2.2.2.1 [(zKu (ix a.2.1 a.1 []))]);let b:=(aH (⟨a.2.2.2.2.2.2.1,a.2.2.2.2.2.2.2.1,a.2.2.2.2.2.2.2.2.1,a.2.2.2.2.2.2.2.2.2.1⟩:Host)); (cond (ilt a.1 (ln a.2.1)) (cond (ilt a.1 3) (oN (inb a.1 (ln a.2.1)) (oN (ztC (ix a.2.1 a.1 [])) (oN (few (ln c)) (e ((zM .i64 a.1 1),(a.2.1,(a.2.2.1,(a.2.2.2.1,(a.2.2.2.2.1,(a.2.2.2.2.2.1,(a.2.2.2.2.2.2.1,(c,(a.2.2.2.2.2.2.2.2.1,(a.2.2.2.2.2.2.2.2.2.1,())))))))))))))) (some [b])) (some [b]))) (0,(d,([],([],([],([],((zjA 12),([],([],([],()))))))))))))
def zTT:FuncId->Nat->Option Tmpl:=zq [(23,0,{n:=28,tm:=[(0,.sl 0 []),(2,.lp 0 0),(3,.lp 1 0),(4,ti)],lo:=[(0,[.sl 1 [],.sl 2 [],.sl 3 [],.sl 4 []]),(1,[.sl 5 [],.sl 6 [],.sl 7 [],.sl 8 []])],ro:=[(0,(.sl (.sl .ins)),false),(1,(.sl .int),true),(2,.mon,true),(3,.entry,true),(4,.entry,true),(5,(.sl .int),true),(6,.mon,true),(7,.entry,true),(8,.entry,true)]})]
theorem zTh (a:List lP)(f:zrm a=true):∃N,zHr N a=some [aH (zd3 a)]:=by
 have e:=zL.1 f;have d:=zc3 e.1;refine zcz fun N c=>?_;unfold zHr oN;conv=>zeta
 refine must rfl ?_;refine(zbo a (fun i (t:lN)=>((i:Int),a,[],[],[],[],(zjA 12),t,[],[],())) _ (fun i (x:List lI) (t:List Mon) h=>bif ilt (i:Int) ((3:Nat):Int) then (cond (few (ln (ap t [zgt x]))) (h (ap t [zgt x])) none) else zZY t) (fun (t:lN)=>(some [(.agg (zbk (⟨(zjA 12),t,[],[]⟩:Host)))])) (fun i b t rec=>?_) (fun t rec=>?_) _ ([]) (c d.1)).trans ?_;{simp only [zbD b,zbf b,zbp b,zbi b d.1,cT];have g:ztC a[i]=true:=zbh (e.2 _ (jL b));simp only[g,cT];rfl};{simp only [zbt,cF]};exact zR5 3 zgt zZY a 0 [] (by simpa using d.2)
theorem zv9:vN 23 zsN:=kF1 zRH zA zb9 zcZ zTT zTh
def z3z:zba:=[(23,zsN)]++z3y
theorem zRI:zK z3z:=zh zv9 zRH
def ziD:Nat->Nat->Kept->Kept
 | 0,_,k=>k
 |n+1,i,k=>ziD n (i+1) (zbR k (i:Int))
def zjk (k:Kept):Kept:=ziD k.Known.length 0 k
theorem z1i (k:Kept)(p:Int):(zbR k p).Known.length=k.Known.length:=by unfold zbR;cases zdi k p;{rfl};{exact zgy _ _ _}
theorem zx3:∀(n i:Nat) (k:Kept),SmK k->SmK (ziD n i k)
 | 0,_,_,h=>h
 |n+1,i,k,h=>zx3 n (i+1) _ (zpI h)
@[simp] abbrev zsW (k:Kept):Bool:=pc (SmK k)
@[simp] abbrev zxO (k:Kept):Kept:=zjk k
def zwF:Run:=rF1 (dT .kept) fun b=>(zsW b,[aT .kept (zxO b)])
def zBD (N:Nat)(c:Kept):OA:=
 (oN (zfW c) (iter (σ:=(Int×(lB×(lS×(lB×(lS×Unit)))))) N (fun d a=>let b:=(⟨a.2.1,a.2.2.1⟩:Kept); (cond (ilt a.1 (ln a.2.1)) (oN (zlV b a.1) (d ((zM .i64 a.1 1),((zlb b a.1).Known,((zlb b a.1).Slots,(a.2.2.2.1,(a.2.2.2.2.1,()))))))) (some [(aT .kept b)]))) (0,((zdw c).Known,((zdw c).Slots,([],([],())))))))
def zOn:FuncId->Nat->Option Tmpl:=zq [(125,0,{n:=17,tm:=[(1,.lp 0 0),(2,.lp 1 0),(3,ti)],lo:=[(0,[.sl 0 [],.sl 1 []]),(1,[.sl 2 [],.sl 3 []])],ro:=[(0,.bool,true),(1,.slot,true),(2,.bool,true),(3,.slot,true)]})]
theorem zNd (a:Kept)(g:zsW a=true):∃N,zBD N a=some [aT .kept (zxO a)]:=by
 have d:=zL.1 g;have f:=zc3 d.1;refine zcz fun N c=>?_;unfold zBD oN;conv=>zeta
 refine must (zbM ((zym _).2 d)) ?_;refine(zF2 a.Known.length (fun i (k:Kept)=>((i:Int),(k.Known,(k.Slots,([],([],())))))) _ (fun i k=>SmK k/\k.Known.length=a.Known.length) (fun i k=>some [AV.agg (Ty.cells .kept (ziD (a.Known.length-i) i k))]) (fun i k rec e b h=>?_) (fun k rec b=>?_) N 0 a ⟨d,rfl⟩ (j5 _) (c f.1)).trans rfl;{refine must (zbD (by rw[b.2];exact e)) (must (zbh b.1) ?_);have q:=h (zbR k (i:Int)) ⟨zpI b.1,by rw[z1i];exact b.2⟩;rw[show a.Known.length-i=a.Known.length-(i+1)+1 by omega];rw[zbi e f.1];exact q};{refine zdy (by show ilt (a.Known.length:Int) (ln k.Known)=false;rw[ln,b.2];exact qH (by omega)) ?_;rw[k8];rfl}
theorem zGy:vN 125 zwF:=kF1 zRI zA zb9 zcZ zOn zNd
def z3A:zba:=[(125,zwF)]++z3z
theorem zRJ:zK z3A:=zh zGy zRI
def zvN:Nat->Nat->List Kept->List Kept
 | 0,_,l=>l
 |n+1,j,l=>zvN n (j+1) (up l (j:Int) (zjk (ix l (j:Int) kZ)))
def zvO (x:Mon)(n j:Nat):Mon:={x with Tables:=zvN n j x.Tables}
def zoa:Nat->Nat->List Mon->List Mon
 | 0,_,t=>t
 |n+1,i,t=>zoa n (i+1) (up t (i:Int) (zvO (ix t (i:Int) mZ) (ix t (i:Int) mZ).Tables.length 0))
def cold (h:Host):Host:=⟨h.Memory,zoa h.Mons.length 0 h.Mons,[],[]⟩
theorem zN3:∀(n j:Nat) (l:List Kept),j+n<=l.length->zDt l->zDt (zvN n j l)
 | 0,_,_,_,h=>h
 |n+1,j,l,b,h=>by have a:j<l.length:=(by omega);refine zN3 n (j+1) _ (by rw[zgy];omega) (zzE h (zx3 _ _ _ ?_));rw[zbp a];exact h.2 _ (jL a)
theorem zN5 {x:Mon}(h:zeZ x){n j:Nat}(a:j+n<=x.Tables.length):zeZ (zvO x n j):=⟨h.1,h.2.1,h.2.2.1,h.2.2.2.1,h.2.2.2.2.1,zN3 n j _ a h.2.2.2.2.2⟩
@[simp] abbrev zKr (h:Host):Bool:=pc (zcD h)
@[simp] abbrev zWT (h:Host):Host:=cold h
def zNH:Run:=rF1 dH fun b=>(zKr b,[aH (zWT b)])
def zUj (N:Nat)(d:Host):OA:=
 (oN (zbU d) (iter (σ:=(Int×(lM×(lN×(lE×(lE×(lM×(lN×(lE×(lE×Unit)))))))))) N (fun g b=>(cond (ilt b.1 (ln b.2.2.1)) (iter (σ:=(Int×(Int×(lM×(lN×(lE×(lE×(lM×(lN×(lE×(lE×Unit))))))))))) N (fun h a=>let e:=(inb a.1 (ln a.2.2.2.1));let c:=(ix a.2.2.2.1 a.1 zi);let f:=(ix c.Tables a.2.1 zeh); (oN e (cond (ilt a.2.1 (ln c.Tables)) (oN e (oN e (oN (inb a.2.1 (ln c.Tables)) (oN (zsW f) (oN (inb a.2.1 (ln c.Tables)) (share (up a.2.2.2.1 a.1 ({c with Tables:=(up c.Tables a.2.1 (zxO f))}:Mon)) (fun i=>(h (a.1,((zM .i64 a.2.1 1),(a.2.2.1,(i,(a.2.2.2.2.1,(a.2.2.2.2.2.1,(a.2.2.2.2.2.2.1,(a.2.2.2.2.2.2.2.1,(a.2.2.2.2.2.2.2.2.1,(a.2.2.2.2.2.2.2.2.2.1,())))))))))))))))))) (g ((zM .i64 a.1 1),(a.2.2.1,(a.2.2.2.1,(a.2.2.2.2.1,(a.2.2.2.2.2.1,(a.2.2.2.2.2.2.1,(a.2.2.2.2.2.2.2.1,(a.2.2.2.2.2.2.2.2.1,(a.2.2.2.2.2.2.2.2.2.1,()))))))))))))) (b.1,(0,(b.2.1,(b.2.2.1,(b.2.2.2.1,(b.2.2.2.2.1,(b.2.2.2.2.2.1,(b.2.2.2.2.2.2.1,(b.2.2.2.2.2.2.2.1,(b.2.2.2.2.2.2.2.2.1,()))))))))))) (some [(aH (⟨b.2.1,b.2.2.1,[],[]⟩:Host))]))) (0,((zo d).Memory,((zo d).Mons,((zo d).Buffer,((zo d).IoBuffer,([],([],([],([],())))))))))))
def z2Q:FuncId->Nat->Option Tmpl:=zq [(46,0,{n:=48,tm:=[(1,.lp 0 0),(2,.lp 1 0),(3,ti)],lo:=[(0,[.sl 0 [],.sl 1 [],.sl 2 [],.sl 3 []]),(1,[.sl 4 [],.sl 5 [],.sl 6 [],.sl 7 []])],ro:=[(0,(.sl .int),true),(1,.mon,true),(2,.entry,true),(3,.entry,true),(4,(.sl .int),true),(5,.mon,true),(6,.entry,true),(7,.entry,true)]}),(46,2,{n:=48,tm:=[(1,.lp 0 0),(2,.lp 1 0),(3,ti),(4,ti)],lo:=[(0,[.sl 0 [],.sl 1 [],.sl 2 [],.sl 3 []]),(1,[.sl 4 [],.sl 5 [],.sl 6 [],.sl 7 []])],ro:=[(0,(.sl .int),true),(1,.mon,true),(2,.entry,true),(3,.entry,true),(4,(.sl .int),true),(5,.mon,true),(6,.entry,true),(7,.entry,true)]})]
theorem z1G (a:Host)(m:zKr a=true):∃N,zUj N a=some [aH (zWT a)]:=by
 have v:=(zT a).1 (zL.1 m);have s:=zc3 v.2.1.1;refine zcz fun N f=>?_;unfold zUj oN;conv=>zeta
 refine must m ?_;refine(zF2 a.Mons.length (fun i (t:List Mon)=>((i:Int),(a.Memory,(t,(a.Buffer,(a.IoBuffer,([],([],([],([],())))))))))) _ (fun i t=>zrP t/\t.length=a.Mons.length) (fun i t=>some [AV.agg (zbk ⟨a.Memory,zoa (a.Mons.length-i) i t,[],[]⟩)]) (fun i t rec n e x=>?_) (fun t rec e=>?_) N 0 a.Mons ⟨v.2.1,rfl⟩ (j5 _) (f s.1)).trans rfl
 .have hit:i<t.length:=(by rw[e.2];exact n);have l:zeZ (ix t (i:Int) mZ):=by rw[zbp hit];exact e.1.2 _ (jL hit)
  have r:=zc3 l.2.2.2.2.2.1;refine must (zbD hit) ?_;refine(zF2 (ix t (i:Int) mZ).Tables.length (fun j (u:List Mon)=>((i:Int),((j:Int),(a.Memory,(u,(a.Buffer,(a.IoBuffer,([],([],([],([],())))))))))))
   _ (fun j u=>u.length=t.length/\zeZ (ix u (i:Int) mZ)/\(ix u (i:Int) mZ).Tables.length=(ix t (i:Int) mZ).Tables.length)
   (fun j u=>rec (((i+1:Nat):Int),(a.Memory,(up u (i:Int) (zvO (ix u (i:Int) mZ) ((ix t (i:Int) mZ).Tables.length-j) j),(a.Buffer,(a.IoBuffer,([],([],([],([],()))))))))))
   (fun j u h p c k=>?_) (fun u h c=>?_) N 0 t ⟨rfl,l,rfl⟩ (j5 _) (f r.1)).trans ?_
  .have b:i<u.length:=(by rw[c.1];exact hit);have d:j<(ix u (i:Int) mZ).Tables.length:=(by rw[c.2.2];exact p);have g:SmK (ix (ix u (i:Int) mZ).Tables (j:Int) kZ):=by rw[zbp d];exact c.2.1.2.2.2.2.2.2 _ (jL d)
   refine must (zbf b) (must (zbD d) (must (zbf b) (must (zbf b) (must (zbf d) (must (zbh g) (must (zbf d) (shr ?_)))))));have w:zeZ {ix u (i:Int) mZ with Tables:=up (ix u (i:Int) mZ).Tables (j:Int) (zjk (ix (ix u (i:Int) mZ).Tables (j:Int) kZ))} :=
    ⟨c.2.1.1,c.2.1.2.1,c.2.1.2.2.1,c.2.1.2.2.2.1,c.2.1.2.2.2.2.1,zzE c.2.1.2.2.2.2.2 (zx3 _ _ _ g)⟩
   have q:=k (up u (i:Int) {ix u (i:Int) mZ with Tables:=up (ix u (i:Int) mZ).Tables (j:Int) (zjk (ix (ix u (i:Int) mZ).Tables (j:Int) kZ))}) ⟨by rw[zgy];exact c.1,by rw[zdP b];exact w,by rw[zdP b];simp only[zgy];exact c.2.2⟩;rw[zbi p r.1];refine q.trans ?_;rw[zdP b,zxi,show (ix t (i:Int) mZ).Tables.length-j=(ix t (i:Int) mZ).Tables.length-(j+1)+1 by omega];rfl
  {have b:i<u.length:=(by rw[c.1];exact hit);refine must (zbf b) (zdy (by show ilt ((ix t (i:Int) mZ).Tables.length:Int) (ln (ix u (i:Int) mZ).Tables)=false;rw[ln,c.2.2];exact qH (by omega)) ?_);rw[zbi n s.1,k8];show rec (_,(a.Memory,(u,_)))=rec (_,(a.Memory,(up u (i:Int) (ix u (i:Int) mZ),_)));rw[zQ4 b]};{have q:=x (up t (i:Int) (zvO (ix t (i:Int) mZ) (ix t (i:Int) mZ).Tables.length 0)) ⟨zjc e.1 (zN5 l (by omega)),by rw[zgy];exact e.2⟩;refine q.trans ?_;rw[show a.Mons.length-i=a.Mons.length-(i+1)+1 by omega];rfl}
 {refine zdy (by show ilt (a.Mons.length:Int) (ln t)=false;rw[ln,e.2];exact qH (by omega)) ?_;rw[k8];rfl}
theorem zVh:vN 46 zNH:=kF1 zRJ zA zb9 zcZ z2Q z1G
def z3B:zba:=[(46,zNH)]++z3A
theorem z3C:zK z3B:=zh zVh zRJ
end
end Go.Proofs.YthhbajmehldikaaGreat.E
