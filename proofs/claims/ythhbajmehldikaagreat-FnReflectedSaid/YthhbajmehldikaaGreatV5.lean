/- What is proved here: a part of the proof that the statement of this claim holds (several texts of wip/, laid together). -/
import Derived.Test.YthhbajmehldikaaGreatV4
namespace Go.Proofs.YthhbajmehldikaaGreat.E
open Go
set_option linter.constructorNameAsVariable false
set_option linter.unusedVariables false
set_option maxRecDepth 100000
set_option linter.unusedSimpArgs false
set_option linter.unusedSectionVars false
noncomputable section
abbrev mZ:Mon:=Ty.dflt .mon
abbrev sZ:Slot:=Ty.dflt .slot
def ShM (x:Mon):Prop:=x.Outer.length=8/\x.Out.length=8/\x.Dirty.length=8/\x.Tables.length=x.Guests.length
def Shape (h:Host):Prop:=SmH h/\∀x∈h.Mons,ShM x
theorem zja {h:Host}{m:Int}{x:Mon}(a:Shape h)(c:zfp x)(d:ShM x):Shape {h with Mons:=up h.Mons m x}:=by refine⟨⟨a.1.1,zjO a.1.2.1 c,a.1.2.2⟩,fun y b=>?_⟩;rcases qY b with b|rfl;{exact a.2 y b};{exact d}
theorem zcC {h:Host}(b:Shape h){m:Int}(a:hasB m (ln h.Mons)=true):zfp (ix h.Mons m mZ)/\ShM (ix h.Mons m mZ):=⟨b.1.2.1.2 _ (zbA a _),b.2 _ (zbA a _)⟩
theorem zUe {h:Host}{b:List (List Int)}(a:Shape h)(c:SmM b):Shape {h with Memory:=b}:=⟨⟨c,a.1.2⟩,a.2⟩
theorem zup {h:Host}{m p:Int}{s:Slot}(e:hasB m (ln h.Mons)=true)(b:Shape h):Shape (zco h m p s):=by refine⟨zKq e b.1,?_⟩;obtain⟨_,a⟩:=zcC b e;have d:∀y∈up h.Mons m {zld (ix h.Mons m mZ) p (ix h.Mons m mZ).Tables.length with Outer:=up (ix h.Mons m mZ).Outer p s},ShM y:=(by intro y c;rcases qY c with c|rfl;{exact b.2 y c};{exact⟨by simpa using a.1,a.2.1,a.2.2.1,by simpa [zld,zrI] using a.2.2.2⟩});unfold zco;cases ine (ix (ix h.Mons m mZ).Outer p sZ).Page (-1)<;>exact d
theorem zgu (h:Host)(m p:Int)(s:Slot):(zco h m p s).Mons=up h.Mons m {zld (ix h.Mons m mZ) p (ix h.Mons m mZ).Tables.length with Outer:=up (ix h.Mons m mZ).Outer p s}/\(zco h m p s).Memory=h.Memory:=by unfold zco;cases ine (ix (ix h.Mons m mZ).Outer p sZ).Page (-1)<;>exact⟨rfl,rfl⟩
theorem zeC {h:Host}{m k:Int}{x:Mon}(a:hasB m (ln h.Mons)=true):hasB m (ln (up h.Mons k x))=true:=by simpa [ln] using a
theorem zJK {h:Host}{m k p:Int}{s:Slot}(a:hasB m (ln h.Mons)=true):hasB m (ln (zco h k p s).Mons)=true:=by rw[(zgu h k p s).1];exact zeC a
theorem zdy {b:Type}{l:List b}{p:Int}(h:l.length=8)(a:hasB p 8=true):hasB p (ln l)=true:=by rw[ln,h];exact a
def zB1 (h:Host)(m p:Int)(s:Slot):Host :=
 bif ine s.Page (-1) then ⟨h.Memory,up h.Mons m (zld (ix h.Mons m mZ) p (ix h.Mons m mZ).Guests.length),flushed h.Buffer s.Page,flushed h.IoBuffer s.Page⟩
 else ⟨h.Memory,up h.Mons m (zld (ix h.Mons m mZ) p (ix h.Mons m mZ).Guests.length),h.Buffer,h.IoBuffer⟩
theorem zCF {h:Host}{k:Nat}{p:Int}{s:Slot}(a:k<h.Mons.length)(b:(ix h.Mons (k:Int) mZ).Tables.length=(ix h.Mons (k:Int) mZ).Guests.length) :
 zB1 {h with Mons:=up h.Mons (k:Int) {ix h.Mons (k:Int) mZ with Outer:=up (ix h.Mons (k:Int) mZ).Outer p s}} (k:Int) p (ix (ix h.Mons (k:Int) mZ).Outer p sZ)=zco h (k:Int) p s:=by
 unfold zco zB1;simp only[zdR a,zyG,zld,b]
def z3R {a:Type}(m p:Int)(i:Nat)(t:List Mon)(b:List Mon->Option a):Option a :=
 (cond (inb (i:Int) (ln (ix t m mZ).Tables)) (cond (inb (i:Int) (ln (ix t m mZ).Guests)) (cond (pc (SmK (ix (ix t m mZ).Tables (i:Int) zfO)/\(ix (ix t m mZ).Guests (i:Int) zD).Live.length<=1048576)) (cond (inb (i:Int) (ln (ix t m mZ).Tables)) (b (up t m ({ (ix t m mZ) with Tables:=(up (ix t m mZ).Tables (i:Int) (zid (ix (ix t m mZ).Tables (i:Int) zfO) (ix (ix t m mZ).Guests (i:Int) zD).Live p))}:Mon))) none) none) none) none)
theorem z2e {j:Type}{mons:List Mon}{k:Nat}(d:k<mons.length)(p:Int)(c:zfp (ix mons (k:Int) mZ))(f:(ix mons (k:Int) mZ).Tables.length=(ix mons (k:Int) mZ).Guests.length)(K:List Mon->Option j) :
 ∀(n i:Nat),i+n=(ix mons (k:Int) mZ).Guests.length->goN (fun i t g=>z3R (k:Int) p i t g) K n i (up mons (k:Int) (zld (ix mons (k:Int) mZ) p i))=K (up mons (k:Int) (zld (ix mons (k:Int) mZ) p (ix mons (k:Int) mZ).Guests.length))
 | 0,i,h=>by have:i=(ix mons (k:Int) mZ).Guests.length:=(by omega);subst this;rfl
 |n+1,i,h=>by
  have b:i<(ix mons (k:Int) mZ).Guests.length:=(by omega);have a:i<(zmq (ix mons (k:Int) mZ).Guests p i (ix mons (k:Int) mZ).Tables).length:=by rw[zrI];omega
  have e:pc (SmK (ix (zmq (ix mons (k:Int) mZ).Guests p i (ix mons (k:Int) mZ).Tables) (i:Int) zfO)/\(ix (ix mons (k:Int) mZ).Guests (i:Int) zD).Live.length<=1048576)=true :=
   zbJ ⟨by rw[zbp a];exact(zyD _ _ _ _ (by omega) c.2.2.2.2.2).2 _ (jL a),by rw[zbp b];exact(c.2.2.2.1.2 _ (jL b)).2.2.1⟩
  simp only[goN,z3R,zdR d,zyG,zld,zbi a,zbi b,e,cT];exact z2e d p c f K n (i+1) (by omega)
@[simp] abbrev zel (h:Host)(m p:Int)(s:Slot):Bool:=pc (Shape h/\hasB m (ln h.Mons)=true)
@[simp] abbrev zem (h:Host)(m p:Int)(s:Slot):Host:=zB1 h m p s
def znm:List CV->List AV->Option (Bool×List CV×List AV)
 |[.s (.sl .int) b,.s .mon c,.s .entry d,.s .entry e],[.one (.i .i64 f),.one (.i .i64 g),.agg [.i .i64 h,.i .i64 j]]=>some ((zel (⟨b,c,d,e⟩:Host) f g (⟨h,j⟩:Slot)),zbf (zem (⟨b,c,d,e⟩:Host) f g (⟨h,j⟩:Slot)),[])
 |_,_=>none
def zqP (N:Nat)(c:Host)(i n:Int)(k:Slot):OA:=
 (oN (inb i (ln c.Mons)) (iter (σ:=(Int×(Int×(Int×(Int×(Int×(Int×(lN×(lM×(lE×(lE×Unit))))))))))) N (fun p a=>let j:=a.2.2.2.2.2.2.2.1;let h:=a.2.2.2.2.2.2.1;let e:=a.2.2.2.2.1;let g:=a.2.2.2.2.2.2.2.2.1;let f:=a.2.2.2.2.2.2.2.2.2.1;let b:=a.2.2.2.1;let d:=(ix h a.2.1 zi);let m:=(ix d.Tables b zfO);let l:=(ix d.Guests b zD).Live; (cond (ilt b a.2.2.1) (oN (inb b (ln d.Tables)) (oN (inb b (ln d.Guests)) (oN (zq4 m l a.1) (oN (inb b (ln d.Tables)) (share (up h a.2.1 ({d with Tables:=(up d.Tables b (zvV m l a.1))}:Mon)) (fun q=>(p (a.1,(a.2.1,(a.2.2.1,((zM .i64 b 1),(e,(a.2.2.2.2.2.1,(q,(j,(g,(f,()))))))))))))))))) (cond (ine e (-1)) (oN (zhX g e) (oN (zhX f e) (some [(aH (⟨j,h,(zkP g e),(zkP f e)⟩:Host))]))) (some [(aH (⟨j,h,g,f⟩:Host))])))) (n,(i,((ln (ix c.Mons i zi).Guests),(0,(k.Page,(k.Rights,(c.Mons,(c.Memory,(c.Buffer,(c.IoBuffer,()))))))))))))
def zMy:FuncId->Nat->Option Tmpl:=zq [(210,0,{n:=71,tm:=[(0,.lp 0 0),(2,ti),(7,.lp 1 0),(8,.ep 0 [] 0),(20,ti),(21,ti)],lo:=[(0,[.sl 1 [],.sl 0 [],.sl 2 [],.sl 3 []]),(1,[ti,ti])],ro:=[(0,.mon,true),(1,(.sl .int),true),(2,.entry,true),(3,.entry,true)]})]
theorem zPg (N:Nat)(c:Host)(a b:Int)(d:Slot):zpo (cQ zrT zrd zSn zZy) zMy N 12 210 [true,true,true,true] (zbf c) [aI a,aI b,aT .slot d]=zqP N c a b d:=by kernel_rfl
theorem zLV (c:Host)(d b:Int)(a:Slot)(s:zci big (.agg (zbf c)::[aI d,aI b,aT .slot a]))(r:zel c d b a=true):∃N,zqP N c d b a=some (.agg (zbf (zem c d b a))::[]):=by
 obtain⟨h,g⟩:=zK.1 r;obtain⟨l,q⟩:=zcC h g;have hg:(ix c.Mons d mZ).Guests.length<=big:=(zc2 l.2.2.2.1.1).1;refine zcp fun N f=>?_;unfold zqP oN;conv=>zeta
 refine must (zI g) ?_;refine(zbo ((ix c.Mons d zi).Guests) (fun i (t:lN)=>(b,d,(ln (ix c.Mons d zi).Guests),(i:Int),a.Page,a.Rights,t,c.Memory,c.Buffer,c.IoBuffer,())) _ (fun i (x:Guest) (t:List Mon) j=>z3R d b i t j) (fun (t:lN)=>(cond (ine a.Page (-1)) (cond (zhX c.Buffer a.Page) (cond (zhX c.IoBuffer a.Page) (some [(.agg (zbf (⟨c.Memory,t,(zkP c.Buffer a.Page),(zkP c.IoBuffer a.Page)⟩:Host)))]) none) none) (some [(.agg (zbf (⟨c.Memory,t,c.Buffer,c.IoBuffer⟩:Host)))]))) (fun i e t rec=>?_) (fun t rec=>?_) _ (c.Mons) (f hg)).trans ?_;{simp only [zbG e,zbi e,zbp e,zbj e hg,cT];rfl};{simp only [zbw,cF]};obtain⟨k,rfl,m⟩:=zdK (n:=c.Mons.length) g;rw[zz0 (fun i t j=>z3R (k:Int) b i t j)];have p:c.Mons=up c.Mons (k:Int) (zld (ix c.Mons (k:Int) mZ) b 0):=(zST m _).symm;refine(congrArg _ p).trans ((z2e m b l q.2.2.2 _ _ 0 (j6 _)).trans ?_);show (cond (ine a.Page (-1)) _ _)=some [AV.agg (zbf (zB1 c (k:Int) b a))];unfold zB1;cases ine a.Page (-1);{rfl};{exact must rfl (must (zbJ h.1.2.2.1) (must (zbJ h.1.2.2.2) rfl))}
theorem zFr:zbM Tryz.prog 210 [true,true,true,true] znm:=by refine zhn (zgF zhx zx zy zeB) (zjU (by kernel_rfl)) ?_;intro g a b j i f h;have d:=zlD f;unfold znm at h;split at h;{obtain⟨e,rfl,rfl⟩:=zn2 h;obtain⟨N,c⟩:=zLV _ _ _ _ (by exact d) e;exact⟨rfl,_,N,12,(zPg N _ _ _ _ ).trans c⟩};{cases h}
def z4q:zcL:=[(210,([true,true,true,true],znm))]++zSn
theorem zSo:zb8 z4q:=zcr zy (by
 intro x a;simp only[qG,qN,or_false]at a;rcases a with rfl
 .exact zFr)
def zeJ (h:Host)(m p:Int):Host:={h with Mons:=up h.Mons m {ix h.Mons m mZ with Out:=up (ix h.Mons m mZ).Out p (zct h.Memory (ix (ix h.Mons m mZ).Outer p sZ).Page)}}
def zdn (h:Host)(m p:Int):Host:=zco (zeJ h m p) m p noSlot
theorem zZn {m:List (List Int)}{p:Int}(h:SmM m):(zct m p).length<=1048576:=by unfold zct;cases a:hasB p (ln m);{exact(by decide:zCR.length<=1048576)};{exact h.2 _ (zbA a _)}
theorem zzp {h:Host}{m p:Int}(c:Shape h)(d:hasB m (ln h.Mons)=true):Shape (zeJ h m p):=by obtain⟨a,b⟩:=zcC c d;exact zja c ⟨a.1,zPW a.2.1 (zZn c.1.1),a.2.2⟩ ⟨b.1,by simpa using b.2.1,b.2.2⟩
theorem zPQ {h:Host}{m p:Int}(b:Shape h)(a:hasB m (ln h.Mons)=true):Shape (zdn h m p):=zup (zeC a) (zzp b a)
@[simp] abbrev zva (h:Host)(m p:Int):Bool:=pc (Shape h/\hasB m (ln h.Mons)=true/\hasB p 8=true)
@[simp] abbrev zCD (h:Host)(m p:Int):Host:=zdn h m p
def zwn:List AV->Option (Bool×List AV)
 |[.agg [.s (.sl .int) b,.s .mon c,.s .entry d,.s .entry e],.one (.i .i64 f),.one (.i .i64 g)]=>some ((zva (⟨b,c,d,e⟩:Host) f g),[aH (zCD (⟨b,c,d,e⟩:Host) f g)])
 |_=>none
def zBq (N:Nat)(a:Host)(b c:Int):OA:=
 let d:=(ix a.Mons b zi);let e:=(ix d.Outer c zZ).Page; (oN (inb b (ln a.Mons)) (oN (inb b (ln a.Mons)) (oN (inb c (ln d.Outer)) (oN (zkb a.Memory e) (oN (inb c (ln d.Out)) (share (up a.Mons b ({d with Out:=(up d.Out c (zoP a.Memory e))}:Mon)) (fun g=>let f:=({a with Mons:=g}:Host); (oN zcx (oN (zfm f b c zbv) (some [(aH (zhg f b c zbv))]))))))))))
theorem z02 (N:Nat)(a:Host)(b c:Int):zHo (cQ zrT zrd z4q zZy) (zq []) N 12 281 [true,true,true,true,false,false] 1 1 [[0],[1],[2],[4],[7]] .mon [aH a,aI b,aI c]=zBq N a b c:=by kernel_rfl
theorem zYj (b:Host)(d c:Int)(m:zci big [aH b,aI d,aI c])(j:zva b d c=true):∃N,zBq N b d c=some [aH (zCD b d c)]:=by
 obtain⟨g,a,f⟩:=zK.1 j;obtain⟨l,e⟩:=zcC g a;obtain⟨k,rfl,h⟩:=zdK (n:=b.Mons.length) a;have i:=zzp (p:=c) g a;refine⟨0,?_⟩;unfold zBq oN;conv=>zeta
 refine must (zI a) (must (zI a) (must (zI (zdy e.1 f)) (must (zbJ ((zqZ _).2 g.1.1)) (must (zI (zdy e.2.1 f)) (shr (must rfl (must (zbJ ⟨(zT _).2 i.1,zeC a,?_,?_⟩) rfl)))))));{simp only [zdR h];exact zdy e.1 f};{simp only [zdR h];exact kY e.2.2.2}
theorem zRr:zd4 Tryz.prog 281 [true,true,true,true,false,false] (some (1,1,[[0],[1],[2],[4],[7]])) zwn:=by refine zmB (kt:=.mon) (zgF zhx zx zSo zeB) (zjU (by kernel_rfl)) (by kernel_rfl) ?_;intro a g f e h;have c:=zjd e;unfold zwn at h;split at h;{obtain⟨d,rfl⟩:=zea h;obtain⟨N,b⟩:=zYj _ _ _ (by exact c) d;exact⟨⟨_,rfl⟩,rfl,_,N,12,(z02 N _ _ _ ).trans b⟩};{cases h}
@[simp] abbrev zLI (h:Host)(m p:Int):Bool:=pc (Shape h/\hasB m (ln h.Mons)=true/\hasB p 8=true)
@[simp] abbrev zLJ (h:Host)(m p:Int):Host:=zdn h m p
def zzb:List CV->List AV->Option (Bool×List CV×List AV)
 |[.s (.sl .int) b,.s .mon c,.s .entry d,.s .entry e],[.one (.i .i64 f),.one (.i .i64 g)]=>some ((zLI (⟨b,c,d,e⟩:Host) f g),zbf (zLJ (⟨b,c,d,e⟩:Host) f g),[])
 |_,_=>none
def zKB (N:Nat)(c:Host)(b a:Int):OA:=
 let d:=(ix c.Mons b zi);let e:=(ix d.Outer a zZ); (oN (inb b (ln c.Mons)) (oN (inb a (ln d.Outer)) (oN (zjZ c.Memory e.Page) (oN (inb a (ln d.Out)) (share (up c.Mons b ({d with Out:=(up d.Out a (zot c.Memory e.Page))}:Mon)) (fun g=>let f:=(ix g b zi); (oN zfy (oN (inb a (ln f.Outer)) (share (up g b ({f with Outer:=(up f.Outer a zfx)}:Mon)) (fun i=>let h:=({c with Mons:=i}:Host); (oN (zel h b a e) (some [(aH (zem h b a e))]))))))))))))
theorem z7i (N:Nat)(c:Host)(a b:Int):zpo (cQ zrT zrd z4q zZy) (zq []) N 12 314 [true,true,true,true] (zbf c) [aI a,aI b]=zKB N c a b:=by kernel_rfl
theorem z4c (c:Host)(e a:Int)(w:zci big (.agg (zbf c)::[aI e,aI a]))(u:zLI c e a=true):∃N,zKB N c e a=some (.agg (zbf (zLJ c e a))::[]):=by
 obtain⟨l,b,j⟩:=zK.1 u;obtain⟨v,f⟩:=zcC l b;obtain⟨k,rfl,h⟩:=zdK (n:=c.Mons.length) b;have m:=zzp (p:=a) l b;have d:hasB (k:Int) (ln (zeJ c (k:Int) a).Mons)=true:=zeC b;have i:k<(zeJ c (k:Int) a).Mons.length:=(by simpa [zeJ] using h);have g:ix (zeJ c (k:Int) a).Mons (k:Int) mZ={ix c.Mons (k:Int) mZ with Out:=up (ix c.Mons (k:Int) mZ).Out a (zct c.Memory (ix (ix c.Mons (k:Int) mZ).Outer a sZ).Page)}:=zdR h _ _;have t:Shape {zeJ c (k:Int) a with Mons:=up (zeJ c (k:Int) a).Mons (k:Int) {ix (zeJ c (k:Int) a).Mons (k:Int) mZ with Outer:=up (ix (zeJ c (k:Int) a).Mons (k:Int) mZ).Outer a noSlot}}:=(by obtain⟨q,r⟩:=zcC m d;exact zja m ⟨by simpa using q.1,q.2⟩ ⟨by simpa using r.1,r.2⟩);refine⟨0,?_⟩;unfold zKB oN;conv=>zeta
 refine must (zI b) (must (zI (zdy f.1 j)) (must (zbJ ((zqZ _).2 l.1.1)) (must (zI (zdy f.2.1 j)) (shr (must rfl (must ?_ (shr (must (zbJ ⟨t,zeC d⟩) ?_))))))));{rw [zdR h];exact zI (zdy f.1 j)};{have:=zCF (p:=a) (s:=noSlot) i (by rw[g];exact f.2.2.2);rw[g] at this;show some [AV.agg (zbf (zB1 {zeJ c (k:Int) a with Mons:=up (zeJ c (k:Int) a).Mons (k:Int) {ix (zeJ c (k:Int) a).Mons (k:Int) mZ with Outer:=up (ix (zeJ c (k:Int) a).Mons (k:Int) mZ).Outer a noSlot}} (k:Int) a (ix (ix c.Mons (k:Int) mZ).Outer a sZ)))]=_;rw[g];exact congrArg (fun x=>some [AV.agg (zbf x)]) this}
theorem zXl:zbM Tryz.prog 314 [true,true,true,true] zzb:=by refine zhn (zgF zhx zx zSo zeB) (zjU (by kernel_rfl)) ?_;intro g a b j i f h;have d:=zlD f;unfold zzb at h;split at h;{obtain⟨e,rfl,rfl⟩:=zn2 h;obtain⟨N,c⟩:=z4c _ _ _ (by exact d) e;exact⟨rfl,_,N,12,(z7i N _ _ _ ).trans c⟩};{cases h}
def z4r:zcL:=[(314,([true,true,true,true],zzb))]++z4q
theorem zSp:zb8 z4r:=zcr zSo (by
 intro x a;simp only[qG,qN,or_false]at a;rcases a with rfl
 .exact zXl)
def z5n:zfY:=[(281,([true,true,true,true,false,false],(some (1,1,[[0],[1],[2],[4],[7]])),zwn))]++zZy
theorem zSD:zep z5n:=zrJ zeB (by
 intro x a;simp only[qG,qN,or_false]at a;rcases a with rfl
 .exact zRr)
def cz (l:List Slot):Nat:=l.countP fun s=>ieq s.Page 0
def zH:List Mon->Nat
 |[]=>0
 |m::l=>cz m.Outer+zH l
def bit (u:List Bool):Nat:=bif ix u 0 false then 1 else 0
theorem zzV (s:Slot)(l:List Slot):cz (s::l)=cz l+bif ieq s.Page 0 then 1 else 0:=by unfold cz;rw[vF];cases ieq s.Page 0<;>rfl
theorem zbeu {u:List Bool}{p:Int}(c:0<=p)(a:p.toNat<u.length)(x:Bool):ix (up u p x) 0 false=bif ieq p 0 then x else ix u 0 false:=by unfold ix up;cases h:ieq p 0;{have:p≠0:=(by simpa [ieq] using h);have b:p.toNat≠0:=(by omega);simp[List.getD,q9,b]};{have:p=0:=(by simpa [ieq] using h);subst this;have a:0<u.length:=a;simp[List.getD,q9,a]}
theorem zHa:∀(l:List Slot) (u b:List Bool),(∀s∈l,s.Page<12)->u.length=12->zgY l u=some b->cz l+bit u=bit b
 |[],u,b,_,_,h=>by cases h;simp[cz]
 |s::l,u,b,i,k,h=>by
  simp only[zgY]at h;rw[zzV];cases c:ilt s.Page 0;{have c:=jV c;rw[show ilt s.Page 0=false from qM (by omega)]at h;simp only[cF]at h;cases d:ix u s.Page false;{rw [d]at h;simp only[cF]at h;have g:s.Page.toNat<u.length:=(by have:=i s (by simp);omega);have a:=zHa l _ b (fun t j=>i t (by simp[j])) (by simpa using k) h;have e:bit (up u s.Page true)=bif ieq s.Page 0 then 1 else bit u:=(by unfold bit;rw[zbeu (by omega) g];cases ieq s.Page 0<;>rfl);rw[e] at a;cases f:ieq s.Page 0;{rw [f] at a;simp only[cF] at a ⊢;omega};{have n:s.Page=0:=(by simpa [ieq] using f);rw[n]at d;have:bit u=0:=(by unfold bit;rw[d];rfl);rw[f] at a;simp only[cT] at a ⊢;omega}};{rw [d]at h;cases h}};{have m:=qE c;rw[c]at h;simp only[cT]at h;have a:=zHa l u b (fun t j=>i t (by simp[j])) k h;have:ieq s.Page 0=false:=(by simp[ieq];omega);rw[this];simpa using a}
theorem zXp:∀(l:List Mon) (u:List Bool),u.length=12->zjh l u=true->zH l+bit u<=1
 |[],u,_,_=>by unfold zH bit;cases ix u 0 false<;>simp
 |m::l,u,c,h=>by simp only[zjh]at h;cases b:zd3 m;{rw [b]at h;cases h};{rw [b]at h;simp only[cT]at h;cases a:zgY m.Outer u with|none=>rw[a]at h;cases h|some d =>rw[a]at h;have e:=zHa _ _ _ (zHM (znD b)) c a;have f:=zXp l d ((zqM _ _ _ a).trans c) h;simp only[zH];omega}
theorem z6q:∀(l:List Slot) (b:Nat) (s:Slot),l[b]?=some s->s.Page=0->cz (l.set b noSlot)+1=cz l
 |[],b,s,h,_=>by simp at h
 |t::l,0,s,h,a=>by simp only[qH,qC]at h;subst h;rw[List.set_cons_zero,zzV,zzV];have:ieq t.Page 0=true:=(by simp[ieq,a]);rw[this];rfl
 |t::l,b+1,s,h,a=>by rw[List.set_cons_succ,zzV,zzV];have:=z6q l b s (by simpa using h) a;omega
theorem zZ6:∀(l:List Mon) (a:Nat) (x y:Mon),l[a]?=some x->zH (l.set a y)+cz x.Outer=zH l+cz y.Outer
 |[],a,x,y,h=>by simp at h
 |m::l,0,x,y,h=>by simp only[qH,qC]at h;subst h;rw[List.set_cons_zero];simp only[zH];omega
 |m::l,a+1,x,y,h=>by rw[List.set_cons_succ];have:=zZ6 l a x y (by simpa using h);simp only[zH];omega
theorem z3A {l:List Slot}(h:cz l=0):zpq l 0=none:=by unfold zpq;rw[List.findIdx?_eq_none_iff];intro s a;have:=(u5.1 h) s a;simpa using this
theorem zPm:∀(l:List Mon) (i:Nat),zH l=0->ziq 0 l i=(-1,-1)
 |[],_,_=>rfl
 |m::l,i,h=>by simp only[zH]at h;simp only[ziq];rw[z3A (by omega)];exact zPm l (i+1) (by omega)
theorem z3B {l:List Slot}{k:Nat}(h:zpq l 0=some k):∃s,l[k]?=some s/\s.Page=0:=by unfold zpq at h;rw[uY]at h;obtain⟨a,b,_⟩:=h;exact⟨l[k],qB a,by simpa [ieq] using b⟩
theorem zJQ:∀(l:List Mon) (i:Nat),ziq 0 l i=(-1,-1)\/∃a b x s,ziq 0 l i=(((i+a:Nat):Int),((b:Nat):Int))/\l[a]?=some x/\x.Outer[b]?=some s/\s.Page=0
 |[],_=>.inl rfl
 |m::l,i=>by
  simp only[ziq];cases h:zpq m.Outer 0 with
  |none=>rcases zJQ l (i+1) with c|⟨a,b,x,s,c,d,f,g⟩;{exact .inl c};{refine .inr ⟨a+1,b,x,s,?_,by simpa using d,f,g⟩;have e:i+1+a=i+(a+1):=(by omega);rw[c,e]}
  |some k=>obtain⟨s,c,d⟩:=z3B h;exact .inr ⟨0,k,m,s,rfl,rfl,c,d⟩
def Fit (h:Host):Prop:=Shape h/\0<h.Memory.length/\zH h.Mons<=1
theorem zJJ {h:Host}(c:0<h.Memory.length)(b:ilt (zbH h 0).1 0=true):inb 0 (ln (zch h))=true:=by unfold zch;obtain⟨n,a⟩:∃n,h.Memory.length=n+1:=⟨h.Memory.length-1,by omega⟩;rw[a];simp only[zy5];rw[show ilt (zbH h ((0:Nat):Int)).1 0=true from b];exact qJ (by simp only[cT,ln,q0];omega)
theorem z3G {h:Host}(b:0<h.Memory.length)(a:ieq (ln (zch h)) 0=true):ilt (zbH h 0).1 0=false:=by cases c:ilt (zbH h 0).1 0;{rfl};{have d:=qE (zJJ b c);have e:ln (zch h)=0:=(by simpa [ieq] using a);omega}
def zc7 (h:Host):Host:=bif ieq (ln (zch h)) 0 then zdn h (zbH h 0).1 (zbH h 0).2 else h
structure Room (h r:Host):Prop where
 shape:Shape r
 free:inb 0 (ln (zch r))=true
 len:r.Mons.length=h.Mons.length
 outer:∀m,(ix r.Mons m mZ).Outer.length=8\/True
theorem z7q {h:Host}(i:Fit h)(f:ieq (ln (zch h)) 0=true):∃(a b:Nat) (x:Mon) (s:Slot),zbH h 0=((a:Int),(b:Int))/\h.Mons[a]?=some x/\x.Outer[b]?=some s/\s.Page=0:=by have d:=z3G i.2.1 f;have e:zbH h 0=ziq 0 h.Mons 0:=rfl;rcases zJQ h.Mons 0 with c|⟨a,b,x,s,c,g⟩;{rw [e,c]at d;cases d};{exact⟨a,b,x,s,by rw[e,c,j6],g⟩}
theorem zHE {h:Host}(d:Fit h)(e:ieq (ln (zch h)) 0=true):hasB (zbH h 0).1 (ln h.Mons)=true/\hasB (zbH h 0).2 8=true:=by obtain⟨a,b,x,s,f,c,g,j⟩:=z7q d e;rw[f];have k:=(qA.1 c).1;have l:=(qA.1 g).1;have i:=d.1.2 x (qI c);refine⟨qJ (by simp only[ln];omega),qJ ?_⟩;have:=i.1;show 0<=(b:Int)/\(b:Int)<8;omega
theorem room {h:Host}(d:Fit h):Room h (zc7 h):=by unfold zc7;cases g:ieq (ln (zch h)) 0;{refine⟨d.1,qJ ?_,rfl,fun _=>.inr trivial⟩;have:ln (zch h)≠0:=(by simpa [ieq] using g);show 0<=(0:Int)/\(0:Int)<ln (zch h);simp only[ln] at *;omega};{obtain⟨n,u⟩:=zHE d g;obtain⟨a,b,x,s,r,i,k,t⟩:=z7q d g;simp only[cT];rw[r]at n u ⊢;have m:=(qA.1 i).1;have B:=(qA.1 k).1;have j:ix h.Mons (a:Int) mZ=x:=(by rw[zbp m];exact(qA.1 i).2);have c:=(zgu (zeJ h (a:Int) (b:Int)) (a:Int) (b:Int) noSlot).1;have q:ix (zeJ h (a:Int) (b:Int)).Mons (a:Int) mZ={x with Out:=up x.Out (b:Int) (zct h.Memory (ix x.Outer (b:Int) sZ).Page)}:=(by unfold zeJ;rw[zdR m,j]);obtain⟨y,l,v⟩:∃y,(zdn h (a:Int) (b:Int)).Mons=h.Mons.set a y/\y.Outer=x.Outer.set b noSlot:=(by unfold zdn;rw[c,q];unfold zeJ;rw[zyG];exact⟨_,by simp[up];rfl,by simp[up]⟩);have w:zH (zdn h (a:Int) (b:Int)).Mons=0:=(by have p:=zZ6 h.Mons a x y i;have z:=z6q x.Outer b s k t;have A:=d.2.2;rw[l];rw[v] at p;omega);have f:(zdn h (a:Int) (b:Int)).Memory=h.Memory:=(zgu (zeJ h (a:Int) (b:Int)) (a:Int) (b:Int) noSlot).2;refine⟨zPQ d.1 n,zJJ (by rw[f];exact d.2.1) ?_,by rw[l];simp,fun _=>.inr trivial⟩;have e:zbH (zdn h (a:Int) (b:Int)) 0=ziq 0 (zdn h (a:Int) (b:Int)).Mons 0:=rfl;rw[e,zPm _ _ w];rfl}
theorem zZo {m:List (List Int)}{p:Int}{c:List Int}(h:SmM m)(a:c.length<=1048576):SmM (zhM m p c):=by unfold zhM;cases hasB p (ln m);{exact h};{cases zcn c;{exact h};{exact zPW h a}}
def landing (r:Host)(m p to:Int):Host:={r with Memory:=zhM r.Memory to (ix (ix r.Mons m mZ).Out p []),Mons:=up r.Mons m {ix r.Mons m mZ with Out:=up (ix r.Mons m mZ).Out p []}}
def zeS (r:Host)(m p to:Int):Host:=zco (landing r m p to) m p ⟨to,3⟩
def fetched (h:Host)(m p:Int):Host:=zeS (zc7 h) m p (ix (zch (zc7 h)) 0 0)
theorem zZq {r:Host}{m p:Int}(e:Shape r)(c:hasB m (ln r.Mons)=true)(d:hasB p 8=true):(ix (ix r.Mons m mZ).Out p []).length<=1048576:=by obtain⟨a,b⟩:=zcC e c;exact a.2.1.2 _ (zbA (zdy b.2.1 d) _)
theorem zuo {r:Host}{m p to:Int}(a:Shape r)(d:hasB m (ln r.Mons)=true)(e:hasB p 8=true):Shape (landing r m p to):=by obtain⟨b,c⟩:=zcC a d;exact zUe (h:={r with Mons:=up r.Mons m {ix r.Mons m mZ with Out:=up (ix r.Mons m mZ).Out p []}}) (zja (x:={ix r.Mons m mZ with Out:=up (ix r.Mons m mZ).Out p []}) a ⟨b.1,zPW b.2.1 (by simp),b.2.2⟩ ⟨c.1,by simpa using c.2.1,c.2.2⟩) (zZo a.1.1 (zZq a d e))
theorem zVO {r:Host}{m p d:Int}(c:Shape r)(a:hasB m (ln r.Mons)=true)(b:hasB p 8=true):Shape (zeS r m p d):=zup (zeC a) (zuo c a b)
theorem zro {h:Host}(a:Fit h){m:Int}(b:hasB m (ln h.Mons)=true):hasB m (ln (zc7 h).Mons)=true:=by rw[ln,(room a).len];exact b
theorem zkI {h:Host}{m p:Int}(a:Fit h)(b:hasB m (ln h.Mons)=true)(c:hasB p 8=true):Shape (fetched h m p)/\hasB m (ln (fetched h m p).Mons)=true :=
 ⟨zVO (room a).shape (zro a b) c,zJK (zeC (zro a b))⟩
@[simp] abbrev zyz (h:Host)(m p:Int):Bool:=pc (Fit h/\hasB m (ln h.Mons)=true/\hasB p 8=true)
@[simp] abbrev zA5 (h:Host)(m p:Int):Host:=fetched h m p
def zzd:List AV->Option (Bool×List AV)
 |[.agg [.s (.sl .int) b,.s .mon c,.s .entry d,.s .entry e],.one (.i .i64 f),.one (.i .i64 g)]=>some ((zyz (⟨b,c,d,e⟩:Host) f g),[aH (zA5 (⟨b,c,d,e⟩:Host) f g)])
 |_=>none
def zEV (N:Nat)(a:Host)(c b:Int):OA:=
 let h:=(ix (zfB a) 0 0);let f:=(ix a.Mons c zi);let d:=(zCD a (zgL a 0) (ziG a 0));let g:=(ix (zfB d) 0 0);let e:=(ix d.Mons c zi); (oN (zmZ a) (cond (ieq (ln (zfB a)) 0) (oN (zlw a 0) (oN (zva a (zgL a 0) (ziG a 0)) (oN (zmZ d) (oN (inb 0 (ln (zfB d))) (oN (inb c (ln d.Mons)) (oN (inb b (ln e.Out)) (oN (zme d.Memory g (ix e.Out b [])) (oN (inb c (ln d.Mons)) (oN (inb b (ln e.Out)) (share (up d.Mons c ({e with Out:=(up e.Out b [])}:Mon)) (fun i=>let j:=({d with Memory:=(zkd d.Memory g (ix e.Out b [])),Mons:=i}:Host); (oN (zfm j c b (⟨g,3⟩:Slot)) (some [(aH (zhg j c b (⟨g,3⟩:Slot)))]))))))))))))) (oN (zmZ a) (oN (inb 0 (ln (zfB a))) (oN (inb c (ln a.Mons)) (oN (inb b (ln f.Out)) (oN (zme a.Memory h (ix f.Out b [])) (oN (inb c (ln a.Mons)) (oN (inb b (ln f.Out)) (share (up a.Mons c ({f with Out:=(up f.Out b [])}:Mon)) (fun i=>let k:=({a with Memory:=(zkd a.Memory h (ix f.Out b [])),Mons:=i}:Host); (oN (zfm k c b (⟨h,3⟩:Slot)) (some [(aH (zhg k c b (⟨h,3⟩:Slot)))])))))))))))))
theorem z4k (N:Nat)(a:Host)(b c:Int):zHo (cQ zrT zrd z4r z5n) (zq []) N 12 212 [true,true,true,true,false,false] 1 1 [[0],[1],[2],[4],[7]] .mon [aH a,aI b,aI c]=zEV N a b c:=by kernel_rfl
theorem z0S (c:Host)(b d:Int)(z:zci big [aH c,aI b,aI d])(u:zyz c b d=true):∃N,zEV N c b d=some [aH (zA5 c b d)]:=by
 obtain⟨h,v,i⟩:=zK.1 u;have e:∀r,Shape r->inb 0 (ln (zch r))=true->hasB b (ln r.Mons)=true->(cond (zmZ r) (cond (inb 0 (ln (zfB r))) (cond (inb b (ln r.Mons)) (cond (inb d (ln (ix r.Mons b zi).Out)) (cond (zme r.Memory (ix (zfB r) 0 0) (ix (ix r.Mons b zi).Out d [])) (cond (inb b (ln r.Mons)) (cond (inb d (ln (ix r.Mons b zi).Out)) (share (up r.Mons b ({ (ix r.Mons b zi) with Out:=(up (ix r.Mons b zi).Out d [])}:Mon)) (fun s=>(cond (zfm ({r with Memory:=(zkd r.Memory (ix (zfB r) 0 0) (ix (ix r.Mons b zi).Out d [])),Mons:=s}:Host) b d (⟨(ix (zfB r) 0 0),3⟩:Slot)) (some [(AV.agg (zbf (zhg ({r with Memory:=(zkd r.Memory (ix (zfB r) 0 0) (ix (ix r.Mons b zi).Out d [])),Mons:=s}:Host) b d (⟨(ix (zfB r) 0 0),3⟩:Slot))))]) none))) none) none) none) none) none) none) none)=some [AV.agg (zbf (zeS r b d (ix (zch r) 0 0)))]:=(by intro r j f a;obtain⟨y,l⟩:=zcC j a;have t:=zuo (to:=ix (zch r) 0 0) j a i;obtain⟨k,rfl,q⟩:=zdK (n:=r.Mons.length) a;refine must (zbJ j.1.1.1) (must f (must (zI a) (must (zI (zdy l.2.1 i)) (must (zbJ ⟨j.1.1,zZq j a i⟩) (must (zI a) (must (zI (zdy l.2.1 i)) (shr (must (zbJ ⟨(zT _).2 t.1,zeC a,?_,?_⟩) rfl))))))));{simp only [zdR q];exact zdy l.1 i};{simp only [zdR q];exact kY l.2.2.2});have g:=room h;have a:=zro h v;refine⟨0,?_⟩;unfold zEV zA5 fetched oN;conv=>zeta
 refine must (zbJ h.1.1.1.1) ?_;cases p:ieq (ln (zfB c)) 0;{have m:zc7 c=c:=(by unfold zc7;rw[show ieq (ln (zch c)) 0=false from p];rfl);rw[m]at g a ⊢;exact e c g.shape g.free a};{obtain⟨w,x⟩:=zHE h p;have m:zc7 c=zdn c (zbH c 0).1 (zbH c 0).2:=(by unfold zc7;rw[show ieq (ln (zch c)) 0=true from p];rfl);rw[m]at g a ⊢;exact must rfl (must rfl (must (zbJ ⟨h.1,w,x⟩) (e _ g.shape g.free a)))}
theorem zUL:zd4 Tryz.prog 212 [true,true,true,true,false,false] (some (1,1,[[0],[1],[2],[4],[7]])) zzd:=by refine zmB (kt:=.mon) (zgF zhx zx zSp zSD) (zjU (by kernel_rfl)) (by kernel_rfl) ?_;intro a g f e h;have c:=zjd e;unfold zzd at h;split at h;{obtain⟨d,rfl⟩:=zea h;obtain⟨N,b⟩:=z0S _ _ _ (by exact c) d;exact⟨⟨_,rfl⟩,rfl,_,N,12,(z4k N _ _ _ ).trans b⟩};{cases h}
@[simp] abbrev ztR (h:Host):Bool:=pc (Shape h/\hasB (zbH h 0).1 (ln h.Mons)=true/\hasB (zbH h 0).2 8=true)
@[simp] abbrev ztS (h:Host):Host:=zdn h (zbH h 0).1 (zbH h 0).2
def zox:List CV->List AV->Option (Bool×List CV×List AV)
 |[.s (.sl .int) b,.s .mon c,.s .entry d,.s .entry e],[]=>some ((ztR (⟨b,c,d,e⟩:Host)),zbf (ztS (⟨b,c,d,e⟩:Host)),[])
 |_,_=>none
def ztH (N:Nat)(c:Host)  : OA :=
 (oN (zli c 0) (oN (zLI c (zgH c 0) (zif c 0)) (some [(aH (zLJ c (zgH c 0) (zif c 0)))])))
theorem zSj (N:Nat)(c:Host)  : zpo (cQ zrT zrd z4r z5n) (zq []) N 12 274 [true,true,true,true] (zbf c) []=ztH N c:=by kernel_rfl
theorem zOV (c:Host)(d:zci big (.agg (zbf c)::[]))(a:ztR c=true):∃N,ztH N c=some (.agg (zbf (ztS c))::[]):=by have b:=zK.1 a;refine⟨0,?_⟩;unfold ztH oN;exact must rfl (must (zbJ b) rfl)
theorem zHZ:zbM Tryz.prog 274 [true,true,true,true] zox:=by refine zhn (zgF zhx zx zSp zSD) (zjU (by kernel_rfl)) ?_;intro g a b j i f h;have d:=zlD f;unfold zox at h;split at h;{obtain⟨e,rfl,rfl⟩:=zn2 h;obtain⟨N,c⟩:=zOV _ (by exact d) e;exact⟨rfl,_,N,12,(zSj N _ ).trans c⟩};{cases h}
def z9W:zcL:=[(274,([true,true,true,true],zox))]++z4r
theorem z2q:zb8 z9W:=zcr zSp (by
 intro x a;simp only[qG,qN,or_false]at a;rcases a with rfl
 .exact zHZ)
def zZz:zfY:=[(212,([true,true,true,true,false,false],(some (1,1,[[0],[1],[2],[4],[7]])),zzd))]++z5n
theorem zHR:zep zZz:=zrJ zSD (by
 intro x a;simp only[qG,qN,or_false]at a;rcases a with rfl
 .exact zUL)
@[simp] abbrev zFz (h:Host)(m p:Int):Bool:=pc (Fit h/\hasB m (ln h.Mons)=true/\hasB p 8=true)
@[simp] abbrev zxw (h:Host)(m p:Int):Host:=fetched h m p
theorem z2Z {r:Host}{m p to:Int}(d:Shape r)(b:hasB m (ln r.Mons)=true):zB1 {landing r m p to with Mons:=up (landing r m p to).Mons m {ix (landing r m p to).Mons m mZ with Outer:=up (ix (landing r m p to).Mons m mZ).Outer p ⟨to,3⟩}} m p (ix (ix (landing r m p to).Mons m mZ).Outer p sZ)=zeS r m p to:=by obtain⟨e,c⟩:=zcC d b;obtain⟨k,rfl,a⟩:=zdK (n:=r.Mons.length) b;refine zCF (h:=landing r (k:Int) p to) (by simpa [landing] using a) ?_;unfold landing;simp only[zdR a];exact c.2.2.2
theorem z1B {r:Host}{m p to:Int}(f:Shape r)(b:hasB m (ln r.Mons)=true)(e:hasB p 8=true):Shape {landing r m p to with Mons:=up (landing r m p to).Mons m {ix (landing r m p to).Mons m mZ with Outer:=up (ix (landing r m p to).Mons m mZ).Outer p ⟨to,3⟩}}:=by have a:=zuo (to:=to) f b e;obtain⟨c,d⟩:=zcC a (zeC b);exact zja a ⟨by simpa using c.1,c.2⟩ ⟨by simpa using d.1,d.2⟩
def zv8:List CV->List AV->Option (Bool×List CV×List AV)
 |[.s (.sl .int) b,.s .mon c,.s .entry d,.s .entry e],[.one (.i .i64 f),.one (.i .i64 g)]=>some ((zFz (⟨b,c,d,e⟩:Host) f g),zbf (zxw (⟨b,c,d,e⟩:Host) f g),[])
 |_,_=>none
def zEw (N:Nat)(c:Host)(b a:Int):OA:=
 let m:=(ix (zf2 c) 0 0);let d:=(ztS c);let l:=(ix (zf2 d) 0 0);let f:=(ix c.Mons b zi);let e:=(ix d.Mons b zi); (oN (zmF c) (cond (ieq (ln (zf2 c)) 0) (oN (ztR c) (oN (inb b (ln d.Mons)) (oN (zmF d) (oN (inb 0 (ln (zf2 d))) (oN (inb a (ln e.Out)) (oN (zlV d.Memory l (ix e.Out a [])) (oN (inb a (ln e.Out)) (share (up d.Mons b ({e with Out:=(up e.Out a [])}:Mon)) (fun g=>let i:=(ix g b zi);let q:=(ix i.Outer a zZ); (oN (inb a (ln i.Outer)) (oN (inb a (ln i.Outer)) (share (up g b ({i with Outer:=(up i.Outer a (⟨l,3⟩:Slot))}:Mon)) (fun k=>let n:=({d with Memory:=(zj2 d.Memory l (ix e.Out a [])),Mons:=k}:Host); (oN (zel n b a q) (some [(aH (zem n b a q))]))))))))))))))) (oN (inb b (ln c.Mons)) (oN (zmF c) (oN (inb 0 (ln (zf2 c))) (oN (inb a (ln f.Out)) (oN (zlV c.Memory m (ix f.Out a [])) (oN (inb a (ln f.Out)) (share (up c.Mons b ({f with Out:=(up f.Out a [])}:Mon)) (fun g=>let j:=(ix g b zi);let h:=(ix j.Outer a zZ); (oN (inb a (ln j.Outer)) (oN (inb a (ln j.Outer)) (share (up g b ({j with Outer:=(up j.Outer a (⟨m,3⟩:Slot))}:Mon)) (fun k=>let p:=({c with Memory:=(zj2 c.Memory m (ix f.Out a [])),Mons:=k}:Host); (oN (zel p b a h) (some [(aH (zem p b a h))]))))))))))))))))
theorem z4j (N:Nat)(c:Host)(a b:Int):zpo (cQ zrT zrd z9W zZz) (zq []) N 12 208 [true,true,true,true] (zbf c) [aI a,aI b]=zEw N c a b:=by kernel_rfl
theorem z0D (c:Host)(b d:Int)(F:zci big (.agg (zbf c)::[aI b,aI d]))(w:zFz c b d=true):∃N,zEw N c b d=some (.agg (zbf (zxw c b d))::[]):=by
 obtain⟨j,B,l⟩:=zK.1 w;have e:∀r,Shape r->inb 0 (ln (zch r))=true->hasB b (ln r.Mons)=true->(cond (inb b (ln r.Mons)) (cond (zmF r) (cond (inb 0 (ln (zf2 r))) (cond (inb d (ln (ix r.Mons b zi).Out)) (cond (zlV r.Memory (ix (zf2 r) 0 0) (ix (ix r.Mons b zi).Out d [])) (cond (inb d (ln (ix r.Mons b zi).Out)) (share (up r.Mons b ({ (ix r.Mons b zi) with Out:=(up (ix r.Mons b zi).Out d [])}:Mon)) (fun g=>(cond (inb d (ln (ix g b zi).Outer)) (cond (inb d (ln (ix g b zi).Outer)) (share (up g b ({ (ix g b zi) with Outer:=(up (ix g b zi).Outer d (⟨(ix (zf2 r) 0 0),3⟩:Slot))}:Mon)) (fun u=>(cond (zel ({r with Memory:=(zj2 r.Memory (ix (zf2 r) 0 0) (ix (ix r.Mons b zi).Out d [])),Mons:=u}:Host) b d (ix (ix g b zi).Outer d zZ)) (some [(AV.agg (zbf (zem ({r with Memory:=(zj2 r.Memory (ix (zf2 r) 0 0) (ix (ix r.Mons b zi).Out d [])),Mons:=u}:Host) b d (ix (ix g b zi).Outer d zZ))))]) none))) none) none))) none) none) none) none) none) none)=some [AV.agg (zbf (zeS r b d (ix (zch r) 0 0)))]:=(by intro r i f a;obtain⟨E,q⟩:=zcC i a;have v:=z1B (to:=ix (zch r) 0 0) i a l;have hE:=z2Z (p:=d) (to:=ix (zch r) 0 0) i a;obtain⟨k,rfl,A⟩:=zdK (n:=r.Mons.length) a;have z:∀(x y:Mon),hasB (k:Int) (ln (up (up r.Mons (k:Int) x) (k:Int) y))=true:=fun x y=>(by simpa [ln] using a);have t:inb d (ln (ix (up r.Mons (k:Int) {ix r.Mons (k:Int) mZ with Out:=up (ix r.Mons (k:Int) mZ).Out d []}) (k:Int) mZ).Outer)=true:=(by rw[zdR A];exact zI (zdy q.1 l));refine must (zI a) (must (zbJ i.1.1.1) (must f (must (zI (zdy q.2.1 l)) (must (zbJ ⟨i.1.1,zZq i a l⟩) (must (zI (zdy q.2.1 l)) (shr (must t (must t (shr (must (zbJ ⟨v,z _ _⟩) ?_))))))))));exact congrArg (fun x=>some [AV.agg (zbf x)]) hE);have h:=room j;have a:=zro j B;refine⟨0,?_⟩;unfold zEw zxw fetched oN;conv=>zeta
 refine must (zbJ j.1.1.1.1) ?_;cases s:ieq (ln (zf2 c)) 0;{have m:zc7 c=c:=(by unfold zc7;rw[show ieq (ln (zch c)) 0=false from s];rfl);rw[m]at h a ⊢;exact e c h.shape h.free a};{obtain⟨C,D⟩:=zHE j s;have m:zc7 c=zdn c (zbH c 0).1 (zbH c 0).2:=(by unfold zc7;rw[show ieq (ln (zch c)) 0=true from s];rfl);rw[m]at h a ⊢;exact must rfl (must (zbJ ⟨j.1,C,D⟩) (e _ h.shape h.free a))}
theorem zUv:zbM Tryz.prog 208 [true,true,true,true] zv8:=by refine zhn (zgF zhx zx z2q zHR) (zjU (by kernel_rfl)) ?_;intro g a b j i f h;have d:=zlD f;unfold zv8 at h;split at h;{obtain⟨e,rfl,rfl⟩:=zn2 h;obtain⟨N,c⟩:=z0D _ _ _ (by exact d) e;exact⟨rfl,_,N,12,(z4j N _ _ _ ).trans c⟩};{cases h}
def z4s:zcL:=[(208,([true,true,true,true],zv8))]++z9W
theorem zSq:zb8 z4s:=zcr z2q (by
 intro x a;simp only[qG,qN,or_false]at a;rcases a with rfl
 .exact zUv)
def zbK (h:Host)(m p:Int):Host:={h with Mons:=up h.Mons m {ix h.Mons m mZ with Dirty:=up (ix h.Mons m mZ).Dirty p true}}
def opened (h:Host)(m p:Int):Host:=bif ieq (wand .i64 (ix (ix h.Mons m mZ).Outer p sZ).Rights 2) 0 then zco h m p ⟨(ix (ix h.Mons m mZ).Outer p sZ).Page,3⟩ else h
def zj6 (h:Host)(m p n:Int):Host:=bif ieq (wand .i64 n 2) 0 then h else opened (zbK h m p) m p
def mended (h:Host)(m p n:Int):Host:=bif ieq (ix (ix h.Mons m mZ).Outer p sZ).Page (-1) then zj6 (fetched h m p) m p n else zj6 h m p n
theorem zbcY {r:Int}(a:0<=r)(b:r<=3):enough r 2 = !ieq (wand .i64 r 2) 0:=by have:r=0\/r=1\/r=2\/r=3:=(by omega);rcases this with rfl|rfl|rfl|rfl<;>rfl
structure SlotFit (s:Slot):Prop where
 no:zcW s noSlot=ieq s.Page (-1)
 lo:0<=s.Rights
 hi:s.Rights<=3
theorem z5e {s:Slot}{n:Int}(h:zdD s n=true):SlotFit s:=by refine⟨zUg h,?_,?_⟩<;>unfold zdD at h<;>cases a:zcW s noSlot;{rw [a]at h;simp only[cF,zc9]at h;have:=(zge.1 h.2.2).1;omega};{unfold zcW at a;rw[qD]at a;have:s.Rights=0:=qE a.2;omega};{rw [a]at h;simp only[cF,zc9]at h;have:=(zge.1 h.2.2).2;omega};{unfold zcW at a;rw[qD]at a;have:s.Rights=0:=qE a.2;omega}
theorem zom {h:Host}{m p:Int}(c:Shape h)(d:hasB m (ln h.Mons)=true):Shape (zbK h m p):=by obtain⟨a,b⟩:=zcC c d;exact zja c ⟨a.1,a.2.1,by simpa using a.2.2.1,a.2.2.2⟩ ⟨b.1,b.2.1,by simpa using b.2.2.1,b.2.2.2⟩
theorem zZg {h:Host}{m p:Int}(b:Shape h)(a:hasB m (ln h.Mons)=true):Shape (opened h m p)/\hasB m (ln (opened h m p).Mons)=true:=by unfold opened;cases ieq (wand .i64 (ix (ix h.Mons m mZ).Outer p sZ).Rights 2) 0;{exact⟨b,a⟩};{exact⟨zup a b,zJK a⟩}
theorem zKo {h:Host}{m p n:Int}(b:Shape h)(a:hasB m (ln h.Mons)=true):Shape (zj6 h m p n)/\hasB m (ln (zj6 h m p n).Mons)=true:=by unfold zj6;cases ieq (wand .i64 n 2) 0;{exact zZg (zom b a) (zeC a)};{exact⟨b,a⟩}
theorem zwJ {h:Host}{m p n:Int}(a:Fit h)(b:hasB m (ln h.Mons)=true)(e:hasB p 8=true):Shape (mended h m p n)/\hasB m (ln (mended h m p n).Mons)=true:=by unfold mended;cases ieq (ix (ix h.Mons m mZ).Outer p sZ).Page (-1);{exact zKo a.1 b};{obtain⟨c,d⟩:=zkI a b e;exact zKo c d}
theorem zW7 {h:Host}{m p:Int}(c:Fit h)(g:hasB m (ln h.Mons)=true)(j:hasB p 8=true):(ix (ix (fetched h m p).Mons m mZ).Outer p sZ).Rights=3:=by have f:=room c;have a:=zro c g;obtain⟨r,e⟩:=zcC f.shape a;obtain⟨k,rfl,d⟩:=zdK (n:=(zc7 h).Mons.length) a;obtain⟨q,rfl,l⟩:=zdK (n:=8) j;unfold fetched zeS;rw[(zgu _ _ _ _).1];have b:k<(landing (zc7 h) (k:Int) (q:Int) (ix (zch (zc7 h)) 0 0)).Mons.length:=(by simpa [landing] using d);rw[zdR b];have i:q<(ix (landing (zc7 h) (k:Int) (q:Int) (ix (zch (zc7 h)) 0 0)).Mons (k:Int) mZ).Outer.length:=(by unfold landing;rw[zdR d];show q<(ix (zc7 h).Mons (k:Int) mZ).Outer.length;rw[e.1];exact l);show (ix (up (ix (landing (zc7 h) (k:Int) (q:Int) (ix (zch (zc7 h)) 0 0)).Mons (k:Int) mZ).Outer (q:Int) ⟨_,3⟩) (q:Int) sZ).Rights=3;rw[zdR i]
def zWs (h:Host)(m p n:Int):Prop:=Fit h/\hasB m (ln h.Mons)=true/\hasB p 8=true/\(n=1\/n=2)/\SlotFit (ix (ix h.Mons m mZ).Outer p sZ)
@[simp] abbrev znZ (h:Host)(m p n:Int):Bool:=pc (zWs h m p n)
@[simp] abbrev zpa (h:Host)(m p n:Int):Host:=mended h m p n
def zua:List AV->Option (Bool×List AV)
 |[.agg [.s (.sl .int) b,.s .mon c,.s .entry d,.s .entry e],.one (.i .i64 f),.one (.i .i64 g),.one (.i .i64 h)]=>some ((znZ (⟨b,c,d,e⟩:Host) f g h),[aH (zpa (⟨b,c,d,e⟩:Host) f g h)])
 |_=>none
def zyR (N:Nat)(c:Host)(a b l:Int):OA:=
 let h:=(zA5 c a b);let k:=(ix h.Mons a zi);let e:=(ix c.Mons a zi);let p:=(ix e.Outer b zZ); (oN (inb a (ln c.Mons)) (oN (inb b (ln e.Outer)) (oN zcx (cond (cond (ieq p.Page zbv.Page) (ieq p.Rights zbv.Rights) false) (oN (zyz c a b) (cond (ieq (wand .i64 l 2) 0) (some [(aH h)]) (oN (inb a (ln h.Mons)) (oN (inb b (ln k.Dirty)) (share (up h.Mons a ({k with Dirty:=(up k.Dirty b true)}:Mon)) (fun d=>let q:=(ix d a zi).Outer;let i:=({h with Mons:=d}:Host);let m:=(ix q b zZ);let r:=({m with Rights:=3}:Slot); (oN (inb a (ln d)) (oN (inb b (ln q)) (cond (ieq (wand .i64 m.Rights 2) 0) (oN (zfm i a b r) (some [(aH (zhg i a b r))])) (some [(aH i)])))))))))) (cond (ieq (wand .i64 l 2) 0) (some [(aH c)]) (oN (inb a (ln c.Mons)) (oN (inb b (ln e.Dirty)) (share (up c.Mons a ({e with Dirty:=(up e.Dirty b true)}:Mon)) (fun d=>let f:=(ix d a zi).Outer;let j:=({c with Mons:=d}:Host);let n:=(ix f b zZ);let g:=({n with Rights:=3}:Slot); (oN (inb a (ln d)) (oN (inb b (ln f)) (cond (ieq (wand .i64 n.Rights 2) 0) (oN (zfm j a b g) (some [(aH (zhg j a b g))])) (some [(aH j)])))))))))))))
theorem zYw (N:Nat)(a:Host)(b c d:Int):zHo (cQ zrT zrd z4s zZz) (zq []) N 12 115 [true,true,true,true,false,false,false] 1 1 [[0],[1],[2],[4],[7]] .mon [aH a,aI b,aI c,aI d]=zyR N a b c d:=by kernel_rfl
theorem zVz (d:Host)(b a h:Int)(C:zci big [aH d,aI b,aI a,aI h])(z:znZ d b a h=true):∃N,zyR N d b a h=some [aH (zpa d b a h)]:=by
 obtain⟨l,j,i,D,A⟩:=zK.1 z;obtain⟨B,v⟩:=zcC l.1 j;have f:∀r,Shape r->hasB b (ln r.Mons)=true->(cond (ieq (wand .i64 h 2) 0) (some [(AV.agg (zbf r))]) (cond (inb b (ln r.Mons)) (cond (inb a (ln (ix r.Mons b zi).Dirty)) (share (up r.Mons b ({ (ix r.Mons b zi) with Dirty:=(up (ix r.Mons b zi).Dirty a true)}:Mon)) (fun g=>(cond (inb b (ln g)) (cond (inb a (ln (ix g b zi).Outer)) (cond (ieq (wand .i64 (ix (ix g b zi).Outer a zZ).Rights 2) 0) (cond (zfm ({r with Mons:=g}:Host) b a ({ (ix (ix g b zi).Outer a zZ) with Rights:=3}:Slot)) (some [(AV.agg (zbf (zhg ({r with Mons:=g}:Host) b a ({ (ix (ix g b zi).Outer a zZ) with Rights:=3}:Slot))))]) none) (some [(AV.agg (zbf ({r with Mons:=g}:Host)))])) none) none))) none) none))=some [AV.agg (zbf (zj6 r b a h))]:=(by intro r u c;obtain⟨E,m⟩:=zcC u c;have y:=zom (p:=a) u c;unfold zj6;cases w:ieq (wand .i64 h 2) 0;{obtain⟨k,rfl,t⟩:=zdK (n:=r.Mons.length) c;have q:ix (zbK r (k:Int) a).Mons (k:Int) mZ={ix r.Mons (k:Int) mZ with Dirty:=up (ix r.Mons (k:Int) mZ).Dirty a true}:=zdR t _ _;refine zdH rfl (must (zI c) (must (zI (zdy m.2.2.1 i)) (shr (must (zI (zeC c)) (must ?_ ?_)))));{rw [zdR t];exact zI (zdy m.1 i)};{unfold opened;show (cond (ieq (wand .i64 (ix (ix (zbK r (k:Int) a).Mons (k:Int) mZ).Outer a sZ).Rights 2) 0) _ _)=_;cases s:ieq (wand .i64 (ix (ix (zbK r (k:Int) a).Mons (k:Int) mZ).Outer a sZ).Rights 2) 0;{rfl};{refine must rfl (must (zbJ ⟨(zT _).2 y.1,zeC c,?_,?_⟩) rfl);{show hasB a (ln (ix (zbK r (k:Int) a).Mons (k:Int) mZ).Outer)=true;rw[q];exact zdy m.1 i};{show (ix (zbK r (k:Int) a).Mons (k:Int) mZ).Tables.length<=(ix (zbK r (k:Int) a).Mons (k:Int) mZ).Guests.length;rw[q];exact kY m.2.2.2}}}};{rfl});refine⟨0,?_⟩;unfold zyR zpa mended oN;conv=>zeta
 refine must (zI j) (must (zI (zdy v.1 i)) (must rfl ?_));have e:(cond (ieq (ix (ix d.Mons b mZ).Outer a sZ).Page zbv.Page) (ieq (ix (ix d.Mons b mZ).Outer a sZ).Rights zbv.Rights) false)=ieq (ix (ix d.Mons b mZ).Outer a sZ).Page (-1):=(by rw[<- A.no];unfold zcW zbv;cases ieq (ix (ix d.Mons b mZ).Outer a sZ).Page noSlot.Page<;>rfl);rw[e];cases w:ieq (ix (ix d.Mons b mZ).Outer a sZ).Page (-1);{exact f d l.1 j};{obtain⟨s,x⟩:=zkI (p:=a) l j i;exact must rfl (must (zbJ ⟨l,j,i⟩) (f _ s x))}
theorem zOF:zd4 Tryz.prog 115 [true,true,true,true,false,false,false] (some (1,1,[[0],[1],[2],[4],[7]])) zua:=by refine zmB (kt:=.mon) (zgF zhx zx zSq zHR) (zjU (by kernel_rfl)) (by kernel_rfl) ?_;intro a g f e h;have c:=zjd e;unfold zua at h;split at h;{obtain⟨d,rfl⟩:=zea h;obtain⟨N,b⟩:=zVz _ _ _ _ (by exact c) d;exact⟨⟨_,rfl⟩,rfl,_,N,12,(zYw N _ _ _ _ ).trans b⟩};{cases h}
@[simp] abbrev zXq (h:Host)(m p n:Int):Bool:=pc (zWs h m p n)
@[simp] abbrev zLH (h:Host)(m p n:Int):Host:=mended h m p n
def zza:List CV->List AV->Option (Bool×List CV×List AV)
 |[.s (.sl .int) b,.s .mon c,.s .entry d,.s .entry e],[.one (.i .i64 f),.one (.i .i64 g),.one (.i .i64 h)]=>some ((zXq (⟨b,c,d,e⟩:Host) f g h),zbf (zLH (⟨b,c,d,e⟩:Host) f g h),[])
 |_,_=>none
def zKA (N:Nat)(c:Host)(b a k:Int):OA:=
 let e:=(zxw c b a);let m:=(ix e.Mons b zi);let h:=(ix c.Mons b zi); (oN (inb b (ln c.Mons)) (oN (inb a (ln h.Outer)) (cond (ieq (ix h.Outer a zZ).Page (-1)) (oN (zFz c b a) (oN (zeG k 2) (cond (nB (zfw k 2)) (some [(aH e)]) (oN (inb b (ln e.Mons)) (oN (inb a (ln m.Dirty)) (share (up e.Mons b ({m with Dirty:=(up m.Dirty a true)}:Mon)) (fun d=>let i:=(ix d b zi);let f:=(ix i.Outer a zZ); (oN (inb a (ln i.Outer)) (oN (zeG f.Rights 2) (cond (nB (zfw f.Rights 2)) (oN (inb a (ln i.Outer)) (share (up d b ({i with Outer:=(up i.Outer a ({f with Rights:=3}:Slot))}:Mon)) (fun l=>let n:=({e with Mons:=l}:Host); (oN (zel n b a f) (some [(aH (zem n b a f))]))))) (some [(aH ({e with Mons:=d}:Host))]))))))))))) (oN (zeG k 2) (cond (nB (zfw k 2)) (some [(aH c)]) (oN (inb b (ln c.Mons)) (oN (inb a (ln h.Dirty)) (share (up c.Mons b ({h with Dirty:=(up h.Dirty a true)}:Mon)) (fun d=>let j:=(ix d b zi);let g:=(ix j.Outer a zZ); (oN (inb a (ln j.Outer)) (oN (zeG g.Rights 2) (cond (nB (zfw g.Rights 2)) (oN (inb a (ln j.Outer)) (share (up d b ({j with Outer:=(up j.Outer a ({g with Rights:=3}:Slot))}:Mon)) (fun l=>let p:=({c with Mons:=l}:Host); (oN (zel p b a g) (some [(aH (zem p b a g))]))))) (some [(aH ({c with Mons:=d}:Host))])))))))))))))
theorem z7h (N:Nat)(c:Host)(a b d:Int):zpo (cQ zrT zrd z4s zZz) (zq []) N 12 112 [true,true,true,true] (zbf c) [aI a,aI b,aI d]=zKA N c a b d:=by kernel_rfl
theorem z4b (c:Host)(b a f:Int)(R:zci big (.agg (zbf c)::[aI b,aI a,aI f]))(M:zXq c b a f=true):∃N,zKA N c b a f=some (.agg (zbf (zLH c b a f))::[]):=by
 obtain⟨l,i,j,P,C⟩:=zK.1 M;obtain⟨Q,I⟩:=zcC l.1 i;have H:enough f 2 = !ieq (wand .i64 f 2) 0:=(by rcases P with rfl|rfl<;>rfl);have g:∀r,Shape r->hasB b (ln r.Mons)=true->enough (ix (ix r.Mons b mZ).Outer a sZ).Rights 2=(!ieq (wand .i64 (ix (ix r.Mons b mZ).Outer a sZ).Rights 2) 0)->(cond (zeG f 2) (cond (cond (zfw f 2) false true) (some [(AV.agg (zbf r))]) (cond (inb b (ln r.Mons)) (cond (inb a (ln (ix r.Mons b zi).Dirty)) (share (up r.Mons b ({ (ix r.Mons b zi) with Dirty:=(up (ix r.Mons b zi).Dirty a true)}:Mon)) (fun e=>(cond (inb a (ln (ix e b zi).Outer)) (cond (zeG (ix (ix e b zi).Outer a zZ).Rights 2) (cond (cond (zfw (ix (ix e b zi).Outer a zZ).Rights 2) false true) (cond (inb a (ln (ix e b zi).Outer)) (share (up e b ({ (ix e b zi) with Outer:=(up (ix e b zi).Outer a ({ (ix (ix e b zi).Outer a zZ) with Rights:=3}:Slot))}:Mon)) (fun F=>(cond (zel ({r with Mons:=F}:Host) b a (ix (ix e b zi).Outer a zZ)) (some [(AV.agg (zbf (zem ({r with Mons:=F}:Host) b a (ix (ix e b zi).Outer a zZ))))]) none))) none) (some [(AV.agg (zbf ({r with Mons:=e}:Host)))])) none) none))) none) none)) none)=some [AV.agg (zbf (zj6 r b a f))]:=(by intro r B d q;obtain⟨S,u⟩:=zcC B d;have w:=zom (p:=a) B d;unfold zj6;simp only[zeG,zfw,H,cT];cases J:ieq (wand .i64 f 2) 0;{obtain⟨k,rfl,A⟩:=zdK (n:=r.Mons.length) d;have m:ix (zbK r (k:Int) a).Mons (k:Int) mZ={ix r.Mons (k:Int) mZ with Dirty:=up (ix r.Mons (k:Int) mZ).Dirty a true}:=zdR A _ _;have t:k<(zbK r (k:Int) a).Mons.length:=(by simpa [zbK] using A);have z:inb a (ln (ix (zbK r (k:Int) a).Mons (k:Int) mZ).Outer)=true:=(by rw[m];exact zI (zdy u.1 j));refine zdH rfl (must (zI d) (must (zI (zdy u.2.2.1 j)) (shr (must z ?_))));unfold opened;show (cond (cond (enough (ix (ix (zbK r (k:Int) a).Mons (k:Int) mZ).Outer a sZ).Rights 2) false true) _ _)=_;have G:(cond (enough (ix (ix (zbK r (k:Int) a).Mons (k:Int) mZ).Outer a sZ).Rights 2) false true)=ieq (wand .i64 (ix (ix (zbK r (k:Int) a).Mons (k:Int) mZ).Outer a sZ).Rights 2) 0:=(by rw[m];show (cond (enough (ix (ix r.Mons (k:Int) mZ).Outer a sZ).Rights 2) false true)=ieq (wand .i64 (ix (ix r.Mons (k:Int) mZ).Outer a sZ).Rights 2) 0;rw[q];cases ieq (wand .i64 (ix (ix r.Mons (k:Int) mZ).Outer a sZ).Rights 2) 0<;>rfl);rw[G];cases v:ieq (wand .i64 (ix (ix (zbK r (k:Int) a).Mons (k:Int) mZ).Outer a sZ).Rights 2) 0;{rfl};{have L:Shape {zbK r (k:Int) a with Mons:=up (zbK r (k:Int) a).Mons (k:Int) {ix (zbK r (k:Int) a).Mons (k:Int) mZ with Outer:=up (ix (zbK r (k:Int) a).Mons (k:Int) mZ).Outer a ⟨(ix (ix (zbK r (k:Int) a).Mons (k:Int) mZ).Outer a sZ).Page,3⟩}}:=(by obtain⟨D,E⟩:=zcC w (zeC d);exact zja w ⟨by simpa using D.1,D.2⟩ ⟨by simpa using E.1,E.2⟩);have O:∀(x y:Mon),hasB (k:Int) (ln (up (up r.Mons (k:Int) x) (k:Int) y))=true:=fun x y=>(by simpa [ln] using d);refine must rfl (must z (shr (must (zbJ ⟨L,O _ _⟩) ?_)));exact congrArg (fun x=>some [AV.agg (zbf x)]) (zCF (h:=zbK r (k:Int) a) (p:=a) (s:=⟨(ix (ix (zbK r (k:Int) a).Mons (k:Int) mZ).Outer a sZ).Page,3⟩) t (by rw[m];exact u.2.2.2))}};{rfl});refine⟨0,?_⟩;unfold zKA zLH mended oN nB;conv=>zeta
 refine must (zI i) (must (zI (zdy I.1 j)) ?_);cases J:ieq (ix (ix c.Mons b mZ).Outer a sZ).Page (-1);{exact g c l.1 i (zbcY C.lo C.hi)};{obtain⟨v,K⟩:=zkI (p:=a) l i j;exact must rfl (must (zbJ ⟨l,i,j⟩) (g _ v K (by rw[zW7 l i j];rfl)))}
theorem zXk:zbM Tryz.prog 112 [true,true,true,true] zza:=by refine zhn (zgF zhx zx zSq zHR) (zjU (by kernel_rfl)) ?_;intro g a b j i f h;have d:=zlD f;unfold zza at h;split at h;{obtain⟨e,rfl,rfl⟩:=zn2 h;obtain⟨N,c⟩:=z4b _ _ _ _ (by exact d) e;exact⟨rfl,_,N,12,(z7h N _ _ _ _ ).trans c⟩};{cases h}
def z4t:zcL:=[(112,([true,true,true,true],zza))]++z4s
theorem zb2:zb8 z4t:=zcr zSq (by
 intro x a;simp only[qG,qN,or_false]at a;rcases a with rfl
 .exact zXk)
def z5o:zfY:=[(115,([true,true,true,true,false,false,false],(some (1,1,[[0],[1],[2],[4],[7]])),zua))]++zZz
theorem zBb:zep z5o:=zrJ zHR (by
 intro x a;simp only[qG,qN,or_false]at a;rcases a with rfl
 .exact zOF)
theorem z3O {h:Host}(b:zb1 h=true):h.Memory.length=12:=by unfold zb1 at b;simp only[zc9]at b;have a:=b.1;unfold zhP at a;simp only[zc9]at a;have:ln h.Memory=12:=qE a.2;simp only[ln] at this;omega
theorem zg7 {h:Host}(a:zb1 h=true):∀x∈h.Mons,zd3 x=true:=by unfold zb1 at a;simp only[zc9]at a;exact zBQ _ _ a.2.2.2.2
theorem zL8 {x:Mon}(a:zd3 x=true):ShM x:=by have e:=ztG (znD a);unfold zd3 at a;simp only[zc9]at a;have b:ln x.Tables=ln x.Guests:=qE a.2.1;have c:ln x.Out=8:=qE a.2.2.2.1;have d:ln x.Dirty=8:=qE a.2.2.2.2.1;simp only[ln] at *;exact⟨by omega,by omega,by omega,by omega⟩
theorem zft {h:Host}(b:SmH h)(a:zb1 h=true):Fit h:=by refine⟨⟨b,fun x c=>zL8 (zg7 a x c)⟩,by rw[z3O a];decide,?_⟩;unfold zb1 at a;simp only[zc9]at a;have:=zXp _ _ rfl a.2.2.2.2;omega
theorem zuQ {x:Mon}(b:zd3 x=true){p:Int}(c:hasB p 8=true):SlotFit (ix x.Outer p sZ):=by have a:=znD b;unfold zcS at a;simp only[zc9]at a;exact z5e (qL.1 a.1 _ (zbA (zdy (zL8 b).1 c) _))
theorem z0o {h:Host}{m p:Int}(a:Fit h)(c:hasB m (ln h.Mons)=true):Fit (zbK h m p):=by refine⟨zom a.1 c,a.2.1,?_⟩;obtain⟨k,rfl,b⟩:=zdK (n:=h.Mons.length) c;have:=zZ6 h.Mons k (ix h.Mons (k:Int) mZ) {ix h.Mons (k:Int) mZ with Dirty:=up (ix h.Mons (k:Int) mZ).Dirty p true} (by rw[zbp b];exact qB b);have d:=a.2.2;unfold zbK;simp only[up,kH];dsimp only at this;simp only[up] at this;omega
abbrev gZ:Guest:=Ty.dflt .guest
@[simp] abbrev zFy (h:Host)(m:Int):Bool:=pc (zcc h)
@[simp] abbrev zeX (h:Host)(m:Int):Mon:=bif hasB m (ln h.Mons) then ix h.Mons m mZ else mZ
@[simp] abbrev ztk (h:Host)(m:Int):Bool:=hasB m (ln h.Mons)
def zJY:Run:=rF2 dH dI fun b c=>(zFy b c,[aT .mon (zeX b c),aB (ztk b c)])
def zS1 (N:Nat)(a:Host)(b:Int):OA:=
 let c:=(ix a.Mons b zi); (oN (zdB b (ln a.Mons)) (cond (nB (zd1 b (ln a.Mons))) (some [(aT .mon (⟨[],[],[],[],[],0,0,[],0⟩:Mon)),(aB false)]) (oN (inb b (ln a.Mons)) (oN (zkS c) (some [(aT .mon (zlW c)),(aB true)])))))
theorem z0A (a:Host)(b:Int)(d:zFy a b=true):∃N,zS1 N a b=some [aT .mon (zeX a b),aB (ztk a b)]:=by
 have e:=(zT a).1 (zK.1 d);refine⟨0,?_⟩;unfold zS1 zeX ztk oN nB;conv=>zeta
 refine must rfl ?_;rw[show zd1 b (ln a.Mons)=hasB b (ln a.Mons) from rfl];cases c:hasB b (ln a.Mons);{rfl};{exact zdH rfl (must (zI c) (must (zbJ (e.2.1.2 _ (zbA c _))) rfl))}
theorem zUs:vM 215 zJY:=kF2 zhx zx zb2 zBb (zq []) z0A
def zb0 (h:Host)(m g:Int):Bool:=bif zb1 h then (cond (hasB m (ln h.Mons)) (hasB g (ln (ix h.Mons m mZ).Guests)) false) else false
@[simp] abbrev zhi (h:Host)(m g:Int):Bool:=pc (zcc h)
@[simp] abbrev zjE (h:Host)(m g:Int):Bool:=zb0 h m g
def zKf:Run:=rF3 dH dI dI fun b c d=>(zhi b c d,[aB (zjE b c d)])
def zTj (N:Nat)(a:Host)(b c:Int):OA:=
 let d:=(wsub .i64 (ln (ix a.Mons b zi).Guests) 1); (oN (zfD a) (cond (zfC a) (oN (zN b 0 (wsub .i64 (ln a.Mons) 1)) (cond (zQ b 0 (wsub .i64 (ln a.Mons) 1)) (oN (inb b (ln a.Mons)) (oN (zN c 0 d) (some [(aB (zQ c 0 d))]))) oF)) oF))
theorem z0U (a:Host)(b c:Int)(f:zhi a b c=true):∃N,zTj N a b c=some [aB (zjE a b c)]:=by
 have e:=(zT a).1 (zK.1 f);refine⟨0,?_⟩;unfold zTj zjE zb0 oN;conv=>zeta
 refine must rfl ?_;rw[show zfC a=zb1 a from rfl];cases g:zb1 a;{rfl};{rw [show zQ b 0 (wsub .i64 (ln a.Mons) 1)=hasB b (ln a.Mons) from zrL e.2.1.1 b];refine must rfl (must rfl ?_);cases d:hasB b (ln a.Mons);{rfl};{have hg:(ix a.Mons b mZ).Guests.length<=1048576:=(e.2.1.2 _ (zbA d _)).2.2.2.1.1;rw[show zQ c 0 (wsub .i64 (ln (ix a.Mons b zi).Guests) 1)=hasB c (ln (ix a.Mons b mZ).Guests) from zrL hg c];exact must rfl (must (zI d) (must rfl rfl))}}
theorem zUN:vM 339 zKf:=kF3 zhx zx zb2 zBb (zq []) z0U
def zcw (h:Host)(m:Int):Nat->Nat->List (List Int)
 | 0,_=>[]
 |n+1,i=>zcm h m (i:Int)::zcw h m n (i+1)
theorem zCh (h:Host)(m:Int):∀(n i:Nat),(zcw h m n i).length=n
 | 0,_=>rfl
 |n+1,i=>by simp[zcw,zCh h m n]
def zB (h:Host)(m:Int):Bare:=bif hasB m (ln h.Mons) then ⟨zcw h m 8 0,(ix h.Mons m mZ).Guests,(ix h.Mons m mZ).Outs,(ix h.Mons m mZ).Pending⟩ else ⟨[],[],[],0⟩
theorem zFn {c:Type}(h:Host)(m:Int)(K:List (List Int)->Option c):∀(n i:Nat) (a:List (List Int)),a.length+n<=2147483648->
 goN (fun i a b=>bif few (ln (ap a [zcm h m (i:Int)])) then b (ap a [zcm h m (i:Int)]) else none) K n i a=K (a++zcw h m n i)
 | 0,_,a,_=>by simp[goN,zcw]
 |n+1,i,a,d=>by simp only[goN,zcw];rw[zhA (by simp[ap];omega),cT,zFn h m K n (i+1) _ (by simp[ap];omega)];simp[ap]
@[simp] abbrev zii (h:Host)(m:Int):Bool:=pc (zcc h)
@[simp] abbrev zlT (h:Host)(m:Int):Bare:=zB h m
def zbbr:zW:=[(215,zJY),(339,zKf)]++zrT
theorem zWX:zL zbbr:=zh zUs (zh zUN zhx)
def zGc:Run:=rF2 dH dI fun b c=>(zii b c,[aT .bare (zlT b c)])
def zMS (N:Nat)(b:Host)(c:Int):OA:=
 (oN (zFy b c) (cond (nB (ztk b c)) (some [(aT .bare (⟨[],[],[],0⟩:Bare))]) (iter (σ:=(Int×(Int×(Int×(Int×(lM×(lN×(lE×(lE×(lM×(lG×((List Int)×(lM×(lG×((List Int)×Unit))))))))))))))) N (fun h a=>let g:=a.2.2.2.2.2.2.2.2.2.2.2.2.1;let f:=a.2.2.2.2.2.2.2.2.2.2.2.2.2.1;let d:=(⟨a.2.2.2.2.1,a.2.2.2.2.2.1,a.2.2.2.2.2.2.1,a.2.2.2.2.2.2.2.1⟩:Host);let e:=(ap a.2.2.2.2.2.2.2.2.2.2.2.1 [(zBW d a.1 a.2.1)]); (cond (ilt a.2.1 8) (oN (zBX d a.1 a.2.1) (oN (few (ln e)) (h (a.1,((zM .i64 a.2.1 1),(a.2.2.1,(a.2.2.2.1,(a.2.2.2.2.1,(a.2.2.2.2.2.1,(a.2.2.2.2.2.2.1,(a.2.2.2.2.2.2.2.1,(a.2.2.2.2.2.2.2.2.1,(a.2.2.2.2.2.2.2.2.2.1,(a.2.2.2.2.2.2.2.2.2.2.1,(e,(g,(f,()))))))))))))))))) (some [(aT .bare (⟨a.2.2.2.2.2.2.2.2.2.2.2.1,g,f,a.2.2.2.1⟩:Bare))]))) (c,(0,(0,((zeX b c).Pending,(b.Memory,(b.Mons,(b.Buffer,(b.IoBuffer,([],([],([],([],((zeX b c).Guests,((zeX b c).Outs,())))))))))))))))))
def zZG:FuncId->Nat->Option Tmpl:=zq [(161,0,{n:=39,tm:=[(1,ti),(2,.lp 0 0),(4,.lp 1 0),(7,.lp 2 0),(8,ti)],lo:=[(0,[.sl 0 [],.sl 1 [],.sl 2 [],.sl 3 []]),(1,[.sl 4 [],.sl 5 [],.sl 6 [],ti]),(2,[.sl 7 [],.sl 8 [],.sl 9 [],ti])],ro:=[(0,(.sl .int),false),(1,.mon,false),(2,.entry,false),(3,.entry,false),(4,(.sl .int),true),(5,.guest,true),(6,.int,true),(7,(.sl .int),true),(8,.guest,true),(9,.int,true)]})]
theorem zXL (a:Host)(b:Int)(f:zii a b=true):∃N,zMS N a b=some [aT .bare (zlT a b)]:=by
 have e:=zK.1 f;refine zcp fun N d=>?_;unfold zMS zlT zB oN nB;conv=>zeta
 refine must (zbJ e) ?_;rw[show ztk a b=hasB b (ln a.Mons) from rfl];cases g:hasB b (ln a.Mons);{rfl};{refine zdH rfl ?_;refine(zv1 8 (fun i (t:lM)=>(b,(i:Int),0,(zeX a b).Pending,a.Memory,a.Mons,a.Buffer,a.IoBuffer,[],[],[],t,(zeX a b).Guests,(zeX a b).Outs,())) _ (fun i (c:List (List Int)) j=>bif few (ln (ap c [zcm a b (i:Int)])) then j (ap c [zcm a b (i:Int)]) else none) (fun (t:lM)=>(some [(.agg (Ty.cells .bare (⟨t,(zeX a b).Guests,(zeX a b).Outs,(zeX a b).Pending⟩:Bare)))])) (fun i h t rec=>?_) (fun t rec=>?_) _ ([]) (d (by decide))).trans ?_;{simp only [show ilt (i:Int) 8=true from qJ (by omega),zbj h (show 8<=big by decide),cT];exact must (zbJ e) rfl};{simp only [show ilt (((8:Nat)):Int) 8=false from qM (by omega),cF]};rw[zFn a b _ 8 0 [] (by decide)];simp only[zeX,g,cT,jP]}
theorem zQO:vM 161 zGc:=kF2 zWX zx zb2 zBb zZG zXL
theorem z06:zcn zCR=true:=by decide
theorem z1Q {p:Nat->Bool}:∀{n i q:Nat},zph p n i=true->i<=q->q<i+n->p q=true
 | 0,i,q,_,a,b=>by omega
 |n+1,i,q,h,a,b=>by simp only[zph,qD]at h;by_cases c:i=q;{subst c;exact h.1};{exact z1Q h.2 (by omega) (by omega)}
theorem z7u {h:Host}{m:Int}(e:zb1 h=true)(l:hasB m (ln h.Mons)=true){p:Int}(j:hasB p 8=true):zcn (zcm h m p)=true:=by have i:=zg7 e _ (zbA l mZ);have s:=zL8 i;have f:h.Memory.all zcn=true:=(by unfold zb1 at e;simp only[zc9]at e;have b:=e.1;unfold zhP at b;simp only[zc9]at b;exact b.1);unfold zcm;rw[l,j];simp only[cT];have t:zbu (ix h.Mons m mZ).Outer p=ix (ix h.Mons m mZ).Outer p sZ:=(by unfold zbu;rw[zdy s.1 j];rfl);rw[t];have d:∀(g:List (List Int)) (q:Int),(hasB q (ln g)=true->zcn (ix g q [])=true)->zcn (zct g q)=true:=(by intro g q k;unfold zct;cases b:hasB q (ln g);{exact z06};{exact k b});cases c:ine (ix (ix h.Mons m mZ).Outer p sZ).Page (-1);{refine d _ _ (fun k=>?_);obtain⟨q,rfl,u⟩:=zdK (n:=8) j;have a:fits (ix h.Mons m mZ) q=true:=(by unfold zd3 at i;simp only[zc9]at i;exact z1Q i.2.2.2.2.2.2.2.2.2.2 (by omega) (by omega));unfold fits zmQ at a;have r:zcW (ix (ix h.Mons m mZ).Outer (q:Int) sZ) noSlot=true:=(by rw[(zuQ (zg7 e _ (zbA l mZ)) j).no];rw[zHy]at c;cases b:ieq (ix (ix h.Mons m mZ).Outer (q:Int) sZ).Page (-1);{rw [b]at c;cases c};{rfl});rw[r]at a;exact a};{exact d _ _ (fun k=>qL.1 f _ (zbA k _))}
theorem zT2 {h:Host}{m:Int}(a:zb1 h=true)(b:hasB m (ln h.Mons)=true):∀(n i:Nat),i+n<=8->(zcw h m n i).all zcn=true
 | 0,_,_=>rfl
 |n+1,i,c=>by simp only[zcw,kW,qD];exact⟨z7u a b (qJ (by omega)),zT2 a b n (i+1) (by omega)⟩
theorem zJx {h:Host}{m:Int}(c:zb1 h=true)(b:hasB m (ln h.Mons)=true):zbS (zB h m)=true:=by have a:=zg7 c _ (zbA b mZ);unfold zd3 at a;simp only[zc9]at a;unfold zB zbS zhP;rw[b];simp only[cT,a.2.2.2.2.2.2.2.2.2.1,zT2 c b 8 0 (by decide),ln,zCh];simp only[ln]at a;rw[a.1,a.2.2.2.2.2.1,a.2.2.2.2.2.2.1];rfl
def zn3:zW:=[(161,zGc)]++zbbr
theorem ziQ:zL zn3:=zh zQO zWX
def zd5 (l:List Mon):List (List Guest):=l.map fun x=>x.Guests
theorem zBP {l:List Mon}{m:Int}{x:Mon}(b:hasB m (ln l)=true)(c:x.Guests=(ix l m mZ).Guests):zd5 (up l m x)=zd5 l:=by obtain⟨k,rfl,a⟩:=zdK (n:=l.length) b;unfold zd5 up;rw[List.map_set,kH,c,zbp a];have:=@u1 _ (l.map fun x=>x.Guests) k (by simpa using a);simpa using this
theorem zNY {l b:List Mon}(h:zd5 b=zd5 l)(m:Int):(ix b m mZ).Guests=(ix l m mZ).Guests:=by unfold zd5 at h;have a:(b.map fun x=>x.Guests)[m.toNat]?=(l.map fun x=>x.Guests)[m.toNat]?:=(by rw[h]);rw[qP,qP]at a;unfold ix;simp only[kB];cases c:b[m.toNat]? <;> cases d:l[m.toNat]? <;> rw [c,d]at a<;>simp at a ⊢;exact a
theorem zBO {h:Host}{m p:Int}{s:Slot}(a:hasB m (ln h.Mons)=true):zd5 (zco h m p s).Mons=zd5 h.Mons:=by rw[(zgu h m p s).1];exact zBP a rfl
theorem zbc5 {h:Host}{m p:Int}(a:hasB m (ln h.Mons)=true):zd5 (zdn h m p).Mons=zd5 h.Mons:=(zBO (h:=zeJ h m p) (zeC a)).trans (zBP a rfl)
theorem zbc4 {h:Host}(b:Fit h):zd5 (zc7 h).Mons=zd5 h.Mons:=by unfold zc7;cases a:ieq (ln (zch h)) 0;{rfl};{exact zbc5 (zHE b a).1}
theorem z3L {h:Host}{m p:Int}(a:Fit h)(c:hasB m (ln h.Mons)=true):zd5 (fetched h m p).Mons=zd5 h.Mons:=by have b:=zro a c;exact((zBO (h:=landing (zc7 h) m p (ix (zch (zc7 h)) 0 0)) (zeC b)).trans (zBP b rfl)).trans (zbc4 a)
theorem zXg {h:Host}{m p n:Int}(b:hasB m (ln h.Mons)=true):zd5 (zj6 h m p n).Mons=zd5 h.Mons:=by have a:zd5 (zbK h m p).Mons=zd5 h.Mons:=zBP b rfl;unfold zj6;cases ieq (wand .i64 n 2) 0;{unfold opened;cases ieq (wand .i64 (ix (ix (zbK h m p).Mons m mZ).Outer p sZ).Rights 2) 0;{exact a};{exact(zBO (h:=zbK h m p) (zeC b)).trans a}};{rfl}
theorem z6I {h:Host}{m p n:Int}(b:Fit h)(a:hasB m (ln h.Mons)=true)(c:hasB p 8=true):zd5 (mended h m p n).Mons=zd5 h.Mons:=by unfold mended;cases ieq (ix (ix h.Mons m mZ).Outer p sZ).Page (-1);{exact zXg a};{exact(zXg (zkI b a c).2).trans (z3L b a)}
theorem zber {l a:List Mon}(h:zd5 a=zd5 l):a.length=l.length:=by have:=congrArg List.length h;simpa [zd5] using this
abbrev kZ:Kept:=Ty.dflt .kept
theorem zbfi {x:Guest}(f:zc3 x=true){p n:Int}(d:zfN x.Live p n=true):hasB (zcE x.Live p n) 8=true:=by have g:zcS x.Live 4 8=true:=(by unfold zc3 at f;simp only[qD]at f;exact f.2.2.2.2.1);unfold zcE;rw[d];simp only[cT];unfold zfN at d;cases a:ieq (zbu x.Live p).Page (-1);{unfold zbu at a ⊢;cases e:hasB p (ln x.Live);{rw [e]at a;cases a};{rw [e]at a;simp only[cT]at a ⊢;unfold zcS at g;simp only[zc9]at g;have c:=qL.1 g.1 _ (zbA e sZ);unfold zdD at c;cases b:zcW (ix x.Live p sZ) noSlot;{rw [b]at c;simp only[cF,zc9]at c;have:=zge.1 c.2.1;rw[show wsub .i64 8 1=7 from rfl] at this;show hasB (ix x.Live p sZ).Page 8=true;exact qJ (by omega)};{unfold zcW at b;rw[qD]at b;have:(ix x.Live p sZ).Page = -1:=qE b.1;rw[show ieq (ix x.Live p zZ).Page (-1)=true from qJ this]at a;cases a}}};{rw [a]at d;cases d}
def zcO (h:Host)(m g:Int):List Slot:=(ix (ix h.Mons m mZ).Guests g gZ).Live
def zcB (h:Host)(m g:Int):Kept:=ix (ix h.Mons m mZ).Tables g kZ
def zsY (b:List Entry)(m g a:Int):Option Entry:=zHp b (zeN m g) a
def zhW (b:List Entry)(m g a c:Int):Bool:=bif (zsY b m g a).isSome then enough ((zsY b m g a).getD ⟨0,0,0,0⟩).Rights c else false
def zfb (h:Host)(m g a b:Int):Bool:=bif zlX (zcB h m g) a then (cond (ieq (zfq (zcB h m g) a).Page (-1)) true (!enough (zfq (zcB h m g) a).Rights b)) else true
def zdM (h:Host)(m g a:Int):Host:={h with Mons:=up h.Mons m {ix h.Mons m mZ with Tables:=up (ix h.Mons m mZ).Tables g (filled (zcB h m g) (zcO h m g) (ix h.Mons m mZ).Outer a)}}
def zV6 (h:Host)(m g a:Int):Entry:=⟨zeN m g,a,(zfq (zcB h m g) a).Page,(zfq (zcB h m g) a).Rights⟩
def zxJ (h:Host)(m g a:Int)(b:Bool):Host:=bif b then {h with IoBuffer:=zrj h.IoBuffer (zV6 h m g a)} else {h with Buffer:=zrj h.Buffer (zV6 h m g a)}
def zim (h:Host)(m g a:Int)(b:Bool):Host×Int×Bool:=(zxJ h m g a b,(zfq (zcB h m g) a).Page,true)
def zil (h:Host)(b:List Entry)(m g a c q:Int)(d:Bool):Host×Int×Bool :=
 bif zhW b m g a c then (h,((zsY b m g a).getD ⟨0,0,0,0⟩).Host,true)
 else (cond (zfb h m g a c) (zim (zdM (mended h m q c) m g a) m g a d) (zim h m g a d))
def zku (a:Int):Bool:=bif ieq a 1 then true else ieq a 2
def zcd (h:Host)(m g page need:Int):Bool:=bif zb0 h m g then (cond (zku need) (zfN (zcO h m g) page need) false) else false
def lookOf (h:Host)(b:List Entry)(m g page need:Int)(io:Bool):Host×Int×Bool :=
 bif zcd h m g page need then zil (cond (ieq need 2) (zbK h m (zcE (zcO h m g) page need)) h) b m g page need (zcE (zcO h m g) page need) io else (h,-1,false)
structure Kp (h r:Host):Prop where
 shape:Shape r
 gs:zd5 r.Mons=zd5 h.Mons
theorem Kp.has {h r:Host}(k:Kp h r){m:Int}(a:hasB m (ln h.Mons)=true):hasB m (ln r.Mons)=true:=by rw[ln,zber k.gs];exact a
theorem z5b {h:Host}{m g c:Int}(d:Shape h)(e:hasB m (ln h.Mons)=true)(hg:hasB g (ln (ix h.Mons m mZ).Guests)=true):Shape (zdM h m g c):=by obtain⟨a,b⟩:=zcC d e;have f:hasB g (ln (ix h.Mons m mZ).Tables)=true:=(by rw[ln,b.2.2.2];exact hg);exact zja d ⟨a.1,a.2.1,a.2.2.1,a.2.2.2.1,a.2.2.2.2.1,zA7 a.2.2.2.2.2 (z5h (a.2.2.2.2.2.2 _ (zbA f _)))⟩ ⟨b.1,b.2.1,b.2.2.1,by simpa using b.2.2.2⟩
theorem z6R {h r:Host}{m g a:Int}{i:Bool}(k:Kp h r):Kp h (zxJ r m g a i):=by obtain⟨⟨b,c,d,e⟩,f⟩:=k.shape;unfold zxJ;cases i;{exact⟨⟨⟨b,c,(zCk _ d).1,e⟩,f⟩,k.gs⟩};{exact⟨⟨⟨b,c,d,(zCk _ e).1⟩,f⟩,k.gs⟩}
structure LookAt (h:Host) (m g q need:Int):Prop where
 fit:Fit h
 hm:hasB m (ln h.Mons)=true
 hg:hasB g (ln (ix h.Mons m mZ).Guests)=true
 hq:hasB q 8=true
 hn:need=1\/need=2
 hs:SlotFit (ix (ix h.Mons m mZ).Outer q sZ)
theorem LookAt.mend {h:Host}{m g q a:Int}(A:LookAt h m g q a):zWs h m q a:=⟨A.fit,A.hm,A.hq,A.hn,A.hs⟩
theorem LookAt.kp {h:Host}{m g q a:Int}(A:LookAt h m g q a):Kp h (mended h m q a):=⟨(zwJ A.fit A.hm A.hq).1,z6I A.fit A.hm A.hq⟩
theorem LookAt.fill {h:Host}{m g q a:Int}(A:LookAt h m g q a)(b:Int):Kp h (zdM (mended h m q a) m g b):=by have k:=A.kp;have hg:hasB g (ln (ix (mended h m q a).Mons m mZ).Guests)=true:=(by rw[zNY k.gs];exact A.hg);have e:zd5 (zdM (mended h m q a) m g b).Mons=zd5 (mended h m q a).Mons:=zBP (k.has A.hm) rfl;exact⟨z5b k.shape (k.has A.hm) hg,e.trans k.gs⟩
theorem zXw {h:Host}{b:List Entry}{m g page a q:Int}{io:Bool}(A:LookAt h m g q a):Kp h (zil h b m g page a q io).1:=by unfold zil;cases zhW b m g page a;{cases zfb h m g page a;{exact z6R ⟨A.fit.1,rfl⟩};{exact z6R (A.fill page)}};{exact⟨A.fit.1,rfl⟩}
theorem zdx {h:Host}{m g:Int}(a:zb0 h m g=true):zb1 h=true/\hasB m (ln h.Mons)=true/\hasB g (ln (ix h.Mons m mZ).Guests)=true:=by unfold zb0 at a;simp only[zc9]at a;exact a
theorem z3M {h:Host}{m g:Int}(e:zb0 h m g=true):zc3 (ix (ix h.Mons m mZ).Guests g gZ)=true:=by obtain⟨b,c,d⟩:=zdx e;have a:=zg7 b _ (zbA c mZ);unfold zd3 at a;simp only[zc9]at a;exact qL.1 a.2.2.2.2.2.2.2.2.2.1 _ (zbA d _)
theorem zPf {n:Int}(h:zku n=true):n=1\/n=2:=by unfold zku at h;cases a:ieq n 1;{rw [a]at h;exact .inr (qE h)};{exact .inl (qE a)}
theorem zTP {h:Host}{m g page a:Int}(s:SmH h)(d:zcd h m g page a=true) :
 LookAt h m g (zcE (zcO h m g) page a) a/\LookAt (zbK h m (zcE (zcO h m g) page a)) m g (zcE (zcO h m g) page a) a:=by
 unfold zcd at d;simp only[zc9]at d;obtain⟨l,p,r⟩:=d;obtain⟨i,b,j⟩:=zdx l;have f:hasB (zcE (zcO h m g) page a) 8=true:=zbfi (z3M l) r;have c:=zuQ (zg7 i _ (zbA b mZ)) f;have q:=zft s i;refine⟨⟨q,b,j,f,zPf p,c⟩,⟨z0o q b,zeC b,?_,f,zPf p,?_⟩⟩
 .have e:zd5 (zbK h m (zcE (zcO h m g) page a)).Mons=zd5 h.Mons:=zBP b rfl;rw[zNY e];exact j
 .obtain⟨k,rfl,hk⟩:=zdK (n:=h.Mons.length) b;unfold zbK;rw[zdR hk];exact c
theorem zAa {h:Host}{b:List Entry}{m g page need:Int}{io:Bool}(a:SmH h)(f:zb0 h m g=true):Kp h (lookOf h b m g page need io).1:=by have d:=zft a (zdx f).1;unfold lookOf;cases c:zcd h m g page need;{exact⟨d.1,rfl⟩};{obtain⟨A,B⟩:=zTP a c;simp only[cT];cases ieq need 2;{exact zXw A};{have k:=zXw (b:=b) (page:=page) (io:=io) B;have e:zd5 (zbK h m (zcE (zcO h m g) page need)).Mons=zd5 h.Mons:=zBP A.hm rfl;exact⟨k.shape,k.gs.trans e⟩}}
def zSt (x:Host×Int×Bool):List AV:=[.agg (zbf x.1),.one (.i .i64 x.2.1),.one (.b x.2.2)]
theorem zo4 {h:Host}{b:List Entry}{m g c a:Int}{e:Bool}(d:zcd h m g c a=false):lookOf h b m g c a e=(h,-1,false):=by unfold lookOf;rw[d];rfl
theorem zFN {h:Host}{m g b a:Int}(c:zb0 h m g=false):zcd h m g b a=false:=by unfold zcd;rw[c];rfl
theorem zbc6 {h:Host}{m g:Int}(a:zb1 h=false):zb0 h m g=false:=by unfold zb0;rw[a];rfl
theorem zbc7 {h:Host}{m g:Int}(a:hasB m (ln h.Mons)=false):zb0 h m g=false:=by unfold zb0;rw[a];cases zb1 h<;>rfl
theorem zbc8 {h:Host}{m g:Int}(a:hasB g (ln (ix h.Mons m mZ).Guests)=false):zb0 h m g=false:=by unfold zb0;rw[a];cases zb1 h<;>cases hasB m (ln h.Mons)<;>rfl
theorem zbc9 {h:Host}{m g:Int}(a:zb1 h=true)(b:hasB m (ln h.Mons)=true)(c:hasB g (ln (ix h.Mons m mZ).Guests)=true):zb0 h m g=true:=by unfold zb0;rw[a,b,c];rfl
structure LookF (r:Host) (m g:Int):Prop where
 hm:hasB m (ln r.Mons)=true
 hg:hasB g (ln (ix r.Mons m mZ).Guests)=true
 ht:hasB g (ln (ix r.Mons m mZ).Tables)=true
 hk:SmK (zcB r m g)
 hb:r.Buffer.length<=1048576
 hi:r.IoBuffer.length<=1048576
theorem zHB {h r:Host}{m g:Int}(k:Kp h r)(b:hasB m (ln h.Mons)=true)(hg:hasB g (ln (ix h.Mons m mZ).Guests)=true):LookF r m g:=by obtain⟨d,e⟩:=zcC k.shape (k.has b);have a:hasB g (ln (ix r.Mons m mZ).Guests)=true:=(by rw[zNY k.gs];exact hg);have c:hasB g (ln (ix r.Mons m mZ).Tables)=true:=(by rw[ln,e.2.2.2];exact a);exact⟨k.has b,a,c,d.2.2.2.2.2.2 _ (zbA c _),k.shape.1.2.2.1,k.shape.1.2.2.2⟩
@[simp] abbrev zk7 (h:Host)(b:List Entry)(m g c a:Int)(d:Bool):Bool:=pc (zcc h)
@[simp] abbrev zfn (h:Host)(b:List Entry)(m g page need:Int)(io:Bool):Host:=(lookOf h b m g page need io).1
@[simp] abbrev zk6 (h:Host)(b:List Entry)(m g c a:Int)(d:Bool):Int:=(lookOf h b m g c a d).2.1
@[simp] abbrev zhh (h:Host)(b:List Entry)(m g c a:Int)(d:Bool):Bool:=(lookOf h b m g c a d).2.2
def zuf:List AV->Option (Bool×List AV)
 |[.agg [.s (.sl .int) c,.s .mon d,.s .entry e,.s .entry f],.one (.s .entry g),.one (.i .i64 h),.one (.i .i64 j),.one (.i .i64 k),.one (.i .i64 l),.one (.b m)]=>some ((zk7 (⟨c,d,e,f⟩:Host) g h j k l m),[aH (zfn (⟨c,d,e,f⟩:Host) g h j k l m),aI (zk6 (⟨c,d,e,f⟩:Host) g h j k l m),aB (zhh (⟨c,d,e,f⟩:Host) g h j k l m)])
 |_=>none
abbrev zUl (b:lM)(c:lN)(d:lE)(e:lE)(a:Int)(g:Int)(f:Int):Mon :=
 (ix (zpa (⟨b,c,d,e⟩:Host) a g f).Mons a zi)
abbrev zUm (a:Host)(b c:Int)(d e:Int):Int :=
 (zkA (ix (ix a.Mons b zi).Guests c zD).Live d e)
def zQl (N:Nat)(a:Int)(b:lM)(c:lN)(d:lE)(e:lE):OA:=
 (some [(aH (⟨b,c,d,e⟩:Host)),(aI a),(aB true)])
def zqS (N:Nat)(l:Int)(m:Bool)(n:Int)(c:Int)(d:Int)(k:lM)(e:lN)(a:lE)(b:lE)(f:lM)(g:lN)(h:lE)(i:lE):OA:=
 let q:=(⟨n,l,c,d⟩:Entry); (share (fun (j:(Int×(Int×(lM×(lN×(lE×(lE×(lM×(lN×(lE×(lE×Unit)))))))))))=>(zQl N j.1 j.2.2.1 j.2.2.2.1 j.2.2.2.2.1 j.2.2.2.2.2.1)) (fun p=>(cond m (oN (zmc b q) (p (c,(d,(k,(e,(a,((zm5 b q),(f,(g,(h,(i,())))))))))))) (oN (zmc a q) (p (c,(d,(k,(e,((zm5 a q),(b,(f,(g,(h,(i,())))))))))))))))
def ztL (N:Nat)(d:lM)(e:lN)(f:lE)(g:lE)(b:Int)(i:Int)(h:Int)(a:Int)(c:Int)(y:((Int×(Bool×(Int×(Int×(Int×(Int×(Int×(Int×(Int×(lM×(lN×(lE×(lE×(lM×(lN×(lE×(lE×Unit))))))))))))))))))->OA)(r:Bool)(s:Int)(t:Int)(u:Int)(v:Int)(k:Int)(l:lM)(m:lN)(n:lE)(p:lE):OA:=
 let D:=(⟨d,e,f,g⟩:Host);let w:=(zpa D b i h);let x:=(inb b (ln w.Mons));let j:=(zUl d e f g b i h);let C:=(ix j.Tables a zfO);let A:=(ix j.Guests a zD).Live; (oN (znZ D b i h) (oN x (oN x (oN (inb a (ln j.Tables)) (oN x (oN (inb a (ln j.Guests)) (oN x (oN (zMq C A j.Outer c) (oN (inb a (ln j.Tables)) (share (up w.Mons b ({j with Tables:=(up j.Tables a (zPF C A j.Outer c))}:Mon)) (fun q=>let B:=(ix q b zi).Tables;let z:=(ix B a zfO); (oN (inb b (ln q)) (oN (inb a (ln B)) (oN (zHJ z c) (y (c,(r,(s,(t,(u,(v,(k,((zvm z c).Page,((zvm z c).Rights,(w.Memory,(q,(w.Buffer,(w.IoBuffer,(l,(m,(n,(p,()))))))))))))))))))))))))))))))))
def zmr (N:Nat)(d:Int)(e:Int)(c:Int)(n:Int)(p:Bool)(v:Int)(q:Int)(r:Int)(s:Int)(t:Int)(f:Int)(g:lM)(b:lN)(h:lE)(i:lE)(j:lM)(k:lN)(l:lE)(m:lE):OA:=
 let z:=(ix b d zi).Tables;let x:=(ix z e zfO);let w:=(zvm x c); (oN (inb d (ln b)) (oN (inb e (ln z)) (oN (zHJ x c) (share (fun (a:(Int×(Bool×(Int×(Int×(Int×(Int×(Int×(Int×(Int×(lM×(lN×(lE×(lE×(lM×(lN×(lE×(lE×Unit))))))))))))))))))=>(zqS N a.1 a.2.1 a.2.2.1 a.2.2.2.2.2.2.2.1 a.2.2.2.2.2.2.2.2.1 a.2.2.2.2.2.2.2.2.2.1 a.2.2.2.2.2.2.2.2.2.2.1 a.2.2.2.2.2.2.2.2.2.2.2.1 a.2.2.2.2.2.2.2.2.2.2.2.2.1 a.2.2.2.2.2.2.2.2.2.2.2.2.2.1 a.2.2.2.2.2.2.2.2.2.2.2.2.2.2.1 a.2.2.2.2.2.2.2.2.2.2.2.2.2.2.2.1 a.2.2.2.2.2.2.2.2.2.2.2.2.2.2.2.2.1)) (fun u=>let y:=(ztL N g b h i d v n e c u p q r s t f j k l m); (cond (nB (zHI x c)) y (cond (ieq w.Page (-1)) y (oN (zg2 w.Rights n) (cond (nB (zhH w.Rights n)) y (u (c,(p,(q,(r,(s,(t,(f,(w.Page,(w.Rights,(g,(b,(h,(i,(j,(k,(l,(m,())))))))))))))))))))))))))))
def ztM (N:Nat)(g:Int)(a:Host)(h e f:Int)(l:lE)(n:Bool):OA:=
 let i:=(zvo g h);let k:=(zUm a g h e f);let m:=(ix a.Mons g zi);let s:=(ix m.Guests h zD).Live;let d:=(zoa l i e);let j:=d.Rights; (oN (inb g (ln a.Mons)) (oN (inb h (ln m.Guests)) (oN (zul s e f) (cond (nB (zkB s e f)) (some [(aH a),(aI (-1)),(aB false)]) (oN (zmd g h) (cond (ieq f 2) (oN (inb g (ln a.Mons)) (oN (inb k (ln m.Dirty)) (share (up a.Mons g ({m with Dirty:=(up m.Dirty k true)}:Mon)) (fun p=>(oN (zob l i e) (share (fun (c:(Int×(Int×(Int×(Int×(Bool×(Int×(Int×(Int×(Int×(Int×(Int×(lM×(lN×(lE×(lE×(lM×(lN×(lE×(lE×Unit))))))))))))))))))))=>(zmr N c.1 c.2.1 c.2.2.1 c.2.2.2.1 c.2.2.2.2.1 c.2.2.2.2.2.1 c.2.2.2.2.2.2.1 c.2.2.2.2.2.2.2.1 c.2.2.2.2.2.2.2.2.1 c.2.2.2.2.2.2.2.2.2.1 c.2.2.2.2.2.2.2.2.2.2.1 c.2.2.2.2.2.2.2.2.2.2.2.1 c.2.2.2.2.2.2.2.2.2.2.2.2.1 c.2.2.2.2.2.2.2.2.2.2.2.2.2.1 c.2.2.2.2.2.2.2.2.2.2.2.2.2.2.1 c.2.2.2.2.2.2.2.2.2.2.2.2.2.2.2.1 c.2.2.2.2.2.2.2.2.2.2.2.2.2.2.2.2.1 c.2.2.2.2.2.2.2.2.2.2.2.2.2.2.2.2.2.1 c.2.2.2.2.2.2.2.2.2.2.2.2.2.2.2.2.2.2.1)) (fun r=>(cond (zky l i e) (oN (zg2 j f) (cond (zhH j f) (some [(aH ({a with Mons:=p}:Host)),(aI d.Host),(aB true)]) (r (g,(h,(e,(f,(n,(k,(i,(d.Tag,(d.Page,(d.Host,(j,(a.Memory,(p,(a.Buffer,(a.IoBuffer,([],([],([],([],())))))))))))))))))))))) (r (g,(h,(e,(f,(n,(k,(i,(d.Tag,(d.Page,(d.Host,(j,(a.Memory,(p,(a.Buffer,(a.IoBuffer,([],([],([],([],())))))))))))))))))))))))))))) (oN (zob l i e) (share (fun (b:(Int×(Int×(Int×(Int×(Bool×(Int×(Int×(Int×(Int×(Int×(Int×(lM×(lN×(lE×(lE×(lM×(lN×(lE×(lE×Unit))))))))))))))))))))=>(zmr N b.1 b.2.1 b.2.2.1 b.2.2.2.1 b.2.2.2.2.1 b.2.2.2.2.2.1 b.2.2.2.2.2.2.1 b.2.2.2.2.2.2.2.1 b.2.2.2.2.2.2.2.2.1 b.2.2.2.2.2.2.2.2.2.1 b.2.2.2.2.2.2.2.2.2.2.1 b.2.2.2.2.2.2.2.2.2.2.2.1 b.2.2.2.2.2.2.2.2.2.2.2.2.1 b.2.2.2.2.2.2.2.2.2.2.2.2.2.1 b.2.2.2.2.2.2.2.2.2.2.2.2.2.2.1 b.2.2.2.2.2.2.2.2.2.2.2.2.2.2.2.1 b.2.2.2.2.2.2.2.2.2.2.2.2.2.2.2.2.1 b.2.2.2.2.2.2.2.2.2.2.2.2.2.2.2.2.2.1 b.2.2.2.2.2.2.2.2.2.2.2.2.2.2.2.2.2.2.1)) (fun q=>(cond (zky l i e) (oN (zg2 j f) (cond (zhH j f) (some [(aH a),(aI d.Host),(aB true)]) (q (g,(h,(e,(f,(n,(k,(i,(d.Tag,(d.Page,(d.Host,(j,(a.Memory,(a.Mons,(a.Buffer,(a.IoBuffer,([],([],([],([],())))))))))))))))))))))) (q (g,(h,(e,(f,(n,(k,(i,(d.Tag,(d.Page,(d.Host,(j,(a.Memory,(a.Mons,(a.Buffer,(a.IoBuffer,([],([],([],([],()))))))))))))))))))))))))))))))
def zrN (N:Nat)(a:Host)(g:lE)(b c:Int)(h d:Int)(i:Bool):OA:=
 let f:=(ztM N b a c h d g i);let e:=(wsub .i64 (ln (ix a.Mons b zi).Guests) 1); (oN (zfD a) (cond (nB (zfC a)) (some [(aH a),(aI (-1)),(aB false)]) (oN (zN b 0 (wsub .i64 (ln a.Mons) 1)) (cond (nB (zQ b 0 (wsub .i64 (ln a.Mons) 1))) (some [(aH a),(aI (-1)),(aB false)]) (oN (inb b (ln a.Mons)) (oN (zN c 0 e) (cond (nB (zQ c 0 e)) (some [(aH a),(aI (-1)),(aB false)]) (cond (ine d 1) (cond (ine d 2) (some [(aH a),(aI (-1)),(aB false)]) f) f))))))))
def zur:FuncId->Nat->Option Tmpl:=zq [(122,999999,{n:=0,tm:=[],lo:=[],ro:=[]}),(122,1007023,{n:=210,tm:=[(2,ti),(3,ti),(4,ti),(5,ti),(6,.b),(7,.lp 0 0),(14,.lp 1 0),(17,ti),(19,ti),(20,.lp 2 0)],lo:=[(0,[.sl 0 [],.sl 1 [],.sl 2 [],.sl 3 []]),(1,[.sl 4 [],.sl 5 [],.sl 6 [],.sl 7 []]),(2,[ti,ti,ti,ti])],ro:=[(0,(.sl .int),true),(1,.mon,true),(2,.entry,true),(3,.entry,true),(4,(.sl .int),true),(5,.mon,true),(6,.entry,true),(7,.entry,true)],kr:=1}),(122,1009011,{n:=210,tm:=[(4,ti),(6,.b),(7,.lp 0 0),(14,.lp 1 0),(19,ti),(20,.lp 2 0),(22,.lp 3 0)],lo:=[(0,[.sl 0 [],.sl 1 [],.sl 2 [],.sl 3 []]),(1,[.sl 4 [],.sl 5 [],.sl 6 [],.sl 7 []]),(2,[ti,ti,ti,ti]),(3,[ti,ti])],ro:=[(0,(.sl .int),true),(1,.mon,true),(2,.entry,true),(3,.entry,true),(4,(.sl .int),true),(5,.mon,true),(6,.entry,true),(7,.entry,true)],kr:=1}),(122,1005003,{n:=210,tm:=[(7,.lp 0 0),(14,.lp 1 0),(22,.lp 2 0)],lo:=[(0,[.sl 0 [],.sl 1 [],.sl 2 [],.sl 3 []]),(1,[.sl 4 [],.sl 5 [],.sl 6 [],.sl 7 []]),(2,[ti,ti])],ro:=[(0,(.sl .int),true),(1,.mon,true),(2,.entry,true),(3,.entry,true),(4,(.sl .int),true),(5,.mon,true),(6,.entry,true),(7,.entry,true)],kr:=1})]
theorem zSk (N:Nat)(a:Host)(b c:Int)(d e:Int)(f:Bool):zV7 (cQ zn3 zrd z4t z5o) zur N 12 122 [true,true,true,true,false,false,false,false,false,false] [(4,2)] 1 1 [[0],[1],[2],[4],[7]] .mon [aH a,aS .entry a.Buffer,aI b,aI c,aI d,aI e,aB f]=zrN N a a.Buffer b c d e f:=by kernel_rfl
theorem zSl (N:Nat)(a:Host)(b c:Int)(d e:Int)(f:Bool):zV7 (cQ zn3 zrd z4t z5o) zur N 12 122 [true,true,true,true,false,false,false,false,false,false] [(4,3)] 1 1 [[0],[1],[2],[4],[7]] .mon [aH a,aS .entry a.IoBuffer,aI b,aI c,aI d,aI e,aB f]=zrN N a a.IoBuffer b c d e f:=by kernel_rfl
theorem zHq {N:Nat}{r:Host}{m g a:Int}{b:Bool}{z1 z2 z3 z4}(c:r.Buffer.length<=1048576)(d:r.IoBuffer.length<=1048576) :
 zqS N a b (zeN m g) (zfq (zcB r m g) a).Page (zfq (zcB r m g) a).Rights r.Memory r.Mons r.Buffer r.IoBuffer z1 z2 z3 z4=some (zSt (zim r m g a b)):=by
 unfold zqS oN
 conv=>zeta
 refine shr ?_;cases b
 .exact zdH rfl (must (zbJ c) rfl)
 .exact must rfl (must (zbJ d) rfl)
theorem zW8 {N:Nat}{r:Host}{m g a b q:Int}{c:Bool}{R:OA}{r11}{u6 u7 u8 u9 u10 z1 z2 z3 z4}(A:LookAt r m g q b)(d:r11 (a,(c,(u6,(u7,(u8,(u9,(u10,((zfq (zcB (zdM (mended r m q b) m g a) m g) a).Page,((zfq (zcB (zdM (mended r m q b) m g a) m g) a).Rights,((zdM (mended r m q b) m g a).Memory,((zdM (mended r m q b) m g a).Mons,((zdM (mended r m q b) m g a).Buffer,((zdM (mended r m q b) m g a).IoBuffer,(z1,(z2,(z3,(z4,())))))))))))))))))=R) :
 ztL N r.Memory r.Mons r.Buffer r.IoBuffer m q b g a r11 c u6 u7 u8 u9 u10 z1 z2 z3 z4=R:=by
 have M:=zHB A.kp A.hm A.hg;have F:=zHB (A.fill a) A.hm A.hg;unfold ztL oN
 conv=>zeta
 exact must (zbJ A.mend) (must (zI M.hm) (must (zI M.hm) (must (zI M.ht) (must (zI M.hm) (must (zI M.hg) (must (zI M.hm) (must (zbJ M.hk) (must (zI M.ht) (shr (must (zI F.hm) (must (zI F.ht) (must (zbJ F.hk) d))))))))))))
theorem zbdK {r:Host}{m g a b:Int}(h:zlX (zcB r m g) a=false):zfb r m g a b=true:=by unfold zfb;rw[h];rfl
theorem zbdL {r:Host}{m g a b:Int}(h:ieq (zfq (zcB r m g) a).Page (-1)=true):zfb r m g a b=true:=by unfold zfb;rw[h];cases zlX (zcB r m g) a<;>rfl
theorem zbdM {r:Host}{m g a b:Int}(h:enough (zfq (zcB r m g) a).Rights b=false):zfb r m g a b=true:=by unfold zfb;rw[h];cases zlX (zcB r m g) a<;>cases ieq (zfq (zcB r m g) a).Page (-1)<;>rfl
theorem zbdN {r:Host}{m g a b:Int}(c:zlX (zcB r m g) a=true)(d:ieq (zfq (zcB r m g) a).Page (-1)=false)(e:enough (zfq (zcB r m g) a).Rights b=true):zfb r m g a b=false:=by unfold zfb;rw[c,d,e];rfl
theorem zR9 {r:Host}{m g a b q:Int}{c:Bool}(h:zfb r m g a b=true):(cond (zfb r m g a b) (zim (zdM (mended r m q b) m g a) m g a c) (zim r m g a c))=zim (zdM (mended r m q b) m g a) m g a c:=by rw[h];rfl
theorem zbdd {r:Host}{m g a b q:Int}{c:Bool}(h:zfb r m g a b=false):(cond (zfb r m g a b) (zim (zdM (mended r m q b) m g a) m g a c) (zim r m g a c))=zim r m g a c:=by rw[h];rfl
theorem zHr {N:Nat}{r:Host}{m g a b q:Int}{f:Bool}{u7 u8 u9 u10 z1 z2 z3 z4}(A:LookAt r m g q b) :
 zmr N m g a b f q (zeN m g) u7 u8 u9 u10 r.Memory r.Mons r.Buffer r.IoBuffer z1 z2 z3 z4=some (zSt (cond (zfb r m g a b) (zim (zdM (mended r m q b) m g a) m g a f) (zim r m g a f))):=by
 have M:=zHB ⟨A.fit.1,rfl⟩ A.hm A.hg;have F:=zHB (A.fill a) A.hm A.hg;unfold zmr oN nB
 conv=>zeta
 refine must (zI M.hm) (must (zI M.ht) (must (zbJ M.hk) (shr (brN (fun c=>?_) (fun c=>br (fun d=>?_) (fun d=>must rfl (brN (fun e=>?_) (fun e=>?_))))))))
 .rw [zR9 (zbdK c)];exact zW8 A (zHq (r:=zdM (mended r m q b) m g a) (m:=m) (g:=g) F.hb F.hi)
 .rw [zR9 (zbdL d)];exact zW8 A (zHq (r:=zdM (mended r m q b) m g a) (m:=m) (g:=g) F.hb F.hi)
 .rw [zR9 (zbdM e)];exact zW8 A (zHq (r:=zdM (mended r m q b) m g a) (m:=m) (g:=g) F.hb F.hi)
 .rw [zbdd (zbdN c d e)];exact zHq (r:=r) (m:=m) (g:=g) M.hb M.hi
theorem z16 {b:List Entry}{m g a c:Int}(h:(zsY b m g a).isSome=false):zhW b m g a c=false:=by unfold zhW;rw[h];rfl
theorem zHu {b:List Entry}{m g a c:Int}{x:Bool}(d:(zsY b m g a).isSome=true)(h:enough ((zsY b m g a).getD ⟨0,0,0,0⟩).Rights c=x):zhW b m g a c=x:=by unfold zhW;rw[d,h];rfl
theorem zHA {r:Host}{b:List Entry}{m g a c q:Int}{d:Bool}(h:zhW b m g a c=false):zil r b m g a c q d=bif zfb r m g a c then zim (zdM (mended r m q c) m g a) m g a d else zim r m g a d:=by unfold zil;rw[h];rfl
theorem z2j {r:Host}{b:List Entry}{m g a c q:Int}{d:Bool}(h:zhW b m g a c=true):zil r b m g a c q d=(r,((zsY b m g a).getD ⟨0,0,0,0⟩).Host,true):=by unfold zil;rw[h];rfl
theorem zYo {h:Host}{b:List Entry}{m g c a:Int}{d:Bool}(e:zcd h m g c a=true):lookOf h b m g c a d=zil (cond (ieq a 2) (zbK h m (zcE (zcO h m g) c a)) h) b m g c a (zcE (zcO h m g) c a) d:=by unfold lookOf;rw[e];rfl
theorem z6v {N:Nat}{r:Host}{b:List Entry}{m g c a:Int}{f:Bool}(p:SmH r)(hg:zb0 r m g=true)(k:zku a=true) :
 ztM N m r g c a b f=some (zSt (lookOf r b m g c a f)):=by
 obtain⟨q,h,l⟩:=zdx hg;unfold ztM oN nB
 conv=>zeta
 refine must (zI h) (must (zI l) (must rfl (brN (fun j=>?_) (fun j=>must rfl ?_))))
 .have:zcd r m g c a=false:=by
   unfold zcd;rw[hg,k,show zfN (zcO r m g) c a=false from j];rfl
  rw[zo4 this];rfl
 .have hl:zcd r m g c a=true:=by
   unfold zcd;rw[hg,k,show zfN (zcO r m g) c a=true from j];rfl
  obtain⟨A,B⟩:=zTP p hl;rw[zYo hl];have n:hasB (zcE (zcO r m g) c a) (ln (ix r.Mons m mZ).Dirty)=true:=zdy (zcC A.fit.1 h).2.2.2.1 A.hq;refine br (fun i=>?_) (fun i=>?_)
  .rw [i]
   show _=some (zSt (zil (zbK r m (zcE (zcO r m g) c a)) b m g c a (zcE (zcO r m g) c a) f))
   refine must (zI h) (must (zI n) (shr (must rfl (shr (br (fun d=>must rfl (br (fun e=>?_) (fun e=>?_))) (fun d=>?_))))))
   .rw [z2j (zHu d e)];rfl
   .rw [zHA (zHu d e)];exact zHr (r:=zbK r m (zcE (zcO r m g) c a)) B
   .rw [zHA (z16 d)];exact zHr (r:=zbK r m (zcE (zcO r m g) c a)) B
  .rw [i]
   show _=some (zSt (zil r b m g c a (zcE (zcO r m g) c a) f))
   refine must rfl (shr (br (fun d=>must rfl (br (fun e=>?_) (fun e=>?_))) (fun d=>?_)))
   .rw [z2j (zHu d e)];rfl
   .rw [zHA (zHu d e)];exact zHr A
   .rw [zHA (z16 d)];exact zHr A
theorem zVB (a:Host)(f:List Entry)(b c:Int)(e d:Int)(g:Bool)(t:zci big [aH a,aS .entry f,aI b,aI c,aI e,aI d,aB g])(r:zk7 a f b c e d g=true):∃N,zrN N a f b c e d g=some [aH (zfn a f b c e d g),aI (zk6 a f b c e d g),aB (zhh a f b c e d g)]:=by
 have j:=(zT a).1 (zK.1 r);refine⟨0,?_⟩;show _=some (zSt (lookOf a f b c e d g));unfold zrN oN nB;conv=>zeta
 refine must rfl (brN (fun k=>?_) (fun k=>must rfl ?_));{rw [zo4 (zFN (zbc6 k))];rfl};rw[show zQ b 0 (wsub .i64 (ln a.Mons) 1)=hasB b (ln a.Mons) from zrL j.2.1.1 b];refine brN (fun i=>?_) (fun i=>must (zI i) (must rfl ?_));{rw [zo4 (zFN (zbc7 i))];rfl};have s:(ix a.Mons b mZ).Guests.length<=1048576:=(j.2.1.2 _ (zbA i _)).2.2.2.1.1;rw[show zQ c 0 (wsub .i64 (ln (ix a.Mons b zi).Guests) 1)=hasB c (ln (ix a.Mons b mZ).Guests) from zrL s c];refine brN (fun l=>?_) (fun l=>?_);{rw [zo4 (zFN (zbc8 l))];rfl};have hg:=zbc9 k i l;have p:∀{n:Int},zku n=false->zcd a b c e n=false:=fun {n} h=>(by unfold zcd;rw[hg,h];rfl);rw[zHy,zHy];cases m:ieq d 1;{cases q:ieq d 2;{have:zku d=false:=(by unfold zku;rw[m,q];rfl);rw[zo4 (p this)];rfl};{exact z6v j hg (by unfold zku;rw[m,q];rfl)}};{exact z6v j hg (by unfold zku;rw[m];rfl)}
theorem zOH:zd4 Tryz.prog 122 [true,true,true,true,false,false,false,false,false,false] (some (1,1,[[0],[1],[2],[4],[7]])) zuf:=by refine zQz (kt:=.mon) (zgF ziQ zx zb2 zBb) (zjU (by kernel_rfl)) ?_;intro p s x f i w v h;have t:=zjd v;have g:p=[(4,2)]\/p=[(4,3)]:=(by rw[show zia 122=[[(4,2)],[(4,3)]] from by kernel_rfl]at f;simpa using f);unfold zuf at h;split at h;{rename_i a b c d r j k l m n;obtain⟨u,rfl⟩:=zea h;obtain⟨N,q⟩:=zVB (⟨a,b,c,d⟩:Host) r j k l m n t u;refine⟨⟨_,rfl⟩,rfl,zur,N,12,?_⟩;rcases g with rfl|rfl;{have e:=i 4 2 (by simp);simp only[zC,kA,AV.cvs] at e;cases e;exact(zSk N (⟨a,b,c,d⟩:Host) j k l m n).trans q};{have e:=i 4 3 (by simp);simp only[zC,kA,AV.cvs] at e;cases e;exact(zSl N (⟨a,b,c,d⟩:Host) j k l m n).trans q}};{cases h}
def tctN:zfY:=[(122,([true,true,true,true,false,false,false,false,false,false],(some (1,1,[[0],[1],[2],[4],[7]])),zuf))]++z5o
theorem zjH:zep tctN:=zrJ zBb (by
 intro x a;simp only[qG,qN,or_false]at a;rcases a with rfl
 .exact zOH)
def gOf (h:Host)(m g:Int):Guest:=ix (ix h.Mons m mZ).Guests g gZ
def zl6 (h:Host)(m g:Int)(x:Guest):Host:={h with Mons:=up h.Mons m {ix h.Mons m mZ with Guests:=up (ix h.Mons m mZ).Guests g x}}
def zn7 (h:Host)(m g:Int)(x:Guest)(w:Bool):Host×Int×Bool:=lookOf h h.Buffer m g (zbk (address x)) (zcf w) false
def zkp (L:Host×Int×Bool)(m g:Int)(x:Guest)(w:Bool):Host :=
 bif L.2.2 then (cond w (zl6 {L.1 with Memory:=zbN L.1.Memory L.2.1 (zde (address x)) x.A} m g (zb3 x)) (zl6 L.1 m g (loaded x (cellAt L.1.Memory L.2.1 (zde (address x))))))
 else zl6 L.1 m g (stopped x (zsX (zbk (address x)) w))
def owned (h:Host)(m:Int):Host:=bif ilt (ix h.Mons m mZ).Own 1000000000 then {h with Mons:=up h.Mons m {ix h.Mons m mZ with Own:=zM .i64 (ix h.Mons m mZ).Own 1}} else h
def zpF (h:Host)(m n:Int):Host:=bif ilt (ln (ix h.Mons m mZ).Outs) 40 then {h with Mons:=up h.Mons m {ix h.Mons m mZ with Outs:=ap (ix h.Mons m mZ).Outs [n]}} else h
def zgO (h:Host)(m:Int)(x:Guest)(w:Int):Host:=bif (cond (ine w 6) (ieq (zCf (ix h.Mons m mZ).Traps x.Ctl.Traps (zBc w)) 2) false) then owned h m else h
def zgN (h:Host)(m:Int)(x:Guest)(w:Int):Host:=bif (cond (zlz x.Ctl.Traps w) (ieq w 5) false) then zpF h m (zcv x.Prog x.Pc).X else h
def zyF (h:Host)(m g:Int)(x:Guest)(w:Int):Host:=zl6 (zgN (zgO h m x w) m x w) m g (zkq x x.Ctl.Traps w)
def zZs (h:Host)(m g:Int)(x:Guest)(w:Int):Host×Bool :=
 bif ieq w 0 then (h,false) else (bif ieq w 1 then (zl6 h m g (interrupted x),true) else (bif ieq w 2 then (zl6 h m g (plainly x),true) else
  (cond (cond (ieq w 3) true (ieq w 4)) (zkp (zn7 h m g x (ieq w 4)) m g x (ieq w 4),true) (zyF h m g x w,true))))
def zbF (h:Host)(m g:Int):Host×Bool:=bif zb0 h m g then zZs h m g (gOf h m g) (zbe (gOf h m g)) else (h,false)
def zf6 (x:Host×Bool):List AV:=[.agg (zbf x.1),.one (.b x.2)]
theorem zqK {h:Host}{m g:Int}(b:SmH h)(a:hasB m (ln h.Mons)=true)(hg:hasB g (ln (ix h.Mons m mZ).Guests)=true):SmG (gOf h m g):=(b.2.1.2 _ (zbA a _)).2.2.2.1.2 _ (zbA hg _)
theorem z5c {h:Host}{m g:Int}{x:Guest}(c:Shape h)(d:hasB m (ln h.Mons)=true)(e:SmG x):Shape (zl6 h m g x):=by obtain⟨a,b⟩:=zcC c d;exact zja c ⟨a.1,a.2.1,a.2.2.1,zHO a.2.2.2.1 e,a.2.2.2.2⟩ ⟨b.1,b.2.1,b.2.2.1,by simpa using b.2.2.2⟩
theorem zPd {h:Host}{m:Int}(b:hasB m (ln h.Mons)=true)(x:Mon):ix (up h.Mons m x) m mZ=x:=by obtain⟨k,rfl,a⟩:=zdK (n:=h.Mons.length) b;exact zdR a _ _
@[simp] abbrev zeD (h:Host)(m g:Int):Bool:=pc (zcc h)
@[simp] abbrev zGO (h:Host)(m g:Int):Host:=(zbF h m g).1
@[simp] abbrev zGP (h:Host)(m g:Int):Bool:=(zbF h m g).2
theorem zbbG {a:Type}{l:List a}{x:a}(h:ilt (ln l) 40=true):few (ln (ap l [x]))=true:=by have:=qE h;simp only[ln] at this;exact zhA (by simp[ap];omega)
theorem z2F {h:Host}{m:Int}{x:Guest}{w:Int}(a:(cond (zlz x.Ctl.Traps w) (ieq w 5) false)=false):zgN h m x w=h:=by unfold zgN;rw[a];rfl
theorem zUi {h:Host}{m:Int}{x:Guest}{w:Int}(a:ilt (ln (ix h.Mons m mZ).Outs) 40=false):zgN h m x w=h:=by unfold zgN zpF;rw[a];cases (cond (zlz x.Ctl.Traps w) (ieq w 5) false)<;>rfl
theorem zZA {h:Host}{m:Int}{x:Guest}{w:Int}(a:zlz x.Ctl.Traps w=true)(b:ieq w 5=true)(c:ilt (ln (ix h.Mons m mZ).Outs) 40=true):zgN h m x w={h with Mons:=up h.Mons m {ix h.Mons m mZ with Outs:=ap (ix h.Mons m mZ).Outs [(zcv x.Prog x.Pc).X]}}:=by unfold zgN zpF;rw[a,b,c];rfl
theorem z8g {h:Host}{m:Int}{x:Guest}{w:Int}(a:zlz x.Ctl.Traps w=false):zgN h m x w=h:=z2F (by rw[a];rfl)
theorem zP4 {h:Host}{m:Int}{x:Guest}{w:Int}(a:ieq w 5=false):zgN h m x w=h:=z2F (by rw[a];cases zlz x.Ctl.Traps w<;>rfl)
theorem z6K (a:Int):(cond (ieq a a) true false)=true:=by rw[zes];rfl
theorem znh {h:Host}{m g:Int}(a:zb0 h m g=false):zbF h m g=(h,false):=by unfold zbF;rw[a];rfl
theorem zko {h:Host}{m g:Int}(a:zb0 h m g=true):zbF h m g=zZs h m g (gOf h m g) (zbe (gOf h m g)):=by unfold zbF;rw[a];rfl
theorem znj {a b:Bool}(h:(cond a b false)=true):a=true/\b=true:=by cases a;{cases h};{exact⟨rfl,h⟩}
theorem zjc {a b:Bool}(c:a=true)(d:b=true):(cond a b false)=true:=by rw[c];exact d
theorem z2I {h:Host}{m:Int}{x:Guest}{w:Int}(b:ine w 6=true)(a:ieq (zCf (ix h.Mons m mZ).Traps x.Ctl.Traps (zBc w)) 2=true)(c:ilt (ix h.Mons m mZ).Own 1000000000=true):zgO h m x w={h with Mons:=up h.Mons m {ix h.Mons m mZ with Own:=zM .i64 (ix h.Mons m mZ).Own 1}}:=by unfold zgO owned;rw[b,a,c];rfl
theorem z2G {h:Host}{m:Int}{x:Guest}{w:Int}(a:ieq (zCf (ix h.Mons m mZ).Traps x.Ctl.Traps (zBc w)) 2=false):zgO h m x w=h:=by unfold zgO;rw[a];cases ine w 6<;>rfl
theorem z2H {h:Host}{m:Int}{x:Guest}{w:Int}(a:ilt (ix h.Mons m mZ).Own 1000000000=false):zgO h m x w=h:=by unfold zgO owned;rw[a];cases (cond (ine w 6) (ieq (zCf (ix h.Mons m mZ).Traps x.Ctl.Traps (zBc w)) 2) false)<;>rfl
theorem zbdP {h:Host}{m:Int}{x:Guest}:zgO h m x 6=h:=rfl
theorem zoX {h a:Host}{m g:Int}{x:Guest}{w:Int}(e:zgO h m x w=a):zyF h m g x w=zl6 (zgN a m x w) m g (zkq x x.Ctl.Traps w):=by unfold zyF;rw[e]
theorem zbau (x:Guest):ieq (zbe x) 0=true\/ieq (zbe x) 1=true\/ieq (zbe x) 2=true\/ieq (zbe x) 3=true\/ieq (zbe x) 4=true\/ieq (zbe x) 5=true\/ieq (zbe x) 6=true\/ieq (zbe x) 7=true:=by cases a:ieq (zbe x) 0;{cases b:ieq (zbe x) 1;{cases c:ieq (zbe x) 2;{cases d:ieq (zbe x) 3;{cases e:ieq (zbe x) 4;{cases f:ieq (zbe x) 5;{cases g:ieq (zbe x) 6;{exact .inr (.inr (.inr (.inr (.inr (.inr (.inr (zbfj x a b c d e f g)))))))};{exact .inr (.inr (.inr (.inr (.inr (.inr (.inl rfl))))))}};{exact .inr (.inr (.inr (.inr (.inr (.inl rfl)))))}};{exact .inr (.inr (.inr (.inr (.inl rfl))))}};{exact .inr (.inr (.inr (.inl rfl)))}};{exact .inr (.inr (.inl rfl))}};{exact .inr (.inl rfl)}};{exact .inl rfl}
abbrev zDX (x:Guest):Bool:=bif zeL x then ieq (zbe x) 0 else false
def zpR:List AV->Option (Bool×List AV)
 |[.agg [.s .ins c,.i .i64 d,.i .i64 e,.s .slot f,.s .slot g,.i .i64 h,.i .i64 j,.b k,.i .i64 l,.i .i64 m,.i .i64 n,.b o,.i .i64 p,.b q,.s .int r]]=>some ((zDX (⟨c,d,e,f,g,⟨h,j,k⟩,l,⟨m,n,o,p⟩,q,r⟩:Guest)),[.one (.i .i64 0)])
 |_=>none
theorem zIc:vM 340 zpR:=by refine⟨zcl.1,fun w b g j a h=>?_⟩;unfold zpR at h;split at h;{obtain⟨f,rfl⟩:=zea h;obtain⟨d,e⟩:=znj f;exact zcl.2 w _ g _ a (congr (congrArg (fun c v=>some (c,[AV.one (CV.i .i64 v)])) d) (qE e))};{cases h}
def zbcG:zW:=[(340,zpR)]++zn3
theorem z3k:zL zbcG:=zh zIc ziQ
@[simp] abbrev zx9 (h:Host)(m g:Int):Bool:=bif zeD h m g then ieq (zbe (gOf h m g)) 0 else false
@[simp] abbrev zx7 (h:Host)(m g:Int):Host:=(zbF h m g).1
@[simp] abbrev zx8 (h:Host)(m g:Int):Bool:=(zbF h m g).2
def zIC:Run:=rF3 dH dI dI fun b c d=>(zx9 b c d,[aH (zx7 b c d),aB (zx8 b c d)])
def zwQ (N:Nat)(d:Host)(b c:Int):OA:=
 let a:=(zu d);let e:=(ix a.Mons b zi).Guests; (oN (zbV d) (oN (zhi a b c) (cond (nB (zjE a b c)) (some [(aH a),(aB false)]) (oN (inb b (ln a.Mons)) (oN (inb c (ln e)) (oN (zDX (ix e c zD)) (some [(aH a),(aB false)])))))))
abbrev zDY (x:Guest):Bool:=bif zeL x then ieq (zbe x) 1 else false
def zpS:List AV->Option (Bool×List AV)
 |[.agg [.s .ins c,.i .i64 d,.i .i64 e,.s .slot f,.s .slot g,.i .i64 h,.i .i64 j,.b k,.i .i64 l,.i .i64 m,.i .i64 n,.b o,.i .i64 p,.b q,.s .int r]]=>some ((zDY (⟨c,d,e,f,g,⟨h,j,k⟩,l,⟨m,n,o,p⟩,q,r⟩:Guest)),[.one (.i .i64 1)])
 |_=>none
theorem zId:vM 340 zpS:=by refine⟨zcl.1,fun w b g j a h=>?_⟩;unfold zpS at h;split at h;{obtain⟨f,rfl⟩:=zea h;obtain⟨d,e⟩:=znj f;exact zcl.2 w _ g _ a (congr (congrArg (fun c v=>some (c,[AV.one (CV.i .i64 v)])) d) (qE e))};{cases h}
def zbcH:zW:=[(340,zpS)]++zn3
theorem z3l:zL zbcH:=zh zId ziQ
@[simp] abbrev zyc (h:Host)(m g:Int):Bool:=bif zeD h m g then ieq (zbe (gOf h m g)) 1 else false
@[simp] abbrev zya (h:Host)(m g:Int):Host:=(zbF h m g).1
@[simp] abbrev zyb (h:Host)(m g:Int):Bool:=(zbF h m g).2
def zID:Run:=rF3 dH dI dI fun b c d=>(zyc b c d,[aH (zya b c d),aB (zyb b c d)])
def zwR (N:Nat)(f:Host)(b c:Int):OA:=
 let a:=(zu f);let d:=(ix a.Mons b zi);let e:=(ix d.Guests c zD); (oN (zbV f) (oN (zhi a b c) (cond (nB (zjE a b c)) (some [(aH a),(aB false)]) (oN (inb b (ln a.Mons)) (oN (inb c (ln d.Guests)) (oN (zDY e) (oN (inb b (ln a.Mons)) (oN (zqc e) (oN (inb c (ln d.Guests)) (share (up a.Mons b ({d with Guests:=(up d.Guests c (zkz e))}:Mon)) (fun g=>(some [(aH ({a with Mons:=g}:Host)),(aB true)]))))))))))))
abbrev zDZ (x:Guest):Bool:=bif zeL x then ieq (zbe x) 2 else false
def zpT:List AV->Option (Bool×List AV)
 |[.agg [.s .ins c,.i .i64 d,.i .i64 e,.s .slot f,.s .slot g,.i .i64 h,.i .i64 j,.b k,.i .i64 l,.i .i64 m,.i .i64 n,.b o,.i .i64 p,.b q,.s .int r]]=>some ((zDZ (⟨c,d,e,f,g,⟨h,j,k⟩,l,⟨m,n,o,p⟩,q,r⟩:Guest)),[.one (.i .i64 2)])
 |_=>none
theorem zIe:vM 340 zpT:=by refine⟨zcl.1,fun w b g j a h=>?_⟩;unfold zpT at h;split at h;{obtain⟨f,rfl⟩:=zea h;obtain⟨d,e⟩:=znj f;exact zcl.2 w _ g _ a (congr (congrArg (fun c v=>some (c,[AV.one (CV.i .i64 v)])) d) (qE e))};{cases h}
def zbcI:zW:=[(340,zpT)]++zn3
theorem z3m:zL zbcI:=zh zIe ziQ
@[simp] abbrev zyf (h:Host)(m g:Int):Bool:=bif zeD h m g then ieq (zbe (gOf h m g)) 2 else false
@[simp] abbrev zyd (h:Host)(m g:Int):Host:=(zbF h m g).1
@[simp] abbrev zye (h:Host)(m g:Int):Bool:=(zbF h m g).2
def zIE:Run:=rF3 dH dI dI fun b c d=>(zyf b c d,[aH (zyd b c d),aB (zye b c d)])
def zwS (N:Nat)(f:Host)(b c:Int):OA:=
 let a:=(zu f);let d:=(ix a.Mons b zi);let e:=(ix d.Guests c zD); (oN (zbV f) (oN (zhi a b c) (cond (nB (zjE a b c)) (some [(aH a),(aB false)]) (oN (inb b (ln a.Mons)) (oN (inb c (ln d.Guests)) (oN (zDZ e) (oN (inb b (ln a.Mons)) (oN (zzl e) (oN (inb c (ln d.Guests)) (share (up a.Mons b ({d with Guests:=(up d.Guests c (ztB e))}:Mon)) (fun g=>(some [(aH ({a with Mons:=g}:Host)),(aB true)]))))))))))))
abbrev zD0 (x:Guest):Bool:=bif zeL x then ieq (zbe x) 3 else false
def zpU:List AV->Option (Bool×List AV)
 |[.agg [.s .ins c,.i .i64 d,.i .i64 e,.s .slot f,.s .slot g,.i .i64 h,.i .i64 j,.b k,.i .i64 l,.i .i64 m,.i .i64 n,.b o,.i .i64 p,.b q,.s .int r]]=>some ((zD0 (⟨c,d,e,f,g,⟨h,j,k⟩,l,⟨m,n,o,p⟩,q,r⟩:Guest)),[.one (.i .i64 3)])
 |_=>none
theorem zIf:vM 340 zpU:=by refine⟨zcl.1,fun w b g j a h=>?_⟩;unfold zpU at h;split at h;{obtain⟨f,rfl⟩:=zea h;obtain⟨d,e⟩:=znj f;exact zcl.2 w _ g _ a (congr (congrArg (fun c v=>some (c,[AV.one (CV.i .i64 v)])) d) (qE e))};{cases h}
def zbcJ:zW:=[(340,zpU)]++zn3
theorem z3n:zL zbcJ:=zh zIf ziQ
@[simp] abbrev zyi (h:Host)(m g:Int):Bool:=bif zeD h m g then ieq (zbe (gOf h m g)) 3 else false
@[simp] abbrev zyg (h:Host)(m g:Int):Host:=(zbF h m g).1
@[simp] abbrev zyh (h:Host)(m g:Int):Bool:=(zbF h m g).2
def zIF:Run:=rF3 dH dI dI fun b c d=>(zyi b c d,[aH (zyg b c d),aB (zyh b c d)])
def zwT (N:Nat)(m:Host)(a b:Int):OA:=
 let c:=(zu m);let n:=(ix c.Mons a zi).Guests;let h:=(ix n b zD);let f:=(zjJ h);let g:=(zcQ f);let l:=(zk6 c c.Buffer a b g (zfE false) false);let d:=(zfn c c.Buffer a b g (zfE false) false);let e:=(ix d.Mons a zi);let j:=(ix e.Guests b zD);let i:=({h with Prog:=j.Prog,Written:=j.Written,Live:=j.Live,Seen:=j.Seen}:Guest); (oN (zbV m) (oN (zhi c a b) (cond (nB (zjE c a b)) (some [(aH c),(aB false)]) (oN (inb a (ln c.Mons)) (oN (inb b (ln n)) (oN (zD0 h) (oN (zr9 h) (oN (zgx f) (oN (zuY false) (oN (zk7 c c.Buffer a b g (zfE false) false) (cond (nB (zhh c c.Buffer a b g (zfE false) false)) (oN (inb a (ln d.Mons)) (oN (zgx f) (oN (zkx g false) (oN (zed i (zfj g false)) (oN (inb b (ln e.Guests)) (share (up d.Mons a ({e with Guests:=(up e.Guests b (zdJ i (zfj g false)))}:Mon)) (fun k=>(some [(aH ({d with Mons:=k}:Host)),(aB true)])))))))) (oN (inb a (ln d.Mons)) (oN (zjq f) (oN (zuW d.Memory l (zen f)) (oN (zCo i (zoL d.Memory l (zen f))) (oN (inb b (ln e.Guests)) (share (up d.Mons a ({e with Guests:=(up e.Guests b (zww i (zoL d.Memory l (zen f))))}:Mon)) (fun k=>(some [(aH ({d with Mons:=k}:Host)),(aB true)])))))))))))))))))))
abbrev zD1 (x:Guest):Bool:=bif zeL x then ieq (zbe x) 4 else false
def zpV:List AV->Option (Bool×List AV)
 |[.agg [.s .ins c,.i .i64 d,.i .i64 e,.s .slot f,.s .slot g,.i .i64 h,.i .i64 j,.b k,.i .i64 l,.i .i64 m,.i .i64 n,.b o,.i .i64 p,.b q,.s .int r]]=>some ((zD1 (⟨c,d,e,f,g,⟨h,j,k⟩,l,⟨m,n,o,p⟩,q,r⟩:Guest)),[.one (.i .i64 4)])
 |_=>none
theorem zIg:vM 340 zpV:=by refine⟨zcl.1,fun w b g j a h=>?_⟩;unfold zpV at h;split at h;{obtain⟨f,rfl⟩:=zea h;obtain⟨d,e⟩:=znj f;exact zcl.2 w _ g _ a (congr (congrArg (fun c v=>some (c,[AV.one (CV.i .i64 v)])) d) (qE e))};{cases h}
def zbcK:zW:=[(340,zpV)]++zn3
theorem z3o:zL zbcK:=zh zIg ziQ
@[simp] abbrev zyl (h:Host)(m g:Int):Bool:=bif zeD h m g then ieq (zbe (gOf h m g)) 4 else false
@[simp] abbrev zyj (h:Host)(m g:Int):Host:=(zbF h m g).1
@[simp] abbrev zyk (h:Host)(m g:Int):Bool:=(zbF h m g).2
def zIG:Run:=rF3 dH dI dI fun b c d=>(zyl b c d,[aH (zyj b c d),aB (zyk b c d)])
def zwU (N:Nat)(l:Host)(a b:Int):OA:=
 let c:=(zu l);let n:=(ix c.Mons a zi).Guests;let g:=(ix n b zD);let h:=(zjJ g);let f:=(zcQ h);let m:=(zk6 c c.Buffer a b f (zfE true) false);let d:=(zfn c c.Buffer a b f (zfE true) false);let e:=(ix d.Mons a zi);let j:=(ix e.Guests b zD);let i:=({g with Prog:=j.Prog,Written:=j.Written,Live:=j.Live,Seen:=j.Seen}:Guest); (oN (zbV l) (oN (zhi c a b) (cond (nB (zjE c a b)) (some [(aH c),(aB false)]) (oN (inb a (ln c.Mons)) (oN (inb b (ln n)) (oN (zD1 g) (oN (zr9 g) (oN (zgx h) (oN (zuY true) (oN (zk7 c c.Buffer a b f (zfE true) false) (cond (nB (zhh c c.Buffer a b f (zfE true) false)) (oN (inb a (ln d.Mons)) (oN (zgx h) (oN (zkx f true) (oN (zed i (zfj f true)) (oN (inb b (ln e.Guests)) (share (up d.Mons a ({e with Guests:=(up e.Guests b (zdJ i (zfj f true)))}:Mon)) (fun k=>(some [(aH ({d with Mons:=k}:Host)),(aB true)])))))))) (oN (zjq h) (oN (zjy d.Memory m (zen h) g.A) (oN (inb a (ln d.Mons)) (oN (zCv i) (oN (inb b (ln e.Guests)) (share (up d.Mons a ({e with Guests:=(up e.Guests b (zwA i))}:Mon)) (fun k=>(some [(aH ({d with Memory:=(zkc d.Memory m (zen h) g.A),Mons:=k}:Host)),(aB true)])))))))))))))))))))
abbrev zD2 (x:Guest):Bool:=bif zeL x then ieq (zbe x) 5 else false
def zpW:List AV->Option (Bool×List AV)
 |[.agg [.s .ins c,.i .i64 d,.i .i64 e,.s .slot f,.s .slot g,.i .i64 h,.i .i64 j,.b k,.i .i64 l,.i .i64 m,.i .i64 n,.b o,.i .i64 p,.b q,.s .int r]]=>some ((zD2 (⟨c,d,e,f,g,⟨h,j,k⟩,l,⟨m,n,o,p⟩,q,r⟩:Guest)),[.one (.i .i64 5)])
 |_=>none
theorem zIh:vM 340 zpW:=by refine⟨zcl.1,fun w b g j a h=>?_⟩;unfold zpW at h;split at h;{obtain⟨f,rfl⟩:=zea h;obtain⟨d,e⟩:=znj f;exact zcl.2 w _ g _ a (congr (congrArg (fun c v=>some (c,[AV.one (CV.i .i64 v)])) d) (qE e))};{cases h}
def zbcL:zW:=[(340,zpW)]++zn3
theorem z3p:zL zbcL:=zh zIh ziQ
@[simp] abbrev zyo (h:Host)(m g:Int):Bool:=bif zeD h m g then ieq (zbe (gOf h m g)) 5 else false
@[simp] abbrev zym (h:Host)(m g:Int):Host:=(zbF h m g).1
@[simp] abbrev zyn (h:Host)(m g:Int):Bool:=(zbF h m g).2
def zIH:Run:=rF3 dH dI dI fun b c d=>(zyo b c d,[aH (zym b c d),aB (zyn b c d)])
def zwV (N:Nat)(x:Host)(a e:Int):OA:=
 let d:=(zu x);let f:=(inb a (ln d.Mons));let g:=(ix d.Mons a zi);let j:=(inb e (ln g.Guests));let c:=(ix g.Guests e zD);let w:=(ap g.Outs [(zga c.Prog c.Pc).X]);let s:=(up d.Mons a ({g with Outs:=w}:Mon));let h:=c.Ctl.Traps;let v:=(up d.Mons a ({g with Guests:=(up g.Guests e (zck c h 5))}:Mon)); (oN (zbV x) (oN (zhi d a e) (cond (nB (zjE d a e)) (some [(aH d),(aB false)]) (oN f (oN j (oN (zD2 c) (oN f (oN (zsq g.Traps h 1) (cond (ieq (zo7 g.Traps h 1) 2) (oN f (cond (ilt g.Own 1000000000) (oN f (oN f (share (up d.Mons a ({g with Own:=(zM .i64 g.Own 1)}:Mon)) (fun b=>let k:=(inb a (ln b));let l:=(ix b a zi);let q:=(ix l.Guests e zD);let t:=(ap l.Outs [(zga q.Prog c.Pc).X]);let u:=({c with Prog:=q.Prog,Written:=q.Written,Live:=q.Live,Seen:=q.Seen}:Guest);let r:=(up b a ({l with Guests:=(up l.Guests e (zck u h 5))}:Mon)); (oN (zdX u h 5) (cond (zdm u h 5) (oN k (cond (ilt (ln l.Outs) 40) (oN k (oN (zfV q.Prog c.Pc) (oN (few (ln t)) (oN k (oN (cond (ieq a a) true false) (share (up b a ({l with Outs:=t}:Mon)) (fun i=>let m:=(ix i a zi); (oN (inb a (ln i)) (oN (inb e (ln m.Guests)) (share (up i a ({m with Guests:=(up m.Guests e (zck u h 5))}:Mon)) (fun y=>(some [(aH ({d with Mons:=y}:Host)),(aB true)])))))))))))) (oN k (oN (inb e (ln l.Guests)) (share r (fun i=>(some [(aH ({d with Mons:=i}:Host)),(aB true)]))))))) (oN k (oN (inb e (ln l.Guests)) (share r (fun i=>(some [(aH ({d with Mons:=i}:Host)),(aB true)]))))))))))) (oN (zdX c h 5) (cond (zdm c h 5) (oN f (cond (ilt (ln g.Outs) 40) (oN f (oN (zfV c.Prog c.Pc) (oN (few (ln w)) (oN f (oN (cond (ieq a a) true false) (share s (fun b=>let n:=(ix b a zi); (oN (inb a (ln b)) (oN (inb e (ln n.Guests)) (share (up b a ({n with Guests:=(up n.Guests e (zck c h 5))}:Mon)) (fun i=>(some [(aH ({d with Mons:=i}:Host)),(aB true)])))))))))))) (oN f (oN j (share v (fun b=>(some [(aH ({d with Mons:=b}:Host)),(aB true)]))))))) (oN f (oN j (share v (fun b=>(some [(aH ({d with Mons:=b}:Host)),(aB true)]))))))))) (oN (zdX c h 5) (cond (zdm c h 5) (oN f (cond (ilt (ln g.Outs) 40) (oN f (oN (zfV c.Prog c.Pc) (oN (few (ln w)) (oN f (oN (cond (ieq a a) true false) (share s (fun b=>let p:=(ix b a zi); (oN (inb a (ln b)) (oN (inb e (ln p.Guests)) (share (up b a ({p with Guests:=(up p.Guests e (zck c h 5))}:Mon)) (fun i=>(some [(aH ({d with Mons:=i}:Host)),(aB true)])))))))))))) (oN f (oN j (share v (fun b=>(some [(aH ({d with Mons:=b}:Host)),(aB true)]))))))) (oN f (oN j (share v (fun b=>(some [(aH ({d with Mons:=b}:Host)),(aB true)]))))))))))))))))
abbrev zD3 (x:Guest):Bool:=bif zeL x then ieq (zbe x) 6 else false
def zpX:List AV->Option (Bool×List AV)
 |[.agg [.s .ins c,.i .i64 d,.i .i64 e,.s .slot f,.s .slot g,.i .i64 h,.i .i64 j,.b k,.i .i64 l,.i .i64 m,.i .i64 n,.b o,.i .i64 p,.b q,.s .int r]]=>some ((zD3 (⟨c,d,e,f,g,⟨h,j,k⟩,l,⟨m,n,o,p⟩,q,r⟩:Guest)),[.one (.i .i64 6)])
 |_=>none
theorem zIi:vM 340 zpX:=by refine⟨zcl.1,fun w b g j a h=>?_⟩;unfold zpX at h;split at h;{obtain⟨f,rfl⟩:=zea h;obtain⟨d,e⟩:=znj f;exact zcl.2 w _ g _ a (congr (congrArg (fun c v=>some (c,[AV.one (CV.i .i64 v)])) d) (qE e))};{cases h}
def zbcM:zW:=[(340,zpX)]++zn3
theorem z3q:zL zbcM:=zh zIi ziQ
@[simp] abbrev zyr (h:Host)(m g:Int):Bool:=bif zeD h m g then ieq (zbe (gOf h m g)) 6 else false
@[simp] abbrev zyp (h:Host)(m g:Int):Host:=(zbF h m g).1
@[simp] abbrev zyq (h:Host)(m g:Int):Bool:=(zbF h m g).2
def zII:Run:=rF3 dH dI dI fun b c d=>(zyr b c d,[aH (zyp b c d),aB (zyq b c d)])
def zwW (N:Nat)(i:Host)(c d:Int):OA:=
 let a:=(zu i);let g:=(inb c (ln a.Mons));let e:=(ix a.Mons c zi);let h:=(inb d (ln e.Guests));let b:=(ix e.Guests d zD);let j:=(up a.Mons c ({e with Guests:=(up e.Guests d (zck b b.Ctl.Traps 6))}:Mon)); (oN (zbV i) (oN (zhi a c d) (cond (nB (zjE a c d)) (some [(aH a),(aB false)]) (oN g (oN h (oN (zD3 b) (oN (zdX b b.Ctl.Traps 6) (cond (zdm b b.Ctl.Traps 6) (oN g (oN h (share j (fun f=>(some [(aH ({a with Mons:=f}:Host)),(aB true)]))))) (oN g (oN h (share j (fun f=>(some [(aH ({a with Mons:=f}:Host)),(aB true)])))))))))))))
abbrev zD4 (x:Guest):Bool:=bif zeL x then ieq (zbe x) 7 else false
def zpY:List AV->Option (Bool×List AV)
 |[.agg [.s .ins c,.i .i64 d,.i .i64 e,.s .slot f,.s .slot g,.i .i64 h,.i .i64 j,.b k,.i .i64 l,.i .i64 m,.i .i64 n,.b o,.i .i64 p,.b q,.s .int r]]=>some ((zD4 (⟨c,d,e,f,g,⟨h,j,k⟩,l,⟨m,n,o,p⟩,q,r⟩:Guest)),[.one (.i .i64 7)])
 |_=>none
theorem zIj:vM 340 zpY:=by refine⟨zcl.1,fun w b g j a h=>?_⟩;unfold zpY at h;split at h;{obtain⟨f,rfl⟩:=zea h;obtain⟨d,e⟩:=znj f;exact zcl.2 w _ g _ a (congr (congrArg (fun c v=>some (c,[AV.one (CV.i .i64 v)])) d) (qE e))};{cases h}
def zbcN:zW:=[(340,zpY)]++zn3
theorem z3r:zL zbcN:=zh zIj ziQ
@[simp] abbrev zyu (h:Host)(m g:Int):Bool:=bif zeD h m g then ieq (zbe (gOf h m g)) 7 else false
@[simp] abbrev zys (h:Host)(m g:Int):Host:=(zbF h m g).1
@[simp] abbrev zyt (h:Host)(m g:Int):Bool:=(zbF h m g).2
def zIJ:Run:=rF3 dH dI dI fun b c d=>(zyu b c d,[aH (zys b c d),aB (zyt b c d)])
def zwX (N:Nat)(q:Host)(c e:Int):OA:=
 let a:=(zu q);let g:=(inb c (ln a.Mons));let f:=(ix a.Mons c zi);let k:=(inb e (ln f.Guests));let h:=(ix f.Guests e zD);let d:=h.Ctl.Traps;let l:=(up a.Mons c ({f with Guests:=(up f.Guests e (zck h d 7))}:Mon)); (oN (zbV q) (oN (zhi a c e) (cond (nB (zjE a c e)) (some [(aH a),(aB false)]) (oN g (oN k (oN (zD4 h) (oN g (oN (zsq f.Traps d 2) (cond (ieq (zo7 f.Traps d 2) 2) (oN g (cond (ilt f.Own 1000000000) (oN g (oN g (share (up a.Mons c ({f with Own:=(zM .i64 f.Own 1)}:Mon)) (fun b=>let j:=(ix b c zi);let m:=(ix j.Guests e zD);let p:=({h with Prog:=m.Prog,Written:=m.Written,Live:=m.Live,Seen:=m.Seen}:Guest);let i:=(up b c ({j with Guests:=(up j.Guests e (zck p d 7))}:Mon)); (oN (zdX p d 7) (cond (zdm p d 7) (oN (inb c (ln b)) (oN (inb e (ln j.Guests)) (share i (fun n=>(some [(aH ({a with Mons:=n}:Host)),(aB true)]))))) (oN (inb c (ln b)) (oN (inb e (ln j.Guests)) (share i (fun n=>(some [(aH ({a with Mons:=n}:Host)),(aB true)]))))))))))) (oN (zdX h d 7) (cond (zdm h d 7) (oN g (oN k (share l (fun b=>(some [(aH ({a with Mons:=b}:Host)),(aB true)]))))) (oN g (oN k (share l (fun b=>(some [(aH ({a with Mons:=b}:Host)),(aB true)]))))))))) (oN (zdX h d 7) (cond (zdm h d 7) (oN g (oN k (share l (fun b=>(some [(aH ({a with Mons:=b}:Host)),(aB true)]))))) (oN g (oN k (share l (fun b=>(some [(aH ({a with Mons:=b}:Host)),(aB true)]))))))))))))))))
theorem zIs (a:Host)(b c:Int)(e:zx9 a b c=true):∃N,zwQ N a b c=some [aH (zx7 a b c),aB (zx8 a b c)]:=by
 obtain⟨e,i⟩:=znj e;have f:=(zT a).1 (zK.1 e);refine⟨0,?_⟩;show _=some (zf6 (zbF a b c));unfold zwQ oN nB;conv=>zeta
 refine must (zbJ ((zT _).2 f)) (must (zbJ ((zT _).2 f)) (brN (fun d=>?_) (fun d=>?_)));{rw [znh d];rfl};obtain⟨k,g,h⟩:=zdx d;have l:=zqK f g h;have j:zbe (gOf a b c)=0:=qE i;rw[zko d,j];refine must (zI g) (must (zI h) (must (zjc rfl i) ?_));rfl
theorem zqN:vM 326 zIC:=kF3 z3k zx zb2 zjH (zq []) zIs
theorem zIt (a:Host)(b c:Int)(g:zyc a b c=true):∃N,zwR N a b c=some [aH (zya a b c),aB (zyb a b c)]:=by
 obtain⟨g,i⟩:=znj g;have h:=(zT a).1 (zK.1 g);refine⟨0,?_⟩;show _=some (zf6 (zbF a b c));unfold zwR oN nB;conv=>zeta
 refine must (zbJ ((zT _).2 h)) (must (zbJ ((zT _).2 h)) (brN (fun d=>?_) (fun d=>?_)));{rw [znh d];rfl};obtain⟨l,e,f⟩:=zdx d;have k:=zqK h e f;have j:zbe (gOf a b c)=1:=qE i;rw[zko d,j];refine must (zI e) (must (zI f) (must (zjc rfl i) ?_));show _=some (zf6 (zl6 a b c (interrupted (gOf a b c)),true));exact must (zI e) (must (zbJ k) (must (zI f) rfl))
theorem zEd:vM 326 zID:=kF3 z3l zx zb2 zjH (zq []) zIt
theorem zIu (a:Host)(b c:Int)(g:zyf a b c=true):∃N,zwS N a b c=some [aH (zyd a b c),aB (zye a b c)]:=by
 obtain⟨g,i⟩:=znj g;have h:=(zT a).1 (zK.1 g);refine⟨0,?_⟩;show _=some (zf6 (zbF a b c));unfold zwS oN nB;conv=>zeta
 refine must (zbJ ((zT _).2 h)) (must (zbJ ((zT _).2 h)) (brN (fun d=>?_) (fun d=>?_)));{rw [znh d];rfl};obtain⟨l,e,f⟩:=zdx d;have k:=zqK h e f;have j:zbe (gOf a b c)=2:=qE i;rw[zko d,j];refine must (zI e) (must (zI f) (must (zjc rfl i) ?_));show _=some (zf6 (zl6 a b c (plainly (gOf a b c)),true));exact must (zI e) (must (zbJ k) (must (zI f) rfl))
theorem zEe:vM 326 zIE:=kF3 z3m zx zb2 zjH (zq []) zIu
theorem zIv (a:Host)(c d:Int)(j:zyi a c d=true):∃N,zwT N a c d=some [aH (zyg a c d),aB (zyh a c d)]:=by
 obtain⟨j,m⟩:=znj j;have f:=(zT a).1 (zK.1 j);refine⟨0,?_⟩;show _=some (zf6 (zbF a c d));unfold zwT oN nB;conv=>zeta
 refine must (zbJ ((zT _).2 f)) (must (zbJ ((zT _).2 f)) (brN (fun e=>?_) (fun e=>?_)));{rw [znh e];rfl};obtain⟨r,g,i⟩:=zdx e;have n:=zqK f g i;have q:zbe (gOf a c d)=3:=qE m;rw[zko e,q];refine must (zI g) (must (zI i) (must (zjc rfl m) ?_));show _=some (zf6 (zkp (zn7 a c d (gOf a c d) false) c d (gOf a c d) false,true));have k:=zAa (b:=a.Buffer) (page:=zbk (address (gOf a c d))) (need:=zcf false) (io:=false) f e;have F:=zHB k g i;have p:(ix (ix (zfn (zu a) (zu a).Buffer c d (zcQ (zjJ (ix (ix (zu a).Mons c zi).Guests d zD))) (zfE false) false).Mons c zi).Guests d zD)=(ix (ix (zu a).Mons c zi).Guests d zD):=congrArg (fun l=>ix l d gZ) (zNY k.gs c);rw[p];unfold zkp;refine must rfl (must rfl (must rfl (must (zbJ ((zT _).2 f)) (brN (fun h=>?_) (fun h=>?_)))));{rw [show (zn7 a c d (gOf a c d) false).2.2=false from h];exact must (zI F.hm) (must rfl (must rfl (must (zbJ n) (must (zI F.hg) rfl))))};{rw [show (zn7 a c d (gOf a c d) false).2.2=true from h];exact must (zI F.hm) (must rfl (must rfl (must (zbJ n) (must (zI F.hg) rfl))))}
theorem zEf:vM 326 zIF:=kF3 z3n zx zb2 zjH (zq []) zIv
theorem zIw (a:Host)(c d:Int)(j:zyl a c d=true):∃N,zwU N a c d=some [aH (zyj a c d),aB (zyk a c d)]:=by
 obtain⟨j,m⟩:=znj j;have f:=(zT a).1 (zK.1 j);refine⟨0,?_⟩;show _=some (zf6 (zbF a c d));unfold zwU oN nB;conv=>zeta
 refine must (zbJ ((zT _).2 f)) (must (zbJ ((zT _).2 f)) (brN (fun e=>?_) (fun e=>?_)));{rw [znh e];rfl};obtain⟨r,g,i⟩:=zdx e;have n:=zqK f g i;have q:zbe (gOf a c d)=4:=qE m;rw[zko e,q];refine must (zI g) (must (zI i) (must (zjc rfl m) ?_));show _=some (zf6 (zkp (zn7 a c d (gOf a c d) true) c d (gOf a c d) true,true));have k:=zAa (b:=a.Buffer) (page:=zbk (address (gOf a c d))) (need:=zcf true) (io:=false) f e;have F:=zHB k g i;have p:(ix (ix (zfn (zu a) (zu a).Buffer c d (zcQ (zjJ (ix (ix (zu a).Mons c zi).Guests d zD))) (zfE true) false).Mons c zi).Guests d zD)=(ix (ix (zu a).Mons c zi).Guests d zD):=congrArg (fun l=>ix l d gZ) (zNY k.gs c);rw[p];unfold zkp;refine must rfl (must rfl (must rfl (must (zbJ ((zT _).2 f)) (brN (fun h=>?_) (fun h=>?_)))));{rw [show (zn7 a c d (gOf a c d) true).2.2=false from h];exact must (zI F.hm) (must rfl (must rfl (must (zbJ n) (must (zI F.hg) rfl))))};{rw [show (zn7 a c d (gOf a c d) true).2.2=true from h];exact must rfl (must (zbJ k.shape.1.1) (must (zI F.hm) (must (zbJ n) (must (zI F.hg) rfl))))}
theorem zEg:vM 326 zIG:=kF3 z3o zx zb2 zjH (zq []) zIw
theorem zbbH {c:Host}{a d:Int}(k:SmG (gOf c a d))(f:hasB a (ln c.Mons)=true)(i:hasB d (ln (ix c.Mons a mZ).Guests)=true) :
 (cond (zdX (ix (ix (zu c).Mons a zi).Guests d zD) (ix (ix (zu c).Mons a zi).Guests d zD).Ctl.Traps 5) (cond (zdm (ix (ix (zu c).Mons a zi).Guests d zD) (ix (ix (zu c).Mons a zi).Guests d zD).Ctl.Traps 5) (cond (inb a (ln (zu c).Mons)) (cond (ilt (ln (ix (zu c).Mons a zi).Outs) 40) (cond (inb a (ln (zu c).Mons)) (cond (zfV (ix (ix (zu c).Mons a zi).Guests d zD).Prog (ix (ix (zu c).Mons a zi).Guests d zD).Pc) (cond (few (ln (ap (ix (zu c).Mons a zi).Outs [(zga (ix (ix (zu c).Mons a zi).Guests d zD).Prog (ix (ix (zu c).Mons a zi).Guests d zD).Pc).X]))) (cond (inb a (ln (zu c).Mons)) (cond (cond (ieq a a) true false) (share (up (zu c).Mons a ({ (ix (zu c).Mons a zi) with Outs:=(ap (ix (zu c).Mons a zi).Outs [(zga (ix (ix (zu c).Mons a zi).Guests d zD).Prog (ix (ix (zu c).Mons a zi).Guests d zD).Pc).X])}:Mon)) (fun e=>(cond (inb a (ln e)) (cond (inb d (ln (ix e a zi).Guests)) (share (up e a ({ (ix e a zi) with Guests:=(up (ix e a zi).Guests d (zck (ix (ix (zu c).Mons a zi).Guests d zD) (ix (ix (zu c).Mons a zi).Guests d zD).Ctl.Traps 5))}:Mon)) (fun l=>(some [(.agg (zbf ({ (zu c) with Mons:=l}:Host))),(.one (.b true))]))) none) none))) none) none) none) none) none) (cond (inb a (ln (zu c).Mons)) (cond (inb d (ln (ix (zu c).Mons a zi).Guests)) (share (up (zu c).Mons a ({ (ix (zu c).Mons a zi) with Guests:=(up (ix (zu c).Mons a zi).Guests d (zck (ix (ix (zu c).Mons a zi).Guests d zD) (ix (ix (zu c).Mons a zi).Guests d zD).Ctl.Traps 5))}:Mon)) (fun e=>(some [(.agg (zbf ({ (zu c) with Mons:=e}:Host))),(.one (.b true))]))) none) none)) none) (cond (inb a (ln (zu c).Mons)) (cond (inb d (ln (ix (zu c).Mons a zi).Guests)) (share (up (zu c).Mons a ({ (ix (zu c).Mons a zi) with Guests:=(up (ix (zu c).Mons a zi).Guests d (zck (ix (ix (zu c).Mons a zi).Guests d zD) (ix (ix (zu c).Mons a zi).Guests d zD).Ctl.Traps 5))}:Mon)) (fun e=>(some [(.agg (zbf ({ (zu c) with Mons:=e}:Host))),(.one (.b true))]))) none) none)) none)=some (zf6 (zl6 (zgN c a (gOf c a d) 5) a d (zkq (gOf c a d) (gOf c a d).Ctl.Traps 5),true)):=by
 refine must (zbJ k) (br (fun j=>must (zI f) (br (fun g=>?_) (fun g=>?_))) (fun j=>?_))
 .rw [zZA (h:=c) (m:=a) (x:=gOf c a d) (w:=5) j rfl g];refine must (zI f) (must rfl (must (zbbG g) (must (zI f) (must (z6K _) (shr (must (zI (zeC f)) (must ?_ rfl)))))));rw[zPd f];exact zI i
 .rw [zUi (h:=c) (m:=a) (x:=gOf c a d) (w:=5) g];exact must (zI f) (must (zI i) rfl)
 .rw [z8g (h:=c) (m:=a) (x:=gOf c a d) (w:=5) j];exact must (zI f) (must (zI i) rfl)
theorem zbeY {f:Host}{d:List Mon}{a c:Int}(n:SmG (gOf f a c))(i:hasB a (ln d)=true)(k:hasB c (ln (ix d a mZ).Guests)=true)(e:(ix (ix d a zi).Guests c zD)=gOf f a c) :
 (cond (zdX ({ (ix (ix (zu f).Mons a zi).Guests c zD) with Prog:=(ix (ix d a zi).Guests c zD).Prog,Written:=(ix (ix d a zi).Guests c zD).Written,Live:=(ix (ix d a zi).Guests c zD).Live,Seen:=(ix (ix d a zi).Guests c zD).Seen}:Guest) (ix (ix (zu f).Mons a zi).Guests c zD).Ctl.Traps 5) (cond (zdm ({ (ix (ix (zu f).Mons a zi).Guests c zD) with Prog:=(ix (ix d a zi).Guests c zD).Prog,Written:=(ix (ix d a zi).Guests c zD).Written,Live:=(ix (ix d a zi).Guests c zD).Live,Seen:=(ix (ix d a zi).Guests c zD).Seen}:Guest) (ix (ix (zu f).Mons a zi).Guests c zD).Ctl.Traps 5) (cond (inb a (ln d)) (cond (ilt (ln (ix d a zi).Outs) 40) (cond (inb a (ln d)) (cond (zfV (ix (ix d a zi).Guests c zD).Prog (ix (ix (zu f).Mons a zi).Guests c zD).Pc) (cond (few (ln (ap (ix d a zi).Outs [(zga (ix (ix d a zi).Guests c zD).Prog (ix (ix (zu f).Mons a zi).Guests c zD).Pc).X]))) (cond (inb a (ln d)) (cond (cond (ieq a a) true false) (share (up d a ({ (ix d a zi) with Outs:=(ap (ix d a zi).Outs [(zga (ix (ix d a zi).Guests c zD).Prog (ix (ix (zu f).Mons a zi).Guests c zD).Pc).X])}:Mon)) (fun g=>(cond (inb a (ln g)) (cond (inb c (ln (ix g a zi).Guests)) (share (up g a ({ (ix g a zi) with Guests:=(up (ix g a zi).Guests c (zck ({ (ix (ix (zu f).Mons a zi).Guests c zD) with Prog:=(ix (ix d a zi).Guests c zD).Prog,Written:=(ix (ix d a zi).Guests c zD).Written,Live:=(ix (ix d a zi).Guests c zD).Live,Seen:=(ix (ix d a zi).Guests c zD).Seen}:Guest) (ix (ix (zu f).Mons a zi).Guests c zD).Ctl.Traps 5))}:Mon)) (fun p=>(some [(.agg (zbf ({ (zu f) with Mons:=p}:Host))),(.one (.b true))]))) none) none))) none) none) none) none) none) (cond (inb a (ln d)) (cond (inb c (ln (ix d a zi).Guests)) (share (up d a ({ (ix d a zi) with Guests:=(up (ix d a zi).Guests c (zck ({ (ix (ix (zu f).Mons a zi).Guests c zD) with Prog:=(ix (ix d a zi).Guests c zD).Prog,Written:=(ix (ix d a zi).Guests c zD).Written,Live:=(ix (ix d a zi).Guests c zD).Live,Seen:=(ix (ix d a zi).Guests c zD).Seen}:Guest) (ix (ix (zu f).Mons a zi).Guests c zD).Ctl.Traps 5))}:Mon)) (fun g=>(some [(.agg (zbf ({ (zu f) with Mons:=g}:Host))),(.one (.b true))]))) none) none)) none) (cond (inb a (ln d)) (cond (inb c (ln (ix d a zi).Guests)) (share (up d a ({ (ix d a zi) with Guests:=(up (ix d a zi).Guests c (zck ({ (ix (ix (zu f).Mons a zi).Guests c zD) with Prog:=(ix (ix d a zi).Guests c zD).Prog,Written:=(ix (ix d a zi).Guests c zD).Written,Live:=(ix (ix d a zi).Guests c zD).Live,Seen:=(ix (ix d a zi).Guests c zD).Seen}:Guest) (ix (ix (zu f).Mons a zi).Guests c zD).Ctl.Traps 5))}:Mon)) (fun g=>(some [(.agg (zbf ({ (zu f) with Mons:=g}:Host))),(.one (.b true))]))) none) none)) none)=some (zf6 (zl6 (zgN {f with Mons:=d} a (gOf f a c) 5) a c (zkq (gOf f a c) (gOf f a c).Ctl.Traps 5),true)):=by
 rw[e];refine must (zbJ n) (br (fun l=>must (zI i) (br (fun j=>?_) (fun j=>?_))) (fun l=>?_))
 .rw [zZA (h:={f with Mons:=d}) (m:=a) (x:=gOf f a c) (w:=5) l rfl j];refine must (zI i) (must rfl (must (zbbG j) (must (zI i) (must (z6K _) (shr (must (zI (zeC (h:={f with Mons:=d}) i)) (must ?_ rfl)))))));rw[zPd (h:={f with Mons:=d}) i];exact zI k
 .rw [zUi (h:={f with Mons:=d}) (m:=a) (x:=gOf f a c) (w:=5) j];exact must (zI i) (must (zI k) rfl)
 .rw [z8g (h:={f with Mons:=d}) (m:=a) (x:=gOf f a c) (w:=5) l];exact must (zI i) (must (zI k) rfl)
theorem zIx (b:Host)(a c:Int)(j:zyo b a c=true):∃N,zwV N b a c=some [aH (zym b a c),aB (zyn b a c)]:=by
 obtain⟨j,p⟩:=znj j;have k:=(zT b).1 (zK.1 j);refine⟨0,?_⟩;show _=some (zf6 (zbF b a c));unfold zwV oN nB;conv=>zeta
 refine must (zbJ ((zT _).2 k)) (must (zbJ ((zT _).2 k)) (brN (fun f=>?_) (fun f=>?_)));{rw [znh f];rfl};obtain⟨r,d,e⟩:=zdx f;have l:=zqK k d e;have q:zbe (gOf b a c)=5:=qE p;rw[zko f,q];refine must (zI d) (must (zI e) (must (zjc rfl p) ?_));show _=some (zf6 (zyF b a c (gOf b a c) 5,true));refine must (zI d) (must rfl (br (fun g=>must (zI d) (br (fun i=>must (zI d) (must (zI d) (shr ?_))) (fun i=>?_))) (fun g=>?_)));{rw [zoX (z2I (h:=b) (m:=a) (x:=gOf b a c) (w:=5) rfl g i)];have n:=zPd d {ix b.Mons a mZ with Own:=zM .i64 (ix b.Mons a mZ).Own 1};refine zbeY l (zeC d) ?_ ?_;{show hasB c (ln (ix (up b.Mons a _) a mZ).Guests)=true;rw[n];exact e};{show ix (ix (up b.Mons a _) a mZ).Guests c gZ=_;rw[n];rfl}};{rw [zoX (z2H (h:=b) (m:=a) (x:=gOf b a c) (w:=5) i)];exact zbbH l d e};{rw [zoX (z2G (h:=b) (m:=a) (x:=gOf b a c) (w:=5) g)];exact zbbH l d e}
theorem zEh:vM 326 zIH:=kF3 z3p zx zb2 zjH (zq []) zIx
theorem zIy (a:Host)(b c:Int)(g:zyr a b c=true):∃N,zwW N a b c=some [aH (zyp a b c),aB (zyq a b c)]:=by
 obtain⟨g,j⟩:=znj g;have i:=(zT a).1 (zK.1 g);refine⟨0,?_⟩;show _=some (zf6 (zbF a b c));unfold zwW oN nB;conv=>zeta
 refine must (zbJ ((zT _).2 i)) (must (zbJ ((zT _).2 i)) (brN (fun f=>?_) (fun f=>?_)));{rw [znh f];rfl};obtain⟨p,d,e⟩:=zdx f;have n:=zqK i d e;have l:zbe (gOf a b c)=6:=qE j;rw[zko f,l];refine must (zI d) (must (zI e) (must (zjc rfl j) ?_));show _=some (zf6 (zyF a b c (gOf a b c) 6,true));rw[zoX (zbdP (h:=a) (m:=b) (x:=gOf a b c)),zP4 (w:=6) rfl];exact must (zbJ n) (br (fun k=>must (zI d) (must (zI e) rfl)) (fun k=>must (zI d) (must (zI e) rfl)))
theorem zEi:vM 326 zII:=kF3 z3q zx zb2 zjH (zq []) zIy
theorem zbbI {a:Host}{c d:Int}(i:SmG (gOf a c d))(f:hasB c (ln a.Mons)=true)(g:hasB d (ln (ix a.Mons c mZ).Guests)=true) :
 (cond (zdX (ix (ix (zu a).Mons c zi).Guests d zD) (ix (ix (zu a).Mons c zi).Guests d zD).Ctl.Traps 7) (cond (zdm (ix (ix (zu a).Mons c zi).Guests d zD) (ix (ix (zu a).Mons c zi).Guests d zD).Ctl.Traps 7) (cond (inb c (ln (zu a).Mons)) (cond (inb d (ln (ix (zu a).Mons c zi).Guests)) (share (up (zu a).Mons c ({ (ix (zu a).Mons c zi) with Guests:=(up (ix (zu a).Mons c zi).Guests d (zck (ix (ix (zu a).Mons c zi).Guests d zD) (ix (ix (zu a).Mons c zi).Guests d zD).Ctl.Traps 7))}:Mon)) (fun e=>(some [(.agg (zbf ({ (zu a) with Mons:=e}:Host))),(.one (.b true))]))) none) none) (cond (inb c (ln (zu a).Mons)) (cond (inb d (ln (ix (zu a).Mons c zi).Guests)) (share (up (zu a).Mons c ({ (ix (zu a).Mons c zi) with Guests:=(up (ix (zu a).Mons c zi).Guests d (zck (ix (ix (zu a).Mons c zi).Guests d zD) (ix (ix (zu a).Mons c zi).Guests d zD).Ctl.Traps 7))}:Mon)) (fun e=>(some [(.agg (zbf ({ (zu a) with Mons:=e}:Host))),(.one (.b true))]))) none) none)) none)=some (zf6 (zl6 a c d (zkq (gOf a c d) (gOf a c d).Ctl.Traps 7),true)):=
 must (zbJ i) (br (fun h=>must (zI f) (must (zI g) rfl)) (fun h=>must (zI f) (must (zI g) rfl)))
theorem zbeZ {f:Host}{d:List Mon}{a c:Int}(k:SmG (gOf f a c))(h:hasB a (ln d)=true)(i:hasB c (ln (ix d a mZ).Guests)=true)(e:(ix (ix d a zi).Guests c zD)=gOf f a c) :
 (cond (zdX ({ (ix (ix (zu f).Mons a zi).Guests c zD) with Prog:=(ix (ix d a zi).Guests c zD).Prog,Written:=(ix (ix d a zi).Guests c zD).Written,Live:=(ix (ix d a zi).Guests c zD).Live,Seen:=(ix (ix d a zi).Guests c zD).Seen}:Guest) (ix (ix (zu f).Mons a zi).Guests c zD).Ctl.Traps 7) (cond (zdm ({ (ix (ix (zu f).Mons a zi).Guests c zD) with Prog:=(ix (ix d a zi).Guests c zD).Prog,Written:=(ix (ix d a zi).Guests c zD).Written,Live:=(ix (ix d a zi).Guests c zD).Live,Seen:=(ix (ix d a zi).Guests c zD).Seen}:Guest) (ix (ix (zu f).Mons a zi).Guests c zD).Ctl.Traps 7) (cond (inb a (ln d)) (cond (inb c (ln (ix d a zi).Guests)) (share (up d a ({ (ix d a zi) with Guests:=(up (ix d a zi).Guests c (zck ({ (ix (ix (zu f).Mons a zi).Guests c zD) with Prog:=(ix (ix d a zi).Guests c zD).Prog,Written:=(ix (ix d a zi).Guests c zD).Written,Live:=(ix (ix d a zi).Guests c zD).Live,Seen:=(ix (ix d a zi).Guests c zD).Seen}:Guest) (ix (ix (zu f).Mons a zi).Guests c zD).Ctl.Traps 7))}:Mon)) (fun g=>(some [(.agg (zbf ({ (zu f) with Mons:=g}:Host))),(.one (.b true))]))) none) none) (cond (inb a (ln d)) (cond (inb c (ln (ix d a zi).Guests)) (share (up d a ({ (ix d a zi) with Guests:=(up (ix d a zi).Guests c (zck ({ (ix (ix (zu f).Mons a zi).Guests c zD) with Prog:=(ix (ix d a zi).Guests c zD).Prog,Written:=(ix (ix d a zi).Guests c zD).Written,Live:=(ix (ix d a zi).Guests c zD).Live,Seen:=(ix (ix d a zi).Guests c zD).Seen}:Guest) (ix (ix (zu f).Mons a zi).Guests c zD).Ctl.Traps 7))}:Mon)) (fun g=>(some [(.agg (zbf ({ (zu f) with Mons:=g}:Host))),(.one (.b true))]))) none) none)) none)=some (zf6 (zl6 {f with Mons:=d} a c (zkq (gOf f a c) (gOf f a c).Ctl.Traps 7),true)):=by
 rw[e];exact must (zbJ k) (br (fun j=>must (zI h) (must (zI i) rfl)) (fun j=>must (zI h) (must (zI i) rfl)))
theorem zIz (b:Host)(a c:Int)(j:zyu b a c=true):∃N,zwX N b a c=some [aH (zys b a c),aB (zyt b a c)]:=by
 obtain⟨j,p⟩:=znj j;have k:=(zT b).1 (zK.1 j);refine⟨0,?_⟩;show _=some (zf6 (zbF b a c));unfold zwX oN nB;conv=>zeta
 refine must (zbJ ((zT _).2 k)) (must (zbJ ((zT _).2 k)) (brN (fun f=>?_) (fun f=>?_)));{rw [znh f];rfl};obtain⟨r,d,e⟩:=zdx f;have l:=zqK k d e;have q:zbe (gOf b a c)=7:=qE p;rw[zko f,q];refine must (zI d) (must (zI e) (must (zjc rfl p) ?_));show _=some (zf6 (zyF b a c (gOf b a c) 7,true));refine must (zI d) (must rfl (br (fun g=>must (zI d) (br (fun i=>must (zI d) (must (zI d) (shr ?_))) (fun i=>?_))) (fun g=>?_)));{rw [zoX (z2I (h:=b) (m:=a) (x:=gOf b a c) (w:=7) rfl g i),zP4 (w:=7) rfl];have n:=zPd d {ix b.Mons a mZ with Own:=zM .i64 (ix b.Mons a mZ).Own 1};refine zbeZ l (zeC d) ?_ ?_;{show hasB c (ln (ix (up b.Mons a _) a mZ).Guests)=true;rw[n];exact e};{show ix (ix (up b.Mons a _) a mZ).Guests c gZ=_;rw[n];rfl}};{rw [zoX (z2H (h:=b) (m:=a) (x:=gOf b a c) (w:=7) i),zP4 (w:=7) rfl];exact zbbI l d e};{rw [zoX (z2G (h:=b) (m:=a) (x:=gOf b a c) (w:=7) g),zP4 (w:=7) rfl];exact zbbI l d e}
theorem zEj:vM 326 zIJ:=kF3 z3r zx zb2 zjH (zq []) zIz
def zrr:List AV->Option (Bool×List AV)
 |[.agg [.s (.sl .int) b,.s .mon c,.s .entry d,.s .entry e],.one (.i .i64 f),.one (.i .i64 g)]=>some ((zeD (⟨b,c,d,e⟩:Host) f g),[aH (zGO (⟨b,c,d,e⟩:Host) f g),aB (zGP (⟨b,c,d,e⟩:Host) f g)])
 |_=>none
theorem zLq:vM 326 zrr:=by refine⟨zqN.1,fun w m l n g h=>?_⟩;unfold zrr at h;split at h;{rename_i a b d f i j;obtain⟨k,rfl⟩:=zea h;rcases zbau (gOf (⟨a,b,d,f⟩:Host) i j) with e|e|e|e|e|e|e|e;{exact zqN.2 w _ l _ g (congrArg (fun c=>some (c,zf6 (zbF (⟨a,b,d,f⟩:Host) i j))) (zjc k e))};{exact zEd.2 w _ l _ g (congrArg (fun c=>some (c,zf6 (zbF (⟨a,b,d,f⟩:Host) i j))) (zjc k e))};{exact zEe.2 w _ l _ g (congrArg (fun c=>some (c,zf6 (zbF (⟨a,b,d,f⟩:Host) i j))) (zjc k e))};{exact zEf.2 w _ l _ g (congrArg (fun c=>some (c,zf6 (zbF (⟨a,b,d,f⟩:Host) i j))) (zjc k e))};{exact zEg.2 w _ l _ g (congrArg (fun c=>some (c,zf6 (zbF (⟨a,b,d,f⟩:Host) i j))) (zjc k e))};{exact zEh.2 w _ l _ g (congrArg (fun c=>some (c,zf6 (zbF (⟨a,b,d,f⟩:Host) i j))) (zjc k e))};{exact zEi.2 w _ l _ g (congrArg (fun c=>some (c,zf6 (zbF (⟨a,b,d,f⟩:Host) i j))) (zjc k e))};{exact zEj.2 w _ l _ g (congrArg (fun c=>some (c,zf6 (zbF (⟨a,b,d,f⟩:Host) i j))) (zjc k e))}};{cases h}
def zbbs:zW:=[(326,zrr)]++zn3
theorem z9a:zL zbbs:=zh zLq ziQ
def zbbt:zW:=zbbs
theorem z9b:zL zbbt:=z9a
def brought (n a b:Int):Int:=bif ilt n a then a else (cond (ilt b a) a (zRv n b))
@[simp] abbrev zsd (_ _ _:Int):Bool:=true
@[simp] abbrev zts (n a b:Int):Int:=brought n a b
def zt3:Run:=rF3 dI dI dI fun b c d=>(zsd b c d,[aI (zts b c d)])
def zI6 (N:Nat)(b a c:Int):OA:=
 (cond (ilt c a) (some [(aI a)]) (cond (ilt b a) (some [(aI a)]) (cond (igt b c) (some [(aI c)]) (some [(aI b)]))))
theorem zU8 (a b c:Int)(g:zsd a b c=true):∃N,zI6 N a b c=some [aI (zts a b c)]:=by refine⟨0,?_⟩;unfold zI6;unfold zts brought zRv;cases d:ilt c b<;>cases e:ilt a b<;>cases f:igt a c<;>simp [igt] at * <;> omega
theorem zxo:vM 193 zt3:=kF3 zvF zx zy zn (zq []) zU8
structure RI (a:List Bare) (i:Nat) (l:List Bare):Prop where
 len:l.length=a.length
 sm:z2S l
 eq:∀k,i<=k->l[k]?=a[k]?
theorem RI.up {a l:List Bare}{i:Nat}(h:RI a i l)(x:Bare)(b:SmB x):RI a (i+1) (up l (i:Int) x):=
 ⟨by rw[zgX];exact h.len,zbdG h.sm b,fun k c=>by rw[zbeq (by omega)];exact h.eq k (by omega)⟩
structure RJ (l:List Bare) (i:Nat) (l':List Bare):Prop where
 len:l'.length=l.length
 sm:SmB (ix l' (i:Int) zZ5)
 up:∀x,E.up l' (i:Int) x=E.up l (i:Int) x
theorem RJ.next {l a:List Bare}{i:Nat}(h:RJ l i a)(b:i<l.length)(x:Bare)(c:SmB x):RJ l i (E.up a (i:Int) x):=
 ⟨by rw[zgX];exact h.len,by rw[zdR (by rw[h.len];exact b)];exact c,fun y=>by rw[zyG];exact h.up y⟩
def z6i:zW:=zbbt
theorem z6j:zL z6i:=z9b
theorem zfM {h:Host}{m:Int}(g:SmH h)(f:hasB m (ln h.Mons)=true):SmB (zB h m):=by
 have b:=g.2.1.2 _ (zbA f mZ);have e:∀(d:List (List Int)) (q:Int),SmM d->(zct d q).length<=1048576:=fun d q h=>zZn h;have c:∀p:Int,(zcm h m p).length<=1048576:=by intro p;unfold zcm;cases hasB m (ln h.Mons);{exact(by decide:zCR.length<=1048576)};{cases hasB p 8;{exact(by decide:zCR.length<=1048576)};{simp only [cT];cases ine (zbu (ix h.Mons m zi).Outer p).Page (-1);{exact e _ _ b.2.1};{exact e _ _ g.1}}}
 have j:∀(n i:Nat),∀x∈zcw h m n i,x.length<=1048576:=by
  intro n
  induction n with
  |zero=>intro i x a;cases a
  |succ n k=>intro i x a;rcases qG.1 a with rfl|a;{exact c _};{exact k (i+1) x a}
 unfold zB;rw[f];exact⟨⟨by show (zcw h m 8 0).length<=1048576;rw[zCh];decide,j 8 0⟩,b.2.2.2.1,b.2.2.2.2.1⟩
def zbbu:zW:=z6i
theorem z9c:zL zbbu:=z6j
def zbbv:zW:=[(193,zt3)]++zbbu
theorem z9d:zL zbbv:=zh zxo z9c
def cnt (l:List Mon):List Nat:=l.map fun x=>x.Guests.length
theorem zbd3 {l a:List Mon}(h:zd5 a=zd5 l):cnt a=cnt l:=by have e:∀l:List Mon,cnt l=(zd5 l).map List.length:=fun l=>(by simp[cnt,zd5]);rw[e,e,h]
theorem zWH {l:List Mon}{m:Int}{x:Mon}(b:hasB m (ln l)=true)(c:x.Guests.length=(ix l m mZ).Guests.length):cnt (up l m x)=cnt l:=by obtain⟨k,rfl,a⟩:=zdK (n:=l.length) b;unfold cnt up;rw[List.map_set,kH,c,zbp a];have:=@u1 _ (l.map fun x=>x.Guests.length) k (by simpa using a);simpa using this
theorem zbcx {l a:List Mon}(h:cnt a=cnt l):a.length=l.length:=by have:=congrArg List.length h;simpa [cnt] using this
theorem zbd4 {l b:List Mon}(h:cnt b=cnt l)(m:Int):(ix b m mZ).Guests.length=(ix l m mZ).Guests.length:=by have a:(cnt b)[m.toNat]?=(cnt l)[m.toNat]?:=(by rw[h]);unfold cnt at a;rw[qP,qP]at a;unfold ix;simp only[kB];cases c:b[m.toNat]? <;> cases d:l[m.toNat]? <;> rw [c,d]at a<;>simp at a ⊢;exact a
theorem zbdm (h:Host)(m p:Int):(zdn h m p).Memory=h.Memory:=(zgu (zeJ h m p) m p noSlot).2
theorem zbdl (h:Host):(zc7 h).Memory=h.Memory:=by unfold zc7;cases ieq (ln (zch h)) 0;{rfl};{exact zbdm _ _ _}
theorem zbdk (m:List (List Int))(p:Int)(c:List Int):(zhM m p c).length=m.length:=by unfold zhM;cases hasB p (ln m);{rfl};{cases zcn c;{rfl};{simp}}
theorem zbdi (m:List (List Int))(p c v:Int):(zbN m p c v).length=m.length:=by unfold zbN;cases zin m p c;{rfl};{cases win v 0 99;{rfl};{simp}}
theorem z4i (h:Host)(m p:Int):(fetched h m p).Memory.length=h.Memory.length:=by unfold fetched zeS;rw[(zgu _ _ _ _).2];unfold landing;rw[zbdk,zbdl]
theorem zYu (h:Host)(m p n:Int):(zj6 h m p n).Memory=h.Memory:=by unfold zj6;cases ieq (wand .i64 n 2) 0;{unfold opened;cases ieq (wand .i64 (ix (ix (zbK h m p).Mons m mZ).Outer p sZ).Rights 2) 0;{rfl};{exact(zgu _ _ _ _).2}};{rfl}
theorem z7d (h:Host)(m p n:Int):(mended h m p n).Memory.length=h.Memory.length:=by unfold mended;cases ieq (ix (ix h.Mons m mZ).Outer p sZ).Page (-1);{exact congrArg List.length (zYu _ _ _ _)};{exact(congrArg List.length (zYu _ _ _ _)).trans (z4i _ _ _)}
theorem z7e (h:Host)(m g p:Int)(a:Bool):(zxJ h m g p a).Memory=h.Memory:=by cases a<;>rfl
theorem z9N (h:Host)(b:List Entry)(m g c a q:Int)(d:Bool):(zil h b m g c a q d).1.Memory.length=h.Memory.length:=by unfold zil;cases zhW b m g c a;{cases zfb h m g c a;{exact congrArg List.length (z7e _ _ _ _ _)};{exact(congrArg List.length (z7e _ _ _ _ _)).trans (z7d h m q a)}};{rfl}
theorem zbdj (h:Host)(b:List Entry)(m g page need:Int)(io:Bool):(lookOf h b m g page need io).1.Memory.length=h.Memory.length:=by unfold lookOf;cases zcd h m g page need;{rfl};{simp only [cT];rw[z9N];cases ieq need 2<;>rfl}
structure Keep (h r:Host):Prop where
 shape:Shape r
 cnt:cnt r.Mons=cnt h.Mons
 mem:r.Memory.length=h.Memory.length
theorem Keep.has {h r:Host}(k:Keep h r){m:Int}(a:hasB m (ln h.Mons)=true):hasB m (ln r.Mons)=true:=by rw[ln,zbcx k.cnt];exact a
theorem Keep.hg {h r:Host}(k:Keep h r){m g:Int}(hg:hasB g (ln (ix h.Mons m mZ).Guests)=true):hasB g (ln (ix r.Mons m mZ).Guests)=true:=by rw[ln,zbd4 k.cnt];exact hg
theorem Keep.trans {a b c:Host}(h:Keep a b)(k:Keep b c):Keep a c:=⟨k.shape,k.cnt.trans h.cnt,k.mem.trans h.mem⟩
theorem Keep.rfl' {h:Host}(a:Shape h):Keep h h:=⟨a,rfl,rfl⟩
theorem zo3 {h:Host}{m g:Int}{x:Guest}(b:Shape h)(a:hasB m (ln h.Mons)=true)(c:SmG x):Keep h (zl6 h m g x):=⟨z5c b a c,zWH a (by simp),rfl⟩
theorem zFG {h:Host}{b:List Entry}{m g page need:Int}{io:Bool}(c:SmH h)(a:zb0 h m g=true):Keep h (lookOf h b m g page need io).1:=by have k:=zAa (b:=b) (page:=page) (need:=need) (io:=io) c a;exact⟨k.shape,zbd3 k.gs,zbdj _ _ _ _ _ _ _⟩
theorem z6O {h:Host}{p c v:Int}(a:Shape h):Keep h {h with Memory:=zbN h.Memory p c v}:=⟨zUe a (zCK a.1.1),rfl,zbdi _ _ _ _⟩
theorem z3U {h:Host}{m:Int}(a:Shape h)(b:hasB m (ln h.Mons)=true):Keep h (owned h m):=by obtain⟨c,d⟩:=zcC a b;unfold owned;cases ilt (ix h.Mons m mZ).Own 1000000000;{exact Keep.rfl' a};{exact⟨zja a c d,zWH b rfl,rfl⟩}
theorem z3T {h:Host}{m n:Int}(b:Shape h)(c:hasB m (ln h.Mons)=true):Keep h (zpF h m n):=by obtain⟨a,d⟩:=zcC b c;unfold zpF;cases e:ilt (ln (ix h.Mons m mZ).Outs) 40;{exact Keep.rfl' b};{have f:=qE e;simp only[ln]at f;refine⟨zja b ⟨a.1,a.2.1,a.2.2.1,a.2.2.2.1,?_,a.2.2.2.2.2⟩ d,zWH c rfl,rfl⟩;simp[ap];omega}
theorem z6Q {h:Host}{m g:Int}{x:Guest}{w:Int}(d:Shape h)(b:hasB m (ln h.Mons)=true)(e:SmG x):Keep h (zyF h m g x w):=by have a:Keep h (zgO h m x w):=(by unfold zgO;cases (cond (ine w 6) (ieq (zCf (ix h.Mons m mZ).Traps x.Ctl.Traps (zBc w)) 2) false);{exact Keep.rfl' d};{exact z3U d b});have f:Keep (zgO h m x w) (zgN (zgO h m x w) m x w):=(by unfold zgN;cases (cond (zlz x.Ctl.Traps w) (ieq w 5) false);{exact Keep.rfl' a.shape};{exact z3T a.shape (a.has b)});have c:=a.trans f;exact c.trans (zo3 c.shape (c.has b) (zG0 _ _ e))
theorem z6P {h:Host}{m g:Int}(f:SmH h)(e:zb0 h m g=true):Keep h (zbF h m g).1:=by obtain⟨l,a,n⟩:=zdx e;have d:=zqK f a n;have i:=(zft f l).1;rw[zko e];unfold zZs;cases ieq (zbe (gOf h m g)) 0;{cases ieq (zbe (gOf h m g)) 1;{cases ieq (zbe (gOf h m g)) 2;{cases (cond (ieq (zbe (gOf h m g)) 3) true (ieq (zbe (gOf h m g)) 4));{exact z6Q i a d};{have k:=zFG (b:=h.Buffer) (page:=zbk (address (gOf h m g))) (need:=zcf (ieq (zbe (gOf h m g)) 4)) (io:=false) f e;show Keep h (zkp (zn7 h m g (gOf h m g) (ieq (zbe (gOf h m g)) 4)) m g (gOf h m g) (ieq (zbe (gOf h m g)) 4));unfold zkp;cases (zn7 h m g (gOf h m g) (ieq (zbe (gOf h m g)) 4)).2.2;{exact k.trans (zo3 k.shape (k.has a) d)};{cases ieq (zbe (gOf h m g)) 4;{have k:=zFG (b:=h.Buffer) (page:=zbk (address (gOf h m g))) (need:=zcf false) (io:=false) f e;exact k.trans (zo3 k.shape (k.has a) (zPU _ d))};{have k:=zFG (b:=h.Buffer) (page:=zbk (address (gOf h m g))) (need:=zcf true) (io:=false) f e;have q:=z6O (p:=(zn7 h m g (gOf h m g) true).2.1) (c:=zde (address (gOf h m g))) (v:=(gOf h m g).A) k.shape;have j:=k.trans q;exact j.trans (zo3 j.shape (j.has a) (zjN d))}}}};{exact zo3 i a (zKp d)}};{exact zo3 i a (z2z d)}};{exact Keep.rfl' i}
structure Same (h r:Host):Prop where
 sm:SmH r
 cnt:cnt r.Mons=cnt h.Mons
 mem:r.Memory.length=h.Memory.length
 st:r=h\/Shape r
theorem Same.rfl' {h:Host}(a:SmH h):Same h h:=⟨a,rfl,rfl,.inl rfl⟩
theorem Same.trans {a b c:Host}(h:Same a b)(k:Same b c):Same a c:=⟨k.sm,k.cnt.trans h.cnt,k.mem.trans h.mem,by
 rcases k.st with e|e
 .rw [e];exact h.st
 .exact .inr e⟩
theorem z7O {h:Host}(m g:Int)(b:SmH h):Same h (zbF h m g).1:=by cases a:zb0 h m g;{rw [znh a];exact Same.rfl' b};{have k:=z6P b a;exact⟨k.shape.1,k.cnt,k.mem,.inr k.shape⟩}
def zbbx:zW:=[(193,zt3)]++z3j
theorem zlJ:zL zbbx:=zh zxo zvF
theorem zWC {a b:Bool}(h:(a=true)↔(b=true)):a=b:=by cases a<;>cases b<;>simp_all
@[simp] theorem zbeN (x:Int):win x 0 3=hasB x 4:=zWC (by rw[zge];unfold hasB;rw[decide_eq_true_iff];omega)
@[simp] theorem z8n (x:Int):win x 0 7=hasB x 8:=zWC (by rw[zge];unfold hasB;rw[decide_eq_true_iff];omega)
def zdE (t:List Slot)(p:Int)(s:Slot):List Slot:=bif hasB p (ln t) then up t p s else t
@[simp] theorem zbeO (t:List Slot)(p:Int)(s:Slot):(zdE t p s).length=t.length:=by unfold zdE;cases hasB p (ln t)<;>simp
@[simp] abbrev zqh (t:List Slot)(p:Int)(s:Slot):Bool:=pc (t.length<=1048576)
@[simp] abbrev zm7 (t:List Slot)(p:Int)(s:Slot):List Slot:=zdE t p s
def zAW:Run:=rF3 (dS .slot) dI (dT .slot) fun b c d=>(zqh b c d,[aS .slot (zm7 b c d)])
def zES (N:Nat)(a:lS)(b:Int)(c:Slot):OA:=
 (oN (few (ln (ap [] a))) (oN (zN b 0 (wsub .i64 (ln a) 1)) (cond (zQ b 0 (wsub .i64 (ln a) 1)) (oN (inb b (ln (ap [] a))) (share (up (ap [] a) b c) (fun d=>(some [(aS .slot d)])))) (some [(aS .slot (ap [] a))]))))
theorem zR5 (a:List Slot)(b:Int)(c:Slot)(d:zqh a b c=true):∃N,zES N a b c=some [aS .slot (zm7 a b c)]:=by have e:=zK.1 d;refine⟨0,?_⟩;unfold zES oN;refine mu (must rfl (br (fun _=>mu (shr ?_)) (fun _=>?_)));all_goals first|rfl|(simp only [*,zm7,zdE,cT,cF]<;>rfl)|simp_all[Ty.cells,zm7,zdE]
theorem zLx:vM 172 zAW:=kF3 zlJ zx zy zn (zq []) zR5
@[simp] abbrev zvX (t:List Slot)(p:Int)(s:Slot):Bool:=pc (t.length<=1048576)
@[simp] abbrev zpw (t:List Slot)(p:Int)(s:Slot):List Slot:=zdE t p s
def zAy:Run:=rF3 (dS .slot) dI (dT .slot) fun b c d=>(zvX b c d,[aS .slot (zpw b c d)])
def zEq (N:Nat)(a:lS)(b:Int)(c:Slot):OA:=
 (oN (zfT a) (oN (zdB b (ln a)) (cond (zd1 b (ln a)) (oN (inb b (ln (zdW a))) (share (up (zdW a) b c) (fun d=>(some [(aS .slot d)])))) (some [(aS .slot (zdW a))]))))
theorem zRC (a:List Slot)(b:Int)(c:Slot)(d:zvX a b c=true):∃N,zEq N a b c=some [aS .slot (zpw a b c)]:=by have e:=zK.1 d;refine⟨0,?_⟩;unfold zEq oN;refine mu (must rfl (br (fun _=>mu (shr ?_)) (fun _=>?_)));all_goals first|rfl|(simp only [*,zpw,zdE,cT,cF]<;>rfl)|simp_all[Ty.cells,zpw,zdE]
theorem zK8:vM 166 zAy:=kF3 zlJ zx zy zn (zq []) zRC
def zeq (p n:Int):Bool:=bif zc5 p then win n 0 7 else false
def zn8 (p n:Int):Int:=bif zeq p n then wor .i64 p (zoZ .i64 1 n) else p
theorem cv7 {n:Int}(h:hasB n 8=true):wcv .u64 n=n/\ile 0 n=true:=by have:=qE h;exact⟨z2M (by omega) (by omega),qJ (by omega)⟩
@[simp] abbrev zk1 (p n:Int):Bool:=true
@[simp] abbrev zhd (p n:Int):Int:=zn8 p n
@[simp] abbrev znR (p n:Int):Bool:=zeq p n
def zDM:Run:=rF2 dI dI fun b c=>(zk1 b c,[aI (zhd b c),aB (znR b c)])
def zJl (N:Nat)(a b:Int):OA:=
 (oN (zfH a) (cond (nB (zfG a)) (some [(aI a),(aB false)]) (oN (zN b 0 7) (cond (nB (zQ b 0 7)) (some [(aI a),(aB false)]) (oN (ile 0 (wcv .u64 b)) (some [(aI (wor .i64 a (zoZ .i64 1 (wcv .u64 b)))),(aB true)]))))))
theorem zVp (b a:Int)(c:zk1 b a=true):∃N,zJl N b a=some [aI (zhd b a),aB (znR b a)]:=by have d:=@cv7 a;refine⟨0,?_⟩;unfold zJl oN nB;refine must rfl (brN (fun _=>?_) (fun _=>must rfl (brN (fun _=>?_) (fun _=>mu ?_))));all_goals first|rfl|(simp only [*,zhd,znR,zn8,zeq,cT,cF]<;>rfl)|simp_all[Ty.cells,zhd,znR,zn8,zeq]
theorem zOl:vM 188 zDM:=kF2 zlJ zx zy zn (zq []) zVp
@[simp] abbrev zy4 (p n:Int):Bool:=true
@[simp] abbrev znw (p n:Int):Int:=zn8 p n
@[simp] abbrev znx (p n:Int):Bool:=zeq p n
def zDu:Run:=rF2 dI dI fun b c=>(zy4 b c,[aI (znw b c),aB (znx b c)])
def zIU (N:Nat)(a b:Int):OA:=
 (oN (zj1 a) (cond (nB (zj0 a)) (some [(aI a),(aB false)]) (oN (zbY b 0 7) (cond (nB (zcj b 0 7)) (some [(aI a),(aB false)]) (oN (ile 0 b) (some [(aI (wor .i64 a (zoZ .i64 1 b))),(aB true)]))))))
theorem zUW (b a:Int)(c:zy4 b a=true):∃N,zIU N b a=some [aI (znw b a),aB (znx b a)]:=by have d:=@cv7 a;refine⟨0,?_⟩;unfold zIU oN nB;refine must rfl (brN (fun _=>?_) (fun _=>must rfl (brN (fun _=>?_) (fun _=>mu ?_))));all_goals first|rfl|(simp only [*,znw,znx,zn8,zeq,cT,cF]<;>rfl)|simp_all[Ty.cells,znw,znx,zn8,zeq]
theorem zN3:vM 186 zDu:=kF2 zlJ zx zy zn (zq []) zUW
def posts (c:Ctl)(n:Int):Bool:=bif zgE c then (cond (win n 0 7) (ieq (wand .i64 (zHc .i64 c.Post n) 1) 1) false) else false
@[simp] abbrev zGS (c:Ctl)(n:Int):Bool:=true
@[simp] abbrev zA2 (c:Ctl)(n:Int):Bool:=posts c n
def zKa:Run:=rF2 dC dI fun b c=>(zGS b c,[aB (zA2 b c)])
def zTe (N:Nat)(b:Ctl)(a:Int):OA:=
 (oN (ztt b) (cond (zrz b) (oN (zN a 0 7) (cond (zQ a 0 7) (oN (ile 0 (wcv .u64 a)) (some [(aB (ieq (wand .i64 (zHc .i64 b.Post (wcv .u64 a)) 1) 1))])) oF)) oF))
theorem z0O (b:Ctl)(a:Int)(c:zGS b a=true):∃N,zTe N b a=some [aB (zA2 b a)]:=by have d:=@cv7 a;refine⟨0,?_⟩;unfold zTe oN;refine must rfl (br (fun _=>must rfl (br (fun _=>mu ?_) (fun _=>?_))) (fun _=>?_));all_goals first|rfl|(simp only [*,zA2,posts,cT,cF]<;>rfl)|simp_all[Ty.cells,zA2,posts]
theorem zUF:vM 295 zKa:=kF2 zlJ zx zy zn (zq []) z0O
def zbT (b:Bare)(g:Int):Bool:=bif zbS b then hasB g (ln b.Guests) else false
theorem zdF {b:Bare}{g:Int}:(zbT b g=true)↔zbS b=true/\hasB g (ln b.Guests)=true:=by unfold zbT;cases zbS b<;>simp
@[simp] abbrev zjK (b:Bare)(g:Int):Bool:=pc (SmB b)
@[simp] abbrev zk5 (b:Bare)(g:Int):Bool:=zbT b g
def zKd:Run:=rF2 (dT .bare) dI fun b c=>(zjK b c,[aB (zk5 b c)])
def zTh (N:Nat)(a:Bare)(b:Int):OA:=
 (oN (zp0 a) (cond (zeQ a) (oN (zN b 0 (wsub .i64 (ln a.Guests) 1)) (some [(aB (zQ b 0 (wsub .i64 (ln a.Guests) 1)))])) oF))
theorem z0R (a:Bare)(b:Int)(c:zjK a b=true):∃N,zTh N a b=some [aB (zk5 a b)]:=by have d:=zK.1 c;have e:a.Guests.length<=1048576:=d.2.1.1;refine⟨0,?_⟩;unfold zTh oN;refine must rfl (br (fun _=>must rfl ?_) (fun _=>?_));all_goals first|rfl|(simp only [*,zk5,zbT,cT,cF]<;>rfl)|simp_all[Ty.cells,zk5,zbT]
theorem zUJ:vM 170 zKd:=kF2 zlJ zx zy zn (zq []) z0R
@[simp] abbrev zuK (b:Bare)(g:Int):Bool:=pc (SmB b)
@[simp] abbrev zlQ (b:Bare)(g:Int):GExit:=(gAt b g).Exit
def zF1:Run:=rF2 (dT .bare) dI fun b c=>(zuK b c,[.agg (zfg (zlQ b c))])
def zMI (N:Nat)(c:Bare)(d:Int):OA:=
 let a:=(zdT c d); (oN (zdV c d) (some [(.agg [(.i .i64 a.Exit.Kind),(.i .i64 a.Exit.Page),(.b a.Exit.Write),(.i .i64 a.Exit.N)])]))
theorem zXA (a:Bare)(b:Int)(c:zuK a b=true):∃N,zMI N a b=some [.agg (zfg (zlQ a b))]:=by
 have d:=zK.1 c;refine⟨0,?_⟩;unfold zMI oN;conv=>zeta
 refine mu ?_;first|rfl|(simp only [*,zlQ,cT,cF]<;>rfl)|simp_all[Ty.cells,zlQ]
theorem zQD:vM 176 zF1:=kF2 zlJ zx zy zn (zq []) zXA
def zbby:zW:=[(172,zAW),(166,zAy),(188,zDM),(186,zDu),(295,zKa),(170,zKd),(176,zF1)]++zbbx
theorem zf0:zL zbby:=zh zLx (zh zK8 (zh zOl (zh zN3 (zh zUF (zh zUJ (zh zQD zlJ))))))
theorem zZ1 {b:Type}{l:List b}{i:Int}{d:b}(h:hasB i (ln l)=true):up l i (ix l i d)=l:=by obtain⟨k,rfl,a⟩:=zdK (n:=l.length) h;unfold up;rw[zbp a,kH];exact u1 a
theorem zvK {b:Bare}{g:Int}(h:hasB g (ln b.Guests)=true):gAt b g=ix b.Guests g zD:=by unfold gAt;rw[h];rfl
theorem z7Q {b:Bare}{g:Int}(h:hasB g (ln b.Guests)=true):zdZ b g (gAt b g)=b:=by unfold zdZ;rw[zvK h,zZ1 h]
def chg (b:Bare)(g:Int)(c:Bool)(x:Guest):Bare:=bif (cond (zbT b g) c false) then zdZ b g x else b
def zbE (b:Bare)(g:Int)(c:Bool):Bool:=bif zbT b g then c else false
def znn (p:Int)(s:Slot):Bool:=bif hasB p 4 then zdD s 8 else false
def zrF (x:Guest)(p:Int)(s:Slot):Guest:={x with Written:=zdE x.Written p s}
def zdP (x:Guest)(p:Int):Guest:={x with Live:=zdE x.Live p (zbu x.Written p)}
def zhD:GExit:=⟨0,0,false,0⟩
def znk (x:Guest)(v:Int):Bool:=bif win v 0 99 then (cond (ieq x.Exit.Kind 2) true (ieq x.Exit.Kind 3)) else false
def zqT (x:Guest)(v:Int):Guest:=zb3 (stopped (cond (ieq x.Exit.Kind 2) {x with A:=v} x) zhD)
def zpJ (x:Guest):Bool:=bif ieq x.Exit.Kind 1 then true else ieq x.Exit.Kind 4
def zrn (x:Guest):Guest:=bif ieq x.Exit.Kind 1 then stopped x zhD else held (stopped x zhD)
def zk9 (x:Guest)(n:Int):Guest:={x with Pending:=zn8 x.Pending n}
def zyY (x:Guest)(c:Ctl):Guest:={x with Ctl:=c}
theorem zbdc {x:Guest}{n:Int}(h:zeq x.Pending n=false):zk9 x n=x:=by unfold zk9 zn8;rw[h];rfl
theorem zZl {x:Guest}(p:Int)(s:Slot)(h:SmG x):SmG (zrF x p s):=⟨h.1,by simpa [zrF] using h.2.1,h.2.2.1,h.2.2.2⟩
theorem zPS {x:Guest}(p:Int)(h:SmG x):SmG (zdP x p):=⟨h.1,h.2.1,by simpa [zdP] using h.2.2.1,h.2.2.2⟩
theorem zbah {x:Guest}(v:Int)(h:SmG x):SmG (zqT x v):=by unfold zqT;cases ieq x.Exit.Kind 2<;>exact zjN h
theorem zbai {x:Guest}(h:SmG x):SmG (zrn x):=by unfold zrn;cases ieq x.Exit.Kind 1;{exact zZk (g:=stopped x zhD) h};{exact h}
theorem zrH {b:Bare}{g:Int}{c:Bool}{x:Guest}(h:SmB b)(a:SmG x):SmB (chg b g c x):=by unfold chg;cases (cond (zbT b g) c false);{exact h};{exact zoW h a}
@[simp] abbrev zsc (b:Bare)(g p:Int)(s:Slot):Bool:=pc (SmB b)
@[simp] abbrev zi2 (b:Bare)(g p:Int)(s:Slot):Bare:=chg b g (znn p s) (zrF (gAt b g) p s)
@[simp] abbrev zkZ (b:Bare)(g p:Int)(s:Slot):Bool:=zbE b g (znn p s)
def zt2:Run:=rF4 (dT .bare) dI dI (dT .slot) fun b c d e=>(zsc b c d e,[aT .bare (zi2 b c d e),aB (zkZ b c d e)])
def zI5 (N:Nat)(f:Bare)(b c:Int)(d:Slot):OA:=
 let a:=(zcu f);let e:=(ix a.Guests b zD); (oN (zfl f) (oN (zjK a b) (cond (nB (zk5 a b)) (some [(aT .bare a),(aB false)]) (oN (zN c 0 3) (cond (nB (zQ c 0 3)) (some [(aT .bare a),(aB false)]) (oN (zu1 d 8) (cond (nB (zrA d 8)) (some [(aT .bare a),(aB false)]) (oN (inb b (ln a.Guests)) (oN (zqh e.Written c d) (oN (inb b (ln a.Guests)) (share (up a.Guests b ({e with Written:=(zm7 e.Written c d)}:Guest)) (fun g=>(some [(aT .bare ({a with Guests:=g}:Bare)),(aB true)])))))))))))))
theorem zU7 (b:Bare)(a c:Int)(d:Slot)(e:zsc b a c d=true):∃N,zI5 N b a c d=some [aT .bare (zi2 b a c d),aB (zkZ b a c d)]:=by
 have f:=zK.1 e;have g:=zgC a f;have k:zbT b a=true->hasB a (ln b.Guests)=true:=fun h=>(zdF.1 h).2;have i:zbT b a=true->gAt b a=ix b.Guests a zD:=fun h=>zvK (zdF.1 h).2;have j:=g.2.1;refine⟨0,?_⟩;unfold zI5 oN nB;conv=>zeta
 refine mu (mu (brN (fun _=>?_) (fun _=>must rfl (brN (fun _=>?_) (fun _=>must rfl (brN (fun _=>?_) (fun _=>mu (mu (mu (shr ?_))))))))));all_goals first|rfl|(simp only [*,zi2,zkZ,chg,zbE,znn,zrF,zdZ,cT,cF]<;>rfl)|simp_all[Ty.cells,zi2,zkZ,chg,zbE,znn,zrF,zdZ]
theorem zxn:vM 75 zt2:=kF4 zf0 zx zy zn (zq []) zU7
@[simp] abbrev zrY (b:Bare)(g p:Int)(s:Slot):Bool:=pc (SmB b)
@[simp] abbrev zkO (b:Bare)(g p:Int)(s:Slot):Bare:=chg b g (znn p s) (zrF (gAt b g) p s)
@[simp] abbrev ziT (b:Bare)(g p:Int)(s:Slot):Bool:=zbE b g (znn p s)
def ztX:Run:=rF4 (dT .bare) dI dI (dT .slot) fun b c d e=>(zrY b c d e,[aT .bare (zkO b c d e),aB (ziT b c d e)])
def zIP (N:Nat)(a:Bare)(b e:Int)(f:Slot):OA:=
 let d:=(zcV a);let g:=({ (zdT a b) with Written:=(zpw (zdT a b).Written e f)}:Guest);let c:=(aT .bare (zek a)); (oN (zdB e 4) (cond (zd1 e 4) (oN (zuM f 8) (oN (zdV a b) (oN (zfv a) (cond (nB (zdl a)) (oN d (some [c,(aB false)])) (cond (nB (zdU a b)) (oN d (some [c,(aB false)])) (cond (nB (zq9 f 8)) (oN d (some [c,(aB false)])) (oN (zvX (zdT a b).Written e f) (oN (cond (ieq a.Pending a.Pending) true false) (oN (ieq b b) (oN (zdg a b g) (some [(aT .bare (zec a b g)),(aB true)]))))))))))) (oN (zdV a b) (oN (zfv a) (cond (nB (zdl a)) (oN d (some [c,(aB false)])) (cond (nB (zdU a b)) (oN d (some [c,(aB false)])) (oN d (some [c,(aB false)]))))))))
theorem zUR (b:Bare)(a c:Int)(d:Slot)(f:zrY b a c d=true):∃N,zIP N b a c d=some [aT .bare (zkO b a c d),aB (ziT b a c d)]:=by
 have g:=zK.1 f;have e:=zgC a g;have i:_/\_/\_/\_:=e;have h:=fun p s=>zZl (x:=gAt b a) p s e;unfold zrF at h;refine⟨0,?_⟩;unfold zIP oN nB;conv=>zeta
 refine must rfl (br (fun _=>must rfl (mu (must rfl (brN (fun _=>mu ?_) (fun _=>brN (fun _=>mu ?_) (fun _=>brN (fun _=>mu ?_) (fun _=>mu (mu (mu (mu ?_)))))))))) (fun _=>mu (must rfl (brN (fun _=>mu ?_) (fun _=>brN (fun _=>mu ?_) (fun _=>mu ?_))))));all_goals first|rfl|(simp only [*,zkO,ziT,chg,zbE,znn,zrF,zbT,zfd,cT,cF]<;>rfl)|simp_all[Ty.cells,zkO,ziT,chg,zbE,znn,zrF,zbT,zfd]
theorem zxi:vM 72 ztX:=kF4 zf0 zx zy zn (zq []) zUR
@[simp] abbrev zuh (b:Bare)(g p:Int):Bool:=pc (SmB b)
@[simp] abbrev zeK (b:Bare)(g p:Int):Bare:=chg b g (hasB p 4) (zdP (gAt b g) p)
@[simp] abbrev zh0 (b:Bare)(g p:Int):Bool:=zbE b g (hasB p 4)
def zpM:Run:=rF3 (dT .bare) dI dI fun b c d=>(zuh b c d,[aT .bare (zeK b c d),aB (zh0 b c d)])
def zC3 (N:Nat)(f:Bare)(d b:Int):OA:=
 let a:=(zcu f);let e:=(inb d (ln a.Guests));let c:=(ix a.Guests d zD); (oN (zfl f) (oN (zjK a d) (cond (nB (zk5 a d)) (some [(aT .bare a),(aB false)]) (oN (zN b 0 3) (cond (nB (zQ b 0 3)) (some [(aT .bare a),(aB false)]) (oN e (oN e (oN (ziH c.Written b) (oN (zqh c.Live b (zgb c.Written b)) (oN e (share (up a.Guests d ({c with Live:=(zm7 c.Live b (zgb c.Written b))}:Guest)) (fun g=>(some [(aT .bare ({a with Guests:=g}:Bare)),(aB true)])))))))))))))
theorem zO1 (b:Bare)(a c:Int)(d:zuh b a c=true):∃N,zC3 N b a c=some [aT .bare (zeK b a c),aB (zh0 b a c)]:=by
 have e:=zK.1 d;have f:=zgC a e;have j:zbT b a=true->hasB a (ln b.Guests)=true:=fun h=>(zdF.1 h).2;have g:zbT b a=true->gAt b a=ix b.Guests a zD:=fun h=>zvK (zdF.1 h).2;have i:=f.2.2.1;refine⟨0,?_⟩;unfold zC3 oN nB;conv=>zeta
 refine mu (mu (brN (fun _=>?_) (fun _=>must rfl (brN (fun _=>?_) (fun _=>mu (mu (must rfl (mu (mu (shr ?_))))))))));all_goals first|rfl|(simp only [*,zeK,zh0,chg,zbE,zdP,zdZ,cT,cF]<;>rfl)|simp_all[Ty.cells,zeK,zh0,chg,zbE,zdP,zdZ]
theorem zuv:vM 107 zpM:=kF3 zf0 zx zy zn (zq []) zO1
@[simp] abbrev zmU (b:Bare)(g v:Int):Bool:=pc (SmB b)
@[simp] abbrev zf7 (b:Bare)(g v:Int):Bare:=chg b g (znk (gAt b g) v) (zqT (gAt b g) v)
@[simp] abbrev zhp (b:Bare)(g v:Int):Bool:=zbE b g (znk (gAt b g) v)
def zoF:Run:=rF3 (dT .bare) dI dI fun b c d=>(zmU b c d,[aT .bare (zf7 b c d),aB (zhp b c d)])
def zzI (N:Nat)(i:Bare)(b e:Int):OA:=
 let a:=(zcu i);let h:=(inb b (ln a.Guests));let d:=(⟨0,0,false,0⟩:GExit);let c:=(ix a.Guests b zD);let g:=({c with A:=e}:Guest); (oN (zfl i) (oN (zjK a b) (cond (nB (zk5 a b)) (some [(aT .bare a),(aB false)]) (oN (zN e 0 99) (cond (nB (zQ e 0 99)) (some [(aT .bare a),(aB false)]) (oN h (cond (ieq c.Exit.Kind 2) (oN (zed g d) (oN (zd9 (zdJ g d)) (oN h (share (up a.Guests b (zgK (zdJ g d))) (fun f=>(some [(aT .bare ({a with Guests:=f}:Bare)),(aB true)])))))) (cond (ieq c.Exit.Kind 3) (oN (zed c d) (oN (zd9 (zdJ c d)) (oN h (share (up a.Guests b (zgK (zdJ c d))) (fun f=>(some [(aT .bare ({a with Guests:=f}:Bare)),(aB true)])))))) (some [(aT .bare a),(aB false)])))))))))
theorem zLY (b:Bare)(a c:Int)(d:zmU b a c=true):∃N,zzI N b a c=some [aT .bare (zf7 b a c),aB (zhp b a c)]:=by
 have e:=zK.1 d;have f:=zgC a e;have j:zbT b a=true->hasB a (ln b.Guests)=true:=fun h=>(zdF.1 h).2;have g:zbT b a=true->gAt b a=ix b.Guests a zD:=fun h=>zvK (zdF.1 h).2;have i:_/\_/\_/\_:=f;refine⟨0,?_⟩;unfold zzI oN nB;conv=>zeta
 refine mu (mu (brN (fun _=>?_) (fun _=>must rfl (brN (fun _=>?_) (fun _=>mu (br (fun _=>mu (mu (mu (shr ?_)))) (fun _=>br (fun _=>mu (mu (mu (shr ?_)))) (fun _=>?_))))))));all_goals first|rfl|(simp only [*,zf7,zhp,chg,zbE,znk,zqT,zhD,zdZ,SmG,stopped,cT,cF]<;>rfl)|simp_all[Ty.cells,zf7,zhp,chg,zbE,znk,zqT,zhD,zdZ,SmG,stopped]
theorem ztb:vM 82 zoF:=kF3 zf0 zx zy zn (zq []) zLY
@[simp] abbrev zmC (b:Bare)(g v:Int):Bool:=pc (SmB b)
@[simp] abbrev zeU (b:Bare)(g v:Int):Bare:=chg b g (znk (gAt b g) v) (zqT (gAt b g) v)
@[simp] abbrev zeh (b:Bare)(g v:Int):Bool:=zbE b g (znk (gAt b g) v)
def zoz:Run:=rF3 (dT .bare) dI dI fun b c d=>(zmC b c d,[aT .bare (zeU b c d),aB (zeh b c d)])
def zzx (N:Nat)(a:Bare)(b g:Int):OA:=
 let c:=(zdT a b);let l:=(ieq (zlQ a b).Kind 2);let e:=(zcV a);let j:=(ieq a.Pending a.Pending);let d:=(aT .bare (zek a));let k:=({c with A:=g}:Guest);let f:=(⟨0,0,false,0⟩:GExit);let i:=(zo2 k f);let m:=(aT .bare (zec a b (zjl i)));let h:=(zo2 c f);let n:=(aT .bare (zec a b (zjl h))); (oN (zuK a b) (cond l (oN (zbY g 0 99) (oN (zdV a b) (oN (zfv a) (cond (nB (zdl a)) (oN e (some [d,(aB false)])) (cond (nB (zdU a b)) (oN e (some [d,(aB false)])) (cond (nB (zcj g 0 99)) (oN e (some [d,(aB false)])) (cond l (oN (zkR k f) (oN (zlS i) (oN (cond j true false) (oN (ieq b b) (oN (zdg a b (zjl i)) (some [m,(aB true)])))))) (oN (zkR c f) (oN (zlS h) (oN (cond j true false) (oN (ieq b b) (oN (zdg a b (zjl h)) (some [n,(aB true)]))))))))))))) (cond (ieq (zlQ a b).Kind 3) (oN (zbY g 0 99) (oN (zdV a b) (oN (zfv a) (cond (nB (zdl a)) (oN e (some [d,(aB false)])) (cond (nB (zdU a b)) (oN e (some [d,(aB false)])) (cond (nB (zcj g 0 99)) (oN e (some [d,(aB false)])) (cond l (oN (zkR k f) (oN (zlS i) (oN (cond j true false) (oN (ieq b b) (oN (zdg a b (zjl i)) (some [m,(aB true)])))))) (oN (zkR c f) (oN (zlS h) (oN (cond j true false) (oN (ieq b b) (oN (zdg a b (zjl h)) (some [n,(aB true)]))))))))))))) (oN (zdV a b) (oN (zfv a) (cond (nB (zdl a)) (oN e (some [d,(aB false)])) (cond (nB (zdU a b)) (oN e (some [d,(aB false)])) (oN e (some [d,(aB false)])))))))))
theorem zLN (b:Bare)(a c:Int)(f:zmC b a c=true):∃N,zzx N b a c=some [aT .bare (zeU b a c),aB (zeh b a c)]:=by
 have g:=zK.1 f;have d:=zgC a g;have j:_/\_/\_/\_:=d;have h:SmG ({gAt b a with A:=c}:Guest):=d;have i:∀e,SmG (zb3 (stopped (gAt b a) e)):=fun e=>zjN (z1E e d);refine⟨0,?_⟩;unfold zzx oN nB;conv=>zeta
 refine mu (br (fun _=>must rfl (mu (must rfl (brN (fun _=>mu ?_) (fun _=>brN (fun _=>mu ?_) (fun _=>brN (fun _=>mu ?_) (fun _=>br (fun _=>mu (mu (mu (mu (mu ?_))))) (fun _=>mu (mu (mu (mu (mu ?_)))))))))))) (fun _=>br (fun _=>must rfl (mu (must rfl (brN (fun _=>mu ?_) (fun _=>brN (fun _=>mu ?_) (fun _=>brN (fun _=>mu ?_) (fun _=>br (fun _=>mu (mu (mu (mu (mu ?_))))) (fun _=>mu (mu (mu (mu (mu ?_)))))))))))) (fun _=>mu (must rfl (brN (fun _=>mu ?_) (fun _=>brN (fun _=>mu ?_) (fun _=>mu ?_)))))));all_goals first|rfl|(simp only [*,zeU,zeh,chg,zbE,znk,zqT,zhD,zbT,zfd,cT,cF]<;>rfl)|simp_all[Ty.cells,zeU,zeh,chg,zbE,znk,zqT,zhD,zbT,zfd]
theorem zs5:vM 81 zoz:=kF3 zf0 zx zy zn (zq []) zLN
@[simp] abbrev zmW (b:Bare)(g:Int):Bool:=pc (SmB b)
@[simp] abbrev zf9 (b:Bare)(g:Int):Bare:=chg b g (zpJ (gAt b g)) (zrn (gAt b g))
@[simp] abbrev zhr (b:Bare)(g:Int):Bool:=zbE b g (zpJ (gAt b g))
def zoH:Run:=rF2 (dT .bare) dI fun b c=>(zmW b c,[aT .bare (zf9 b c),aB (zhr b c)])
def zzK (N:Nat)(g:Bare)(c:Int):OA:=
 let a:=(zcu g);let f:=(inb c (ln a.Guests));let d:=(⟨0,0,false,0⟩:GExit);let b:=(ix a.Guests c zD); (oN (zfl g) (oN (zjK a c) (cond (nB (zk5 a c)) (some [(aT .bare a),(aB false)]) (oN f (cond (ieq b.Exit.Kind 1) (oN (zed b d) (oN f (share (up a.Guests c (zdJ b d)) (fun e=>(some [(aT .bare ({a with Guests:=e}:Bare)),(aB true)]))))) (cond (ieq b.Exit.Kind 4) (oN (zed b d) (oN (zoO (zdJ b d)) (oN f (share (up a.Guests c (zA0 (zdJ b d))) (fun e=>(some [(aT .bare ({a with Guests:=e}:Bare)),(aB true)])))))) (some [(aT .bare a),(aB false)])))))))
theorem zL0 (b:Bare)(a:Int)(c:zmW b a=true):∃N,zzK N b a=some [aT .bare (zf9 b a),aB (zhr b a)]:=by
 have d:=zK.1 c;have e:=zgC a d;have i:zbT b a=true->hasB a (ln b.Guests)=true:=fun h=>(zdF.1 h).2;have f:zbT b a=true->gAt b a=ix b.Guests a zD:=fun h=>zvK (zdF.1 h).2;have g:_/\_/\_/\_:=e;refine⟨0,?_⟩;unfold zzK oN nB;conv=>zeta
 refine mu (mu (brN (fun _=>?_) (fun _=>mu (br (fun _=>mu (mu (shr ?_))) (fun _=>br (fun _=>mu (mu (mu (shr ?_)))) (fun _=>?_))))));all_goals first|rfl|(simp only [*,zf9,zhr,chg,zbE,zpJ,zrn,zhD,zdZ,SmG,stopped,cT,cF]<;>rfl)|simp_all[Ty.cells,zf9,zhr,chg,zbE,zpJ,zrn,zhD,zdZ,SmG,stopped]
theorem ztd:vM 85 zoH:=kF2 zf0 zx zy zn (zq []) zL0
@[simp] abbrev zmE (b:Bare)(g:Int):Bool:=pc (SmB b)
@[simp] abbrev zeW (b:Bare)(g:Int):Bare:=chg b g (zpJ (gAt b g)) (zrn (gAt b g))
@[simp] abbrev zej (b:Bare)(g:Int):Bool:=zbE b g (zpJ (gAt b g))
def zoB:Run:=rF2 (dT .bare) dI fun b c=>(zmE b c,[aT .bare (zeW b c),aB (zej b c)])
def zzA (N:Nat)(a:Bare)(b:Int):OA:=
 let f:=(ieq (zlQ a b).Kind 4);let e:=(ieq a.Pending a.Pending);let d:=(aT .bare (zek a));let c:=({ (zdT a b) with Exit:=(⟨0,0,false,0⟩:GExit)}:Guest);let g:=(aT .bare (zec a b (zvW c))); (oN (zuK a b) (cond (ieq (zlQ a b).Kind 1) (oN (zdV a b) (oN (zfv a) (cond (nB (zdl a)) (oN (zcV a) (some [d,(aB false)])) (cond (nB (zdU a b)) (oN (zcV a) (some [d,(aB false)])) (cond f (oN (zBV c) (oN (cond e true false) (oN (ieq b b) (oN (zdg a b (zvW c)) (some [g,(aB true)]))))) (oN (cond e true false) (oN (ieq b b) (oN (zdg a b c) (some [(aT .bare (zec a b c)),(aB true)]))))))))) (oN (zdV a b) (oN (zfv a) (cond (nB (zdl a)) (oN (zcV a) (some [d,(aB false)])) (cond (nB (zdU a b)) (oN (zcV a) (some [d,(aB false)])) (cond (nB f) (oN (zcV a) (some [d,(aB false)])) (cond f (oN (zBV c) (oN (cond e true false) (oN (ieq b b) (oN (zdg a b (zvW c)) (some [g,(aB true)]))))) (oN (cond e true false) (oN (ieq b b) (oN (zdg a b c) (some [(aT .bare (zec a b c)),(aB true)]))))))))))))
theorem zLP (b:Bare)(a:Int)(d:zmE b a=true):∃N,zzA N b a=some [aT .bare (zeW b a),aB (zej b a)]:=by
 have e:=zK.1 d;have f:=zgC a e;have g:_/\_/\_/\_:=f;have c:ieq (gAt b a).Exit.Kind 1=true->ieq (gAt b a).Exit.Kind 4=false:=fun h=>zbda h (by decide);refine⟨0,?_⟩;unfold zzA oN nB;conv=>zeta
 refine mu (br (fun _=>mu (must rfl (brN (fun _=>mu ?_) (fun _=>brN (fun _=>mu ?_) (fun _=>br (fun _=>mu (mu (mu (mu ?_)))) (fun _=>mu (mu (mu ?_)))))))) (fun _=>mu (must rfl (brN (fun _=>mu ?_) (fun _=>brN (fun _=>mu ?_) (fun _=>brN (fun _=>mu ?_) (fun _=>br (fun _=>mu (mu (mu (mu ?_)))) (fun _=>mu (mu (mu ?_))))))))));all_goals first|rfl|(simp only [*,zeW,zej,chg,zbE,zpJ,zrn,zhD,zbT,zfd,SmG,stopped,cT,cF]<;>rfl)|simp_all[Ty.cells,zeW,zej,chg,zbE,zpJ,zrn,zhD,zbT,zfd,SmG,stopped]
theorem zs7:vM 84 zoB:=kF2 zf0 zx zy zn (zq []) zLP
theorem zbd0 {b:Bare}{g:Int}{c:Bool}{x:Guest}(h:zbT b g=false):chg b g c x=b:=by unfold chg;rw[h];rfl
theorem zbcv {b:Bare}{g n:Int}(h:zbT b g=true):chg b g (zeq (gAt b g).Pending n) (zk9 (gAt b g) n)=zdZ b g (zk9 (gAt b g) n):=by unfold chg;rw[h];cases a:zeq (gAt b g).Pending n;{rw [zbdc a,z7Q (zdF.1 h).2];rfl};{rfl}
@[simp] abbrev zmV (b:Bare)(g n:Int):Bool:=pc (SmB b)
@[simp] abbrev zf8 (b:Bare)(g n:Int):Bare:=chg b g (zeq (gAt b g).Pending n) (zk9 (gAt b g) n)
@[simp] abbrev zhq (b:Bare)(g n:Int):Bool:=zbE b g (zeq (gAt b g).Pending n)
def zoG:Run:=rF3 (dT .bare) dI dI fun b c d=>(zmV b c d,[aT .bare (zf8 b c d),aB (zhq b c d)])
def zzJ (N:Nat)(e:Bare)(b d:Int):OA:=
 let a:=(zcu e);let c:=(ix a.Guests b zD); (oN (zfl e) (oN (zjK a b) (cond (nB (zk5 a b)) (some [(aT .bare a),(aB false)]) (oN (inb b (ln a.Guests)) (oN (zk1 c.Pending d) (oN (inb b (ln a.Guests)) (share (up a.Guests b ({c with Pending:=(zhd c.Pending d)}:Guest)) (fun f=>(some [(aT .bare ({a with Guests:=f}:Bare)),(aB (znR c.Pending d))])))))))))
theorem zLZ (a:Bare)(b c:Int)(d:zmV a b c=true):∃N,zzJ N a b c=some [aT .bare (zf8 a b c),aB (zhq a b c)]:=by
 have i:=zK.1 d;have j:zbT a b=true->hasB b (ln a.Guests)=true:=fun h=>(zdF.1 h).2;have f:zbT a b=true->gAt a b=ix a.Guests b zD:=fun h=>zvK (zdF.1 h).2;have g:=@zbcv a b c;have e:=@zbd0 a b (zeq (gAt a b).Pending c) (zk9 (gAt a b) c);refine⟨0,?_⟩;unfold zzJ oN nB;conv=>zeta
 refine mu (mu (brN (fun _=>?_) (fun _=>mu (must rfl (mu (shr ?_))))));all_goals first|rfl|(simp only [*,zf8,zhq,zbE,zdZ,zk9,cT,cF]<;>rfl)|simp_all[Ty.cells,zf8,zhq,zbE,zdZ,zk9]
theorem ztc:vM 89 zoG:=kF3 zf0 zx zy zn (zq []) zLZ
@[simp] abbrev zmD (b:Bare)(g n:Int):Bool:=pc (SmB b)
@[simp] abbrev zeV (b:Bare)(g n:Int):Bare:=chg b g (zeq (gAt b g).Pending n) (zk9 (gAt b g) n)
@[simp] abbrev zei (b:Bare)(g n:Int):Bool:=zbE b g (zeq (gAt b g).Pending n)
def zoA:Run:=rF3 (dT .bare) dI dI fun b c d=>(zmD b c d,[aT .bare (zeV b c d),aB (zei b c d)])
def zzy (N:Nat)(a:Bare)(b c:Int):OA:=
 let e:=(zdT a b).Pending;let d:=(aT .bare (zek a));let f:=({ (zdT a b) with Pending:=(znw e c)}:Guest); (oN (zdV a b) (oN (zy4 e c) (oN (zdV a b) (oN (zfv a) (cond (nB (zdl a)) (oN (zcV a) (some [d,(aB false)])) (cond (nB (zdU a b)) (oN (zcV a) (some [d,(aB false)])) (cond (nB (znx e c)) (oN (zcV a) (some [d,(aB false)])) (oN (cond (ieq a.Pending a.Pending) true false) (oN (ieq b b) (oN (zdg a b f) (some [(aT .bare (zec a b f)),(aB true)])))))))))))
theorem zLO (b:Bare)(a c:Int)(d:zmD b a c=true):∃N,zzy N b a c=some [aT .bare (zeV b a c),aB (zei b a c)]:=by
 have e:=zK.1 d;have f:=zgC a e;have g:_/\_/\_/\_:=f;refine⟨0,?_⟩;unfold zzy oN nB;conv=>zeta
 refine mu (must rfl (mu (must rfl (brN (fun _=>mu ?_) (fun _=>brN (fun _=>mu ?_) (fun _=>brN (fun _=>mu ?_) (fun _=>mu (mu (mu ?_)))))))));all_goals first|rfl|(simp only [*,zeV,zei,chg,zbE,zk9,zbT,zfd,cT,cF]<;>rfl)|simp_all[Ty.cells,zeV,zei,chg,zbE,zk9,zbT,zfd]
theorem zs6:vM 88 zoA:=kF3 zf0 zx zy zn (zq []) zLO
@[simp] abbrev zsb (b:Bare)(g:Int)(c:Ctl):Bool:=pc (SmB b)
@[simp] abbrev zi1 (b:Bare)(g:Int)(c:Ctl):Bare:=chg b g (zgE c) (zyY (gAt b g) c)
@[simp] abbrev zkY (b:Bare)(g:Int)(c:Ctl):Bool:=zbE b g (zgE c)
def zt1:Run:=rF3 (dT .bare) dI dC fun b c d=>(zsb b c d,[aT .bare (zi1 b c d),aB (zkY b c d)])
def zI4 (N:Nat)(d:Bare)(b:Int)(c:Ctl):OA:=
 let a:=(zcu d); (oN (zfl d) (oN (zjK a b) (cond (nB (zk5 a b)) (some [(aT .bare a),(aB false)]) (oN (ztt c) (cond (nB (zrz c)) (some [(aT .bare a),(aB false)]) (oN (inb b (ln a.Guests)) (share (up a.Guests b ({ (ix a.Guests b zD) with Ctl:=c}:Guest)) (fun e=>(some [(aT .bare ({a with Guests:=e}:Bare)),(aB true)])))))))))
theorem zU6 (a:Bare)(b:Int)(c:Ctl)(d:zsb a b c=true):∃N,zI4 N a b c=some [aT .bare (zi1 a b c),aB (zkY a b c)]:=by
 have f:=zK.1 d;have g:zbT a b=true->hasB b (ln a.Guests)=true:=fun h=>(zdF.1 h).2;have e:zbT a b=true->gAt a b=ix a.Guests b zD:=fun h=>zvK (zdF.1 h).2;refine⟨0,?_⟩;unfold zI4 oN nB;conv=>zeta
 refine mu (mu (brN (fun _=>?_) (fun _=>must rfl (brN (fun _=>?_) (fun _=>mu (shr ?_))))));all_goals first|rfl|(simp only [*,zi1,zkY,chg,zbE,zyY,zdZ,cT,cF]<;>rfl)|simp_all[Ty.cells,zi1,zkY,chg,zbE,zyY,zdZ]
theorem zxm:vM 93 zt1:=kF3 zf0 zx zy zn (zq []) zU6
@[simp] abbrev zrX (b:Bare)(g:Int)(c:Ctl):Bool:=pc (SmB b)
@[simp] abbrev zg8 (b:Bare)(g:Int)(c:Ctl):Bare:=chg b g (zgE c) (zyY (gAt b g) c)
@[simp] abbrev zgh (b:Bare)(g:Int)(c:Ctl):Bool:=zbE b g (zgE c)
def ztW:Run:=rF3 (dT .bare) dI dC fun b c d=>(zrX b c d,[aT .bare (zg8 b c d),aB (zgh b c d)])
def zIO (N:Nat)(a:Bare)(b:Int)(c:Ctl):OA:=
 let d:=(aT .bare (zek a));let e:=({ (zdT a b) with Ctl:=c}:Guest); (oN (zxv c) (oN (zdV a b) (oN (zfv a) (cond (nB (zdl a)) (oN (zcV a) (some [d,(aB false)])) (cond (nB (zdU a b)) (oN (zcV a) (some [d,(aB false)])) (cond (nB (zvh c)) (oN (zcV a) (some [d,(aB false)])) (oN (cond (ieq a.Pending a.Pending) true false) (oN (ieq b b) (oN (zdg a b e) (some [(aT .bare (zec a b e)),(aB true)]))))))))))
theorem zUQ (b:Bare)(a:Int)(c:Ctl)(d:zrX b a c=true):∃N,zIO N b a c=some [aT .bare (zg8 b a c),aB (zgh b a c)]:=by
 have e:=zK.1 d;have f:=zgC a e;have g:_/\_/\_/\_:=f;refine⟨0,?_⟩;unfold zIO oN nB;conv=>zeta
 refine must rfl (mu (must rfl (brN (fun _=>mu ?_) (fun _=>brN (fun _=>mu ?_) (fun _=>brN (fun _=>mu ?_) (fun _=>mu (mu (mu ?_))))))));all_goals first|rfl|(simp only [*,zg8,zgh,chg,zbE,zyY,zbT,zfd,cT,cF]<;>rfl)|simp_all[Ty.cells,zg8,zgh,chg,zbE,zyY,zbT,zfd]
theorem zxh:vM 92 ztW:=kF3 zf0 zx zy zn (zq []) zUQ
def zbca (p c v:Int):Bool:=bif hasB p 8 then (cond (hasB c 4) (win v 0 99) false) else false
def zAi (b:Bare)(p c v:Int):Bool:=bif zbS b then zbca p c v else false
def zWa (b:Bare)(p c v:Int):Bare:=bif zAi b p c v then {b with Memory:=zbN b.Memory p c v} else b
def zni (b:Bare):Bare:=bif zbS b then {b with Pending:=zkT b.Pending} else b
def ztN (b:Bare):Int:=bif zbS b then zv0 b.Pending else -1
def zms (b:Bare):Bool:=bif zbS b then !ilt (zdQ b.Pending) 0 else false
def zpn (b:Bare)(g a n:Int):Bool:=bif zbT b g then (cond (win a 0 15) (zfN (gAt b g).Live (zbk a) n) false) else false
def zHl (b:Bare)(g a n:Int):Int:=zcE (gAt b g).Live (zbk a) n
def zBF (b:Bare)(g a v:Int):Bool:=bif zpn b g a 2 then win v 0 99 else false
def z3w (b:Bare)(g a v:Int):Bare:=bif zBF b g a v then {b with Memory:=zbN b.Memory (zHl b g a 2) (zde a) v} else b
def zWe (b:Bare)(g a:Int):Int:=bif zpn b g a 1 then cellAt b.Memory (zHl b g a 1) (zde a) else 0
@[simp] abbrev zsa (b:Bare):Bool:=pc (SmB b)
@[simp] abbrev zi0 (b:Bare):Bare:=zni b
@[simp] abbrev zkW (b:Bare):Int:=ztN b
@[simp] abbrev zkX (b:Bare):Bool:=zms b
def zt0:Run:=rF1 (dT .bare) fun b=>(zsa b,[aT .bare (zi0 b),aI (zkW b),aB (zkX b)])
def zI3 (N:Nat)(b:Bare):OA:=
 let a:=(zcu b); (oN (zfl b) (oN (zp0 a) (cond (nB (zeQ a)) (some [(aT .bare a),(aI (-1)),(aB false)]) (oN (zst a.Pending) (some [(aT .bare ({a with Pending:=(zk2 a.Pending)}:Bare)),(aI (zk3 a.Pending)),(aB (znT a.Pending))])))))
theorem zU5 (a:Bare)(b:zsa a=true):∃N,zI3 N a=some [aT .bare (zi0 a),aI (zkW a),aB (zkX a)]:=by
 have c:=zK.1 b;refine⟨0,?_⟩;unfold zI3 oN nB;conv=>zeta
 refine mu (must rfl (brN (fun _=>?_) (fun _=>must rfl ?_)));all_goals first|rfl|(simp only [*,zi0,zkW,zkX,zni,ztN,zms,zkT,zv0,cT,cF]<;>rfl)|simp_all[Ty.cells,zi0,zkW,zkX,zni,ztN,zms,zkT,zv0]
theorem zxl:vM 140 zt0:=kF1 zf0 zx zy zn (zq []) zU5
def zbbz:zW:=zbby
theorem zWY:zL zbbz:=zf0
def zd7 (l:List Guest)(n:Int):List Int:=idxs (fun (x:Guest)=>posts x.Ctl n) l 0
theorem zXs {d:Type}(p:d->Bool):∀(l:List d) (i:Nat),∀k∈idxs p l i,(i:Int)<=k/\k<(i:Int)+l.length
 |[],_,k,a=>by cases a
 |x::l,i,k,a=>by have c:=zXs p l (i+1);simp only[q0];unfold idxs at a;cases b:p x;{rw [b]at a;have:=c k a;omega};{rw [b]at a;rcases qG.1 a with rfl|a;{omega};{have:=c k a;omega}}
@[simp] abbrev zwx (b:Bare)(n:Int):Bool:=pc (SmB b)
@[simp] abbrev zm4 (b:Bare)(n:Int):List Int:=zd7 b.Guests n
def zAQ:Run:=rF2 (dT .bare) dI fun b c=>(zwx b c,[aS .int (zm4 b c)])
def zEM (N:Nat)(c:Bare)(f:Int):OA:=
 (iter (σ:=(Int×(Int×(Int×((List Int)×(lM×(lG×((List Int)×Unit)))))))) N (fun d a=>let b:=a.2.2.2.2.2.1;let e:=(ix b a.2.1 zD).Ctl; (cond (ilt a.2.1 (ln b)) (oN (inb a.2.1 (ln b)) (oN (zGS e a.1) (cond (zA2 e a.1) (oN (few (ln (ap a.2.2.2.1 [a.2.1]))) (d (a.1,((zM .i64 a.2.1 1),(a.2.2.1,((ap a.2.2.2.1 [a.2.1]),(a.2.2.2.2.1,(b,(a.2.2.2.2.2.2.1,()))))))))) (d (a.1,((zM .i64 a.2.1 1),(a.2.2.1,(a.2.2.2.1,(a.2.2.2.2.1,(b,(a.2.2.2.2.2.2.1,()))))))))))) (some [(aS .int a.2.2.2.1)]))) (f,(0,(c.Pending,([],(c.Memory,(c.Guests,(c.Outs,()))))))))
def zSM:FuncId->Nat->Option Tmpl:=zq [(237,0,{n:=28,tm:=[(1,ti),(2,.lp 0 0),(5,.sl 0 []),(6,ti)],lo:=[(0,[.sl 1 [],.sl 2 [],.sl 3 [],ti])],ro:=[(0,.int,true),(1,(.sl .int),false),(2,.guest,false),(3,.int,false)]})]
theorem zRX (a:Bare)(b:Int)(g:zwx a b=true):∃N,zEM N a b=some [aS .int (zm4 a b)]:=by
 have h:=zK.1 g;have e:=zc2 h.2.1.1;refine zcp fun N d=>?_;unfold zEM oN;conv=>zeta
 refine(zbo a.Guests (fun i (t:(List Int))=>(b,(i:Int),a.Pending,t,a.Memory,a.Guests,a.Outs,())) _ (fun i (x:Guest) (t:List Int) f=>bif posts x.Ctl b then (cond (few (ln (ap t [(i:Int)]))) (f (ap t [(i:Int)])) none) else f t) (fun (t:(List Int))=>(some [(.one (.s .int t))])) (fun i c t rec=>?_) (fun t rec=>?_) _ ([]) (d e.1)).trans ?_;{simp only [zbG c,zbi c,zbp c,zbj c e.1,cT]};{simp only [zbw,cF]};exact zvM (fun (x:Guest)=>posts x.Ctl b) _ a.Guests 0 [] (by simpa using e.2)
theorem zLr:vM 237 zAQ:=kF2 zWY zx zy zn zSM zRX
def zbbA:zW:=[(237,zAQ)]++zbbz
theorem zWZ:zL zbbA:=zh zLr zWY
def zHG (n:Int)(l:List Guest)(k:Int):List Guest:=up l k (zk9 (ix l k zD) n)
def zmR (n:Int)(a:List Int)(l:List Guest):List Guest:=a.foldl (zHG n) l
theorem zFT (n:Int)(l:List Guest)(k:Int):(zHG n l k).length=l.length:=zgX _ _ _
theorem z5g {n:Int}{l:List Guest}{k:Int}(a:hasB k (ln l)=true)(h:zlB l):zlB (zHG n l k):=zHO h (zPT h a _)
theorem zG1 {n:Int}:∀(a:List Int) {l:List Guest},(∀k∈a,hasB k (ln l)=true)->zlB l->zlB (zmR n a l)/\(zmR n a l).length=l.length
 |[],_,_,h=>⟨h,rfl⟩
 |k::a,l,b,h=>by have e:=z5g (n:=n) (b k (by simp)) h;obtain⟨c,d⟩:=zG1 (n:=n) a (l:=zHG n l k) (fun j f=>by rw[ln,zFT];exact b j (by simp[f])) e;exact⟨c,d.trans (zFT _ _ _)⟩
theorem zXe {e:Type}(n:Int)(K:List Guest->Option e):∀(a:List Int) (i:Nat) (l:List Guest),(∀k∈a,hasB k (ln l)=true)->
 goL (fun _ k (t:List Guest) d=>bif inb k (ln t) then (cond (inb k (ln t)) (d (up t k (zk9 (ix t k zD) n))) none) else none) K a i l=K (zmR n a l)
 |[],_,_,_=>rfl
 |k::a,i,l,h=>by have c:inb k (ln l)=true:=h k (by simp);simp only[goL,c,cT];exact zXe n K a (i+1) (zHG n l k) (fun j b=>by rw[ln,zFT];exact h j (by simp[b]))
def zHH (b:Bare)(n:Int):Bare:=bif ieq (ln (zd7 b.Guests n)) 0 then {b with Pending:=zn8 b.Pending n} else {b with Guests:=zmR n (zd7 b.Guests n) b.Guests}
def ze6 (b:Bare)(n:Int):Bool:=bif zbS b then hasB n 8 else false
def zj8 (b:Bare)(n:Int):Bare:=bif ze6 b n then zHH b n else b
theorem zPt {b:Bare}{n:Int}:∀k∈zd7 b.Guests n,hasB k (ln b.Guests)=true:=fun k a=>by have:=zXs _ _ _ k a;exact qJ (by simp only[ln];omega)
theorem z4v {b:Bare}{n:Int}(h:ieq (ln (zd7 b.Guests n)) 0=true):zmR n (zd7 b.Guests n) b.Guests=b.Guests:=by have a:((zd7 b.Guests n).length:Int)=0:=qE h;have:zd7 b.Guests n=[]:=uS.1 (by omega);rw[this];rfl
theorem z4u {b:Bare}{n:Int}:(cond (ieq (ln (zd7 b.Guests n)) 0) (some [AV.agg (Ty.cells .bare ⟨b.Memory,zmR n (zd7 b.Guests n) b.Guests,b.Outs,zn8 b.Pending n⟩),AV.one (.b true)]) (some [AV.agg (Ty.cells .bare ⟨b.Memory,zmR n (zd7 b.Guests n) b.Guests,b.Outs,b.Pending⟩),AV.one (.b true)]))=some [AV.agg (Ty.cells .bare (zHH b n)),AV.one (.b true)]:=by unfold zHH;cases h:ieq (ln (zd7 b.Guests n)) 0;{rfl};{simp only [cT,z4v h]}
@[simp] abbrev zp1 (b:Bare)(n:Int):Bool:=pc (SmB b)
@[simp] abbrev zjr (b:Bare)(n:Int):Bare:=zj8 b n
@[simp] abbrev zl8 (b:Bare)(n:Int):Bool:=ze6 b n
def zrp:Run:=rF2 (dT .bare) dI fun b c=>(zp1 b c,[aT .bare (zjr b c),aB (zl8 b c)])
def zEE (N:Nat)(i:Bare)(e:Int):OA:=
 let b:=(zcu i); (oN (zfl i) (oN (zp0 b) (cond (nB (zeQ b)) (some [(aT .bare b),(aB false)]) (oN (zN e 0 7) (cond (nB (zQ e 0 7)) (some [(aT .bare b),(aB false)]) (oN (zwx b e) (iter (σ:=(Int×(Int×(Int×(Int×((List Int)×(lM×(lG×((List Int)×(lM×(lG×((List Int)×Unit)))))))))))) N (fun j a=>let h:=a.2.2.2.2.2.2.2.1;let d:=a.2.2.2.2.1;let c:=a.2.2.2.2.2.2.1;let f:=(ix d a.2.1 0);let g:=(ix c f zD); (cond (ilt a.2.1 (ln d)) (oN (inb a.2.1 (ln d)) (oN (inb a.2.1 (ln d)) (oN (inb f (ln c)) (oN (zk1 g.Pending a.1) (oN (inb f (ln c)) (j (a.1,((zM .i64 a.2.1 1),(a.2.2.1,(a.2.2.2.1,(d,(a.2.2.2.2.2.1,((up c f ({g with Pending:=(zhd g.Pending a.1)}:Guest)),(h,(a.2.2.2.2.2.2.2.2.1,(a.2.2.2.2.2.2.2.2.2.1,(a.2.2.2.2.2.2.2.2.2.2.1,()))))))))))))))))) (cond (ieq (ln d) 0) (oN (zk1 a.2.2.1 a.1) (some [(aT .bare (⟨a.2.2.2.2.2.1,c,h,(zhd a.2.2.1 a.1)⟩:Bare)),(aB true)])) (some [(aT .bare (⟨a.2.2.2.2.2.1,c,h,a.2.2.1⟩:Bare)),(aB true)])))) (e,(0,(b.Pending,(0,((zm4 b e),(b.Memory,(b.Guests,(b.Outs,([],([],([],()))))))))))))))))))
def zSJ:FuncId->Nat->Option Tmpl:=zq [(136,0,{n:=62,tm:=[(1,ti),(2,.lp 0 0),(4,.lp 1 0),(6,.sl 0 []),(7,ti)],lo:=[(0,[.sl 1 [],.sl 2 [],.sl 3 [],ti]),(1,[.sl 4 [],.sl 5 [],.sl 6 [],ti])],ro:=[(0,.int,true),(1,(.sl .int),true),(2,.guest,true),(3,.int,true),(4,(.sl .int),true),(5,.guest,true),(6,.int,true)]})]
theorem zRP (a:Bare)(c:Int)(l:zp1 a c=true):∃N,zEE N a c=some [aT .bare (zjr a c),aB (zl8 a c)]:=by
 have h:=zK.1 l;have j:(zd7 a.Guests c).length<=big:=qU (zB0 _ _ _) (zc2 h.2.1.1).1;refine zcp fun N g=>?_;unfold zEE zjr zl8 zj8 ze6 oN nB;conv=>zeta
 refine must (zY h) (must rfl (brN (fun e=>?_) (fun e=>must rfl (brN (fun d=>?_) (fun d=>must (zY h) ?_)))));{simp only [show zbS a=false from e,cF]};{simp only [show zbS a=true from e,show hasB c 8=false from by first|exact d|exact(z8n c).symm.trans d,cT,cF]};simp only[show zbS a=true from e,show hasB c 8=true from by first|exact d|exact(z8n c).symm.trans d,cT];refine(zbo (zm4 (zcu a) c) (fun i (t:lG)=>(c,(i:Int),(zcu a).Pending,0,(zm4 (zcu a) c),(zcu a).Memory,t,(zcu a).Outs,[],[],[],())) _ (fun _ k (t:List Guest) m=>bif inb k (ln t) then (cond (inb k (ln t)) (m (up t k (zk9 (ix t k zD) c))) none) else none) (fun (t:lG)=>(cond (ieq (ln (zm4 (zcu a) c)) 0) (cond (zk1 (zcu a).Pending c) (some [(.agg (Ty.cells .bare (⟨(zcu a).Memory,t,(zcu a).Outs,(zhd (zcu a).Pending c)⟩:Bare))),(.one (.b true))]) none) (some [(.agg (Ty.cells .bare (⟨(zcu a).Memory,t,(zcu a).Outs,(zcu a).Pending⟩:Bare))),(.one (.b true))]))) (fun i f t rec=>?_) (fun t rec=>?_) _ ((zcu a).Guests) (g j)).trans ?_;{simp only [zbG f,zbi f,zbp f,zbj f j,cT];rfl};{simp only [zbw,cF];rfl};exact(zXe c _ _ 0 _ zPt).trans z4u
theorem zvO:vM 136 zrp:=kF2 zWZ zx zy zn zSJ zRP
def z5E:zW:=[(75,zt2),(72,ztX),(107,zpM),(82,zoF),(81,zoz),(85,zoH),(84,zoB),(89,zoG),(88,zoA),(93,zt1),(92,ztW),(140,zt0),(136,zrp)]++zbbA
theorem zE9:zL z5E:=zh zxn (zh zxi (zh zuv (zh ztb (zh zs5 (zh ztd (zh zs7 (zh ztc (zh zs6 (zh zxm (zh zxh (zh zxl (zh zvO zWZ))))))))))))
theorem z8e {n:Int}(h:(ieq n 4||ieq n 8)=true):n=4\/n=8:=by rcases jW _ _ ▸ h with h|h;{exact .inl (qE h)};{exact .inr (qE h)}
theorem z7b {n:Int}(h:(ieq n 8||ieq n 12)=true):n=8\/n=12:=by rcases jW _ _ ▸ h with h|h;{exact .inl (qE h)};{exact .inr (qE h)}
@[simp] abbrev zjx (n:Int):Bool:=ieq n 4||ieq n 8
@[simp] abbrev zg4 (n:Int):List Slot:=List.replicate n.toNat ⟨-1,0⟩
def zru:Run:=rF1 dI fun b=>(zjx b,[aS .slot (zg4 b)])
def zWq (N:Nat)(b:Int):OA:=
 (oN (zsd b 0 24) (iter (σ:=(Int×(lS×Unit))) N (fun c a=>(cond (igt a.1 0) (oN zcx (oN (few (ln (ap a.2.1 [zbv]))) (c ((wsub .i64 a.1 1),((ap a.2.1 [zbv]),()))))) (some [(aS .slot a.2.1)]))) ((zts b 0 24),([],()))))
def zSN:FuncId->Nat->Option Tmpl:=zq [(194,0,{n:=17,tm:=[(3,.sl 0 []),(4,ti)],lo:=[],ro:=[(0,.slot,true)]})]
theorem zR1 (a:Int)(b:zjx a=true):∃N,zWq N a=some [aS .slot (zg4 a)]:=by refine⟨30,?_⟩;have h:a=4\/a=8:=z8e b;rcases h with rfl|rfl<;>(change _=_;kernel_rfl)
theorem zvR:vM 194 zru:=kF1 zE9 zx zy zn zSN zR1
@[simp] abbrev zqd (n:Int):Bool:=ieq n 8||ieq n 12
@[simp] abbrev zka (n:Int):List (List Int):=List.replicate n.toNat [0,0,0,0]
def zwj:Run:=rF1 dI fun b=>(zqd b,[aS (.sl .int) (zka b)])
def z2P (N:Nat)(b:Int):OA:=
 (oN (zsd b 0 24) (iter (σ:=(Int×(lM×Unit))) N (fun c a=>(cond (igt a.1 0) (oN (cond (few 4) (ieq 4 4) false) (oN (few (ln (ap a.2.1 [(rp 4 0)]))) (c ((wsub .i64 a.1 1),((ap a.2.1 [(rp 4 0)]),()))))) (some [(aS (.sl .int) a.2.1)]))) ((zts b 0 24),([],()))))
def zZL:FuncId->Nat->Option Tmpl:=zq [(94,0,{n:=17,tm:=[(3,.sl 0 []),(4,ti)],lo:=[],ro:=[(0,(.sl .int),true)]})]
theorem zXZ (a:Int)(b:zqd a=true):∃N,z2P N a=some [aS (.sl .int) (zka a)]:=by refine⟨30,?_⟩;have h:a=8\/a=12:=z7b b;rcases h with rfl|rfl<;>(change _=_;kernel_rfl)
theorem zz3:vM 94 zwj:=kF1 zE9 zx zy zn zZL zXZ
def z5F:zW:=[(194,zru),(94,zwj)]++z5E
theorem zTs:zL z5F:=zh zvR (zh zz3 zE9)
def zmo:List Slot:=List.replicate 4 ⟨-1,0⟩
def zeO (p:List Ins):Guest:=⟨p,0,0,zmo,zmo,⟨0,0,false⟩,0,⟨0,0,false,0⟩,false,[]⟩
@[simp] abbrev zjs (p:List Ins):Bool:=pc (p.length<=1048576)
@[simp] abbrev zcq (p:List Ins):Guest:=zeO p
def zmT:Run:=rF1 (dS .ins) fun b=>(zjs b,[aT .guest (zcq b)])
def zEH (N:Nat)(a:lI):OA:=
 (oN (few (ln (ap [] a))) (oN (zjx 4) (oN (zjx 4) (some [(aT .guest (⟨(ap [] a),0,0,(zg4 4),(zg4 4),⟨0,0,false⟩,0,⟨0,0,false,0⟩,false,[]⟩:Guest))]))))
theorem zRS (a:List Ins)(b:zjs a=true):∃N,zEH N a=some [aT .guest (zcq a)]:=by have c:=zK.1 b;refine⟨0,?_⟩;unfold zEH oN;refine mu (must rfl (must rfl ?_));first|rfl|(simp only [*,zcq,zeO,zmo,cT,cF]<;>rfl)|simp_all[Ty.cells,zcq,zeO,zmo]
theorem zoq:vM 195 zmT:=kF1 zTs zx zy zn (zq []) zRS
def zbec:zW:=[(195,zmT)]++z5F
theorem zFa:zL zbec:=zh zoq zTs
def zSi:List (List Int):=List.replicate 8 [0,0,0,0]
def SmPs (a:List (List Ins)):Prop:=a.length<=1048576/\∀p∈a,p.length<=1048576
theorem zTU {d c j:Type}(m:Nat)(f:d->c)(K:List c->Option j):∀(l:List d) (i:Nat) (a:List c),a.length+l.length<=2147483648->
 goL (fun (i:Nat) x a k=>bif ilt (i:Int) (m:Int) then (cond (few (ln (ap a [f x]))) (k (ap a [f x])) none) else K a) K l i a=K (a++(l.take (m-i)).map f)
 |[],i,a,_=>by simp[goL]
 |x::l,i,a,g=>by simp only[q0]at g;have e:few (ln (ap a [f x]))=true:=zhA (by simp[ap];omega);by_cases h:i<m;{have b:ilt (i:Int) (m:Int)=true:=qJ (by omega);simp only[goL,b,e,cT];rw[zTU m f K l (i+1) (ap a [f x]) (by simp[ap];omega)];rw[show m-i=m-(i+1)+1 by omega];simp[ap]};{have b:ilt (i:Int) (m:Int)=false:=qM (by omega);simp only[goL,b,cF];rw[show m-i=0 by omega];simp}
@[simp] abbrev zGH (a:GAct):Bool:=true
@[simp] abbrev zAZ (a:GAct):Bool:=win a.Kind 1 17
def zJ1:Run:=rF1 (dT .act) fun b=>(zGH b,[aB (zAZ b)])
def zS4 (N:Nat)(a:GAct):OA:=
 (oN (zN a.Kind 1 17) (some [(aB (zQ a.Kind 1 17))]))
theorem z0E (a:GAct)(b:zGH a=true):∃N,zS4 N a=some [aB (zAZ a)]:=by refine⟨0,?_⟩;unfold zS4 oN;refine must rfl ?_;first|rfl|(simp only [*,zAZ,cT,cF]<;>rfl)|simp_all[Ty.cells,zAZ]
theorem zUw:vM 323 zJ1:=kF1 zFa zx zy zn (zq []) z0E
@[simp] abbrev zzi (k:Int):Bool:=true
@[simp] abbrev ztx (k:Int):Bool:=win k 13 17
def zDH:Run:=rF1 dI fun b=>(zzi b,[aB (ztx b)])
def zJg (N:Nat)(a:Int):OA:=
 (oN (zN a 13 17) (some [(aB (zQ a 13 17))]))
theorem zVi (a:Int)(b:zzi a=true):∃N,zJg N a=some [aB (ztx a)]:=by refine⟨0,?_⟩;unfold zJg oN;refine must rfl ?_;first|rfl|(simp only [*,ztx,cT,cF]<;>rfl)|simp_all[Ty.cells,ztx]
theorem zOg:vM 324 zDH:=kF1 zFa zx zy zn (zq []) zVi
@[simp] abbrev zGI (a:GAct):Bool:=true
@[simp] abbrev zry (a:GAct):Ctl:=⟨a.X,a.Y,ieq a.Z 1⟩
def zJ2:Run:=rF1 (dT .act) fun b=>(zGI b,[.agg (zk8 (zry b))])
def zS5 (N:Nat)(a:GAct):OA:=
 (some [(.agg [(.i .i64 a.X),(.i .i64 a.Y),(.b (ieq a.Z 1))])])
theorem z0F (a:GAct)(b:zGI a=true):∃N,zS5 N a=some [.agg (zk8 (zry a))]:=by refine⟨0,?_⟩;unfold zS5;first|rfl|(simp only [*,zry,cT,cF]<;>rfl)|simp_all[Ty.cells,zry]
theorem zUx:vM 327 zJ2:=kF1 zFa zx zy zn (zq []) z0F
def zWS:zW:=[(75,zt2),(72,ztX),(107,zpM),(82,zoF),(81,zoz),(85,zoH),(84,zoB),(89,zoG),(88,zoA),(93,zt1),(92,ztW),(140,zt0),(136,zrp),(94,zwj)]++zbbv
theorem zFc:zL zWS:=zh zxn (zh zxi (zh zuv (zh ztb (zh zs5 (zh ztd (zh zs7 (zh ztc (zh zs6 (zh zxm (zh zxh (zh zxl (zh zvO (zh zz3 z9d)))))))))))))
def zcX (x:Mon):Bare:=⟨zSi,x.Guests,x.Outs,x.Pending⟩
def zuH (x:Mon)(b:Bare):Mon:={x with Guests:=b.Guests,Pending:=b.Pending}
def zcA (h:Host)(m:Int)(b:Bare):Host:={h with Mons:=up h.Mons m (zuH (ix h.Mons m mZ) b)}
@[simp] abbrev zeF (x:Mon):Bool:=pc (zfp x)
@[simp] abbrev zbP (x:Mon):Bare:=zcX x
def zDW:Run:=rF1 (dT .mon) fun b=>(zeF b,[aT .bare (zbP b)])
def zJv (N:Nat)(a:Mon):OA:=
 (oN (zqd 8) (oN (zfX a.Guests) (oN (few (ln (ap [] a.Outs))) (some [(aT .bare (⟨(zka 8),(zgn a.Guests),(ap [] a.Outs),a.Pending⟩:Bare))]))))
theorem zVD (a:Mon)(c:zeF a=true):∃N,zJv N a=some [aT .bare (zbP a)]:=by have b:=zK.1 c;refine⟨0,?_⟩;unfold zJv oN;exact must rfl (must (zY ((zw7 _).2 b.2.2.2.1)) (must (zo0 b.2.2.2.2.1) rfl))
theorem zOJ:vM 76 zDW:=kF1 zFc zx zb2 zjH (zq []) zVD
@[simp] abbrev zeE (h:Host)(m:Int)(b:Bare):Bool:=pc (hasB m (ln h.Mons)=true/\zlB b.Guests)
@[simp] abbrev zhj (h:Host)(m:Int)(b:Bare):Host:=zcA h m b
theorem z8k {l:List Mon}{m:Int}(a:hasB m (ln l)=true)(b:Bare):inb m (ln (up l m {ix l m mZ with Guests:=b.Guests}))=true/\
 up (up l m {ix l m mZ with Guests:=b.Guests}) m {ix (up l m {ix l m mZ with Guests:=b.Guests}) m mZ with Pending:=b.Pending}=up l m (zuH (ix l m mZ) b):=by
 obtain⟨k,rfl,c⟩:=zdK (n:=l.length) a;refine⟨zI (by rw[ln,zgX];exact a),?_⟩
 rw[zyG,zdR c];rfl
def zug:List AV->Option (Bool×List AV)
 |[.agg [.s (.sl .int) b,.s .mon c,.s .entry d,.s .entry e],.one (.i .i64 f),.agg [.s (.sl .int) g,.s .guest h,.s .int j,.i .i64 k]]=>some ((zeE (⟨b,c,d,e⟩:Host) f (⟨g,h,j,k⟩:Bare)),[aH (zhj (⟨b,c,d,e⟩:Host) f (⟨g,h,j,k⟩:Bare))])
 |_=>none
def zyT (N:Nat)(b:Host)(a:Int)(c:Bare):OA:=
 (oN (zfX c.Guests) (oN (inb a (ln b.Mons)) (share (up b.Mons a ({ (ix b.Mons a zi) with Guests:=(zgn c.Guests)}:Mon)) (fun d=>(oN (inb a (ln d)) (share (up d a ({ (ix d a zi) with Pending:=c.Pending}:Mon)) (fun e=>(some [(aH ({b with Mons:=e}:Host))]))))))))
theorem zYy (N:Nat)(a:Host)(b:Int)(c:Bare):z3y (cQ zWS zrd z4t tctN) (zq []) N 12 77 [true,true,true,true,false,false,false,false,false] [aH a,aI b,aT .bare c]=zyT N a b c:=by kernel_rfl
theorem zVC (b:Host)(c:Int)(a:Bare)(i:zci big [aH b,aI c,aT .bare a])(h:zeE b c a=true):∃N,zyT N b c a=some [aH (zhj b c a)]:=by obtain⟨d,hg⟩:=zK.1 h;obtain⟨f,g⟩:=z8k d a;refine⟨0,?_⟩;unfold zyT oN;refine must (zY ((zw7 _).2 hg)) (must (zI d) (shr (must f (shr ?_))));have e:zgn a.Guests=a.Guests:=rfl;rw[e];show some [AV.agg (zbf {b with Mons:=_})]=some [AV.agg (zbf {b with Mons:=_})];rw[show zi=mZ from rfl,g]
theorem zOI:zd4 Tryz.prog 77 [true,true,true,true,false,false,false,false,false] none zug:=by refine zQA (zgF zFc zx zb2 zjH) (zjU (by kernel_rfl)) (by kernel_rfl) ?_;intro a g f e h;have c:=zjd e;unfold zug at h;split at h;{obtain⟨d,rfl⟩:=zea h;obtain⟨N,b⟩:=zVC _ _ _ (by exact c) d;exact⟨_,N,12,(zYy N _ _ _ ).trans b⟩};{cases h}
def z5M:zW:=[(76,zDW)]++zWS
theorem zeT:zL z5M:=zh zOJ zFc
def zbff:zfY:=[(77,([true,true,true,true,false,false,false,false,false],none,zug))]++tctN
theorem zcF:zep zbff:=zrJ zjH (by
 intro x a;simp only[qG,qN,or_false]at a;rcases a with rfl
 .exact zOI)
def zbcd (h:Host)(m:Int)(c:Bool)(B:Bare)(ok:Bool)(a b:Host->Ans):OA:=
 bif zgs h then (cond (zie h) (cond (cond (ziU h) false true) (some (a h)) (cond (zdB m (ln h.Mons)) (cond (cond (zd1 m (ln h.Mons)) false true) (some (a h)) (cond (zii h m) (cond c (cond ok (cond (zdz B.Guests) (cond (inb m (ln h.Mons)) (share (up h.Mons m {ix h.Mons m mZ with Guests:=B.Guests}) fun x=>(cond (inb m (ln x)) (share (up x m {ix x m mZ with Pending:=B.Pending}) fun y=>some (b {h with Mons:=y})) none)) none) none) (some (b h))) none) none)) none)) none) else none
def zbci (h:Host)(m:Int)(a:Bool)(B:Bare)(b c:Host->Ans):OA:=
 bif zbV h then (cond (zfL h m) (cond (cond (zfK h m) false true) (some (b h)) (cond (inb m (ln h.Mons)) (cond (zeF (ix h.Mons m mZ)) (cond a (cond (zeE h m B) (some (c (zcA h m B))) none) none) none) none)) none) else none
theorem zbq {h:Host}{m:Int}:(zcb h m=true)↔zb1 h=true/\hasB m (ln h.Mons)=true:=by unfold zcb;cases zb1 h<;>simp
theorem zwc {h:Host}{m:Int}{cB:Bool}{B:Bare}{ok:Bool}{o0 o1:Host->Ans}(l:SmH h)(k:zcb h m=true->cB=true)(j:zcb h m=true->SmB B)(c:zcb h m=true->ok=false->zcA h m B=h) :
 zbcd h m cB B ok o0 o1=some (cond (zcb h m) (o1 (zcA h m B)) (o0 h)):=by
 have i:zcc h:=(zT h).2 l;unfold zbcd;refine must (zY i) (must rfl ?_);rw[show ziU h=zb1 h from rfl]
 have g:zb1 h=true->hasB m (ln h.Mons)=true->cB=true:=fun a b=>k (zbq.2 ⟨a,b⟩);have f:zb1 h=true->hasB m (ln h.Mons)=true->SmB B:=fun a b=>j (zbq.2 ⟨a,b⟩);unfold zcb at c ⊢;cases e:zb1 h
 .rfl
 .refine zdH rfl (must rfl ?_);rw[show zd1 m (ln h.Mons)=hasB m (ln h.Mons) from rfl]
  rw[e]at c;cases d:hasB m (ln h.Mons)
  .rfl
  .rw [d]at c;refine zdH rfl (must (zbJ i) (must (g e d) ?_));cases ok
   .simp only [cT,cF,c rfl rfl]
   .obtain⟨e1,e2⟩:=z8k d B;refine must rfl (must (zY (f e d).2.1) (must (zI d) (shr (must e1 (shr ?_)))))
    show some (o1 {h with Mons:=_})=_
    rw[e2];rfl
theorem zoY {h:Host}{m:Int}{cB:Bool}{B:Bare}{o0 o1:Host->Ans}(c:SmH h)(e:zcb h m=true->cB=true)(d:zcb h m=true->SmB B):zbci h m cB B o0 o1=some (cond (zcb h m) (o1 (zcA h m B)) (o0 h)):=by unfold zbci;refine must (zY ((zT h).2 c)) (must rfl ?_);rw[show zfK h m=zcb h m from rfl];cases a:zcb h m;{rfl};{have b:=(zbq.1 a).2;exact zdH rfl (must (zI b) (must (zY (c.2.1.2 _ (zbA b _))) (must (e a) (must (zY ⟨b,(d a).2.1⟩) rfl))))}
structure SameB (b c:Bare):Prop where
 g:b.Guests=c.Guests
 p:b.Pending=c.Pending
 o:zbS b=zbS c
theorem SameB.at {b c:Bare}(h:SameB b c)(g:Int):gAt b g=gAt c g:=by unfold gAt;rw[h.g]
theorem SameB.has {b c:Bare}(h:SameB b c)(g:Int):zbT b g=zbT c g:=by unfold zbT;rw[h.g,h.o]
theorem back_eq {h:Host}{m:Int}{b c:Bare}(hg:b.Guests=c.Guests)(a:b.Pending=c.Pending):zcA h m b=zcA h m c:=by unfold zcA zuH;rw[hg,a]
theorem zqU {b c:Bare}(a:SameB b c)(h:Host)(m g:Int)(k:Bool)(x:Guest):zcA h m (chg b g k x)=zcA h m (chg c g k x):=by unfold chg;rw[a.has];cases (cond (zbT c g) k false);{exact back_eq a.g a.p};{exact back_eq (by simp only[cT,zdZ,a.g]) a.p}
theorem zmw {b c:Bare}(a:SameB b c)(g:Int)(k:Bool):zbE b g k=zbE c g k:=by unfold zbE;rw[a.has]
theorem zsQ {h:Host}{m:Int}(a:hasB m (ln h.Mons)=true):zcA h m (zB h m)=h:=by unfold zcA zuH zB;rw[a,cT];simp only;rw[zZ1 a]
theorem zjM {h:Host}{m:Int}(b:zcb h m=true)(d:zbS (zcX (ix h.Mons m mZ))=true):SameB (zcX (ix h.Mons m mZ)) (zB h m):=by obtain⟨c,a⟩:=zbq.1 b;refine⟨?_,?_,d.trans (zJx c a).symm⟩<;>unfold zB zcX<;>rw [a]<;>rfl
theorem zbdh:zhP zSi 8=true:=by decide
theorem zpe {h:Host}{m:Int}(b:zcb h m=true):zbS (zcX (ix h.Mons m mZ))=true:=by obtain⟨c,a⟩:=zbq.1 b;have:=zJx c a;unfold zB at this;rw[a,cT] at this;unfold zbS at this ⊢;simp only[zcX,zbdh] at *;simp_all
theorem zeR {x:Mon}(h:zfp x):SmB (zcX x):=⟨show SmM zSi from ⟨by decide,by decide⟩,h.2.2.2.1,h.2.2.2.2.1⟩
theorem zvD {b:Bare}{g:Int}{k:Bool}{x:Guest}(h:zbE b g k=false):chg b g k x=b:=by unfold chg;unfold zbE at h;rw[h];rfl
def zdi (h:Host)(m:Int)(b:Bare):Host:=bif zcb h m then zcA h m b else h
def zc4 (h:Host)(m:Int)(ok:Bool):Bool:=bif zcb h m then ok else false
@[simp] abbrev zhb (b:Bare)(g p:Int)(s:Slot):Bare:=chg b g (znn p s) (zrF (gAt b g) p s)
@[simp] abbrev ziZ (b:Bare)(g p:Int)(s:Slot):Bool:=zbE b g (znn p s)
@[simp] abbrev ze2 (b:Bare)(g v:Int):Bare:=chg b g (znk (gAt b g) v) (zqT (gAt b g) v)
@[simp] abbrev zf3 (b:Bare)(g v:Int):Bool:=zbE b g (znk (gAt b g) v)
@[simp] abbrev ze4 (b:Bare)(g:Int):Bare:=chg b g (zpJ (gAt b g)) (zrn (gAt b g))
@[simp] abbrev zf5 (b:Bare)(g:Int):Bool:=zbE b g (zpJ (gAt b g))
@[simp] abbrev ze3 (b:Bare)(g n:Int):Bare:=chg b g (zeq (gAt b g).Pending n) (zk9 (gAt b g) n)
@[simp] abbrev zf4 (b:Bare)(g n:Int):Bool:=zbE b g (zeq (gAt b g).Pending n)
@[simp] abbrev zha (b:Bare)(g:Int)(c:Ctl):Bare:=chg b g (zgE c) (zyY (gAt b g) c)
@[simp] abbrev ziY (b:Bare)(g:Int)(c:Ctl):Bool:=zbE b g (zgE c)
@[simp] abbrev znC (b:Bare):Bare:=zni b
@[simp] abbrev zr4 (b:Bare):Int:=ztN b
@[simp] abbrev zr5 (b:Bare):Bool:=zms b
@[simp] abbrev zl0 (b:Bare)(n:Int):Bare:=zj8 b n
@[simp] abbrev zpE (b:Bare)(n:Int):Bool:=ze6 b n
@[simp] abbrev z00 (h:Host)(m:Int)(g p:Int)(s:Slot):Host:=zdi h m (zhb (zB h m) g p s)
@[simp] abbrev z01 (h:Host)(m:Int)(g p:Int)(s:Slot):Bool:=zc4 h m (ziZ (zB h m) g p s)
@[simp] abbrev zSa (h:Host)(m:Int)(g v:Int):Host:=zdi h m (ze2 (zB h m) g v)
@[simp] abbrev zSb (h:Host)(m:Int)(g v:Int):Bool:=zc4 h m (zf3 (zB h m) g v)
@[simp] abbrev zSe (h:Host)(m:Int)(g:Int):Host:=zdi h m (ze4 (zB h m) g)
@[simp] abbrev zSf (h:Host)(m:Int)(g:Int):Bool:=zc4 h m (zf5 (zB h m) g)
@[simp] abbrev zSc (h:Host)(m:Int)(g n:Int):Host:=zdi h m (ze3 (zB h m) g n)
@[simp] abbrev zSd (h:Host)(m:Int)(g n:Int):Bool:=zc4 h m (zf4 (zB h m) g n)
@[simp] abbrev z0Y (h:Host)(m:Int)(g:Int)(x:Ctl):Host:=zdi h m (zha (zB h m) g x)
@[simp] abbrev z0Z (h:Host)(m:Int)(g:Int)(x:Ctl):Bool:=zc4 h m (ziY (zB h m) g x)
@[simp] abbrev zYp (h:Host)(m:Int)(n:Int):Host:=zdi h m (zl0 (zB h m) n)
@[simp] abbrev zYq (h:Host)(m:Int)(n:Int):Bool:=zc4 h m (zpE (zB h m) n)
@[simp] abbrev z0V (h:Host)(m:Int):Host:=zdi h m (znC (zB h m))
@[simp] abbrev z0W (h:Host)(m:Int):Int:=bif zcb h m then zr4 (zB h m) else -1
@[simp] abbrev z0X (h:Host)(m:Int):Bool:=zc4 h m (zr5 (zB h m))
@[simp] abbrev zVE (h:Host)(m g p:Int):Bool:=zc4 h m (zbE (zB h m) g (hasB p 4))
theorem z7x {b c:Bare}(a:SameB b c)(n:Int):(zj8 b n).Guests=(zj8 c n).Guests/\(zj8 b n).Pending=(zj8 c n).Pending/\ze6 b n=ze6 c n:=by have e:ze6 b n=ze6 c n:=(by unfold ze6;rw[a.o]);unfold zj8;rw[e];cases ze6 c n;{exact⟨a.g,a.p,rfl⟩};{unfold zHH;rw[a.g];cases ieq (ln (zd7 c.Guests n)) 0;{exact⟨by simp only[cT,cF],by simp only[cT,cF,a.p],rfl⟩};{exact⟨by simp only[cT,a.g],by simp only[cT,a.p],rfl⟩}}
theorem z8q {b c:Bare}(a:SameB b c):(zni b).Guests=(zni c).Guests/\(zni b).Pending=(zni c).Pending/\ztN b=ztN c/\zms b=zms c:=by unfold zni ztN zms;rw[a.o,a.p];cases zbS c;{exact⟨a.g,a.p,rfl,rfl⟩};{exact⟨a.g,rfl,rfl,rfl⟩}
theorem z7W {b:Bare}{n:Int}(h:SmB b):SmB (zj8 b n):=by unfold zj8;cases ze6 b n;{exact h};{unfold zHH;cases ieq (ln (zd7 b.Guests n)) 0;{exact⟨h.1,(zG1 _ zPt h.2.1).1,h.2.2⟩};{exact h}}
theorem zbag {b:Bare}(h:SmB b):SmB (zni b):=by unfold zni;cases zbS b;{exact h};{exact h}
theorem zvd {H a:Host}{x y:Bool}(c:H=a)(d:x=y):some [AV.agg (zbf H),AV.one (.b x)]=some [AV.agg (zbf a),AV.one (.b y)]:=by rw[c,d]
theorem zbcy {H a:Host}{n k:Int}{x y:Bool}(c:H=a)(d:n=k)(e:x=y):some [AV.agg (zbf H),AV.one (.i .i64 n),AV.one (.b x)]=some [AV.agg (zbf a),AV.one (.i .i64 k),AV.one (.b y)]:=by rw[c,d,e]
theorem zHN {b:Bare}(g p:Int)(s:Slot)(a:SmB b):SmB (zhb b g p s):=zrH a (zZl _ _ (zgC _ a))
theorem z9Q {b:Bare}(g p:Int)(s:Slot)(a:ziZ b g p s=false):zhb b g p s=b:=zvD a
theorem zbac {b c:Bare}(a:SameB b c)(h:Host)(m:Int)(g p:Int)(s:Slot):zcA h m (zhb b g p s)=zcA h m (zhb c g p s)/\ziZ b g p s=ziZ c g p s:=by have e:=a.at g;simp only[zhb,ziZ,e];exact⟨zqU a _ _ _ _ _,zmw a _ _⟩
@[simp] abbrev zso (h:Host)(m:Int)(g p:Int)(s:Slot):Bool:=pc (zcc h)
@[simp] abbrev znP (h:Host)(m:Int)(g p:Int)(s:Slot):Host:=zdi h m (zhb (zB h m) g p s)
@[simp] abbrev znQ (h:Host)(m:Int)(g p:Int)(s:Slot):Bool:=zc4 h m (ziZ (zB h m) g p s)
def zt8:Run:=rF5 dH dI dI dI (dT .slot) fun b c d e f=>(zso b c d e f,[aH (znP b c d e f),aB (znQ b c d e f)])
def zJf (N:Nat)(g:Host)(b d e:Int)(f:Slot):OA:=
 let a:=(zu g);let c:=(ix a.Mons b zi); (oN (zbV g) (oN (zfL a b) (cond (nB (zfK a b)) (some [(aH a),(aB false)]) (oN (inb b (ln a.Mons)) (oN (zeF c) (oN (zsc (zbP c) d e f) (oN (zeE a b (zi2 (zbP c) d e f)) (some [(aH (zhj a b (zi2 (zbP c) d e f))),(aB (zkZ (zbP c) d e f))]))))))))
theorem zVh (a:Host)(c d e:Int)(f:Slot)(n:zso a c d e f=true):∃N,zJf N a c d e f=some [aH (znP a c d e f),aB (znQ a c d e f)]:=by
 have i:=(zT a).1 (zK.1 n);refine⟨0,?_⟩;have j:=zoY (h:=a) (m:=c) (cB:=zsc (zcX (ix a.Mons c mZ)) d e f) (B:=zi2 (zcX (ix a.Mons c mZ)) d e f) (o0:=fun H=>[.agg (zbf H),.one (.b false)]) (o1:=fun H=>[.agg (zbf H),.one (.b (zkZ (zcX (ix a.Mons c mZ)) d e f))]) i
  (fun g=>zY (zeR (i.2.1.2 _ (zbA (zbq.1 g).2 _)))) (fun g=>zHN _ _ _ (zeR (i.2.1.2 _ (zbA (zbq.1 g).2 _))))
 refine(show zJf 0 a c d e f=_ from j).trans ?_;unfold znP znQ zdi zc4;cases g:zcb a c;{rfl};{obtain⟨k,l⟩:=zbac (zjM g (zpe g)) a c d e f;simp only[cT];exact zvd k l}
theorem zxt:vM 10 zt8:=kF5 zeT zx zb2 zcF (zq []) zVh
@[simp] abbrev zr0 (h:Host)(m:Int)(g p:Int)(s:Slot):Bool:=pc (zcc h)
@[simp] abbrev ziV (h:Host)(m:Int)(g p:Int)(s:Slot):Host:=zdi h m (zhb (zB h m) g p s)
@[simp] abbrev zkQ (h:Host)(m:Int)(g p:Int)(s:Slot):Bool:=zc4 h m (ziZ (zB h m) g p s)
def ztZ:Run:=rF5 dH dI dI dI (dT .slot) fun b c d e f=>(zr0 b c d e f,[aH (ziV b c d e f),aB (zkQ b c d e f)])
def zIT (N:Nat)(b:Host)(a d e:Int)(f:Slot):OA:=
 let c:=(zj3 b);let h:=(zlT b a);let j:=(zkO h d e f);let i:=(ziT h d e f); (oN (zgs b) (oN (zie b) (cond (nB (ziU b)) (some [(aH c),(aB false)]) (oN (zdB a (ln b.Mons)) (cond (nB (zd1 a (ln b.Mons))) (some [(aH c),(aB false)]) (oN (zii b a) (oN (zrY h d e f) (cond i (oN (zdz j.Guests) (oN (inb a (ln c.Mons)) (share (up c.Mons a ({ (ix c.Mons a zi) with Guests:=(zd6 j.Guests)}:Mon)) (fun g=>(oN (inb a (ln g)) (share (up g a ({ (ix g a zi) with Pending:=j.Pending}:Mon)) (fun k=>(some [(aH ({c with Mons:=k}:Host)),(aB i)])))))))) (some [(aH c),(aB i)])))))))))
theorem zUV (a:Host)(c d e:Int)(f:Slot)(k:zr0 a c d e f=true):∃N,zIT N a c d e f=some [aH (ziV a c d e f),aB (zkQ a c d e f)]:=by
 have i:=(zT a).1 (zK.1 k);refine⟨0,?_⟩;have j:=zwc (h:=a) (m:=c) (cB:=zrY (zB a c) d e f) (B:=zkO (zB a c) d e f) (ok:=ziT (zB a c) d e f) (o0:=fun H=>[.agg (zbf H),.one (.b false)]) (o1:=fun H=>[.agg (zbf H),.one (.b (ziT (zB a c) d e f))]) i
  (fun g=>zY (zfM i (zbq.1 g).2)) (fun g=>zHN _ _ _ (zfM i (zbq.1 g).2)) (fun g l=>(congrArg (zcA a c) (z9Q _ _ _ l)).trans (zsQ (zbq.1 g).2))
 refine(show zIT 0 a c d e f=_ from j).trans ?_;unfold ziV zkQ zdi zc4;cases zcb a c<;>rfl
theorem zxk:vM 9 ztZ:=kF5 zeT zx zb2 zcF (zq []) zUV
theorem zCG {b:Bare}(g v:Int)(a:SmB b):SmB (ze2 b g v):=zrH a (zbah _ (zgC _ a))
theorem z03 {b:Bare}(g v:Int)(a:zf3 b g v=false):ze2 b g v=b:=zvD a
theorem z1x {b c:Bare}(a:SameB b c)(h:Host)(m:Int)(g v:Int):zcA h m (ze2 b g v)=zcA h m (ze2 c g v)/\zf3 b g v=zf3 c g v:=by have e:=a.at g;simp only[ze2,zf3,e];exact⟨zqU a _ _ _ _ _,zmw a _ _⟩
@[simp] abbrev zm0 (h:Host)(m:Int)(g v:Int):Bool:=pc (zcc h)
@[simp] abbrev zhs (h:Host)(m:Int)(g v:Int):Host:=zdi h m (ze2 (zB h m) g v)
@[simp] abbrev zjt (h:Host)(m:Int)(g v:Int):Bool:=zc4 h m (zf3 (zB h m) g v)
def zoI:Run:=rF4 dH dI dI dI fun b c d e=>(zm0 b c d e,[aH (zhs b c d e),aB (zjt b c d e)])
def zzN (N:Nat)(f:Host)(b d e:Int):OA:=
 let a:=(zu f);let c:=(ix a.Mons b zi); (oN (zbV f) (oN (zfL a b) (cond (nB (zfK a b)) (some [(aH a),(aB false)]) (oN (inb b (ln a.Mons)) (oN (zeF c) (oN (zmU (zbP c) d e) (oN (zeE a b (zf7 (zbP c) d e)) (some [(aH (zhj a b (zf7 (zbP c) d e))),(aB (zhp (zbP c) d e))]))))))))
theorem zL3 (a:Host)(c d e:Int)(l:zm0 a c d e=true):∃N,zzN N a c d e=some [aH (zhs a c d e),aB (zjt a c d e)]:=by
 have g:=(zT a).1 (zK.1 l);refine⟨0,?_⟩;have i:=zoY (h:=a) (m:=c) (cB:=zmU (zcX (ix a.Mons c mZ)) d e) (B:=zf7 (zcX (ix a.Mons c mZ)) d e) (o0:=fun H=>[.agg (zbf H),.one (.b false)]) (o1:=fun H=>[.agg (zbf H),.one (.b (zhp (zcX (ix a.Mons c mZ)) d e))]) g
  (fun f=>zY (zeR (g.2.1.2 _ (zbA (zbq.1 f).2 _)))) (fun f=>zCG _ _ (zeR (g.2.1.2 _ (zbA (zbq.1 f).2 _))))
 refine(show zzN 0 a c d e=_ from i).trans ?_;unfold zhs zjt zdi zc4;cases f:zcb a c;{rfl};{obtain⟨j,k⟩:=z1x (zjM f (zpe f)) a c d e;simp only[cT];exact zvd j k}
theorem zte:vM 13 zoI:=kF4 zeT zx zb2 zcF (zq []) zL3
@[simp] abbrev zq5 (h:Host)(m:Int)(g v:Int):Bool:=pc (zcc h)
@[simp] abbrev zji (h:Host)(m:Int)(g v:Int):Host:=zdi h m (ze2 (zB h m) g v)
@[simp] abbrev zmG (h:Host)(m:Int)(g v:Int):Bool:=zc4 h m (zf3 (zB h m) g v)
def zoC:Run:=rF4 dH dI dI dI fun b c d e=>(zq5 b c d e,[aH (zji b c d e),aB (zmG b c d e)])
def zzC (N:Nat)(b:Host)(a c d:Int):OA:=
 let f:=(zj3 b);let e:=(zlT b a); (oN (zgs b) (oN (zie b) (cond (nB (ziU b)) (some [(aH f),(aB false)]) (oN (zdB a (ln b.Mons)) (cond (nB (zd1 a (ln b.Mons))) (some [(aH f),(aB false)]) (oN (zii b a) (oN (zmC e c d) (cond (zeh e c d) (oN (zdz (zeU e c d).Guests) (oN (inb a (ln f.Mons)) (share (up f.Mons a ({ (ix f.Mons a zi) with Guests:=(zd6 (zeU e c d).Guests)}:Mon)) (fun g=>(oN (inb a (ln g)) (share (up g a ({ (ix g a zi) with Pending:=(zeU e c d).Pending}:Mon)) (fun h=>(some [(aH ({f with Mons:=h}:Host)),(aB (zeh e c d))])))))))) (some [(aH f),(aB (zeh e c d))])))))))))
theorem zLR (a:Host)(c d e:Int)(j:zq5 a c d e=true):∃N,zzC N a c d e=some [aH (zji a c d e),aB (zmG a c d e)]:=by
 have g:=(zT a).1 (zK.1 j);refine⟨0,?_⟩;have i:=zwc (h:=a) (m:=c) (cB:=zmC (zB a c) d e) (B:=zeU (zB a c) d e) (ok:=zeh (zB a c) d e) (o0:=fun H=>[.agg (zbf H),.one (.b false)]) (o1:=fun H=>[.agg (zbf H),.one (.b (zeh (zB a c) d e))]) g
  (fun f=>zY (zfM g (zbq.1 f).2)) (fun f=>zCG _ _ (zfM g (zbq.1 f).2)) (fun f k=>(congrArg (zcA a c) (z03 _ _ k)).trans (zsQ (zbq.1 f).2))
 refine(show zzC 0 a c d e=_ from i).trans ?_;unfold zji zmG zdi zc4;cases zcb a c<;>rfl
theorem zs8:vM 12 zoC:=kF4 zeT zx zb2 zcF (zq []) zLR
theorem zCI {b:Bare}(g:Int)(a:SmB b):SmB (ze4 b g):=zrH a (zbai (zgC _ a))
theorem z05 {b:Bare}(g:Int)(a:zf5 b g=false):ze4 b g=b:=zvD a
theorem z1z {b c:Bare}(a:SameB b c)(h:Host)(m:Int)(g:Int):zcA h m (ze4 b g)=zcA h m (ze4 c g)/\zf5 b g=zf5 c g:=by have e:=a.at g;simp only[ze4,zf5,e];exact⟨zqU a _ _ _ _ _,zmw a _ _⟩
@[simp] abbrev zm2 (h:Host)(m:Int)(g:Int):Bool:=pc (zcc h)
@[simp] abbrev zhu (h:Host)(m:Int)(g:Int):Host:=zdi h m (ze4 (zB h m) g)
@[simp] abbrev zjv (h:Host)(m:Int)(g:Int):Bool:=zc4 h m (zf5 (zB h m) g)
def zoK:Run:=rF3 dH dI dI fun b c d=>(zm2 b c d,[aH (zhu b c d),aB (zjv b c d)])
def zzP (N:Nat)(e:Host)(b d:Int):OA:=
 let a:=(zu e);let c:=(ix a.Mons b zi); (oN (zbV e) (oN (zfL a b) (cond (nB (zfK a b)) (some [(aH a),(aB false)]) (oN (inb b (ln a.Mons)) (oN (zeF c) (oN (zmW (zbP c) d) (oN (zeE a b (zf9 (zbP c) d)) (some [(aH (zhj a b (zf9 (zbP c) d))),(aB (zhr (zbP c) d))]))))))))
theorem zL5 (a:Host)(c d:Int)(k:zm2 a c d=true):∃N,zzP N a c d=some [aH (zhu a c d),aB (zjv a c d)]:=by
 have f:=(zT a).1 (zK.1 k);refine⟨0,?_⟩;have g:=zoY (h:=a) (m:=c) (cB:=zmW (zcX (ix a.Mons c mZ)) d) (B:=zf9 (zcX (ix a.Mons c mZ)) d) (o0:=fun H=>[.agg (zbf H),.one (.b false)]) (o1:=fun H=>[.agg (zbf H),.one (.b (zhr (zcX (ix a.Mons c mZ)) d))]) f
  (fun e=>zY (zeR (f.2.1.2 _ (zbA (zbq.1 e).2 _)))) (fun e=>zCI _ (zeR (f.2.1.2 _ (zbA (zbq.1 e).2 _))))
 refine(show zzP 0 a c d=_ from g).trans ?_;unfold zhu zjv zdi zc4;cases e:zcb a c;{rfl};{obtain⟨i,j⟩:=z1z (zjM e (zpe e)) a c d;simp only[cT];exact zvd i j}
theorem ztg:vM 16 zoK:=kF3 zeT zx zb2 zcF (zq []) zL5
@[simp] abbrev zq7 (h:Host)(m:Int)(g:Int):Bool:=pc (zcc h)
@[simp] abbrev zjk (h:Host)(m:Int)(g:Int):Host:=zdi h m (ze4 (zB h m) g)
@[simp] abbrev zmI (h:Host)(m:Int)(g:Int):Bool:=zc4 h m (zf5 (zB h m) g)
def zoE:Run:=rF3 dH dI dI fun b c d=>(zq7 b c d,[aH (zjk b c d),aB (zmI b c d)])
def zzE (N:Nat)(b:Host)(a c:Int):OA:=
 let e:=(zj3 b);let d:=(zlT b a); (oN (zgs b) (oN (zie b) (cond (nB (ziU b)) (some [(aH e),(aB false)]) (oN (zdB a (ln b.Mons)) (cond (nB (zd1 a (ln b.Mons))) (some [(aH e),(aB false)]) (oN (zii b a) (oN (zmE d c) (cond (zej d c) (oN (zdz (zeW d c).Guests) (oN (inb a (ln e.Mons)) (share (up e.Mons a ({ (ix e.Mons a zi) with Guests:=(zd6 (zeW d c).Guests)}:Mon)) (fun f=>(oN (inb a (ln f)) (share (up f a ({ (ix f a zi) with Pending:=(zeW d c).Pending}:Mon)) (fun g=>(some [(aH ({e with Mons:=g}:Host)),(aB (zej d c))])))))))) (some [(aH e),(aB (zej d c))])))))))))
theorem zLT (a:Host)(c d:Int)(i:zq7 a c d=true):∃N,zzE N a c d=some [aH (zjk a c d),aB (zmI a c d)]:=by
 have f:=(zT a).1 (zK.1 i);refine⟨0,?_⟩;have g:=zwc (h:=a) (m:=c) (cB:=zmE (zB a c) d) (B:=zeW (zB a c) d) (ok:=zej (zB a c) d) (o0:=fun H=>[.agg (zbf H),.one (.b false)]) (o1:=fun H=>[.agg (zbf H),.one (.b (zej (zB a c) d))]) f
  (fun e=>zY (zfM f (zbq.1 e).2)) (fun e=>zCI _ (zfM f (zbq.1 e).2)) (fun e j=>(congrArg (zcA a c) (z05 _ j)).trans (zsQ (zbq.1 e).2))
 refine(show zzE 0 a c d=_ from g).trans ?_;unfold zjk zmI zdi zc4;cases zcb a c<;>rfl
theorem zta:vM 15 zoE:=kF3 zeT zx zb2 zcF (zq []) zLT
theorem zCH {b:Bare}(g n:Int)(a:SmB b):SmB (ze3 b g n):=zrH a (zgC (b:=b) _ a)
theorem z04 {b:Bare}(g n:Int)(a:zf4 b g n=false):ze3 b g n=b:=zvD a
theorem z1y {b c:Bare}(a:SameB b c)(h:Host)(m:Int)(g n:Int):zcA h m (ze3 b g n)=zcA h m (ze3 c g n)/\zf4 b g n=zf4 c g n:=by have e:=a.at g;simp only[ze3,zf4,e];exact⟨zqU a _ _ _ _ _,zmw a _ _⟩
@[simp] abbrev zm1 (h:Host)(m:Int)(g n:Int):Bool:=pc (zcc h)
@[simp] abbrev zht (h:Host)(m:Int)(g n:Int):Host:=zdi h m (ze3 (zB h m) g n)
@[simp] abbrev zju (h:Host)(m:Int)(g n:Int):Bool:=zc4 h m (zf4 (zB h m) g n)
def zoJ:Run:=rF4 dH dI dI dI fun b c d e=>(zm1 b c d e,[aH (zht b c d e),aB (zju b c d e)])
def zzO (N:Nat)(f:Host)(b d e:Int):OA:=
 let a:=(zu f);let c:=(ix a.Mons b zi); (oN (zbV f) (oN (zfL a b) (cond (nB (zfK a b)) (some [(aH a),(aB false)]) (oN (inb b (ln a.Mons)) (oN (zeF c) (oN (zmV (zbP c) d e) (oN (zeE a b (zf8 (zbP c) d e)) (some [(aH (zhj a b (zf8 (zbP c) d e))),(aB (zhq (zbP c) d e))]))))))))
theorem zL4 (a:Host)(c d e:Int)(l:zm1 a c d e=true):∃N,zzO N a c d e=some [aH (zht a c d e),aB (zju a c d e)]:=by
 have g:=(zT a).1 (zK.1 l);refine⟨0,?_⟩;have i:=zoY (h:=a) (m:=c) (cB:=zmV (zcX (ix a.Mons c mZ)) d e) (B:=zf8 (zcX (ix a.Mons c mZ)) d e) (o0:=fun H=>[.agg (zbf H),.one (.b false)]) (o1:=fun H=>[.agg (zbf H),.one (.b (zhq (zcX (ix a.Mons c mZ)) d e))]) g
  (fun f=>zY (zeR (g.2.1.2 _ (zbA (zbq.1 f).2 _)))) (fun f=>zCH _ _ (zeR (g.2.1.2 _ (zbA (zbq.1 f).2 _))))
 refine(show zzO 0 a c d e=_ from i).trans ?_;unfold zht zju zdi zc4;cases f:zcb a c;{rfl};{obtain⟨j,k⟩:=z1y (zjM f (zpe f)) a c d e;simp only[cT];exact zvd j k}
theorem ztf:vM 19 zoJ:=kF4 zeT zx zb2 zcF (zq []) zL4
@[simp] abbrev zq6 (h:Host)(m:Int)(g n:Int):Bool:=pc (zcc h)
@[simp] abbrev zjj (h:Host)(m:Int)(g n:Int):Host:=zdi h m (ze3 (zB h m) g n)
@[simp] abbrev zmH (h:Host)(m:Int)(g n:Int):Bool:=zc4 h m (zf4 (zB h m) g n)
def zoD:Run:=rF4 dH dI dI dI fun b c d e=>(zq6 b c d e,[aH (zjj b c d e),aB (zmH b c d e)])
def zzD (N:Nat)(b:Host)(a c d:Int):OA:=
 let f:=(zj3 b);let e:=(zlT b a); (oN (zgs b) (oN (zie b) (cond (nB (ziU b)) (some [(aH f),(aB false)]) (oN (zdB a (ln b.Mons)) (cond (nB (zd1 a (ln b.Mons))) (some [(aH f),(aB false)]) (oN (zii b a) (oN (zmD e c d) (cond (zei e c d) (oN (zdz (zeV e c d).Guests) (oN (inb a (ln f.Mons)) (share (up f.Mons a ({ (ix f.Mons a zi) with Guests:=(zd6 (zeV e c d).Guests)}:Mon)) (fun g=>(oN (inb a (ln g)) (share (up g a ({ (ix g a zi) with Pending:=(zeV e c d).Pending}:Mon)) (fun h=>(some [(aH ({f with Mons:=h}:Host)),(aB (zei e c d))])))))))) (some [(aH f),(aB (zei e c d))])))))))))
theorem zLS (a:Host)(c d e:Int)(j:zq6 a c d e=true):∃N,zzD N a c d e=some [aH (zjj a c d e),aB (zmH a c d e)]:=by
 have g:=(zT a).1 (zK.1 j);refine⟨0,?_⟩;have i:=zwc (h:=a) (m:=c) (cB:=zmD (zB a c) d e) (B:=zeV (zB a c) d e) (ok:=zei (zB a c) d e) (o0:=fun H=>[.agg (zbf H),.one (.b false)]) (o1:=fun H=>[.agg (zbf H),.one (.b (zei (zB a c) d e))]) g
  (fun f=>zY (zfM g (zbq.1 f).2)) (fun f=>zCH _ _ (zfM g (zbq.1 f).2)) (fun f k=>(congrArg (zcA a c) (z04 _ _ k)).trans (zsQ (zbq.1 f).2))
 refine(show zzD 0 a c d e=_ from i).trans ?_;unfold zjj zmH zdi zc4;cases zcb a c<;>rfl
theorem zs9:vM 18 zoD:=kF4 zeT zx zb2 zcF (zq []) zLS
theorem zSx {b:Bare}(g:Int)(x:Ctl)(a:SmB b):SmB (zha b g x):=zrH a (zgC (b:=b) _ a)
theorem z9P {b:Bare}(g:Int)(x:Ctl)(a:ziY b g x=false):zha b g x=b:=zvD a
theorem zbab {b c:Bare}(a:SameB b c)(h:Host)(m:Int)(g:Int)(x:Ctl):zcA h m (zha b g x)=zcA h m (zha c g x)/\ziY b g x=ziY c g x:=by have e:=a.at g;simp only[zha,ziY,e];exact⟨zqU a _ _ _ _ _,zmw a _ _⟩
@[simp] abbrev zsk (h:Host)(m:Int)(g:Int)(x:Ctl):Bool:=pc (zcc h)
@[simp] abbrev zk0 (h:Host)(m:Int)(g:Int)(x:Ctl):Host:=zdi h m (zha (zB h m) g x)
@[simp] abbrev znO (h:Host)(m:Int)(g:Int)(x:Ctl):Bool:=zc4 h m (ziY (zB h m) g x)
def zt6:Run:=rF4 dH dI dI dC fun b c d e=>(zsk b c d e,[aH (zk0 b c d e),aB (znO b c d e)])
def zJc (N:Nat)(f:Host)(b d:Int)(e:Ctl):OA:=
 let a:=(zu f);let c:=(ix a.Mons b zi); (oN (zbV f) (oN (zfL a b) (cond (nB (zfK a b)) (some [(aH a),(aB false)]) (oN (inb b (ln a.Mons)) (oN (zeF c) (oN (zsb (zbP c) d e) (oN (zeE a b (zi1 (zbP c) d e)) (some [(aH (zhj a b (zi1 (zbP c) d e))),(aB (zkY (zbP c) d e))]))))))))
theorem zVe (a:Host)(c d:Int)(e:Ctl)(l:zsk a c d e=true):∃N,zJc N a c d e=some [aH (zk0 a c d e),aB (znO a c d e)]:=by
 have g:=(zT a).1 (zK.1 l);refine⟨0,?_⟩;have i:=zoY (h:=a) (m:=c) (cB:=zsb (zcX (ix a.Mons c mZ)) d e) (B:=zi1 (zcX (ix a.Mons c mZ)) d e) (o0:=fun H=>[.agg (zbf H),.one (.b false)]) (o1:=fun H=>[.agg (zbf H),.one (.b (zkY (zcX (ix a.Mons c mZ)) d e))]) g
  (fun f=>zY (zeR (g.2.1.2 _ (zbA (zbq.1 f).2 _)))) (fun f=>zSx _ _ (zeR (g.2.1.2 _ (zbA (zbq.1 f).2 _))))
 refine(show zJc 0 a c d e=_ from i).trans ?_;unfold zk0 znO zdi zc4;cases f:zcb a c;{rfl};{obtain⟨j,k⟩:=zbab (zjM f (zpe f)) a c d e;simp only[cT];exact zvd j k}
theorem zxr:vM 22 zt6:=kF4 zeT zx zb2 zcF (zq []) zVe
@[simp] abbrev zy3 (h:Host)(m:Int)(g:Int)(x:Ctl):Bool:=pc (zcc h)
@[simp] abbrev znv (h:Host)(m:Int)(g:Int)(x:Ctl):Host:=zdi h m (zha (zB h m) g x)
@[simp] abbrev zrZ (h:Host)(m:Int)(g:Int)(x:Ctl):Bool:=zc4 h m (ziY (zB h m) g x)
def ztY:Run:=rF4 dH dI dI dC fun b c d e=>(zy3 b c d e,[aH (znv b c d e),aB (zrZ b c d e)])
def zIS (N:Nat)(b:Host)(a c:Int)(d:Ctl):OA:=
 let f:=(zj3 b);let e:=(zlT b a); (oN (zgs b) (oN (zie b) (cond (nB (ziU b)) (some [(aH f),(aB false)]) (oN (zdB a (ln b.Mons)) (cond (nB (zd1 a (ln b.Mons))) (some [(aH f),(aB false)]) (oN (zii b a) (oN (zrX e c d) (cond (zgh e c d) (oN (zdz (zg8 e c d).Guests) (oN (inb a (ln f.Mons)) (share (up f.Mons a ({ (ix f.Mons a zi) with Guests:=(zd6 (zg8 e c d).Guests)}:Mon)) (fun g=>(oN (inb a (ln g)) (share (up g a ({ (ix g a zi) with Pending:=(zg8 e c d).Pending}:Mon)) (fun h=>(some [(aH ({f with Mons:=h}:Host)),(aB (zgh e c d))])))))))) (some [(aH f),(aB (zgh e c d))])))))))))
theorem zUU (a:Host)(c d:Int)(e:Ctl)(j:zy3 a c d e=true):∃N,zIS N a c d e=some [aH (znv a c d e),aB (zrZ a c d e)]:=by
 have g:=(zT a).1 (zK.1 j);refine⟨0,?_⟩;have i:=zwc (h:=a) (m:=c) (cB:=zrX (zB a c) d e) (B:=zg8 (zB a c) d e) (ok:=zgh (zB a c) d e) (o0:=fun H=>[.agg (zbf H),.one (.b false)]) (o1:=fun H=>[.agg (zbf H),.one (.b (zgh (zB a c) d e))]) g
  (fun f=>zY (zfM g (zbq.1 f).2)) (fun f=>zSx _ _ (zfM g (zbq.1 f).2)) (fun f k=>(congrArg (zcA a c) (z9P _ _ k)).trans (zsQ (zbq.1 f).2))
 refine(show zIS 0 a c d e=_ from i).trans ?_;unfold znv zrZ zdi zc4;cases zcb a c<;>rfl
theorem zxj:vM 21 ztY:=kF4 zeT zx zb2 zcF (zq []) zUU
theorem zZj {b:Bare}(n:Int)(a:SmB b):SmB (zl0 b n):=z7W a
theorem z7N {b c:Bare}(f:SameB b c)(h:Host)(m n:Int):zcA h m (zl0 b n)=zcA h m (zl0 c n)/\zpE b n=zpE c n:=by obtain⟨a,d,e⟩:=z7x f n;exact⟨back_eq a d,e⟩
@[simp] abbrev zwu (h:Host)(m:Int)(n:Int):Bool:=pc (zcc h)
@[simp] abbrev zp7 (h:Host)(m:Int)(n:Int):Host:=zdi h m (zl0 (zB h m) n)
@[simp] abbrev zp8 (h:Host)(m:Int)(n:Int):Bool:=zc4 h m (zpE (zB h m) n)
def zAO:Run:=rF3 dH dI dI fun b c d=>(zwu b c d,[aH (zp7 b c d),aB (zp8 b c d)])
def zEK (N:Nat)(e:Host)(b d:Int):OA:=
 let a:=(zu e);let c:=(ix a.Mons b zi); (oN (zbV e) (oN (zfL a b) (cond (nB (zfK a b)) (some [(aH a),(aB false)]) (oN (inb b (ln a.Mons)) (oN (zeF c) (oN (zp1 (zbP c) d) (oN (zeE a b (zjr (zbP c) d)) (some [(aH (zhj a b (zjr (zbP c) d))),(aB (zl8 (zbP c) d))]))))))))
theorem zRV (a:Host)(c d:Int)(k:zwu a c d=true):∃N,zEK N a c d=some [aH (zp7 a c d),aB (zp8 a c d)]:=by
 have f:=(zT a).1 (zK.1 k);refine⟨0,?_⟩;have g:=zoY (h:=a) (m:=c) (cB:=zp1 (zcX (ix a.Mons c mZ)) d) (B:=zjr (zcX (ix a.Mons c mZ)) d) (o0:=fun H=>[.agg (zbf H),.one (.b false)]) (o1:=fun H=>[.agg (zbf H),.one (.b (zl8 (zcX (ix a.Mons c mZ)) d))]) f
  (fun e=>zY (zeR (f.2.1.2 _ (zbA (zbq.1 e).2 _)))) (fun e=>zZj _ (zeR (f.2.1.2 _ (zbA (zbq.1 e).2 _))))
 refine(show zEK 0 a c d=_ from g).trans ?_;unfold zp7 zp8 zdi zc4;cases e:zcb a c;{rfl};{obtain⟨i,j⟩:=z7N (zjM e (zpe e)) a c d;simp only[cT];exact zvd i j}
theorem zLo:vM 53 zAO:=kF3 zeT zx zb2 zcF (zq []) zRV
theorem z2x {b:Bare}(a:SmB b):SmB (znC b):=zbag a
theorem zbaa {b c:Bare}(g:SameB b c)(h:Host)(m:Int):zcA h m (znC b)=zcA h m (znC c)/\zr4 b=zr4 c/\zr5 b=zr5 c:=by obtain⟨a,d,e,f⟩:=z8q g;exact⟨back_eq a d,e,f⟩
@[simp] abbrev zzg (h:Host)(m:Int):Bool:=pc (zcc h)
@[simp] abbrev zsg (h:Host)(m:Int):Host:=zdi h m (znC (zB h m))
@[simp] abbrev zsh (h:Host)(m:Int):Int:=bif zcb h m then zr4 (zB h m) else -1
@[simp] abbrev zsi (h:Host)(m:Int):Bool:=zc4 h m (zr5 (zB h m))
def zDF:Run:=rF2 dH dI fun b c=>(zzg b c,[aH (zsg b c),aI (zsh b c),aB (zsi b c)])
def zJa (N:Nat)(d:Host)(b:Int):OA:=
 let a:=(zu d);let c:=(ix a.Mons b zi); (oN (zbV d) (oN (zfL a b) (cond (nB (zfK a b)) (some [(aH a),(aI (-1)),(aB false)]) (oN (inb b (ln a.Mons)) (oN (zeF c) (oN (zsa (zbP c)) (oN (zeE a b (zi0 (zbP c))) (some [(aH (zhj a b (zi0 (zbP c)))),(aI (zkW (zbP c))),(aB (zkX (zbP c)))]))))))))
theorem zVc (a:Host)(c:Int)(l:zzg a c=true):∃N,zJa N a c=some [aH (zsg a c),aI (zsh a c),aB (zsi a c)]:=by
 have e:=(zT a).1 (zK.1 l);refine⟨0,?_⟩;have f:=zoY (h:=a) (m:=c) (cB:=zsa (zcX (ix a.Mons c mZ))) (B:=zi0 (zcX (ix a.Mons c mZ))) (o0:=fun H=>[.agg (zbf H),.one (.i .i64 (-1)),.one (.b false)]) (o1:=fun H=>[.agg (zbf H),.one (.i .i64 (zkW (zcX (ix a.Mons c mZ)))),.one (.b (zkX (zcX (ix a.Mons c mZ))))]) e
  (fun d=>zY (zeR (e.2.1.2 _ (zbA (zbq.1 d).2 _)))) (fun d=>z2x (zeR (e.2.1.2 _ (zbA (zbq.1 d).2 _))))
 refine(show zJa 0 a c=_ from f).trans ?_;unfold zsg zsh zsi zdi zc4;cases d:zcb a c;{rfl};{obtain⟨g,j,k⟩:=zbaa (zjM d (zpe d)) a c;simp only[cT];exact zbcy g j k}
theorem zOe:vM 56 zDF:=kF2 zeT zx zb2 zcF (zq []) zVc
def z5N:zW:=[(10,zt8),(9,ztZ),(13,zoI),(12,zoC),(16,zoK),(15,zoE),(19,zoJ),(18,zoD),(22,zt6),(21,ztY),(53,zAO),(56,zDF)]++z5M
theorem zw5:zL z5N:=zh zxt (zh zxk (zh zte (zh zs8 (zh ztg (zh zta (zh ztf (zh zs9 (zh zxr (zh zxj (zh zLo (zh zOe zeT)))))))))))
def zkm (h:Host)(m t:Int):Host:=bif zb1 h then (cond (hasB m (ln h.Mons)) (cond (win t 0 3) {h with Mons:=up h.Mons m {ix h.Mons m mZ with Traps:=t}} h) h) else h
def zCE (h:Host)(m t:Int):Bool:=bif zb1 h then (cond (hasB m (ln h.Mons)) (win t 0 3) false) else false
@[simp] abbrev zwz (h:Host)(m t:Int):Bool:=pc (zcc h)
@[simp] abbrev zqe (h:Host)(m t:Int):Host:=zkm h m t
@[simp] abbrev zqf (h:Host)(m t:Int):Bool:=zCE h m t
def zAS:Run:=rF3 dH dI dI fun b c d=>(zwz b c d,[aH (zqe b c d),aB (zqf b c d)])
def zEO (N:Nat)(d:Host)(b c:Int):OA:=
 let a:=(zu d); (oN (zbV d) (oN (zfD a) (cond (nB (zfC a)) (some [(aH a),(aB false)]) (oN (zN b 0 (wsub .i64 (ln a.Mons) 1)) (cond (nB (zQ b 0 (wsub .i64 (ln a.Mons) 1))) (some [(aH a),(aB false)]) (oN (zN c 0 3) (cond (nB (zQ c 0 3)) (some [(aH a),(aB false)]) (oN (inb b (ln a.Mons)) (share (up a.Mons b ({ (ix a.Mons b zi) with Traps:=c}:Mon)) (fun e=>(some [(aH ({a with Mons:=e}:Host)),(aB true)])))))))))))
theorem zR0 (a:Host)(b c:Int)(d:zwz a b c=true):∃N,zEO N a b c=some [aH (zqe a b c),aB (zqf a b c)]:=by
 have g:=(zT a).1 (zK.1 d);refine⟨0,?_⟩;unfold zEO zqe zqf zkm zCE oN nB;conv=>zeta
 refine must d (must rfl ?_);rw[show zfC (zu a)=zb1 a from rfl];cases e:zb1 a;{rfl};{refine zdH rfl (must rfl ?_);rw[show zQ b 0 (wsub .i64 (ln (zu a).Mons) 1)=hasB b (ln a.Mons) from zSX e b];cases f:hasB b (ln a.Mons);{rfl};{refine zdH rfl (must rfl ?_);rw[show zQ c 0 3=win c 0 3 from rfl];cases h:win c 0 3;{rfl};{exact zdH rfl (must (zI f) rfl)}}}
theorem zLt:vM 338 zAS:=kF3 zw5 zx zb2 zcF (zq []) zR0
theorem zkV {h:Host}{m p:Int}:(zcz h m p=true)↔zb1 h=true/\hasB m (ln h.Mons)=true/\hasB p 8=true:=by unfold zcz;cases zb1 h<;>cases hasB m (ln h.Mons)<;>simp
def zlk (h:Host)(m p:Int):Bool:=ieq (ix (ix h.Mons m mZ).Outer p sZ).Page (-1)
def zrg (h:Host)(m p:Int):Host:=bif zcz h m p then (cond (zlk h m p) h (zdn h m p)) else h
def zFS (h:Host)(m p:Int):Bool:=bif zcz h m p then !zlk h m p else false
def zv5 (h:Host)(m p:Int):Host:=bif zcz h m p then (cond (zlk h m p) (fetched h m p) h) else h
def zMc (h:Host)(m p:Int):Bool:=bif zcz h m p then zlk h m p else false
@[simp] abbrev zzk (h:Host)(m p:Int):Bool:=pc (zcc h)
@[simp] abbrev zsr (h:Host)(m p:Int):Host:=zrg h m p
@[simp] abbrev zss (h:Host)(m p:Int):Bool:=zFS h m p
@[simp] abbrev zCp (h:Host)(m p:Int):Bool:=pc (zcc h)
@[simp] abbrev zuZ (h:Host)(m p:Int):Host:=zv5 h m p
@[simp] abbrev zu0 (h:Host)(m p:Int):Bool:=zMc h m p
theorem zPh {h:Host}(f:SmH h)(c:zb1 h=true){m p:Int}(d:hasB m (ln h.Mons)=true)(e:hasB p 8=true) :
 (cond (ieq (ix (ix h.Mons m mZ).Outer p sZ).Page (-1)) (ieq (ix (ix h.Mons m mZ).Outer p sZ).Rights 0) false)=zlk h m p:=by
 have a:=(zuQ (zg7 c _ (zbA d mZ)) e).no;unfold zcW at a;unfold zlk;rw[<- a];cases b:ieq (ix (ix h.Mons m mZ).Outer p sZ).Page (-1)<;>simp [noSlot,b]
theorem zT0 {h:Host}(d:SmH h)(a:zb1 h=true){m p:Int}(b:hasB m (ln h.Mons)=true)(c:hasB p 8=true):inb p (ln (ix h.Mons m mZ).Outer)=true :=
 zI (by rw[ln,((zft d a).1.2 _ (zbA b mZ)).1];exact c)
def zDK:Run:=rF3 dH dI dI fun b c d=>(zzk b c d,[aH (zsr b c d),aB (zss b c d)])
def zJj (N:Nat)(e:Host)(c b:Int):OA:=
 let a:=(zu e);let d:=(ix a.Mons c zi).Outer; (oN (zbV e) (oN (zo9 a c b) (cond (nB (zh4 a c b)) (some [(aH a),(aB false)]) (oN (inb c (ln a.Mons)) (oN (inb b (ln d)) (oN zcx (cond (cond (ieq (ix d b zZ).Page zbv.Page) (ieq (ix d b zZ).Rights zbv.Rights) false) (some [(aH a),(aB false)]) (oN (zva a c b) (some [(aH (zCD a c b)),(aB true)])))))))))
theorem zVn (a:Host)(b c:Int)(h:zzk a b c=true):∃N,zJj N a b c=some [aH (zsr a b c),aB (zss a b c)]:=by
 have g:=(zT a).1 (zK.1 h);refine⟨0,?_⟩;unfold zJj zsr zss zrg zFS oN nB;conv=>zeta
 refine must h (must rfl ?_);rw[show zh4 (zu a) b c=zcz a b c from rfl];cases i:zcz a b c;{rfl};{obtain⟨e,d,f⟩:=zkV.1 i;refine zdH rfl (must (zI d) (must (zT0 g e d f) (must rfl ?_)));rw[show (cond (ieq (ix (ix (zu a).Mons b zi).Outer c zZ).Page zbv.Page) (ieq (ix (ix (zu a).Mons b zi).Outer c zZ).Rights zbv.Rights) false)=zlk a b c from zPh g e d f];cases j:zlk a b c;{exact zdH rfl (must (zY ⟨(zft g e).1,d,f⟩) rfl)};{rfl}}
theorem zOj:vM 335 zDK:=kF3 zw5 zx zb2 zcF (zq []) zVn
def zGt:Run:=rF3 dH dI dI fun b c d=>(zCp b c d,[aH (zuZ b c d),aB (zu0 b c d)])
def zM9 (N:Nat)(e:Host)(c b:Int):OA:=
 let a:=(zu e);let d:=(ix a.Mons c zi).Outer; (oN (zbV e) (oN (zo9 a c b) (cond (nB (zh4 a c b)) (some [(aH a),(aB false)]) (oN (inb c (ln a.Mons)) (oN (inb b (ln d)) (oN zcx (cond (nB (cond (ieq (ix d b zZ).Page zbv.Page) (ieq (ix d b zZ).Rights zbv.Rights) false)) (some [(aH a),(aB false)]) (oN (zyz a c b) (some [(aH (zA5 a c b)),(aB true)])))))))))
theorem zX4 (a:Host)(b c:Int)(h:zCp a b c=true):∃N,zM9 N a b c=some [aH (zuZ a b c),aB (zu0 a b c)]:=by
 have g:=(zT a).1 (zK.1 h);refine⟨0,?_⟩;unfold zM9 zuZ zu0 zv5 zMc oN nB;conv=>zeta
 refine must h (must rfl ?_);rw[show zh4 (zu a) b c=zcz a b c from rfl];cases i:zcz a b c;{rfl};{obtain⟨e,d,f⟩:=zkV.1 i;refine zdH rfl (must (zI d) (must (zT0 g e d f) (must rfl ?_)));rw[show (cond (ieq (ix (ix (zu a).Mons b zi).Outer c zZ).Page zbv.Page) (ieq (ix (ix (zu a).Mons b zi).Outer c zZ).Rights zbv.Rights) false)=zlk a b c from zPh g e d f];cases j:zlk a b c;{rfl};{exact zdH rfl (must (zY ⟨zft g e,d,f⟩) rfl)}}
theorem zQ5:vM 336 zGt:=kF3 zw5 zx zb2 zcF (zq []) zX4
def z5O:zW:=[(338,zAS),(335,zDK),(336,zGt)]++z5N
theorem zTu:zL z5O:=zh zLt (zh zOj (zh zQ5 zw5))
theorem z5i {x:Mon}{b:Bare}(h:zfp x)(a:zlB b.Guests):zfp (zuH x b):=⟨h.1,h.2.1,h.2.2.1,a,h.2.2.2.2⟩
theorem zMu {h:Host}{m:Int}{b:Bare}(a:SmH h)(d:hasB m (ln h.Mons)=true)(c:zlB b.Guests):SmH (zcA h m b):=
 ⟨a.1,zjO a.2.1 (z5i (a.2.1.2 _ (zbA d _)) c),a.2.2⟩
theorem zWA {h:Host}{m:Int}(b:Bare)(a:hasB m (ln h.Mons)=true):hasB m (ln (zcA h m b).Mons)=true:=by show hasB m (ln (up h.Mons m _))=true;rw[ln,zgX];exact a
theorem zbcp {h:Host}{m:Int}(b:Bare)(c:hasB m (ln h.Mons)=true):ix (zcA h m b).Mons m mZ=zuH (ix h.Mons m mZ) b:=by obtain⟨k,rfl,a⟩:=zdK (n:=h.Mons.length) c;exact zdR a _ _
def zFj (h:Host)(m g p:Int):Host:=⟨h.Memory,up h.Mons m {ix h.Mons m mZ with Tables:=up (ix h.Mons m mZ).Tables g (zbX (ix (ix h.Mons m mZ).Tables g kZ) p)},zcG h.Buffer (zeN m g) p,zcG h.IoBuffer (zeN m g) p⟩
def z6w (H:Host)(m g p:Int)(o:Host->Ans):OA:=
 bif inb m (ln H.Mons) then (bif inb m (ln H.Mons) then (bif inb g (ln (ix H.Mons m mZ).Tables) then (bif zmY (ix (ix H.Mons m mZ).Tables g kZ) p then (bif inb g (ln (ix H.Mons m mZ).Tables) then (share (up H.Mons m {ix H.Mons m mZ with Tables:=up (ix H.Mons m mZ).Tables g (zbX (ix (ix H.Mons m mZ).Tables g kZ) p)}) fun x=>
  (cond (zmd m g) (cond (zgU H.Buffer (zeN m g) p) (cond (zmd m g) (cond (zgU H.IoBuffer (zeN m g) p) (some (o ⟨H.Memory,x,zcG H.Buffer (zeN m g) p,zcG H.IoBuffer (zeN m g) p⟩)) none) none) none) none)) else none) else none) else none) else none) else none
theorem z6x {H:Host}{m g p:Int}{o:Host->Ans}(b:SmH H)(a:hasB m (ln H.Mons)=true)(hg:hasB g (ln (ix H.Mons m mZ).Tables)=true):z6w H m g p o=some (o (zFj H m g p)):=by have c:=b.2.1.2 _ (zbA a mZ);unfold z6w;exact must (zI a) (must (zI a) (must (zI hg) (must (zY (c.2.2.2.2.2.2 _ (zbA hg _))) (must (zI hg) (shr (must rfl (must (zY b.2.2.1) (must rfl (must (zY b.2.2.2) rfl)))))))))
def zlP (h:Host)(m g p:Int):Host:=bif zcb h m then (cond (zbE (zB h m) g (hasB p 4)) (zFj (zcA h m (chg (zB h m) g (hasB p 4) (zdP (gAt (zB h m) g) p))) m g p) h) else h
@[simp] abbrev zuk (h:Host)(m g p:Int):Bool:=pc (zcc h)
@[simp] abbrev zoc (h:Host)(m g p:Int):Host:=zlP h m g p
@[simp] abbrev zod (h:Host)(m g p:Int):Bool:=zc4 h m (zbE (zB h m) g (hasB p 4))
theorem z1A {h:Host}{m:Int}(a:hasB m (ln h.Mons)=true):(zB h m).Guests=(ix h.Mons m mZ).Guests:=by unfold zB;rw[a];rfl
theorem zTI {h:Host}{m g:Int}{k:Bool}(i:SmH h)(e:zcb h m=true)(b:Bare)(a:zbE (zB h m) g k=true):hasB g (ln (ix (zcA h m b).Mons m mZ).Tables)=true:=by obtain⟨f,c⟩:=zbq.1 e;rw[zbcp b c];show hasB g (ln (ix h.Mons m mZ).Tables)=true;rw[ln,((zft i f).1.2 _ (zbA c mZ)).2.2.2,<- z1A c];unfold zbE at a;cases d:zbT (zB h m) g;{rw [d]at a;cases a};{exact(zdF.1 d).2}
def zx0:Run:=rF4 dH dI dI dI fun b c d e=>(zuk b c d e,[aH (zoc b c d e),aB (zod b c d e)])
def zDa (N:Nat)(i:Host)(a b c:Int):OA:=
 let h:=(zvo a b);let e:=(zu i);let g:=(ix e.Mons a zi);let d:=(zhj e a (zeK (zbP g) b c));let f:=(ix d.Mons a zi);let j:=(ix f.Tables b zfO); (oN (zbV i) (oN (zfL e a) (cond (nB (zfK e a)) (some [(aH e),(aB false)]) (oN (inb a (ln e.Mons)) (oN (zeF g) (oN (zuh (zbP g) b c) (cond (nB (zh0 (zbP g) b c)) (some [(aH e),(aB false)]) (oN (zeE e a (zeK (zbP g) b c)) (oN (inb a (ln d.Mons)) (oN (inb a (ln d.Mons)) (oN (inb b (ln f.Tables)) (oN (zmY j c) (oN (inb b (ln f.Tables)) (share (up d.Mons a ({f with Tables:=(up f.Tables b (zma j c))}:Mon)) (fun k=>(oN (zmd a b) (oN (zgU d.Buffer h c) (oN (zmd a b) (oN (zgU d.IoBuffer h c) (some [(aH (⟨d.Memory,k,(znJ d.Buffer h c),(znJ d.IoBuffer h c)⟩:Host)),(aB true)]))))))))))))))))))))
theorem zO8 (a:Host)(c d e:Int)(j:zci big [aH a,aI c,aI d,aI e])(q:zuk a c d e=true):∃N,zDa N a c d e=some [aH (zoc a c d e),aB (zod a c d e)]:=by
 have k:=(zT a).1 (zK.1 q);refine⟨0,?_⟩;unfold zDa zoc zod zlP zc4 oN nB;conv=>zeta
 refine must q (must rfl ?_);rw[show zfK (zu a) c=zcb a c from rfl];cases h:zcb a c;{rfl};{obtain⟨v,f⟩:=zbq.1 h;have r:=k.2.1.2 _ (zbA f mZ);have l:=zeR r;have i:=zjM h (zpe h);have u:zbE (zcX (ix a.Mons c mZ)) d (hasB e 4)=zbE (zB a c) d (hasB e 4):=zmw i _ _;have s:zcA a c (zeK (zcX (ix a.Mons c mZ)) d e)=zcA a c (chg (zB a c) d (hasB e 4) (zdP (gAt (zB a c) d) e)):=(by rw[<- i.at];exact zqU i _ _ _ _ _);refine zdH rfl (must (zI f) (must (zY r) (must (zY l) ?_)));rw[show zh0 (zbP (ix (zu a).Mons c zi)) d e=zbE (zB a c) d (hasB e 4) from u];cases t:zbE (zB a c) d (hasB e 4);{rfl};{have j:SmB (zeK (zcX (ix a.Mons c mZ)) d e):=zrH l (zPS _ (zgC _ l));refine zdH rfl (must (zY ⟨f,j.2.1⟩) ?_);have n:=z6x (H:=zcA a c (zeK (zcX (ix a.Mons c mZ)) d e)) (m:=c) (g:=d) (p:=e) (o:=fun H=>[.agg (zbf H),.one (.b true)]) (zMu k f j.2.1) (zWA _ f) (zTI k h _ t);refine(show _=_ from n).trans ?_;rw[s];rfl}}
theorem zIa:vM 29 zx0:=hF4 zTu zx zb2 zcF (zq []) zO8
def z5P:zW:=[(29,zx0)]++z5O
theorem zTv:zL z5P:=zh zIa zTu
def zYT (h:Host)(m p c v:Int):Host:={mended h m p 2 with Memory:=zbN (mended h m p 2).Memory (ix (ix (mended h m p 2).Mons m mZ).Outer p sZ).Page c v}
def zfu (h:Host)(m p c v:Int):Bool:=bif zcz h m p then (cond (hasB c 4) (win v 0 99) false) else false
def zor (h:Host)(m p c v:Int):Host:=bif zfu h m p c v then zYT h m p c v else h
@[simp] abbrev zwt (h:Host)(m p c v:Int):Bool:=pc (zcc h)
@[simp] abbrev zp5 (h:Host)(m p c v:Int):Host:=zor h m p c v
@[simp] abbrev zp6 (h:Host)(m p c v:Int):Bool:=zfu h m p c v
def zbcb (H:Host)(m p c v:Int)(o:Host->Ans):OA:=
 bif znZ H m p 2 then (cond (inb m (ln (mended H m p 2).Mons)) (cond (inb p (ln (ix (mended H m p 2).Mons m mZ).Outer)) (cond (zjy (mended H m p 2).Memory (ix (ix (mended H m p 2).Mons m mZ).Outer p sZ).Page c v) (some (o (zYT H m p c v))) none) none) none) else none
theorem z9Z {h:Host}{m p c v:Int}{o:Host->Ans}(j:SmH h)(i:zcz h m p=true):zbcb h m p c v o=some (o (zYT h m p c v)):=by obtain⟨g,b,a⟩:=zkV.1 i;have f:=zft j g;obtain⟨d,e⟩:=zwJ (n:=2) f b a;unfold zbcb;refine must (zY ⟨f,b,a,.inr rfl,zuQ (zg7 g _ (zbA b mZ)) a⟩) (must (zI e) (must (zI ?_) (must (zY d.1.1) rfl)));rw[ln,(d.2 _ (zbA e mZ)).1];exact a
def zAN:Run:=rF5 dH dI dI dI dI fun b c d e f=>(zwt b c d e f,[aH (zp5 b c d e f),aB (zp6 b c d e f)])
def zEJ (N:Nat)(g:Host)(b c:Int)(e f:Int):OA:=
 let a:=(zu g);let d:=(zpa a b c 2);let h:=(ix d.Mons b zi).Outer;let i:=(ix h c zZ).Page; (oN (zbV g) (oN (zo9 a b c) (cond (nB (zh4 a b c)) (some [(aH a),(aB false)]) (oN (zN e 0 3) (cond (nB (zQ e 0 3)) (some [(aH a),(aB false)]) (oN (zN f 0 99) (cond (nB (zQ f 0 99)) (some [(aH a),(aB false)]) (oN (znZ a b c 2) (oN (inb b (ln d.Mons)) (oN (inb c (ln h)) (oN (zjy d.Memory i e f) (some [(aH ({d with Memory:=(zkc d.Memory i e f)}:Host)),(aB true)]))))))))))))
theorem zRU (d:Host)(f g:Int)(a e:Int)(i:zwt d f g a e=true):∃N,zEJ N d f g a e=some [aH (zp5 d f g a e),aB (zp6 d f g a e)]:=by
 have k:=(zT d).1 (zK.1 i);refine⟨0,?_⟩;unfold zEJ zp5 zp6 zor zfu oN nB;conv=>zeta
 refine must i (must rfl ?_);rw[show zh4 (zu d) f g=zcz d f g from rfl];cases j:zcz d f g;{rfl};{refine zdH rfl (must rfl ?_);rw[show zQ a 0 3=hasB a 4 from zbeN a];cases l:hasB a 4;{rfl};{refine zdH rfl (must rfl ?_);rw[show zQ e 0 99=win e 0 99 from rfl];cases m:win e 0 99;{rfl};{have h:=z9Z (c:=a) (v:=e) (o:=fun H=>[.agg (zbf H),.one (.b true)]) k j;exact zdH rfl (show _=_ from h)}}}
theorem zLn:vM 32 zAN:=kF5 zTv zx zb2 zcF (zq []) zRU
def z5Q:zW:=[(32,zAN)]++z5P
theorem z5R:zL z5Q:=zh zLn zTv
def z5S:zW:=z5Q
theorem zFd:zL z5S:=z5R
theorem z6Y (h:Host)(b:List Entry)(m g c a:Int)(e:Bool):(lookOf h b m g c a e).2.2=zcd h m g c a:=by cases d:zcd h m g c a;{rw [zo4 d]};{rw [zYo d];unfold zil zim;generalize zhW b m g c a=x;cases x;{generalize zfb _ m g c a=y;cases y<;>rfl};{rfl}}
theorem zbde {h:Host}{m g c a:Int}(b:List Entry)(i:Bool)(f:SmH h)(d:zcd h m g c a=true):SmM (lookOf h b m g c a i).1.Memory:=by have hg:zb0 h m g=true:=(by unfold zcd at d;cases e:zb0 h m g;{rw [e]at d;cases d};{rfl});exact(zAa f hg).shape.1.1
def zFE (h:Host)(m g a n:Int):Host×Int×Bool:=lookOf h h.IoBuffer m g (zbk a) n true
def zg6 (h:Host)(m g a v:Int):Bool:=bif win a 0 15 then (cond (win v 0 99) (zcd h m g (zbk a) 2) false) else false
def zq3 (h:Host)(m g a v:Int):Host:=bif zg6 h m g a v then { (zFE h m g a 2).1 with Memory:=zbN (zFE h m g a 2).1.Memory (zFE h m g a 2).2.1 (zde a) v} else h
def zgg (h:Host)(m g a:Int):Bool:=bif win a 0 15 then zcd h m g (zbk a) 1 else false
def zos (h:Host)(m g a:Int):Host:=bif zgg h m g a then (zFE h m g a 1).1 else h
def zti (h:Host)(m g a:Int):Int:=bif zgg h m g a then cellAt (zFE h m g a 1).1.Memory (zFE h m g a 1).2.1 (zde a) else 0
@[simp] abbrev zzh (h:Host)(m g a v:Int):Bool:=pc (zcc h)
@[simp] abbrev zsl (h:Host)(m g a v:Int):Host:=zq3 h m g a v
@[simp] abbrev zsm (h:Host)(m g a v:Int):Bool:=zg6 h m g a v
@[simp] abbrev zwv (h:Host)(m g a:Int):Bool:=pc (zcc h)
@[simp] abbrev zp9 (h:Host)(m g a:Int):Host:=zos h m g a
@[simp] abbrev zqa (h:Host)(m g a:Int):Int:=zti h m g a
@[simp] abbrev zqb (h:Host)(m g a:Int):Bool:=zgg h m g a
def zDG:Run:=rF5 dH dI dI dI dI fun b c d e f=>(zzh b c d e f,[aH (zsl b c d e f),aB (zsm b c d e f)])
def zJd (N:Nat)(g:Host)(c d:Int)(a e:Int):OA:=
 let b:=(zu g);let h:=(zk6 b b.IoBuffer c d (zcQ a) 2 true);let f:=(zfn b b.IoBuffer c d (zcQ a) 2 true); (oN (zbV g) (oN (zN a 0 15) (cond (nB (zQ a 0 15)) (some [(aH b),(aB false)]) (oN (zN e 0 99) (cond (nB (zQ e 0 99)) (some [(aH b),(aB false)]) (oN (zgx a) (oN (zk7 b b.IoBuffer c d (zcQ a) 2 true) (cond (nB (zhh b b.IoBuffer c d (zcQ a) 2 true)) (some [(aH f),(aB false)]) (oN (zjq a) (oN (zjy f.Memory h (zen a) e) (some [(aH ({f with Memory:=(zkc f.Memory h (zen a) e)}:Host)),(aB true)])))))))))))
theorem zVf (a:Host)(c d:Int)(b e:Int)(f:zzh a c d b e=true):∃N,zJd N a c d b e=some [aH (zsl a c d b e),aB (zsm a c d b e)]:=by
 have h:=(zT a).1 (zK.1 f);refine⟨0,?_⟩;unfold zJd zsl zsm zq3 zg6 oN nB;conv=>zeta
 refine must f (must rfl ?_);rw[show zQ b 0 15=win b 0 15 from rfl];cases i:win b 0 15;{rfl};{refine zdH rfl (must rfl ?_);rw[show zQ e 0 99=win e 0 99 from rfl];cases j:win e 0 99;{rfl};{refine zdH rfl (must rfl (must f ?_));rw[show zhh (zu a) (zu a).IoBuffer c d (zcQ b) 2 true=zcd a c d (zbk b) 2 from z6Y _ _ _ _ _ _ _];cases g:zcd a c d (zbk b) 2;{rw [show zfn (zu a) (zu a).IoBuffer c d (zcQ b) 2 true=a from congrArg Prod.fst (zo4 g)];rfl};{exact zdH rfl (must rfl (must (zY (zbde a.IoBuffer true h g)) rfl))}}}
theorem zOf:vM 59 zDG:=kF5 zFd zx zb2 zcF (zq []) zVf
def zAP:Run:=rF4 dH dI dI dI fun b c d e=>(zwv b c d e,[aH (zp9 b c d e),aI (zqa b c d e),aB (zqb b c d e)])
def zEL (N:Nat)(f:Host)(c d a:Int):OA:=
 let b:=(zu f);let g:=(zk6 b b.IoBuffer c d (zcQ a) 1 true);let e:=(zfn b b.IoBuffer c d (zcQ a) 1 true); (oN (zbV f) (oN (zN a 0 15) (cond (nB (zQ a 0 15)) (some [(aH b),(aI 0),(aB false)]) (oN (zgx a) (oN (zk7 b b.IoBuffer c d (zcQ a) 1 true) (cond (nB (zhh b b.IoBuffer c d (zcQ a) 1 true)) (some [(aH e),(aI 0),(aB false)]) (oN (zjq a) (oN (zuW e.Memory g (zen a)) (some [(aH e),(aI (zoL e.Memory g (zen a))),(aB true)])))))))))
theorem zRW (a:Host)(c d b:Int)(e:zwv a c d b=true):∃N,zEL N a c d b=some [aH (zp9 a c d b),aI (zqa a c d b),aB (zqb a c d b)]:=by
 have h:=(zT a).1 (zK.1 e);refine⟨0,?_⟩;unfold zEL zp9 zqa zqb zos zti zgg oN nB;conv=>zeta
 refine must e (must rfl ?_);rw[show zQ b 0 15=win b 0 15 from rfl];cases g:win b 0 15;{rfl};{refine zdH rfl (must rfl (must e ?_));rw[show zhh (zu a) (zu a).IoBuffer c d (zcQ b) 1 true=zcd a c d (zbk b) 1 from z6Y _ _ _ _ _ _ _];cases f:zcd a c d (zbk b) 1;{rw [show zfn (zu a) (zu a).IoBuffer c d (zcQ b) 1 true=a from congrArg Prod.fst (zo4 f)];rfl};{exact zdH rfl (must rfl (must rfl rfl))}}
theorem zLp:vM 62 zAP:=kF4 zFd zx zb2 zcF (zq []) zRW
def z5T:zW:=[(59,zDG),(62,zAP)]++z5S
theorem z5U:zL z5T:=zh zOf (zh zLp zFd)
end
end Go.Proofs.YthhbajmehldikaaGreat.E
