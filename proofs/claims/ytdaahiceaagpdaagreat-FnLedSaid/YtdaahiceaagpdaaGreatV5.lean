/- What is proved here: a part of the proof that the statement of this claim holds (several texts of wip/, laid together). -/
import Derived.Test.YtdaahiceaagpdaaGreatV4
import Derived.Maps.OwnOps
import Derived.Maps.Views
import Derived.WalkKit
namespace Go.Proofs.YtdaahiceaagpdaaGreat.E
open Go
set_option linter.unusedVariables false
set_option maxRecDepth 100000
set_option linter.unusedSimpArgs false
set_option linter.unusedSectionVars false
noncomputable section
abbrev gZ:Guest:=Ty.dflt .guest
@[simp] abbrev zA0 (h:Host)(m:Int):Bool:=pc (zcb h)
@[simp] abbrev zmr (h:Host)(m:Int):Mon:=bif hasB m (ln h.Mons) then ix h.Mons m mZ else mZ
@[simp] abbrev ztT (h:Host)(m:Int):Bool:=hasB m (ln h.Mons)
def zER:Run:=rF2 dH dI fun b c=>(zA0 b c,[aT .mon (zmr b c),aB (ztT b c)])
def zNk (N:Nat)(a0:Host)(a1:Int):OA:=
 let y0:=(ix a0.Mons a1 zf); (oN (zdl a1 (ln a0.Mons)) (cond (nB (zdH a1 (ln a0.Mons))) (some [(aT .mon (⟨[],[],[],[],[],0,0,[],0⟩:Mon)),(aB false)]) (oN (inb a1 (ln a0.Mons)) (oN (ziZ y0) (some [(aT .mon (zjE y0)),(aB true)])))))
theorem zT7 (a0:Host)(a1:Int)(hc:zA0 a0 a1=true):∃N,zNk N a0 a1=some [aT .mon (zmr a0 a1),aB (ztT a0 a1)]:=by
 have hs:=(zM a0).1 (zD.1 hc);refine ⟨0,?_⟩;unfold zNk zmr ztT oN nB
 conv=>zeta
 refine must rfl ?_;rw[show zdH a1 (ln a0.Mons)=hasB a1 (ln a0.Mons) from rfl]
 cases hh:hasB a1 (ln a0.Mons)
 .rfl
 .exact zdI rfl (must (zl hh) (must (zbr (hs.2.1.2 _ (zbv hh _))) rfl))
theorem zOH:vF 51 zER:=kF2 zgz zq zbR zCY (zo []) zT7
def zbH (h:Host)(m g:Int):Bool:=bif zbI h then (cond (hasB m (ln h.Mons)) (hasB g (ln (ix h.Mons m mZ).Guests)) false) else false
@[simp] abbrev zgj (h:Host)(m g:Int):Bool:=pc (zcb h)
@[simp] abbrev zh1 (h:Host)(m g:Int):Bool:=zbH h m g
def zE8:Run:=rF3 dH dI dI fun b c d=>(zgj b c d,[aB (zh1 b c d)])
def zNB (N:Nat)(a0:Host)(a1 a2:Int):OA:=
 let y0:=(wsub .i64 (ln (ix a0.Mons a1 zf).Guests) 1); (oN (zeN a0) (cond (zeM a0) (oN (zI a1 0 (wsub .i64 (ln a0.Mons) 1)) (cond (zL a1 0 (wsub .i64 (ln a0.Mons) 1)) (oN (inb a1 (ln a0.Mons)) (oN (zI a2 0 y0) (some [(aB (zL a2 0 y0))]))) oF)) oF))
theorem zUq (a0:Host)(a1 a2:Int)(hc:zgj a0 a1 a2=true):∃N,zNB N a0 a1 a2=some [aB (zh1 a0 a1 a2)]:=by
 have hs:=(zM a0).1 (zD.1 hc);refine ⟨0,?_⟩;unfold zNB zh1 zbH oN
 conv=>zeta
 refine must rfl ?_;rw[show zeM a0=zbI a0 from rfl]
 cases hh:zbI a0
 .rfl
 .rw [show zL a1 0 (wsub .i64 (ln a0.Mons) 1)=hasB a1 (ln a0.Mons) from zo0 hs.2.1.1 a1]
  refine must rfl (must rfl ?_);cases h1:hasB a1 (ln a0.Mons)
  .rfl
  .have hg:(ix a0.Mons a1 mZ).Guests.length<=1048576:=(hs.2.1.2 _ (zbv h1 _)).2.2.2.1.1;rw[show zL a2 0 (wsub .i64 (ln (ix a0.Mons a1 zf).Guests) 1)=hasB a2 (ln (ix a0.Mons a1 mZ).Guests) from zo0 hg a2]
   exact must rfl (must (zl h1) (must rfl rfl))
theorem zO0:vF 251 zE8:=kF3 zgz zq zbR zCY (zo []) zUq
def zco (h:Host)(m:Int):Nat->Nat->List (List Int)
 | 0,_=>[]
 | n+1,i=>zcM h m (i:Int) :: zco h m n (i+1)
theorem zx2 (h:Host)(m:Int):∀(n i:Nat),(zco h m n i).length=n
 | 0,_=>rfl
 | n+1,i=>by simp[zco,zx2 h m n]
def zB (h:Host)(m:Int):Bare:=bif hasB m (ln h.Mons) then ⟨zco h m 8 0,(ix h.Mons m mZ).Guests,(ix h.Mons m mZ).Outs,(ix h.Mons m mZ).Pending⟩ else ⟨[],[],[],0⟩
def z3C:zO:=[(51,zER),(251,zE8)]++zo6
theorem z1g:zF z3C:=zh zOH (zh zO0 zgz)
theorem zUE:zb5 zyv=true:=by decide
theorem zVb {p:Nat->Bool}:∀{n i q:Nat},zkX p n i=true->i<=q->q<i+n->p q=true
 | 0,i,q,_,h1,h2=>by omega
 | n+1,i,q,h,h1,h2=>by
  simp only[zkX,qD]at h
  by_cases he:i=q
  .subst he;exact h.1
  .exact zVb h.2 (by omega) (by omega)
theorem zZP {h:Host}{m:Int}(hh:zbI h=true)(hm:hasB m (ln h.Mons)=true){p:Int}(hp:hasB p 8=true):zb5 (zcM h m p)=true:=by
 have hk:=zgc hh _ (zbv hm mZ);have hsh:=zGS hk;have hmem:h.Memory.all zb5=true:=by
  unfold zbI at hh;simp only[zcw]at hh;have h1:=hh.1;unfold zgM at h1;simp only[zcw]at h1;exact h1.1
 unfold zcM;rw[hm,hp];simp only[cT];have hsl:zbm (ix h.Mons m mZ).Outer p=ix (ix h.Mons m mZ).Outer p sZ:=by
  unfold zbm;rw[zc9 hsh.1 hp];rfl
 rw[hsl];have hAt:∀(mm:List (List Int)) (q:Int),(hasB q (ln mm)=true->zb5 (ix mm q [])=true)->zb5 (zb8 mm q)=true:=by
  intro mm q hq;unfold zb8;cases h1:hasB q (ln mm)
  .exact zUE
  .exact hq h1
 cases hpg:ine (ix (ix h.Mons m mZ).Outer p sZ).Page (-1)
 .refine hAt _ _ (fun hq=>?_);obtain ⟨q,rfl,hq8⟩:=zdu (n:=8) hp;have hfit:fits (ix h.Mons m mZ) q=true:=by
   unfold zdp at hk;simp only[zcw]at hk;exact zVb hk.2.2.2.2.2.2.2.2.2.2 (by omega) (by omega)
  unfold fits zkx at hfit;have hno:zcg (ix (ix h.Mons m mZ).Outer (q:Int) sZ) noSlot=true:=by
   rw[(zrj (zgc hh _ (zbv hm mZ)) hp).no];rw[zon]at hpg;cases h1:ieq (ix (ix h.Mons m mZ).Outer (q:Int) sZ).Page (-1)
   .rw [h1]at hpg;cases hpg
   .rfl
  rw[hno]at hfit;exact hfit
 .exact hAt _ _ (fun hq=>qL.1 hmem _ (zbv hq _))
theorem zOg {h:Host}{m:Int}(hh:zbI h=true)(hm:hasB m (ln h.Mons)=true):∀(n i:Nat),i+n<=8->(zco h m n i).all zb5=true
 | 0,_,_=>rfl
 | n+1,i,hi=>by
  simp only[zco,uC,qD];exact ⟨zZP hh hm (qI (by omega)),zOg hh hm n (i+1) (by omega)⟩
theorem zEq {h:Host}{m:Int}(hh:zbI h=true)(hm:hasB m (ln h.Mons)=true):zbU (zB h m)=true:=by
 have hk:=zgc hh _ (zbv hm mZ);unfold zdp at hk;simp only[zcw]at hk;unfold zB zbU zgM;rw[hm];simp only[cT,hk.2.2.2.2.2.2.2.2.2.1,zOg hh hm 8 0 (by decide),ln,zx2]
 simp only[ln]at hk;rw[hk.1,hk.2.2.2.2.2.1,hk.2.2.2.2.2.2.1];rfl
def zlD:zO:=z3C
theorem zgA:zF zlD:=z1g
def zdP (l:List Mon):List (List Guest):=l.map fun x=>x.Guests
theorem zxy {l:List Mon}{m:Int}{x:Mon}(hm:hasB m (ln l)=true)(hx:x.Guests=(ix l m mZ).Guests):zdP (up l m x)=zdP l:=by
 obtain ⟨k,rfl,hk⟩:=zdu (n:=l.length) hm;unfold zdP up;rw[List.map_set,kW,hx,zbc hk];have:=@uS _ (l.map fun x=>x.Guests) k (by simpa using hk)
 simpa using this
theorem zIy {l l':List Mon}(h:zdP l'=zdP l)(m:Int):(ix l' m mZ).Guests=(ix l m mZ).Guests:=by
 unfold zdP at h;have h2:(l'.map fun x=>x.Guests)[m.toNat]?=(l.map fun x=>x.Guests)[m.toNat]?:=by rw[h]
 rw[qN,qN]at h2;unfold ix;simp only[j9];cases h3:l'[m.toNat]? <;> cases h4:l[m.toNat]? <;> rw [h3,h4]at h2<;>simp at h2 ⊢;exact h2
theorem zxx {h:Host}{m p:Int}{s:Slot}(hm:hasB m (ln h.Mons)=true):zdP (zb6 h m p s).Mons=zdP h.Mons:=by
 rw[(zfG h m p s).1];exact zxy hm rfl
theorem z5g {h:Host}{m p:Int}(hm:hasB m (ln h.Mons)=true):zdP (zda h m p).Mons=zdP h.Mons:=(zxx (h:=zep h m p) (zeg hm)).trans (zxy hm rfl)
theorem z5f {h:Host}(hf:Fit h):zdP (zcO h).Mons=zdP h.Mons:=by
 unfold zcO;cases h0:ieq (ln (zbZ h)) 0
 .rfl
 .exact z5g (zCN hf h0).1
theorem zWY {h:Host}{m p:Int}(hf:Fit h)(hm:hasB m (ln h.Mons)=true):zdP (fetched h m p).Mons=zdP h.Mons:=by
 have hr:=zoC hf hm;exact ((zxx (h:=landing (zcO h) m p (ix (zbZ (zcO h)) 0 0)) (zeg hr)).trans (zxy hr rfl)).trans (z5f hf)
theorem zQ7 {h:Host}{m p n:Int}(hm:hasB m (ln h.Mons)=true):zdP (ziq h m p n).Mons=zdP h.Mons:=by
 have hd:zdP (zbs h m p).Mons=zdP h.Mons:=zxy hm rfl;unfold ziq;cases ieq (wand .i64 n 2) 0
 .unfold opened;cases ieq (wand .i64 (ix (ix (zbs h m p).Mons m mZ).Outer p sZ).Rights 2) 0
  .exact hd
  .exact (zxx (h:=zbs h m p) (zeg hm)).trans hd
 .rfl
theorem zZd {h:Host}{m p n:Int}(hf:Fit h)(hm:hasB m (ln h.Mons)=true)(hp:hasB p 8=true):zdP (mended h m p n).Mons=zdP h.Mons:=by
 unfold mended;cases ieq (ix (ix h.Mons m mZ).Outer p sZ).Page (-1)
 .exact zQ7 hm
 .exact (zQ7 (ziT hf hm hp).2).trans (zWY hf hm)
theorem z6A {l l':List Mon}(h:zdP l'=zdP l):l'.length=l.length:=by
 have:=congrArg List.length h;simpa [zdP] using this
abbrev kZ:Kept:=Ty.dflt .kept
theorem z7z {x:Guest}(hk:zcX x=true){p n:Int}(hw:zdn x.Live p n=true):hasB (zbQ x.Live p n) 8=true:=by
 have ht:zcn x.Live 4 8=true:=by
  unfold zcX at hk;simp only[qD]at hk;exact hk.2.2.2.2.1
 unfold zbQ;rw[hw];simp only[cT];unfold zdn at hw;cases h1:ieq (zbm x.Live p).Page (-1)
 .unfold zbm at h1 ⊢;cases h2:hasB p (ln x.Live)
  .rw [h2]at h1;cases h1
  .rw [h2]at h1;simp only[cT]at h1 ⊢;unfold zcn at ht;simp only[zcw]at ht;have hs:=qL.1 ht.1 _ (zbv h2 sZ);unfold zdd at hs;cases h3:zcg (ix x.Live p sZ) noSlot
   .rw [h3]at hs;simp only[cF,zcw]at hs;have:=zfm.1 hs.2.1;rw[show wsub .i64 8 1=7 from rfl] at this
    show hasB (ix x.Live p sZ).Page 8=true
    exact qI (by omega)
   .unfold zcg at h3;rw[qD]at h3;have:(ix x.Live p sZ).Page = -1:=qE h3.1;rw[show ieq (ix x.Live p zK).Page (-1)=true from qI this]at h1
    cases h1
 .rw [h1]at hw;cases hw
def zb4 (h:Host)(m g:Int):List Slot:=(ix (ix h.Mons m mZ).Guests g gZ).Live
def zbK (h:Host)(m g:Int):Kept:=ix (ix h.Mons m mZ).Tables g kZ
def zq9 (h:Host)(io:Bool):List Entry:=bif io then h.IoBuffer else h.Buffer
def zpW (b:List Entry)(m g page:Int):Option Entry:=zra b (zdq m g) page
def zgQ (b:List Entry)(m g page need:Int):Bool:=bif (zpW b m g page).isSome then enough ((zpW b m g page).getD ⟨0,0,0,0⟩).Rights need else false
def zdT (h:Host)(m g page need:Int):Bool:=bif zhN (zbK h m g) page then (cond (ieq (zdk (zbK h m g) page).Page (-1)) true (!enough (zdk (zbK h m g) page).Rights need)) else true
def zb7 (h:Host)(m g page:Int):Host:={ h with Mons:=up h.Mons m { ix h.Mons m mZ with Tables:=up (ix h.Mons m mZ).Tables g (filled (zbK h m g) (zb4 h m g) (ix h.Mons m mZ).Outer page) } }
def zP5 (h:Host)(m g page:Int):Entry:=⟨zdq m g,page,(zdk (zbK h m g) page).Page,(zdk (zbK h m g) page).Rights⟩
def zt0 (h:Host)(m g page:Int)(io:Bool):Host:=bif io then { h with IoBuffer:=zoA h.IoBuffer (zP5 h m g page) } else { h with Buffer:=zoA h.Buffer (zP5 h m g page) }
def zd0 (h:Host)(m g page:Int)(io:Bool):Host×Int×Bool:=(zt0 h m g page io,(zdk (zbK h m g) page).Page,true)
def zfp (h:Host)(b:List Entry)(m g page need q:Int)(io:Bool):Host×Int×Bool :=
 bif zgQ b m g page need then (h,((zpW b m g page).getD ⟨0,0,0,0⟩).Host,true)
 else (cond (zdT h m g page need) (zd0 (zb7 (mended h m q need) m g page) m g page io) (zd0 h m g page io))
def zfb (need:Int):Bool:=bif ieq need 1 then true else ieq need 2
def zby (h:Host)(m g page need:Int):Bool:=bif zbH h m g then (cond (zfb need) (zdn (zb4 h m g) page need) false) else false
def lookOf (h:Host)(b:List Entry)(m g page need:Int)(io:Bool):Host×Int×Bool :=
 bif zby h m g page need then zfp (cond (ieq need 2) (zbs h m (zbQ (zb4 h m g) page need)) h) b m g page need (zbQ (zb4 h m g) page need) io else (h,-1,false)
structure Kp (h r:Host):Prop where
 shape:Shape r
 gs:zdP r.Mons=zdP h.Mons
theorem Kp.has {h r:Host}(k:Kp h r){m:Int}(hm:hasB m (ln h.Mons)=true):hasB m (ln r.Mons)=true:=by
 rw[ln,z6A k.gs];exact hm
theorem zXR {h:Host}{m g page:Int}(hs:Shape h)(hm:hasB m (ln h.Mons)=true)(hg:hasB g (ln (ix h.Mons m mZ).Guests)=true):Shape (zb7 h m g page):=by
 obtain ⟨g1,g2⟩:=zca hs hm;have ht:hasB g (ln (ix h.Mons m mZ).Tables)=true:=by rw[ln,g2.2.2.2];exact hg
 exact zhC hs ⟨g1.1,g1.2.1,g1.2.2.1,g1.2.2.2.1,g1.2.2.2.2.1,zw4 g1.2.2.2.2.2 (zXY (g1.2.2.2.2.2.2 _ (zbv ht _)))⟩ ⟨g2.1,g2.2.1,g2.2.2.1,by simpa using g2.2.2.2⟩
theorem zZm {h r:Host}{m g page:Int}{io:Bool}(k:Kp h r):Kp h (zt0 r m g page io):=by
 obtain ⟨⟨h1,h2,h3,h4⟩,h5⟩:=k.shape;unfold zt0;cases io
 .exact ⟨⟨⟨h1,h2,(zx5 _ h3).1,h4⟩,h5⟩,k.gs⟩
 .exact ⟨⟨⟨h1,h2,h3,(zx5 _ h4).1⟩,h5⟩,k.gs⟩
structure LookAt (h:Host) (m g q need:Int):Prop where
 fit:Fit h
 hm:hasB m (ln h.Mons)=true
 hg:hasB g (ln (ix h.Mons m mZ).Guests)=true
 hq:hasB q 8=true
 hn:need=1\/need=2
 hs:SlotFit (ix (ix h.Mons m mZ).Outer q sZ)
theorem LookAt.mend {h:Host}{m g q need:Int}(A:LookAt h m g q need):zQt h m q need:=⟨A.fit,A.hm,A.hq,A.hn,A.hs⟩
theorem LookAt.kp {h:Host}{m g q need:Int}(A:LookAt h m g q need):Kp h (mended h m q need):=⟨(ztd A.fit A.hm A.hq).1,zZd A.fit A.hm A.hq⟩
theorem LookAt.fill {h:Host}{m g q need:Int}(A:LookAt h m g q need)(page:Int):Kp h (zb7 (mended h m q need) m g page):=by
 have k:=A.kp;have hg:hasB g (ln (ix (mended h m q need).Mons m mZ).Guests)=true:=by rw[zIy k.gs];exact A.hg
 have e:zdP (zb7 (mended h m q need) m g page).Mons=zdP (mended h m q need).Mons:=zxy (k.has A.hm) rfl;exact ⟨zXR k.shape (k.has A.hm) hg,e.trans k.gs⟩
theorem zRl {h:Host}{b:List Entry}{m g page need q:Int}{io:Bool}(A:LookAt h m g q need):Kp h (zfp h b m g page need q io).1:=by
 unfold zfp;cases zgQ b m g page need
 .cases zdT h m g page need
  .exact zZm ⟨A.fit.1,rfl⟩
  .exact zZm (A.fill page)
 .exact ⟨A.fit.1,rfl⟩
theorem zc0 {h:Host}{m g:Int}(hh:zbH h m g=true):zbI h=true/\hasB m (ln h.Mons)=true/\hasB g (ln (ix h.Mons m mZ).Guests)=true:=by
 unfold zbH at hh;simp only[zcw]at hh;exact hh
theorem zWZ {h:Host}{m g:Int}(hh:zbH h m g=true):zcX (ix (ix h.Mons m mZ).Guests g gZ)=true:=by
 obtain ⟨h1,h2,h3⟩:=zc0 hh;have hk:=zgc h1 _ (zbv h2 mZ);unfold zdp at hk;simp only[zcw]at hk;exact qL.1 hk.2.2.2.2.2.2.2.2.2.1 _ (zbv h3 _)
theorem zJN {n:Int}(h:zfb n=true):n=1\/n=2:=by
 unfold zfb at h;cases h1:ieq n 1
 .rw [h1]at h;exact .inr (qE h)
 .exact .inl (qE h1)
theorem zBc {h:Host}{m g page need:Int}(hs:SmH h)(hh:zby h m g page need=true) :
 LookAt h m g (zbQ (zb4 h m g) page need) need/\LookAt (zbs h m (zbQ (zb4 h m g) page need)) m g (zbQ (zb4 h m g) page need) need:=by
 unfold zby at hh;simp only[zcw]at hh;obtain ⟨h1,h2,h3⟩:=hh;obtain ⟨g1,g2,g3⟩:=zc0 h1;have hq:hasB (zbQ (zb4 h m g) page need) 8=true:=z7z (zWZ h1) h3;have hsl:=zrj (zgc g1 _ (zbv g2 mZ)) hq;have hf:=zeI hs g1;refine ⟨⟨hf,g2,g3,hq,zJN h2,hsl⟩,⟨zTV hf g2,zeg g2,?_,hq,zJN h2,?_⟩⟩
 .have e:zdP (zbs h m (zbQ (zb4 h m g) page need)).Mons=zdP h.Mons:=zxy g2 rfl;rw[zIy e];exact g3
 .obtain ⟨k,rfl,hk⟩:=zdu (n:=h.Mons.length) g2;unfold zbs;rw[zdD hk];exact hsl
theorem zwd {h:Host}{b:List Entry}{m g page need:Int}{io:Bool}(hs:SmH h)(hh:zbH h m g=true):Kp h (lookOf h b m g page need io).1:=by
 have hf:=zeI hs (zc0 hh).1;unfold lookOf;cases h1:zby h m g page need
 .exact ⟨hf.1,rfl⟩
 .obtain ⟨A,B⟩:=zBc hs h1;simp only[cT];cases ieq need 2
  .exact zRl A
  .have k:=zRl (b:=b) (page:=page) (io:=io) B;have e:zdP (zbs h m (zbQ (zb4 h m g) page need)).Mons=zdP h.Mons:=zxy A.hm rfl;exact ⟨k.shape,k.gs.trans e⟩
def zit (x:Host×Int×Bool):List AV:=[.agg (zbd x.1),.one (.i .i64 x.2.1),.one (.b x.2.2)]
theorem zgp {h:Host}{b:List Entry}{m g page need:Int}{io:Bool}(hh:zby h m g page need=false):lookOf h b m g page need io=(h,-1,false):=by
 unfold lookOf;rw[hh];rfl
theorem zmu {h:Host}{m g page need:Int}(hh:zbH h m g=false):zby h m g page need=false:=by
 unfold zby;rw[hh];rfl
theorem zVu {h:Host}{m g:Int}(hh:zbI h=false):zbH h m g=false:=by
 unfold zbH;rw[hh];rfl
theorem zVv {h:Host}{m g:Int}(hh:hasB m (ln h.Mons)=false):zbH h m g=false:=by
 unfold zbH;rw[hh];cases zbI h<;>rfl
theorem zVw {h:Host}{m g:Int}(hh:hasB g (ln (ix h.Mons m mZ).Guests)=false):zbH h m g=false:=by
 unfold zbH;rw[hh];cases zbI h<;>cases hasB m (ln h.Mons)<;>rfl
theorem zVx {h:Host}{m g:Int}(h1:zbI h=true)(h2:hasB m (ln h.Mons)=true)(h3:hasB g (ln (ix h.Mons m mZ).Guests)=true):zbH h m g=true:=by
 unfold zbH;rw[h1,h2,h3];rfl
structure LookF (r:Host) (m g:Int):Prop where
 hm:hasB m (ln r.Mons)=true
 hg:hasB g (ln (ix r.Mons m mZ).Guests)=true
 ht:hasB g (ln (ix r.Mons m mZ).Tables)=true
 hk:SmK (zbK r m g)
 hb:r.Buffer.length<=1048576
 hi:r.IoBuffer.length<=1048576
theorem zlI {h r:Host}{m g:Int}(k:Kp h r)(hm:hasB m (ln h.Mons)=true)(hg:hasB g (ln (ix h.Mons m mZ).Guests)=true):LookF r m g:=by
 obtain ⟨g1,g2⟩:=zca k.shape (k.has hm);have hg':hasB g (ln (ix r.Mons m mZ).Guests)=true:=by rw[zIy k.gs];exact hg
 have ht:hasB g (ln (ix r.Mons m mZ).Tables)=true:=by rw[ln,g2.2.2.2];exact hg'
 exact ⟨k.has hm,hg',ht,g1.2.2.2.2.2.2 _ (zbv ht _),k.shape.1.2.2.1,k.shape.1.2.2.2⟩
@[simp] abbrev zhB (h:Host)(b:List Entry)(m g page need:Int)(io:Bool):Bool:=pc (zcb h)
@[simp] abbrev zel (h:Host)(b:List Entry)(m g page need:Int)(io:Bool):Host:=(lookOf h b m g page need io).1
@[simp] abbrev zhA (h:Host)(b:List Entry)(m g page need:Int)(io:Bool):Int:=(lookOf h b m g page need io).2.1
@[simp] abbrev zfx (h:Host)(b:List Entry)(m g page need:Int)(io:Bool):Bool:=(lookOf h b m g page need io).2.2
def zlK:List AV->Option (Bool×List AV)
 | [.agg [.s (.sl .int) c,.s .mon d,.s .entry e,.s .entry f],.one (.s .entry g),.one (.i .i64 h),.one (.i .i64 j),.one (.i .i64 k),.one (.i .i64 l),.one (.b m)]=>some ((zhB (⟨c,d,e,f⟩:Host) g h j k l m),[aH (zel (⟨c,d,e,f⟩:Host) g h j k l m),aI (zhA (⟨c,d,e,f⟩:Host) g h j k l m),aB (zfx (⟨c,d,e,f⟩:Host) g h j k l m)])
 | _=>none
abbrev zOz (u9_11:lM)(u9_12:lN)(u9_13:lE)(u9_14:lE)(u9_0:Int)(u9_5:Int)(u9_3:Int):Mon :=
 (ix (zmA (⟨u9_11,u9_12,u9_13,u9_14⟩:Host) u9_0 u9_5 u9_3).Mons u9_0 zf)
abbrev zOA (a0:Host)(a2 a3:Int)(a4 a5:Int):Int :=
 (ziP (ix (ix a0.Mons a2 zf).Guests a3 zx).Live a4 a5)
def zKN (N:Nat)(u11_0:Int)(u11_2:lM)(u11_3:lN)(u11_4:lE)(u11_5:lE):OA:=
 (some [(aH (⟨u11_2,u11_3,u11_4,u11_5⟩:Host)),(aI u11_0),(aB true)])
def zn8 (N:Nat)(u10_0:Int)(u10_1:Bool)(u10_2:Int)(u10_7:Int)(u10_8:Int)(u10_9:lM)(u10_10:lN)(u10_11:lE)(u10_12:lE)(u10_13:lM)(u10_14:lN)(u10_15:lE)(u10_16:lE):OA:=
 let y0:=(⟨u10_2,u10_0,u10_7,u10_8⟩:Entry); (share (fun (s11:(Int×(Int×(lM×(lN×(lE×(lE×(lM×(lN×(lE×(lE×Unit)))))))))))=>(zKN N s11.1 s11.2.2.1 s11.2.2.2.1 s11.2.2.2.2.1 s11.2.2.2.2.2.1)) (fun r11=>(cond u10_1 (oN (znN u10_12 y0) (r11 (u10_7,(u10_8,(u10_9,(u10_10,(u10_11,((znM u10_12 y0),(u10_13,(u10_14,(u10_15,(u10_16,())))))))))))) (oN (znN u10_11 y0) (r11 (u10_7,(u10_8,(u10_9,(u10_10,((znM u10_11 y0),(u10_12,(u10_13,(u10_14,(u10_15,(u10_16,())))))))))))))))
def zqo (N:Nat)(u9_11:lM)(u9_12:lN)(u9_13:lE)(u9_14:lE)(u9_0:Int)(u9_5:Int)(u9_3:Int)(u9_1:Int)(u9_2:Int)(r10:((Int×(Bool×(Int×(Int×(Int×(Int×(Int×(Int×(Int×(lM×(lN×(lE×(lE×(lM×(lN×(lE×(lE×Unit))))))))))))))))))->OA)(u9_4:Bool)(u9_6:Int)(u9_7:Int)(u9_8:Int)(u9_9:Int)(u9_10:Int)(u9_15:lM)(u9_16:lN)(u9_17:lE)(u9_18:lE):OA:=
 let y7:=(⟨u9_11,u9_12,u9_13,u9_14⟩:Host);let y1:=(zmA y7 u9_0 u9_5 u9_3);let y3:=(inb u9_0 (ln y1.Mons));let y0:=(zOz u9_11 u9_12 u9_13 u9_14 u9_0 u9_5 u9_3);let y6:=(ix y0.Tables u9_1 zcK);let y4:=(ix y0.Guests u9_1 zx).Live; (oN (zlA y7 u9_0 u9_5 u9_3) (oN y3 (oN y3 (oN (inb u9_1 (ln y0.Tables)) (oN y3 (oN (inb u9_1 (ln y0.Guests)) (oN y3 (oN (zG0 y6 y4 y0.Outer u9_2) (oN (inb u9_1 (ln y0.Tables)) (share (up y1.Mons u9_0 ({ y0 with Tables:=(up y0.Tables u9_1 (zKb y6 y4 y0.Outer u9_2)) }:Mon)) (fun x11=>let y5:=(ix x11 u9_0 zf).Tables;let y2:=(ix y5 u9_1 zcK); (oN (inb u9_0 (ln x11)) (oN (inb u9_1 (ln y5)) (oN (zCR y2 u9_2) (r10 (u9_2,(u9_4,(u9_6,(u9_7,(u9_8,(u9_9,(u9_10,((zrU y2 u9_2).Page,((zrU y2 u9_2).Rights,(y1.Memory,(x11,(y1.Buffer,(y1.IoBuffer,(u9_15,(u9_16,(u9_17,(u9_18,()))))))))))))))))))))))))))))))))
def zkc (N:Nat)(u9_0:Int)(u9_1:Int)(u9_2:Int)(u9_3:Int)(u9_4:Bool)(u9_5:Int)(u9_6:Int)(u9_7:Int)(u9_8:Int)(u9_9:Int)(u9_10:Int)(u9_11:lM)(u9_12:lN)(u9_13:lE)(u9_14:lE)(u9_15:lM)(u9_16:lN)(u9_17:lE)(u9_18:lE):OA:=
 let y3:=(ix u9_12 u9_0 zf).Tables;let y0:=(ix y3 u9_1 zcK);let y2:=(zrU y0 u9_2); (oN (inb u9_0 (ln u9_12)) (oN (inb u9_1 (ln y3)) (oN (zCR y0 u9_2) (share (fun (s10:(Int×(Bool×(Int×(Int×(Int×(Int×(Int×(Int×(Int×(lM×(lN×(lE×(lE×(lM×(lN×(lE×(lE×Unit))))))))))))))))))=>(zn8 N s10.1 s10.2.1 s10.2.2.1 s10.2.2.2.2.2.2.2.1 s10.2.2.2.2.2.2.2.2.1 s10.2.2.2.2.2.2.2.2.2.1 s10.2.2.2.2.2.2.2.2.2.2.1 s10.2.2.2.2.2.2.2.2.2.2.2.1 s10.2.2.2.2.2.2.2.2.2.2.2.2.1 s10.2.2.2.2.2.2.2.2.2.2.2.2.2.1 s10.2.2.2.2.2.2.2.2.2.2.2.2.2.2.1 s10.2.2.2.2.2.2.2.2.2.2.2.2.2.2.2.1 s10.2.2.2.2.2.2.2.2.2.2.2.2.2.2.2.2.1)) (fun r10=>let y1:=(zqo N u9_11 u9_12 u9_13 u9_14 u9_0 u9_5 u9_3 u9_1 u9_2 r10 u9_4 u9_6 u9_7 u9_8 u9_9 u9_10 u9_15 u9_16 u9_17 u9_18); (cond (nB (zCQ y0 u9_2)) y1 (cond (ieq y2.Page (-1)) y1 (oN (zfq y2.Rights u9_3) (cond (nB (zfY y2.Rights u9_3)) y1 (r10 (u9_2,(u9_4,(u9_6,(u9_7,(u9_8,(u9_9,(u9_10,(y2.Page,(y2.Rights,(u9_11,(u9_12,(u9_13,(u9_14,(u9_15,(u9_16,(u9_17,(u9_18,())))))))))))))))))))))))))))
def zqp (N:Nat)(a2:Int)(a0:Host)(a3 a4 a5:Int)(a1:lE)(a6:Bool):OA:=
 let y3:=(zrW a2 a3);let y2:=(zOA a0 a2 a3 a4 a5);let y1:=(ix a0.Mons a2 zf);let y5:=(ix y1.Guests a3 zx).Live;let y0:=(zlM a1 y3 a4);let y4:=y0.Rights; (oN (inb a2 (ln a0.Mons)) (oN (inb a3 (ln y1.Guests)) (oN (zlQ y5 a4 a5) (cond (nB (zf0 y5 a4 a5)) (some [(aH a0),(aI (-1)),(aB false)]) (oN (zjW a2 a3) (cond (ieq a5 2) (oN (inb a2 (ln a0.Mons)) (oN (inb y2 (ln y1.Dirty)) (share (up a0.Mons a2 ({ y1 with Dirty:=(up y1.Dirty y2 true) }:Mon)) (fun x8=>(oN (zlN a1 y3 a4) (share (fun (s9:(Int×(Int×(Int×(Int×(Bool×(Int×(Int×(Int×(Int×(Int×(Int×(lM×(lN×(lE×(lE×(lM×(lN×(lE×(lE×Unit))))))))))))))))))))=>(zkc N s9.1 s9.2.1 s9.2.2.1 s9.2.2.2.1 s9.2.2.2.2.1 s9.2.2.2.2.2.1 s9.2.2.2.2.2.2.1 s9.2.2.2.2.2.2.2.1 s9.2.2.2.2.2.2.2.2.1 s9.2.2.2.2.2.2.2.2.2.1 s9.2.2.2.2.2.2.2.2.2.2.1 s9.2.2.2.2.2.2.2.2.2.2.2.1 s9.2.2.2.2.2.2.2.2.2.2.2.2.1 s9.2.2.2.2.2.2.2.2.2.2.2.2.2.1 s9.2.2.2.2.2.2.2.2.2.2.2.2.2.2.1 s9.2.2.2.2.2.2.2.2.2.2.2.2.2.2.2.1 s9.2.2.2.2.2.2.2.2.2.2.2.2.2.2.2.2.1 s9.2.2.2.2.2.2.2.2.2.2.2.2.2.2.2.2.2.1 s9.2.2.2.2.2.2.2.2.2.2.2.2.2.2.2.2.2.2.1)) (fun r9=>(cond (ziN a1 y3 a4) (oN (zfq y4 a5) (cond (zfY y4 a5) (some [(aH ({ a0 with Mons:=x8 }:Host)),(aI y0.Host),(aB true)]) (r9 (a2,(a3,(a4,(a5,(a6,(y2,(y3,(y0.Tag,(y0.Page,(y0.Host,(y4,(a0.Memory,(x8,(a0.Buffer,(a0.IoBuffer,([],([],([],([],())))))))))))))))))))))) (r9 (a2,(a3,(a4,(a5,(a6,(y2,(y3,(y0.Tag,(y0.Page,(y0.Host,(y4,(a0.Memory,(x8,(a0.Buffer,(a0.IoBuffer,([],([],([],([],())))))))))))))))))))))))))))) (oN (zlN a1 y3 a4) (share (fun (s8:(Int×(Int×(Int×(Int×(Bool×(Int×(Int×(Int×(Int×(Int×(Int×(lM×(lN×(lE×(lE×(lM×(lN×(lE×(lE×Unit))))))))))))))))))))=>(zkc N s8.1 s8.2.1 s8.2.2.1 s8.2.2.2.1 s8.2.2.2.2.1 s8.2.2.2.2.2.1 s8.2.2.2.2.2.2.1 s8.2.2.2.2.2.2.2.1 s8.2.2.2.2.2.2.2.2.1 s8.2.2.2.2.2.2.2.2.2.1 s8.2.2.2.2.2.2.2.2.2.2.1 s8.2.2.2.2.2.2.2.2.2.2.2.1 s8.2.2.2.2.2.2.2.2.2.2.2.2.1 s8.2.2.2.2.2.2.2.2.2.2.2.2.2.1 s8.2.2.2.2.2.2.2.2.2.2.2.2.2.2.1 s8.2.2.2.2.2.2.2.2.2.2.2.2.2.2.2.1 s8.2.2.2.2.2.2.2.2.2.2.2.2.2.2.2.2.1 s8.2.2.2.2.2.2.2.2.2.2.2.2.2.2.2.2.2.1 s8.2.2.2.2.2.2.2.2.2.2.2.2.2.2.2.2.2.2.1)) (fun r8=>(cond (ziN a1 y3 a4) (oN (zfq y4 a5) (cond (zfY y4 a5) (some [(aH a0),(aI y0.Host),(aB true)]) (r8 (a2,(a3,(a4,(a5,(a6,(y2,(y3,(y0.Tag,(y0.Page,(y0.Host,(y4,(a0.Memory,(a0.Mons,(a0.Buffer,(a0.IoBuffer,([],([],([],([],())))))))))))))))))))))) (r8 (a2,(a3,(a4,(a5,(a6,(y2,(y3,(y0.Tag,(y0.Page,(y0.Host,(y4,(a0.Memory,(a0.Mons,(a0.Buffer,(a0.IoBuffer,([],([],([],([],()))))))))))))))))))))))))))))))
def zo1 (N:Nat)(a0:Host)(a1:lE)(a2 a3:Int)(a4 a5:Int)(a6:Bool):OA:=
 let y1:=(zqp N a2 a0 a3 a4 a5 a1 a6);let y0:=(wsub .i64 (ln (ix a0.Mons a2 zf).Guests) 1); (oN (zeN a0) (cond (nB (zeM a0)) (some [(aH a0),(aI (-1)),(aB false)]) (oN (zI a2 0 (wsub .i64 (ln a0.Mons) 1)) (cond (nB (zL a2 0 (wsub .i64 (ln a0.Mons) 1))) (some [(aH a0),(aI (-1)),(aB false)]) (oN (inb a2 (ln a0.Mons)) (oN (zI a3 0 y0) (cond (nB (zL a3 0 y0)) (some [(aH a0),(aI (-1)),(aB false)]) (cond (ine a5 1) (cond (ine a5 2) (some [(aH a0),(aI (-1)),(aB false)]) y1) y1))))))))
def zqY:FuncId->Nat->Option Tmpl:=zo [(36,999999,{ n:=0,tm:=[],lo:=[],ro:=[] }),(36,1007023,{ n:=210,tm:=[(2,ti),(3,ti),(4,ti),(5,ti),(6,.b),(7,.lp 0 0),(14,.lp 1 0),(17,ti),(19,ti),(20,.lp 2 0)],lo:=[(0,[.sl 0 [],.sl 1 [],.sl 2 [],.sl 3 []]),(1,[.sl 4 [],.sl 5 [],.sl 6 [],.sl 7 []]),(2,[ti,ti,ti,ti])],ro:=[(0,(.sl .int),true),(1,.mon,true),(2,.entry,true),(3,.entry,true),(4,(.sl .int),true),(5,.mon,true),(6,.entry,true),(7,.entry,true)],kr:=1 }),(36,1009011,{ n:=210,tm:=[(4,ti),(6,.b),(7,.lp 0 0),(14,.lp 1 0),(19,ti),(20,.lp 2 0),(22,.lp 3 0)],lo:=[(0,[.sl 0 [],.sl 1 [],.sl 2 [],.sl 3 []]),(1,[.sl 4 [],.sl 5 [],.sl 6 [],.sl 7 []]),(2,[ti,ti,ti,ti]),(3,[ti,ti])],ro:=[(0,(.sl .int),true),(1,.mon,true),(2,.entry,true),(3,.entry,true),(4,(.sl .int),true),(5,.mon,true),(6,.entry,true),(7,.entry,true)],kr:=1 }),(36,1005003,{ n:=210,tm:=[(7,.lp 0 0),(14,.lp 1 0),(22,.lp 2 0)],lo:=[(0,[.sl 0 [],.sl 1 [],.sl 2 [],.sl 3 []]),(1,[.sl 4 [],.sl 5 [],.sl 6 [],.sl 7 []]),(2,[ti,ti])],ro:=[(0,(.sl .int),true),(1,.mon,true),(2,.entry,true),(3,.entry,true),(4,(.sl .int),true),(5,.mon,true),(6,.entry,true),(7,.entry,true)],kr:=1 })]
theorem zMH (N:Nat)(a0:Host)(a2 a3:Int)(a4 a5:Int)(a6:Bool):zP6 (cQ zlD zor zXB zX4) zqY N 12 36 [true,true,true,true,false,false,false,false,false,false] [(4,2)] 1 1 [[0],[1],[2],[4],[7]] .mon [aH a0,aS .entry a0.Buffer,aI a2,aI a3,aI a4,aI a5,aB a6]=zo1 N a0 a0.Buffer a2 a3 a4 a5 a6:=by kernel_rfl
theorem zMI (N:Nat)(a0:Host)(a2 a3:Int)(a4 a5:Int)(a6:Bool):zP6 (cQ zlD zor zXB zX4) zqY N 12 36 [true,true,true,true,false,false,false,false,false,false] [(4,3)] 1 1 [[0],[1],[2],[4],[7]] .mon [aH a0,aS .entry a0.IoBuffer,aI a2,aI a3,aI a4,aI a5,aB a6]=zo1 N a0 a0.IoBuffer a2 a3 a4 a5 a6:=by kernel_rfl
theorem zCD {N:Nat}{r:Host}{m g page:Int}{io:Bool}{z1 z2 z3 z4}(hb:r.Buffer.length<=1048576)(hi:r.IoBuffer.length<=1048576) :
 zn8 N page io (zdq m g) (zdk (zbK r m g) page).Page (zdk (zbK r m g) page).Rights r.Memory r.Mons r.Buffer r.IoBuffer z1 z2 z3 z4=some (zit (zd0 r m g page io)):=by
 unfold zn8 oN
 conv=>zeta
 refine shr ?_;cases io
 .exact zdI rfl (must (zbr hb) rfl)
 .exact must rfl (must (zbr hi) rfl)
theorem zQZ {N:Nat}{r:Host}{m g page need q:Int}{io:Bool}{R:OA}{r11}{u6 u7 u8 u9 u10 z1 z2 z3 z4}(A:LookAt r m g q need)(hr:r11 (page,(io,(u6,(u7,(u8,(u9,(u10,((zdk (zbK (zb7 (mended r m q need) m g page) m g) page).Page,((zdk (zbK (zb7 (mended r m q need) m g page) m g) page).Rights,((zb7 (mended r m q need) m g page).Memory,((zb7 (mended r m q need) m g page).Mons,((zb7 (mended r m q need) m g page).Buffer,((zb7 (mended r m q need) m g page).IoBuffer,(z1,(z2,(z3,(z4,())))))))))))))))))=R) :
 zqo N r.Memory r.Mons r.Buffer r.IoBuffer m q need g page r11 io u6 u7 u8 u9 u10 z1 z2 z3 z4=R:=by
 have M:=zlI A.kp A.hm A.hg;have F:=zlI (A.fill page) A.hm A.hg;unfold zqo oN
 conv=>zeta
 exact must (zbr A.mend) (must (zl M.hm) (must (zl M.hm) (must (zl M.ht) (must (zl M.hm) (must (zl M.hg) (must (zl M.hm) (must (zbr M.hk) (must (zl M.ht) (shr (must (zl F.hm) (must (zl F.ht) (must (zbr F.hk) hr))))))))))))
theorem zVY {r:Host}{m g page need:Int}(h:zhN (zbK r m g) page=false):zdT r m g page need=true:=by
 unfold zdT;rw[h];rfl
theorem zVZ {r:Host}{m g page need:Int}(h:ieq (zdk (zbK r m g) page).Page (-1)=true):zdT r m g page need=true:=by
 unfold zdT;rw[h];cases zhN (zbK r m g) page<;>rfl
theorem zV1 {r:Host}{m g page need:Int}(h:enough (zdk (zbK r m g) page).Rights need=false):zdT r m g page need=true:=by
 unfold zdT;rw[h];cases zhN (zbK r m g) page<;>cases ieq (zdk (zbK r m g) page).Page (-1)<;>rfl
theorem zV2 {r:Host}{m g page need:Int}(h1:zhN (zbK r m g) page=true)(h2:ieq (zdk (zbK r m g) page).Page (-1)=false)(h3:enough (zdk (zbK r m g) page).Rights need=true):zdT r m g page need=false:=by
 unfold zdT;rw[h1,h2,h3];rfl
theorem zrQ {r:Host}{m g page need q:Int}{io:Bool}(h:zdT r m g page need=true):(cond (zdT r m g page need) (zd0 (zb7 (mended r m q need) m g page) m g page io) (zd0 r m g page io))=zd0 (zb7 (mended r m q need) m g page) m g page io:=by
 rw[h];rfl
theorem zVF {r:Host}{m g page need q:Int}{io:Bool}(h:zdT r m g page need=false):(cond (zdT r m g page need) (zd0 (zb7 (mended r m q need) m g page) m g page io) (zd0 r m g page io))=zd0 r m g page io:=by
 rw[h];rfl
theorem zCE {N:Nat}{r:Host}{m g page need q:Int}{io:Bool}{u7 u8 u9 u10 z1 z2 z3 z4}(A:LookAt r m g q need) :
 zkc N m g page need io q (zdq m g) u7 u8 u9 u10 r.Memory r.Mons r.Buffer r.IoBuffer z1 z2 z3 z4=some (zit (cond (zdT r m g page need) (zd0 (zb7 (mended r m q need) m g page) m g page io) (zd0 r m g page io))):=by
 have M:=zlI ⟨A.fit.1,rfl⟩ A.hm A.hg;have F:=zlI (A.fill page) A.hm A.hg;unfold zkc oN nB
 conv=>zeta
 refine must (zl M.hm) (must (zl M.ht) (must (zbr M.hk) (shr (brN (fun h1=>?_) (fun h1=>br (fun h2=>?_) (fun h2=>must rfl (brN (fun h3=>?_) (fun h3=>?_))))))))
 .rw [zrQ (zVY h1)];exact zQZ A (zCD (r:=zb7 (mended r m q need) m g page) (m:=m) (g:=g) F.hb F.hi)
 .rw [zrQ (zVZ h2)];exact zQZ A (zCD (r:=zb7 (mended r m q need) m g page) (m:=m) (g:=g) F.hb F.hi)
 .rw [zrQ (zV1 h3)];exact zQZ A (zCD (r:=zb7 (mended r m q need) m g page) (m:=m) (g:=g) F.hb F.hi)
 .rw [zVF (zV2 h1 h2 h3)];exact zCD (r:=r) (m:=m) (g:=g) M.hb M.hi
theorem zCH {b:List Entry}{m g page need:Int}(h:(zpW b m g page).isSome=false):zgQ b m g page need=false:=by
 unfold zgQ;rw[h];rfl
theorem zmp {b:List Entry}{m g page need:Int}{x:Bool}(h1:(zpW b m g page).isSome=true)(h:enough ((zpW b m g page).getD ⟨0,0,0,0⟩).Rights need=x):zgQ b m g page need=x:=by
 unfold zgQ;rw[h1,h];rfl
theorem zmt {r:Host}{b:List Entry}{m g page need q:Int}{io:Bool}(h:zgQ b m g page need=false):zfp r b m g page need q io=bif zdT r m g page need then zd0 (zb7 (mended r m q need) m g page) m g page io else zd0 r m g page io:=by
 unfold zfp;rw[h];rfl
theorem zCK {r:Host}{b:List Entry}{m g page need q:Int}{io:Bool}(h:zgQ b m g page need=true):zfp r b m g page need q io=(r,((zpW b m g page).getD ⟨0,0,0,0⟩).Host,true):=by
 unfold zfp;rw[h];rfl
theorem zGQ {h:Host}{b:List Entry}{m g page need:Int}{io:Bool}(hh:zby h m g page need=true):lookOf h b m g page need io=zfp (cond (ieq need 2) (zbs h m (zbQ (zb4 h m g) page need)) h) b m g page need (zbQ (zb4 h m g) page need) io:=by
 unfold lookOf;rw[hh];rfl
theorem zY1 {N:Nat}{r:Host}{b:List Entry}{m g page need:Int}{io:Bool}(hs:SmH r)(hg:zbH r m g=true)(hn:zfb need=true) :
 zqp N m r g page need b io=some (zit (lookOf r b m g page need io)):=by
 obtain ⟨g1,g2,g3⟩:=zc0 hg;unfold zqp oN nB
 conv=>zeta
 refine must (zl g2) (must (zl g3) (must rfl (brN (fun hw=>?_) (fun hw=>must rfl ?_))))
 .have:zby r m g page need=false:=by
   unfold zby;rw[hg,hn,show zdn (zb4 r m g) page need=false from hw]
   rfl
  rw[zgp this];rfl
 .have hl:zby r m g page need=true:=by
   unfold zby;rw[hg,hn,show zdn (zb4 r m g) page need=true from hw]
   rfl
  obtain ⟨A,B⟩:=zBc hs hl;rw[zGQ hl];have hd:hasB (zbQ (zb4 r m g) page need) (ln (ix r.Mons m mZ).Dirty)=true:=zc9 (zca A.fit.1 g2).2.2.2.1 A.hq;refine br (fun h2=>?_) (fun h2=>?_)
  .rw [h2]
   show _=some (zit (zfp (zbs r m (zbQ (zb4 r m g) page need)) b m g page need (zbQ (zb4 r m g) page need) io))
   refine must (zl g2) (must (zl hd) (shr (must rfl (shr (br (fun f1=>must rfl (br (fun f2=>?_) (fun f2=>?_))) (fun f1=>?_))))))
   .rw [zCK (zmp f1 f2)];rfl
   .rw [zmt (zmp f1 f2)];exact zCE (r:=zbs r m (zbQ (zb4 r m g) page need)) B
   .rw [zmt (zCH f1)];exact zCE (r:=zbs r m (zbQ (zb4 r m g) page need)) B
  .rw [h2]
   show _=some (zit (zfp r b m g page need (zbQ (zb4 r m g) page need) io))
   refine must rfl (shr (br (fun f1=>must rfl (br (fun f2=>?_) (fun f2=>?_))) (fun f1=>?_)))
   .rw [zCK (zmp f1 f2)];rfl
   .rw [zmt (zmp f1 f2)];exact zCE A
   .rw [zmt (zCH f1)];exact zCE A
theorem zPH (a0:Host)(a1:List Entry)(a2 a3:Int)(a4 a5:Int)(a6:Bool)(hb:zbE big [aH a0,aS .entry a1,aI a2,aI a3,aI a4,aI a5,aB a6])(hc:zhB a0 a1 a2 a3 a4 a5 a6=true):∃N,zo1 N a0 a1 a2 a3 a4 a5 a6=some [aH (zel a0 a1 a2 a3 a4 a5 a6),aI (zhA a0 a1 a2 a3 a4 a5 a6),aB (zfx a0 a1 a2 a3 a4 a5 a6)]:=by
 have hs:=(zM a0).1 (zD.1 hc);refine ⟨0,?_⟩
 show _=some (zit (lookOf a0 a1 a2 a3 a4 a5 a6))
 unfold zo1 oN nB
 conv=>zeta
 refine must rfl (brN (fun h1=>?_) (fun h1=>must rfl ?_))
 .rw [zgp (zmu (zVu h1))];rfl
 rw[show zL a2 0 (wsub .i64 (ln a0.Mons) 1)=hasB a2 (ln a0.Mons) from zo0 hs.2.1.1 a2]
 refine brN (fun h2=>?_) (fun h2=>must (zl h2) (must rfl ?_))
 .rw [zgp (zmu (zVv h2))];rfl
 have hl:(ix a0.Mons a2 mZ).Guests.length<=1048576:=(hs.2.1.2 _ (zbv h2 _)).2.2.2.1.1;rw[show zL a3 0 (wsub .i64 (ln (ix a0.Mons a2 zf).Guests) 1)=hasB a3 (ln (ix a0.Mons a2 mZ).Guests) from zo0 hl a3]
 refine brN (fun h3=>?_) (fun h3=>?_)
 .rw [zgp (zmu (zVw h3))];rfl
 have hg:=zVx h1 h2 h3;have hno:∀{n:Int},zfb n=false->zby a0 a2 a3 a4 n=false:=fun {n} h=>by
  unfold zby;rw[hg,h];rfl
 rw[zon,zon];cases h4:ieq a5 1
 .cases h5:ieq a5 2
  .have:zfb a5=false:=by unfold zfb;rw[h4,h5];rfl
   rw[zgp (hno this)];rfl
  .exact zY1 hs hg (by unfold zfb;rw[h4,h5];rfl)
 .exact zY1 hs hg (by unfold zfb;rw[h4];rfl)
theorem ztR:zdN Tryz.prog 36 [true,true,true,true,false,false,false,false,false,false] (some (1,1,[[0],[1],[2],[4],[7]])) zlK:=by
 refine zKZ (kt:=.mon) (zcW zgA zq zbR zCY) (zd9 (by kernel_rfl)) ?_
 intro al avs rs hal heq hl hr h;have hb:=zhG hr;have hal':al=[(4,2)]\/al=[(4,3)]:=by
  rw[show zg1 36=[[(4,2)],[(4,3)]] from by kernel_rfl]at hal
  simpa using hal
 unfold zlK at h;split at h
 .rename_i a0_0 a0_1 a0_2 a0_3 a1 a2 a3 a4 a5 a6;obtain ⟨hc,rfl⟩:=zdS h;obtain ⟨N,hN⟩:=zPH (⟨a0_0,a0_1,a0_2,a0_3⟩:Host) a1 a2 a3 a4 a5 a6 hb hc;refine ⟨⟨_,rfl⟩,rfl,zqY,N,12,?_⟩;rcases hal' with rfl|rfl
  .have e:=heq 4 2 (by simp)
   simp only[zA,kA,AV.cvs] at e;cases e;exact (zMH N (⟨a0_0,a0_1,a0_2,a0_3⟩:Host) a2 a3 a4 a5 a6).trans hN
  .have e:=heq 4 3 (by simp)
   simp only[zA,kA,AV.cvs] at e;cases e;exact (zMI N (⟨a0_0,a0_1,a0_2,a0_3⟩:Host) a2 a3 a4 a5 a6).trans hN
 .cases h
def z2x:zeA:=[(36,([true,true,true,true,false,false,false,false,false,false],(some (1,1,[[0],[1],[2],[4],[7]])),zlK))]++zX4
theorem zgx:zdG z2x:=zmk zCY (by
 intro x hx;simp only[qG,qW,or_false]at hx;rcases hx with rfl
 .exact ztR)
def z6o:zO:=[(35,zqL)]++zlU
theorem zYN:zF z6o:=zh ztQ zdJ
def z7x:zeA:=[(36,([true,true,true,true,false,false,false,false,false,false],(some (1,1,[[0],[1],[2],[4],[7]])),zlK))]++zka
theorem z2w:zdG z7x:=zmk zu (by
 intro x hx;simp only[qG,qW,or_false]at hx;rcases hx with rfl
 .exact ztR)
@[simp] abbrev zyc (h:Host)(m g page need:Int):Bool:=pc (zcb h)
@[simp] abbrev zrq (h:Host)(m g page need:Int):Host:=(lookOf h h.Buffer m g page need false).1
@[simp] abbrev zya (h:Host)(m g page need:Int):Int:=(lookOf h h.Buffer m g page need false).2.1
@[simp] abbrev zyb (h:Host)(m g page need:Int):Bool:=(lookOf h h.Buffer m g page need false).2.2
def zBK:Run:=rF5 dH dI dI dI dI fun b c d e f=>(zyc b c d e f,[aH (zrq b c d e f),aI (zya b c d e f),aB (zyb b c d e f)])
def zHG (N:Nat)(a0:Host)(a1 a2:Int)(a3 a4:Int):OA:=
 let y0:=(zk a0); (oN (zbC a0) (oN (zhB y0 y0.Buffer a1 a2 a3 a4 false) (some [(aH (zel y0 y0.Buffer a1 a2 a3 a4 false)),(aI (zhA y0 y0.Buffer a1 a2 a3 a4 false)),(aB (zfx y0 y0.Buffer a1 a2 a3 a4 false))])))
theorem zRN (a0:Host)(a1 a2:Int)(a3 a4:Int)(hc:zyc a0 a1 a2 a3 a4=true):∃N,zHG N a0 a1 a2 a3 a4=some [aH (zrq a0 a1 a2 a3 a4),aI (zya a0 a1 a2 a3 a4),aB (zyb a0 a1 a2 a3 a4)]:=by
 have hs:=zD.1 hc;refine ⟨0,?_⟩;unfold zHG oN
 conv=>zeta
 exact must (zbr hs) (must (zbr hs) rfl)
theorem zLr:vF 11 zBK:=kF5 zYN zbe zn z2w (zo []) zRN
section
open Go Go.RowKit Go.Maps
theorem zBh {H:Type}{P:Program}{e:TypeId}(he:P.underlying e=some .bool){v:Value}{z:DataW H×List MemPlace}(h:plainElem P e v=some z):∃x,v = .bool x/\z=(.lit (.bool x),[]):=by
 unfold plainElem at h;rw[he]at h;cases v<;>simp at h;exact ⟨_,rfl,h.symm⟩
theorem zUr {H:Type}{P:Program}(w:World){ops:Array Oper}{rest:List Oper}{o:Oper}{a:Act}{Q:Exit->Act->World->Prop}(hg:o.guard=none)(m x:Operand)(t:TypeId)(hop:o.op=Op.lookup t m x false)(k e:TypeId)(K:Keyed P k)(ht:P.underlying t=some (.map k e))(he:P.underlying e=some .bool)(hz:(zeroValue e).run P w = .ok (.bool false) w)(b n:Nat)(D:DataW H)(hm:a.eval m = .map (some b))(hown:w.ownsMap P k (plainElem P e) b n D)(key:Value)(kl:Lit)(hx:a.eval x=key)(hkey:keyOf P k key=some kl)(hK:∀c:Bool,D.atKey kl (.lit (.bool false)) = .lit (.bool c)->wpList P ops Q rest (a.put o.dst (.bool c)) w) :
 wpList P ops Q (o :: rest) a w:=by
 refine wpList_plain hg fun K' hK'=>?_;obtain ⟨v,ps,hrun,hv⟩:=hown.lookup K ht hz (plainElem_bool he false) hkey;obtain ⟨c,rfl,hc⟩:=zBh he hv;simp only[jN]at hc;unfold Oper.wp;simp[execOp,hop,hm,hx,hrun,Result.andThen];exact hK' _ _ (hK c hc.1)
def mapOf:List Int->DataW Unit
 | []=>.map []
 | p :: u=>(mapOf u).put (.int .i64 p) (.lit (.bool true))
theorem zSh:∀u,IsMap (mapOf u)
 | []=>isMap_empty
 | p :: u=>(zSh u).put _ _
theorem zGR (p:Int):∀u,(mapOf u).atKey (.int .i64 p) (.lit (.bool false)) = .lit (.bool (u.contains p))
 | []=>rfl
 | q :: u=>by
  by_cases h:p=q
  .subst h;rw[mapOf,atKey_put_same (zSh u) (by exact True.intro)]
   simp
  .rw [mapOf,atKey_put_other (by intro e;cases e;exact h rfl),zGR p u]
   simp[h]
theorem zVD:Keyed Tryz.prog 3:=int_keyed Tryz.underlying3
theorem z2D (w:World):(zeroValue 4).run Tryz.prog w = .ok (.bool false) w:=by kernel_rfl
def wf64 (p:Int):Prop:=(Lit.int .i64 p).wf=true
def apS:List (Int×Int)->List Int->Option (List Int)
 | [],u=>some u
 | s :: l,u=>if s.1 = -1 then apS l u else if u.contains s.1 then none else apS l (s.1 :: u)
def apM:List (List (Int×Int))->List Int->Bool
 | [],_=>true
 | m :: l,u=>match apS m u with
  | none=>false
  | some u'=>apM l u'
theorem zKQ {l:List (Int×Int)}{j:Nat}{p r:Int}(h:l[j]?=some (p,r))(u:List Int):apS (l.drop j) u=if p = -1 then apS (l.drop (j+1)) u else if u.contains p then none else apS (l.drop (j+1)) (p :: u):=by
 obtain ⟨hj,he⟩:=qA.1 h;rw[kC hj,he];rfl
theorem z4o {l:List (List (Int×Int))}{k:Nat}{m:List (Int×Int)}(h:l[k]?=some m)(u:List Int):apM (l.drop k) u=match apS m u with|none=>false|some u'=>apM (l.drop (k+1)) u':=by
 obtain ⟨hj,he⟩:=qA.1 h;rw[kC hj,he];rfl
structure SlotsAt (w:World) (B:Nat) (a:Option Addr) (l:List (Int×Int)):Prop where
 at1:∀j p r,l[j]?=some (p,r)->∃b off,a=some ⟨b,off,none⟩/\b<B/\w.cell? ⟨b,off+j*2,none⟩=some (.int .i64 p)/\w.cell? ⟨b,off+j*2+1,none⟩=some (.int .i64 r)/\wf64 p
structure MonsAt (w:World) (B:Nat) (a:Option Addr) (l:List (List (Int×Int))):Prop where
 at1:∀i m,l[i]?=some m->∃b off a2 cap p1 n1 q1 p2 n2 q2 p3 n3 q3 p4 n4 q4 x5 x6 p7 n7 q7 x8,a=some ⟨b,off,none⟩/\b<B/\w.cell? ⟨b,off+i*9,none⟩=some (.slice a2 m.length cap)/\SlotsAt w B a2 m/\m.length<=1048576 /\
  w.cell? ⟨b,off+i*9+1,none⟩=some (.slice p1 n1 q1)/\w.cell? ⟨b,off+i*9+2,none⟩=some (.slice p2 n2 q2)/\w.cell? ⟨b,off+i*9+3,none⟩=some (.slice p3 n3 q3)/\w.cell? ⟨b,off+i*9+4,none⟩=some (.slice p4 n4 q4) /\
  w.cell? ⟨b,off+i*9+5,none⟩=some (.int .i64 x5)/\w.cell? ⟨b,off+i*9+6,none⟩=some (.int .i64 x6)/\w.cell? ⟨b,off+i*9+7,none⟩=some (.slice p7 n7 q7)/\w.cell? ⟨b,off+i*9+8,none⟩=some (.int .i64 x8)
theorem z5A (m x y:Value)(a:Option Addr)(cap:Nat)(L:List (List (Int×Int)))(w:World)(hL:L.length<=1048576)(hat:MonsAt w w.heap.size a L) :
 Calls Tryz.prog 45 #[.agg #[m,.slice a L.length cap,x,y]] w fun e w'=>e = .returned (.bool (apM L []))/\Below w.heap.size w w':=by
 have hmm:=@run_makeMap Tryz.prog
 go_enter Tryz.func45,Tryz.ntmps45
 go_wp2
 go_loopw [12] (fun i wr=>∃(k:Nat) (u:List Int),k<=L.length/\i = .int .i64 k/\apM (L.drop k) u=apM L []/\wr.ownsMap Tryz.prog 3 (plainElem Tryz.prog 4) (w.heap.size+1) (k*1048576) (mapOf u)/\Below w.heap.size w wr/\w.heap.size+2<=wr.heap.size) (fun i _=>L.length-(intOf i).toNat)
 case atStart=>exact ⟨0,[],jU _,rfl,rfl,by
  have h:=World.ownsMap_made (H:=Unit) (w.alloc (Obj.cells #[m,Value.slice a L.length cap,x,y] 28)) Tryz.prog 3 (plainElem Tryz.prog 4);rw[show (w.alloc (Obj.cells #[m,Value.slice a L.length cap,x,y] 28)).heap.size=w.heap.size+1 from by simp]at h
  rw[Nat.zero_mul];exact h,((Below.refl _ _).alloc (qX _) _).alloc (by simp) _,by simp⟩
 case round =>
  obtain ⟨k,u,hk,rfl,hres,hown,hnx,hws⟩:=hrel
  by_cases hkl:k<L.length
  .obtain ⟨mm,hmm2⟩:∃mm,L[k]?=some mm:=⟨_,qB (by omega)⟩
   obtain ⟨b,off,a2,cap2,p1,n1,q1,p2,n2,q2,p3,n3,q3,p4,n4,q4,x5,x6,p7,n7,q7,x8,rfl,hb,e0,hsl,hml,e1,e2,e3,e4,e5,e6,e7,e8⟩:=hat.at1 k mm hmm2;obtain ⟨len2,hlen2⟩:∃n,n=mm.length:=⟨_,rfl⟩;rw[<- hlen2] at e0 hml;rw[<- hnx.cell (by exact hb)] at e0 e1 e2 e3 e4 e5 e6 e7 e8
   go_wp2
   go_loopw [19] (fun j ws=>∃(q:Nat) (v:List Int),q<=mm.length/\j = .int .i64 q/\(match apS (mm.drop q) v with|none=>false|some u'=>apM (L.drop (k+1)) u')=apM L []/\ws.ownsMap Tryz.prog 3 (plainElem Tryz.prog 4) (w.heap.size+1) (k*1048576+q) (mapOf v)/\Below w.heap.size w ws/\w.heap.size+2<=ws.heap.size) (fun j _=>mm.length-(intOf j).toNat)
   case atStart=>exact ⟨0,u,jU _,rfl,by rw[uY,<- z4o hmm2];exact hres,(hown.alloc _).mono (kX _ _),hnx.alloc (by omega) _,by simp;omega⟩
   case round =>
    obtain ⟨q,v,hq,rfl,hres2,hown2,hnx2,hws2⟩:=hrel
    by_cases hql:q<mm.length
    .obtain ⟨⟨p,r⟩,hpr⟩:∃mm2,mm[q]?=some mm2:=⟨_,qB hql⟩;obtain ⟨b2,off2,rfl,hb2,f0,f1,hwf⟩:=hsl.at1 q p r hpr;rw[<- hnx2.cell (by exact hb2)] at f0 f1
     have hkey:keyOf Tryz.prog 3 (.int .i64 p)=some (.int .i64 p):=keyOf_int_mk Tryz.underlying3 hwf
     go_wp2_with (first
      | (at_lookup;refine zUr _ rfl _ _ 138 rfl 3 4 zVD Tryz.underlying138 Tryz.underlying4 (z2D _) (w.heap.size+1) _ _ rfl (hown2.alloc _) _ _ rfl hkey ?_;intro c hat)
      | (at_mapUpdate;refine wpList_mapUpdate_own _ rfl _ _ _ 138 rfl 3 4 zVD Tryz.underlying138 _ (w.heap.size+1) _ _ rfl (hown2.alloc _) (by unfold maxLen;omega) _ _ _ rfl rfl hkey _ [] (plainElem_bool Tryz.underlying4 true) ?_;intro w1 hown1 hgrow1)
      | go_in)
     .have h:p = -1:=by simpa using ‹(p == -1)=true›
      have e:=zKQ hpr v;rw[if_pos h] at e;refine ⟨⟨q+1,v,by omega,by go_num,by rw[<- e];exact hres2,(hown2.alloc _).mono (by omega),hnx2.alloc (by omega) _,by simp;omega⟩,by simp[intOf];omega⟩
     .have h:p≠-1:=by simpa using ‹(p == -1)=false›
      have hc:c=true:=by assumption
      subst hc;rw[zGR]at hat;have hin:v.contains p=true:=by simpa using hat
      have e:=zKQ hpr v;rw[if_neg h,if_pos hin] at e;rw[e]at hres2
      go_ret
      exact ⟨by rw[<- hres2];rfl,hnx2.alloc (by omega) _⟩
     .have h:p≠-1:=by simpa using ‹(p == -1)=false›
      have hc:c=false:=by assumption
      subst hc;rw[zGR]at hat;have hin:v.contains p=false:=by simpa using hat
      have e:=zKQ hpr v;rw[if_neg h,if_neg (by rw[hin];simp)] at e
      have s1:=hgrow1.size;simp at s1
      go_roundw
      case rel =>
       exact ⟨q+1,p :: v,by omega,by go_num,by rw[<- e];exact hres2,by simpa [kY,mapOf] using hown1,(hnx2.alloc (by omega) _).grown hgrow1 (by simp;omega) (fun j hj=>by cases hj;omega),by omega⟩
      case measure=>simp[intOf];omega
    .have hqe:q=mm.length:=by omega
     subst hqe
     go_wp2
     rw[vA]at hres2;exact ⟨⟨k+1,v,by omega,by go_num,hres2,hown2.mono (by omega),hnx2,hws2⟩,by simp[intOf];omega⟩
  .have hke:k=L.length:=by omega
   subst hke
   go_wp2
   go_ret
   exact ⟨by rw[<- hres,vA];rfl,hnx⟩
def pairs (l:List Slot):List (Int×Int):=l.map fun s=>(s.Page,s.Rights)
def z0C (h:Host):Prop:=∀m∈h.Mons,∀s∈m.Outer,wf64 s.Page
theorem zXV {w:World}{B:Nat}{v:Value}{l:List Slot}{S:zU}(h:Rep false w v (.s .slot l) S)(hS:∀x,S x->x<B)(hwf:∀s∈l,wf64 s.Page):∃a cap,v = .slice a (pairs l).length cap/\SlotsAt w B a (pairs l):=by
 cases h with
 | nil=>exact ⟨none,0,rfl,⟨fun j p r h=>by simp[pairs]at h⟩⟩
 | void _ a _ ho=>exact ⟨some a,0,rfl,⟨fun j p r h=>by simp[pairs]at h⟩⟩
 | sl _ _ b off cap arr e fz V K _ hb hfz hlen hcap hsz hSb hsub hdis hv hc =>
  refine ⟨some ⟨b,off,none⟩,cap,by simp[pairs],⟨fun j p r hj=>?_⟩⟩
  unfold pairs at hj;rw[qN]at hj;cases hx:l[j]? with
  | none=>rw[hx]at hj;cases hj
  | some s =>
   rw[hx]at hj;cases hj;have hjl:j<l.length:=(qA.1 hx).1;have hw2:Ty.width .slot=2:=rfl;have c0:=hv j 0 hjl (by decide)
   have c1:=hv j 1 hjl (by decide)
   rw[(hc j s hx 0 (.i .i64 s.Page) rfl).int_inv] at c0;rw[(hc j s hx 1 (.i .i64 s.Rights) rfl).int_inv] at c1;exact ⟨b,off,rfl,hS b hSb,by rw[cell_of_block hb];exact c0,by rw[cell_of_block hb];exact c1,hwf s (qM hx)⟩
theorem zp9 {w:World}{v:Value}{t:Ty}{l:List t.den}{S:zU}(h:Rep false w v (.s t l) S):∃p n q,v = .slice p n q:=by
 obtain ⟨⟨a,cap,hv,_⟩,_⟩:=h.len;exact ⟨a,_,cap,hv⟩
theorem zZD {w:World}{v:Value}{l:List Mon}{S:zU}(h:Rep false w v (.s .mon l) S)(hS:∀x,S x->x<w.heap.size)(hwf:∀m∈l,∀s∈m.Outer,wf64 s.Page)(hsm:∀m∈l,m.Outer.length<=1048576) :
 ∃a cap,v = .slice a (l.map fun m=>pairs m.Outer).length cap/\MonsAt w w.heap.size a (l.map fun m=>pairs m.Outer):=by
 cases h with
 | nil=>exact ⟨none,0,rfl,⟨fun j m h=>by simp at h⟩⟩
 | void _ a _ ho=>exact ⟨some a,0,rfl,⟨fun j m h=>by simp at h⟩⟩
 | sl _ _ b off cap arr e fz V K _ hb hfz hlen hcap hsz hSb hsub hdis hv hc =>
  refine ⟨some ⟨b,off,none⟩,cap,by simp,⟨fun i mm hi=>?_⟩⟩
  rw[qN]at hi;cases hx:l[i]? with
  | none=>rw[hx]at hi;cases hi
  | some m =>
   rw[hx]at hi;cases hi;have hil:i<l.length:=(qA.1 hx).1;have hK:∀j,j<9->∀x,K i j x->x<w.heap.size:=fun j hj x hk=>hS x (hsub i j x hil hj hk).1;have c:∀j,j<9->w.cell? ⟨b,off+i*9+j,none⟩=some (V i j):=fun j hj=>by rw[cell_of_block hb];exact hv i j hil hj
   have hm:=qM hx;obtain ⟨a2,cap2,e0,hsl⟩:=zXV (hc i m hx 0 (.s .slot m.Outer) rfl) (hK 0 (by decide)) (hwf m hm)
   obtain ⟨p1,n1,q1,e1⟩:=zp9 (hc i m hx 1 (.s (.sl .int) m.Out) rfl);obtain ⟨p2,n2,q2,e2⟩:=zp9 (hc i m hx 2 (.s .bool m.Dirty) rfl);obtain ⟨p3,n3,q3,e3⟩:=zp9 (hc i m hx 3 (.s .guest m.Guests) rfl);obtain ⟨p4,n4,q4,e4⟩:=zp9 (hc i m hx 4 (.s .int m.Outs) rfl);have e5:=(hc i m hx 5 (.i .i64 m.Pending) rfl).int_inv;have e6:=(hc i m hx 6 (.i .i64 m.Traps) rfl).int_inv;obtain ⟨p7,n7,q7,e7⟩:=zp9 (hc i m hx 7 (.s .kept m.Tables) rfl);have e8:=(hc i m hx 8 (.i .i64 m.Own) rfl).int_inv;refine ⟨b,off,a2,cap2,p1,n1,q1,p2,n2,q2,p3,n3,q3,p4,n4,q4,m.Pending,m.Traps,p7,n7,q7,m.Own,rfl,hS b hSb,?_,hsl,by simpa [pairs] using hsm m hm,?_,?_,?_,?_,?_,?_,?_,?_⟩
   .rw [<- e0];exact c 0 (by decide)
   .rw [<- e1];exact c 1 (by decide)
   .rw [<- e2];exact c 2 (by decide)
   .rw [<- e3];exact c 3 (by decide)
   .rw [<- e4];exact c 4 (by decide)
   .rw [<- e5];exact c 5 (by decide)
   .rw [<- e6];exact c 6 (by decide)
   .rw [<- e7];exact c 7 (by decide)
   .rw [<- e8];exact c 8 (by decide)
def zrl (h:Host):Bool:=apM (h.Mons.map fun m=>pairs m.Outer) []
@[simp] abbrev zwa (h:Host):Bool:=pc (zcb h/\z0C h)
@[simp] abbrev zA1 (h:Host):Bool:=zrl h
def zl7:List AV->Option (Bool×List AV)
 | [.agg [.s (.sl .int) m,.s .mon l,.s .entry b,.s .entry c]]=>some (zwa ⟨m,l,b,c⟩,[.one (.b (zA1 ⟨m,l,b,c⟩))])
 | _=>none
theorem zAL:vF 45 zl7:=by
 refine ⟨zd9 (by kernel_rfl),?_⟩
 intro w avs xs rs hrep hrun;unfold zl7 at hrun;split at hrun
 .rename_i m l b c;simp only[qC,jN]at hrun;obtain ⟨hc,rfl⟩:=hrun;obtain ⟨hsm,hwf⟩:=zD.1 hc;have hl:xs.length=4:=hrep.1
  match xs,hl with
  | [x0,x1,x2,x3],_ =>
   have hR:Rep false w x1 (.s .mon l) (fun b=>b<w.heap.size):=hrep.2 1 _ x1 rfl rfl;have hmon:=hsm.mons;obtain ⟨a,cap,rfl,hat⟩:=zZD hR (fun x hx=>hx) hwf (fun m hm=>by
    obtain ⟨i,hi⟩:=qQ.1 hm;exact (hmon.inv.2 m hm (.s .slot m.Outer) (by simp[Ty.cells])).len)
   refine (z5A x0 x2 x3 a cap _ w (by have:=hmon.len;unfold sm at this;simpa using this) hat).mono ?_
   rintro r w' ⟨rfl,hB⟩
   refine ⟨⟨hB.os,hB.tape,hB.output,hB.size,fun b hb=>hB.block b hb⟩,[.bool _],fun _ _=>False,⟨rfl,fun i c x hc hx=>?_⟩,rfl,⟨fun i x _ h=>h.elim,fun i j x _ _ h=>h.elim⟩⟩;cases i with
   | zero=>cases hc;cases hx;exact .b _ _
   | succ i=>simp[zA,AV.cvs]at hc
 .cases hrun
end
def spS:List Slot->List Int->Option (List Int)
 | [],u=>some u
 | s :: l,u=>bif ieq s.Page (-1) then spS l u else (cond (u.any (fun z=>ieq z s.Page)) none (spS l (ap u [s.Page])))
def spM:List Mon->List Int->Bool
 | [],_=>true
 | m :: l,u=>match spS m.Outer u with
  | none=>false
  | some v=>spM l v
def zCM:List Mon->Nat
 | []=>0
 | m :: l=>m.Outer.length+zCM l
theorem zVz {x y:Int}:(ieq x y=true)↔x=y:=by simp[ieq]
theorem z4n (u:List Int)(p:Int):u.any (fun z=>ieq z p)=u.reverse.contains p:=by
 cases h:u.any (fun z=>ieq z p)
 .have:¬ u.reverse.contains p=true:=fun hc=>by
   rw[kL]at h;have hm:p∈u:=by simpa using hc
   exact h p hm (by simp[ieq])
  cases hc:u.reverse.contains p
  .rfl
  .exact absurd hc this
 .obtain ⟨z,hz,e⟩:=kO.1 h;rw[zVz.1 e]at hz;simpa using hz
theorem zS2:∀(l:List Slot) (u:List Int),apS (pairs l) u.reverse=(spS l u).map List.reverse
 | [],u=>rfl
 | s :: l,u=>by
  show (if s.Page = -1 then apS (pairs l) u.reverse else if u.reverse.contains s.Page then none else apS (pairs l) (s.Page :: u.reverse))=_
  unfold spS;rw[z4n]
  by_cases h:s.Page = -1
  .rw [if_pos h,zVz.2 h,cT];exact zS2 l u
  .rw [if_neg h,show ieq s.Page (-1)=false from by simp[ieq,h],cF]
   cases hc:u.reverse.contains s.Page
   .have:=zS2 l (ap u [s.Page]);rw[show (ap u [s.Page]).reverse=s.Page :: u.reverse from by simp[ap]] at this
    simpa using this
   .rfl
theorem z0n:∀(l:List Mon) (u:List Int),apM (l.map fun (m:Mon)=>pairs m.Outer) u.reverse=spM l u
 | [],u=>rfl
 | m :: l,u=>by
  show (match apS (pairs m.Outer) u.reverse with|none=>false|some v=>apM (l.map fun (m:Mon)=>pairs m.Outer) v)=_
  rw[zS2];unfold spM;cases spS m.Outer u with
  | none=>rfl
  | some v=>exact z0n l v
theorem z0H (h:Host):zrl h=spM h.Mons []:=z0n h.Mons []
def z5U (h:Host):Prop:=zcb h/\zCM h.Mons<=16777216
def z7e:zO:=[(45,zl7),(46,zk2),(47,zjR)]++zWu
theorem z1k:zF z7e:=zh zAL (zh zn3 (zh zmW zxk))
theorem zED:∀(l:List Mon) (u:List Bool),zgE l u=true->∀x∈l,zdp x=true
 | [],_,_,x,hx=>by cases hx
 | m :: l,u,h,x,hx=>by
  unfold zgE at h;cases hm:zdp m
  .rw [hm]at h;cases h
  .rw [hm]at h;simp only[cT]at h;cases hu:zfL m.Outer u with
   | none=>rw[hu]at h;cases h
   | some u' =>
    rw[hu]at h;rcases qG.1 hx with rfl|hx
    .exact hm
    .exact zED l u' h x hx
theorem zEE {h:Host}(hh:zbI h=true):∀x∈h.Mons,zdp x=true:=by
 unfold zbI at hh;simp only[zcw]at hh;exact zED _ _ hh.2.2.2.2
theorem z2g {t:List Slot}{n:Int}(h:zcn t n 12=true):∀s∈t,-1<=s.Page/\s.Page<12:=by
 intro s hs;unfold zcn at h;simp only[zcw]at h;have h2:=qL.1 h.1 s hs;unfold zdd at h2;cases h3:zcg s noSlot
 .rw [h3]at h2;simp only[cF,zcw]at h2;have:=zfm.1 h2.2.1;rw[show wsub .i64 12 1=11 from rfl] at this
  omega
 .unfold zcg at h3;rw[qD]at h3;have:s.Page = -1:=qE h3.1;omega
theorem zOe:∀l:List Mon,(∀x∈l,zdp x=true)->zCM l=8*l.length
 | [],_=>rfl
 | m :: l,h=>by
  have h1:=zmE (zht (h m (by simp)))
  have h2:=zOe l (fun x hx=>h x (by simp[hx]))
  simp only[zCM,qV,h2,ln] at *;omega
theorem zYc {h:Host}(hs:zcb h)(hh:zbI h=true):z5U h:=by
 refine ⟨hs,?_⟩;rw[zOe _ (zEE hh)];have:=zJd hh;omega
theorem zZS {h:Host}(hh:zbI h=true):z0C h:=by
 intro m hm s hs;have:=z2g (zht (zEE hh m hm)) s hs;unfold wf64 Lit.wf;simp only[qD,decide_eq_true_iff];have h1:IntKind.i64.min = -9223372036854775808:=rfl;have h2:IntKind.i64.max=9223372036854775807:=rfl;rw[h1,h2];omega
def zoU (h:Host):Bool:=bif zbI h then (cond (zrl h) (cond (zlC h) (cond (zjw h h.Buffer) (zjw h h.IoBuffer) false) false) false) else false
@[simp] abbrev zsp (h:Host):Bool:=pc (zcb h)
@[simp] abbrev zm2 (h:Host):Bool:=zoU h
def zwq:Run:=rF1 dH fun b=>(zsp b,[aB (zm2 b)])
def zzP (N:Nat)(a0:Host):OA:=
 (oN (zrb a0) (cond (zsn a0) (oN (zwa a0) (cond (zA1 a0) (oN (zm3 a0) (cond (zgT a0) (oN (zil a0 a0.Buffer) (cond (zfe a0 a0.Buffer) (oN (zil a0 a0.IoBuffer) (some [(aB (zfe a0 a0.IoBuffer))])) oF)) oF)) oF)) oF))
theorem zLW (a0:Host)(hc:zsp a0=true):∃N,zzP N a0=some [aB (zm2 a0)]:=by
 have hs:=zD.1 hc;have hA:zbI a0=true->z5U a0:=zYc hs;have hP:zbI a0=true->z0C a0:=zZS
 refine ⟨0,?_⟩;unfold zzP oN;refine must rfl (br (fun _=>mu (br (fun _=>must rfl (br (fun _=>must rfl (br (fun _=>must rfl ?_) (fun _=>?_))) (fun _=>?_))) (fun _=>?_))) (fun _=>?_))
 all_goals first|rfl|(simp only [*,zm2,zoU,zgT,zfe,cT,cF]<;>rfl)|simp_all[Ty.cells,zm2,zoU,zgT,zfe]
theorem zFS:vF 16 zwq:=kF1 z1k zq zn zu (zo []) zLW
def gOf (h:Host)(m g:Int):Guest:=ix (ix h.Mons m mZ).Guests g gZ
def zjO (h:Host)(m g:Int)(x:Guest):Host:={ h with Mons:=up h.Mons m { ix h.Mons m mZ with Guests:=up (ix h.Mons m mZ).Guests g x } }
def zlJ (h:Host)(m g:Int)(x:Guest)(w:Bool):Host×Int×Bool:=lookOf h h.Buffer m g (zbb (address x)) (zbX w) false
def ziC (L:Host×Int×Bool)(m g:Int)(x:Guest)(w:Bool):Host :=
 bif L.2.2 then (cond w (zjO { L.1 with Memory:=zbz L.1.Memory L.2.1 (zcU (address x)) x.A } m g (zbW x)) (zjO L.1 m g (loaded x (cellAt L.1.Memory L.2.1 (zcU (address x))))))
 else zjO L.1 m g (stopped x (zpV (zbb (address x)) w))
def owned (h:Host)(m:Int):Host:=bif ilt (ix h.Mons m mZ).Own 1000000000 then { h with Mons:=up h.Mons m { ix h.Mons m mZ with Own:=zG .i64 (ix h.Mons m mZ).Own 1 } } else h
def znf (h:Host)(m n:Int):Host:=bif ilt (ln (ix h.Mons m mZ).Outs) 40 then { h with Mons:=up h.Mons m { ix h.Mons m mZ with Outs:=ap (ix h.Mons m mZ).Outs [n] } } else h
def zfS (h:Host)(m:Int)(x:Guest)(w:Int):Host:=bif (cond (ine w 6) (ieq (zx0 (ix h.Mons m mZ).Traps x.Ctl.Traps (zw7 w)) 2) false) then owned h m else h
def zfR (h:Host)(m:Int)(x:Guest)(w:Int):Host:=bif (cond (zjl x.Ctl.Traps w) (ieq w 5) false) then znf h m (zce x.Prog x.Pc).X else h
def zuW (h:Host)(m g:Int)(x:Guest)(w:Int):Host:=zjO (zfR (zfS h m x w) m x w) m g (ziD x x.Ctl.Traps w)
def zS6 (h:Host)(m g:Int)(x:Guest)(w:Int):Host×Bool :=
 bif ieq w 0 then (h,false) else (bif ieq w 1 then (zjO h m g (interrupted x),true) else (bif ieq w 2 then (zjO h m g (plainly x),true) else
  (cond (cond (ieq w 3) true (ieq w 4)) (ziC (zlJ h m g x (ieq w 4)) m g x (ieq w 4),true) (zuW h m g x w,true))))
def zbt (h:Host)(m g:Int):Host×Bool:=bif zbH h m g then zS6 h m g (gOf h m g) (zQ (gOf h m g)) else (h,false)
def zfg (x:Host×Bool):List AV:=[.agg (zbd x.1),.one (.b x.2)]
theorem znZ {h:Host}{m g:Int}(hs:SmH h)(hm:hasB m (ln h.Mons)=true)(hg:hasB g (ln (ix h.Mons m mZ).Guests)=true):SmG (gOf h m g):=(hs.2.1.2 _ (zbv hm _)).2.2.2.1.2 _ (zbv hg _)
theorem zXS {h:Host}{m g:Int}{x:Guest}(hs:Shape h)(hm:hasB m (ln h.Mons)=true)(hx:SmG x):Shape (zjO h m g x):=by
 obtain ⟨g1,g2⟩:=zca hs hm;exact zhC hs ⟨g1.1,g1.2.1,g1.2.2.1,zCV g1.2.2.2.1 hx,g1.2.2.2.2⟩ ⟨g2.1,g2.2.1,g2.2.2.1,by simpa using g2.2.2.2⟩
theorem zJL {h:Host}{m:Int}(hm:hasB m (ln h.Mons)=true)(x:Mon):ix (up h.Mons m x) m mZ=x:=by
 obtain ⟨k,rfl,hk⟩:=zdu (n:=h.Mons.length) hm;exact zdD hk _ _
@[simp] abbrev zeh (h:Host)(m g:Int):Bool:=pc (zcb h)
@[simp] abbrev zB9 (h:Host)(m g:Int):Host:=(zbt h m g).1
@[simp] abbrev zCa (h:Host)(m g:Int):Bool:=(zbt h m g).2
theorem z3M {α:Type}{l:List α}{x:α}(h:ilt (ln l) 40=true):few (ln (ap l [x]))=true:=by
 have:=qE h;simp only[ln] at this;exact zgD (by simp[ap];omega)
theorem zV5 {h:Host}{m:Int}{x:Guest}{w:Int}(hh:(cond (zjl x.Ctl.Traps w) (ieq w 5) false)=false):zfR h m x w=h:=by
 unfold zfR;rw[hh];rfl
theorem zOw {h:Host}{m:Int}{x:Guest}{w:Int}(hh:ilt (ln (ix h.Mons m mZ).Outs) 40=false):zfR h m x w=h:=by
 unfold zfR znf;rw[hh];cases (cond (zjl x.Ctl.Traps w) (ieq w 5) false)<;>rfl
theorem zTe {h:Host}{m:Int}{x:Guest}{w:Int}(h1:zjl x.Ctl.Traps w=true)(h2:ieq w 5=true)(hh:ilt (ln (ix h.Mons m mZ).Outs) 40=true):zfR h m x w={ h with Mons:=up h.Mons m { ix h.Mons m mZ with Outs:=ap (ix h.Mons m mZ).Outs [(zce x.Prog x.Pc).X] } }:=by
 unfold zfR znf;rw[h1,h2,hh];rfl
theorem z0t {h:Host}{m:Int}{x:Guest}{w:Int}(h1:zjl x.Ctl.Traps w=false):zfR h m x w=h:=zV5 (by rw[h1];rfl)
theorem zKw {h:Host}{m:Int}{x:Guest}{w:Int}(h1:ieq w 5=false):zfR h m x w=h:=zV5 (by rw[h1];cases zjl x.Ctl.Traps w<;>rfl)
theorem zZf (a:Int):(cond (ieq a a) true false)=true:=by rw[zd7];rfl
theorem zkV {h:Host}{m g:Int}(hh:zbH h m g=false):zbt h m g=(h,false):=by
 unfold zbt;rw[hh];rfl
theorem ziB {h:Host}{m g:Int}(hh:zbH h m g=true):zbt h m g=zS6 h m g (gOf h m g) (zQ (gOf h m g)):=by
 unfold zbt;rw[hh];rfl
theorem zkY {a b:Bool}(h:(cond a b false)=true):a=true/\b=true:=by
 cases a
 .cases h
 .exact ⟨rfl,h⟩
theorem zhE {a b:Bool}(ha:a=true)(hb:b=true):(cond a b false)=true:=by
 rw[ha];exact hb
theorem zV8 {h:Host}{m:Int}{x:Guest}{w:Int}(h6:ine w 6=true)(h0:ieq (zx0 (ix h.Mons m mZ).Traps x.Ctl.Traps (zw7 w)) 2=true)(h9:ilt (ix h.Mons m mZ).Own 1000000000=true):zfS h m x w={ h with Mons:=up h.Mons m { ix h.Mons m mZ with Own:=zG .i64 (ix h.Mons m mZ).Own 1 } }:=by
 unfold zfS owned;rw[h6,h0,h9];rfl
theorem zV6 {h:Host}{m:Int}{x:Guest}{w:Int}(h0:ieq (zx0 (ix h.Mons m mZ).Traps x.Ctl.Traps (zw7 w)) 2=false):zfS h m x w=h:=by
 unfold zfS;rw[h0];cases ine w 6<;>rfl
theorem zV7 {h:Host}{m:Int}{x:Guest}{w:Int}(h9:ilt (ix h.Mons m mZ).Own 1000000000=false):zfS h m x w=h:=by
 unfold zfS owned;rw[h9];cases (cond (ine w 6) (ieq (zx0 (ix h.Mons m mZ).Traps x.Ctl.Traps (zw7 w)) 2) false)<;>rfl
theorem z5Q {h:Host}{m:Int}{x:Guest}:zfS h m x 6=h:=rfl
theorem zml {h h':Host}{m g:Int}{x:Guest}{w:Int}(e:zfS h m x w=h'):zuW h m g x w=zjO (zfR h' m x w) m g (ziD x x.Ctl.Traps w):=by
 unfold zuW;rw[e]
theorem z2z (x:Guest):ieq (zQ x) 0=true\/ieq (zQ x) 1=true\/ieq (zQ x) 2=true\/ieq (zQ x) 3=true\/ieq (zQ x) 4=true\/ieq (zQ x) 5=true\/ieq (zQ x) 6=true\/ieq (zQ x) 7=true:=by
 cases h0:ieq (zQ x) 0
 .cases h1:ieq (zQ x) 1
  .cases h2:ieq (zQ x) 2
   .cases h3:ieq (zQ x) 3
    .cases h4:ieq (zQ x) 4
     .cases h5:ieq (zQ x) 5
      .cases h6:ieq (zQ x) 6
       .exact .inr (.inr (.inr (.inr (.inr (.inr (.inr (z7A x h0 h1 h2 h3 h4 h5 h6)))))))
       .exact .inr (.inr (.inr (.inr (.inr (.inr (.inl rfl))))))
      .exact .inr (.inr (.inr (.inr (.inr (.inl rfl)))))
     .exact .inr (.inr (.inr (.inr (.inl rfl))))
    .exact .inr (.inr (.inr (.inl rfl)))
   .exact .inr (.inr (.inl rfl))
  .exact .inr (.inl rfl)
 .exact .inl rfl
abbrev zzq (x:Guest):Bool:=bif zes x then ieq (zQ x) 0 else false
def zno:List AV->Option (Bool×List AV)
 | [.agg [.s .ins c,.i .i64 d,.i .i64 e,.s .slot f,.s .slot g,.i .i64 h,.i .i64 j,.b k,.i .i64 l,.i .i64 m,.i .i64 n,.b o,.i .i64 p,.b q,.s .int r]]=>some ((zzq (⟨c,d,e,f,g,⟨h,j,k⟩,l,⟨m,n,o,p⟩,q,r⟩:Guest)),[.one (.i .i64 0)])
 | _=>none
theorem zDj:vF 252 zno:=by
 refine ⟨zb3.1,fun w avs xs rs hrep h=>?_⟩;unfold zno at h;split at h
 .obtain ⟨hc,rfl⟩:=zdS h;obtain ⟨h1,h2⟩:=zkY hc;exact zb3.2 w _ xs _ hrep (congr (congrArg (fun c v=>some (c,[AV.one (CV.i .i64 v)])) h1) (qE h2))
 .cases h
def z4H:zO:=[(252,zno)]++zlD
theorem zWx:zF z4H:=zh zDj zgA
@[simp] abbrev zut (h:Host)(m g:Int):Bool:=bif zeh h m g then ieq (zQ (gOf h m g)) 0 else false
@[simp] abbrev zur (h:Host)(m g:Int):Host:=(zbt h m g).1
@[simp] abbrev zus (h:Host)(m g:Int):Bool:=(zbt h m g).2
def zDG:Run:=rF3 dH dI dI fun b c d=>(zut b c d,[aH (zur b c d),aB (zus b c d)])
def ztn (N:Nat)(a0:Host)(a1 a2:Int):OA:=
 let y1:=(zk a0);let y0:=(ix y1.Mons a1 zf).Guests; (oN (zbC a0) (oN (zgj y1 a1 a2) (cond (nB (zh1 y1 a1 a2)) (some [(aH y1),(aB false)]) (oN (inb a1 (ln y1.Mons)) (oN (inb a2 (ln y0)) (oN (zzq (ix y0 a2 zx)) (some [(aH y1),(aB false)])))))))
abbrev zzr (x:Guest):Bool:=bif zes x then ieq (zQ x) 1 else false
def znp:List AV->Option (Bool×List AV)
 | [.agg [.s .ins c,.i .i64 d,.i .i64 e,.s .slot f,.s .slot g,.i .i64 h,.i .i64 j,.b k,.i .i64 l,.i .i64 m,.i .i64 n,.b o,.i .i64 p,.b q,.s .int r]]=>some ((zzr (⟨c,d,e,f,g,⟨h,j,k⟩,l,⟨m,n,o,p⟩,q,r⟩:Guest)),[.one (.i .i64 1)])
 | _=>none
theorem zDk:vF 252 znp:=by
 refine ⟨zb3.1,fun w avs xs rs hrep h=>?_⟩;unfold znp at h;split at h
 .obtain ⟨hc,rfl⟩:=zdS h;obtain ⟨h1,h2⟩:=zkY hc;exact zb3.2 w _ xs _ hrep (congr (congrArg (fun c v=>some (c,[AV.one (CV.i .i64 v)])) h1) (qE h2))
 .cases h
def z4I:zO:=[(252,znp)]++zlD
theorem zWy:zF z4I:=zh zDk zgA
@[simp] abbrev zuw (h:Host)(m g:Int):Bool:=bif zeh h m g then ieq (zQ (gOf h m g)) 1 else false
@[simp] abbrev zuu (h:Host)(m g:Int):Host:=(zbt h m g).1
@[simp] abbrev zuv (h:Host)(m g:Int):Bool:=(zbt h m g).2
def zDH:Run:=rF3 dH dI dI fun b c d=>(zuw b c d,[aH (zuu b c d),aB (zuv b c d)])
def zto (N:Nat)(a0:Host)(a1 a2:Int):OA:=
 let y2:=(zk a0);let y0:=(ix y2.Mons a1 zf);let y1:=(ix y0.Guests a2 zx); (oN (zbC a0) (oN (zgj y2 a1 a2) (cond (nB (zh1 y2 a1 a2)) (some [(aH y2),(aB false)]) (oN (inb a1 (ln y2.Mons)) (oN (inb a2 (ln y0.Guests)) (oN (zzr y1) (oN (inb a1 (ln y2.Mons)) (oN (znK y1) (oN (inb a2 (ln y0.Guests)) (share (up y2.Mons a1 ({ y0 with Guests:=(up y0.Guests a2 (ziO y1)) }:Mon)) (fun x4=>(some [(aH ({ y2 with Mons:=x4 }:Host)),(aB true)]))))))))))))
abbrev zzs (x:Guest):Bool:=bif zes x then ieq (zQ x) 2 else false
def znq:List AV->Option (Bool×List AV)
 | [.agg [.s .ins c,.i .i64 d,.i .i64 e,.s .slot f,.s .slot g,.i .i64 h,.i .i64 j,.b k,.i .i64 l,.i .i64 m,.i .i64 n,.b o,.i .i64 p,.b q,.s .int r]]=>some ((zzs (⟨c,d,e,f,g,⟨h,j,k⟩,l,⟨m,n,o,p⟩,q,r⟩:Guest)),[.one (.i .i64 2)])
 | _=>none
theorem zDl:vF 252 znq:=by
 refine ⟨zb3.1,fun w avs xs rs hrep h=>?_⟩;unfold znq at h;split at h
 .obtain ⟨hc,rfl⟩:=zdS h;obtain ⟨h1,h2⟩:=zkY hc;exact zb3.2 w _ xs _ hrep (congr (congrArg (fun c v=>some (c,[AV.one (CV.i .i64 v)])) h1) (qE h2))
 .cases h
def z4J:zO:=[(252,znq)]++zlD
theorem zWz:zF z4J:=zh zDl zgA
@[simp] abbrev zuz (h:Host)(m g:Int):Bool:=bif zeh h m g then ieq (zQ (gOf h m g)) 2 else false
@[simp] abbrev zux (h:Host)(m g:Int):Host:=(zbt h m g).1
@[simp] abbrev zuy (h:Host)(m g:Int):Bool:=(zbt h m g).2
def zDI:Run:=rF3 dH dI dI fun b c d=>(zuz b c d,[aH (zux b c d),aB (zuy b c d)])
def ztp (N:Nat)(a0:Host)(a1 a2:Int):OA:=
 let y2:=(zk a0);let y0:=(ix y2.Mons a1 zf);let y1:=(ix y0.Guests a2 zx); (oN (zbC a0) (oN (zgj y2 a1 a2) (cond (nB (zh1 y2 a1 a2)) (some [(aH y2),(aB false)]) (oN (inb a1 (ln y2.Mons)) (oN (inb a2 (ln y0.Guests)) (oN (zzs y1) (oN (inb a1 (ln y2.Mons)) (oN (zvs y1) (oN (inb a2 (ln y0.Guests)) (share (up y2.Mons a1 ({ y0 with Guests:=(up y0.Guests a2 (zqf y1)) }:Mon)) (fun x4=>(some [(aH ({ y2 with Mons:=x4 }:Host)),(aB true)]))))))))))))
abbrev zzt (x:Guest):Bool:=bif zes x then ieq (zQ x) 3 else false
def znr:List AV->Option (Bool×List AV)
 | [.agg [.s .ins c,.i .i64 d,.i .i64 e,.s .slot f,.s .slot g,.i .i64 h,.i .i64 j,.b k,.i .i64 l,.i .i64 m,.i .i64 n,.b o,.i .i64 p,.b q,.s .int r]]=>some ((zzt (⟨c,d,e,f,g,⟨h,j,k⟩,l,⟨m,n,o,p⟩,q,r⟩:Guest)),[.one (.i .i64 3)])
 | _=>none
theorem zDm:vF 252 znr:=by
 refine ⟨zb3.1,fun w avs xs rs hrep h=>?_⟩;unfold znr at h;split at h
 .obtain ⟨hc,rfl⟩:=zdS h;obtain ⟨h1,h2⟩:=zkY hc;exact zb3.2 w _ xs _ hrep (congr (congrArg (fun c v=>some (c,[AV.one (CV.i .i64 v)])) h1) (qE h2))
 .cases h
def z4K:zO:=[(252,znr)]++zlD
theorem zWA:zF z4K:=zh zDm zgA
@[simp] abbrev zuC (h:Host)(m g:Int):Bool:=bif zeh h m g then ieq (zQ (gOf h m g)) 3 else false
@[simp] abbrev zuA (h:Host)(m g:Int):Host:=(zbt h m g).1
@[simp] abbrev zuB (h:Host)(m g:Int):Bool:=(zbt h m g).2
def zDJ:Run:=rF3 dH dI dI fun b c d=>(zuC b c d,[aH (zuA b c d),aB (zuB b c d)])
def ztq (N:Nat)(a0:Host)(a1 a2:Int):OA:=
 let y6:=(zk a0);let y9:=(ix y6.Mons a1 zf).Guests;let y1:=(ix y9 a2 zx);let y7:=(zh6 y1);let y8:=(zcA y7);let y4:=(zhA y6 y6.Buffer a1 a2 y8 (zeO false) false);let y0:=(zel y6 y6.Buffer a1 a2 y8 (zeO false) false);let y3:=(ix y0.Mons a1 zf);let y5:=(ix y3.Guests a2 zx);let y2:=({ y1 with Prog:=y5.Prog,Written:=y5.Written,Live:=y5.Live,Seen:=y5.Seen }:Guest); (oN (zbC a0) (oN (zgj y6 a1 a2) (cond (nB (zh1 y6 a1 a2)) (some [(aH y6),(aB false)]) (oN (inb a1 (ln y6.Mons)) (oN (inb a2 (ln y9)) (oN (zzt y1) (oN (zpm y1) (oN (zfK y7) (oN (zrt false) (oN (zhB y6 y6.Buffer a1 a2 y8 (zeO false) false) (cond (nB (zfx y6 y6.Buffer a1 a2 y8 (zeO false) false)) (oN (inb a1 (ln y0.Mons)) (oN (zfK y7) (oN (zlL y8 false) (oN (zdW y2 (zgf y8 false)) (oN (inb a2 (ln y3.Guests)) (share (up y0.Mons a1 ({ y3 with Guests:=(up y3.Guests a2 (zds y2 (zgf y8 false))) }:Mon)) (fun x4=>(some [(aH ({ y0 with Mons:=x4 }:Host)),(aB true)])))))))) (oN (inb a1 (ln y0.Mons)) (oN (zhV y7) (oN (zrp y0.Memory y4 (zd1 y7)) (oN (zx9 y2 (zmb y0.Memory y4 (zd1 y7))) (oN (inb a2 (ln y3.Guests)) (share (up y0.Mons a1 ({ y3 with Guests:=(up y3.Guests a2 (zs5 y2 (zmb y0.Memory y4 (zd1 y7)))) }:Mon)) (fun x4=>(some [(aH ({ y0 with Mons:=x4 }:Host)),(aB true)])))))))))))))))))))
abbrev zzu (x:Guest):Bool:=bif zes x then ieq (zQ x) 4 else false
def zns:List AV->Option (Bool×List AV)
 | [.agg [.s .ins c,.i .i64 d,.i .i64 e,.s .slot f,.s .slot g,.i .i64 h,.i .i64 j,.b k,.i .i64 l,.i .i64 m,.i .i64 n,.b o,.i .i64 p,.b q,.s .int r]]=>some ((zzu (⟨c,d,e,f,g,⟨h,j,k⟩,l,⟨m,n,o,p⟩,q,r⟩:Guest)),[.one (.i .i64 4)])
 | _=>none
theorem zDn:vF 252 zns:=by
 refine ⟨zb3.1,fun w avs xs rs hrep h=>?_⟩;unfold zns at h;split at h
 .obtain ⟨hc,rfl⟩:=zdS h;obtain ⟨h1,h2⟩:=zkY hc;exact zb3.2 w _ xs _ hrep (congr (congrArg (fun c v=>some (c,[AV.one (CV.i .i64 v)])) h1) (qE h2))
 .cases h
def z4L:zO:=[(252,zns)]++zlD
theorem zWB:zF z4L:=zh zDn zgA
@[simp] abbrev zuF (h:Host)(m g:Int):Bool:=bif zeh h m g then ieq (zQ (gOf h m g)) 4 else false
@[simp] abbrev zuD (h:Host)(m g:Int):Host:=(zbt h m g).1
@[simp] abbrev zuE (h:Host)(m g:Int):Bool:=(zbt h m g).2
def zDK:Run:=rF3 dH dI dI fun b c d=>(zuF b c d,[aH (zuD b c d),aB (zuE b c d)])
def ztr (N:Nat)(a0:Host)(a1 a2:Int):OA:=
 let y4:=(zk a0);let y8:=(ix y4.Mons a1 zf).Guests;let y1:=(ix y8 a2 zx);let y9:=(zh6 y1);let y5:=(zcA y9);let y7:=(zhA y4 y4.Buffer a1 a2 y5 (zeO true) false);let y0:=(zel y4 y4.Buffer a1 a2 y5 (zeO true) false);let y3:=(ix y0.Mons a1 zf);let y6:=(ix y3.Guests a2 zx);let y2:=({ y1 with Prog:=y6.Prog,Written:=y6.Written,Live:=y6.Live,Seen:=y6.Seen }:Guest); (oN (zbC a0) (oN (zgj y4 a1 a2) (cond (nB (zh1 y4 a1 a2)) (some [(aH y4),(aB false)]) (oN (inb a1 (ln y4.Mons)) (oN (inb a2 (ln y8)) (oN (zzu y1) (oN (zpm y1) (oN (zfK y9) (oN (zrt true) (oN (zhB y4 y4.Buffer a1 a2 y5 (zeO true) false) (cond (nB (zfx y4 y4.Buffer a1 a2 y5 (zeO true) false)) (oN (inb a1 (ln y0.Mons)) (oN (zfK y9) (oN (zlL y5 true) (oN (zdW y2 (zgf y5 true)) (oN (inb a2 (ln y3.Guests)) (share (up y0.Mons a1 ({ y3 with Guests:=(up y3.Guests a2 (zds y2 (zgf y5 true))) }:Mon)) (fun x4=>(some [(aH ({ y0 with Mons:=x4 }:Host)),(aB true)])))))))) (oN (zhV y9) (oN (zh0 y0.Memory y7 (zd1 y9) y1.A) (oN (inb a1 (ln y0.Mons)) (oN (zyi y2) (oN (inb a2 (ln y3.Guests)) (share (up y0.Mons a1 ({ y3 with Guests:=(up y3.Guests a2 (zs8 y2)) }:Mon)) (fun x4=>(some [(aH ({ y0 with Memory:=(ziw y0.Memory y7 (zd1 y9) y1.A),Mons:=x4 }:Host)),(aB true)])))))))))))))))))))
abbrev zzv (x:Guest):Bool:=bif zes x then ieq (zQ x) 5 else false
def znt:List AV->Option (Bool×List AV)
 | [.agg [.s .ins c,.i .i64 d,.i .i64 e,.s .slot f,.s .slot g,.i .i64 h,.i .i64 j,.b k,.i .i64 l,.i .i64 m,.i .i64 n,.b o,.i .i64 p,.b q,.s .int r]]=>some ((zzv (⟨c,d,e,f,g,⟨h,j,k⟩,l,⟨m,n,o,p⟩,q,r⟩:Guest)),[.one (.i .i64 5)])
 | _=>none
theorem zDo:vF 252 znt:=by
 refine ⟨zb3.1,fun w avs xs rs hrep h=>?_⟩;unfold znt at h;split at h
 .obtain ⟨hc,rfl⟩:=zdS h;obtain ⟨h1,h2⟩:=zkY hc;exact zb3.2 w _ xs _ hrep (congr (congrArg (fun c v=>some (c,[AV.one (CV.i .i64 v)])) h1) (qE h2))
 .cases h
def z4M:zO:=[(252,znt)]++zlD
theorem zWC:zF z4M:=zh zDo zgA
@[simp] abbrev zuI (h:Host)(m g:Int):Bool:=bif zeh h m g then ieq (zQ (gOf h m g)) 5 else false
@[simp] abbrev zuG (h:Host)(m g:Int):Host:=(zbt h m g).1
@[simp] abbrev zuH (h:Host)(m g:Int):Bool:=(zbt h m g).2
def zDL:Run:=rF3 dH dI dI fun b c d=>(zuI b c d,[aH (zuG b c d),aB (zuH b c d)])
def zts (N:Nat)(a0:Host)(a1 a2:Int):OA:=
 let y8:=(zk a0);let y4:=(inb a1 (ln y8.Mons));let y2:=(ix y8.Mons a1 zf);let y10:=(inb a2 (ln y2.Guests));let y0:=(ix y2.Guests a2 zx);let y9:=(ap y2.Outs [(zfk y0.Prog y0.Pc).X]);let y16:=(up y8.Mons a1 ({ y2 with Outs:=y9 }:Mon));let y7:=y0.Ctl.Traps;let y5:=(up y8.Mons a1 ({ y2 with Guests:=(up y2.Guests a2 (zb1 y0 y7 5)) }:Mon)); (oN (zbC a0) (oN (zgj y8 a1 a2) (cond (nB (zh1 y8 a1 a2)) (some [(aH y8),(aB false)]) (oN y4 (oN y10 (oN (zzv y0) (oN y4 (oN (zpC y2.Traps y7 1) (cond (ieq (zmx y2.Traps y7 1) 2) (oN y4 (cond (ilt y2.Own 1000000000) (oN y4 (oN y4 (share (up y8.Mons a1 ({ y2 with Own:=(zG .i64 y2.Own 1) }:Mon)) (fun x4=>let y12:=(inb a1 (ln x4));let y3:=(ix x4 a1 zf);let y6:=(ix y3.Guests a2 zx);let y17:=(ap y3.Outs [(zfk y6.Prog y0.Pc).X]);let y1:=({ y0 with Prog:=y6.Prog,Written:=y6.Written,Live:=y6.Live,Seen:=y6.Seen }:Guest);let y11:=(up x4 a1 ({ y3 with Guests:=(up y3.Guests a2 (zb1 y1 y7 5)) }:Mon)); (oN (zdF y1 y7 5) (cond (zc7 y1 y7 5) (oN y12 (cond (ilt (ln y3.Outs) 40) (oN y12 (oN (ze5 y6.Prog y0.Pc) (oN (few (ln y17)) (oN y12 (oN (cond (ieq a1 a1) true false) (share (up x4 a1 ({ y3 with Outs:=y17 }:Mon)) (fun x5=>let y13:=(ix x5 a1 zf); (oN (inb a1 (ln x5)) (oN (inb a2 (ln y13.Guests)) (share (up x5 a1 ({ y13 with Guests:=(up y13.Guests a2 (zb1 y1 y7 5)) }:Mon)) (fun x6=>(some [(aH ({ y8 with Mons:=x6 }:Host)),(aB true)])))))))))))) (oN y12 (oN (inb a2 (ln y3.Guests)) (share y11 (fun x5=>(some [(aH ({ y8 with Mons:=x5 }:Host)),(aB true)]))))))) (oN y12 (oN (inb a2 (ln y3.Guests)) (share y11 (fun x5=>(some [(aH ({ y8 with Mons:=x5 }:Host)),(aB true)]))))))))))) (oN (zdF y0 y7 5) (cond (zc7 y0 y7 5) (oN y4 (cond (ilt (ln y2.Outs) 40) (oN y4 (oN (ze5 y0.Prog y0.Pc) (oN (few (ln y9)) (oN y4 (oN (cond (ieq a1 a1) true false) (share y16 (fun x4=>let y14:=(ix x4 a1 zf); (oN (inb a1 (ln x4)) (oN (inb a2 (ln y14.Guests)) (share (up x4 a1 ({ y14 with Guests:=(up y14.Guests a2 (zb1 y0 y7 5)) }:Mon)) (fun x5=>(some [(aH ({ y8 with Mons:=x5 }:Host)),(aB true)])))))))))))) (oN y4 (oN y10 (share y5 (fun x4=>(some [(aH ({ y8 with Mons:=x4 }:Host)),(aB true)]))))))) (oN y4 (oN y10 (share y5 (fun x4=>(some [(aH ({ y8 with Mons:=x4 }:Host)),(aB true)]))))))))) (oN (zdF y0 y7 5) (cond (zc7 y0 y7 5) (oN y4 (cond (ilt (ln y2.Outs) 40) (oN y4 (oN (ze5 y0.Prog y0.Pc) (oN (few (ln y9)) (oN y4 (oN (cond (ieq a1 a1) true false) (share y16 (fun x4=>let y15:=(ix x4 a1 zf); (oN (inb a1 (ln x4)) (oN (inb a2 (ln y15.Guests)) (share (up x4 a1 ({ y15 with Guests:=(up y15.Guests a2 (zb1 y0 y7 5)) }:Mon)) (fun x5=>(some [(aH ({ y8 with Mons:=x5 }:Host)),(aB true)])))))))))))) (oN y4 (oN y10 (share y5 (fun x4=>(some [(aH ({ y8 with Mons:=x4 }:Host)),(aB true)]))))))) (oN y4 (oN y10 (share y5 (fun x4=>(some [(aH ({ y8 with Mons:=x4 }:Host)),(aB true)]))))))))))))))))
abbrev zzw (x:Guest):Bool:=bif zes x then ieq (zQ x) 6 else false
def znu:List AV->Option (Bool×List AV)
 | [.agg [.s .ins c,.i .i64 d,.i .i64 e,.s .slot f,.s .slot g,.i .i64 h,.i .i64 j,.b k,.i .i64 l,.i .i64 m,.i .i64 n,.b o,.i .i64 p,.b q,.s .int r]]=>some ((zzw (⟨c,d,e,f,g,⟨h,j,k⟩,l,⟨m,n,o,p⟩,q,r⟩:Guest)),[.one (.i .i64 6)])
 | _=>none
theorem zDp:vF 252 znu:=by
 refine ⟨zb3.1,fun w avs xs rs hrep h=>?_⟩;unfold znu at h;split at h
 .obtain ⟨hc,rfl⟩:=zdS h;obtain ⟨h1,h2⟩:=zkY hc;exact zb3.2 w _ xs _ hrep (congr (congrArg (fun c v=>some (c,[AV.one (CV.i .i64 v)])) h1) (qE h2))
 .cases h
def z4N:zO:=[(252,znu)]++zlD
theorem zWD:zF z4N:=zh zDp zgA
@[simp] abbrev zuL (h:Host)(m g:Int):Bool:=bif zeh h m g then ieq (zQ (gOf h m g)) 6 else false
@[simp] abbrev zuJ (h:Host)(m g:Int):Host:=(zbt h m g).1
@[simp] abbrev zuK (h:Host)(m g:Int):Bool:=(zbt h m g).2
def zDM:Run:=rF3 dH dI dI fun b c d=>(zuL b c d,[aH (zuJ b c d),aB (zuK b c d)])
def ztt (N:Nat)(a0:Host)(a1 a2:Int):OA:=
 let y3:=(zk a0);let y4:=(inb a1 (ln y3.Mons));let y0:=(ix y3.Mons a1 zf);let y5:=(inb a2 (ln y0.Guests));let y1:=(ix y0.Guests a2 zx);let y2:=(up y3.Mons a1 ({ y0 with Guests:=(up y0.Guests a2 (zb1 y1 y1.Ctl.Traps 6)) }:Mon)); (oN (zbC a0) (oN (zgj y3 a1 a2) (cond (nB (zh1 y3 a1 a2)) (some [(aH y3),(aB false)]) (oN y4 (oN y5 (oN (zzw y1) (oN (zdF y1 y1.Ctl.Traps 6) (cond (zc7 y1 y1.Ctl.Traps 6) (oN y4 (oN y5 (share y2 (fun x4=>(some [(aH ({ y3 with Mons:=x4 }:Host)),(aB true)]))))) (oN y4 (oN y5 (share y2 (fun x4=>(some [(aH ({ y3 with Mons:=x4 }:Host)),(aB true)])))))))))))))
abbrev zzx (x:Guest):Bool:=bif zes x then ieq (zQ x) 7 else false
def znv:List AV->Option (Bool×List AV)
 | [.agg [.s .ins c,.i .i64 d,.i .i64 e,.s .slot f,.s .slot g,.i .i64 h,.i .i64 j,.b k,.i .i64 l,.i .i64 m,.i .i64 n,.b o,.i .i64 p,.b q,.s .int r]]=>some ((zzx (⟨c,d,e,f,g,⟨h,j,k⟩,l,⟨m,n,o,p⟩,q,r⟩:Guest)),[.one (.i .i64 7)])
 | _=>none
theorem zDq:vF 252 znv:=by
 refine ⟨zb3.1,fun w avs xs rs hrep h=>?_⟩;unfold znv at h;split at h
 .obtain ⟨hc,rfl⟩:=zdS h;obtain ⟨h1,h2⟩:=zkY hc;exact zb3.2 w _ xs _ hrep (congr (congrArg (fun c v=>some (c,[AV.one (CV.i .i64 v)])) h1) (qE h2))
 .cases h
def z4O:zO:=[(252,znv)]++zlD
theorem zWE:zF z4O:=zh zDq zgA
@[simp] abbrev zuO (h:Host)(m g:Int):Bool:=bif zeh h m g then ieq (zQ (gOf h m g)) 7 else false
@[simp] abbrev zuM (h:Host)(m g:Int):Host:=(zbt h m g).1
@[simp] abbrev zuN (h:Host)(m g:Int):Bool:=(zbt h m g).2
def zDN:Run:=rF3 dH dI dI fun b c d=>(zuO b c d,[aH (zuM b c d),aB (zuN b c d)])
def ztu (N:Nat)(a0:Host)(a1 a2:Int):OA:=
 let y9:=(zk a0);let y4:=(inb a1 (ln y9.Mons));let y2:=(ix y9.Mons a1 zf);let y8:=(inb a2 (ln y2.Guests));let y0:=(ix y2.Guests a2 zx);let y6:=y0.Ctl.Traps;let y3:=(up y9.Mons a1 ({ y2 with Guests:=(up y2.Guests a2 (zb1 y0 y6 7)) }:Mon)); (oN (zbC a0) (oN (zgj y9 a1 a2) (cond (nB (zh1 y9 a1 a2)) (some [(aH y9),(aB false)]) (oN y4 (oN y8 (oN (zzx y0) (oN y4 (oN (zpC y2.Traps y6 2) (cond (ieq (zmx y2.Traps y6 2) 2) (oN y4 (cond (ilt y2.Own 1000000000) (oN y4 (oN y4 (share (up y9.Mons a1 ({ y2 with Own:=(zG .i64 y2.Own 1) }:Mon)) (fun x4=>let y5:=(ix x4 a1 zf);let y7:=(ix y5.Guests a2 zx);let y1:=({ y0 with Prog:=y7.Prog,Written:=y7.Written,Live:=y7.Live,Seen:=y7.Seen }:Guest);let y10:=(up x4 a1 ({ y5 with Guests:=(up y5.Guests a2 (zb1 y1 y6 7)) }:Mon)); (oN (zdF y1 y6 7) (cond (zc7 y1 y6 7) (oN (inb a1 (ln x4)) (oN (inb a2 (ln y5.Guests)) (share y10 (fun x5=>(some [(aH ({ y9 with Mons:=x5 }:Host)),(aB true)]))))) (oN (inb a1 (ln x4)) (oN (inb a2 (ln y5.Guests)) (share y10 (fun x5=>(some [(aH ({ y9 with Mons:=x5 }:Host)),(aB true)]))))))))))) (oN (zdF y0 y6 7) (cond (zc7 y0 y6 7) (oN y4 (oN y8 (share y3 (fun x4=>(some [(aH ({ y9 with Mons:=x4 }:Host)),(aB true)]))))) (oN y4 (oN y8 (share y3 (fun x4=>(some [(aH ({ y9 with Mons:=x4 }:Host)),(aB true)]))))))))) (oN (zdF y0 y6 7) (cond (zc7 y0 y6 7) (oN y4 (oN y8 (share y3 (fun x4=>(some [(aH ({ y9 with Mons:=x4 }:Host)),(aB true)]))))) (oN y4 (oN y8 (share y3 (fun x4=>(some [(aH ({ y9 with Mons:=x4 }:Host)),(aB true)]))))))))))))))))
theorem zDw (a0:Host)(a1 a2:Int)(hc:zut a0 a1 a2=true):∃N,ztn N a0 a1 a2=some [aH (zur a0 a1 a2),aB (zus a0 a1 a2)]:=by
 obtain ⟨hc,hw⟩:=zkY hc;have hs:=(zM a0).1 (zD.1 hc);refine ⟨0,?_⟩
 show _=some (zfg (zbt a0 a1 a2))
 unfold ztn oN nB
 conv=>zeta
 refine must (zbr ((zM _).2 hs)) (must (zbr ((zM _).2 hs)) (brN (fun hh=>?_) (fun hh=>?_)))
 .rw [zkV hh];rfl
 obtain ⟨g1,g2,g3⟩:=zc0 hh;have hx:=znZ hs g2 g3;have hk:zQ (gOf a0 a1 a2)=0:=qE hw;rw[ziB hh,hk];refine must (zl g2) (must (zl g3) (must (zhE rfl hw) ?_));rfl
theorem zn5:vF 190 zDG:=kF3 zWx zq zbR zgx (zo []) zDw
theorem zDx (a0:Host)(a1 a2:Int)(hc:zuw a0 a1 a2=true):∃N,zto N a0 a1 a2=some [aH (zuu a0 a1 a2),aB (zuv a0 a1 a2)]:=by
 obtain ⟨hc,hw⟩:=zkY hc;have hs:=(zM a0).1 (zD.1 hc);refine ⟨0,?_⟩
 show _=some (zfg (zbt a0 a1 a2))
 unfold zto oN nB
 conv=>zeta
 refine must (zbr ((zM _).2 hs)) (must (zbr ((zM _).2 hs)) (brN (fun hh=>?_) (fun hh=>?_)))
 .rw [zkV hh];rfl
 obtain ⟨g1,g2,g3⟩:=zc0 hh;have hx:=znZ hs g2 g3;have hk:zQ (gOf a0 a1 a2)=1:=qE hw;rw[ziB hh,hk];refine must (zl g2) (must (zl g3) (must (zhE rfl hw) ?_))
 show _=some (zfg (zjO a0 a1 a2 (interrupted (gOf a0 a1 a2)),true))
 exact must (zl g2) (must (zbr hx) (must (zl g3) rfl))
theorem zzE:vF 190 zDH:=kF3 zWy zq zbR zgx (zo []) zDx
theorem zDy (a0:Host)(a1 a2:Int)(hc:zuz a0 a1 a2=true):∃N,ztp N a0 a1 a2=some [aH (zux a0 a1 a2),aB (zuy a0 a1 a2)]:=by
 obtain ⟨hc,hw⟩:=zkY hc;have hs:=(zM a0).1 (zD.1 hc);refine ⟨0,?_⟩
 show _=some (zfg (zbt a0 a1 a2))
 unfold ztp oN nB
 conv=>zeta
 refine must (zbr ((zM _).2 hs)) (must (zbr ((zM _).2 hs)) (brN (fun hh=>?_) (fun hh=>?_)))
 .rw [zkV hh];rfl
 obtain ⟨g1,g2,g3⟩:=zc0 hh;have hx:=znZ hs g2 g3;have hk:zQ (gOf a0 a1 a2)=2:=qE hw;rw[ziB hh,hk];refine must (zl g2) (must (zl g3) (must (zhE rfl hw) ?_))
 show _=some (zfg (zjO a0 a1 a2 (plainly (gOf a0 a1 a2)),true))
 exact must (zl g2) (must (zbr hx) (must (zl g3) rfl))
theorem zzF:vF 190 zDI:=kF3 zWz zq zbR zgx (zo []) zDy
theorem zDz (a0:Host)(a1 a2:Int)(hc:zuC a0 a1 a2=true):∃N,ztq N a0 a1 a2=some [aH (zuA a0 a1 a2),aB (zuB a0 a1 a2)]:=by
 obtain ⟨hc,hw⟩:=zkY hc;have hs:=(zM a0).1 (zD.1 hc);refine ⟨0,?_⟩
 show _=some (zfg (zbt a0 a1 a2))
 unfold ztq oN nB
 conv=>zeta
 refine must (zbr ((zM _).2 hs)) (must (zbr ((zM _).2 hs)) (brN (fun hh=>?_) (fun hh=>?_)))
 .rw [zkV hh];rfl
 obtain ⟨g1,g2,g3⟩:=zc0 hh;have hx:=znZ hs g2 g3;have hk:zQ (gOf a0 a1 a2)=3:=qE hw;rw[ziB hh,hk];refine must (zl g2) (must (zl g3) (must (zhE rfl hw) ?_))
 show _=some (zfg (ziC (zlJ a0 a1 a2 (gOf a0 a1 a2) false) a1 a2 (gOf a0 a1 a2) false,true))
 have k:=zwd (b:=a0.Buffer) (page:=zbb (address (gOf a0 a1 a2))) (need:=zbX false) (io:=false) hs hh;have F:=zlI k g2 g3;have e3:(ix (ix (zel (zk a0) (zk a0).Buffer a1 a2 (zcA (zh6 (ix (ix (zk a0).Mons a1 zf).Guests a2 zx))) (zeO false) false).Mons a1 zf).Guests a2 zx)=(ix (ix (zk a0).Mons a1 zf).Guests a2 zx):=congrArg (fun l=>ix l a2 gZ) (zIy k.gs a1);rw[e3];unfold ziC;refine must rfl (must rfl (must rfl (must (zbr ((zM _).2 hs)) (brN (fun h=>?_) (fun h=>?_)))))
 .rw [show (zlJ a0 a1 a2 (gOf a0 a1 a2) false).2.2=false from h]
  exact must (zl F.hm) (must rfl (must rfl (must (zbr hx) (must (zl F.hg) rfl))))
 .rw [show (zlJ a0 a1 a2 (gOf a0 a1 a2) false).2.2=true from h]
  exact must (zl F.hm) (must rfl (must rfl (must (zbr hx) (must (zl F.hg) rfl))))
theorem zzG:vF 190 zDJ:=kF3 zWA zq zbR zgx (zo []) zDz
theorem zDA (a0:Host)(a1 a2:Int)(hc:zuF a0 a1 a2=true):∃N,ztr N a0 a1 a2=some [aH (zuD a0 a1 a2),aB (zuE a0 a1 a2)]:=by
 obtain ⟨hc,hw⟩:=zkY hc;have hs:=(zM a0).1 (zD.1 hc);refine ⟨0,?_⟩
 show _=some (zfg (zbt a0 a1 a2))
 unfold ztr oN nB
 conv=>zeta
 refine must (zbr ((zM _).2 hs)) (must (zbr ((zM _).2 hs)) (brN (fun hh=>?_) (fun hh=>?_)))
 .rw [zkV hh];rfl
 obtain ⟨g1,g2,g3⟩:=zc0 hh;have hx:=znZ hs g2 g3;have hk:zQ (gOf a0 a1 a2)=4:=qE hw;rw[ziB hh,hk];refine must (zl g2) (must (zl g3) (must (zhE rfl hw) ?_))
 show _=some (zfg (ziC (zlJ a0 a1 a2 (gOf a0 a1 a2) true) a1 a2 (gOf a0 a1 a2) true,true))
 have k:=zwd (b:=a0.Buffer) (page:=zbb (address (gOf a0 a1 a2))) (need:=zbX true) (io:=false) hs hh;have F:=zlI k g2 g3;have e3:(ix (ix (zel (zk a0) (zk a0).Buffer a1 a2 (zcA (zh6 (ix (ix (zk a0).Mons a1 zf).Guests a2 zx))) (zeO true) false).Mons a1 zf).Guests a2 zx)=(ix (ix (zk a0).Mons a1 zf).Guests a2 zx):=congrArg (fun l=>ix l a2 gZ) (zIy k.gs a1);rw[e3];unfold ziC;refine must rfl (must rfl (must rfl (must (zbr ((zM _).2 hs)) (brN (fun h=>?_) (fun h=>?_)))))
 .rw [show (zlJ a0 a1 a2 (gOf a0 a1 a2) true).2.2=false from h]
  exact must (zl F.hm) (must rfl (must rfl (must (zbr hx) (must (zl F.hg) rfl))))
 .rw [show (zlJ a0 a1 a2 (gOf a0 a1 a2) true).2.2=true from h]
  exact must rfl (must (zbr k.shape.1.1) (must (zl F.hm) (must (zbr hx) (must (zl F.hg) rfl))))
theorem zzH:vF 190 zDK:=kF3 zWB zq zbR zgx (zo []) zDA
theorem z3N {a0:Host}{a1 a2:Int}(hx:SmG (gOf a0 a1 a2))(g2:hasB a1 (ln a0.Mons)=true)(g3:hasB a2 (ln (ix a0.Mons a1 mZ).Guests)=true) :
 (cond (zdF (ix (ix (zk a0).Mons a1 zf).Guests a2 zx) (ix (ix (zk a0).Mons a1 zf).Guests a2 zx).Ctl.Traps 5) (cond (zc7 (ix (ix (zk a0).Mons a1 zf).Guests a2 zx) (ix (ix (zk a0).Mons a1 zf).Guests a2 zx).Ctl.Traps 5) (cond (inb a1 (ln (zk a0).Mons)) (cond (ilt (ln (ix (zk a0).Mons a1 zf).Outs) 40) (cond (inb a1 (ln (zk a0).Mons)) (cond (ze5 (ix (ix (zk a0).Mons a1 zf).Guests a2 zx).Prog (ix (ix (zk a0).Mons a1 zf).Guests a2 zx).Pc) (cond (few (ln (ap (ix (zk a0).Mons a1 zf).Outs [(zfk (ix (ix (zk a0).Mons a1 zf).Guests a2 zx).Prog (ix (ix (zk a0).Mons a1 zf).Guests a2 zx).Pc).X]))) (cond (inb a1 (ln (zk a0).Mons)) (cond (cond (ieq a1 a1) true false) (share (up (zk a0).Mons a1 ({ (ix (zk a0).Mons a1 zf) with Outs:=(ap (ix (zk a0).Mons a1 zf).Outs [(zfk (ix (ix (zk a0).Mons a1 zf).Guests a2 zx).Prog (ix (ix (zk a0).Mons a1 zf).Guests a2 zx).Pc).X]) }:Mon)) (fun x4=>(cond (inb a1 (ln x4)) (cond (inb a2 (ln (ix x4 a1 zf).Guests)) (share (up x4 a1 ({ (ix x4 a1 zf) with Guests:=(up (ix x4 a1 zf).Guests a2 (zb1 (ix (ix (zk a0).Mons a1 zf).Guests a2 zx) (ix (ix (zk a0).Mons a1 zf).Guests a2 zx).Ctl.Traps 5)) }:Mon)) (fun x5=>(some [(.agg (zbd ({ (zk a0) with Mons:=x5 }:Host))),(.one (.b true))]))) none) none))) none) none) none) none) none) (cond (inb a1 (ln (zk a0).Mons)) (cond (inb a2 (ln (ix (zk a0).Mons a1 zf).Guests)) (share (up (zk a0).Mons a1 ({ (ix (zk a0).Mons a1 zf) with Guests:=(up (ix (zk a0).Mons a1 zf).Guests a2 (zb1 (ix (ix (zk a0).Mons a1 zf).Guests a2 zx) (ix (ix (zk a0).Mons a1 zf).Guests a2 zx).Ctl.Traps 5)) }:Mon)) (fun x4=>(some [(.agg (zbd ({ (zk a0) with Mons:=x4 }:Host))),(.one (.b true))]))) none) none)) none) (cond (inb a1 (ln (zk a0).Mons)) (cond (inb a2 (ln (ix (zk a0).Mons a1 zf).Guests)) (share (up (zk a0).Mons a1 ({ (ix (zk a0).Mons a1 zf) with Guests:=(up (ix (zk a0).Mons a1 zf).Guests a2 (zb1 (ix (ix (zk a0).Mons a1 zf).Guests a2 zx) (ix (ix (zk a0).Mons a1 zf).Guests a2 zx).Ctl.Traps 5)) }:Mon)) (fun x4=>(some [(.agg (zbd ({ (zk a0) with Mons:=x4 }:Host))),(.one (.b true))]))) none) none)) none)=some (zfg (zjO (zfR a0 a1 (gOf a0 a1 a2) 5) a1 a2 (ziD (gOf a0 a1 a2) (gOf a0 a1 a2).Ctl.Traps 5),true)):=by
 refine must (zbr hx) (br (fun h1=>must (zl g2) (br (fun h3=>?_) (fun h3=>?_))) (fun h1=>?_))
 .rw [zTe (h:=a0) (m:=a1) (x:=gOf a0 a1 a2) (w:=5) h1 rfl h3];refine must (zl g2) (must rfl (must (z3M h3) (must (zl g2) (must (zZf _) (shr (must (zl (zeg g2)) (must ?_ rfl)))))));rw[zJL g2];exact zl g3
 .rw [zOw (h:=a0) (m:=a1) (x:=gOf a0 a1 a2) (w:=5) h3];exact must (zl g2) (must (zl g3) rfl)
 .rw [z0t (h:=a0) (m:=a1) (x:=gOf a0 a1 a2) (w:=5) h1];exact must (zl g2) (must (zl g3) rfl)
theorem z7h {a0:Host}{x4:List Mon}{a1 a2:Int}(hx:SmG (gOf a0 a1 a2))(g2:hasB a1 (ln x4)=true)(g3:hasB a2 (ln (ix x4 a1 mZ).Guests)=true)(e:(ix (ix x4 a1 zf).Guests a2 zx)=gOf a0 a1 a2) :
 (cond (zdF ({ (ix (ix (zk a0).Mons a1 zf).Guests a2 zx) with Prog:=(ix (ix x4 a1 zf).Guests a2 zx).Prog,Written:=(ix (ix x4 a1 zf).Guests a2 zx).Written,Live:=(ix (ix x4 a1 zf).Guests a2 zx).Live,Seen:=(ix (ix x4 a1 zf).Guests a2 zx).Seen }:Guest) (ix (ix (zk a0).Mons a1 zf).Guests a2 zx).Ctl.Traps 5) (cond (zc7 ({ (ix (ix (zk a0).Mons a1 zf).Guests a2 zx) with Prog:=(ix (ix x4 a1 zf).Guests a2 zx).Prog,Written:=(ix (ix x4 a1 zf).Guests a2 zx).Written,Live:=(ix (ix x4 a1 zf).Guests a2 zx).Live,Seen:=(ix (ix x4 a1 zf).Guests a2 zx).Seen }:Guest) (ix (ix (zk a0).Mons a1 zf).Guests a2 zx).Ctl.Traps 5) (cond (inb a1 (ln x4)) (cond (ilt (ln (ix x4 a1 zf).Outs) 40) (cond (inb a1 (ln x4)) (cond (ze5 (ix (ix x4 a1 zf).Guests a2 zx).Prog (ix (ix (zk a0).Mons a1 zf).Guests a2 zx).Pc) (cond (few (ln (ap (ix x4 a1 zf).Outs [(zfk (ix (ix x4 a1 zf).Guests a2 zx).Prog (ix (ix (zk a0).Mons a1 zf).Guests a2 zx).Pc).X]))) (cond (inb a1 (ln x4)) (cond (cond (ieq a1 a1) true false) (share (up x4 a1 ({ (ix x4 a1 zf) with Outs:=(ap (ix x4 a1 zf).Outs [(zfk (ix (ix x4 a1 zf).Guests a2 zx).Prog (ix (ix (zk a0).Mons a1 zf).Guests a2 zx).Pc).X]) }:Mon)) (fun x5=>(cond (inb a1 (ln x5)) (cond (inb a2 (ln (ix x5 a1 zf).Guests)) (share (up x5 a1 ({ (ix x5 a1 zf) with Guests:=(up (ix x5 a1 zf).Guests a2 (zb1 ({ (ix (ix (zk a0).Mons a1 zf).Guests a2 zx) with Prog:=(ix (ix x4 a1 zf).Guests a2 zx).Prog,Written:=(ix (ix x4 a1 zf).Guests a2 zx).Written,Live:=(ix (ix x4 a1 zf).Guests a2 zx).Live,Seen:=(ix (ix x4 a1 zf).Guests a2 zx).Seen }:Guest) (ix (ix (zk a0).Mons a1 zf).Guests a2 zx).Ctl.Traps 5)) }:Mon)) (fun x6=>(some [(.agg (zbd ({ (zk a0) with Mons:=x6 }:Host))),(.one (.b true))]))) none) none))) none) none) none) none) none) (cond (inb a1 (ln x4)) (cond (inb a2 (ln (ix x4 a1 zf).Guests)) (share (up x4 a1 ({ (ix x4 a1 zf) with Guests:=(up (ix x4 a1 zf).Guests a2 (zb1 ({ (ix (ix (zk a0).Mons a1 zf).Guests a2 zx) with Prog:=(ix (ix x4 a1 zf).Guests a2 zx).Prog,Written:=(ix (ix x4 a1 zf).Guests a2 zx).Written,Live:=(ix (ix x4 a1 zf).Guests a2 zx).Live,Seen:=(ix (ix x4 a1 zf).Guests a2 zx).Seen }:Guest) (ix (ix (zk a0).Mons a1 zf).Guests a2 zx).Ctl.Traps 5)) }:Mon)) (fun x5=>(some [(.agg (zbd ({ (zk a0) with Mons:=x5 }:Host))),(.one (.b true))]))) none) none)) none) (cond (inb a1 (ln x4)) (cond (inb a2 (ln (ix x4 a1 zf).Guests)) (share (up x4 a1 ({ (ix x4 a1 zf) with Guests:=(up (ix x4 a1 zf).Guests a2 (zb1 ({ (ix (ix (zk a0).Mons a1 zf).Guests a2 zx) with Prog:=(ix (ix x4 a1 zf).Guests a2 zx).Prog,Written:=(ix (ix x4 a1 zf).Guests a2 zx).Written,Live:=(ix (ix x4 a1 zf).Guests a2 zx).Live,Seen:=(ix (ix x4 a1 zf).Guests a2 zx).Seen }:Guest) (ix (ix (zk a0).Mons a1 zf).Guests a2 zx).Ctl.Traps 5)) }:Mon)) (fun x5=>(some [(.agg (zbd ({ (zk a0) with Mons:=x5 }:Host))),(.one (.b true))]))) none) none)) none)=some (zfg (zjO (zfR { a0 with Mons:=x4 } a1 (gOf a0 a1 a2) 5) a1 a2 (ziD (gOf a0 a1 a2) (gOf a0 a1 a2).Ctl.Traps 5),true)):=by
 rw[e];refine must (zbr hx) (br (fun h1=>must (zl g2) (br (fun h3=>?_) (fun h3=>?_))) (fun h1=>?_))
 .rw [zTe (h:={ a0 with Mons:=x4 }) (m:=a1) (x:=gOf a0 a1 a2) (w:=5) h1 rfl h3];refine must (zl g2) (must rfl (must (z3M h3) (must (zl g2) (must (zZf _) (shr (must (zl (zeg (h:={ a0 with Mons:=x4 }) g2)) (must ?_ rfl)))))));rw[zJL (h:={ a0 with Mons:=x4 }) g2];exact zl g3
 .rw [zOw (h:={ a0 with Mons:=x4 }) (m:=a1) (x:=gOf a0 a1 a2) (w:=5) h3];exact must (zl g2) (must (zl g3) rfl)
 .rw [z0t (h:={ a0 with Mons:=x4 }) (m:=a1) (x:=gOf a0 a1 a2) (w:=5) h1];exact must (zl g2) (must (zl g3) rfl)
theorem zDB (a0:Host)(a1 a2:Int)(hc:zuI a0 a1 a2=true):∃N,zts N a0 a1 a2=some [aH (zuG a0 a1 a2),aB (zuH a0 a1 a2)]:=by
 obtain ⟨hc,hw⟩:=zkY hc;have hs:=(zM a0).1 (zD.1 hc);refine ⟨0,?_⟩
 show _=some (zfg (zbt a0 a1 a2))
 unfold zts oN nB
 conv=>zeta
 refine must (zbr ((zM _).2 hs)) (must (zbr ((zM _).2 hs)) (brN (fun hh=>?_) (fun hh=>?_)))
 .rw [zkV hh];rfl
 obtain ⟨g1,g2,g3⟩:=zc0 hh;have hx:=znZ hs g2 g3;have hk:zQ (gOf a0 a1 a2)=5:=qE hw;rw[ziB hh,hk];refine must (zl g2) (must (zl g3) (must (zhE rfl hw) ?_))
 show _=some (zfg (zuW a0 a1 a2 (gOf a0 a1 a2) 5,true))
 refine must (zl g2) (must rfl (br (fun h0=>must (zl g2) (br (fun h9=>must (zl g2) (must (zl g2) (shr ?_))) (fun h9=>?_))) (fun h0=>?_)))
 .rw [zml (zV8 (h:=a0) (m:=a1) (x:=gOf a0 a1 a2) (w:=5) rfl h0 h9)];have eM:=zJL g2 { ix a0.Mons a1 mZ with Own:=zG .i64 (ix a0.Mons a1 mZ).Own 1 };refine z7h hx (zeg g2) ?_ ?_
  .show hasB a2 (ln (ix (up a0.Mons a1 _) a1 mZ).Guests)=true
   rw[eM];exact g3
  .show ix (ix (up a0.Mons a1 _) a1 mZ).Guests a2 gZ=_
   rw[eM];rfl
 .rw [zml (zV7 (h:=a0) (m:=a1) (x:=gOf a0 a1 a2) (w:=5) h9)];exact z3N hx g2 g3
 .rw [zml (zV6 (h:=a0) (m:=a1) (x:=gOf a0 a1 a2) (w:=5) h0)];exact z3N hx g2 g3
theorem zzI:vF 190 zDL:=kF3 zWC zq zbR zgx (zo []) zDB
theorem zDC (a0:Host)(a1 a2:Int)(hc:zuL a0 a1 a2=true):∃N,ztt N a0 a1 a2=some [aH (zuJ a0 a1 a2),aB (zuK a0 a1 a2)]:=by
 obtain ⟨hc,hw⟩:=zkY hc;have hs:=(zM a0).1 (zD.1 hc);refine ⟨0,?_⟩
 show _=some (zfg (zbt a0 a1 a2))
 unfold ztt oN nB
 conv=>zeta
 refine must (zbr ((zM _).2 hs)) (must (zbr ((zM _).2 hs)) (brN (fun hh=>?_) (fun hh=>?_)))
 .rw [zkV hh];rfl
 obtain ⟨g1,g2,g3⟩:=zc0 hh;have hx:=znZ hs g2 g3;have hk:zQ (gOf a0 a1 a2)=6:=qE hw;rw[ziB hh,hk];refine must (zl g2) (must (zl g3) (must (zhE rfl hw) ?_))
 show _=some (zfg (zuW a0 a1 a2 (gOf a0 a1 a2) 6,true))
 rw[zml (z5Q (h:=a0) (m:=a1) (x:=gOf a0 a1 a2)),zKw (w:=6) rfl];exact must (zbr hx) (br (fun h1=>must (zl g2) (must (zl g3) rfl)) (fun h1=>must (zl g2) (must (zl g3) rfl)))
theorem zzJ:vF 190 zDM:=kF3 zWD zq zbR zgx (zo []) zDC
theorem z3O {a0:Host}{a1 a2:Int}(hx:SmG (gOf a0 a1 a2))(g2:hasB a1 (ln a0.Mons)=true)(g3:hasB a2 (ln (ix a0.Mons a1 mZ).Guests)=true) :
 (cond (zdF (ix (ix (zk a0).Mons a1 zf).Guests a2 zx) (ix (ix (zk a0).Mons a1 zf).Guests a2 zx).Ctl.Traps 7) (cond (zc7 (ix (ix (zk a0).Mons a1 zf).Guests a2 zx) (ix (ix (zk a0).Mons a1 zf).Guests a2 zx).Ctl.Traps 7) (cond (inb a1 (ln (zk a0).Mons)) (cond (inb a2 (ln (ix (zk a0).Mons a1 zf).Guests)) (share (up (zk a0).Mons a1 ({ (ix (zk a0).Mons a1 zf) with Guests:=(up (ix (zk a0).Mons a1 zf).Guests a2 (zb1 (ix (ix (zk a0).Mons a1 zf).Guests a2 zx) (ix (ix (zk a0).Mons a1 zf).Guests a2 zx).Ctl.Traps 7)) }:Mon)) (fun x4=>(some [(.agg (zbd ({ (zk a0) with Mons:=x4 }:Host))),(.one (.b true))]))) none) none) (cond (inb a1 (ln (zk a0).Mons)) (cond (inb a2 (ln (ix (zk a0).Mons a1 zf).Guests)) (share (up (zk a0).Mons a1 ({ (ix (zk a0).Mons a1 zf) with Guests:=(up (ix (zk a0).Mons a1 zf).Guests a2 (zb1 (ix (ix (zk a0).Mons a1 zf).Guests a2 zx) (ix (ix (zk a0).Mons a1 zf).Guests a2 zx).Ctl.Traps 7)) }:Mon)) (fun x4=>(some [(.agg (zbd ({ (zk a0) with Mons:=x4 }:Host))),(.one (.b true))]))) none) none)) none)=some (zfg (zjO a0 a1 a2 (ziD (gOf a0 a1 a2) (gOf a0 a1 a2).Ctl.Traps 7),true)) :=
 must (zbr hx) (br (fun h1=>must (zl g2) (must (zl g3) rfl)) (fun h1=>must (zl g2) (must (zl g3) rfl)))
theorem z7i {a0:Host}{x4:List Mon}{a1 a2:Int}(hx:SmG (gOf a0 a1 a2))(g2:hasB a1 (ln x4)=true)(g3:hasB a2 (ln (ix x4 a1 mZ).Guests)=true)(e:(ix (ix x4 a1 zf).Guests a2 zx)=gOf a0 a1 a2) :
 (cond (zdF ({ (ix (ix (zk a0).Mons a1 zf).Guests a2 zx) with Prog:=(ix (ix x4 a1 zf).Guests a2 zx).Prog,Written:=(ix (ix x4 a1 zf).Guests a2 zx).Written,Live:=(ix (ix x4 a1 zf).Guests a2 zx).Live,Seen:=(ix (ix x4 a1 zf).Guests a2 zx).Seen }:Guest) (ix (ix (zk a0).Mons a1 zf).Guests a2 zx).Ctl.Traps 7) (cond (zc7 ({ (ix (ix (zk a0).Mons a1 zf).Guests a2 zx) with Prog:=(ix (ix x4 a1 zf).Guests a2 zx).Prog,Written:=(ix (ix x4 a1 zf).Guests a2 zx).Written,Live:=(ix (ix x4 a1 zf).Guests a2 zx).Live,Seen:=(ix (ix x4 a1 zf).Guests a2 zx).Seen }:Guest) (ix (ix (zk a0).Mons a1 zf).Guests a2 zx).Ctl.Traps 7) (cond (inb a1 (ln x4)) (cond (inb a2 (ln (ix x4 a1 zf).Guests)) (share (up x4 a1 ({ (ix x4 a1 zf) with Guests:=(up (ix x4 a1 zf).Guests a2 (zb1 ({ (ix (ix (zk a0).Mons a1 zf).Guests a2 zx) with Prog:=(ix (ix x4 a1 zf).Guests a2 zx).Prog,Written:=(ix (ix x4 a1 zf).Guests a2 zx).Written,Live:=(ix (ix x4 a1 zf).Guests a2 zx).Live,Seen:=(ix (ix x4 a1 zf).Guests a2 zx).Seen }:Guest) (ix (ix (zk a0).Mons a1 zf).Guests a2 zx).Ctl.Traps 7)) }:Mon)) (fun x5=>(some [(.agg (zbd ({ (zk a0) with Mons:=x5 }:Host))),(.one (.b true))]))) none) none) (cond (inb a1 (ln x4)) (cond (inb a2 (ln (ix x4 a1 zf).Guests)) (share (up x4 a1 ({ (ix x4 a1 zf) with Guests:=(up (ix x4 a1 zf).Guests a2 (zb1 ({ (ix (ix (zk a0).Mons a1 zf).Guests a2 zx) with Prog:=(ix (ix x4 a1 zf).Guests a2 zx).Prog,Written:=(ix (ix x4 a1 zf).Guests a2 zx).Written,Live:=(ix (ix x4 a1 zf).Guests a2 zx).Live,Seen:=(ix (ix x4 a1 zf).Guests a2 zx).Seen }:Guest) (ix (ix (zk a0).Mons a1 zf).Guests a2 zx).Ctl.Traps 7)) }:Mon)) (fun x5=>(some [(.agg (zbd ({ (zk a0) with Mons:=x5 }:Host))),(.one (.b true))]))) none) none)) none)=some (zfg (zjO { a0 with Mons:=x4 } a1 a2 (ziD (gOf a0 a1 a2) (gOf a0 a1 a2).Ctl.Traps 7),true)):=by
 rw[e];exact must (zbr hx) (br (fun h1=>must (zl g2) (must (zl g3) rfl)) (fun h1=>must (zl g2) (must (zl g3) rfl)))
theorem zDD (a0:Host)(a1 a2:Int)(hc:zuO a0 a1 a2=true):∃N,ztu N a0 a1 a2=some [aH (zuM a0 a1 a2),aB (zuN a0 a1 a2)]:=by
 obtain ⟨hc,hw⟩:=zkY hc;have hs:=(zM a0).1 (zD.1 hc);refine ⟨0,?_⟩
 show _=some (zfg (zbt a0 a1 a2))
 unfold ztu oN nB
 conv=>zeta
 refine must (zbr ((zM _).2 hs)) (must (zbr ((zM _).2 hs)) (brN (fun hh=>?_) (fun hh=>?_)))
 .rw [zkV hh];rfl
 obtain ⟨g1,g2,g3⟩:=zc0 hh;have hx:=znZ hs g2 g3;have hk:zQ (gOf a0 a1 a2)=7:=qE hw;rw[ziB hh,hk];refine must (zl g2) (must (zl g3) (must (zhE rfl hw) ?_))
 show _=some (zfg (zuW a0 a1 a2 (gOf a0 a1 a2) 7,true))
 refine must (zl g2) (must rfl (br (fun h0=>must (zl g2) (br (fun h9=>must (zl g2) (must (zl g2) (shr ?_))) (fun h9=>?_))) (fun h0=>?_)))
 .rw [zml (zV8 (h:=a0) (m:=a1) (x:=gOf a0 a1 a2) (w:=7) rfl h0 h9),zKw (w:=7) rfl];have eM:=zJL g2 { ix a0.Mons a1 mZ with Own:=zG .i64 (ix a0.Mons a1 mZ).Own 1 };refine z7i hx (zeg g2) ?_ ?_
  .show hasB a2 (ln (ix (up a0.Mons a1 _) a1 mZ).Guests)=true
   rw[eM];exact g3
  .show ix (ix (up a0.Mons a1 _) a1 mZ).Guests a2 gZ=_
   rw[eM];rfl
 .rw [zml (zV7 (h:=a0) (m:=a1) (x:=gOf a0 a1 a2) (w:=7) h9),zKw (w:=7) rfl];exact z3O hx g2 g3
 .rw [zml (zV6 (h:=a0) (m:=a1) (x:=gOf a0 a1 a2) (w:=7) h0),zKw (w:=7) rfl];exact z3O hx g2 g3
theorem zzK:vF 190 zDN:=kF3 zWE zq zbR zgx (zo []) zDD
def zoF:List AV->Option (Bool×List AV)
 | [.agg [.s (.sl .int) b,.s .mon c,.s .entry d,.s .entry e],.one (.i .i64 f),.one (.i .i64 g)]=>some ((zeh (⟨b,c,d,e⟩:Host) f g),[aH (zB9 (⟨b,c,d,e⟩:Host) f g),aB (zCa (⟨b,c,d,e⟩:Host) f g)])
 | _=>none
theorem zGd:vF 190 zoF:=by
 refine ⟨zn5.1,fun w avs xs rs hrep h=>?_⟩;unfold zoF at h;split at h
 .rename_i a0_0 a0_1 a0_2 a0_3 a1 a2;obtain ⟨hc,rfl⟩:=zdS h;rcases z2z (gOf (⟨a0_0,a0_1,a0_2,a0_3⟩:Host) a1 a2) with e|e|e|e|e|e|e|e
  .exact zn5.2 w _ xs _ hrep (congrArg (fun c=>some (c,zfg (zbt (⟨a0_0,a0_1,a0_2,a0_3⟩:Host) a1 a2))) (zhE hc e))
  .exact zzE.2 w _ xs _ hrep (congrArg (fun c=>some (c,zfg (zbt (⟨a0_0,a0_1,a0_2,a0_3⟩:Host) a1 a2))) (zhE hc e))
  .exact zzF.2 w _ xs _ hrep (congrArg (fun c=>some (c,zfg (zbt (⟨a0_0,a0_1,a0_2,a0_3⟩:Host) a1 a2))) (zhE hc e))
  .exact zzG.2 w _ xs _ hrep (congrArg (fun c=>some (c,zfg (zbt (⟨a0_0,a0_1,a0_2,a0_3⟩:Host) a1 a2))) (zhE hc e))
  .exact zzH.2 w _ xs _ hrep (congrArg (fun c=>some (c,zfg (zbt (⟨a0_0,a0_1,a0_2,a0_3⟩:Host) a1 a2))) (zhE hc e))
  .exact zzI.2 w _ xs _ hrep (congrArg (fun c=>some (c,zfg (zbt (⟨a0_0,a0_1,a0_2,a0_3⟩:Host) a1 a2))) (zhE hc e))
  .exact zzJ.2 w _ xs _ hrep (congrArg (fun c=>some (c,zfg (zbt (⟨a0_0,a0_1,a0_2,a0_3⟩:Host) a1 a2))) (zhE hc e))
  .exact zzK.2 w _ xs _ hrep (congrArg (fun c=>some (c,zfg (zbt (⟨a0_0,a0_1,a0_2,a0_3⟩:Host) a1 a2))) (zhE hc e))
 .cases h
@[simp] abbrev zxQ (h:Host)(m g page need:Int)(io:Bool):Bool:=pc (zcb h)
@[simp] abbrev zxN (h:Host)(m g page need:Int)(io:Bool):Host:=(lookOf h (zq9 h io) m g page need io).1
@[simp] abbrev zxO (h:Host)(m g page need:Int)(io:Bool):Int:=(lookOf h (zq9 h io) m g page need io).2.1
@[simp] abbrev zxP (h:Host)(m g page need:Int)(io:Bool):Bool:=(lookOf h (zq9 h io) m g page need io).2.2
def zBA:Run:=rF6 dH dI dI dI dI dB fun b c d e f g=>(zxQ b c d e f g,[aH (zxN b c d e f g),aI (zxO b c d e f g),aB (zxP b c d e f g)])
abbrev zQk (u9_10:lM)(u9_11:lN)(u9_12:lE)(u9_13:lE)(u9_0:Int)(u9_4:Int)(u9_3:Int):Mon :=
 (ix (zsu (⟨u9_10,u9_11,u9_12,u9_13⟩:Host) u9_0 u9_4 u9_3).Mons u9_0 zf)
def zqh (N:Nat)(u10_0:Int)(u10_1:Int)(u10_2:Int)(u10_3:Int)(u10_8:lM)(u10_9:lN)(u10_10:lE)(u10_11:lE):OA:=
 let y0:=(⟨u10_1,u10_0,u10_2,u10_3⟩:Entry); (oN (zm1 u10_11 y0) (some [(aH (⟨u10_8,u10_9,u10_10,(zm0 u10_11 y0)⟩:Host)),(aI u10_2),(aB true)]))
def zr0 (N:Nat)(u9_10:lM)(u9_11:lN)(u9_12:lE)(u9_13:lE)(u9_0:Int)(u9_4:Int)(u9_3:Int)(u9_1:Int)(u9_2:Int)(r10:((Int×(Int×(Int×(Int×(lM×(lN×(lE×(lE×(lM×(lN×(lE×(lE×Unit)))))))))))))->OA)(u9_5:Int)(u9_6:lM)(u9_7:lN)(u9_8:lE)(u9_9:lE):OA:=
 let y6:=(⟨u9_10,u9_11,u9_12,u9_13⟩:Host);let y1:=(zsu y6 u9_0 u9_4 u9_3);let y0:=(zQk u9_10 u9_11 u9_12 u9_13 u9_0 u9_4 u9_3);let y5:=(ix y0.Tables u9_1 zcK);let y3:=(ix y0.Guests u9_1 zx).Live; (oN (zGr y6 u9_0 u9_4 u9_3) (oN (inb u9_0 (ln y1.Mons)) (oN (inb u9_1 (ln y0.Tables)) (oN (inb u9_1 (ln y0.Guests)) (oN (zGq y5 y3 y0.Outer u9_2) (oN (inb u9_1 (ln y0.Tables)) (share (up y1.Mons u9_0 ({ y0 with Tables:=(up y0.Tables u9_1 (zJe y5 y3 y0.Outer u9_2)) }:Mon)) (fun x11=>let y4:=(ix x11 u9_0 zf).Tables;let y2:=(ix y4 u9_1 zcK); (oN (inb u9_1 (ln y4)) (oN (zv6 y2 u9_2) (r10 (u9_2,(u9_5,((zrM y2 u9_2).Page,((zrM y2 u9_2).Rights,(u9_6,(u9_7,(u9_8,(u9_9,(y1.Memory,(x11,(y1.Buffer,(y1.IoBuffer,())))))))))))))))))))))))
def zmJ (N:Nat)(u9_11:lN)(u9_0:Int)(u9_1:Int)(u9_2:Int)(u9_10:lM)(u9_12:lE)(u9_13:lE)(u9_4:Int)(u9_3:Int)(r10:((Int×(Int×(Int×(Int×(lM×(lN×(lE×(lE×(lM×(lN×(lE×(lE×Unit)))))))))))))->OA)(u9_5:Int)(u9_6:lM)(u9_7:lN)(u9_8:lE)(u9_9:lE):OA:=
 let y1:=(zr0 N u9_10 u9_11 u9_12 u9_13 u9_0 u9_4 u9_3 u9_1 u9_2 r10 u9_5 u9_6 u9_7 u9_8 u9_9);let y0:=(ix (ix u9_11 u9_0 zf).Tables u9_1 zcK);let y2:=(zrM y0 u9_2); (cond (nB (zCI y0 u9_2)) y1 (cond (ieq y2.Page (-1)) y1 (oN (zc1 y2.Rights u9_3) (cond (nB (zdw y2.Rights u9_3)) y1 (r10 (u9_2,(u9_5,(y2.Page,(y2.Rights,(u9_6,(u9_7,(u9_8,(u9_9,(u9_10,(u9_11,(u9_12,(u9_13,())))))))))))))))))
def zqi (N:Nat)(u9_0:Int)(u9_1:Int)(u9_2:Int)(u9_3:Int)(u9_4:Int)(u9_5:Int)(u9_6:lM)(u9_7:lN)(u9_8:lE)(u9_9:lE)(u9_10:lM)(u9_11:lN)(u9_12:lE)(u9_13:lE):OA:=
 let y0:=(ix u9_11 u9_0 zf).Tables; (oN (inb u9_0 (ln u9_11)) (oN (inb u9_1 (ln y0)) (oN (zv6 (ix y0 u9_1 zcK) u9_2) (share (fun (s10:(Int×(Int×(Int×(Int×(lM×(lN×(lE×(lE×(lM×(lN×(lE×(lE×Unit)))))))))))))=>(zqh N s10.1 s10.2.1 s10.2.2.1 s10.2.2.2.1 s10.2.2.2.2.2.2.2.2.1 s10.2.2.2.2.2.2.2.2.2.1 s10.2.2.2.2.2.2.2.2.2.2.1 s10.2.2.2.2.2.2.2.2.2.2.2.1)) (fun r10=>(zmJ N u9_11 u9_0 u9_1 u9_2 u9_10 u9_12 u9_13 u9_4 u9_3 r10 u9_5 u9_6 u9_7 u9_8 u9_9))))))
def zqj (N:Nat)(u10_0:Int)(u10_1:Int)(u10_2:Int)(u10_3:Int)(u10_8:lM)(u10_9:lN)(u10_10:lE)(u10_11:lE):OA:=
 let y0:=(⟨u10_1,u10_0,u10_2,u10_3⟩:Entry); (oN (zm1 u10_10 y0) (some [(aH (⟨u10_8,u10_9,(zm0 u10_10 y0),u10_11⟩:Host)),(aI u10_2),(aB true)]))
def zqk (N:Nat)(u9_0:Int)(u9_1:Int)(u9_2:Int)(u9_3:Int)(u9_4:Int)(u9_5:Int)(u9_6:lM)(u9_7:lN)(u9_8:lE)(u9_9:lE)(u9_10:lM)(u9_11:lN)(u9_12:lE)(u9_13:lE):OA:=
 let y0:=(ix u9_11 u9_0 zf).Tables; (oN (inb u9_0 (ln u9_11)) (oN (inb u9_1 (ln y0)) (oN (zv6 (ix y0 u9_1 zcK) u9_2) (share (fun (s10:(Int×(Int×(Int×(Int×(lM×(lN×(lE×(lE×(lM×(lN×(lE×(lE×Unit)))))))))))))=>(zqj N s10.1 s10.2.1 s10.2.2.1 s10.2.2.2.1 s10.2.2.2.2.2.2.2.2.1 s10.2.2.2.2.2.2.2.2.2.1 s10.2.2.2.2.2.2.2.2.2.2.1 s10.2.2.2.2.2.2.2.2.2.2.2.1)) (fun r10=>(zmJ N u9_11 u9_0 u9_1 u9_2 u9_10 u9_12 u9_13 u9_4 u9_3 r10 u9_5 u9_6 u9_7 u9_8 u9_9))))))
def zql (N:Nat)(u8_0:Int)(u8_1:Int)(u8_2:Int)(u8_3:Int)(u8_4:Bool)(u8_5:Int)(u8_6:lM)(u8_7:lN)(u8_8:lE)(u8_9:lE)(u8_10:lM)(u8_11:lN)(u8_12:lE)(u8_13:lE):OA:=
 let y1:=(aH (⟨u8_10,u8_11,u8_12,u8_13⟩:Host));let y0:=(zwb u8_0 u8_1);let y3:=(ziF u8_12 y0 u8_2);let y2:=(ziF u8_13 y0 u8_2); (cond u8_4 (oN (ztU u8_0 u8_1) (share (fun (s9:(Int×(Int×(Int×(Int×(Int×(Int×(lM×(lN×(lE×(lE×(lM×(lN×(lE×(lE×Unit)))))))))))))))=>(zqi N s9.1 s9.2.1 s9.2.2.1 s9.2.2.2.1 s9.2.2.2.2.1 s9.2.2.2.2.2.1 s9.2.2.2.2.2.2.1 s9.2.2.2.2.2.2.2.1 s9.2.2.2.2.2.2.2.2.1 s9.2.2.2.2.2.2.2.2.2.1 s9.2.2.2.2.2.2.2.2.2.2.1 s9.2.2.2.2.2.2.2.2.2.2.2.1 s9.2.2.2.2.2.2.2.2.2.2.2.2.1 s9.2.2.2.2.2.2.2.2.2.2.2.2.2.1)) (fun r9=>(oN (zlE u8_13 y0 u8_2) (cond (ziG u8_13 y0 u8_2) (oN (zc1 y2.Rights u8_3) (cond (zdw y2.Rights u8_3) (some [y1,(aI y2.Host),(aB true)]) (r9 (u8_0,(u8_1,(u8_2,(u8_3,(u8_5,(y0,(u8_6,(u8_7,(u8_8,(u8_9,(u8_10,(u8_11,(u8_12,(u8_13,()))))))))))))))))) (r9 (u8_0,(u8_1,(u8_2,(u8_3,(u8_5,(y0,(u8_6,(u8_7,(u8_8,(u8_9,(u8_10,(u8_11,(u8_12,(u8_13,())))))))))))))))))))) (oN (ztU u8_0 u8_1) (share (fun (s9:(Int×(Int×(Int×(Int×(Int×(Int×(lM×(lN×(lE×(lE×(lM×(lN×(lE×(lE×Unit)))))))))))))))=>(zqk N s9.1 s9.2.1 s9.2.2.1 s9.2.2.2.1 s9.2.2.2.2.1 s9.2.2.2.2.2.1 s9.2.2.2.2.2.2.1 s9.2.2.2.2.2.2.2.1 s9.2.2.2.2.2.2.2.2.1 s9.2.2.2.2.2.2.2.2.2.1 s9.2.2.2.2.2.2.2.2.2.2.1 s9.2.2.2.2.2.2.2.2.2.2.2.1 s9.2.2.2.2.2.2.2.2.2.2.2.2.1 s9.2.2.2.2.2.2.2.2.2.2.2.2.2.1)) (fun r9=>(oN (zlE u8_12 y0 u8_2) (cond (ziG u8_12 y0 u8_2) (oN (zc1 y3.Rights u8_3) (cond (zdw y3.Rights u8_3) (some [y1,(aI y3.Host),(aB true)]) (r9 (u8_0,(u8_1,(u8_2,(u8_3,(u8_5,(y0,(u8_6,(u8_7,(u8_8,(u8_9,(u8_10,(u8_11,(u8_12,(u8_13,()))))))))))))))))) (r9 (u8_0,(u8_1,(u8_2,(u8_3,(u8_5,(y0,(u8_6,(u8_7,(u8_8,(u8_9,(u8_10,(u8_11,(u8_12,(u8_13,())))))))))))))))))))))
def zqm (N:Nat)(u7_0:Int)(u7_1:Int)(u7_2:Int)(u7_3:Int)(u7_4:Bool)(u7_8:lM)(u7_9:lN)(u7_10:lE)(u7_11:lE)(u7_12:lM)(u7_13:lN)(u7_14:lE)(u7_15:lE)(u7_19:lG):OA:=
 let y1:=(ix u7_13 u7_0 zf);let y0:=(ix u7_19 u7_1 zx).Live;let y2:=(ziH y0 u7_2 u7_3); (oN (inb u7_1 (ln u7_19)) (oN (zqx y0 u7_2 u7_3) (cond (nB (ziI y0 u7_2 u7_3)) (some [(aH (⟨u7_12,u7_13,u7_14,u7_15⟩:Host)),(aI (-1)),(aB false)]) (share (fun (s8:(Int×(Int×(Int×(Int×(Bool×(Int×(lM×(lN×(lE×(lE×(lM×(lN×(lE×(lE×Unit)))))))))))))))=>(zql N s8.1 s8.2.1 s8.2.2.1 s8.2.2.2.1 s8.2.2.2.2.1 s8.2.2.2.2.2.1 s8.2.2.2.2.2.2.1 s8.2.2.2.2.2.2.2.1 s8.2.2.2.2.2.2.2.2.1 s8.2.2.2.2.2.2.2.2.2.1 s8.2.2.2.2.2.2.2.2.2.2.1 s8.2.2.2.2.2.2.2.2.2.2.2.1 s8.2.2.2.2.2.2.2.2.2.2.2.2.1 s8.2.2.2.2.2.2.2.2.2.2.2.2.2.1)) (fun r8=>(cond (ieq u7_3 2) (oN (inb u7_0 (ln u7_13)) (oN (inb y2 (ln y1.Dirty)) (share (up u7_13 u7_0 ({ y1 with Dirty:=(up y1.Dirty y2 true) }:Mon)) (fun x9=>r8 (u7_0,(u7_1,(u7_2,(u7_3,(u7_4,(y2,(u7_8,(u7_9,(u7_10,(u7_11,(u7_12,(x9,(u7_14,(u7_15,())))))))))))))))))) (r8 (u7_0,(u7_1,(u7_2,(u7_3,(u7_4,(y2,(u7_8,(u7_9,(u7_10,(u7_11,(u7_12,(u7_13,(u7_14,(u7_15,())))))))))))))))))))))
def zHv (N:Nat)(a0:Host)(a1 a2:Int)(a3 a4:Int)(a5:Bool):OA:=
 let y1:=(zxM a0);let y0:=(zmr a0 a1); (oN (zss a0) (oN (zA0 a0 a1) (share (fun (s7:(Int×(Int×(Int×(Int×(Bool×(Int×(Int×(Int×(lM×(lN×(lE×(lE×(lM×(lN×(lE×(lE×(lS×(lM×(lB×(lG×((List Int)×(lK×Unit)))))))))))))))))))))))=>(zqm N s7.1 s7.2.1 s7.2.2.1 s7.2.2.2.1 s7.2.2.2.2.1 s7.2.2.2.2.2.2.2.2.1 s7.2.2.2.2.2.2.2.2.2.1 s7.2.2.2.2.2.2.2.2.2.2.1 s7.2.2.2.2.2.2.2.2.2.2.2.1 s7.2.2.2.2.2.2.2.2.2.2.2.2.1 s7.2.2.2.2.2.2.2.2.2.2.2.2.2.1 s7.2.2.2.2.2.2.2.2.2.2.2.2.2.2.1 s7.2.2.2.2.2.2.2.2.2.2.2.2.2.2.2.1 s7.2.2.2.2.2.2.2.2.2.2.2.2.2.2.2.2.2.2.2.1)) (fun r7=>(oN (zrb a0) (cond (nB (zsn a0)) (some [(aH y1),(aI (-1)),(aB false)]) (cond (nB (ztT a0 a1)) (some [(aH y1),(aI (-1)),(aB false)]) (oN (zdl a2 (ln y0.Guests)) (cond (nB (zdH a2 (ln y0.Guests))) (some [(aH y1),(aI (-1)),(aB false)]) (cond (ine a4 1) (cond (ine a4 2) (some [(aH y1),(aI (-1)),(aB false)]) (r7 (a1,(a2,(a3,(a4,(a5,(y0.Pending,(y0.Traps,(y0.Own,([],([],([],([],(y1.Memory,(y1.Mons,(y1.Buffer,(y1.IoBuffer,(y0.Outer,(y0.Out,(y0.Dirty,(y0.Guests,(y0.Outs,(y0.Tables,())))))))))))))))))))))))) (r7 (a1,(a2,(a3,(a4,(a5,(y0.Pending,(y0.Traps,(y0.Own,([],([],([],([],(y1.Memory,(y1.Mons,(y1.Buffer,(y1.IoBuffer,(y0.Outer,(y0.Out,(y0.Dirty,(y0.Guests,(y0.Outs,(y0.Tables,())))))))))))))))))))))))))))))))))
def zTl:FuncId->Nat->Option Tmpl:=zo [(34,999999,{ n:=0,tm:=[],lo:=[],ro:=[] }),(34,1007055,{ n:=200,tm:=[(1,ti),(2,ti),(3,ti),(4,ti),(5,.b),(12,.lp 0 0),(15,.lp 1 0),(16,.lp 2 0)],lo:=[(0,[.sl 0 [],.sl 1 [],.sl 2 [],.sl 3 []]),(1,[.sl 4 [],.sl 5 [],.sl 6 [],.sl 7 []]),(2,[.sl 8 [],.sl 9 [],.sl 10 [],.sl 11 [],.sl 12 [],ti,ti,.sl 13 [],ti])],ro:=[(0,(.sl .int),true),(1,.mon,true),(2,.entry,true),(3,.entry,true),(4,(.sl .int),true),(5,.mon,true),(6,.entry,true),(7,.entry,true),(8,.slot,true),(9,(.sl .int),true),(10,.bool,true),(11,.guest,true),(12,.int,true),(13,.kept,true)] }),(34,1005039,{ n:=200,tm:=[(1,ti),(2,ti),(3,ti),(4,ti),(5,.b),(12,.lp 0 0),(15,.lp 1 0),(18,ti)],lo:=[(0,[.sl 0 [],.sl 1 [],.sl 2 [],.sl 3 []]),(1,[.sl 4 [],.sl 5 [],.sl 6 [],.sl 7 []])],ro:=[(0,(.sl .int),true),(1,.mon,true),(2,.entry,true),(3,.entry,true),(4,(.sl .int),true),(5,.mon,true),(6,.entry,true),(7,.entry,true)] }),(34,1009019,{ n:=200,tm:=[(1,ti),(2,ti),(3,ti),(4,ti),(12,.lp 0 0),(15,.lp 1 0),(18,ti),(20,.lp 1 3),(21,ti)],lo:=[(0,[.sl 0 [],.sl 1 [],.sl 2 [],.sl 3 []]),(1,[.sl 4 [],.sl 5 [],.sl 6 [],.sl 7 []])],ro:=[(0,(.sl .int),true),(1,.mon,true),(2,.entry,true),(3,.entry,true),(4,(.sl .int),true),(5,.mon,true),(6,.entry,true),(7,.entry,true)] }),(34,1011005,{ n:=200,tm:=[(3,ti),(12,.lp 0 0),(15,.lp 1 0),(20,.lp 1 3),(21,ti),(24,.lp 2 0)],lo:=[(0,[.sl 0 [],.sl 1 [],.sl 2 [],.sl 3 []]),(1,[.sl 4 [],.sl 5 [],.sl 6 [],.sl 7 []]),(2,[ti,ti])],ro:=[(0,(.sl .int),true),(1,.mon,true),(2,.entry,true),(3,.entry,true),(4,(.sl .int),true),(5,.mon,true),(6,.entry,true),(7,.entry,true)] }),(34,1001009019,{ n:=200,tm:=[(1,ti),(2,ti),(3,ti),(4,ti),(12,.lp 0 0),(15,.lp 1 0),(18,ti),(20,.lp 1 2),(21,ti)],lo:=[(0,[.sl 0 [],.sl 1 [],.sl 2 [],.sl 3 []]),(1,[.sl 4 [],.sl 5 [],.sl 6 [],.sl 7 []])],ro:=[(0,(.sl .int),true),(1,.mon,true),(2,.entry,true),(3,.entry,true),(4,(.sl .int),true),(5,.mon,true),(6,.entry,true),(7,.entry,true)] }),(34,1001011005,{ n:=200,tm:=[(3,ti),(12,.lp 0 0),(15,.lp 1 0),(20,.lp 1 2),(21,ti),(24,.lp 2 0)],lo:=[(0,[.sl 0 [],.sl 1 [],.sl 2 [],.sl 3 []]),(1,[.sl 4 [],.sl 5 [],.sl 6 [],.sl 7 []]),(2,[ti,ti])],ro:=[(0,(.sl .int),true),(1,.mon,true),(2,.entry,true),(3,.entry,true),(4,(.sl .int),true),(5,.mon,true),(6,.entry,true),(7,.entry,true)] })]
theorem z3S {N:Nat}{r:Host}{m g page:Int}(hi:r.IoBuffer.length<=1048576) :
 zqh N page (zdq m g) (zdk (zbK r m g) page).Page (zdk (zbK r m g) page).Rights r.Memory r.Mons r.Buffer r.IoBuffer=some (zit (zd0 r m g page true)):=by
 unfold zqh oN
 conv=>zeta
 exact must (zbr hi) rfl
theorem z3U {N:Nat}{r:Host}{m g page:Int}(hi:r.Buffer.length<=1048576) :
 zqj N page (zdq m g) (zdk (zbK r m g) page).Page (zdk (zbK r m g) page).Rights r.Memory r.Mons r.Buffer r.IoBuffer=some (zit (zd0 r m g page false)):=by
 unfold zqj oN
 conv=>zeta
 exact must (zbr hi) rfl
theorem z1G {N:Nat}{r:Host}{m g page need q:Int}{R:OA}{r10}{u5 u6 u7 u8 u9}(A:LookAt r m g q need)(hr:r10 (page,(u5,((zdk (zbK (zb7 (mended r m q need) m g page) m g) page).Page,((zdk (zbK (zb7 (mended r m q need) m g page) m g) page).Rights,(u6,(u7,(u8,(u9,((zb7 (mended r m q need) m g page).Memory,((zb7 (mended r m q need) m g page).Mons,((zb7 (mended r m q need) m g page).Buffer,((zb7 (mended r m q need) m g page).IoBuffer,()))))))))))))=R) :
 zr0 N r.Memory r.Mons r.Buffer r.IoBuffer m q need g page r10 u5 u6 u7 u8 u9=R:=by
 have M:=zlI A.kp A.hm A.hg;have F:=zlI (A.fill page) A.hm A.hg;unfold zr0 oN
 conv=>zeta
 exact must (zbr A.mend) (must (zl M.hm) (must (zl M.ht) (must (zl M.hg) (must (zbr M.hk) (must (zl M.ht) (shr (must (zl F.ht) (must rfl hr))))))))
theorem z6G {N:Nat}{r:Host}{m g page need q:Int}{io:Bool}{r10}{u5 u6 u7 u8 u9}(A:LookAt r m g q need)(h1:r10 (page,(u5,((zdk (zbK (zb7 (mended r m q need) m g page) m g) page).Page,((zdk (zbK (zb7 (mended r m q need) m g page) m g) page).Rights,(u6,(u7,(u8,(u9,((zb7 (mended r m q need) m g page).Memory,((zb7 (mended r m q need) m g page).Mons,((zb7 (mended r m q need) m g page).Buffer,((zb7 (mended r m q need) m g page).IoBuffer,()))))))))))))=some (zit (zd0 (zb7 (mended r m q need) m g page) m g page io)))(h2:r10 (page,(u5,((zdk (zbK r m g) page).Page,((zdk (zbK r m g) page).Rights,(u6,(u7,(u8,(u9,(r.Memory,(r.Mons,(r.Buffer,(r.IoBuffer,()))))))))))))=some (zit (zd0 r m g page io))) :
 zmJ N r.Mons m g page r.Memory r.Buffer r.IoBuffer q need r10 u5 u6 u7 u8 u9=some (zit (cond (zdT r m g page need) (zd0 (zb7 (mended r m q need) m g page) m g page io) (zd0 r m g page io))):=by
 unfold zmJ oN nB
 conv=>zeta
 refine brN (fun f1=>?_) (fun f1=>br (fun f2=>?_) (fun f2=>must rfl (brN (fun f3=>?_) (fun f3=>?_))))
 .rw [zrQ (zVY f1)];exact z1G A h1
 .rw [zrQ (zVZ f2)];exact z1G A h1
 .rw [zrQ (zV1 f3)];exact z1G A h1
 .rw [zVF (zV2 f1 f2 f3)];exact h2
theorem z3T {N:Nat}{r:Host}{m g page need q:Int}{u6 u7 u8 u9}(A:LookAt r m g q need) :
 zqi N m g page need q (zdq m g) u6 u7 u8 u9 r.Memory r.Mons r.Buffer r.IoBuffer=some (zit (cond (zdT r m g page need) (zd0 (zb7 (mended r m q need) m g page) m g page true) (zd0 r m g page true))):=by
 have M:=zlI ⟨A.fit.1,rfl⟩ A.hm A.hg;have F:=zlI (A.fill page) A.hm A.hg;unfold zqi oN
 conv=>zeta
 exact must (zl M.hm) (must (zl M.ht) (must rfl (shr (z6G A (z3S (r:=zb7 (mended r m q need) m g page) (m:=m) (g:=g) F.hi) (z3S (r:=r) (m:=m) (g:=g) M.hi)))))
theorem z3V {N:Nat}{r:Host}{m g page need q:Int}{u6 u7 u8 u9}(A:LookAt r m g q need) :
 zqk N m g page need q (zdq m g) u6 u7 u8 u9 r.Memory r.Mons r.Buffer r.IoBuffer=some (zit (cond (zdT r m g page need) (zd0 (zb7 (mended r m q need) m g page) m g page false) (zd0 r m g page false))):=by
 have M:=zlI ⟨A.fit.1,rfl⟩ A.hm A.hg;have F:=zlI (A.fill page) A.hm A.hg;unfold zqk oN
 conv=>zeta
 exact must (zl M.hm) (must (zl M.ht) (must rfl (shr (z6G A (z3U (r:=zb7 (mended r m q need) m g page) (m:=m) (g:=g) F.hb) (z3U (r:=r) (m:=m) (g:=g) M.hb)))))
theorem z3W {N:Nat}{r:Host}{m g page need q:Int}{io:Bool}{u6 u7 u8 u9}(A:LookAt r m g q need) :
 zql N m g page need io q u6 u7 u8 u9 r.Memory r.Mons r.Buffer r.IoBuffer=some (zit (zfp r (zq9 r io) m g page need q io)):=by
 unfold zql oN
 conv=>zeta
 cases io
 .show _=some (zit (zfp r r.Buffer m g page need q false))
  refine zdI rfl (must rfl (shr (must rfl (br (fun f1=>must rfl (br (fun f2=>?_) (fun f2=>?_))) (fun f1=>?_)))))
  .rw [zCK (zmp f1 f2)];rfl
  .rw [zmt (zmp f1 f2)];exact z3V A
  .rw [zmt (zCH f1)];exact z3V A
 .show _=some (zit (zfp r r.IoBuffer m g page need q true))
  refine must rfl (must rfl (shr (must rfl (br (fun f1=>must rfl (br (fun f2=>?_) (fun f2=>?_))) (fun f1=>?_)))))
  .rw [zCK (zmp f1 f2)];rfl
  .rw [zmt (zmp f1 f2)];exact z3T A
  .rw [zmt (zCH f1)];exact z3T A
theorem z7c (r:Host)(m q:Int)(io:Bool):zq9 (zbs r m q) io=zq9 r io:=by
 cases io<;>rfl
theorem z3X {N:Nat}{r:Host}{m g page need:Int}{io:Bool}{z1 z2 z3 z4}(hs:SmH r)(hg:zbH r m g=true)(hn:zfb need=true) :
 zqm N m g page need io z1 z2 z3 z4 r.Memory r.Mons r.Buffer r.IoBuffer (ix r.Mons m mZ).Guests=some (zit (lookOf r (zq9 r io) m g page need io)):=by
 obtain ⟨g1,g2,g3⟩:=zc0 hg;unfold zqm oN nB
 conv=>zeta
 refine must (zl g3) (must rfl (brN (fun hw=>?_) (fun hw=>?_)))
 .have:zby r m g page need=false:=by
   unfold zby;rw[hg,hn,show zdn (zb4 r m g) page need=false from hw]
   rfl
  rw[zgp this];rfl
 .have hl:zby r m g page need=true:=by
   unfold zby;rw[hg,hn,show zdn (zb4 r m g) page need=true from hw]
   rfl
  obtain ⟨A,B⟩:=zBc hs hl;rw[zGQ hl];have hd:hasB (zbQ (zb4 r m g) page need) (ln (ix r.Mons m mZ).Dirty)=true:=zc9 (zca A.fit.1 g2).2.2.2.1 A.hq;refine shr (br (fun h2=>?_) (fun h2=>?_))
  .rw [h2]
   show _=some (zit (zfp (zbs r m (zbQ (zb4 r m g) page need)) (zq9 r io) m g page need (zbQ (zb4 r m g) page need) io))
   rw[<- z7c r m (zbQ (zb4 r m g) page need) io];exact must (zl g2) (must (zl hd) (shr (z3W (r:=zbs r m (zbQ (zb4 r m g) page need)) B)))
  .rw [h2];exact z3W A
theorem zRC (a0:Host)(a1 a2:Int)(a3 a4:Int)(a5:Bool)(hc:zxQ a0 a1 a2 a3 a4 a5=true):∃N,zHv N a0 a1 a2 a3 a4 a5=some [aH (zxN a0 a1 a2 a3 a4 a5),aI (zxO a0 a1 a2 a3 a4 a5),aB (zxP a0 a1 a2 a3 a4 a5)]:=by
 have hs:=(zM a0).1 (zD.1 hc);refine ⟨0,?_⟩
 show _=some (zit (lookOf a0 (zq9 a0 a5) a1 a2 a3 a4 a5))
 unfold zHv oN nB
 conv=>zeta
 refine must (zbr ((zM _).2 hs)) (must (zbr ((zM _).2 hs)) (shr (must rfl (brN (fun h1=>?_) (fun h1=>?_)))))
 .rw [zgp (zmu (zVu h1))];rfl
 refine brN (fun h2=>?_) (fun h2=>?_)
 .rw [zgp (zmu (zVv h2))];rfl
 have eM:zmr a0 a1=ix a0.Mons a1 mZ:=by
  unfold zmr;rw[show hasB a1 (ln a0.Mons)=true from h2]
  rfl
 rw[eM];refine must rfl (brN (fun h3=>?_) (fun h3=>?_))
 .rw [zgp (zmu (zVw h3))];rfl
 have hg:=zVx h1 h2 h3;have hno:∀{n:Int},zfb n=false->zby a0 a1 a2 a3 n=false:=fun {n} h=>by
  unfold zby;rw[hg,h];rfl
 rw[zon,zon];cases h4:ieq a4 1
 .cases h5:ieq a4 2
  .have:zfb a4=false:=by unfold zfb;rw[h4,h5];rfl
   rw[zgp (hno this)];rfl
  .exact z3X (r:=a0) hs hg (by unfold zfb;rw[h4,h5];rfl)
 .exact z3X (r:=a0) hs hg (by unfold zfb;rw[h4];rfl)
theorem zLh:vF 34 zBA:=kF6 zgA zq zbR zgx zTl zRC
def z3D:zO:=[(34,zBA),(190,zoF)]++zlD
theorem zQP:zF z3D:=zh zLh (zh zGd zgA)
@[simp] abbrev zxG (h:Host)(m g page need:Int):Bool:=pc (zcb h)
@[simp] abbrev zxE (h:Host)(m g page need:Int):Host:=(lookOf h h.Buffer m g page need false).1
@[simp] abbrev zxF (h:Host)(m g page need:Int):Int:=(lookOf h h.Buffer m g page need false).2.1
@[simp] abbrev zmZ (h:Host)(m g page need:Int):Bool:=(lookOf h h.Buffer m g page need false).2.2
def zsF:Run:=rF5 dH dI dI dI dI fun b c d e f=>(zxG b c d e f,[aH (zxE b c d e f),aI (zxF b c d e f),aB (zmZ b c d e f)])
def zHm (N:Nat)(a0:Host)(a1 a2:Int)(a3 a4:Int):OA:=
 (oN (zxQ a0 a1 a2 a3 a4 false) (some [(aH (zxN a0 a1 a2 a3 a4 false)),(aI (zxO a0 a1 a2 a3 a4 false)),(aB (zxP a0 a1 a2 a3 a4 false))]))
theorem zRs (a0:Host)(a1 a2:Int)(a3 a4:Int)(hc:zxG a0 a1 a2 a3 a4=true):∃N,zHm N a0 a1 a2 a3 a4=some [aH (zxE a0 a1 a2 a3 a4),aI (zxF a0 a1 a2 a3 a4),aB (zmZ a0 a1 a2 a3 a4)]:=by
 refine ⟨0,?_⟩;unfold zHm oN;exact must hc rfl
theorem zv3:vF 10 zsF:=kF5 zQP zq zbR zgx (zo []) zRs
def z3E:zO:=[(10,zsF)]++z3D
theorem z1h:zF z3E:=zh zv3 zQP
def brought (n a b:Int):Int:=bif ilt n a then a else (cond (ilt b a) a (zLP n b))
@[simp] abbrev zpq (_ _ _:Int):Bool:=true
@[simp] abbrev zqa (n a b:Int):Int:=brought n a b
def zqK:Run:=rF3 dI dI dI fun b c d=>(zpq b c d,[aI (zqa b c d)])
def zD0 (N:Nat)(a0 a1 a2:Int):OA:=
 (cond (ilt a2 a1) (some [(aI a1)]) (cond (ilt a0 a1) (some [(aI a1)]) (cond (igt a0 a2) (some [(aI a2)]) (some [(aI a0)]))))
theorem zPc (a0 a1 a2:Int)(hc:zpq a0 a1 a2=true):∃N,zD0 N a0 a1 a2=some [aI (zqa a0 a1 a2)]:=by
 refine ⟨0,?_⟩;unfold zD0;unfold zqa brought zLP;cases h1:ilt a2 a1<;>cases h2:ilt a0 a1<;>cases h3:igt a0 a2<;>simp [igt] at * <;> omega
theorem ztP:vF 242 zqK:=kF3 zr6 zq zn zu (zo []) zPc
structure RI (a:List Bare) (i:Nat) (l:List Bare):Prop where
 len:l.length=a.length
 sm:zWg l
 eq:∀k,i<=k->l[k]?=a[k]?
theorem RI.up {a l:List Bare}{i:Nat}(h:RI a i l)(x:Bare)(hx:SmB x):RI a (i+1) (up l (i:Int) x) :=
 ⟨by rw[zf2];exact h.len,z5N h.sm hx,fun k hk=>by rw[z6z (by omega)];exact h.eq k (by omega)⟩
structure RJ (l:List Bare) (i:Nat) (l':List Bare):Prop where
 len:l'.length=l.length
 sm:SmB (ix l' (i:Int) zTE)
 up:∀x,E.up l' (i:Int) x=E.up l (i:Int) x
theorem RJ.next {l l':List Bare}{i:Nat}(h:RJ l i l')(hi:i<l.length)(x:Bare)(hx:SmB x):RJ l i (E.up l' (i:Int) x) :=
 ⟨by rw[zf2];exact h.len,by rw[zdD (by rw[h.len];exact hi)];exact hx,fun y=>by rw[zuX];exact h.up y⟩
def zYO:zO:=z3E
theorem zYP:zF zYO:=z1h
theorem zSW {h:Host}{m:Int}(hs:SmH h)(hm:hasB m (ln h.Mons)=true):SmB (zB h m):=by
 have g1:=hs.2.1.2 _ (zbv hm mZ);have hP:∀(mm:List (List Int)) (q:Int),SmM mm->(zb8 mm q).length<=1048576:=fun mm q h=>zSY h;have hpg:∀p:Int,(zcM h m p).length<=1048576:=by
  intro p;unfold zcM;cases hasB m (ln h.Mons)
  .exact (by decide:zyv.length<=1048576)
  .cases hasB p 8
   .exact (by decide:zyv.length<=1048576)
   .simp only [cT];cases ine (zbm (ix h.Mons m zf).Outer p).Page (-1)
    .exact hP _ _ g1.2.1
    .exact hP _ _ hs.1
 have hN:∀(n i:Nat),∀x∈zco h m n i,x.length<=1048576:=by
  intro n
  induction n with
  | zero=>intro i x hx;cases hx
  | succ n ih =>
   intro i x hx;rcases qG.1 hx with rfl|hx
   .exact hpg _
   .exact ih (i+1) x hx
 unfold zB;rw[hm];exact ⟨⟨by show (zco h m 8 0).length<=1048576;rw[zx2];decide,hN 8 0⟩,g1.2.2.2.1,g1.2.2.2.2.1⟩
def z3F:zO:=zYO
theorem z1i:zF z3F:=zYP
def z3G:zO:=[(242,zqK)]++z3F
theorem z1j:zF z3G:=zh ztP z1i
def cnt (l:List Mon):List Nat:=l.map fun x=>x.Guests.length
theorem z6e {l l':List Mon}(h:zdP l'=zdP l):cnt l'=cnt l:=by
 have e:∀l:List Mon,cnt l=(zdP l).map List.length:=fun l=>by simp[cnt,zdP]
 rw[e,e,h]
theorem zQD {l:List Mon}{m:Int}{x:Mon}(hm:hasB m (ln l)=true)(hx:x.Guests.length=(ix l m mZ).Guests.length):cnt (up l m x)=cnt l:=by
 obtain ⟨k,rfl,hk⟩:=zdu (n:=l.length) hm;unfold cnt up;rw[List.map_set,kW,hx,zbc hk];have:=@uS _ (l.map fun x=>x.Guests.length) k (by simpa using hk)
 simpa using this
theorem z4y {l l':List Mon}(h:cnt l'=cnt l):l'.length=l.length:=by
 have:=congrArg List.length h;simpa [cnt] using this
theorem z6f {l l':List Mon}(h:cnt l'=cnt l)(m:Int):(ix l' m mZ).Guests.length=(ix l m mZ).Guests.length:=by
 have h2:(cnt l')[m.toNat]?=(cnt l)[m.toNat]?:=by rw[h]
 unfold cnt at h2;rw[qN,qN]at h2;unfold ix;simp only[j9];cases h3:l'[m.toNat]? <;> cases h4:l[m.toNat]? <;> rw [h3,h4]at h2<;>simp at h2 ⊢;exact h2
theorem z5t (h:Host)(m p:Int):(zda h m p).Memory=h.Memory:=(zfG (zep h m p) m p noSlot).2
theorem z5s (h:Host):(zcO h).Memory=h.Memory:=by
 unfold zcO;cases ieq (ln (zbZ h)) 0
 .rfl
 .exact z5t _ _ _
theorem z5r (m:List (List Int))(p:Int)(c:List Int):(zgK m p c).length=m.length:=by
 unfold zgK;cases hasB p (ln m)
 .rfl
 .cases zb5 c
  .rfl
  .simp
theorem z5p (m:List (List Int))(p c v:Int):(zbz m p c v).length=m.length:=by
 unfold zbz;cases zg9 m p c
 .rfl
 .cases win v 0 99
  .rfl
  .simp
theorem zXf (h:Host)(m p:Int):(fetched h m p).Memory.length=h.Memory.length:=by
 unfold fetched zew;rw[(zfG _ _ _ _).2];unfold landing;rw[z5r,z5s]
theorem zSk (h:Host)(m p n:Int):(ziq h m p n).Memory=h.Memory:=by
 unfold ziq;cases ieq (wand .i64 n 2) 0
 .unfold opened;cases ieq (wand .i64 (ix (ix (zbs h m p).Mons m mZ).Outer p sZ).Rights 2) 0
  .rfl
  .exact (zfG _ _ _ _).2
 .rfl
theorem zZz (h:Host)(m p n:Int):(mended h m p n).Memory.length=h.Memory.length:=by
 unfold mended;cases ieq (ix (ix h.Mons m mZ).Outer p sZ).Page (-1)
 .exact congrArg List.length (zSk _ _ _ _)
 .exact (congrArg List.length (zSk _ _ _ _)).trans (zXf _ _ _)
theorem zZA (h:Host)(m g p:Int)(io:Bool):(zt0 h m g p io).Memory=h.Memory:=by cases io<;>rfl
theorem z1M (h:Host)(b:List Entry)(m g page need q:Int)(io:Bool):(zfp h b m g page need q io).1.Memory.length=h.Memory.length:=by
 unfold zfp;cases zgQ b m g page need
 .cases zdT h m g page need
  .exact congrArg List.length (zZA _ _ _ _ _)
  .exact (congrArg List.length (zZA _ _ _ _ _)).trans (zZz h m q need)
 .rfl
theorem z5q (h:Host)(b:List Entry)(m g page need:Int)(io:Bool):(lookOf h b m g page need io).1.Memory.length=h.Memory.length:=by
 unfold lookOf;cases zby h m g page need
 .rfl
 .simp only [cT];rw[z1M];cases ieq need 2<;>rfl
structure Keep (h r:Host):Prop where
 shape:Shape r
 cnt:cnt r.Mons=cnt h.Mons
 mem:r.Memory.length=h.Memory.length
theorem Keep.has {h r:Host}(k:Keep h r){m:Int}(hm:hasB m (ln h.Mons)=true):hasB m (ln r.Mons)=true:=by
 rw[ln,z4y k.cnt];exact hm
theorem Keep.hg {h r:Host}(k:Keep h r){m g:Int}(hg:hasB g (ln (ix h.Mons m mZ).Guests)=true):hasB g (ln (ix r.Mons m mZ).Guests)=true:=by
 rw[ln,z6f k.cnt];exact hg
theorem Keep.trans {a b c:Host}(h:Keep a b)(k:Keep b c):Keep a c:=⟨k.shape,k.cnt.trans h.cnt,k.mem.trans h.mem⟩
theorem Keep.rfl' {h:Host}(hs:Shape h):Keep h h:=⟨hs,rfl,rfl⟩
theorem zms {h:Host}{m g:Int}{x:Guest}(hs:Shape h)(hm:hasB m (ln h.Mons)=true)(hx:SmG x):Keep h (zjO h m g x):=⟨zXS hs hm hx,zQD hm (by simp),rfl⟩
theorem ztW {h:Host}{b:List Entry}{m g page need:Int}{io:Bool}(hs:SmH h)(hh:zbH h m g=true):Keep h (lookOf h b m g page need io).1:=by
 have k:=zwd (b:=b) (page:=page) (need:=need) (io:=io) hs hh;exact ⟨k.shape,z6e k.gs,z5q _ _ _ _ _ _ _⟩
theorem zZj {h:Host}{p c v:Int}(hs:Shape h):Keep h { h with Memory:=zbz h.Memory p c v }:=⟨zOs hs (zyr hs.1.1),rfl,z5p _ _ _ _⟩
theorem zW6 {h:Host}{m:Int}(hs:Shape h)(hm:hasB m (ln h.Mons)=true):Keep h (owned h m):=by
 obtain ⟨g1,g2⟩:=zca hs hm;unfold owned;cases ilt (ix h.Mons m mZ).Own 1000000000
 .exact Keep.rfl' hs
 .exact ⟨zhC hs g1 g2,zQD hm rfl,rfl⟩
theorem zW5 {h:Host}{m n:Int}(hs:Shape h)(hm:hasB m (ln h.Mons)=true):Keep h (znf h m n):=by
 obtain ⟨g1,g2⟩:=zca hs hm;unfold znf;cases h3:ilt (ln (ix h.Mons m mZ).Outs) 40
 .exact Keep.rfl' hs
 .have h4:=qE h3;simp only[ln]at h4;refine ⟨zhC hs ⟨g1.1,g1.2.1,g1.2.2.1,g1.2.2.2.1,?_,g1.2.2.2.2.2⟩ g2,zQD hm rfl,rfl⟩;simp[ap];omega
theorem zZl {h:Host}{m g:Int}{x:Guest}{w:Int}(hs:Shape h)(hm:hasB m (ln h.Mons)=true)(hx:SmG x):Keep h (zuW h m g x w):=by
 have k1:Keep h (zfS h m x w):=by
  unfold zfS;cases (cond (ine w 6) (ieq (zx0 (ix h.Mons m mZ).Traps x.Ctl.Traps (zw7 w)) 2) false)
  .exact Keep.rfl' hs
  .exact zW6 hs hm
 have k2:Keep (zfS h m x w) (zfR (zfS h m x w) m x w):=by
  unfold zfR;cases (cond (zjl x.Ctl.Traps w) (ieq w 5) false)
  .exact Keep.rfl' k1.shape
  .exact zW5 k1.shape (k1.has hm)
 have k3:=k1.trans k2;exact k3.trans (zms k3.shape (k3.has hm) (zCh _ _ hx))
theorem zZk {h:Host}{m g:Int}(hs:SmH h)(hh:zbH h m g=true):Keep h (zbt h m g).1:=by
 obtain ⟨g1,g2,g3⟩:=zc0 hh;have hx:=znZ hs g2 g3;have hS:=(zeI hs g1).1;rw[ziB hh];unfold zS6;cases ieq (zQ (gOf h m g)) 0
 .cases ieq (zQ (gOf h m g)) 1
  .cases ieq (zQ (gOf h m g)) 2
   .cases (cond (ieq (zQ (gOf h m g)) 3) true (ieq (zQ (gOf h m g)) 4))
    .exact zZl hS g2 hx
    .have k:=ztW (b:=h.Buffer) (page:=zbb (address (gOf h m g))) (need:=zbX (ieq (zQ (gOf h m g)) 4)) (io:=false) hs hh
     show Keep h (ziC (zlJ h m g (gOf h m g) (ieq (zQ (gOf h m g)) 4)) m g (gOf h m g) (ieq (zQ (gOf h m g)) 4))
     unfold ziC;cases (zlJ h m g (gOf h m g) (ieq (zQ (gOf h m g)) 4)).2.2
     .exact k.trans (zms k.shape (k.has g2) hx)
     .cases ieq (zQ (gOf h m g)) 4
      .have k:=ztW (b:=h.Buffer) (page:=zbb (address (gOf h m g))) (need:=zbX false) (io:=false) hs hh;exact k.trans (zms k.shape (k.has g2) (zKm _ hx))
      .have k:=ztW (b:=h.Buffer) (page:=zbb (address (gOf h m g))) (need:=zbX true) (io:=false) hs hh;have k2:=zZj (p:=(zlJ h m g (gOf h m g) true).2.1) (c:=zcU (address (gOf h m g))) (v:=(gOf h m g).A) k.shape;have k3:=k.trans k2;exact k3.trans (zms k3.shape (k3.has g2) (zj8 hx))
   .exact zms hS g2 (zFe hx)
  .exact zms hS g2 (zVT hx)
 .exact Keep.rfl' hS
structure Same (h r:Host):Prop where
 sm:SmH r
 cnt:cnt r.Mons=cnt h.Mons
 mem:r.Memory.length=h.Memory.length
 st:r=h\/Shape r
theorem Same.rfl' {h:Host}(hs:SmH h):Same h h:=⟨hs,rfl,rfl,.inl rfl⟩
theorem Same.trans {a b c:Host}(h:Same a b)(k:Same b c):Same a c:=⟨k.sm,k.cnt.trans h.cnt,k.mem.trans h.mem,by
 rcases k.st with e|e
 .rw [e];exact h.st
 .exact .inr e⟩
theorem zZ7 {h:Host}(m g:Int)(hs:SmH h):Same h (zbt h m g).1:=by
 cases hh:zbH h m g
 .rw [zkV hh];exact Same.rfl' hs
 .have k:=zZk hs hh;exact ⟨k.shape.1,k.cnt,k.mem,.inr k.shape⟩
def z3H:zO:=[(242,zqK)]++zWw
theorem zr9:zF z3H:=zh ztP zr6
theorem zQz {a b:Bool}(h:(a=true)↔(b=true)):a=b:=by cases a<;>cases b<;>simp_all
@[simp] theorem z6T (x:Int):win x 0 3=hasB x 4:=zQz (by rw[zfm];unfold hasB;rw[decide_eq_true_iff];omega)
@[simp] theorem z0z (x:Int):win x 0 7=hasB x 8:=zQz (by rw[zfm];unfold hasB;rw[decide_eq_true_iff];omega)
def zdU (t:List Slot)(p:Int)(s:Slot):List Slot:=bif hasB p (ln t) then up t p s else t
@[simp] theorem z6U (t:List Slot)(p:Int)(s:Slot):(zdU t p s).length=t.length:=by
 unfold zdU;cases hasB p (ln t)<;>simp
@[simp] abbrev znS (t:List Slot)(p:Int)(s:Slot):Bool:=pc (t.length<=1048576)
@[simp] abbrev zkQ (t:List Slot)(p:Int)(s:Slot):List Slot:=zdU t p s
def zwT:Run:=rF3 (dS .slot) dI (dT .slot) fun b c d=>(znS b c d,[aS .slot (zkQ b c d)])
def zAi (N:Nat)(a0:lS)(a1:Int)(a2:Slot):OA:=
 (oN (few (ln (ap [] a0))) (oN (zI a1 0 (wsub .i64 (ln a0) 1)) (cond (zL a1 0 (wsub .i64 (ln a0) 1)) (oN (inb a1 (ln (ap [] a0))) (share (up (ap [] a0) a1 a2) (fun x4=>(some [(aS .slot x4)])))) (some [(aS .slot (ap [] a0))]))))
theorem zMr (a0:List Slot)(a1:Int)(a2:Slot)(hc:znS a0 a1 a2=true):∃N,zAi N a0 a1 a2=some [aS .slot (zkQ a0 a1 a2)]:=by
 have hs:=zD.1 hc;refine ⟨0,?_⟩;unfold zAi oN;refine mu (must rfl (br (fun _=>mu (shr ?_)) (fun _=>?_)))
 all_goals first|rfl|(simp only [*,zkQ,zdU,cT,cF]<;>rfl)|simp_all[Ty.cells,zkQ,zdU]
theorem zGl:vF 308 zwT:=kF3 zr9 zq zn zu (zo []) zMr
def zfI (p n:Int):Bool:=bif zcN p then win n 0 7 else false
def zrm (p n:Int):Int:=bif zfI p n then wor .i64 p (zn2 .i64 1 n) else p
theorem cv7 {n:Int}(h:hasB n 8=true):wcv .u64 n=n/\ile 0 n=true:=by
 have:=qE h;exact ⟨zWc (by omega) (by omega),qI (by omega)⟩
@[simp] abbrev zi9 (p n:Int):Bool:=true
@[simp] abbrev zgh (p n:Int):Int:=zrm p n
@[simp] abbrev zlt (p n:Int):Bool:=zfI p n
def zzg:Run:=rF2 dI dI fun b c=>(zi9 b c,[aI (zgh b c),aB (zlt b c)])
def zEe (N:Nat)(a0 a1:Int):OA:=
 (oN (zeR a0) (cond (nB (zeQ a0)) (some [(aI a0),(aB false)]) (oN (zI a1 0 7) (cond (nB (zL a1 0 7)) (some [(aI a0),(aB false)]) (oN (ile 0 (wcv .u64 a1)) (some [(aI (wor .i64 a0 (zn2 .i64 1 (wcv .u64 a1)))),(aB true)]))))))
theorem zPr (a0 a1:Int)(hc:zi9 a0 a1=true):∃N,zEe N a0 a1=some [aI (zgh a0 a1),aB (zlt a0 a1)]:=by
 have hw:=@cv7 a1;refine ⟨0,?_⟩;unfold zEe oN nB;refine must rfl (brN (fun _=>?_) (fun _=>must rfl (brN (fun _=>?_) (fun _=>mu ?_))))
 all_goals first|rfl|(simp only [*,zgh,zlt,zrm,zfI,cT,cF]<;>rfl)|simp_all[Ty.cells,zgh,zlt,zrm,zfI]
theorem zIV:vF 310 zzg:=kF2 zr9 zq zn zu (zo []) zPr
def posts (c:Ctl)(n:Int):Bool:=bif zgL c then (cond (win n 0 7) (ieq (wand .i64 (zCs .i64 c.Post n) 1) 1) false) else false
@[simp] abbrev zCc (c:Ctl)(n:Int):Bool:=true
@[simp] abbrev zw1 (c:Ctl)(n:Int):Bool:=posts c n
def zE3:Run:=rF2 dC dI fun b c=>(zCc b c,[aB (zw1 b c)])
def zNw (N:Nat)(a0:Ctl)(a1:Int):OA:=
 (oN (zqb a0) (cond (zoK a0) (oN (zI a1 0 7) (cond (zL a1 0 7) (oN (ile 0 (wcv .u64 a1)) (some [(aB (ieq (wand .i64 (zCs .i64 a0.Post (wcv .u64 a1)) 1) 1))])) oF)) oF))
theorem zUk (a0:Ctl)(a1:Int)(hc:zCc a0 a1=true):∃N,zNw N a0 a1=some [aB (zw1 a0 a1)]:=by
 have hw:=@cv7 a1;refine ⟨0,?_⟩;unfold zNw oN;refine must rfl (br (fun _=>must rfl (br (fun _=>mu ?_) (fun _=>?_))) (fun _=>?_))
 all_goals first|rfl|(simp only [*,zw1,posts,cT,cF]<;>rfl)|simp_all[Ty.cells,zw1,posts]
theorem zOU:vF 321 zE3:=kF2 zr9 zq zn zu (zo []) zUk
def zbY (b:Bare)(g:Int):Bool:=bif zbU b then hasB g (ln b.Guests) else false
theorem zdo {b:Bare}{g:Int}:(zbY b g=true)↔zbU b=true/\hasB g (ln b.Guests)=true:=by
 unfold zbY;cases zbU b<;>simp
@[simp] abbrev zh7 (b:Bare)(g:Int):Bool:=pc (SmB b)
@[simp] abbrev zjd (b:Bare)(g:Int):Bool:=zbY b g
def zE6:Run:=rF2 (dT .bare) dI fun b c=>(zh7 b c,[aB (zjd b c)])
def zNz (N:Nat)(a0:Bare)(a1:Int):OA:=
 (oN (znw a0) (cond (zeu a0) (oN (zI a1 0 (wsub .i64 (ln a0.Guests) 1)) (some [(aB (zL a1 0 (wsub .i64 (ln a0.Guests) 1)))])) oF))
theorem zUn (a0:Bare)(a1:Int)(hc:zh7 a0 a1=true):∃N,zNz N a0 a1=some [aB (zjd a0 a1)]:=by
 have hs:=zD.1 hc;have hl:a0.Guests.length<=1048576:=hs.2.1.1
 refine ⟨0,?_⟩;unfold zNz oN;refine must rfl (br (fun _=>must rfl ?_) (fun _=>?_))
 all_goals first|rfl|(simp only [*,zjd,zbY,cT,cF]<;>rfl)|simp_all[Ty.cells,zjd,zbY]
theorem zOX:vF 307 zE6:=kF2 zr9 zq zn zu (zo []) zUn
def z3I:zO:=[(308,zwT),(310,zzg),(321,zE3),(307,zE6)]++z3H
theorem zju:zF z3I:=zh zGl (zh zIV (zh zOU (zh zOX zr9)))
theorem z2y {α:Type}{l:List α}{i:Int}{d:α}(h:hasB i (ln l)=true):up l i (ix l i d)=l:=by
 obtain ⟨k,rfl,hk⟩:=zdu (n:=l.length) h;unfold up;rw[zbc hk,kW];exact uS hk
theorem zsc {b:Bare}{g:Int}(h:hasB g (ln b.Guests)=true):gAt b g=ix b.Guests g zx:=by
 unfold gAt;rw[h];rfl
theorem zZ9 {b:Bare}{g:Int}(h:hasB g (ln b.Guests)=true):zd3 b g (gAt b g)=b:=by
 unfold zd3;rw[zsc h,z2y h]
def chg (b:Bare)(g:Int)(c:Bool)(x:Guest):Bare:=bif (cond (zbY b g) c false) then zd3 b g x else b
def zbM (b:Bare)(g:Int)(c:Bool):Bool:=bif zbY b g then c else false
def zqU (p:Int)(s:Slot):Bool:=bif hasB p 4 then zdd s 8 else false
def zyo (x:Guest)(p:Int)(s:Slot):Guest:={ x with Written:=zdU x.Written p s }
def zdz (x:Guest)(p:Int):Guest:={ x with Live:=zdU x.Live p (zbm x.Written p) }
def zjK:GExit:=⟨0,0,false,0⟩
def zqr (x:Guest)(v:Int):Bool:=bif win v 0 99 then (cond (ieq x.Exit.Kind 2) true (ieq x.Exit.Kind 3)) else false
def zu3 (x:Guest)(v:Int):Guest:=zbW (stopped (cond (ieq x.Exit.Kind 2) { x with A:=v } x) zjK)
def zvf (x:Guest):Bool:=bif ieq x.Exit.Kind 1 then true else ieq x.Exit.Kind 4
def zvg (x:Guest):Guest:=bif ieq x.Exit.Kind 1 then stopped x zjK else held (stopped x zjK)
def zl2 (x:Guest)(n:Int):Guest:={ x with Pending:=zrm x.Pending n }
def zFy (x:Guest)(c:Ctl):Guest:={ x with Ctl:=c }
theorem z5j {x:Guest}{n:Int}(h:zfI x.Pending n=false):zl2 x n=x:=by
 unfold zl2 zrm;rw[h];rfl
theorem z2k {x:Guest}(p:Int)(s:Slot)(h:SmG x):SmG (zyo x p s):=⟨h.1,by simpa [zyo] using h.2.1,h.2.2.1,h.2.2.2⟩
theorem zKl {x:Guest}(p:Int)(h:SmG x):SmG (zdz x p):=⟨h.1,h.2.1,by simpa [zdz] using h.2.2.1,h.2.2.2⟩
theorem z2i {x:Guest}(v:Int)(h:SmG x):SmG (zu3 x v):=by
 unfold zu3;cases ieq x.Exit.Kind 2<;>exact zj8 h
theorem z2j {x:Guest}(h:SmG x):SmG (zvg x):=by
 unfold zvg;cases ieq x.Exit.Kind 1
 .exact zSX (g:=stopped x zjK) h
 .exact h
theorem zoW {b:Bare}{g:Int}{c:Bool}{x:Guest}(h:SmB b)(hx:SmG x):SmB (chg b g c x):=by
 unfold chg;cases (cond (zbY b g) c false)
 .exact h
 .exact zmi h hx
@[simp] abbrev zpp (b:Bare)(g p:Int)(s:Slot):Bool:=pc (SmB b)
@[simp] abbrev zhw (b:Bare)(g p:Int)(s:Slot):Bare:=chg b g (zqU p s) (zyo (gAt b g) p s)
@[simp] abbrev zi8 (b:Bare)(g p:Int)(s:Slot):Bool:=zbM b g (zqU p s)
def zqJ:Run:=rF4 (dT .bare) dI dI (dT .slot) fun b c d e=>(zpp b c d e,[aT .bare (zhw b c d e),aB (zi8 b c d e)])
def zDZ (N:Nat)(a0:Bare)(a1 a2:Int)(a3:Slot):OA:=
 let y0:=(zb9 a0);let y1:=(ix y0.Guests a1 zx); (oN (zeE a0) (oN (zh7 y0 a1) (cond (nB (zjd y0 a1)) (some [(aT .bare y0),(aB false)]) (oN (zI a2 0 3) (cond (nB (zL a2 0 3)) (some [(aT .bare y0),(aB false)]) (oN (zrx a3 8) (cond (nB (zoO a3 8)) (some [(aT .bare y0),(aB false)]) (oN (inb a1 (ln y0.Guests)) (oN (znS y1.Written a2 a3) (oN (inb a1 (ln y0.Guests)) (share (up y0.Guests a1 ({ y1 with Written:=(zkQ y1.Written a2 a3) }:Guest)) (fun x5=>(some [(aT .bare ({ y0 with Guests:=x5 }:Bare)),(aB true)])))))))))))))
theorem zPb (a0:Bare)(a1 a2:Int)(a3:Slot)(hc:zpp a0 a1 a2 a3=true):∃N,zDZ N a0 a1 a2 a3=some [aT .bare (zhw a0 a1 a2 a3),aB (zi8 a0 a1 a2 a3)]:=by
 have hs:=zD.1 hc;have hx:=ziU a1 hs;have hz:zbY a0 a1=true->hasB a1 (ln a0.Guests)=true:=fun h=>(zdo.1 h).2;have hz2:zbY a0 a1=true->gAt a0 a1=ix a0.Guests a1 zx:=fun h=>zsc (zdo.1 h).2;have hw:=hx.2.1
 refine ⟨0,?_⟩;unfold zDZ oN nB
 conv=>zeta
 refine mu (mu (brN (fun _=>?_) (fun _=>must rfl (brN (fun _=>?_) (fun _=>must rfl (brN (fun _=>?_) (fun _=>mu (mu (mu (shr ?_))))))))))
 all_goals first|rfl|(simp only [*,zhw,zi8,chg,zbM,zqU,zyo,zd3,cT,cF]<;>rfl)|simp_all[Ty.cells,zhw,zi8,chg,zbM,zqU,zyo,zd3]
theorem ztO:vF 258 zqJ:=kF4 zju zq zn zu (zo []) zPb
@[simp] abbrev zqP (b:Bare)(g p:Int):Bool:=pc (SmB b)
@[simp] abbrev zer (b:Bare)(g p:Int):Bare:=chg b g (hasB p 4) (zdz (gAt b g) p)
@[simp] abbrev zgW (b:Bare)(g p:Int):Bool:=zbM b g (hasB p 4)
def znm:Run:=rF3 (dT .bare) dI dI fun b c d=>(zqP b c d,[aT .bare (zer b c d),aB (zgW b c d)])
def zyJ (N:Nat)(a0:Bare)(a1 a2:Int):OA:=
 let y1:=(zb9 a0);let y2:=(inb a1 (ln y1.Guests));let y0:=(ix y1.Guests a1 zx); (oN (zeE a0) (oN (zh7 y1 a1) (cond (nB (zjd y1 a1)) (some [(aT .bare y1),(aB false)]) (oN (zI a2 0 3) (cond (nB (zL a2 0 3)) (some [(aT .bare y1),(aB false)]) (oN y2 (oN y2 (oN (znQ y0.Written a2) (oN (znS y0.Live a2 (ziv y0.Written a2)) (oN y2 (share (up y1.Guests a1 ({ y0 with Live:=(zkQ y0.Live a2 (ziv y0.Written a2)) }:Guest)) (fun x4=>(some [(aT .bare ({ y1 with Guests:=x4 }:Bare)),(aB true)])))))))))))))
theorem zJy (a0:Bare)(a1 a2:Int)(hc:zqP a0 a1 a2=true):∃N,zyJ N a0 a1 a2=some [aT .bare (zer a0 a1 a2),aB (zgW a0 a1 a2)]:=by
 have hs:=zD.1 hc;have hx:=ziU a1 hs;have hz:zbY a0 a1=true->hasB a1 (ln a0.Guests)=true:=fun h=>(zdo.1 h).2;have hz2:zbY a0 a1=true->gAt a0 a1=ix a0.Guests a1 zx:=fun h=>zsc (zdo.1 h).2;have hw:=hx.2.2.1
 refine ⟨0,?_⟩;unfold zyJ oN nB
 conv=>zeta
 refine mu (mu (brN (fun _=>?_) (fun _=>must rfl (brN (fun _=>?_) (fun _=>mu (mu (must rfl (mu (mu (shr ?_))))))))))
 all_goals first|rfl|(simp only [*,zer,zgW,chg,zbM,zdz,zd3,cT,cF]<;>rfl)|simp_all[Ty.cells,zer,zgW,chg,zbM,zdz,zd3]
theorem zqZ:vF 261 znm:=kF3 zju zq zn zu (zo []) zJy
@[simp] abbrev zkA (b:Bare)(g v:Int):Bool:=pc (SmB b)
@[simp] abbrev zfh (b:Bare)(g v:Int):Bare:=chg b g (zqr (gAt b g) v) (zu3 (gAt b g) v)
@[simp] abbrev zgt (b:Bare)(g v:Int):Bool:=zbM b g (zqr (gAt b g) v)
def zl8:Run:=rF3 (dT .bare) dI dI fun b c d=>(zkA b c d,[aT .bare (zfh b c d),aB (zgt b c d)])
def zvI (N:Nat)(a0:Bare)(a1 a2:Int):OA:=
 let y2:=(zb9 a0);let y4:=(inb a1 (ln y2.Guests));let y1:=(⟨0,0,false,0⟩:GExit);let y0:=(ix y2.Guests a1 zx);let y3:=({ y0 with A:=a2 }:Guest); (oN (zeE a0) (oN (zh7 y2 a1) (cond (nB (zjd y2 a1)) (some [(aT .bare y2),(aB false)]) (oN (zI a2 0 99) (cond (nB (zL a2 0 99)) (some [(aT .bare y2),(aB false)]) (oN y4 (cond (ieq y0.Exit.Kind 2) (oN (zdW y3 y1) (oN (zdR (zds y3 y1)) (oN y4 (share (up y2.Guests a1 (zfP (zds y3 y1))) (fun x4=>(some [(aT .bare ({ y2 with Guests:=x4 }:Bare)),(aB true)])))))) (cond (ieq y0.Exit.Kind 3) (oN (zdW y0 y1) (oN (zdR (zds y0 y1)) (oN y4 (share (up y2.Guests a1 (zfP (zds y0 y1))) (fun x4=>(some [(aT .bare ({ y2 with Guests:=x4 }:Bare)),(aB true)])))))) (some [(aT .bare y2),(aB false)])))))))))
theorem zGE (a0:Bare)(a1 a2:Int)(hc:zkA a0 a1 a2=true):∃N,zvI N a0 a1 a2=some [aT .bare (zfh a0 a1 a2),aB (zgt a0 a1 a2)]:=by
 have hs:=zD.1 hc;have hx:=ziU a1 hs;have hz:zbY a0 a1=true->hasB a1 (ln a0.Guests)=true:=fun h=>(zdo.1 h).2;have hz2:zbY a0 a1=true->gAt a0 a1=ix a0.Guests a1 zx:=fun h=>zsc (zdo.1 h).2;have ho:_/\_/\_/\_:=hx
 refine ⟨0,?_⟩;unfold zvI oN nB
 conv=>zeta
 refine mu (mu (brN (fun _=>?_) (fun _=>must rfl (brN (fun _=>?_) (fun _=>mu (br (fun _=>mu (mu (mu (shr ?_)))) (fun _=>br (fun _=>mu (mu (mu (shr ?_)))) (fun _=>?_))))))))
 all_goals first|rfl|(simp only [*,zfh,zgt,chg,zbM,zqr,zu3,zjK,zd3,SmG,stopped,cT,cF]<;>rfl)|simp_all[Ty.cells,zfh,zgt,chg,zbM,zqr,zu3,zjK,zd3,SmG,stopped]
theorem zpZ:vF 263 zl8:=kF3 zju zq zn zu (zo []) zGE
@[simp] abbrev zkC (b:Bare)(g:Int):Bool:=pc (SmB b)
@[simp] abbrev zfj (b:Bare)(g:Int):Bare:=chg b g (zvf (gAt b g)) (zvg (gAt b g))
@[simp] abbrev zgv (b:Bare)(g:Int):Bool:=zbM b g (zvf (gAt b g))
def zma:Run:=rF2 (dT .bare) dI fun b c=>(zkC b c,[aT .bare (zfj b c),aB (zgv b c)])
def zvK (N:Nat)(a0:Bare)(a1:Int):OA:=
 let y2:=(zb9 a0);let y3:=(inb a1 (ln y2.Guests));let y1:=(⟨0,0,false,0⟩:GExit);let y0:=(ix y2.Guests a1 zx); (oN (zeE a0) (oN (zh7 y2 a1) (cond (nB (zjd y2 a1)) (some [(aT .bare y2),(aB false)]) (oN y3 (cond (ieq y0.Exit.Kind 1) (oN (zdW y0 y1) (oN y3 (share (up y2.Guests a1 (zds y0 y1)) (fun x3=>(some [(aT .bare ({ y2 with Guests:=x3 }:Bare)),(aB true)]))))) (cond (ieq y0.Exit.Kind 4) (oN (zdW y0 y1) (oN (zmc (zds y0 y1)) (oN y3 (share (up y2.Guests a1 (zwZ (zds y0 y1))) (fun x3=>(some [(aT .bare ({ y2 with Guests:=x3 }:Bare)),(aB true)])))))) (some [(aT .bare y2),(aB false)])))))))
theorem zGG (a0:Bare)(a1:Int)(hc:zkC a0 a1=true):∃N,zvK N a0 a1=some [aT .bare (zfj a0 a1),aB (zgv a0 a1)]:=by
 have hs:=zD.1 hc;have hx:=ziU a1 hs;have hz:zbY a0 a1=true->hasB a1 (ln a0.Guests)=true:=fun h=>(zdo.1 h).2;have hz2:zbY a0 a1=true->gAt a0 a1=ix a0.Guests a1 zx:=fun h=>zsc (zdo.1 h).2;have ho:_/\_/\_/\_:=hx
 refine ⟨0,?_⟩;unfold zvK oN nB
 conv=>zeta
 refine mu (mu (brN (fun _=>?_) (fun _=>mu (br (fun _=>mu (mu (shr ?_))) (fun _=>br (fun _=>mu (mu (mu (shr ?_)))) (fun _=>?_))))))
 all_goals first|rfl|(simp only [*,zfj,zgv,chg,zbM,zvf,zvg,zjK,zd3,SmG,stopped,cT,cF]<;>rfl)|simp_all[Ty.cells,zfj,zgv,chg,zbM,zvf,zvg,zjK,zd3,SmG,stopped]
theorem zp1:vF 264 zma:=kF2 zju zq zn zu (zo []) zGG
theorem z6b {b:Bare}{g:Int}{c:Bool}{x:Guest}(h:zbY b g=false):chg b g c x=b:=by
 unfold chg;rw[h];rfl
theorem z4w {b:Bare}{g n:Int}(h:zbY b g=true):chg b g (zfI (gAt b g).Pending n) (zl2 (gAt b g) n)=zd3 b g (zl2 (gAt b g) n):=by
 unfold chg;rw[h];cases hp:zfI (gAt b g).Pending n
 .rw [z5j hp,zZ9 (zdo.1 h).2];rfl
 .rfl
@[simp] abbrev zkB (b:Bare)(g n:Int):Bool:=pc (SmB b)
@[simp] abbrev zfi (b:Bare)(g n:Int):Bare:=chg b g (zfI (gAt b g).Pending n) (zl2 (gAt b g) n)
@[simp] abbrev zgu (b:Bare)(g n:Int):Bool:=zbM b g (zfI (gAt b g).Pending n)
def zl9:Run:=rF3 (dT .bare) dI dI fun b c d=>(zkB b c d,[aT .bare (zfi b c d),aB (zgu b c d)])
def zvJ (N:Nat)(a0:Bare)(a1 a2:Int):OA:=
 let y1:=(zb9 a0);let y0:=(ix y1.Guests a1 zx); (oN (zeE a0) (oN (zh7 y1 a1) (cond (nB (zjd y1 a1)) (some [(aT .bare y1),(aB false)]) (oN (inb a1 (ln y1.Guests)) (oN (zi9 y0.Pending a2) (oN (inb a1 (ln y1.Guests)) (share (up y1.Guests a1 ({ y0 with Pending:=(zgh y0.Pending a2) }:Guest)) (fun x4=>(some [(aT .bare ({ y1 with Guests:=x4 }:Bare)),(aB (zlt y0.Pending a2))])))))))))
theorem zGF (a0:Bare)(a1 a2:Int)(hc:zkB a0 a1 a2=true):∃N,zvJ N a0 a1 a2=some [aT .bare (zfi a0 a1 a2),aB (zgu a0 a1 a2)]:=by
 have hs:=zD.1 hc;have hz:zbY a0 a1=true->hasB a1 (ln a0.Guests)=true:=fun h=>(zdo.1 h).2;have hz2:zbY a0 a1=true->gAt a0 a1=ix a0.Guests a1 zx:=fun h=>zsc (zdo.1 h).2;have hj:=@z4w a0 a1 a2;have hj0:=@z6b a0 a1 (zfI (gAt a0 a1).Pending a2) (zl2 (gAt a0 a1) a2)
 refine ⟨0,?_⟩;unfold zvJ oN nB
 conv=>zeta
 refine mu (mu (brN (fun _=>?_) (fun _=>mu (must rfl (mu (shr ?_))))))
 all_goals first|rfl|(simp only [*,zfi,zgu,zbM,zd3,zl2,cT,cF]<;>rfl)|simp_all[Ty.cells,zfi,zgu,zbM,zd3,zl2]
theorem zp0:vF 265 zl9:=kF3 zju zq zn zu (zo []) zGF
@[simp] abbrev zpo (b:Bare)(g:Int)(c:Ctl):Bool:=pc (SmB b)
@[simp] abbrev zhv (b:Bare)(g:Int)(c:Ctl):Bare:=chg b g (zgL c) (zFy (gAt b g) c)
@[simp] abbrev zi7 (b:Bare)(g:Int)(c:Ctl):Bool:=zbM b g (zgL c)
def zqI:Run:=rF3 (dT .bare) dI dC fun b c d=>(zpo b c d,[aT .bare (zhv b c d),aB (zi7 b c d)])
def zDY (N:Nat)(a0:Bare)(a1:Int)(a2:Ctl):OA:=
 let y0:=(zb9 a0); (oN (zeE a0) (oN (zh7 y0 a1) (cond (nB (zjd y0 a1)) (some [(aT .bare y0),(aB false)]) (oN (zqb a2) (cond (nB (zoK a2)) (some [(aT .bare y0),(aB false)]) (oN (inb a1 (ln y0.Guests)) (share (up y0.Guests a1 ({ (ix y0.Guests a1 zx) with Ctl:=a2 }:Guest)) (fun x4=>(some [(aT .bare ({ y0 with Guests:=x4 }:Bare)),(aB true)])))))))))
theorem zPa (a0:Bare)(a1:Int)(a2:Ctl)(hc:zpo a0 a1 a2=true):∃N,zDY N a0 a1 a2=some [aT .bare (zhv a0 a1 a2),aB (zi7 a0 a1 a2)]:=by
 have hs:=zD.1 hc;have hz:zbY a0 a1=true->hasB a1 (ln a0.Guests)=true:=fun h=>(zdo.1 h).2;have hz2:zbY a0 a1=true->gAt a0 a1=ix a0.Guests a1 zx:=fun h=>zsc (zdo.1 h).2
 refine ⟨0,?_⟩;unfold zDY oN nB
 conv=>zeta
 refine mu (mu (brN (fun _=>?_) (fun _=>must rfl (brN (fun _=>?_) (fun _=>mu (shr ?_))))))
 all_goals first|rfl|(simp only [*,zhv,zi7,chg,zbM,zFy,zd3,cT,cF]<;>rfl)|simp_all[Ty.cells,zhv,zi7,chg,zbM,zFy,zd3]
theorem ztN:vF 266 zqI:=kF3 zju zq zn zu (zo []) zPa
def z3Z (p c v:Int):Bool:=bif hasB p 8 then (cond (hasB c 4) (win v 0 99) false) else false
def zwl (b:Bare)(p c v:Int):Bool:=bif zbU b then z3Z p c v else false
def zQa (b:Bare)(p c v:Int):Bare:=bif zwl b p c v then { b with Memory:=zbz b.Memory p c v } else b
def zkW (b:Bare):Bare:=bif zbU b then { b with Pending:=zi0 b.Pending } else b
def zqq (b:Bare):Int:=bif zbU b then zsw b.Pending else -1
def zkd (b:Bare):Bool:=bif zbU b then !ilt (zdB b.Pending) 0 else false
def zmS (b:Bare)(g a n:Int):Bool:=bif zbY b g then (cond (win a 0 15) (zdn (gAt b g).Live (zbb a) n) false) else false
def zCz (b:Bare)(g a n:Int):Int:=zbQ (gAt b g).Live (zbb a) n
def zxn (b:Bare)(g a v:Int):Bool:=bif zmS b g a 2 then win v 0 99 else false
def zWJ (b:Bare)(g a v:Int):Bare:=bif zxn b g a v then { b with Memory:=zbz b.Memory (zCz b g a 2) (zcU a) v } else b
def zQe (b:Bare)(g a:Int):Int:=bif zmS b g a 1 then cellAt b.Memory (zCz b g a 1) (zcU a) else 0
@[simp] abbrev zpn (b:Bare):Bool:=pc (SmB b)
@[simp] abbrev zhu (b:Bare):Bare:=zkW b
@[simp] abbrev zi5 (b:Bare):Int:=zqq b
@[simp] abbrev zi6 (b:Bare):Bool:=zkd b
def zqH:Run:=rF1 (dT .bare) fun b=>(zpn b,[aT .bare (zhu b),aI (zi5 b),aB (zi6 b)])
def zDX (N:Nat)(a0:Bare):OA:=
 let y0:=(zb9 a0); (oN (zeE a0) (oN (znw y0) (cond (nB (zeu y0)) (some [(aT .bare y0),(aI (-1)),(aB false)]) (oN (zpF y0.Pending) (some [(aT .bare ({ y0 with Pending:=(zja y0.Pending) }:Bare)),(aI (zjb y0.Pending)),(aB (zlv y0.Pending))])))))
theorem zO9 (a0:Bare)(hc:zpn a0=true):∃N,zDX N a0=some [aT .bare (zhu a0),aI (zi5 a0),aB (zi6 a0)]:=by
 have hs:=zD.1 hc;refine ⟨0,?_⟩;unfold zDX oN nB
 conv=>zeta
 refine mu (must rfl (brN (fun _=>?_) (fun _=>must rfl ?_)))
 all_goals first|rfl|(simp only [*,zhu,zi5,zi6,zkW,zqq,zkd,zi0,zsw,cT,cF]<;>rfl)|simp_all[Ty.cells,zhu,zi5,zi6,zkW,zqq,zkd,zi0,zsw]
theorem ztM:vF 270 zqH:=kF1 zju zq zn zu (zo []) zO9
def z3J:zO:=z3I
theorem zQQ:zF z3J:=zju
def zdQ (l:List Guest)(n:Int):List Int:=idxs (fun (x:Guest)=>posts x.Ctl n) l 0
theorem zRh {α:Type}(p:α->Bool):∀(l:List α) (i:Nat),∀k∈idxs p l i,(i:Int)<=k/\k<(i:Int)+l.length
 | [],_,k,hk=>by cases hk
 | x :: l,i,k,hk=>by
  have hr:=zRh p l (i+1);simp only[qV];unfold idxs at hk;cases hp:p x
  .rw [hp]at hk;have:=hr k hk;omega
  .rw [hp]at hk;rcases qG.1 hk with rfl|hk
   .omega
   .have:=hr k hk;omega
@[simp] abbrev zs6 (b:Bare)(n:Int):Bool:=pc (SmB b)
@[simp] abbrev zkO (b:Bare)(n:Int):List Int:=zdQ b.Guests n
def zwM:Run:=rF2 (dT .bare) dI fun b c=>(zs6 b c,[aS .int (zkO b c)])
def zAc (N:Nat)(a0:Bare)(a1:Int):OA:=
 (iter (σ:=(Int×(Int×(Int×((List Int)×(lM×(lG×((List Int)×Unit)))))))) N (fun r3 s4=>let y0:=s4.2.2.2.2.2.1;let y1:=(ix y0 s4.2.1 zx).Ctl; (cond (ilt s4.2.1 (ln y0)) (oN (inb s4.2.1 (ln y0)) (oN (zCc y1 s4.1) (cond (zw1 y1 s4.1) (oN (few (ln (ap s4.2.2.2.1 [s4.2.1]))) (r3 (s4.1,((zG .i64 s4.2.1 1),(s4.2.2.1,((ap s4.2.2.2.1 [s4.2.1]),(s4.2.2.2.2.1,(y0,(s4.2.2.2.2.2.2.1,()))))))))) (r3 (s4.1,((zG .i64 s4.2.1 1),(s4.2.2.1,(s4.2.2.2.1,(s4.2.2.2.2.1,(y0,(s4.2.2.2.2.2.2.1,()))))))))))) (some [(aS .int s4.2.2.2.1)]))) (a1,(0,(a0.Pending,([],(a0.Memory,(a0.Guests,(a0.Outs,()))))))))
def zM5:FuncId->Nat->Option Tmpl:=zo [(313,0,{ n:=28,tm:=[(1,ti),(2,.lp 0 0),(5,.sl 0 []),(6,ti)],lo:=[(0,[.sl 1 [],.sl 2 [],.sl 3 [],ti])],ro:=[(0,.int,true),(1,(.sl .int),false),(2,.guest,false),(3,.int,false)] })]
theorem zMj (a0:Bare)(a1:Int)(hc:zs6 a0 a1=true):∃N,zAc N a0 a1=some [aS .int (zkO a0 a1)]:=by
 have hs:=zD.1 hc;have hl:=zcP hs.2.1.1;refine zcd fun N hNN=>?_;unfold zAc oN
 conv=>zeta
 refine (zZ a0.Guests (fun i (t:(List Int))=>(a1,(i:Int),a0.Pending,t,a0.Memory,a0.Guests,a0.Outs,())) _ (fun i (x:Guest) (t:List Int) κ=>bif posts x.Ctl a1 then (cond (few (ln (ap t [(i:Int)]))) (κ (ap t [(i:Int)])) none) else κ t) (fun (t:(List Int))=>(some [(.one (.s .int t))])) (fun i hi t rec=>?_) (fun t rec=>?_) _ ([]) (hNN hl.1)).trans ?_
 .simp only [zbo hi,zS hi,zbc hi,zV hi hl.1,cT]
 .simp only [zbg,cF]
 exact zse (fun (x:Guest)=>posts x.Ctl a1) _ a0.Guests 0 [] (by simpa using hl.2)
theorem zGe:vF 313 zwM:=kF2 zQQ zq zn zu zM5 zMj
def z3K:zO:=[(313,zwM)]++z3J
theorem zQR:zF z3K:=zh zGe zQQ
def zCO (n:Int)(l:List Guest)(k:Int):List Guest:=up l k (zl2 (ix l k zx) n)
def zky (n:Int)(ks:List Int)(l:List Guest):List Guest:=ks.foldl (zCO n) l
theorem zBi (n:Int)(l:List Guest)(k:Int):(zCO n l k).length=l.length:=zf2 _ _ _
theorem zXX {n:Int}{l:List Guest}{k:Int}(hk:hasB k (ln l)=true)(h:zlS l):zlS (zCO n l k):=zCV h (z0g h hk _)
theorem zCi {n:Int}:∀(ks:List Int) {l:List Guest},(∀k∈ks,hasB k (ln l)=true)->zlS l->zlS (zky n ks l)/\(zky n ks l).length=l.length
 | [],_,_,h=>⟨h,rfl⟩
 | k :: ks,l,hk,h=>by
  have h1:=zXX (n:=n) (hk k (by simp)) h
  obtain ⟨g1,g2⟩:=zCi (n:=n) ks (l:=zCO n l k) (fun j hj=>by rw[ln,zBi];exact hk j (by simp[hj])) h1
  exact ⟨g1,g2.trans (zBi _ _ _)⟩
theorem zQ5 {ρ:Type}(n:Int)(K:List Guest->Option ρ):∀(ks:List Int) (i:Nat) (l:List Guest),(∀k∈ks,hasB k (ln l)=true) ->
 goL (fun _ k (t:List Guest) κ=>bif inb k (ln t) then (cond (inb k (ln t)) (κ (up t k (zl2 (ix t k zx) n))) none) else none) K ks i l=K (zky n ks l)
 | [],_,_,_=>rfl
 | k :: ks,i,l,h=>by
  have hk:inb k (ln l)=true:=h k (by simp)
  simp only[goL,hk,cT];exact zQ5 n K ks (i+1) (zCO n l k) (fun j hj=>by rw[ln,zBi];exact h j (by simp[hj]))
def zCP (b:Bare)(n:Int):Bare:=bif ieq (ln (zdQ b.Guests n)) 0 then { b with Pending:=zrm b.Pending n } else { b with Guests:=zky n (zdQ b.Guests n) b.Guests }
def zey (b:Bare)(n:Int):Bool:=bif zbU b then hasB n 8 else false
def zis (b:Bare)(n:Int):Bare:=bif zey b n then zCP b n else b
theorem zJ1 {b:Bare}{n:Int}:∀k∈zdQ b.Guests n,hasB k (ln b.Guests)=true:=fun k hk=>by
 have:=zRh _ _ _ k hk;exact qI (by simp only[ln];omega)
theorem zXD {b:Bare}{n:Int}(h:ieq (ln (zdQ b.Guests n)) 0=true):zky n (zdQ b.Guests n) b.Guests=b.Guests:=by
 have h1:((zdQ b.Guests n).length:Int)=0:=qE h;have:zdQ b.Guests n=[]:=List.length_eq_zero_iff.1 (by omega)
 rw[this];rfl
theorem zXC {b:Bare}{n:Int}:(cond (ieq (ln (zdQ b.Guests n)) 0) (some [AV.agg (Ty.cells .bare ⟨b.Memory,zky n (zdQ b.Guests n) b.Guests,b.Outs,zrm b.Pending n⟩),AV.one (.b true)]) (some [AV.agg (Ty.cells .bare ⟨b.Memory,zky n (zdQ b.Guests n) b.Guests,b.Outs,b.Pending⟩),AV.one (.b true)]))=some [AV.agg (Ty.cells .bare (zCP b n)),AV.one (.b true)]:=by
 unfold zCP;cases h:ieq (ln (zdQ b.Guests n)) 0
 .rfl
 .simp only [cT,zXD h]
@[simp] abbrev znx (b:Bare)(n:Int):Bool:=pc (SmB b)
@[simp] abbrev zhW (b:Bare)(n:Int):Bare:=zis b n
@[simp] abbrev zjS (b:Bare)(n:Int):Bool:=zey b n
def zoD:Run:=rF2 (dT .bare) dI fun b c=>(znx b c,[aT .bare (zhW b c),aB (zjS b c)])
def zz4 (N:Nat)(a0:Bare)(a1:Int):OA:=
 let y2:=(zb9 a0); (oN (zeE a0) (oN (znw y2) (cond (nB (zeu y2)) (some [(aT .bare y2),(aB false)]) (oN (zI a1 0 7) (cond (nB (zL a1 0 7)) (some [(aT .bare y2),(aB false)]) (oN (zs6 y2 a1) (iter (σ:=(Int×(Int×(Int×(Int×((List Int)×(lM×(lG×((List Int)×(lM×(lG×((List Int)×Unit)))))))))))) N (fun r3 s4=>let y5:=s4.2.2.2.2.2.2.2.1;let y3:=s4.2.2.2.2.1;let y1:=s4.2.2.2.2.2.2.1;let y0:=(ix y3 s4.2.1 0);let y4:=(ix y1 y0 zx); (cond (ilt s4.2.1 (ln y3)) (oN (inb s4.2.1 (ln y3)) (oN (inb s4.2.1 (ln y3)) (oN (inb y0 (ln y1)) (oN (zi9 y4.Pending s4.1) (oN (inb y0 (ln y1)) (r3 (s4.1,((zG .i64 s4.2.1 1),(s4.2.2.1,(s4.2.2.2.1,(y3,(s4.2.2.2.2.2.1,((up y1 y0 ({ y4 with Pending:=(zgh y4.Pending s4.1) }:Guest)),(y5,(s4.2.2.2.2.2.2.2.2.1,(s4.2.2.2.2.2.2.2.2.2.1,(s4.2.2.2.2.2.2.2.2.2.2.1,()))))))))))))))))) (cond (ieq (ln y3) 0) (oN (zi9 s4.2.2.1 s4.1) (some [(aT .bare (⟨s4.2.2.2.2.2.1,y1,y5,(zgh s4.2.2.1 s4.1)⟩:Bare)),(aB true)])) (some [(aT .bare (⟨s4.2.2.2.2.2.1,y1,y5,s4.2.2.1⟩:Bare)),(aB true)])))) (a1,(0,(y2.Pending,(0,((zkO y2 a1),(y2.Memory,(y2.Guests,(y2.Outs,([],([],([],()))))))))))))))))))
def zM1:FuncId->Nat->Option Tmpl:=zo [(269,0,{ n:=62,tm:=[(1,ti),(2,.lp 0 0),(4,.lp 1 0),(6,.sl 0 []),(7,ti)],lo:=[(0,[.sl 1 [],.sl 2 [],.sl 3 [],ti]),(1,[.sl 4 [],.sl 5 [],.sl 6 [],ti])],ro:=[(0,.int,true),(1,(.sl .int),true),(2,.guest,true),(3,.int,true),(4,(.sl .int),true),(5,.guest,true),(6,.int,true)] })]
theorem zMa (a0:Bare)(a1:Int)(hc:znx a0 a1=true):∃N,zz4 N a0 a1=some [aT .bare (zhW a0 a1),aB (zjS a0 a1)]:=by
 have hs:=zD.1 hc;have hk:(zdQ a0.Guests a1).length<=big:=jC (zxR _ _ _) (zcP hs.2.1.1).1;refine zcd fun N hNN=>?_;unfold zz4 zhW zjS zis zey oN nB
 conv=>zeta
 refine must (zbi hs) (must rfl (brN (fun h1=>?_) (fun h1=>must rfl (brN (fun h2=>?_) (fun h2=>must (zbi hs) ?_)))))
 .simp only [show zbU a0=false from h1,cF]
 .simp only [show zbU a0=true from h1,show hasB a1 8=false from by first|exact h2|exact (z0z a1).symm.trans h2,cT,cF]
 simp only[show zbU a0=true from h1,show hasB a1 8=true from by first|exact h2|exact (z0z a1).symm.trans h2,cT]
 refine (zZ (zkO (zb9 a0) a1) (fun i (t:lG)=>(a1,(i:Int),(zb9 a0).Pending,0,(zkO (zb9 a0) a1),(zb9 a0).Memory,t,(zb9 a0).Outs,[],[],[],())) _ (fun _ k (t:List Guest) κ=>bif inb k (ln t) then (cond (inb k (ln t)) (κ (up t k (zl2 (ix t k zx) a1))) none) else none) (fun (t:lG)=>(cond (ieq (ln (zkO (zb9 a0) a1)) 0) (cond (zi9 (zb9 a0).Pending a1) (some [(.agg (Ty.cells .bare (⟨(zb9 a0).Memory,t,(zb9 a0).Outs,(zgh (zb9 a0).Pending a1)⟩:Bare))),(.one (.b true))]) none) (some [(.agg (Ty.cells .bare (⟨(zb9 a0).Memory,t,(zb9 a0).Outs,(zb9 a0).Pending⟩:Bare))),(.one (.b true))]))) (fun i hi t rec=>?_) (fun t rec=>?_) _ ((zb9 a0).Guests) (hNN hk)).trans ?_
 .simp only [zbo hi,zS hi,zbc hi,zV hi hk,cT];rfl
 .simp only [zbg,cF];rfl
 exact (zQ5 a1 _ _ 0 _ zJ1).trans zXC
theorem zsh:vF 269 zoD:=kF2 zQR zq zn zu zM1 zMa
def zYk:zO:=[(258,zqJ),(261,znm),(263,zl8),(264,zma),(265,zl9),(266,zqI),(270,zqH),(269,zoD)]++z3K
theorem zAv:zF zYk:=zh ztO (zh zqZ (zh zpZ (zh zp1 (zh zp0 (zh ztN (zh ztM (zh zsh zQR)))))))
theorem z0r {n:Int}(h:(ieq n 4||ieq n 8)=true):n=4\/n=8:=by
 rcases jW _ _ ▸ h with h|h
 .exact .inl (qE h)
 .exact .inr (qE h)
theorem zZx {n:Int}(h:(ieq n 8||ieq n 12)=true):n=8\/n=12:=by
 rcases jW _ _ ▸ h with h|h
 .exact .inl (qE h)
 .exact .inr (qE h)
@[simp] abbrev zhZ (n:Int):Bool:=ieq n 4||ieq n 8
@[simp] abbrev zf9 (n:Int):List Slot:=List.replicate n.toNat ⟨-1,0⟩
def zoG:Run:=rF1 dI fun b=>(zhZ b,[aS .slot (zf9 b)])
def zQr (N:Nat)(a0:Int):OA:=
 (oN (zpq a0 0 24) (iter (σ:=(Int×(lS×Unit))) N (fun r2 s3=>(cond (igt s3.1 0) (oN zck (oN (few (ln (ap s3.2.1 [zbq]))) (r2 ((wsub .i64 s3.1 1),((ap s3.2.1 [zbq]),()))))) (some [(aS .slot s3.2.1)]))) ((zqa a0 0 24),([],()))))
def zM6:FuncId->Nat->Option Tmpl:=zo [(243,0,{ n:=17,tm:=[(3,.sl 0 []),(4,ti)],lo:=[],ro:=[(0,.slot,true)] })]
theorem zMn (a0:Int)(hc:zhZ a0=true):∃N,zQr N a0=some [aS .slot (zf9 a0)]:=by
 refine ⟨30,?_⟩;have h:a0=4\/a0=8:=z0r hc;rcases h with rfl|rfl<;>(change _=_;kernel_rfl)
theorem zsj:vF 243 zoG:=kF1 zAv zq zn zu zM6 zMn
@[simp] abbrev znL (n:Int):Bool:=ieq n 8||ieq n 12
@[simp] abbrev ziu (n:Int):List (List Int):=List.replicate n.toNat [0,0,0,0]
def zsQ:Run:=rF1 dI fun b=>(znL b,[aS (.sl .int) (ziu b)])
def zWe (N:Nat)(a0:Int):OA:=
 (oN (zpq a0 0 24) (iter (σ:=(Int×(lM×Unit))) N (fun r2 s3=>(cond (igt s3.1 0) (oN (cond (few 4) (ieq 4 4) false) (oN (few (ln (ap s3.2.1 [(rp 4 0)]))) (r2 ((wsub .i64 s3.1 1),((ap s3.2.1 [(rp 4 0)]),()))))) (some [(aS (.sl .int) s3.2.1)]))) ((zqa a0 0 24),([],()))))
def zTp:FuncId->Nat->Option Tmpl:=zo [(185,0,{ n:=17,tm:=[(3,.sl 0 []),(4,ti)],lo:=[],ro:=[(0,(.sl .int),true)] })]
theorem zRO (a0:Int)(hc:znL a0=true):∃N,zWe N a0=some [aS (.sl .int) (ziu a0)]:=by
 refine ⟨30,?_⟩;have h:a0=8\/a0=12:=zZx hc;rcases h with rfl|rfl<;>(change _=_;kernel_rfl)
theorem zv5:vF 185 zsQ:=kF1 zAv zq zn zu zTp zRO
def zYl:zO:=[(243,zoG),(185,zsQ)]++zYk
theorem zNI:zF zYl:=zh zsj (zh zv5 zAv)
def zj7:List Slot:=List.replicate 4 ⟨-1,0⟩
def zet (p:List Ins):Guest:=⟨p,0,0,zj7,zj7,⟨0,0,false⟩,0,⟨0,0,false,0⟩,false,[]⟩
@[simp] abbrev znC (p:List Ins):Bool:=pc (p.length<=1048576)
@[simp] abbrev znB (p:List Ins):Guest:=zet p
def zoE:Run:=rF1 (dS .ins) fun b=>(znC b,[aT .guest (znB b)])
def zz7 (N:Nat)(a0:lI):OA:=
 (oN (few (ln (ap [] a0))) (oN (zhZ 4) (oN (zhZ 4) (some [(aT .guest (⟨(ap [] a0),0,0,(zf9 4),(zf9 4),⟨0,0,false⟩,0,⟨0,0,false,0⟩,false,[]⟩:Guest))]))))
theorem zMe (a0:List Ins)(hc:znC a0=true):∃N,zz7 N a0=some [aT .guest (znB a0)]:=by
 have hs:=zD.1 hc;refine ⟨0,?_⟩;unfold zz7 oN;refine mu (must rfl (must rfl ?_))
 first|rfl|(simp only [*,znB,zet,zj7,cT,cF]<;>rfl)|simp_all[Ty.cells,znB,zet,zj7]
theorem zsi:vF 244 zoE:=kF1 zNI zq zn zu (zo []) zMe
def z6n:zO:=[(244,zoE)]++zYl
theorem zAw:zF z6n:=zh zsi zNI
def zMF:List (List Int):=List.replicate 8 [0,0,0,0]
def z5X (ps:List (List Ins)):Prop:=ps.length<=1048576/\∀p∈ps,p.length<=1048576
theorem zN7 {α β ρ:Type}(m:Nat)(f:α->β)(K:List β->Option ρ):∀(l:List α) (i:Nat) (acc:List β),acc.length+l.length<=2147483648 ->
 goL (fun (i:Nat) x acc k=>bif ilt (i:Int) (m:Int) then (cond (few (ln (ap acc [f x]))) (k (ap acc [f x])) none) else K acc) K l i acc=K (acc++(l.take (m-i)).map f)
 | [],i,acc,_=>by simp[goL]
 | x :: l,i,acc,hn=>by
  simp only[qV]at hn;have hf:few (ln (ap acc [f x]))=true:=zgD (by simp[ap];omega)
  by_cases h:i<m
  .have hi:ilt (i:Int) (m:Int)=true:=qI (by omega)
   simp only[goL,hi,hf,cT];rw[zN7 m f K l (i+1) (ap acc [f x]) (by simp[ap];omega)]
   rw[show m-i=m-(i+1)+1 by omega]
   simp[ap]
  .have hi:ilt (i:Int) (m:Int)=false:=qJ (by omega)
   simp only[goL,hi,cF];rw[show m-i=0 by omega]
   simp
@[simp] abbrev zB3 (a:GAct):Bool:=true
@[simp] abbrev zwW (a:GAct):Bool:=win a.Kind 1 17
def zEU:Run:=rF1 (dT .act) fun b=>(zB3 b,[aB (zwW b)])
def zNn (N:Nat)(a0:GAct):OA:=
 (oN (zI a0.Kind 1 17) (some [(aB (zL a0.Kind 1 17))]))
theorem zUb (a0:GAct)(hc:zB3 a0=true):∃N,zNn N a0=some [aB (zwW a0)]:=by
 refine ⟨0,?_⟩;unfold zNn oN;refine must rfl ?_
 first|rfl|(simp only [*,zwW,cT,cF]<;>rfl)|simp_all[Ty.cells,zwW]
theorem zOL:vF 187 zEU:=kF1 zAw zq zn zu (zo []) zUb
@[simp] abbrev zvo (k:Int):Bool:=true
@[simp] abbrev zqc (k:Int):Bool:=win k 13 17
def zza:Run:=rF1 dI fun b=>(zvo b,[aB (zqc b)])
def zD9 (N:Nat)(a0:Int):OA:=
 (oN (zI a0 13 17) (some [(aB (zL a0 13 17))]))
theorem zPl (a0:Int)(hc:zvo a0=true):∃N,zD9 N a0=some [aB (zqc a0)]:=by
 refine ⟨0,?_⟩;unfold zD9 oN;refine must rfl ?_
 first|rfl|(simp only [*,zqc,cT,cF]<;>rfl)|simp_all[Ty.cells,zqc]
theorem zIP:vF 188 zza:=kF1 zAw zq zn zu (zo []) zPl
@[simp] abbrev zB4 (a:GAct):Bool:=true
@[simp] abbrev zoJ (a:GAct):Ctl:=⟨a.X,a.Y,ieq a.Z 1⟩
def zEV:Run:=rF1 (dT .act) fun b=>(zB4 b,[.agg (zAu (zoJ b))])
def zNo (N:Nat)(a0:GAct):OA:=
 (some [(.agg [(.i .i64 a0.X),(.i .i64 a0.Y),(.b (ieq a0.Z 1))])])
theorem zUc (a0:GAct)(hc:zB4 a0=true):∃N,zNo N a0=some [.agg (zAu (zoJ a0))]:=by
 refine ⟨0,?_⟩;unfold zNo
 first|rfl|(simp only [*,zoJ,cT,cF]<;>rfl)|simp_all[Ty.cells,zoJ]
theorem zOM:vF 197 zEV:=kF1 zAw zq zn zu (zo []) zUc
def zQM:zO:=[(258,zqJ),(261,znm),(263,zl8),(264,zma),(265,zl9),(266,zqI),(270,zqH),(269,zoD),(185,zsQ)]++z3G
theorem zAy:zF zQM:=zh ztO (zh zqZ (zh zpZ (zh zp1 (zh zp0 (zh ztN (zh ztM (zh zsh (zh zv5 z1j))))))))
def zcD (x:Mon):Bare:=⟨zMF,x.Guests,x.Outs,x.Pending⟩
def ztz (x:Mon)(b:Bare):Mon:={ x with Guests:=b.Guests,Pending:=b.Pending }
def zcQ (h:Host)(m:Int)(b:Bare):Host:={ h with Mons:=up h.Mons m (ztz (ix h.Mons m mZ) b) }
@[simp] abbrev zen (x:Mon):Bool:=pc (ze8 x)
@[simp] abbrev zbA (x:Mon):Bare:=zcD x
def zzp:Run:=rF1 (dT .mon) fun b=>(zen b,[aT .bare (zbA b)])
def zEo (N:Nat)(a0:Mon):OA:=
 (oN (znL 8) (oN (ze7 a0.Guests) (oN (few (ln (ap [] a0.Outs))) (some [(aT .bare (⟨(ziu 8),(zfv a0.Guests),(ap [] a0.Outs),a0.Pending⟩:Bare))]))))
theorem zPJ (a0:Mon)(hc:zen a0=true):∃N,zEo N a0=some [aT .bare (zbA a0)]:=by
 have hs:=zD.1 hc;refine ⟨0,?_⟩;unfold zEo oN;exact must rfl (must (zbi ((ztE _).2 hs.2.2.2.1)) (must (zmn hs.2.2.2.2.1) rfl))
theorem zJb:vF 259 zzp:=kF1 zAy zq zbR zgx (zo []) zPJ
@[simp] abbrev zem (h:Host)(m:Int)(b:Bare):Bool:=pc (hasB m (ln h.Mons)=true/\zlS b.Guests)
@[simp] abbrev zgk (h:Host)(m:Int)(b:Bare):Host:=zcQ h m b
theorem z6S {l:List Mon}{m:Int}(hm:hasB m (ln l)=true)(b:Bare):inb m (ln (up l m { ix l m mZ with Guests:=b.Guests }))=true /\
 up (up l m { ix l m mZ with Guests:=b.Guests }) m { ix (up l m { ix l m mZ with Guests:=b.Guests }) m mZ with Pending:=b.Pending }=up l m (ztz (ix l m mZ) b):=by
 obtain ⟨k,rfl,hk⟩:=zdu (n:=l.length) hm;refine ⟨zl (by rw[ln,zf2];exact hm),?_⟩
 rw[zuX,zdD hk];rfl
def zqO:List AV->Option (Bool×List AV)
 | [.agg [.s (.sl .int) b,.s .mon c,.s .entry d,.s .entry e],.one (.i .i64 f),.agg [.s (.sl .int) g,.s .guest h,.s .int j,.i .i64 k]]=>some ((zem (⟨b,c,d,e⟩:Host) f (⟨g,h,j,k⟩:Bare)),[aH (zgk (⟨b,c,d,e⟩:Host) f (⟨g,h,j,k⟩:Bare))])
 | _=>none
def zu1 (N:Nat)(a0:Host)(a1:Int)(a2:Bare):OA:=
 (oN (ze7 a2.Guests) (oN (inb a1 (ln a0.Mons)) (share (up a0.Mons a1 ({ (ix a0.Mons a1 zf) with Guests:=(zfv a2.Guests) }:Mon)) (fun x4=>(oN (inb a1 (ln x4)) (share (up x4 a1 ({ (ix x4 a1 zf) with Pending:=a2.Pending }:Mon)) (fun x5=>(some [(aH ({ a0 with Mons:=x5 }:Host))]))))))))
theorem zSr (N:Nat)(a0:Host)(a1:Int)(a2:Bare):zWL (cQ zQM zor zXB z2x) (zo []) N 12 260 [true,true,true,true,false,false,false,false,false] [aH a0,aI a1,aT .bare a2]=zu1 N a0 a1 a2:=by kernel_rfl
theorem zPI (a0:Host)(a1:Int)(a2:Bare)(hb:zbE big [aH a0,aI a1,aT .bare a2])(hc:zem a0 a1 a2=true):∃N,zu1 N a0 a1 a2=some [aH (zgk a0 a1 a2)]:=by
 obtain ⟨hm,hg⟩:=zD.1 hc;obtain ⟨h1,h2⟩:=z6S hm a2;refine ⟨0,?_⟩;unfold zu1 oN;refine must (zbi ((ztE _).2 hg)) (must (zl hm) (shr (must h1 (shr ?_))));have e:zfv a2.Guests=a2.Guests:=rfl;rw[e]
 show some [AV.agg (zbd { a0 with Mons:=_ })]=some [AV.agg (zbd { a0 with Mons:=_ })]
 rw[show zf=mZ from rfl,h2]
theorem zJa:zdN Tryz.prog 260 [true,true,true,true,false,false,false,false,false] none zqO:=by
 refine zK1 (zcW zAy zq zbR zgx) (zd9 (by kernel_rfl)) (by kernel_rfl) ?_
 intro avs rs hl hr h;have hb:=zhG hr;unfold zqO at h;split at h
 .obtain ⟨hc,rfl⟩:=zdS h;obtain ⟨N,hN⟩:=zPI _ _ _ (by exact hb) hc
  exact ⟨_,N,12,(zSr N _ _ _ ).trans hN⟩
 .cases h
def zYr:zO:=[(259,zzp)]++zQM
theorem zh4:zF zYr:=zh zJb zAy
def z7w:zeA:=[(260,([true,true,true,true,false,false,false,false,false],none,zqO))]++z2x
theorem zcV:zdG z7w:=zmk zgx (by
 intro x hx;simp only[qG,qW,or_false]at hx;rcases hx with rfl
 .exact zJa)
def z4g (h:Host)(m:Int)(cB:Bool)(B:Bare)(o0 o1:Host->Ans):OA:=
 bif zbC h then (cond (zeW h m) (cond (cond (zeV h m) false true) (some (o0 h)) (cond (inb m (ln h.Mons)) (cond (zen (ix h.Mons m mZ)) (cond cB (cond (zem h m B) (some (o1 (zcQ h m B))) none) none) none) none)) none) else none
theorem zcj {h:Host}{m:Int}:(zct h m=true)↔zbI h=true/\hasB m (ln h.Mons)=true:=by
 unfold zct;cases zbI h<;>simp
theorem zmm {h:Host}{m:Int}{cB:Bool}{B:Bare}{o0 o1:Host->Ans}(hs:SmH h)(hc:zct h m=true->cB=true)(hB:zct h m=true->SmB B):z4g h m cB B o0 o1=some (cond (zct h m) (o1 (zcQ h m B)) (o0 h)):=by
 unfold z4g;refine must (zbi ((zM h).2 hs)) (must rfl ?_);rw[show zeV h m=zct h m from rfl]
 cases h0:zct h m
 .rfl
 .have h2:=(zcj.1 h0).2;exact zdI rfl (must (zl h2) (must (zbi (hs.2.1.2 _ (zbv h2 _))) (must (hc h0) (must (zbi ⟨h2,(hB h0).2.1⟩) rfl))))
structure SameB (b c:Bare):Prop where
 g:b.Guests=c.Guests
 p:b.Pending=c.Pending
 o:zbU b=zbU c
theorem SameB.at {b c:Bare}(h:SameB b c)(g:Int):gAt b g=gAt c g:=by unfold gAt;rw[h.g]
theorem SameB.has {b c:Bare}(h:SameB b c)(g:Int):zbY b g=zbY c g:=by unfold zbY;rw[h.g,h.o]
theorem back_eq {h:Host}{m:Int}{b c:Bare}(hg:b.Guests=c.Guests)(hp:b.Pending=c.Pending):zcQ h m b=zcQ h m c:=by
 unfold zcQ ztz;rw[hg,hp]
theorem zoa {b c:Bare}(hS:SameB b c)(h:Host)(m g:Int)(k:Bool)(x:Guest):zcQ h m (chg b g k x)=zcQ h m (chg c g k x):=by
 unfold chg;rw[hS.has];cases (cond (zbY c g) k false)
 .exact back_eq hS.g hS.p
 .exact back_eq (by simp only[cT,zd3,hS.g]) hS.p
theorem zkh {b c:Bare}(hS:SameB b c)(g:Int)(k:Bool):zbM b g k=zbM c g k:=by
 unfold zbM;rw[hS.has]
theorem zh9 {h:Host}{m:Int}(h0:zct h m=true)(hv:zbU (zcD (ix h.Mons m mZ))=true):SameB (zcD (ix h.Mons m mZ)) (zB h m):=by
 obtain ⟨h1,h2⟩:=zcj.1 h0;refine ⟨?_,?_,hv.trans (zEq h1 h2).symm⟩<;>unfold zB zcD<;>rw [h2]<;>rfl
theorem z5o:zgM zMF 8=true:=by decide
theorem zmG {h:Host}{m:Int}(h0:zct h m=true):zbU (zcD (ix h.Mons m mZ))=true:=by
 obtain ⟨h1,h2⟩:=zcj.1 h0;have:=zEq h1 h2;unfold zB at this;rw[h2,cT] at this;unfold zbU at this ⊢;simp only[zcD,z5o] at *
 simp_all
theorem zev {x:Mon}(h:ze8 x):SmB (zcD x):=⟨show SmM zMF from ⟨by decide,by decide⟩,h.2.2.2.1,h.2.2.2.2.1⟩
def zeq (h:Host)(m:Int)(b:Bare):Host:=bif zct h m then zcQ h m b else h
def zdM (h:Host)(m:Int)(ok:Bool):Bool:=bif zct h m then ok else false
@[simp] abbrev zi3 (b:Bare)(g p:Int)(s:Slot):Bare:=chg b g (zqU p s) (zyo (gAt b g) p s)
@[simp] abbrev zlk (b:Bare)(g p:Int)(s:Slot):Bool:=zbM b g (zqU p s)
@[simp] abbrev zgq (b:Bare)(g v:Int):Bare:=chg b g (zqr (gAt b g) v) (zu3 (gAt b g) v)
@[simp] abbrev zhQ (b:Bare)(g v:Int):Bool:=zbM b g (zqr (gAt b g) v)
@[simp] abbrev zgs (b:Bare)(g:Int):Bare:=chg b g (zvf (gAt b g)) (zvg (gAt b g))
@[simp] abbrev zhS (b:Bare)(g:Int):Bool:=zbM b g (zvf (gAt b g))
@[simp] abbrev zgr (b:Bare)(g n:Int):Bare:=chg b g (zfI (gAt b g).Pending n) (zl2 (gAt b g) n)
@[simp] abbrev zhR (b:Bare)(g n:Int):Bool:=zbM b g (zfI (gAt b g).Pending n)
@[simp] abbrev zi2 (b:Bare)(g:Int)(c:Ctl):Bare:=chg b g (zgL c) (zFy (gAt b g) c)
@[simp] abbrev zlj (b:Bare)(g:Int)(c:Ctl):Bool:=zbM b g (zgL c)
@[simp] abbrev zli (b:Bare):Bare:=zkW b
@[simp] abbrev zpf (b:Bare):Int:=zqq b
@[simp] abbrev zpg (b:Bare):Bool:=zkd b
@[simp] abbrev zjJ (b:Bare)(n:Int):Bare:=zis b n
@[simp] abbrev znd (b:Bare)(n:Int):Bool:=zey b n
@[simp] abbrev zUx (h:Host)(m:Int)(g p:Int)(s:Slot):Host:=zeq h m (zi3 (zB h m) g p s)
@[simp] abbrev zUy (h:Host)(m:Int)(g p:Int)(s:Slot):Bool:=zdM h m (zlk (zB h m) g p s)
@[simp] abbrev zMy (h:Host)(m:Int)(g v:Int):Host:=zeq h m (zgq (zB h m) g v)
@[simp] abbrev zMz (h:Host)(m:Int)(g v:Int):Bool:=zdM h m (zhQ (zB h m) g v)
@[simp] abbrev zMC (h:Host)(m:Int)(g:Int):Host:=zeq h m (zgs (zB h m) g)
@[simp] abbrev zMD (h:Host)(m:Int)(g:Int):Bool:=zdM h m (zhS (zB h m) g)
@[simp] abbrev zMA (h:Host)(m:Int)(g n:Int):Host:=zeq h m (zgr (zB h m) g n)
@[simp] abbrev zMB (h:Host)(m:Int)(g n:Int):Bool:=zdM h m (zhR (zB h m) g n)
@[simp] abbrev zUv (h:Host)(m:Int)(g:Int)(x:Ctl):Host:=zeq h m (zi2 (zB h m) g x)
@[simp] abbrev zUw (h:Host)(m:Int)(g:Int)(x:Ctl):Bool:=zdM h m (zlj (zB h m) g x)
@[simp] abbrev zSf (h:Host)(m:Int)(n:Int):Host:=zeq h m (zjJ (zB h m) n)
@[simp] abbrev zSg (h:Host)(m:Int)(n:Int):Bool:=zdM h m (znd (zB h m) n)
@[simp] abbrev zUs (h:Host)(m:Int):Host:=zeq h m (zli (zB h m))
@[simp] abbrev zUt (h:Host)(m:Int):Int:=bif zct h m then zpf (zB h m) else -1
@[simp] abbrev zUu (h:Host)(m:Int):Bool:=zdM h m (zpg (zB h m))
@[simp] abbrev zPL (h:Host)(m g p:Int):Bool:=zdM h m (zbM (zB h m) g (hasB p 4))
theorem zZT {b c:Bare}(hS:SameB b c)(n:Int):(zis b n).Guests=(zis c n).Guests/\(zis b n).Pending=(zis c n).Pending/\zey b n=zey c n:=by
 have e:zey b n=zey c n:=by unfold zey;rw[hS.o]
 unfold zis;rw[e];cases zey c n
 .exact ⟨hS.g,hS.p,rfl⟩
 .unfold zCP;rw[hS.g];cases ieq (ln (zdQ c.Guests n)) 0
  .exact ⟨by simp only[cT,cF],by simp only[cT,cF,hS.p],rfl⟩
  .exact ⟨by simp only[cT,hS.g],by simp only[cT,hS.p],rfl⟩
theorem z0D {b c:Bare}(hS:SameB b c):(zkW b).Guests=(zkW c).Guests/\(zkW b).Pending=(zkW c).Pending/\zqq b=zqq c/\zkd b=zkd c:=by
 unfold zkW zqq zkd;rw[hS.o,hS.p];cases zbU c
 .exact ⟨hS.g,hS.p,rfl,rfl⟩
 .exact ⟨hS.g,rfl,rfl,rfl⟩
theorem z0f {b:Bare}{n:Int}(h:SmB b):SmB (zis b n):=by
 unfold zis;cases zey b n
 .exact h
 .unfold zCP;cases ieq (ln (zdQ b.Guests n)) 0
  .exact ⟨h.1,(zCi _ zJ1 h.2.1).1,h.2.2⟩
  .exact h
theorem z2h {b:Bare}(h:SmB b):SmB (zkW b):=by
 unfold zkW;cases zbU b
 .exact h
 .exact h
theorem zrH {H H':Host}{x y:Bool}(h1:H=H')(h2:x=y):some [AV.agg (zbd H),AV.one (.b x)]=some [AV.agg (zbd H'),AV.one (.b y)]:=by rw[h1,h2]
theorem z4z {H H':Host}{n k:Int}{x y:Bool}(h1:H=H')(h2:n=k)(h3:x=y):some [AV.agg (zbd H),AV.one (.i .i64 n),AV.one (.b x)]=some [AV.agg (zbd H'),AV.one (.i .i64 k),AV.one (.b y)]:=by rw[h1,h2,h3]
theorem zVR {b:Bare}(g p:Int)(s:Slot)(hb:SmB b):SmB (zi3 b g p s):=zoW hb (z2k _ _ (ziU _ hb))
theorem z2c {b c:Bare}(hS:SameB b c)(h:Host)(m:Int)(g p:Int)(s:Slot):zcQ h m (zi3 b g p s)=zcQ h m (zi3 c g p s)/\zlk b g p s=zlk c g p s:=by
 have e:=hS.at g;simp only[zi3,zlk,e];exact ⟨zoa hS _ _ _ _ _,zkh hS _ _⟩
@[simp] abbrev zvn (h:Host)(m:Int)(g p:Int)(s:Slot):Bool:=pc (zcb h)
@[simp] abbrev zpA (h:Host)(m:Int)(g p:Int)(s:Slot):Host:=zeq h m (zi3 (zB h m) g p s)
@[simp] abbrev zpB (h:Host)(m:Int)(g p:Int)(s:Slot):Bool:=zdM h m (zlk (zB h m) g p s)
def zy9:Run:=rF5 dH dI dI dI (dT .slot) fun b c d e f=>(zvn b c d e f,[aH (zpA b c d e f),aB (zpB b c d e f)])
def zD8 (N:Nat)(a0:Host)(a1 a2 a3:Int)(a4:Slot):OA:=
 let y1:=(zk a0);let y0:=(ix y1.Mons a1 zf); (oN (zbC a0) (oN (zeW y1 a1) (cond (nB (zeV y1 a1)) (some [(aH y1),(aB false)]) (oN (inb a1 (ln y1.Mons)) (oN (zen y0) (oN (zpp (zbA y0) a2 a3 a4) (oN (zem y1 a1 (zhw (zbA y0) a2 a3 a4)) (some [(aH (zgk y1 a1 (zhw (zbA y0) a2 a3 a4))),(aB (zi8 (zbA y0) a2 a3 a4))]))))))))
theorem zPk (a0:Host)(a1 a2 a3:Int)(a4:Slot)(hc:zvn a0 a1 a2 a3 a4=true):∃N,zD8 N a0 a1 a2 a3 a4=some [aH (zpA a0 a1 a2 a3 a4),aB (zpB a0 a1 a2 a3 a4)]:=by
 have hs:=(zM a0).1 (zD.1 hc);refine ⟨0,?_⟩;have key:=zmm (h:=a0) (m:=a1) (cB:=zpp (zcD (ix a0.Mons a1 mZ)) a2 a3 a4) (B:=zhw (zcD (ix a0.Mons a1 mZ)) a2 a3 a4) (o0:=fun H=>[.agg (zbd H),.one (.b false)]) (o1:=fun H=>[.agg (zbd H),.one (.b (zi8 (zcD (ix a0.Mons a1 mZ)) a2 a3 a4))]) hs
  (fun h0=>zbi (zev (hs.2.1.2 _ (zbv (zcj.1 h0).2 _)))) (fun h0=>zVR _ _ _ (zev (hs.2.1.2 _ (zbv (zcj.1 h0).2 _))))
 refine (show zD8 0 a0 a1 a2 a3 a4=_ from key).trans ?_
 unfold zpA zpB zeq zdM;cases h0:zct a0 a1
 .rfl
 .obtain ⟨e1,e2⟩:=z2c (zh9 h0 (zmG h0)) a0 a1 a2 a3 a4;simp only[cT];exact zrH e1 e2
theorem zIO:vF 191 zy9:=kF5 zh4 zq zbR zcV (zo []) zPk
theorem zKi {b:Bare}(g v:Int)(hb:SmB b):SmB (zgq b g v):=zoW hb (z2i _ (ziU _ hb))
theorem zUS {b c:Bare}(hS:SameB b c)(h:Host)(m:Int)(g v:Int):zcQ h m (zgq b g v)=zcQ h m (zgq c g v)/\zhQ b g v=zhQ c g v:=by
 have e:=hS.at g;simp only[zgq,zhQ,e];exact ⟨zoa hS _ _ _ _ _,zkh hS _ _⟩
@[simp] abbrev zoL (h:Host)(m:Int)(g v:Int):Bool:=pc (zcb h)
@[simp] abbrev zkH (h:Host)(m:Int)(g v:Int):Host:=zeq h m (zgq (zB h m) g v)
@[simp] abbrev zkI (h:Host)(m:Int)(g v:Int):Bool:=zdM h m (zhQ (zB h m) g v)
def zsN:Run:=rF4 dH dI dI dI fun b c d e=>(zoL b c d e,[aH (zkH b c d e),aB (zkI b c d e)])
def zvN (N:Nat)(a0:Host)(a1 a2 a3:Int):OA:=
 let y1:=(zk a0);let y0:=(ix y1.Mons a1 zf); (oN (zbC a0) (oN (zeW y1 a1) (cond (nB (zeV y1 a1)) (some [(aH y1),(aB false)]) (oN (inb a1 (ln y1.Mons)) (oN (zen y0) (oN (zkA (zbA y0) a2 a3) (oN (zem y1 a1 (zfh (zbA y0) a2 a3)) (some [(aH (zgk y1 a1 (zfh (zbA y0) a2 a3))),(aB (zgt (zbA y0) a2 a3))]))))))))
theorem zGK (a0:Host)(a1 a2 a3:Int)(hc:zoL a0 a1 a2 a3=true):∃N,zvN N a0 a1 a2 a3=some [aH (zkH a0 a1 a2 a3),aB (zkI a0 a1 a2 a3)]:=by
 have hs:=(zM a0).1 (zD.1 hc);refine ⟨0,?_⟩;have key:=zmm (h:=a0) (m:=a1) (cB:=zkA (zcD (ix a0.Mons a1 mZ)) a2 a3) (B:=zfh (zcD (ix a0.Mons a1 mZ)) a2 a3) (o0:=fun H=>[.agg (zbd H),.one (.b false)]) (o1:=fun H=>[.agg (zbd H),.one (.b (zgt (zcD (ix a0.Mons a1 mZ)) a2 a3))]) hs
  (fun h0=>zbi (zev (hs.2.1.2 _ (zbv (zcj.1 h0).2 _)))) (fun h0=>zKi _ _ (zev (hs.2.1.2 _ (zbv (zcj.1 h0).2 _))))
 refine (show zvN 0 a0 a1 a2 a3=_ from key).trans ?_
 unfold zkH zkI zeq zdM;cases h0:zct a0 a1
 .rfl
 .obtain ⟨e1,e2⟩:=zUS (zh9 h0 (zmG h0)) a0 a1 a2 a3;simp only[cT];exact zrH e1 e2
theorem zAT:vF 193 zsN:=kF4 zh4 zq zbR zcV (zo []) zGK
theorem zKk {b:Bare}(g:Int)(hb:SmB b):SmB (zgs b g):=zoW hb (z2j (ziU _ hb))
theorem zUU {b c:Bare}(hS:SameB b c)(h:Host)(m:Int)(g:Int):zcQ h m (zgs b g)=zcQ h m (zgs c g)/\zhS b g=zhS c g:=by
 have e:=hS.at g;simp only[zgs,zhS,e];exact ⟨zoa hS _ _ _ _ _,zkh hS _ _⟩
@[simp] abbrev zoN (h:Host)(m:Int)(g:Int):Bool:=pc (zcb h)
@[simp] abbrev zkL (h:Host)(m:Int)(g:Int):Host:=zeq h m (zgs (zB h m) g)
@[simp] abbrev zkM (h:Host)(m:Int)(g:Int):Bool:=zdM h m (zhS (zB h m) g)
def zsP:Run:=rF3 dH dI dI fun b c d=>(zoN b c d,[aH (zkL b c d),aB (zkM b c d)])
def zvP (N:Nat)(a0:Host)(a1 a2:Int):OA:=
 let y1:=(zk a0);let y0:=(ix y1.Mons a1 zf); (oN (zbC a0) (oN (zeW y1 a1) (cond (nB (zeV y1 a1)) (some [(aH y1),(aB false)]) (oN (inb a1 (ln y1.Mons)) (oN (zen y0) (oN (zkC (zbA y0) a2) (oN (zem y1 a1 (zfj (zbA y0) a2)) (some [(aH (zgk y1 a1 (zfj (zbA y0) a2))),(aB (zgv (zbA y0) a2))]))))))))
theorem zGM (a0:Host)(a1 a2:Int)(hc:zoN a0 a1 a2=true):∃N,zvP N a0 a1 a2=some [aH (zkL a0 a1 a2),aB (zkM a0 a1 a2)]:=by
 have hs:=(zM a0).1 (zD.1 hc);refine ⟨0,?_⟩;have key:=zmm (h:=a0) (m:=a1) (cB:=zkC (zcD (ix a0.Mons a1 mZ)) a2) (B:=zfj (zcD (ix a0.Mons a1 mZ)) a2) (o0:=fun H=>[.agg (zbd H),.one (.b false)]) (o1:=fun H=>[.agg (zbd H),.one (.b (zgv (zcD (ix a0.Mons a1 mZ)) a2))]) hs
  (fun h0=>zbi (zev (hs.2.1.2 _ (zbv (zcj.1 h0).2 _)))) (fun h0=>zKk _ (zev (hs.2.1.2 _ (zbv (zcj.1 h0).2 _))))
 refine (show zvP 0 a0 a1 a2=_ from key).trans ?_
 unfold zkL zkM zeq zdM;cases h0:zct a0 a1
 .rfl
 .obtain ⟨e1,e2⟩:=zUU (zh9 h0 (zmG h0)) a0 a1 a2;simp only[cT];exact zrH e1 e2
theorem zAV:vF 194 zsP:=kF3 zh4 zq zbR zcV (zo []) zGM
theorem zKj {b:Bare}(g n:Int)(hb:SmB b):SmB (zgr b g n):=zoW hb (ziU (b:=b) _ hb)
theorem zUT {b c:Bare}(hS:SameB b c)(h:Host)(m:Int)(g n:Int):zcQ h m (zgr b g n)=zcQ h m (zgr c g n)/\zhR b g n=zhR c g n:=by
 have e:=hS.at g;simp only[zgr,zhR,e];exact ⟨zoa hS _ _ _ _ _,zkh hS _ _⟩
@[simp] abbrev zoM (h:Host)(m:Int)(g n:Int):Bool:=pc (zcb h)
@[simp] abbrev zkJ (h:Host)(m:Int)(g n:Int):Host:=zeq h m (zgr (zB h m) g n)
@[simp] abbrev zkK (h:Host)(m:Int)(g n:Int):Bool:=zdM h m (zhR (zB h m) g n)
def zsO:Run:=rF4 dH dI dI dI fun b c d e=>(zoM b c d e,[aH (zkJ b c d e),aB (zkK b c d e)])
def zvO (N:Nat)(a0:Host)(a1 a2 a3:Int):OA:=
 let y1:=(zk a0);let y0:=(ix y1.Mons a1 zf); (oN (zbC a0) (oN (zeW y1 a1) (cond (nB (zeV y1 a1)) (some [(aH y1),(aB false)]) (oN (inb a1 (ln y1.Mons)) (oN (zen y0) (oN (zkB (zbA y0) a2 a3) (oN (zem y1 a1 (zfi (zbA y0) a2 a3)) (some [(aH (zgk y1 a1 (zfi (zbA y0) a2 a3))),(aB (zgu (zbA y0) a2 a3))]))))))))
theorem zGL (a0:Host)(a1 a2 a3:Int)(hc:zoM a0 a1 a2 a3=true):∃N,zvO N a0 a1 a2 a3=some [aH (zkJ a0 a1 a2 a3),aB (zkK a0 a1 a2 a3)]:=by
 have hs:=(zM a0).1 (zD.1 hc);refine ⟨0,?_⟩;have key:=zmm (h:=a0) (m:=a1) (cB:=zkB (zcD (ix a0.Mons a1 mZ)) a2 a3) (B:=zfi (zcD (ix a0.Mons a1 mZ)) a2 a3) (o0:=fun H=>[.agg (zbd H),.one (.b false)]) (o1:=fun H=>[.agg (zbd H),.one (.b (zgu (zcD (ix a0.Mons a1 mZ)) a2 a3))]) hs
  (fun h0=>zbi (zev (hs.2.1.2 _ (zbv (zcj.1 h0).2 _)))) (fun h0=>zKj _ _ (zev (hs.2.1.2 _ (zbv (zcj.1 h0).2 _))))
 refine (show zvO 0 a0 a1 a2 a3=_ from key).trans ?_
 unfold zkJ zkK zeq zdM;cases h0:zct a0 a1
 .rfl
 .obtain ⟨e1,e2⟩:=zUT (zh9 h0 (zmG h0)) a0 a1 a2 a3;simp only[cT];exact zrH e1 e2
theorem zAU:vF 195 zsO:=kF4 zh4 zq zbR zcV (zo []) zGL
theorem zVQ {b:Bare}(g:Int)(x:Ctl)(hb:SmB b):SmB (zi2 b g x):=zoW hb (ziU (b:=b) _ hb)
theorem z2a {b c:Bare}(hS:SameB b c)(h:Host)(m:Int)(g:Int)(x:Ctl):zcQ h m (zi2 b g x)=zcQ h m (zi2 c g x)/\zlj b g x=zlj c g x:=by
 have e:=hS.at g;simp only[zi2,zlj,e];exact ⟨zoa hS _ _ _ _ _,zkh hS _ _⟩
@[simp] abbrev zvk (h:Host)(m:Int)(g:Int)(x:Ctl):Bool:=pc (zcb h)
@[simp] abbrev zpw (h:Host)(m:Int)(g:Int)(x:Ctl):Host:=zeq h m (zi2 (zB h m) g x)
@[simp] abbrev zpx (h:Host)(m:Int)(g:Int)(x:Ctl):Bool:=zdM h m (zlj (zB h m) g x)
def zy6:Run:=rF4 dH dI dI dC fun b c d e=>(zvk b c d e,[aH (zpw b c d e),aB (zpx b c d e)])
def zD5 (N:Nat)(a0:Host)(a1 a2:Int)(a3:Ctl):OA:=
 let y1:=(zk a0);let y0:=(ix y1.Mons a1 zf); (oN (zbC a0) (oN (zeW y1 a1) (cond (nB (zeV y1 a1)) (some [(aH y1),(aB false)]) (oN (inb a1 (ln y1.Mons)) (oN (zen y0) (oN (zpo (zbA y0) a2 a3) (oN (zem y1 a1 (zhv (zbA y0) a2 a3)) (some [(aH (zgk y1 a1 (zhv (zbA y0) a2 a3))),(aB (zi7 (zbA y0) a2 a3))]))))))))
theorem zPh (a0:Host)(a1 a2:Int)(a3:Ctl)(hc:zvk a0 a1 a2 a3=true):∃N,zD5 N a0 a1 a2 a3=some [aH (zpw a0 a1 a2 a3),aB (zpx a0 a1 a2 a3)]:=by
 have hs:=(zM a0).1 (zD.1 hc);refine ⟨0,?_⟩;have key:=zmm (h:=a0) (m:=a1) (cB:=zpo (zcD (ix a0.Mons a1 mZ)) a2 a3) (B:=zhv (zcD (ix a0.Mons a1 mZ)) a2 a3) (o0:=fun H=>[.agg (zbd H),.one (.b false)]) (o1:=fun H=>[.agg (zbd H),.one (.b (zi7 (zcD (ix a0.Mons a1 mZ)) a2 a3))]) hs
  (fun h0=>zbi (zev (hs.2.1.2 _ (zbv (zcj.1 h0).2 _)))) (fun h0=>zVQ _ _ (zev (hs.2.1.2 _ (zbv (zcj.1 h0).2 _))))
 refine (show zD5 0 a0 a1 a2 a3=_ from key).trans ?_
 unfold zpw zpx zeq zdM;cases h0:zct a0 a1
 .rfl
 .obtain ⟨e1,e2⟩:=z2a (zh9 h0 (zmG h0)) a0 a1 a2 a3;simp only[cT];exact zrH e1 e2
theorem zIL:vF 196 zy6:=kF4 zh4 zq zbR zcV (zo []) zPh
theorem zSV {b:Bare}(n:Int)(hb:SmB b):SmB (zjJ b n):=z0f hb
theorem zZ6 {b c:Bare}(hS:SameB b c)(h:Host)(m n:Int):zcQ h m (zjJ b n)=zcQ h m (zjJ c n)/\znd b n=znd c n:=by
 obtain ⟨e1,e2,e3⟩:=zZT hS n;exact ⟨back_eq e1 e2,e3⟩
@[simp] abbrev zs3 (h:Host)(m:Int)(n:Int):Bool:=pc (zcb h)
@[simp] abbrev znF (h:Host)(m:Int)(n:Int):Host:=zeq h m (zjJ (zB h m) n)
@[simp] abbrev znG (h:Host)(m:Int)(n:Int):Bool:=zdM h m (znd (zB h m) n)
def zwK:Run:=rF3 dH dI dI fun b c d=>(zs3 b c d,[aH (znF b c d),aB (znG b c d)])
def zAa (N:Nat)(a0:Host)(a1 a2:Int):OA:=
 let y1:=(zk a0);let y0:=(ix y1.Mons a1 zf); (oN (zbC a0) (oN (zeW y1 a1) (cond (nB (zeV y1 a1)) (some [(aH y1),(aB false)]) (oN (inb a1 (ln y1.Mons)) (oN (zen y0) (oN (znx (zbA y0) a2) (oN (zem y1 a1 (zhW (zbA y0) a2)) (some [(aH (zgk y1 a1 (zhW (zbA y0) a2))),(aB (zjS (zbA y0) a2))]))))))))
theorem zMh (a0:Host)(a1 a2:Int)(hc:zs3 a0 a1 a2=true):∃N,zAa N a0 a1 a2=some [aH (znF a0 a1 a2),aB (znG a0 a1 a2)]:=by
 have hs:=(zM a0).1 (zD.1 hc);refine ⟨0,?_⟩;have key:=zmm (h:=a0) (m:=a1) (cB:=znx (zcD (ix a0.Mons a1 mZ)) a2) (B:=zhW (zcD (ix a0.Mons a1 mZ)) a2) (o0:=fun H=>[.agg (zbd H),.one (.b false)]) (o1:=fun H=>[.agg (zbd H),.one (.b (zjS (zcD (ix a0.Mons a1 mZ)) a2))]) hs
  (fun h0=>zbi (zev (hs.2.1.2 _ (zbv (zcj.1 h0).2 _)))) (fun h0=>zSV _ (zev (hs.2.1.2 _ (zbv (zcj.1 h0).2 _))))
 refine (show zAa 0 a0 a1 a2=_ from key).trans ?_
 unfold znF znG zeq zdM;cases h0:zct a0 a1
 .rfl
 .obtain ⟨e1,e2⟩:=zZ6 (zh9 h0 (zmG h0)) a0 a1 a2;simp only[cT];exact zrH e1 e2
theorem zGb:vF 199 zwK:=kF3 zh4 zq zbR zcV (zo []) zMh
theorem zVP {b:Bare}(hb:SmB b):SmB (zli b):=z2h hb
theorem z19 {b c:Bare}(hS:SameB b c)(h:Host)(m:Int):zcQ h m (zli b)=zcQ h m (zli c)/\zpf b=zpf c/\zpg b=zpg c:=by
 obtain ⟨e1,e2,e3,e4⟩:=z0D hS;exact ⟨back_eq e1 e2,e3,e4⟩
@[simp] abbrev zvj (h:Host)(m:Int):Bool:=pc (zcb h)
@[simp] abbrev zps (h:Host)(m:Int):Host:=zeq h m (zli (zB h m))
@[simp] abbrev zpt (h:Host)(m:Int):Int:=bif zct h m then zpf (zB h m) else -1
@[simp] abbrev zpu (h:Host)(m:Int):Bool:=zdM h m (zpg (zB h m))
def zy4:Run:=rF2 dH dI fun b c=>(zvj b c,[aH (zps b c),aI (zpt b c),aB (zpu b c)])
def zD3 (N:Nat)(a0:Host)(a1:Int):OA:=
 let y1:=(zk a0);let y0:=(ix y1.Mons a1 zf); (oN (zbC a0) (oN (zeW y1 a1) (cond (nB (zeV y1 a1)) (some [(aH y1),(aI (-1)),(aB false)]) (oN (inb a1 (ln y1.Mons)) (oN (zen y0) (oN (zpn (zbA y0)) (oN (zem y1 a1 (zhu (zbA y0))) (some [(aH (zgk y1 a1 (zhu (zbA y0)))),(aI (zi5 (zbA y0))),(aB (zi6 (zbA y0)))]))))))))
theorem zPf (a0:Host)(a1:Int)(hc:zvj a0 a1=true):∃N,zD3 N a0 a1=some [aH (zps a0 a1),aI (zpt a0 a1),aB (zpu a0 a1)]:=by
 have hs:=(zM a0).1 (zD.1 hc);refine ⟨0,?_⟩;have key:=zmm (h:=a0) (m:=a1) (cB:=zpn (zcD (ix a0.Mons a1 mZ))) (B:=zhu (zcD (ix a0.Mons a1 mZ))) (o0:=fun H=>[.agg (zbd H),.one (.i .i64 (-1)),.one (.b false)]) (o1:=fun H=>[.agg (zbd H),.one (.i .i64 (zi5 (zcD (ix a0.Mons a1 mZ)))),.one (.b (zi6 (zcD (ix a0.Mons a1 mZ))))]) hs
  (fun h0=>zbi (zev (hs.2.1.2 _ (zbv (zcj.1 h0).2 _)))) (fun h0=>zVP (zev (hs.2.1.2 _ (zbv (zcj.1 h0).2 _))))
 refine (show zD3 0 a0 a1=_ from key).trans ?_
 unfold zps zpt zpu zeq zdM;cases h0:zct a0 a1
 .rfl
 .obtain ⟨e1,e2,e3⟩:=z19 (zh9 h0 (zmG h0)) a0 a1;simp only[cT];exact z4z e1 e2 e3
theorem zIJ:vF 200 zy4:=kF2 zh4 zq zbR zcV (zo []) zPf
def zYs:zO:=[(191,zy9),(193,zsN),(194,zsP),(195,zsO),(196,zy6),(199,zwK),(200,zy4)]++zYr
theorem ztC:zF zYs:=zh zIO (zh zAT (zh zAV (zh zAU (zh zIL (zh zGb (zh zIJ zh4))))))
def ziy (h:Host)(m t:Int):Host:=bif zbI h then (cond (hasB m (ln h.Mons)) (cond (win t 0 3) { h with Mons:=up h.Mons m { ix h.Mons m mZ with Traps:=t } } h) h) else h
def zyn (h:Host)(m t:Int):Bool:=bif zbI h then (cond (hasB m (ln h.Mons)) (win t 0 3) false) else false
@[simp] abbrev zs7 (h:Host)(m t:Int):Bool:=pc (zcb h)
@[simp] abbrev znO (h:Host)(m t:Int):Host:=ziy h m t
@[simp] abbrev znP (h:Host)(m t:Int):Bool:=zyn h m t
def zwP:Run:=rF3 dH dI dI fun b c d=>(zs7 b c d,[aH (znO b c d),aB (znP b c d)])
def zAe (N:Nat)(a0:Host)(a1 a2:Int):OA:=
 let y0:=(zk a0); (oN (zbC a0) (oN (zeN y0) (cond (nB (zeM y0)) (some [(aH y0),(aB false)]) (oN (zI a1 0 (wsub .i64 (ln y0.Mons) 1)) (cond (nB (zL a1 0 (wsub .i64 (ln y0.Mons) 1))) (some [(aH y0),(aB false)]) (oN (zI a2 0 3) (cond (nB (zL a2 0 3)) (some [(aH y0),(aB false)]) (oN (inb a1 (ln y0.Mons)) (share (up y0.Mons a1 ({ (ix y0.Mons a1 zf) with Traps:=a2 }:Mon)) (fun x4=>(some [(aH ({ y0 with Mons:=x4 }:Host)),(aB true)])))))))))))
theorem zMm (a0:Host)(a1 a2:Int)(hc:zs7 a0 a1 a2=true):∃N,zAe N a0 a1 a2=some [aH (znO a0 a1 a2),aB (znP a0 a1 a2)]:=by
 have hs:=(zM a0).1 (zD.1 hc);refine ⟨0,?_⟩;unfold zAe znO znP ziy zyn oN nB
 conv=>zeta
 refine must hc (must rfl ?_);rw[show zeM (zk a0)=zbI a0 from rfl]
 cases hh:zbI a0
 .rfl
 .refine zdI rfl (must rfl ?_);rw[show zL a1 0 (wsub .i64 (ln (zk a0).Mons) 1)=hasB a1 (ln a0.Mons) from zNe hh a1]
  cases hm:hasB a1 (ln a0.Mons)
  .rfl
  .refine zdI rfl (must rfl ?_);rw[show zL a2 0 3=win a2 0 3 from rfl]
   cases ht:win a2 0 3
   .rfl
   .exact zdI rfl (must (zl hm) rfl)
theorem zGh:vF 249 zwP:=kF3 ztC zq zbR zcV (zo []) zMm
theorem zi4 {h:Host}{m p:Int}:(zcf h m p=true)↔zbI h=true/\hasB m (ln h.Mons)=true/\hasB p 8=true:=by
 unfold zcf;cases zbI h<;>cases hasB m (ln h.Mons)<;>simp
def zjj (h:Host)(m p:Int):Bool:=ieq (ix (ix h.Mons m mZ).Outer p sZ).Page (-1)
def zos (h:Host)(m p:Int):Host:=bif zcf h m p then (cond (zjj h m p) h (zda h m p)) else h
def zBg (h:Host)(m p:Int):Bool:=bif zcf h m p then !zjj h m p else false
def zsA (h:Host)(m p:Int):Host:=bif zcf h m p then (cond (zjj h m p) (fetched h m p) h) else h
def zGU (h:Host)(m p:Int):Bool:=bif zcf h m p then zjj h m p else false
@[simp] abbrev zvr (h:Host)(m p:Int):Bool:=pc (zcb h)
@[simp] abbrev zpD (h:Host)(m p:Int):Host:=zos h m p
@[simp] abbrev zpE (h:Host)(m p:Int):Bool:=zBg h m p
@[simp] abbrev zyf (h:Host)(m p:Int):Bool:=pc (zcb h)
@[simp] abbrev zru (h:Host)(m p:Int):Host:=zsA h m p
@[simp] abbrev zrv (h:Host)(m p:Int):Bool:=zGU h m p
theorem zJQ {h:Host}(hs:SmH h)(hh:zbI h=true){m p:Int}(hm:hasB m (ln h.Mons)=true)(hp:hasB p 8=true) :
 (cond (ieq (ix (ix h.Mons m mZ).Outer p sZ).Page (-1)) (ieq (ix (ix h.Mons m mZ).Outer p sZ).Rights 0) false)=zjj h m p:=by
 have hf:=(zrj (zgc hh _ (zbv hm mZ)) hp).no;unfold zcg at hf;unfold zjj;rw[<- hf];cases h1:ieq (ix (ix h.Mons m mZ).Outer p sZ).Page (-1)<;>simp [noSlot,h1]
theorem zOd {h:Host}(hs:SmH h)(hh:zbI h=true){m p:Int}(hm:hasB m (ln h.Mons)=true)(hp:hasB p 8=true):inb p (ln (ix h.Mons m mZ).Outer)=true :=
 zl (by rw[ln,((zeI hs hh).1.2 _ (zbv hm mZ)).1];exact hp)
def zze:Run:=rF3 dH dI dI fun b c d=>(zvr b c d,[aH (zpD b c d),aB (zpE b c d)])
def zEc (N:Nat)(a0:Host)(a1 a2:Int):OA:=
 let y1:=(zk a0);let y0:=(ix y1.Mons a1 zf).Outer; (oN (zbC a0) (oN (zmz y1 a1 a2) (cond (nB (zgY y1 a1 a2)) (some [(aH y1),(aB false)]) (oN (inb a1 (ln y1.Mons)) (oN (inb a2 (ln y0)) (oN zck (cond (cond (ieq (ix y0 a2 zK).Page zbq.Page) (ieq (ix y0 a2 zK).Rights zbq.Rights) false) (some [(aH y1),(aB false)]) (oN (zrD y1 a1 a2) (some [(aH (zym y1 a1 a2)),(aB true)])))))))))
theorem zPp (a0:Host)(a1 a2:Int)(hc:zvr a0 a1 a2=true):∃N,zEc N a0 a1 a2=some [aH (zpD a0 a1 a2),aB (zpE a0 a1 a2)]:=by
 have hs:=(zM a0).1 (zD.1 hc);refine ⟨0,?_⟩;unfold zEc zpD zpE zos zBg oN nB
 conv=>zeta
 refine must hc (must rfl ?_);rw[show zgY (zk a0) a1 a2=zcf a0 a1 a2 from rfl]
 cases h0:zcf a0 a1 a2
 .rfl
 .obtain ⟨hh,hm,hp⟩:=zi4.1 h0;refine zdI rfl (must (zl hm) (must (zOd hs hh hm hp) (must rfl ?_)));rw[show (cond (ieq (ix (ix (zk a0).Mons a1 zf).Outer a2 zK).Page zbq.Page) (ieq (ix (ix (zk a0).Mons a1 zf).Outer a2 zK).Rights zbq.Rights) false)=zjj a0 a1 a2 from zJQ hs hh hm hp]
  cases h1:zjj a0 a1 a2
  .exact zdI rfl (must (zbi ⟨(zeI hs hh).1,hm,hp⟩) rfl)
  .rfl
theorem zIT:vF 246 zze:=kF3 ztC zq zbR zcV (zo []) zPp
def zBP:Run:=rF3 dH dI dI fun b c d=>(zyf b c d,[aH (zru b c d),aB (zrv b c d)])
def zHK (N:Nat)(a0:Host)(a1 a2:Int):OA:=
 let y1:=(zk a0);let y0:=(ix y1.Mons a1 zf).Outer; (oN (zbC a0) (oN (zmz y1 a1 a2) (cond (nB (zgY y1 a1 a2)) (some [(aH y1),(aB false)]) (oN (inb a1 (ln y1.Mons)) (oN (inb a2 (ln y0)) (oN zck (cond (nB (cond (ieq (ix y0 a2 zK).Page zbq.Page) (ieq (ix y0 a2 zK).Rights zbq.Rights) false)) (some [(aH y1),(aB false)]) (oN (zuQ y1 a1 a2) (some [(aH (zw2 y1 a1 a2)),(aB true)])))))))))
theorem zRT (a0:Host)(a1 a2:Int)(hc:zyf a0 a1 a2=true):∃N,zHK N a0 a1 a2=some [aH (zru a0 a1 a2),aB (zrv a0 a1 a2)]:=by
 have hs:=(zM a0).1 (zD.1 hc);refine ⟨0,?_⟩;unfold zHK zru zrv zsA zGU oN nB
 conv=>zeta
 refine must hc (must rfl ?_);rw[show zgY (zk a0) a1 a2=zcf a0 a1 a2 from rfl]
 cases h0:zcf a0 a1 a2
 .rfl
 .obtain ⟨hh,hm,hp⟩:=zi4.1 h0;refine zdI rfl (must (zl hm) (must (zOd hs hh hm hp) (must rfl ?_)));rw[show (cond (ieq (ix (ix (zk a0).Mons a1 zf).Outer a2 zK).Page zbq.Page) (ieq (ix (ix (zk a0).Mons a1 zf).Outer a2 zK).Rights zbq.Rights) false)=zjj a0 a1 a2 from zJQ hs hh hm hp]
  cases h1:zjj a0 a1 a2
  .rfl
  .exact zdI rfl (must (zbi ⟨zeI hs hh,hm,hp⟩) rfl)
theorem zLw:vF 247 zBP:=kF3 ztC zq zbR zcV (zo []) zRT
def zYt:zO:=[(249,zwP),(246,zze),(247,zBP)]++zYs
theorem zNJ:zF zYt:=zh zGh (zh zIT (zh zLw ztC))
theorem zXZ {x:Mon}{b:Bare}(h:ze8 x)(hb:zlS b.Guests):ze8 (ztz x b):=⟨h.1,h.2.1,h.2.2.1,hb,h.2.2.2.2⟩
theorem zG4 {h:Host}{m:Int}{b:Bare}(hs:SmH h)(hm:hasB m (ln h.Mons)=true)(hb:zlS b.Guests):SmH (zcQ h m b) :=
 ⟨hs.1,zia hs.2.1 (zXZ (hs.2.1.2 _ (zbv hm _)) hb),hs.2.2⟩
theorem zQy {h:Host}{m:Int}(b:Bare)(hm:hasB m (ln h.Mons)=true):hasB m (ln (zcQ h m b).Mons)=true:=by
 show hasB m (ln (up h.Mons m _))=true
 rw[ln,zf2];exact hm
theorem z4q {h:Host}{m:Int}(b:Bare)(hm:hasB m (ln h.Mons)=true):ix (zcQ h m b).Mons m mZ=ztz (ix h.Mons m mZ) b:=by
 obtain ⟨k,rfl,hk⟩:=zdu (n:=h.Mons.length) hm;exact zdD hk _ _
def zAE (h:Host)(m g p:Int):Host:=⟨h.Memory,up h.Mons m { ix h.Mons m mZ with Tables:=up (ix h.Mons m mZ).Tables g (zbG (ix (ix h.Mons m mZ).Tables g kZ) p) },zcl h.Buffer (zdq m g) p,zcl h.IoBuffer (zdq m g) p⟩
def zY2 (H:Host)(m g p:Int)(o:Host->Ans):OA:=
 bif inb m (ln H.Mons) then (bif inb m (ln H.Mons) then (bif inb g (ln (ix H.Mons m mZ).Tables) then (bif zkF (ix (ix H.Mons m mZ).Tables g kZ) p then (bif inb g (ln (ix H.Mons m mZ).Tables) then (share (up H.Mons m { ix H.Mons m mZ with Tables:=up (ix H.Mons m mZ).Tables g (zbG (ix (ix H.Mons m mZ).Tables g kZ) p) }) fun x =>
  (cond (zjW m g) (cond (zfZ H.Buffer (zdq m g) p) (cond (zjW m g) (cond (zfZ H.IoBuffer (zdq m g) p) (some (o ⟨H.Memory,x,zcl H.Buffer (zdq m g) p,zcl H.IoBuffer (zdq m g) p⟩)) none) none) none) none)) else none) else none) else none) else none) else none
theorem zY3 {H:Host}{m g p:Int}{o:Host->Ans}(hs:SmH H)(hm:hasB m (ln H.Mons)=true)(hg:hasB g (ln (ix H.Mons m mZ).Tables)=true):zY2 H m g p o=some (o (zAE H m g p)):=by
 have hx:=hs.2.1.2 _ (zbv hm mZ);unfold zY2;exact must (zl hm) (must (zl hm) (must (zl hg) (must (zbi (hx.2.2.2.2.2.2 _ (zbv hg _))) (must (zl hg) (shr (must rfl (must (zbi hs.2.2.1) (must rfl (must (zbi hs.2.2.2) rfl)))))))))
def zjA (h:Host)(m g p:Int):Host:=bif zct h m then (cond (zbM (zB h m) g (hasB p 4)) (zAE (zcQ h m (chg (zB h m) g (hasB p 4) (zdz (gAt (zB h m) g) p))) m g p) h) else h
@[simp] abbrev zqS (h:Host)(m g p:Int):Bool:=pc (zcb h)
@[simp] abbrev zlO (h:Host)(m g p:Int):Host:=zjA h m g p
@[simp] abbrev zlP (h:Host)(m g p:Int):Bool:=zdM h m (zbM (zB h m) g (hasB p 4))
theorem zUV {h:Host}{m:Int}(hm:hasB m (ln h.Mons)=true):(zB h m).Guests=(ix h.Mons m mZ).Guests:=by unfold zB;rw[hm];rfl
theorem zNX {h:Host}{m g:Int}{k:Bool}(hs:SmH h)(h0:zct h m=true)(b:Bare)(hk:zbM (zB h m) g k=true):hasB g (ln (ix (zcQ h m b).Mons m mZ).Tables)=true:=by
 obtain ⟨hh,hm⟩:=zcj.1 h0;rw[z4q b hm]
 show hasB g (ln (ix h.Mons m mZ).Tables)=true
 rw[ln,((zeI hs hh).1.2 _ (zbv hm mZ)).2.2.2,<- zUV hm];unfold zbM at hk;cases hb:zbY (zB h m) g
 .rw [hb]at hk;cases hk
 .exact (zdo.1 hb).2
def zun:Run:=rF4 dH dI dI dI fun b c d e=>(zqS b c d e,[aH (zlO b c d e),aB (zlP b c d e)])
def zyQ (N:Nat)(a0:Host)(a1 a2 a3:Int):OA:=
 let y5:=(zrW a1 a2);let y3:=(zk a0);let y2:=(ix y3.Mons a1 zf);let y0:=(zgk y3 a1 (zer (zbA y2) a2 a3));let y1:=(ix y0.Mons a1 zf);let y4:=(ix y1.Tables a2 zcK); (oN (zbC a0) (oN (zeW y3 a1) (cond (nB (zeV y3 a1)) (some [(aH y3),(aB false)]) (oN (inb a1 (ln y3.Mons)) (oN (zen y2) (oN (zqP (zbA y2) a2 a3) (cond (nB (zgW (zbA y2) a2 a3)) (some [(aH y3),(aB false)]) (oN (zem y3 a1 (zer (zbA y2) a2 a3)) (oN (inb a1 (ln y0.Mons)) (oN (inb a1 (ln y0.Mons)) (oN (inb a2 (ln y1.Tables)) (oN (zkF y4 a3) (oN (inb a2 (ln y1.Tables)) (share (up y0.Mons a1 ({ y1 with Tables:=(up y1.Tables a2 (zjU y4 a3)) }:Mon)) (fun x5=>(oN (zjW a1 a2) (oN (zfZ y0.Buffer y5 a3) (oN (zjW a1 a2) (oN (zfZ y0.IoBuffer y5 a3) (some [(aH (⟨y0.Memory,x5,(zlp y0.Buffer y5 a3),(zlp y0.IoBuffer y5 a3)⟩:Host)),(aB true)]))))))))))))))))))))
theorem zJF (a0:Host)(a1 a2 a3:Int)(hb:zbE big [aH a0,aI a1,aI a2,aI a3])(hc:zqS a0 a1 a2 a3=true):∃N,zyQ N a0 a1 a2 a3=some [aH (zlO a0 a1 a2 a3),aB (zlP a0 a1 a2 a3)]:=by
 have hs:=(zM a0).1 (zD.1 hc);refine ⟨0,?_⟩;unfold zyQ zlO zlP zjA zdM oN nB
 conv=>zeta
 refine must hc (must rfl ?_);rw[show zeV (zk a0) a1=zct a0 a1 from rfl]
 cases h0:zct a0 a1
 .rfl
 .obtain ⟨hh,hm⟩:=zcj.1 h0;have hx:=hs.2.1.2 _ (zbv hm mZ);have hv:=zev hx;have hS:=zh9 h0 (zmG h0);have hk:zbM (zcD (ix a0.Mons a1 mZ)) a2 (hasB a3 4)=zbM (zB a0 a1) a2 (hasB a3 4):=zkh hS _ _;have hB:zcQ a0 a1 (zer (zcD (ix a0.Mons a1 mZ)) a2 a3)=zcQ a0 a1 (chg (zB a0 a1) a2 (hasB a3 4) (zdz (gAt (zB a0 a1) a2) a3)):=by
   rw[<- hS.at];exact zoa hS _ _ _ _ _
  refine zdI rfl (must (zl hm) (must (zbi hx) (must (zbi hv) ?_)));rw[show zgW (zbA (ix (zk a0).Mons a1 zf)) a2 a3=zbM (zB a0 a1) a2 (hasB a3 4) from hk]
  cases hf:zbM (zB a0 a1) a2 (hasB a3 4)
  .rfl
  .have hb:SmB (zer (zcD (ix a0.Mons a1 mZ)) a2 a3):=zoW hv (zKl _ (ziU _ hv));refine zdI rfl (must (zbi ⟨hm,hb.2.1⟩) ?_);have key:=zY3 (H:=zcQ a0 a1 (zer (zcD (ix a0.Mons a1 mZ)) a2 a3)) (m:=a1) (g:=a2) (p:=a3) (o:=fun H=>[.agg (zbd H),.one (.b true)]) (zG4 hs hm hb.2.1) (zQy _ hm) (zNX hs h0 _ hf);refine (show _=_ from key).trans ?_
   rw[hB];rfl
theorem zDi:vF 192 zun:=hF4 zNJ zq zbR zcV (zo []) zJF
def zYu:zO:=[(192,zun)]++zYt
theorem zNK:zF zYu:=zh zDi zNJ
def zSH (h:Host)(m p c v:Int):Host:={ mended h m p 2 with Memory:=zbz (mended h m p 2).Memory (ix (ix (mended h m p 2).Mons m mZ).Outer p sZ).Page c v }
def zeJ (h:Host)(m p c v:Int):Bool:=bif zcf h m p then (cond (hasB c 4) (win v 0 99) false) else false
def zlZ (h:Host)(m p c v:Int):Host:=bif zeJ h m p c v then zSH h m p c v else h
@[simp] abbrev zsZ (h:Host)(m p c v:Int):Bool:=pc (zcb h)
@[simp] abbrev znD (h:Host)(m p c v:Int):Host:=zlZ h m p c v
@[simp] abbrev znE (h:Host)(m p c v:Int):Bool:=zeJ h m p c v
def z4a (H:Host)(m p c v:Int)(o:Host->Ans):OA:=
 bif zlA H m p 2 then (cond (inb m (ln (mended H m p 2).Mons)) (cond (inb p (ln (ix (mended H m p 2).Mons m mZ).Outer)) (cond (zh0 (mended H m p 2).Memory (ix (ix (mended H m p 2).Mons m mZ).Outer p sZ).Page c v) (some (o (zSH H m p c v))) none) none) none) else none
theorem z1W {h:Host}{m p c v:Int}{o:Host->Ans}(hs:SmH h)(h0:zcf h m p=true):z4a h m p c v o=some (o (zSH h m p c v)):=by
 obtain ⟨hh,hm,hp⟩:=zi4.1 h0;have hf:=zeI hs hh;obtain ⟨h1,h2⟩:=ztd (n:=2) hf hm hp;unfold z4a;refine must (zbi ⟨hf,hm,hp,.inr rfl,zrj (zgc hh _ (zbv hm mZ)) hp⟩) (must (zl h2) (must (zl ?_) (must (zbi h1.1.1) rfl)));rw[ln,(h1.2 _ (zbv h2 mZ)).1];exact hp
def zwJ:Run:=rF5 dH dI dI dI dI fun b c d e f=>(zsZ b c d e f,[aH (znD b c d e f),aB (znE b c d e f)])
def zz9 (N:Nat)(a0:Host)(a1 a2:Int)(a3 a4:Int):OA:=
 let y2:=(zk a0);let y0:=(zmA y2 a1 a2 2);let y1:=(ix y0.Mons a1 zf).Outer;let y3:=(ix y1 a2 zK).Page; (oN (zbC a0) (oN (zmz y2 a1 a2) (cond (nB (zgY y2 a1 a2)) (some [(aH y2),(aB false)]) (oN (zI a3 0 3) (cond (nB (zL a3 0 3)) (some [(aH y2),(aB false)]) (oN (zI a4 0 99) (cond (nB (zL a4 0 99)) (some [(aH y2),(aB false)]) (oN (zlA y2 a1 a2 2) (oN (inb a1 (ln y0.Mons)) (oN (inb a2 (ln y1)) (oN (zh0 y0.Memory y3 a3 a4) (some [(aH ({ y0 with Memory:=(ziw y0.Memory y3 a3 a4) }:Host)),(aB true)]))))))))))))
theorem zMg (a0:Host)(a1 a2:Int)(a3 a4:Int)(hc:zsZ a0 a1 a2 a3 a4=true):∃N,zz9 N a0 a1 a2 a3 a4=some [aH (znD a0 a1 a2 a3 a4),aB (znE a0 a1 a2 a3 a4)]:=by
 have hs:=(zM a0).1 (zD.1 hc);refine ⟨0,?_⟩;unfold zz9 znD znE zlZ zeJ oN nB
 conv=>zeta
 refine must hc (must rfl ?_);rw[show zgY (zk a0) a1 a2=zcf a0 a1 a2 from rfl]
 cases h0:zcf a0 a1 a2
 .rfl
 .refine zdI rfl (must rfl ?_);rw[show zL a3 0 3=hasB a3 4 from z6T a3]
  cases h1:hasB a3 4
  .rfl
  .refine zdI rfl (must rfl ?_);rw[show zL a4 0 99=win a4 0 99 from rfl]
   cases h2:win a4 0 99
   .rfl
   .have key:=z1W (c:=a3) (v:=a4) (o:=fun H=>[.agg (zbd H),.one (.b true)]) hs h0;exact zdI rfl (show _=_ from key)
theorem zGa:vF 198 zwJ:=kF5 zNK zq zbR zcV (zo []) zMg
def zYv:zO:=[(198,zwJ)]++zYu
theorem zYw:zF zYv:=zh zGa zNK
def zYx:zO:=zYv
theorem zAz:zF zYx:=zYw
theorem zZu (h:Host)(b:List Entry)(m g page need:Int)(io:Bool):(lookOf h b m g page need io).2.2=zby h m g page need:=by
 cases hl:zby h m g page need
 .rw [zgp hl]
 .rw [zGQ hl];unfold zfp zd0;generalize zgQ b m g page need=x;cases x
  .generalize zdT _ m g page need=y;cases y<;>rfl
  .rfl
theorem z5l {h:Host}{m g page need:Int}(b:List Entry)(io:Bool)(hs:SmH h)(hl:zby h m g page need=true):SmM (lookOf h b m g page need io).1.Memory:=by
 have hg:zbH h m g=true:=by
  unfold zby at hl;cases h1:zbH h m g
  .rw [h1]at hl;cases hl
  .rfl
 exact (zwd hs hg).shape.1.1
def zA7 (h:Host)(m g a n:Int):Host×Int×Bool:=lookOf h h.IoBuffer m g (zbb a) n true
def zgb (h:Host)(m g a v:Int):Bool:=bif win a 0 15 then (cond (win v 0 99) (zby h m g (zbb a) 2) false) else false
def zoi (h:Host)(m g a v:Int):Host:=bif zgb h m g a v then { (zA7 h m g a 2).1 with Memory:=zbz (zA7 h m g a 2).1.Memory (zA7 h m g a 2).2.1 (zcU a) v } else h
def zfn (h:Host)(m g a:Int):Bool:=bif win a 0 15 then zby h m g (zbb a) 1 else false
def zl0 (h:Host)(m g a:Int):Host:=bif zfn h m g a then (zA7 h m g a 1).1 else h
def zp2 (h:Host)(m g a:Int):Int:=bif zfn h m g a then cellAt (zA7 h m g a 1).1.Memory (zA7 h m g a 1).2.1 (zcU a) else 0
@[simp] abbrev zvl (h:Host)(m g a v:Int):Bool:=pc (zcb h)
@[simp] abbrev zpy (h:Host)(m g a v:Int):Host:=zoi h m g a v
@[simp] abbrev zpz (h:Host)(m g a v:Int):Bool:=zgb h m g a v
@[simp] abbrev zs4 (h:Host)(m g a:Int):Bool:=pc (zcb h)
@[simp] abbrev znH (h:Host)(m g a:Int):Host:=zl0 h m g a
@[simp] abbrev znI (h:Host)(m g a:Int):Int:=zp2 h m g a
@[simp] abbrev znJ (h:Host)(m g a:Int):Bool:=zfn h m g a
def zy7:Run:=rF5 dH dI dI dI dI fun b c d e f=>(zvl b c d e f,[aH (zpy b c d e f),aB (zpz b c d e f)])
def zD6 (N:Nat)(a0:Host)(a1 a2:Int)(a3 a4:Int):OA:=
 let y1:=(zk a0);let y2:=(zhA y1 y1.IoBuffer a1 a2 (zcA a3) 2 true);let y0:=(zel y1 y1.IoBuffer a1 a2 (zcA a3) 2 true); (oN (zbC a0) (oN (zI a3 0 15) (cond (nB (zL a3 0 15)) (some [(aH y1),(aB false)]) (oN (zI a4 0 99) (cond (nB (zL a4 0 99)) (some [(aH y1),(aB false)]) (oN (zfK a3) (oN (zhB y1 y1.IoBuffer a1 a2 (zcA a3) 2 true) (cond (nB (zfx y1 y1.IoBuffer a1 a2 (zcA a3) 2 true)) (some [(aH y0),(aB false)]) (oN (zhV a3) (oN (zh0 y0.Memory y2 (zd1 a3) a4) (some [(aH ({ y0 with Memory:=(ziw y0.Memory y2 (zd1 a3) a4) }:Host)),(aB true)])))))))))))
theorem zPi (a0:Host)(a1 a2:Int)(a3 a4:Int)(hc:zvl a0 a1 a2 a3 a4=true):∃N,zD6 N a0 a1 a2 a3 a4=some [aH (zpy a0 a1 a2 a3 a4),aB (zpz a0 a1 a2 a3 a4)]:=by
 have hs:=(zM a0).1 (zD.1 hc);refine ⟨0,?_⟩;unfold zD6 zpy zpz zoi zgb oN nB
 conv=>zeta
 refine must hc (must rfl ?_);rw[show zL a3 0 15=win a3 0 15 from rfl]
 cases h1:win a3 0 15
 .rfl
 .refine zdI rfl (must rfl ?_);rw[show zL a4 0 99=win a4 0 99 from rfl]
  cases h2:win a4 0 99
  .rfl
  .refine zdI rfl (must rfl (must hc ?_));rw[show zfx (zk a0) (zk a0).IoBuffer a1 a2 (zcA a3) 2 true=zby a0 a1 a2 (zbb a3) 2 from zZu _ _ _ _ _ _ _]
   cases h3:zby a0 a1 a2 (zbb a3) 2
   .rw [show zel (zk a0) (zk a0).IoBuffer a1 a2 (zcA a3) 2 true=a0 from congrArg Prod.fst (zgp h3)]
    rfl
   .exact zdI rfl (must rfl (must (zbi (z5l a0.IoBuffer true hs h3)) rfl))
theorem zIM:vF 201 zy7:=kF5 zAz zq zbR zcV (zo []) zPi
def zwL:Run:=rF4 dH dI dI dI fun b c d e=>(zs4 b c d e,[aH (znH b c d e),aI (znI b c d e),aB (znJ b c d e)])
def zAb (N:Nat)(a0:Host)(a1 a2 a3:Int):OA:=
 let y1:=(zk a0);let y2:=(zhA y1 y1.IoBuffer a1 a2 (zcA a3) 1 true);let y0:=(zel y1 y1.IoBuffer a1 a2 (zcA a3) 1 true); (oN (zbC a0) (oN (zI a3 0 15) (cond (nB (zL a3 0 15)) (some [(aH y1),(aI 0),(aB false)]) (oN (zfK a3) (oN (zhB y1 y1.IoBuffer a1 a2 (zcA a3) 1 true) (cond (nB (zfx y1 y1.IoBuffer a1 a2 (zcA a3) 1 true)) (some [(aH y0),(aI 0),(aB false)]) (oN (zhV a3) (oN (zrp y0.Memory y2 (zd1 a3)) (some [(aH y0),(aI (zmb y0.Memory y2 (zd1 a3))),(aB true)])))))))))
theorem zMi (a0:Host)(a1 a2 a3:Int)(hc:zs4 a0 a1 a2 a3=true):∃N,zAb N a0 a1 a2 a3=some [aH (znH a0 a1 a2 a3),aI (znI a0 a1 a2 a3),aB (znJ a0 a1 a2 a3)]:=by
 have hs:=(zM a0).1 (zD.1 hc);refine ⟨0,?_⟩;unfold zAb znH znI znJ zl0 zp2 zfn oN nB
 conv=>zeta
 refine must hc (must rfl ?_);rw[show zL a3 0 15=win a3 0 15 from rfl]
 cases h1:win a3 0 15
 .rfl
 .refine zdI rfl (must rfl (must hc ?_));rw[show zfx (zk a0) (zk a0).IoBuffer a1 a2 (zcA a3) 1 true=zby a0 a1 a2 (zbb a3) 1 from zZu _ _ _ _ _ _ _]
  cases h3:zby a0 a1 a2 (zbb a3) 1
  .rw [show zel (zk a0) (zk a0).IoBuffer a1 a2 (zcA a3) 1 true=a0 from congrArg Prod.fst (zgp h3)]
   rfl
  .exact zdI rfl (must rfl (must rfl rfl))
theorem zGc:vF 202 zwL:=kF4 zAz zq zbR zcV (zo []) zMi
def zYy:zO:=[(201,zy7),(202,zwL)]++zYx
theorem zYz:zF zYy:=zh zIM (zh zGc zAz)
def zYA:zO:=[(243,zoG),(244,zoE)]++zYy
theorem zNL:zF zYA:=zh zsj (zh zsi zYz)
def zi1:Kept:=⟨rp 4 false,zj7⟩
@[simp] abbrev zvp (n:Int):Bool:=ieq n 4
@[simp] abbrev zuP (n:Int):Kept:=zi1
def zzb:Run:=rF1 dI fun b=>(zvp b,[aT .kept (zuP b)])
def zTH (N:Nat)(a0:Int):OA:=
 let y0:=(ln (zf9 a0)); (oN (zhZ a0) (oN (cond (few y0) (ieq y0 y0) false) (some [(aT .kept (⟨(rp y0 false),(zf9 a0)⟩:Kept))])))
theorem zPm (a0:Int)(hc:zvp a0=true):∃N,zTH N a0=some [aT .kept (zuP a0)]:=by
 refine ⟨0,?_⟩;have h:a0=4:=qE hc;subst h
 change _=_
 kernel_rfl
theorem zIQ:vF 245 zzb:=kF1 zNL zq zbR zcV (zo []) zPm
def zYB:zO:=[(245,zzb)]++zYA
theorem zNM:zF zYB:=zh zIQ zNL
def ztf:List Slot:=List.replicate 8 ⟨-1,0⟩
def zf1 (ps:List (List Ins)):Mon:=⟨ztf,zMF,rp 8 false,(ps.take 2).map zet,[],0,0,(ps.take 2).map (fun _=>zi1),0⟩
theorem zJI {α β γ ρ:Type}(m:Nat)(f:α->β)(g:α->γ)(K:List β×List γ->Option ρ):∀(l:List α) (i:Nat) (u:List β×List γ),u.1.length+l.length<=2147483648->u.2.length+l.length<=2147483648 ->
 goL (fun (i:Nat) x (u:List β×List γ) k=>bif ilt (i:Int) (m:Int) then (cond (few (ln (ap u.1 [f x]))) (cond (few (ln (ap u.2 [g x]))) (k (ap u.1 [f x],ap u.2 [g x])) none) none) else K u) K l i u=K (u.1++(l.take (m-i)).map f,u.2++(l.take (m-i)).map g)
 | [],i,u,_,_=>by simp[goL]
 | x :: l,i,u,h1,h2=>by
  simp only[qV]at h1 h2;have e1:few (ln (ap u.1 [f x]))=true:=zgD (by simp[ap];omega)
  have e2:few (ln (ap u.2 [g x]))=true:=zgD (by simp[ap];omega)
  by_cases h:i<m
  .have hi:ilt (i:Int) (m:Int)=true:=qI (by omega)
   simp only[goL,hi,e1,e2,cT];rw[zJI m f g K l (i+1) _ (by simp[ap];omega) (by simp[ap];omega)]
   rw[show m-i=m-(i+1)+1 by omega]
   simp[ap]
  .have hi:ilt (i:Int) (m:Int)=false:=qJ (by omega)
   simp only[goL,hi,cF];rw[show m-i=0 by omega]
   simp
def zZB (u:List Guest×List Kept):OA:=some [AV.agg (Ty.cells .mon (⟨ztf,zMF,rp 8 false,u.1,[],0,0,u.2,0⟩:Mon))]
@[simp] abbrev zrr (ps:List (List Ins)):Bool:=pc (z5X ps)
@[simp] abbrev zG1 (ps:List (List Ins)):Mon:=zf1 ps
def zBL:Run:=rF1 (dS (.sl .ins)) fun b=>(zrr b,[aT .mon (zG1 b)])
def zHH (N:Nat)(a0:lP):OA:=
 (oN (zhZ 8) (oN (znL 8) (oN (cond (few 8) (ieq 8 8) false) (iter (σ:=(Int×(Int×(Int×(Int×(Int×(Int×(Int×(lP×(lS×(lM×(lB×(lG×((List Int)×(lK×(lS×(lM×(lB×(lG×((List Int)×(lK×Unit))))))))))))))))))))) N (fun r2 s3=>let y8:=s3.2.2.2.2.2.2.2.2.2.2.2.2.2.2.1;let y7:=s3.2.2.2.2.2.2.2.2.2.2.2.2.2.2.2.1;let y6:=s3.2.2.2.2.2.2.2.2.2.2.2.2.2.2.2.2.1;let y5:=s3.2.2.2.2.2.2.2.2.2.2.2.2.2.2.2.2.2.1;let y4:=s3.2.2.2.2.2.2.2.2.2.2.2.2.2.2.2.2.2.2.1;let y3:=s3.2.2.2.2.2.2.2.1;let y2:=s3.2.2.2.2.2.2.2.2.2.2.2.2.2.2.2.2.2.2.2.1;let y1:=(ap y5 [(znB (ix y3 s3.1 []))]);let y0:=(aT .mon (⟨y8,y7,y6,y5,y4,s3.2.2.2.2.1,s3.2.2.2.2.2.1,y2,s3.2.2.2.2.2.2.1⟩:Mon)); (cond (ilt s3.1 (ln y3)) (cond (ilt s3.1 2) (oN (inb s3.1 (ln y3)) (oN (znC (ix y3 s3.1 [])) (oN (few (ln y1)) (oN (zvp 4) (oN (few (ln (ap y2 [(zuP 4)]))) (r2 ((zG .i64 s3.1 1),(s3.2.1,(s3.2.2.1,(s3.2.2.2.1,(s3.2.2.2.2.1,(s3.2.2.2.2.2.1,(s3.2.2.2.2.2.2.1,(y3,(s3.2.2.2.2.2.2.2.2.1,(s3.2.2.2.2.2.2.2.2.2.1,(s3.2.2.2.2.2.2.2.2.2.2.1,(s3.2.2.2.2.2.2.2.2.2.2.2.1,(s3.2.2.2.2.2.2.2.2.2.2.2.2.1,(s3.2.2.2.2.2.2.2.2.2.2.2.2.2.1,(y8,(y7,(y6,(y1,(y4,((ap y2 [(zuP 4)]),())))))))))))))))))))))))))) (some [y0])) (some [y0]))) (0,(0,(0,(0,(0,(0,(0,(a0,([],([],([],([],([],([],((zf9 8),((ziu 8),((rp 8 false),([],([],([],()))))))))))))))))))))))))
def zTq:FuncId->Nat->Option Tmpl:=zo [(186,0,{ n:=36,tm:=[(0,.sl 0 []),(2,.lp 0 0),(3,.lp 1 0),(4,ti)],lo:=[(0,[.sl 1 [],.sl 2 [],.sl 3 [],.sl 4 [],.sl 5 [],ti,ti,.sl 6 [],ti]),(1,[.sl 7 [],.sl 8 [],.sl 9 [],.sl 10 [],.sl 11 [],ti,ti,.sl 12 [],ti])],ro:=[(0,(.sl .ins),false),(1,.slot,true),(2,(.sl .int),true),(3,.bool,true),(4,.guest,true),(5,.int,true),(6,.kept,true),(7,.slot,true),(8,(.sl .int),true),(9,.bool,true),(10,.guest,true),(11,.int,true),(12,.kept,true)] })]
theorem zRP (a0:List lI)(hc:zrr a0=true):∃N,zHH N a0=some [aT .mon (zG1 a0)]:=by
 have hs:=zD.1 hc;have hl:=zcP hs.1;refine zcd fun N hNN=>?_;unfold zHH oN
 conv=>zeta
 refine must rfl (must rfl (must rfl ?_));refine (zZ a0 (fun i (t:lG×lK)=>((i:Int),0,0,0,0,0,0,a0,[],[],[],[],[],[],(zf9 8),(ziu 8),(rp 8 false),t.1,[],t.2,())) _ (fun i (x:List Ins) (u:List Guest×List Kept) κ=>bif ilt (i:Int) ((2:Nat):Int) then (cond (few (ln (ap u.1 [zet x]))) (cond (few (ln (ap u.2 [zi1]))) (κ (ap u.1 [zet x],ap u.2 [zi1])) none) none) else zZB u) (fun (t:lG×lK)=>(some [(.agg (Ty.cells .mon (⟨(zf9 8),(ziu 8),(rp 8 false),t.1,[],0,0,t.2,0⟩:Mon)))])) (fun i hi t rec=>?_) (fun t rec=>?_) _ ([],[]) (hNN hl.1)).trans ?_
 .simp only [zbo hi,zS hi,zbc hi,zV hi hl.1,cT];have hx:znC a0[i]=true:=zbi (hs.2 _ (jG hi));simp only[hx,cT];rfl
 .simp only [zbg,cF]
 exact zJI 2 zet (fun _=>zi1) zZB a0 0 ([],[]) (by simpa using hl.2) (by simpa using hl.2)
theorem zLs:vF 186 zBL:=kF1 zNM zq zbR zcV zTq zRP
def zYC:zO:=[(186,zBL)]++zYB
theorem zNN:zF zYC:=zh zLs zNM
def zXe:List (List Int):=List.replicate 12 [0,0,0,0]
def zeY (ps:List (List (List Ins))):Host:=⟨zXe,(ps.take 3).map zf1,[],[]⟩
def zHZ (ps:List (List (List Ins))):Prop:=ps.length<=1048576/\∀p∈ps,z5X p
@[simp] abbrev zvm (ps:List (List (List Ins))):Bool:=pc (zHZ ps)
@[simp] abbrev zgg (ps:List (List (List Ins))):Host:=zeY ps
def zVy (t:List Mon):OA:=some [AV.agg (zbd ⟨zXe,t,[],[]⟩)]
def zy8:Run:=rF1 (dS (.sl (.sl .ins))) fun b=>(zvm b,[aH (zgg b)])
def zD7 (N:Nat)(a0:lQ):OA:=
 (oN (znL 12) (iter (σ:=(Int×(lQ×(lM×(lN×(lE×(lE×(lM×(lN×(lE×(lE×Unit))))))))))) N (fun r2 s3=>let y1:=(ap s3.2.2.2.2.2.2.2.1 [(zG1 (ix s3.2.1 s3.1 []))]);let y0:=(aH (⟨s3.2.2.2.2.2.2.1,s3.2.2.2.2.2.2.2.1,s3.2.2.2.2.2.2.2.2.1,s3.2.2.2.2.2.2.2.2.2.1⟩:Host)); (cond (ilt s3.1 (ln s3.2.1)) (cond (ilt s3.1 3) (oN (inb s3.1 (ln s3.2.1)) (oN (zrr (ix s3.2.1 s3.1 [])) (oN (few (ln y1)) (r2 ((zG .i64 s3.1 1),(s3.2.1,(s3.2.2.1,(s3.2.2.2.1,(s3.2.2.2.2.1,(s3.2.2.2.2.2.1,(s3.2.2.2.2.2.2.1,(y1,(s3.2.2.2.2.2.2.2.2.1,(s3.2.2.2.2.2.2.2.2.2.1,())))))))))))))) (some [y0])) (some [y0]))) (0,(a0,([],([],([],([],((ziu 12),([],([],([],()))))))))))))
def zPV:FuncId->Nat->Option Tmpl:=zo [(144,0,{ n:=28,tm:=[(0,.sl 0 []),(2,.lp 0 0),(3,.lp 1 0),(4,ti)],lo:=[(0,[.sl 1 [],.sl 2 [],.sl 3 [],.sl 4 []]),(1,[.sl 5 [],.sl 6 [],.sl 7 [],.sl 8 []])],ro:=[(0,(.sl (.sl .ins)),false),(1,(.sl .int),true),(2,.mon,true),(3,.entry,true),(4,.entry,true),(5,(.sl .int),true),(6,.mon,true),(7,.entry,true),(8,.entry,true)] })]
theorem zPj (a0:List lP)(hc:zvm a0=true):∃N,zD7 N a0=some [aH (zgg a0)]:=by
 have hs:=zD.1 hc;have hl:=zcP hs.1;refine zcd fun N hNN=>?_;unfold zD7 oN
 conv=>zeta
 refine must rfl ?_;refine (zZ a0 (fun i (t:lN)=>((i:Int),a0,[],[],[],[],(ziu 12),t,[],[],())) _ (fun i (x:List lI) (t:List Mon) κ=>bif ilt (i:Int) ((3:Nat):Int) then (cond (few (ln (ap t [zf1 x]))) (κ (ap t [zf1 x])) none) else zVy t) (fun (t:lN)=>(some [(.agg (zbd (⟨(ziu 12),t,[],[]⟩:Host)))])) (fun i hi t rec=>?_) (fun t rec=>?_) _ ([]) (hNN hl.1)).trans ?_
 .simp only [zbo hi,zS hi,zbc hi,zV hi hl.1,cT];have hx:zrr a0[i]=true:=zbi (hs.2 _ (jG hi));simp only[hx,cT];rfl
 .simp only [zbg,cF]
 exact zN7 3 zf1 zVy a0 0 [] (by simpa using hl.2)
theorem zIN:vF 144 zy8:=kF1 zNN zq zbR zcV zPV zPj
def zYD:zO:=[(144,zy8)]++zYC
theorem zNO:zF zYD:=zh zIN zNN
def zhK:Nat->Nat->Kept->Kept
 | 0,_,k=>k
 | n+1,i,k=>zhK n (i+1) (zbG k (i:Int))
def zih (k:Kept):Kept:=zhK k.Known.length 0 k
theorem zWS (k:Kept)(p:Int):(zbG k p).Known.length=k.Known.length:=by
 unfold zbG;cases zcY k p
 .rfl
 .exact zf2 _ _ _
theorem zvx:∀(n i:Nat) (k:Kept),SmK k->SmK (zhK n i k)
 | 0,_,_,h=>h
 | n+1,i,k,h=>zvx n (i+1) _ (zn0 h)
@[simp] abbrev zqR (k:Kept):Bool:=pc (SmK k)
@[simp] abbrev zvi (k:Kept):Kept:=zih k
def zum:Run:=rF1 (dT .kept) fun b=>(zqR b,[aT .kept (zvi b)])
def zyP (N:Nat)(a0:Kept):OA:=
 (oN (zft a0) (iter (σ:=(Int×(lB×(lS×(lB×(lS×Unit)))))) N (fun r2 s3=>let y0:=(⟨s3.2.1,s3.2.2.1⟩:Kept); (cond (ilt s3.1 (ln s3.2.1)) (oN (zkF y0 s3.1) (r2 ((zG .i64 s3.1 1),((zjU y0 s3.1).Known,((zjU y0 s3.1).Slots,(s3.2.2.2.1,(s3.2.2.2.2.1,()))))))) (some [(aT .kept y0)]))) (0,((zdg a0).Known,((zdg a0).Slots,([],([],())))))))
def zKI:FuncId->Nat->Option Tmpl:=zo [(291,0,{ n:=17,tm:=[(1,.lp 0 0),(2,.lp 1 0),(3,ti)],lo:=[(0,[.sl 0 [],.sl 1 []]),(1,[.sl 2 [],.sl 3 []])],ro:=[(0,.bool,true),(1,.slot,true),(2,.bool,true),(3,.slot,true)] })]
theorem zJE (a0:Kept)(hc:zqR a0=true):∃N,zyP N a0=some [aT .kept (zvi a0)]:=by
 have hs:=zD.1 hc;have hl:=zcP hs.1;refine zcd fun N hNN=>?_;unfold zyP oN
 conv=>zeta
 refine must (zbr ((zvQ _).2 hs)) ?_;refine (zCJ a0.Known.length (fun i (k:Kept)=>((i:Int),(k.Known,(k.Slots,([],([],())))))) _ (fun i k=>SmK k/\k.Known.length=a0.Known.length) (fun i k=>some [AV.agg (Ty.cells .kept (zhK (a0.Known.length-i) i k))]) (fun i k rec hi hI hr=>?_) (fun k rec hI=>?_) N 0 a0 ⟨hs,rfl⟩ (jU _) (hNN hl.1)).trans rfl
 .refine must (zbo (by rw[hI.2];exact hi)) (must (zbi hI.1) ?_)
  have q:=hr (zbG k (i:Int)) ⟨zn0 hI.1,by rw[zWS];exact hI.2⟩
  rw[show a0.Known.length-i=a0.Known.length-(i+1)+1 by omega]
  rw[zV hi hl.1];exact q
 .refine zdI (by show ilt (a0.Known.length:Int) (ln k.Known)=false;rw[ln,hI.2];exact qJ (by omega)) ?_
  rw[k7];rfl
theorem zDh:vF 291 zum:=kF1 zNO zq zbR zcV zKI zJE
def zYE:zO:=[(291,zum)]++zYD
theorem zNP:zF zYE:=zh zDh zNO
def ztA:Nat->Nat->List Kept->List Kept
 | 0,_,l=>l
 | n+1,j,l=>ztA n (j+1) (up l (j:Int) (zih (ix l (j:Int) kZ)))
def ztB (x:Mon)(n j:Nat):Mon:={ x with Tables:=ztA n j x.Tables }
def zmR:Nat->Nat->List Mon->List Mon
 | 0,_,t=>t
 | n+1,i,t=>zmR n (i+1) (up t (i:Int) (ztB (ix t (i:Int) mZ) (ix t (i:Int) mZ).Tables.length 0))
def cold (h:Host):Host:=⟨h.Memory,zmR h.Mons.length 0 h.Mons,[],[]⟩
theorem zKn:∀(n j:Nat) (l:List Kept),j+n<=l.length->zAl l->zAl (ztA n j l)
 | 0,_,_,_,h=>h
 | n+1,j,l,hn,h=>by
  have hj:j<l.length:=by omega
  refine zKn n (j+1) _ (by rw[zf2];omega) (zw4 h (zvx _ _ _ ?_))
  rw[zbc hj];exact h.2 _ (jG hj)
theorem zKp {x:Mon}(h:ze8 x){n j:Nat}(hn:j+n<=x.Tables.length):ze8 (ztB x n j):=⟨h.1,h.2.1,h.2.2.1,h.2.2.2.1,h.2.2.2.2.1,zKn n j _ hn h.2.2.2.2.2⟩
@[simp] abbrev zGZ (h:Host):Bool:=pc (zcb h)
@[simp] abbrev zSL (h:Host):Host:=cold h
def zJ8:Run:=rF1 dH fun b=>(zGZ b,[aH (zSL b)])
def zQn (N:Nat)(a0:Host):OA:=
 (oN (zbC a0) (iter (σ:=(Int×(lM×(lN×(lE×(lE×(lM×(lN×(lE×(lE×Unit)))))))))) N (fun r2 s3=>(cond (ilt s3.1 (ln s3.2.2.1)) (iter (σ:=(Int×(Int×(lM×(lN×(lE×(lE×(lM×(lN×(lE×(lE×Unit))))))))))) N (fun r4 s5=>let y1:=(inb s5.1 (ln s5.2.2.2.1));let y0:=(ix s5.2.2.2.1 s5.1 zf);let y2:=(ix y0.Tables s5.2.1 zcK); (oN y1 (cond (ilt s5.2.1 (ln y0.Tables)) (oN y1 (oN y1 (oN (inb s5.2.1 (ln y0.Tables)) (oN (zqR y2) (oN (inb s5.2.1 (ln y0.Tables)) (share (up s5.2.2.2.1 s5.1 ({ y0 with Tables:=(up y0.Tables s5.2.1 (zvi y2)) }:Mon)) (fun x6=>(r4 (s5.1,((zG .i64 s5.2.1 1),(s5.2.2.1,(x6,(s5.2.2.2.2.1,(s5.2.2.2.2.2.1,(s5.2.2.2.2.2.2.1,(s5.2.2.2.2.2.2.2.1,(s5.2.2.2.2.2.2.2.2.1,(s5.2.2.2.2.2.2.2.2.2.1,())))))))))))))))))) (r2 ((zG .i64 s5.1 1),(s5.2.2.1,(s5.2.2.2.1,(s5.2.2.2.2.1,(s5.2.2.2.2.2.1,(s5.2.2.2.2.2.2.1,(s5.2.2.2.2.2.2.2.1,(s5.2.2.2.2.2.2.2.2.1,(s5.2.2.2.2.2.2.2.2.2.1,()))))))))))))) (s3.1,(0,(s3.2.1,(s3.2.2.1,(s3.2.2.2.1,(s3.2.2.2.2.1,(s3.2.2.2.2.2.1,(s3.2.2.2.2.2.2.1,(s3.2.2.2.2.2.2.2.1,(s3.2.2.2.2.2.2.2.2.1,()))))))))))) (some [(aH (⟨s3.2.1,s3.2.2.1,[],[]⟩:Host))]))) (0,((zk a0).Memory,((zk a0).Mons,((zk a0).Buffer,((zk a0).IoBuffer,([],([],([],([],())))))))))))
def zX5:FuncId->Nat->Option Tmpl:=zo [(250,0,{ n:=48,tm:=[(1,.lp 0 0),(2,.lp 1 0),(3,ti)],lo:=[(0,[.sl 0 [],.sl 1 [],.sl 2 [],.sl 3 []]),(1,[.sl 4 [],.sl 5 [],.sl 6 [],.sl 7 []])],ro:=[(0,(.sl .int),true),(1,.mon,true),(2,.entry,true),(3,.entry,true),(4,(.sl .int),true),(5,.mon,true),(6,.entry,true),(7,.entry,true)] }),(250,2,{ n:=48,tm:=[(1,.lp 0 0),(2,.lp 1 0),(3,ti),(4,ti)],lo:=[(0,[.sl 0 [],.sl 1 [],.sl 2 [],.sl 3 []]),(1,[.sl 4 [],.sl 5 [],.sl 6 [],.sl 7 []])],ro:=[(0,(.sl .int),true),(1,.mon,true),(2,.entry,true),(3,.entry,true),(4,(.sl .int),true),(5,.mon,true),(6,.entry,true),(7,.entry,true)] })]
theorem zXb (a0:Host)(hc:zGZ a0=true):∃N,zQn N a0=some [aH (zSL a0)]:=by
 have hs:=(zM a0).1 (zD.1 hc);have hl:=zcP hs.2.1.1;refine zcd fun N hNN=>?_;unfold zQn oN
 conv=>zeta
 refine must hc ?_;refine (zCJ a0.Mons.length (fun i (t:List Mon)=>((i:Int),(a0.Memory,(t,(a0.Buffer,(a0.IoBuffer,([],([],([],([],())))))))))) _ (fun i t=>zpP t/\t.length=a0.Mons.length) (fun i t=>some [AV.agg (zbd ⟨a0.Memory,zmR (a0.Mons.length-i) i t,[],[]⟩)]) (fun i t rec hi hI hr=>?_) (fun t rec hI=>?_) N 0 a0.Mons ⟨hs.2.1,rfl⟩ (jU _) (hNN hl.1)).trans rfl
 .have hit:i<t.length:=by rw[hI.2];exact hi
  have hx:ze8 (ix t (i:Int) mZ):=by rw[zbc hit];exact hI.1.2 _ (jG hit)
  have hk:=zcP hx.2.2.2.2.2.1;refine must (zbo hit) ?_;refine (zCJ (ix t (i:Int) mZ).Tables.length (fun j (u:List Mon)=>((i:Int),((j:Int),(a0.Memory,(u,(a0.Buffer,(a0.IoBuffer,([],([],([],([],())))))))))))
   _ (fun j u=>u.length=t.length/\ze8 (ix u (i:Int) mZ)/\(ix u (i:Int) mZ).Tables.length=(ix t (i:Int) mZ).Tables.length)
   (fun j u=>rec (((i+1:Nat):Int),(a0.Memory,(up u (i:Int) (ztB (ix u (i:Int) mZ) ((ix t (i:Int) mZ).Tables.length-j) j),(a0.Buffer,(a0.IoBuffer,([],([],([],([],()))))))))))
   (fun j u rec1 hj hJ hr1=>?_) (fun u rec1 hJ=>?_) N 0 t ⟨rfl,hx,rfl⟩ (jU _) (hNN hk.1)).trans ?_
  .have hiu:i<u.length:=by rw[hJ.1];exact hit
   have hju:j<(ix u (i:Int) mZ).Tables.length:=by rw[hJ.2.2];exact hj
   have hkj:SmK (ix (ix u (i:Int) mZ).Tables (j:Int) kZ):=by rw[zbc hju];exact hJ.2.1.2.2.2.2.2.2 _ (jG hju)
   refine must (zS hiu) (must (zbo hju) (must (zS hiu) (must (zS hiu) (must (zS hju) (must (zbi hkj) (must (zS hju) (shr ?_)))))));have hn:ze8 { ix u (i:Int) mZ with Tables:=up (ix u (i:Int) mZ).Tables (j:Int) (zih (ix (ix u (i:Int) mZ).Tables (j:Int) kZ)) } :=
    ⟨hJ.2.1.1,hJ.2.1.2.1,hJ.2.1.2.2.1,hJ.2.1.2.2.2.1,hJ.2.1.2.2.2.2.1,zw4 hJ.2.1.2.2.2.2.2 (zvx _ _ _ hkj)⟩
   have q:=hr1 (up u (i:Int) { ix u (i:Int) mZ with Tables:=up (ix u (i:Int) mZ).Tables (j:Int) (zih (ix (ix u (i:Int) mZ).Tables (j:Int) kZ)) }) ⟨by rw[zf2];exact hJ.1,by rw[zdD hiu];exact hn,by rw[zdD hiu];simp only[zf2];exact hJ.2.2⟩
   rw[zV hj hk.1];refine q.trans ?_;rw[zdD hiu,zuX,show (ix t (i:Int) mZ).Tables.length-j=(ix t (i:Int) mZ).Tables.length-(j+1)+1 by omega]
   rfl
  .have hiu:i<u.length:=by rw[hJ.1];exact hit
   refine must (zS hiu) (zdI (by show ilt ((ix t (i:Int) mZ).Tables.length:Int) (ln (ix u (i:Int) mZ).Tables)=false;rw[ln,hJ.2.2];exact qJ (by omega)) ?_)
   rw[zV hi hl.1,k7]
   show rec (_,(a0.Memory,(u,_)))=rec (_,(a0.Memory,(up u (i:Int) (ix u (i:Int) mZ),_)))
   rw[zNa hiu]
  .have q:=hr (up t (i:Int) (ztB (ix t (i:Int) mZ) (ix t (i:Int) mZ).Tables.length 0)) ⟨zia hI.1 (zKp hx (by omega)),by rw[zf2];exact hI.2⟩
   refine q.trans ?_;rw[show a0.Mons.length-i=a0.Mons.length-(i+1)+1 by omega]
   rfl
 .refine zdI (by show ilt (a0.Mons.length:Int) (ln t)=false;rw[ln,hI.2];exact qJ (by omega)) ?_
  rw[k7];rfl
theorem zRc:vF 250 zJ8:=kF1 zNP zq zbR zcV zX5 zXb
def zYF:zO:=[(250,zJ8)]++zYE
theorem zYG:zF zYF:=zh zRc zNP
def zYH:zO:=zYF
theorem zNQ:zF zYH:=zYG
theorem zzy:∀(n i:Nat) (t:List Mon),i+n<=t.length->zpP t->zpP (zmR n i t)
 | 0,_,_,_,h=>h
 | n+1,i,t,hn,h=>by
  have hi:i<t.length:=by omega
  refine zzy n (i+1) _ (by rw[zf2];omega) (zia h (zKp ?_ (by omega)))
  rw[zbc hi];exact h.2 _ (jG hi)
theorem z2l {h:Host}(hs:SmH h):SmH (cold h):=⟨hs.1,zzy _ _ _ (by omega) hs.2.1,by simp[cold],by simp[cold]⟩
theorem zmj {h:Host}{m:Int}{b:Bare}(hs:SmH h)(hb:zct h m=true->SmB b):SmH (zeq h m b):=by
 unfold zeq;cases h0:zct h m
 .exact hs
 .exact zG4 hs (zcj.1 h0).2 (hb h0).2.1
theorem z0h {h:Host}{m g p:Int}(hs:SmH h):SmH (zjA h m g p):=by
 unfold zjA;cases h0:zct h m
 .exact hs
 .cases hk:zbM (zB h m) g (hasB p 4)
  .exact hs
  .have hm:=(zcj.1 h0).2;have hv:=zSW hs hm;have hb:SmB (chg (zB h m) g (hasB p 4) (zdz (gAt (zB h m) g) p)):=zoW hv (zKl _ (ziU _ hv));have h1:=zG4 hs hm hb.2.1;have h2:=zQy (chg (zB h m) g (hasB p 4) (zdz (gAt (zB h m) g) p)) hm;have h3:=zNX hs h0 (chg (zB h m) g (hasB p 4) (zdz (gAt (zB h m) g) p)) hk;have hx:=h1.2.1.2 _ (zbv h2 mZ);simp only[cT];exact ⟨h1.1,zia h1.2.1 ⟨hx.1,hx.2.1,hx.2.2.1,hx.2.2.2.1,hx.2.2.2.2.1,zw4 hx.2.2.2.2.2 (zn0 (hx.2.2.2.2.2.2 _ (zbv h3 _)))⟩,jC (zxp _ _ _) h1.2.2.1,jC (zxp _ _ _) h1.2.2.2⟩
theorem z2m {h:Host}{m p c v:Int}(hs:SmH h):SmH (zlZ h m p c v):=by
 unfold zlZ;cases hf:zeJ h m p c v
 .exact hs
 .have h0:zcf h m p=true:=by
   unfold zeJ at hf;cases hp:zcf h m p
   .rw [hp]at hf;cases hf
   .rfl
  obtain ⟨hh,hm,hp⟩:=zi4.1 h0;have h1:=(ztd (n:=2) (zeI hs hh) hm hp).1.1;exact ⟨zyr h1.1,h1.2⟩
theorem zSe {h:Host}{m g page need:Int}(b:List Entry)(io:Bool)(hs:SmH h)(hl:zby h m g page need=true):SmH (lookOf h b m g page need io).1:=by
 have hg:zbH h m g=true:=by
  unfold zby at hl;cases h1:zbH h m g
  .rw [h1]at hl;cases hl
  .rfl
 exact (zwd hs hg).shape.1
theorem z5O {h:Host}{m g a v:Int}(hs:SmH h):SmH (zoi h m g a v):=by
 unfold zoi;cases hf:zgb h m g a v
 .exact hs
 .have hl:zby h m g (zbb a) 2=true:=by
   unfold zgb at hf;cases h1:win a 0 15
   .rw [h1]at hf;cases hf
   .cases h2:win v 0 99
    .rw [h1,h2]at hf;cases hf
    .rw [h1,h2]at hf;exact hf
  have h1:=zSe h.IoBuffer true hs hl;exact ⟨zyr h1.1,h1.2⟩
theorem z2o {h:Host}{m g a:Int}(hs:SmH h):SmH (zl0 h m g a):=by
 unfold zl0;cases hf:zfn h m g a
 .exact hs
 .have hl:zby h m g (zbb a) 1=true:=by
   unfold zfn at hf;cases h1:win a 0 15
   .rw [h1]at hf;cases hf
   .rw [h1]at hf;exact hf
  exact zSe h.IoBuffer true hs hl
theorem z5P {h:Host}{m p:Int}(hs:SmH h):SmH (zos h m p):=by
 unfold zos;cases h0:zcf h m p
 .exact hs
 .obtain ⟨hh,hm,hp⟩:=zi4.1 h0;cases zjj h m p
  .exact (zKh (zeI hs hh).1 hm).1
  .exact hs
theorem z6P {h:Host}{m p:Int}(hs:SmH h):SmH (zsA h m p):=by
 unfold zsA;cases h0:zcf h m p
 .exact hs
 .obtain ⟨hh,hm,hp⟩:=zi4.1 h0;cases zjj h m p
  .exact hs
  .exact (ziT (zeI hs hh) hm hp).1.1
theorem z0l {h:Host}{m t:Int}(hs:SmH h):SmH (ziy h m t):=by
 unfold ziy;cases zbI h
 .exact hs
 .cases hm:hasB m (ln h.Mons)
  .exact hs
  .cases win t 0 3
   .exact hs
   .have hx:ze8 (ix h.Mons m mZ):=hs.2.1.2 _ (zbv hm mZ);exact ⟨hs.1,zia hs.2.1 ⟨hx.1,hx.2.1,hx.2.2.1,hx.2.2.2.1,hx.2.2.2.2.1,hx.2.2.2.2.2⟩,hs.2.2⟩
def zsv (h:Host)(a:GAct):Host:=bif ieq a.Kind 1 then (zbt h a.M a.G).1 else (cond (ieq a.Kind 2) (zUx h a.M a.G a.X ⟨a.Y,a.Z⟩) (cond (ieq a.Kind 3) (zjA h a.M a.G a.X) (cond (ieq a.Kind 4) (zMy h a.M a.G a.X) (cond (ieq a.Kind 5) (zMC h a.M a.G) (cond (ieq a.Kind 6) (zMA h a.M a.G a.X) (cond (ieq a.Kind 7) (zUv h a.M a.G ⟨a.X,a.Y,ieq a.Z 1⟩) (cond (ieq a.Kind 8) (zlZ h a.M a.X a.Y a.Z) (cond (ieq a.Kind 9) (zSf h a.M a.X) (cond (ieq a.Kind 10) (zUs h a.M) (cond (ieq a.Kind 11) (zoi h a.M a.G a.X a.Y) (zl0 h a.M a.G a.X)))))))))))
def zA5 (h:Host)(a:GAct):Told:=bif ieq a.Kind 1 then ⟨(zbt h a.M a.G).2,0⟩ else (cond (ieq a.Kind 2) ⟨zUy h a.M a.G a.X ⟨a.Y,a.Z⟩,0⟩ (cond (ieq a.Kind 3) ⟨zPL h a.M a.G a.X,0⟩ (cond (ieq a.Kind 4) ⟨zMz h a.M a.G a.X,0⟩ (cond (ieq a.Kind 5) ⟨zMD h a.M a.G,0⟩ (cond (ieq a.Kind 6) ⟨zMB h a.M a.G a.X,0⟩ (cond (ieq a.Kind 7) ⟨zUw h a.M a.G ⟨a.X,a.Y,ieq a.Z 1⟩,0⟩ (cond (ieq a.Kind 8) ⟨zeJ h a.M a.X a.Y a.Z,0⟩ (cond (ieq a.Kind 9) ⟨zSg h a.M a.X,0⟩ (cond (ieq a.Kind 10) ⟨zUu h a.M,zUt h a.M⟩ (cond (ieq a.Kind 11) ⟨zgb h a.M a.G a.X a.Y,0⟩ (⟨zfn h a.M a.G a.X,zp2 h a.M a.G a.X⟩)))))))))))
def zll (h:Host)(a:GAct):Host:=bif ieq a.Kind 13 then zos h a.M a.X else (cond (ieq a.Kind 14) (zsA h a.M a.X) (cond (ieq a.Kind 15) (zsf h a.M a.X) (cond (ieq a.Kind 16) (ziy h a.M a.X) (cold h))))
def zJU (h:Host)(a:GAct):Told:=bif ieq a.Kind 13 then ⟨zBg h a.M a.X,0⟩ else (cond (ieq a.Kind 14) ⟨zGU h a.M a.X,0⟩ (cond (ieq a.Kind 15) ⟨zcf h a.M a.X,0⟩ (cond (ieq a.Kind 16) ⟨zyn h a.M a.X,0⟩ (⟨true,0⟩))))
def zeb (h:Host)(a:GAct):Host:=bif win a.Kind 1 17 then (cond (win a.Kind 13 17) (zll h a) (zsv h a)) else h
def zik (h:Host)(a:GAct):Told:=bif win a.Kind 1 17 then (cond (win a.Kind 13 17) (zJU h a) (zA5 h a)) else ⟨false,0⟩
theorem z0k {h:Host}{a:GAct}(hs:SmH h):SmH (zll h a):=by
 unfold zll;cases ieq a.Kind 13
 .cases ieq a.Kind 14
  .cases ieq a.Kind 15
   .cases ieq a.Kind 16
    .exact z2l hs
    .exact z0l hs
   .exact z0i hs
  .exact z6P hs
 .exact z5P hs
theorem z0j {h:Host}{a:GAct}(hs:SmH h):SmH (zsv h a):=by
 have hv:zct h a.M=true->SmB (zB h a.M):=fun h0=>zSW hs (zcj.1 h0).2;unfold zsv;cases ieq a.Kind 1
 .cases ieq a.Kind 2
  .cases ieq a.Kind 3
   .cases ieq a.Kind 4
    .cases ieq a.Kind 5
     .cases ieq a.Kind 6
      .cases ieq a.Kind 7
       .cases ieq a.Kind 8
        .cases ieq a.Kind 9
         .cases ieq a.Kind 10
          .cases ieq a.Kind 11
           .exact z2o hs
           .exact z5O hs
          .exact zmj hs (fun h0=>zVP (hv h0))
         .exact zmj hs (fun h0=>zSV _ (hv h0))
        .exact z2m hs
       .exact zmj hs (fun h0=>zVQ _ _ (hv h0))
      .exact zmj hs (fun h0=>zKj _ _ (hv h0))
     .exact zmj hs (fun h0=>zKk _ (hv h0))
    .exact zmj hs (fun h0=>zKi _ _ (hv h0))
   .exact z0h hs
  .exact zmj hs (fun h0=>zVR _ _ _ (hv h0))
 .exact (zZ7 a.M a.G hs).sm
theorem zVU {h:Host}{a:GAct}(hs:SmH h):SmH (zeb h a):=by
 unfold zeb;cases win a.Kind 1 17
 .exact hs
 .cases win a.Kind 13 17
  .exact z0j hs
  .exact z0k hs
@[simp] abbrev ztb (h:Host)(a:GAct):Bool:=pc (zcb h)
@[simp] abbrev zj5 (h:Host)(a:GAct):Host:=zll h a
@[simp] abbrev zh3 (h:Host)(a:GAct):Told:=zJU h a
def zwV:Run:=rF2 dH (dT .act) fun b c=>(ztb b c,[aH (zj5 b c),aT .told (zh3 b c)])
def zAk (N:Nat)(a0:Host)(a1:GAct):OA:=
 (cond (ieq a1.Kind 13) (oN (zvr a0 a1.M a1.X) (some [(aH (zpD a0 a1.M a1.X)),(.agg [(.b (zpE a0 a1.M a1.X)),(.i .i64 0)])])) (cond (ieq a1.Kind 14) (oN (zyf a0 a1.M a1.X) (some [(aH (zru a0 a1.M a1.X)),(.agg [(.b (zrv a0 a1.M a1.X)),(.i .i64 0)])])) (cond (ieq a1.Kind 15) (oN (zB7 a0 a1.M a1.X) (some [(aH (zup a0 a1.M a1.X)),(.agg [(.b (zuq a0 a1.M a1.X)),(.i .i64 0)])])) (cond (ieq a1.Kind 16) (oN (zs7 a0 a1.M a1.X) (some [(aH (znO a0 a1.M a1.X)),(.agg [(.b (znP a0 a1.M a1.X)),(.i .i64 0)])])) (oN (zGZ a0) (some [(aH (zSL a0)),(.agg [(.b true),(.i .i64 0)])]))))))
theorem zMv (a0:Host)(a1:GAct)(hc:ztb a0 a1=true):∃N,zAk N a0 a1=some [aH (zj5 a0 a1),aT .told (zh3 a0 a1)]:=by
 have hs:=zD.1 hc;refine ⟨0,?_⟩;unfold zAk oN;refine br (fun _=>mu ?_) (fun _=>br (fun _=>mu ?_) (fun _=>br (fun _=>mu ?_) (fun _=>br (fun _=>mu ?_) (fun _=>mu ?_))))
 all_goals first|rfl|(simp only [*,zj5,zh3,zll,zJU,cT,cF]<;>rfl)|simp_all[Ty.cells,zj5,zh3,zll,zJU]
theorem zGp:vF 189 zwV:=kF2 zNQ zq zbR zcV (zo []) zMv
def zYI:zO:=[(189,zwV),(187,zEU),(188,zza),(197,zEV)]++zYH
theorem zNR:zF zYI:=zh zGp (zh zOL (zh zIP (zh zOM zNQ)))
@[simp] abbrev zpv (h:Host)(a:GAct):Bool:=pc (zcb h)
@[simp] abbrev zlr (h:Host)(a:GAct):Host:=zeb h a
@[simp] abbrev zls (h:Host)(a:GAct):Told:=zik h a
def zy5:Run:=rF2 dH (dT .act) fun b c=>(zpv b c,[aH (zlr b c),aT .told (zls b c)])
def zD4 (N:Nat)(a0:Host)(a1:GAct):OA:=
 let y0:=(⟨a1.Y,a1.Z⟩:Slot); (oN (zB3 a1) (cond (nB (zwW a1)) (oN (zbC a0) (some [(aH (zk a0)),(.agg [(.b false),(.i .i64 0)])])) (oN (zvo a1.Kind) (cond (zqc a1.Kind) (oN (ztb a0 a1) (some [(aH (zj5 a0 a1)),(.agg [(.b (zh3 a0 a1).Ok),(.i .i64 (zh3 a0 a1).N)])])) (cond (ieq a1.Kind 1) (oN (zeh a0 a1.M a1.G) (some [(aH (zB9 a0 a1.M a1.G)),(.agg [(.b (zCa a0 a1.M a1.G)),(.i .i64 0)])])) (cond (ieq a1.Kind 2) (oN (zvn a0 a1.M a1.G a1.X y0) (some [(aH (zpA a0 a1.M a1.G a1.X y0)),(.agg [(.b (zpB a0 a1.M a1.G a1.X y0)),(.i .i64 0)])])) (cond (ieq a1.Kind 3) (oN (zqS a0 a1.M a1.G a1.X) (some [(aH (zlO a0 a1.M a1.G a1.X)),(.agg [(.b (zlP a0 a1.M a1.G a1.X)),(.i .i64 0)])])) (cond (ieq a1.Kind 4) (oN (zoL a0 a1.M a1.G a1.X) (some [(aH (zkH a0 a1.M a1.G a1.X)),(.agg [(.b (zkI a0 a1.M a1.G a1.X)),(.i .i64 0)])])) (cond (ieq a1.Kind 5) (oN (zoN a0 a1.M a1.G) (some [(aH (zkL a0 a1.M a1.G)),(.agg [(.b (zkM a0 a1.M a1.G)),(.i .i64 0)])])) (cond (ieq a1.Kind 6) (oN (zoM a0 a1.M a1.G a1.X) (some [(aH (zkJ a0 a1.M a1.G a1.X)),(.agg [(.b (zkK a0 a1.M a1.G a1.X)),(.i .i64 0)])])) (cond (ieq a1.Kind 7) (oN (zB4 a1) (oN (zvk a0 a1.M a1.G (zoJ a1)) (some [(aH (zpw a0 a1.M a1.G (zoJ a1))),(.agg [(.b (zpx a0 a1.M a1.G (zoJ a1))),(.i .i64 0)])]))) (cond (ieq a1.Kind 8) (oN (zsZ a0 a1.M a1.X a1.Y a1.Z) (some [(aH (znD a0 a1.M a1.X a1.Y a1.Z)),(.agg [(.b (znE a0 a1.M a1.X a1.Y a1.Z)),(.i .i64 0)])])) (cond (ieq a1.Kind 9) (oN (zs3 a0 a1.M a1.X) (some [(aH (znF a0 a1.M a1.X)),(.agg [(.b (znG a0 a1.M a1.X)),(.i .i64 0)])])) (cond (ieq a1.Kind 10) (oN (zvj a0 a1.M) (some [(aH (zps a0 a1.M)),(.agg [(.b (zpu a0 a1.M)),(.i .i64 (zpt a0 a1.M))])])) (cond (ieq a1.Kind 11) (oN (zvl a0 a1.M a1.G a1.X a1.Y) (some [(aH (zpy a0 a1.M a1.G a1.X a1.Y)),(.agg [(.b (zpz a0 a1.M a1.G a1.X a1.Y)),(.i .i64 0)])])) (oN (zs4 a0 a1.M a1.G a1.X) (some [(aH (znH a0 a1.M a1.G a1.X)),(.agg [(.b (znJ a0 a1.M a1.G a1.X)),(.i .i64 (znI a0 a1.M a1.G a1.X))])])))))))))))))))))
theorem zPg (a0:Host)(a1:GAct)(hc:zpv a0 a1=true):∃N,zD4 N a0 a1=some [aH (zlr a0 a1),aT .told (zls a0 a1)]:=by
 have hs:=zD.1 hc;refine ⟨0,?_⟩;unfold zD4 oN nB
 conv=>zeta
 refine must rfl (brN (fun _=>mu ?_) (fun _=>must rfl (br (fun _=>mu ?_) (fun _=>br (fun _=>mu ?_) (fun _=>br (fun _=>mu ?_) (fun _=>br (fun _=>mu ?_) (fun _=>br (fun _=>mu ?_) (fun _=>br (fun _=>mu ?_) (fun _=>br (fun _=>mu ?_) (fun _=>br (fun _=>must rfl (mu ?_)) (fun _=>br (fun _=>mu ?_) (fun _=>br (fun _=>mu ?_) (fun _=>br (fun _=>mu ?_) (fun _=>br (fun _=>mu ?_) (fun _=>mu ?_)))))))))))))))
 all_goals first|rfl|(simp only [*,zlr,zls,zeb,zik,zsv,zA5,cT,cF]<;>rfl)|simp_all[Ty.cells,zlr,zls,zeb,zik,zsv,zA5]
theorem zIK:vF 145 zy5:=kF2 zNR zq zbR zcV (zo []) zPg
def zYJ:zO:=[(145,zy5)]++zYI
theorem zNS:zF zYJ:=zh zIK zNR
def zBk:List GAct->Host×List Told->Host×List Told
 | [],u=>u
 | a :: l,u=>zBk l (zeb u.1 a,ap u.2 [zik u.1 a])
def zxB (ps:List (List (List Ins)))(l:List GAct):Host×List Told:=zBk (l.take 80) (zeY ps,[])
abbrev HSt:Type:=(List Told)×(List (List Int))×(List Mon)×(List Entry)×(List Entry)
def hOf (t:HSt):Host:=⟨t.2.1,t.2.2.1,t.2.2.2.1,t.2.2.2.2⟩
def tOf (u:Host×List Told):HSt:=(u.2,u.1.Memory,u.1.Mons,u.1.Buffer,u.1.IoBuffer)
def zxW (t:HSt):OA:=some [AV.agg (zbd (hOf t)),AV.one (.s .told t.1)]
theorem zVV {ps:List (List (List Ins))}(h:zHZ ps):SmH (zeY ps):=by
 refine ⟨show SmM zXe from ⟨by decide,by decide⟩,⟨?_,?_⟩,by simp[zeY],by simp[zeY]⟩
 .simp only [zeY,uH,vD];omega
 .intro x hx;simp only[zeY,jA]at hx;obtain ⟨p,hp,rfl⟩:=hx;have hps:=h.2 p (j3 hp);refine ⟨show ztf.length<=1048576 by decide,show SmM zMF from ⟨by decide,by decide⟩,show (rp 8 false).length<=1048576 by decide,⟨?_,?_⟩,by simp[zf1],⟨?_,?_⟩⟩
  .simp only [zf1,uH,vD];omega
  .intro y hy;simp only[zf1,jA]at hy;obtain ⟨q,hq,rfl⟩:=hy;exact ⟨hps.2 q (j3 hq),show zj7.length<=1048576 by decide,show zj7.length<=1048576 by decide,by simp[zet]⟩
  .simp only [zf1,uH,vD];omega
  .intro y hy;simp only[zf1,jA]at hy;obtain ⟨q,hq,rfl⟩:=hy;exact ⟨show (rp 4 false).length<=1048576 by decide,show zj7.length<=1048576 by decide⟩
theorem zEC {c:Host->GAct->Bool}(hc:∀h a,SmH h->c h a=true)(m:Nat):∀(l:List GAct) (i:Nat) (u:Host×List Told),SmH u.1->u.2.length+l.length<=2147483648 ->
 goL (fun (i:Nat) x (t:HSt) κ=>bif ilt (i:Int) (m:Int) then (cond (c (hOf t) x) (cond (few (ln (ap t.1 [zik (hOf t) x]))) (κ (ap t.1 [zik (hOf t) x],(zeb (hOf t) x).Memory,(zeb (hOf t) x).Mons,(zeb (hOf t) x).Buffer,(zeb (hOf t) x).IoBuffer)) none) none) else zxW t) zxW l i (tOf u)=zxW (tOf (zBk (l.take (m-i)) u))
 | [],i,u,_,_=>by simp[goL,zBk]
 | a :: l,i,u,hs,hn=>by
  simp only[qV]at hn;have hf:few (ln (ap u.2 [zik u.1 a]))=true:=zgD (by simp[ap];omega)
  have hh:hOf (tOf u)=u.1:=rfl;have h2:(tOf u).1=u.2:=rfl
  by_cases h:i<m
  .have hi:ilt (i:Int) (m:Int)=true:=qI (by omega)
   simp only[goL,hi,hh,h2,hf,hc _ _ hs,cT];refine (zEC hc m l (i+1) (zeb u.1 a,ap u.2 [zik u.1 a]) (zVU hs) (by simp[ap];omega)).trans ?_
   rw[show m-i=m-(i+1)+1 by omega]
   rfl
  .have hi:ilt (i:Int) (m:Int)=false:=qJ (by omega)
   simp only[goL,hi,cF];rw[show m-i=0 by omega]
   rfl
@[simp] abbrev zsY (ps:List (List (List Ins)))(l:List GAct):Bool:=pc (zHZ ps/\l.length<=1048576)
@[simp] abbrev zsX (ps:List (List (List Ins)))(l:List GAct):Host:=(zxB ps l).1
@[simp] abbrev zB8 (ps:List (List (List Ins)))(l:List GAct):List Told:=(zxB ps l).2
def zwI:Run:=rF2 (dS (.sl (.sl .ins))) (dS .act) fun b c=>(zsY b c,[aH (zsX b c),aS .told (zB8 b c)])
def zz8 (N:Nat)(a0:lQ)(a1:lA):OA:=
 (oN (zvm a0) (iter (σ:=(Int×(lA×(lT×(lM×(lN×(lE×(lE×(lM×(lN×(lE×(lE×Unit)))))))))))) N (fun r3 s4=>let y1:=(ix s4.2.1 s4.1 z7C);let y0:=(⟨s4.2.2.2.2.2.2.2.1,s4.2.2.2.2.2.2.2.2.1,s4.2.2.2.2.2.2.2.2.2.1,s4.2.2.2.2.2.2.2.2.2.2.1⟩:Host);let y3:=(ap s4.2.2.1 [(zls y0 y1)]);let y2:=(zlr y0 y1); (cond (ilt s4.1 (ln s4.2.1)) (cond (ilt s4.1 80) (oN (inb s4.1 (ln s4.2.1)) (oN (zpv y0 y1) (oN (few (ln y3)) (r3 ((zG .i64 s4.1 1),(s4.2.1,(y3,(s4.2.2.2.1,(s4.2.2.2.2.1,(s4.2.2.2.2.2.1,(s4.2.2.2.2.2.2.1,(y2.Memory,(y2.Mons,(y2.Buffer,(y2.IoBuffer,()))))))))))))))) (some [(aH y0),(aS .told s4.2.2.1)])) (some [(aH y0),(aS .told s4.2.2.1)]))) (0,(a1,([],([],([],([],([],((zgg a0).Memory,((zgg a0).Mons,((zgg a0).Buffer,((zgg a0).IoBuffer,())))))))))))))
def zM4:FuncId->Nat->Option Tmpl:=zo [(85,0,{ n:=39,tm:=[(1,.sl 0 []),(4,.lp 0 0),(6,.lp 1 0),(7,.sl 1 []),(8,ti)],lo:=[(0,[.sl 2 [],.sl 3 [],.sl 4 [],.sl 5 []]),(1,[.sl 6 [],.sl 7 [],.sl 8 [],.sl 9 []])],ro:=[(0,.act,false),(1,.told,true),(2,(.sl .int),true),(3,.mon,true),(4,.entry,true),(5,.entry,true),(6,(.sl .int),true),(7,.mon,true),(8,.entry,true),(9,.entry,true)] })]
theorem zMf (a0:List lP)(a1:List GAct)(hc:zsY a0 a1=true):∃N,zz8 N a0 a1=some [aH (zsX a0 a1),aS .told (zB8 a0 a1)]:=by
 obtain ⟨hs,hl1⟩:=zD.1 hc;have hl:=zcP hl1;refine zcd fun N hNN=>?_;unfold zz8 oN
 conv=>zeta
 refine must (zbi hs) ?_;refine (zZ a1 (fun i (t:lT×lM×lN×lE×lE)=>((i:Int),a1,t.1,[],[],[],[],t.2.1,t.2.2.1,t.2.2.2.1,t.2.2.2.2,())) _ (fun i (x:GAct) (t:HSt) κ=>bif ilt (i:Int) ((80:Nat):Int) then (cond (zpv (hOf t) x) (cond (few (ln (ap t.1 [zik (hOf t) x]))) (κ (ap t.1 [zik (hOf t) x],(zeb (hOf t) x).Memory,(zeb (hOf t) x).Mons,(zeb (hOf t) x).Buffer,(zeb (hOf t) x).IoBuffer)) none) none) else zxW t) (fun (t:lT×lM×lN×lE×lE)=>(some [(.agg (zbd (⟨t.2.1,t.2.2.1,t.2.2.2.1,t.2.2.2.2⟩:Host))),(.one (.s .told t.1))])) (fun i hi t rec=>?_) (fun t rec=>?_) _ ([],(zgg a0).Memory,(zgg a0).Mons,(zgg a0).Buffer,(zgg a0).IoBuffer) (hNN hl.1)).trans ?_
 .simp only [zbo hi,zS hi,zbc hi,zV hi hl.1,cT];rfl
 .simp only [zbg,cF]
 exact zEC (fun h a hh=>zbi ((zM h).2 hh)) 80 a1 0 (zeY a0,[]) (zVV hs) (by simpa using hl.2)
theorem zF9:vF 85 zwI:=kF2 zNS zq zbR zcV zM4 zMf
def zFC:zO:=[(85,zwI)]++zYJ
theorem zu7:zF zFC:=zh zF9 zNS
def zH3 (b:Bare)(a:GAct):Bare:=bif ieq a.Kind 1 then zhm b a.G else (cond (ieq a.Kind 2) (chg b a.G (zqU a.X ⟨a.Y,a.Z⟩) (zyo (gAt b a.G) a.X ⟨a.Y,a.Z⟩)) (cond (ieq a.Kind 3) (chg b a.G (hasB a.X 4) (zdz (gAt b a.G) a.X)) (cond (ieq a.Kind 4) (chg b a.G (zqr (gAt b a.G) a.X) (zu3 (gAt b a.G) a.X)) (cond (ieq a.Kind 5) (chg b a.G (zvf (gAt b a.G)) (zvg (gAt b a.G))) (cond (ieq a.Kind 6) (chg b a.G (zfI (gAt b a.G).Pending a.X) (zl2 (gAt b a.G) a.X)) (cond (ieq a.Kind 7) (chg b a.G (zgL ⟨a.X,a.Y,ieq a.Z 1⟩) (zFy (gAt b a.G) ⟨a.X,a.Y,ieq a.Z 1⟩)) (cond (ieq a.Kind 8) (zQa b a.X a.Y a.Z) (cond (ieq a.Kind 9) (zis b a.X) (cond (ieq a.Kind 10) (zkW b) (cond (ieq a.Kind 11) (zWJ b a.G a.X a.Y) (b)))))))))))
def zH4 (b:Bare)(a:GAct):Told:=bif ieq a.Kind 1 then ⟨zkg b a.G,0⟩ else (cond (ieq a.Kind 2) ⟨zbM b a.G (zqU a.X ⟨a.Y,a.Z⟩),0⟩ (cond (ieq a.Kind 3) ⟨zbM b a.G (hasB a.X 4),0⟩ (cond (ieq a.Kind 4) ⟨zbM b a.G (zqr (gAt b a.G) a.X),0⟩ (cond (ieq a.Kind 5) ⟨zbM b a.G (zvf (gAt b a.G)),0⟩ (cond (ieq a.Kind 6) ⟨zbM b a.G (zfI (gAt b a.G).Pending a.X),0⟩ (cond (ieq a.Kind 7) ⟨zbM b a.G (zgL ⟨a.X,a.Y,ieq a.Z 1⟩),0⟩ (cond (ieq a.Kind 8) ⟨zwl b a.X a.Y a.Z,0⟩ (cond (ieq a.Kind 9) ⟨zey b a.X,0⟩ (cond (ieq a.Kind 10) ⟨zkd b,zqq b⟩ (cond (ieq a.Kind 11) ⟨zxn b a.G a.X a.Y,0⟩ (⟨zmS b a.G a.X 1,zQe b a.G a.X⟩)))))))))))
def zH5 (l:List Bare)(a:GAct):List Bare:=bif win a.Kind 1 17 then (cond (win a.Kind 13 17) l (cond (hasB a.M (ln l)) (up l a.M (zH3 (ix l a.M zTE) a)) l)) else l
def zWk (l:List Bare)(a:GAct):Told:=bif win a.Kind 1 17 then (cond (win a.Kind 13 17) ⟨false,0⟩ (cond (hasB a.M (ln l)) (zH4 (ix l a.M zTE) a) (cond (ieq a.Kind 10) ⟨false,-1⟩ ⟨false,0⟩))) else ⟨false,0⟩
theorem zy {i n:Int}:hasB i n=true↔0<=i/\i<n:=by unfold hasB;exact decide_eq_true_iff
theorem zcq {x a b:Int}:win x a b=true↔a<=x/\x<=b:=by simp[win,ige,ile]
theorem zbh {x y:Int}:ieq x y=true↔x=y:=by simp[ieq]
theorem zrO {x y:Int}:ine x y=true↔x≠y:=by simp[ine]
theorem zbJ {x y:Int}:ieq x y=false↔x≠y:=by simp[ieq]
theorem zbT {a b:Bool}:(cond a b false)=true↔a=true/\b=true:=by cases a<;>simp
theorem zbB {α:Type}(l:List α)(i:Int)(x:α):(up l i x).length=l.length:=by simp[up]
theorem zdr {α:Type}(l:List α)(i:Int)(x:α):ln (up l i x)=ln l:=by simp[up,ln]
theorem zxT {α:Type}{l:List α}{i:Int}(h:hasB i (ln l)=true)(d:α):∃k:Nat,∃hk:k<l.length,i=(k:Int)/\ix l i d=l[k]:=by
 rw[zy]at h;unfold ln at h;refine ⟨i.toNat,by omega,by omega,?_⟩
 simp[ix,List.getD,qB (show i.toNat<l.length by omega)]
theorem zjF {α:Type}{l:List α}{k:Nat}(h:k<l.length)(d:α):ix l (k:Int) d=l[k]:=by
 simp[ix,List.getD,qB h]
theorem zkr {α:Type}{l:List α}{i:Int}(h:hasB i (ln l)=true)(d:α):ix l i d∈l:=by
 obtain ⟨k,hk,_,e⟩:=zxT h d;rw[e];exact jG hk
theorem zJJ {α:Type}{l:List α}{x:α}(h:x∈l)(d:α):∃i,hasB i (ln l)=true/\ix l i d=x:=by
 obtain ⟨k,hk,e⟩:=List.mem_iff_getElem.1 h;exact ⟨(k:Int),zy.2 (by unfold ln;omega),(zjF hk d).trans e⟩
theorem zW {α:Type}{l:List α}{i:Int}(h:hasB i (ln l)=true)(x d:α):ix (up l i x) i d=x:=by
 rw[zy]at h;unfold ln at h;simp[ix,up,List.getD,show i.toNat<l.length by omega]
theorem zbl {α:Type}{l:List α}{i j:Int}(hi:0<=i)(hj:0<=j)(h:i≠j)(x d:α):ix (up l i x) j d=ix l j d:=by
 have:i.toNat≠j.toNat:=by omega
 simp[ix,up,List.getD,jD,this]
theorem z0x {α:Type}(l:List α)(i:Int)(x y:α):up (up l i x) i y=up l i y:=by simp[up]
theorem zMx {α:Type}{l m:List α}(d:α)(h:l.length=m.length)(e:∀i,hasB i (ln l)=true->ix l i d=ix m i d):l=m:=by
 refine List.ext_getElem h fun k h1 h2=>?_;have:=e (k:Int) (zy.2 (by unfold ln;omega))
 rwa [zjF h1,zjF h2] at this
theorem zHd {α:Type}{l:List α}{i:Int}(h:hasB i (ln l)=true)(d:α):up l i (ix l i d)=l:=by
 obtain ⟨k,hk,rfl,e⟩:=zxT h d;rw[e];simp[up]
def cPg (x:Mon)(q:Int):Nat:=x.Outer.countP fun s=>ieq s.Page q
def zd6 (l:List Mon)(q:Int):Nat:=(l.map fun x=>cPg x q).sum
theorem zNH {α:Type}(P:α->Bool){l:List α}{i:Int}(h:hasB i (ln l)=true)(x d:α):(up l i x).countP P+(if P (ix l i d) then 1 else 0)=l.countP P+(if P x then 1 else 0):=by
 obtain ⟨k,hk,rfl,e⟩:=zxT h d;rw[e];simp only[up,kW,List.countP_set hk];have:(if P l[k]=true then 1 else 0)<=l.countP P:=by
  split
  .rename_i hp;exact uX.2 ⟨l[k],jG hk,hp⟩
  .omega
 omega
theorem zw5 {l:List Mon}{m:Int}(h:hasB m (ln l)=true)(x:Mon)(q:Int):zd6 (up l m x) q+cPg (ix l m mZ) q=zd6 l q+cPg x q:=by
 obtain ⟨k,hk,rfl,e⟩:=zxT h mZ;rw[e]
 clear h e
 unfold up;simp only[kW]
 induction l generalizing k with
 | nil=>simp at hk
 | cons y l ih =>
  cases k with
  | zero=>simp[zd6];omega
  | succ k =>
   have:=ih k (by simpa using hk)
   simp[zd6] at this ⊢;omega
theorem zFu {l:List Mon}{m p:Int}(hm:hasB m (ln l)=true)(hp:hasB p (ln (ix l m mZ).Outer)=true):1<=zd6 l (ix (ix l m mZ).Outer p sZ).Page:=by
 have h1:1<=cPg (ix l m mZ) (ix (ix l m mZ).Outer p sZ).Page:=uX.2 ⟨_,zkr hp sZ,by simp[ieq]⟩
 have:=zw5 hm (⟨[],[],[],[],[],0,0,[],0⟩:Mon) (ix (ix l m mZ).Outer p sZ).Page;have e0:cPg (⟨[],[],[],[],[],0,0,[],0⟩:Mon) (ix (ix l m mZ).Outer p sZ).Page=0:=rfl;omega
theorem z0L {l:List Mon}{m p n k:Int}{q:Int}(hm:hasB m (ln l)=true)(hp:hasB p (ln (ix l m mZ).Outer)=true)(hn:hasB n (ln l)=true)(hk:hasB k (ln (ix l n mZ).Outer)=true)(e1:(ix (ix l m mZ).Outer p sZ).Page=q)(e2:(ix (ix l n mZ).Outer k sZ).Page=q)(h:zd6 l q<=1):m=n/\p=k:=by
 have hm':=zy.1 hm;have hn':=zy.1 hn;have hp':=zy.1 hp;have hk':=zy.1 hk;have hne:¬ ieq q (q+1)=true:=by simp[ieq];omega
 obtain ⟨y,hy⟩:∃y:Mon,y.Outer=up (ix l m mZ).Outer p ⟨q+1,0⟩:=⟨{ ix l m mZ with Outer:=up (ix l m mZ).Outer p ⟨q+1,0⟩ },rfl⟩;have c1:=zNH (fun s=>ieq s.Page q) hp (⟨q+1,0⟩:Slot) sZ;simp only[e1,show ieq q q=true by simp[ieq],show ieq (q+1) q=false by simp[ieq];omega,if_true,kD,if_false] at c1
 have s1:=zw5 hm y q;simp only[cPg,hy] at s1;have hz:zd6 (up l m y) q=0:=by omega
 apply Classical.byContradiction;intro hc;have hpos:1<=zd6 (up l m y) q:=by
  by_cases hmn:m=n
  .subst hmn;have hpk:p≠k:=fun e=>hc ⟨rfl,e⟩;have:=zFu (l:=up l m y) (m:=m) (p:=k) (by rw[zdr];exact hm) (by rw[zW hm,hy,zdr];exact hk)
   rw[zW hm,hy,zbl hp'.1 hk'.1 hpk,e2] at this;exact this
  .have:=zFu (l:=up l m y) (m:=n) (p:=k) (by rw[zdr];exact hn) (by rw[zbl hm'.1 hn'.1 hmn];exact hk)
   rw[zbl hm'.1 hn'.1 hmn,e2] at this;exact this
 omega
theorem zr2 {a b c:Bool}:(cond a b c)=true↔(a=true/\b=true)\/(a=false/\c=true):=by cases a<;>simp
def SOk (s:Slot):Prop:=s=noSlot\/(0<=s.Page/\s.Page<=11/\1<=s.Rights/\s.Rights<=3)
theorem zSU {a b:Slot}(h1:a.Page=b.Page)(h2:a.Rights=b.Rights):a=b:=by
 cases a;cases b;simp_all
theorem ziz {a b:Slot}:zcg a b=true↔a=b:=by
 simp only[zcg,qD,zbh];exact ⟨fun h=>zSU h.1 h.2,fun h=>by rw[h];exact ⟨rfl,rfl⟩⟩
theorem zqg {a b:Slot}:zcg a b=false↔a≠b:=by
 rw[<- vE,ziz]
theorem zVO {s:Slot}:zdd s 12=true↔SOk s:=by
 unfold zdd SOk;rw[zr2,ziz,zqg];have:wsub .i64 12 1=11:=by decide
 simp only[this,zr2,zcq];simp[igt];constructor
 .rintro (h|⟨h,⟨h1,h2⟩,h3⟩)
  .exact .inl h
  .exact .inr ⟨h1,h2,h3⟩
 .intro h
  by_cases hs:s=noSlot
  .exact .inl hs
  .rcases h with h|⟨h1,h2,h3⟩
   .exact .inl h
   .exact .inr ⟨hs,⟨h1,h2⟩,h3⟩
theorem SOk.none {s:Slot}(h:SOk s)(hp:s.Page = -1):s=noSlot:=by
 rcases h with h|h
 .exact h
 .omega
theorem SOk.pos {s:Slot}(h:SOk s)(hp:s.Page≠-1):0<=s.Page/\s.Page<=11/\1<=s.Rights/\s.Rights<=3:=by
 rcases h with h|h
 .rw [h]at hp;exact absurd rfl hp
 .exact h
structure MOk (x:Mon):Prop where
 g1:1<=x.Guests.length
 g2:x.Guests.length<=2
 gt:x.Tables.length=x.Guests.length
 o8:x.Outer.length=8
 sl:∀s∈x.Outer,SOk s
 u8:x.Out.length=8
 d8:x.Dirty.length=8
 outs:x.Outs.length<=40
 pend:zcN x.Pending=true
 tr:win x.Traps 0 3=true
 own:win x.Own 0 1000000000=true
 gs:∀g∈x.Guests,zcX g=true
 fit:∀p,hasB p 8=true->zkx (ix x.Outer p sZ) (ix x.Out p [])=true
theorem zFr {P:Nat->Bool}:∀{n i:Nat},zkX P n i=true↔∀j,i<=j->j<i+n->P j=true
 | 0,i=>by simp[zkX];intro j h1 h2;omega
 | n+1,i=>by
  rw[zkX,qD,zFr];constructor
  .rintro ⟨h1,h2⟩ j hj1 hj2
   by_cases e:j=i
   .rw [e];exact h1
   .exact h2 j (by omega) (by omega)
  .intro h;exact ⟨h i (by omega) (by omega),fun j h1 h2=>h j (by omega) (by omega)⟩
theorem zpN {t:List Slot}{n p:Int}:zcn t n p=true↔(∀s∈t,zdd s p=true)/\ln t=n:=by
 unfold zcn;rw[zbT,qL,zbh]
theorem z5m {x:Mon}:zdp x=true↔MOk x:=by
 unfold zdp;simp only[zbT,zcq,zbh,zpN,zFr,qL,ile,qU];constructor
 .rintro ⟨⟨h1,h2⟩,h3,⟨h4,h5⟩,h6,h7,h8,h9,h10,h11,h12,h13⟩
  unfold ln at *;refine ⟨by omega,by omega,by omega,by omega,fun s hs=>zVO.1 (h4 s hs),by omega,by omega,by omega,h9,zcq.2 h10,zcq.2 h11,h12,fun p hp=>?_⟩
  have hp':=zy.1 hp;have:=h13 p.toNat (by omega) (by omega)
  unfold fits at this
  rwa [show ((p.toNat:Nat):Int)=p by omega] at this
 .intro h;obtain ⟨h1,h2,h3,h4,h5,h6,h7,h8,h9,h10,h11,h12,h13⟩:=h;unfold ln;exact ⟨⟨by omega,by omega⟩,by omega,⟨fun s hs=>zVO.2 (h5 s hs),by omega⟩,by omega,by omega,by omega,h9,zcq.1 h10,zcq.1 h11,h12,fun j h1 h2=>h13 (j:Int) (zy.2 (by omega))⟩
theorem zid (o:List Slot)(s:Slot)(q:Int):(s :: o).countP (fun s=>ieq s.Page q)=o.countP (fun s=>ieq s.Page q)+if s.Page=q then 1 else 0:=by
 rw[uR];simp[ieq]
theorem zyu:∀{o:List Slot} {u:List Bool},(∀s∈o,s.Page<u.length) ->
 (∀u',zfL o u=some u'↔(∀q,0<=q->o.countP (fun s=>ieq s.Page q)+(if ix u q false then 1 else 0)<=1) /\
  u'=(o.foldl (fun u s=>bif ilt s.Page 0 then u else up u s.Page true) u))
 | [],u,h,u'=>by
  simp[zfL];exact ⟨fun h=>⟨fun q _=>by split<;>omega,h.symm⟩,fun h=>h.2.symm⟩
 | s :: o,u,h,u'=>by
  unfold zfL
  by_cases hs:s.Page<0
  .have hl:ilt s.Page 0=true:=qI hs;rw[hl,cond_true,zyu (fun y hy=>h y (qY _ hy))];simp only[uG,hl,cond_true];refine and_congr (forall_congr' fun q=>forall_congr' fun hq=>?_) Iff.rfl;have e:(if s.Page=q then 1 else 0)=0:=if_neg (by omega)
   rw[zid,e,kH]
  .have hl:ilt s.Page 0=false:=qJ hs;have hlt:=h s jI;have hb:hasB s.Page (ln u)=true:=zy.2 ⟨by omega,by unfold ln;omega⟩
   rw[hl,cond_false];cases hu:ix u s.Page false with
   | true =>
    rw[cond_true];constructor
    .intro h;cases h
    .rintro ⟨h,_⟩
     have:=h s.Page (by omega)
     rw[zid,if_pos rfl,hu] at this;simp at this
   | false =>
    rw[cond_false,zyu (fun y hy=>by rw[zbB];exact h y (qY _ hy))]
    simp only[uG,hl,cond_false];refine and_congr (forall_congr' fun q=>forall_congr' fun hq=>?_) Iff.rfl;rw[zid]
    by_cases hq2:s.Page=q
    .subst hq2;rw[zW hb,hu];simp
    .rw [zbl (by omega) hq hq2,if_neg hq2,kH]
theorem zHe:∀(o:List Slot) (u:List Bool),(o.foldl (fun u s=>bif ilt s.Page 0 then u else up u s.Page true) u).length=u.length
 | [],u=>rfl
 | s :: o,u=>by
  rw[uG,zHe];cases ilt s.Page 0<;>simp [zbB]
theorem zNb:∀(o:List Slot) (u:List Bool) (q:Int),0<=q->(∀s∈o,s.Page<u.length)->(ix (o.foldl (fun u s=>bif ilt s.Page 0 then u else up u s.Page true) u) q false=true↔ix u q false=true\/1<=o.countP (fun s=>ieq s.Page q))
 | [],u,q,hq,h=>by simp
 | s :: o,u,q,hq,h=>by
  rw[uG,zNb _ _ q hq (fun y hy=>by have:=h y (qY _ hy);cases ilt s.Page 0<;>simpa [zbB] using this),zid]
  by_cases hs:s.Page<0
  .rw [show ilt s.Page 0=true from qI hs,cond_true,if_neg (by omega),kH]
  .rw [show ilt s.Page 0=false from qJ hs,cond_false]
   have hlt:=h s jI;have hb:hasB s.Page (ln u)=true:=zy.2 ⟨by omega,by unfold ln;omega⟩
   by_cases hq2:s.Page=q
   .subst hq2;rw[zW hb];simp
   .rw [zbl (by omega) hq hq2,if_neg hq2,kH]
theorem zxA:∀{l:List Mon} {u:List Bool},u.length=12->(zgE l u=true↔(∀x∈l,MOk x)/\∀q,0<=q->zd6 l q+(if l≠[]/\ix u q false then 1 else 0)<=1)
 | [],u,hu=>by simp[zgE,zd6]
 | x :: l,u,hu=>by
  unfold zgE;rw[zbT,z5m];constructor
  .rintro ⟨h1,h2⟩
   have hp:∀s∈x.Outer,s.Page<u.length:=fun s hs=>by
    rcases h1.sl s hs with h|h
    .rw [h,hu];decide
    .rw [hu];omega
   split at h2
   .rename_i u' hu';obtain ⟨h3,rfl⟩:=(zyu hp u').1 hu';rw[zxA (by rw[zHe,hu])]at h2
    obtain ⟨h4,h5⟩:=h2;refine ⟨by simpa using ⟨h1,h4⟩,fun q hq=>?_⟩
    have h6:=h3 q hq;have h7:=h5 q hq;have h8:=zNb x.Outer u q hq hp;simp only[zd6,jB,uE]at h7 ⊢;unfold cPg at h7 ⊢;simp only[ne_eq,reduceCtorEq,not_false_eq_true,true_and]
    by_cases hl:l=[]
    .subst hl;simpa using h6
    .simp only [hl,ne_eq,not_false_eq_true,true_and]at h7
     by_cases hc:ix (x.Outer.foldl (fun u s=>bif ilt s.Page 0 then u else up u s.Page true) u) q false=true
     .rw [if_pos hc]at h7;omega
     .rw [if_neg hc]at h7;have h9:¬ (ix u q false=true\/1<=x.Outer.countP (fun s=>ieq s.Page q)):=fun e=>hc (h8.2 e);rw[not_or]at h9;rw[if_neg h9.1];omega
   .cases h2
  .rintro ⟨h1,h2⟩
   have hx:MOk x:=h1 x jI;refine ⟨hx,?_⟩;have hp:∀s∈x.Outer,s.Page<u.length:=fun s hs=>by
    rcases hx.sl s hs with h|h
    .rw [h,hu];decide
    .rw [hu];omega
   have hu':=(zyu hp _).2 ⟨fun q hq=>by
    have:=h2 q hq;simp only[zd6,jB,uE,ne_eq,reduceCtorEq,not_false_eq_true,true_and] at this;unfold cPg at this;omega,rfl⟩
   rw[hu'];simp only;rw[zxA (by rw[zHe,hu])]
   refine ⟨fun y hy=>h1 y (qY _ hy),fun q hq=>?_⟩;have h3:=h2 q hq;have h8:=zNb x.Outer u q hq hp;simp only[zd6,jB,uE,ne_eq,reduceCtorEq,not_false_eq_true,true_and]at h3 ⊢;unfold cPg at h3 ⊢;split
   .rename_i hc;rcases h8.1 hc.2 with h|h
    .rw [if_pos h]at h3;omega
    .omega
   .omega
structure HOk (h:Host):Prop where
 m12:h.Memory.length=12
 pgs:∀c∈h.Memory,zb5 c=true
 n1:1<=h.Mons.length
 n3:h.Mons.length<=3
 b1:zez h.Buffer=true
 b2:zez h.IoBuffer=true
 mons:∀x∈h.Mons,MOk x
 uq:∀q,0<=q->zd6 h.Mons q<=1
theorem zhL {h:Host}:zbI h=true↔HOk h:=by
 unfold zbI zgM;simp only[zbT,zcq,zbh,qL];rw[zxA (by simp[rp])]
 have h0:∀q,ix (rp 12 false) q false=false:=fun q=>by
  unfold ix rp;rw[j9,kE];split<;>rfl
 simp only[h0,kD,and_false,if_false,kH];unfold ln;constructor
 .rintro ⟨⟨h1,h2⟩,⟨h3,h4⟩,h5,h6,h7,h8⟩
  exact ⟨by omega,h1,by omega,by omega,h5,h6,h7,h8⟩
 .rintro ⟨h1,h2,h3,h4,h5,h6,h7,h8⟩
  exact ⟨⟨h2,by omega⟩,⟨by omega,by omega⟩,h5,h6,h7,h8⟩
theorem HOk.mon {h:Host}(H:HOk h){m:Int}(hm:hasB m (ln h.Mons)=true):MOk (ix h.Mons m mZ):=H.mons _ (zkr hm _)
theorem MOk.hasO {x:Mon}(H:MOk x){p:Int}(hp:hasB p 8=true):hasB p (ln x.Outer)=true:=by rw[ln,H.o8];exact hp
theorem MOk.hasU {x:Mon}(H:MOk x){p:Int}(hp:hasB p 8=true):hasB p (ln x.Out)=true:=by rw[ln,H.u8];exact hp
theorem MOk.hasD {x:Mon}(H:MOk x){p:Int}(hp:hasB p 8=true):hasB p (ln x.Dirty)=true:=by rw[ln,H.d8];exact hp
theorem MOk.slot {x:Mon}(H:MOk x){p:Int}(hp:hasB p 8=true):SOk (ix x.Outer p sZ):=H.sl _ (zkr (H.hasO hp) _)
theorem HOk.uniq {h:Host}(H:HOk h){m p n k q:Int}(hm:hasB m (ln h.Mons)=true)(hp:hasB p 8=true)(hn:hasB n (ln h.Mons)=true)(hk:hasB k 8=true)(e1:(ix (ix h.Mons m mZ).Outer p sZ).Page=q)(e2:(ix (ix h.Mons n mZ).Outer k sZ).Page=q)(hq:0<=q):m=n/\p=k :=
 z0L hm ((H.mon hm).hasO hp) hn ((H.mon hn).hasO hk) e1 e2 (H.uq q hq)
theorem HOk.up {h:Host}(H:HOk h){m:Int}(hm:hasB m (ln h.Mons)=true){x:Mon}(hx:MOk x){h':Host}(e:h'.Mons=up h.Mons m x)(m12:h'.Memory.length=12)(pgs:∀c∈h'.Memory,zb5 c=true)(b1:zez h'.Buffer=true)(b2:zez h'.IoBuffer=true)(uq:∀q,0<=q->cPg x q<=cPg (ix h.Mons m mZ) q\/zd6 h.Mons q=0/\cPg x q<=1):HOk h':=by
 refine ⟨m12,pgs,by rw[e,zbB];exact H.n1,by rw[e,zbB];exact H.n3,b1,b2,fun y hy=>?_,fun q hq=>?_⟩
 .rw [e]at hy;unfold E.up at hy;rcases qZ hy with h|h
  .exact H.mons y h
  .rw [h];exact hx
 .rw [e];have h1:=zw5 hm x q;have h2:=H.uq q hq;have h3:=uq q hq;omega
end
end Go.Proofs.YtdaahiceaagpdaaGreat.E
