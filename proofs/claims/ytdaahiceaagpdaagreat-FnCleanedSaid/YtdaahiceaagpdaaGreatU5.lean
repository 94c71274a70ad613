/- What is proved here: a part of the proof that the statement of this claim holds (several texts of wip/, laid together). -/
import Derived.Test.YtdaahiceaagpdaaGreatU4
namespace Go.Proofs.YtdaahiceaagpdaaGreat.E
open Go
set_option linter.unusedVariables false
set_option maxRecDepth 100000
set_option linter.unusedSimpArgs false
set_option linter.unusedSectionVars false
noncomputable section
abbrev gZ:Guest:=Ty.dflt .guest
def zbI (h:Host)(m g:Int):Bool:=bif zbJ h then (cond (hasB m (ln h.Mons)) (hasB g (ln (ix h.Mons m mZ).Guests)) false) else false
@[simp] abbrev zgi (h:Host)(m g:Int):Bool:=pc (zbA h)
@[simp] abbrev zh1 (h:Host)(m g:Int):Bool:=zbI h m g
def zE2:Run:=rF3 dH dI dI fun b c d=>(zgi b c d,[aB (zh1 b c d)])
def zNz (N:Nat)(a0:Host)(a1 a2:Int):OA:=
 let y0:=(wsub .i64 (ln (ix a0.Mons a1 zf).Guests) 1); (oN (zeQ a0) (cond (zeP a0) (oN (zI a1 0 (wsub .i64 (ln a0.Mons) 1)) (cond (zK a1 0 (wsub .i64 (ln a0.Mons) 1)) (oN (inb a1 (ln a0.Mons)) (oN (zI a2 0 y0) (some [(aB (zK a2 0 y0))]))) oF)) oF))
theorem zUB (a0:Host)(a1 a2:Int)(hc:zgi a0 a1 a2=true):∃N,zNz N a0 a1 a2=some [aB (zh1 a0 a1 a2)]:=by
 have hs:=(zM a0).1 (zC.1 hc);refine ⟨0,?_⟩;unfold zNz zh1 zbI oN
 conv=>zeta
 refine must rfl ?_;rw[show zeP a0=zbJ a0 from rfl]
 cases hh:zbJ a0
 .rfl
 .rw [show zK a1 0 (wsub .i64 (ln a0.Mons) 1)=hasB a1 (ln a0.Mons) from zo3 hs.2.1.1 a1]
  refine must rfl (must rfl ?_);cases h1:hasB a1 (ln a0.Mons)
  .rfl
  .have hg:(ix a0.Mons a1 mZ).Guests.length<=1048576:=(hs.2.1.2 _ (zbr h1 _)).2.2.2.1.1;rw[show zK a2 0 (wsub .i64 (ln (ix a0.Mons a1 zf).Guests) 1)=hasB a2 (ln (ix a0.Mons a1 mZ).Guests) from zo3 hg a2]
   exact must rfl (must (zB h1) (must rfl rfl))
theorem zO2:vF 251 zE2:=kF3 zhn zu zb9 zMR (zo []) zUB
def zcc (h:Host)(m:Int):Nat->Nat->List (List Int)
 | 0,_=>[]
 | n+1,i=>zbR h m (i:Int) :: zcc h m n (i+1)
theorem zxM (h:Host)(m:Int):∀(n i:Nat),(zcc h m n i).length=n
 | 0,_=>rfl
 | n+1,i=>by simp[zcc,zxM h m n]
def zA (h:Host)(m:Int):Bare:=bif hasB m (ln h.Mons) then ⟨zcc h m 8 0,(ix h.Mons m mZ).Guests,(ix h.Mons m mZ).Outs,(ix h.Mons m mZ).Pending⟩ else ⟨[],[],[],0⟩
theorem zN4 {ρ:Type}(h:Host)(m:Int)(K:List (List Int)->Option ρ):∀(n i:Nat) (acc:List (List Int)),acc.length+n<=2147483648 ->
 goN (fun i acc κ=>bif few (ln (ap acc [zbR h m (i:Int)])) then κ (ap acc [zbR h m (i:Int)]) else none) K n i acc=K (acc++zcc h m n i)
 | 0,_,acc,_=>by simp[goN,zcc]
 | n+1,i,acc,hl=>by
  simp only[goN,zcc];rw[zfU (by simp[ap];omega),cT,zN4 h m K n (i+1) _ (by simp[ap];omega)]
  simp[ap]
def z3l:zO:=[(251,zE2)]++zpa
theorem z03:zF z3l:=zh zO2 zhn
theorem zUO:zb6 zyc=true:=by decide
theorem zVo {p:Nat->Bool}:∀{n i q:Nat},zmU p n i=true->i<=q->q<i+n->p q=true
 | 0,i,q,_,h1,h2=>by omega
 | n+1,i,q,h,h1,h2=>by
  simp only[zmU,qD]at h
  by_cases he:i=q
  .subst he;exact h.1
  .exact zVo h.2 (by omega) (by omega)
theorem zZN {h:Host}{m:Int}(hh:zbJ h=true)(hm:hasB m (ln h.Mons)=true){p:Int}(hp:hasB p 8=true):zb6 (zbR h m p)=true:=by
 have hk:=zf8 hh _ (zbr hm mZ);have hsh:=zGI hk;have hmem:h.Memory.all zb6=true:=by
  unfold zbJ at hh;simp only[zcM]at hh;have h1:=hh.1;unfold zgL at h1;simp only[zcM]at h1;exact h1.1
 unfold zbR;rw[hm,hp];simp only[cT];have hsl:zbm (ix h.Mons m mZ).Outer p=ix (ix h.Mons m mZ).Outer p sZ:=by
  unfold zbm;rw[zda hsh.1 hp];rfl
 rw[hsl];have hAt:∀(mm:List (List Int)) (q:Int),(hasB q (ln mm)=true->zb6 (ix mm q [])=true)->zb6 (zb8 mm q)=true:=by
  intro mm q hq;unfold zb8;cases h1:hasB q (ln mm)
  .exact zUO
  .exact hq h1
 cases hpg:ine (ix (ix h.Mons m mZ).Outer p sZ).Page (-1)
 .refine hAt _ _ (fun hq=>?_);obtain ⟨q,rfl,hq8⟩:=zc9 (n:=8) hp;have hfit:fits (ix h.Mons m mZ) q=true:=by
   unfold zdD at hk;simp only[zcM]at hk;exact zVo hk.2.2.2.2.2.2.2.2.2.2 (by omega) (by omega)
  unfold fits zkB at hfit;have hno:zcq (ix (ix h.Mons m mZ).Outer (q:Int) sZ) noSlot=true:=by
   rw[(zrt (zf8 hh _ (zbr hm mZ)) hp).no];rw[zmx]at hpg;cases h1:ieq (ix (ix h.Mons m mZ).Outer (q:Int) sZ).Page (-1)
   .rw [h1]at hpg;cases hpg
   .rfl
  rw[hno]at hfit;exact hfit
 .exact hAt _ _ (fun hq=>qM.1 hmem _ (zbr hq _))
theorem zOk {h:Host}{m:Int}(hh:zbJ h=true)(hm:hasB m (ln h.Mons)=true):∀(n i:Nat),i+n<=8->(zcc h m n i).all zb6=true
 | 0,_,_=>rfl
 | n+1,i,hi=>by
  simp only[zcc,uE,qD];exact ⟨zZN hh hm (qK (by omega)),zOk hh hm n (i+1) (by omega)⟩
theorem zEm {h:Host}{m:Int}(hh:zbJ h=true)(hm:hasB m (ln h.Mons)=true):zbX (zA h m)=true:=by
 have hk:=zf8 hh _ (zbr hm mZ);unfold zdD at hk;simp only[zcM]at hk;unfold zA zbX zgL;rw[hm];simp only[cT,hk.2.2.2.2.2.2.2.2.2.1,zOk hh hm 8 0 (by decide),ln,zxM]
 simp only[ln]at hk;rw[hk.1,hk.2.2.2.2.2.1,hk.2.2.2.2.2.2.1];rfl
def zlJ:zO:=z3l
theorem zho:zF zlJ:=z03
def zdG (l:List Mon):List (List Guest):=l.map fun x=>x.Guests
theorem zxp {l:List Mon}{m:Int}{x:Mon}(hm:hasB m (ln l)=true)(hx:x.Guests=(ix l m mZ).Guests):zdG (up l m x)=zdG l:=by
 obtain ⟨k,rfl,hk⟩:=zc9 (n:=l.length) hm;unfold zdG up;rw[List.map_set,kW,hx,zZ hk];have:=@uX _ (l.map fun x=>x.Guests) k (by simpa using hk)
 simpa using this
theorem zIs {l l':List Mon}(h:zdG l'=zdG l)(m:Int):(ix l' m mZ).Guests=(ix l m mZ).Guests:=by
 unfold zdG at h;have h2:(l'.map fun x=>x.Guests)[m.toNat]?=(l.map fun x=>x.Guests)[m.toNat]?:=by rw[h]
 rw[qN,qN]at h2;unfold ix;simp only[j9];cases h3:l'[m.toNat]? <;> cases h4:l[m.toNat]? <;> rw [h3,h4]at h2<;>simp at h2 ⊢;exact h2
theorem zxo {h:Host}{m p:Int}{s:Slot}(hm:hasB m (ln h.Mons)=true):zdG (zbL h m p s).Mons=zdG h.Mons:=by
 rw[(zfB h m p s).1];exact zxp hm rfl
theorem z4O {h:Host}{m p:Int}(hm:hasB m (ln h.Mons)=true):zdG (zc0 h m p).Mons=zdG h.Mons:=(zxo (h:=zeh h m p) (zd7 hm)).trans (zxp hm rfl)
theorem z4N {h:Host}(hf:Fit h):zdG (zcK h).Mons=zdG h.Mons:=by
 unfold zcK;cases h0:ieq (ln (zb1 h)) 0
 .rfl
 .exact z4O (zCG hf h0).1
theorem zW3 {h:Host}{m p:Int}(hf:Fit h)(hm:hasB m (ln h.Mons)=true):zdG (fetched h m p).Mons=zdG h.Mons:=by
 have hr:=zoH hf hm;exact ((zxo (h:=landing (zcK h) m p (ix (zb1 (zcK h)) 0 0)) (zd7 hr)).trans (zxp hr rfl)).trans (z4N hf)
theorem zRl {h:Host}{m p n:Int}(hm:hasB m (ln h.Mons)=true):zdG (zit h m p n).Mons=zdG h.Mons:=by
 have hd:zdG (zbu h m p).Mons=zdG h.Mons:=zxp hm rfl;unfold zit;cases ieq (wand .i64 n 2) 0
 .unfold opened;cases ieq (wand .i64 (ix (ix (zbu h m p).Mons m mZ).Outer p sZ).Rights 2) 0
  .exact hd
  .exact (zxo (h:=zbu h m p) (zd7 hm)).trans hd
 .rfl
theorem zZc {h:Host}{m p n:Int}(hf:Fit h)(hm:hasB m (ln h.Mons)=true)(hp:hasB p 8=true):zdG (mended h m p n).Mons=zdG h.Mons:=by
 unfold mended;cases ieq (ix (ix h.Mons m mZ).Outer p sZ).Page (-1)
 .exact zRl hm
 .exact (zRl (ziV hf hm hp).2).trans (zW3 hf hm)
theorem z6m {l l':List Mon}(h:zdG l'=zdG l):l'.length=l.length:=by
 have:=congrArg List.length h;simpa [zdG] using this
abbrev kZ:Kept:=Ty.dflt .kept
theorem z7e {x:Guest}(hk:zcT x=true){p n:Int}(hw:ze0 x.Live p n=true):hasB (zcj x.Live p n) 8=true:=by
 have ht:zcw x.Live 4 8=true:=by
  unfold zcT at hk;simp only[qD]at hk;exact hk.2.2.2.2.1
 unfold zcj;rw[hw];simp only[cT];unfold ze0 at hw;cases h1:ieq (zbm x.Live p).Page (-1)
 .unfold zbm at h1 ⊢;cases h2:hasB p (ln x.Live)
  .rw [h2]at h1;cases h1
  .rw [h2]at h1;simp only[cT]at h1 ⊢;unfold zcw at ht;simp only[zcM]at ht;have hs:=qM.1 ht.1 _ (zbr h2 sZ);unfold zde at hs;cases h3:zcq (ix x.Live p sZ) noSlot
   .rw [h3]at hs;simp only[cF,zcM]at hs;have:=zfS.1 hs.2.1;rw[show wsub .i64 8 1=7 from rfl] at this
    show hasB (ix x.Live p sZ).Page 8=true
    exact qK (by omega)
   .unfold zcq at h3;rw[qD]at h3;have:(ix x.Live p sZ).Page = -1:=qE h3.1;rw[show ieq (ix x.Live p zJ).Page (-1)=true from qK this]at h1
    cases h1
 .rw [h1]at hw;cases hw
def zcs (h:Host)(m g:Int):List Slot:=(ix (ix h.Mons m mZ).Guests g gZ).Live
def zce (h:Host)(m g:Int):Kept:=ix (ix h.Mons m mZ).Tables g kZ
def zp3 (b:List Entry)(m g page:Int):Option Entry:=zCw b (zel m g) page
def zgR (b:List Entry)(m g page need:Int):Bool:=bif (zp3 b m g page).isSome then enough ((zp3 b m g page).getD ⟨0,0,0,0⟩).Rights need else false
def zeu (h:Host)(m g page need:Int):Bool:=bif zjN (zce h m g) page then (cond (ieq (zeH (zce h m g) page).Page (-1)) true (!enough (zeH (zce h m g) page).Rights need)) else true
def zdj (h:Host)(m g page:Int):Host:={ h with Mons:=up h.Mons m { ix h.Mons m mZ with Tables:=up (ix h.Mons m mZ).Tables g (filled (zce h m g) (zcs h m g) (ix h.Mons m mZ).Outer page) } }
def zQd (h:Host)(m g page:Int):Entry:=⟨zel m g,page,(zeH (zce h m g) page).Page,(zeH (zce h m g) page).Rights⟩
def ztS (h:Host)(m g page:Int)(io:Bool):Host:=bif io then { h with IoBuffer:=zsA h.IoBuffer (zQd h m g page) } else { h with Buffer:=zsA h.Buffer (zQd h m g page) }
def zg7 (h:Host)(m g page:Int)(io:Bool):Host×Int×Bool:=(ztS h m g page io,(zeH (zce h m g) page).Page,true)
def zg6 (h:Host)(b:List Entry)(m g page need q:Int)(io:Bool):Host×Int×Bool :=
 bif zgR b m g page need then (h,((zp3 b m g page).getD ⟨0,0,0,0⟩).Host,true)
 else (cond (zeu h m g page need) (zg7 (zdj (mended h m q need) m g page) m g page io) (zg7 h m g page io))
def ziK (need:Int):Bool:=bif ieq need 1 then true else ieq need 2
def zbU (h:Host)(m g page need:Int):Bool:=bif zbI h m g then (cond (ziK need) (ze0 (zcs h m g) page need) false) else false
def lookOf (h:Host)(b:List Entry)(m g page need:Int)(io:Bool):Host×Int×Bool :=
 bif zbU h m g page need then zg6 (cond (ieq need 2) (zbu h m (zcj (zcs h m g) page need)) h) b m g page need (zcj (zcs h m g) page need) io else (h,-1,false)
structure Kp (h r:Host):Prop where
 shape:Shape r
 gs:zdG r.Mons=zdG h.Mons
theorem Kp.has {h r:Host}(k:Kp h r){m:Int}(hm:hasB m (ln h.Mons)=true):hasB m (ln r.Mons)=true:=by
 rw[ln,z6m k.gs];exact hm
theorem zXU {h:Host}{m g page:Int}(hs:Shape h)(hm:hasB m (ln h.Mons)=true)(hg:hasB g (ln (ix h.Mons m mZ).Guests)=true):Shape (zdj h m g page):=by
 obtain ⟨g1,g2⟩:=zcf hs hm;have ht:hasB g (ln (ix h.Mons m mZ).Tables)=true:=by rw[ln,g2.2.2.2];exact hg
 exact zhB hs ⟨g1.1,g1.2.1,g1.2.2.1,g1.2.2.2.1,g1.2.2.2.2.1,zwR g1.2.2.2.2.2 (zX0 (g1.2.2.2.2.2.2 _ (zbr ht _)))⟩ ⟨g2.1,g2.2.1,g2.2.2.1,by simpa using g2.2.2.2⟩
theorem zZn {h r:Host}{m g page:Int}{io:Bool}(k:Kp h r):Kp h (ztS r m g page io):=by
 obtain ⟨⟨h1,h2,h3,h4⟩,h5⟩:=k.shape;unfold ztS;cases io
 .exact ⟨⟨⟨h1,h2,(zGP _ h3).1,h4⟩,h5⟩,k.gs⟩
 .exact ⟨⟨⟨h1,h2,h3,(zGP _ h4).1⟩,h5⟩,k.gs⟩
structure LookAt (h:Host) (m g q need:Int):Prop where
 fit:Fit h
 hm:hasB m (ln h.Mons)=true
 hg:hasB g (ln (ix h.Mons m mZ).Guests)=true
 hq:hasB q 8=true
 hn:need=1\/need=2
 hs:SlotFit (ix (ix h.Mons m mZ).Outer q sZ)
theorem LookAt.mend {h:Host}{m g q need:Int}(A:LookAt h m g q need):zQz h m q need:=⟨A.fit,A.hm,A.hq,A.hn,A.hs⟩
theorem LookAt.kp {h:Host}{m g q need:Int}(A:LookAt h m g q need):Kp h (mended h m q need):=⟨(ztc A.fit A.hm A.hq).1,zZc A.fit A.hm A.hq⟩
theorem LookAt.fill {h:Host}{m g q need:Int}(A:LookAt h m g q need)(page:Int):Kp h (zdj (mended h m q need) m g page):=by
 have k:=A.kp;have hg:hasB g (ln (ix (mended h m q need).Mons m mZ).Guests)=true:=by rw[zIs k.gs];exact A.hg
 have e:zdG (zdj (mended h m q need) m g page).Mons=zdG (mended h m q need).Mons:=zxp (k.has A.hm) rfl;exact ⟨zXU k.shape (k.has A.hm) hg,e.trans k.gs⟩
theorem zRy {h:Host}{b:List Entry}{m g page need q:Int}{io:Bool}(A:LookAt h m g q need):Kp h (zg6 h b m g page need q io).1:=by
 unfold zg6;cases zgR b m g page need
 .cases zeu h m g page need
  .exact zZn ⟨A.fit.1,rfl⟩
  .exact zZn (A.fill page)
 .exact ⟨A.fit.1,rfl⟩
theorem zc8 {h:Host}{m g:Int}(hh:zbI h m g=true):zbJ h=true/\hasB m (ln h.Mons)=true/\hasB g (ln (ix h.Mons m mZ).Guests)=true:=by
 unfold zbI at hh;simp only[zcM]at hh;exact hh
theorem zW4 {h:Host}{m g:Int}(hh:zbI h m g=true):zcT (ix (ix h.Mons m mZ).Guests g gZ)=true:=by
 obtain ⟨h1,h2,h3⟩:=zc8 hh;have hk:=zf8 h1 _ (zbr h2 mZ);unfold zdD at hk;simp only[zcM]at hk;exact qM.1 hk.2.2.2.2.2.2.2.2.2.1 _ (zbr h3 _)
theorem zJI {n:Int}(h:ziK n=true):n=1\/n=2:=by
 unfold ziK at h;cases h1:ieq n 1
 .rw [h1]at h;exact .inr (qE h)
 .exact .inl (qE h1)
theorem zN6 {h:Host}{m g page need:Int}(hs:SmH h)(hh:zbU h m g page need=true) :
 LookAt h m g (zcj (zcs h m g) page need) need/\LookAt (zbu h m (zcj (zcs h m g) page need)) m g (zcj (zcs h m g) page need) need:=by
 unfold zbU at hh;simp only[zcM]at hh;obtain ⟨h1,h2,h3⟩:=hh;obtain ⟨g1,g2,g3⟩:=zc8 h1;have hq:hasB (zcj (zcs h m g) page need) 8=true:=z7e (zW4 h1) h3;have hsl:=zrt (zf8 g1 _ (zbr g2 mZ)) hq;have hf:=zeJ hs g1;refine ⟨⟨hf,g2,g3,hq,zJI h2,hsl⟩,⟨zT5 hf g2,zd7 g2,?_,hq,zJI h2,?_⟩⟩
 .have e:zdG (zbu h m (zcj (zcs h m g) page need)).Mons=zdG h.Mons:=zxp g2 rfl;rw[zIs e];exact g3
 .obtain ⟨k,rfl,hk⟩:=zc9 (n:=h.Mons.length) g2;unfold zbu;rw[zc5 hk];exact hsl
theorem zv1 {h:Host}{b:List Entry}{m g page need:Int}{io:Bool}(hs:SmH h)(hh:zbI h m g=true):Kp h (lookOf h b m g page need io).1:=by
 have hf:=zeJ hs (zc8 hh).1;unfold lookOf;cases h1:zbU h m g page need
 .exact ⟨hf.1,rfl⟩
 .obtain ⟨A,B⟩:=zN6 hs h1;simp only[cT];cases ieq need 2
  .exact zRy A
  .have k:=zRy (b:=b) (page:=page) (io:=io) B;have e:zdG (zbu h m (zcj (zcs h m g) page need)).Mons=zdG h.Mons:=zxp A.hm rfl;exact ⟨k.shape,k.gs.trans e⟩
def zML (x:Host×Int×Bool):List AV:=[.agg (zbf x.1),.one (.i .i64 x.2.1),.one (.b x.2.2)]
theorem zmz {h:Host}{b:List Entry}{m g page need:Int}{io:Bool}(hh:zbU h m g page need=false):lookOf h b m g page need io=(h,-1,false):=by
 unfold lookOf;rw[hh];rfl
theorem zA4 {h:Host}{m g page need:Int}(hh:zbI h m g=false):zbU h m g page need=false:=by
 unfold zbU;rw[hh];rfl
theorem z4P {h:Host}{m g:Int}(hh:zbJ h=false):zbI h m g=false:=by
 unfold zbI;rw[hh];rfl
theorem z4Q {h:Host}{m g:Int}(hh:hasB m (ln h.Mons)=false):zbI h m g=false:=by
 unfold zbI;rw[hh];cases zbJ h<;>rfl
theorem z4R {h:Host}{m g:Int}(hh:hasB g (ln (ix h.Mons m mZ).Guests)=false):zbI h m g=false:=by
 unfold zbI;rw[hh];cases zbJ h<;>cases hasB m (ln h.Mons)<;>rfl
theorem z4S {h:Host}{m g:Int}(h1:zbJ h=true)(h2:hasB m (ln h.Mons)=true)(h3:hasB g (ln (ix h.Mons m mZ).Guests)=true):zbI h m g=true:=by
 unfold zbI;rw[h1,h2,h3];rfl
structure LookF (r:Host) (m g:Int):Prop where
 hm:hasB m (ln r.Mons)=true
 hg:hasB g (ln (ix r.Mons m mZ).Guests)=true
 ht:hasB g (ln (ix r.Mons m mZ).Tables)=true
 hk:SmK (zce r m g)
 hb:r.Buffer.length<=1048576
 hi:r.IoBuffer.length<=1048576
theorem zCE {h r:Host}{m g:Int}(k:Kp h r)(hm:hasB m (ln h.Mons)=true)(hg:hasB g (ln (ix h.Mons m mZ).Guests)=true):LookF r m g:=by
 obtain ⟨g1,g2⟩:=zcf k.shape (k.has hm);have hg':hasB g (ln (ix r.Mons m mZ).Guests)=true:=by rw[zIs k.gs];exact hg
 have ht:hasB g (ln (ix r.Mons m mZ).Tables)=true:=by rw[ln,g2.2.2.2];exact hg'
 exact ⟨k.has hm,hg',ht,g1.2.2.2.2.2.2 _ (zbr ht _),k.shape.1.2.2.1,k.shape.1.2.2.2⟩
@[simp] abbrev zji (h:Host)(b:List Entry)(m g page need:Int)(io:Bool):Bool:=pc (zbA h)
@[simp] abbrev zeE (h:Host)(b:List Entry)(m g page need:Int)(io:Bool):Host:=(lookOf h b m g page need io).1
@[simp] abbrev zjh (h:Host)(b:List Entry)(m g page need:Int)(io:Bool):Int:=(lookOf h b m g page need io).2.1
@[simp] abbrev zgh (h:Host)(b:List Entry)(m g page need:Int)(io:Bool):Bool:=(lookOf h b m g page need io).2.2
def zqW:List AV->Option (Bool×List AV)
 | [.agg [.s (.sl .int) c,.s .mon d,.s .entry e,.s .entry f],.one (.s .entry g),.one (.i .i64 h),.one (.i .i64 j),.one (.i .i64 k),.one (.i .i64 l),.one (.b m)]=>some ((zji (⟨c,d,e,f⟩:Host) g h j k l m),[aH (zeE (⟨c,d,e,f⟩:Host) g h j k l m),aI (zjh (⟨c,d,e,f⟩:Host) g h j k l m),aB (zgh (⟨c,d,e,f⟩:Host) g h j k l m)])
 | _=>none
abbrev zOC (u9_11:lM)(u9_12:lN)(u9_13:lE)(u9_14:lE)(u9_0:Int)(u9_5:Int)(u9_3:Int):Mon :=
 (ix (zmG (⟨u9_11,u9_12,u9_13,u9_14⟩:Host) u9_0 u9_5 u9_3).Mons u9_0 zf)
abbrev zOD (a0:Host)(a2 a3:Int)(a4 a5:Int):Int :=
 (ziQ (ix (ix a0.Mons a2 zf).Guests a3 zx).Live a4 a5)
def zKI (N:Nat)(u11_0:Int)(u11_2:lM)(u11_3:lN)(u11_4:lE)(u11_5:lE):OA:=
 (some [(aH (⟨u11_2,u11_3,u11_4,u11_5⟩:Host)),(aI u11_0),(aB true)])
def zod (N:Nat)(u10_0:Int)(u10_1:Bool)(u10_2:Int)(u10_7:Int)(u10_8:Int)(u10_9:lM)(u10_10:lN)(u10_11:lE)(u10_12:lE)(u10_13:lM)(u10_14:lN)(u10_15:lE)(u10_16:lE):OA:=
 let y0:=(⟨u10_2,u10_0,u10_7,u10_8⟩:Entry); (share (fun (s11:(Int×(Int×(lM×(lN×(lE×(lE×(lM×(lN×(lE×(lE×Unit)))))))))))=>(zKI N s11.1 s11.2.2.1 s11.2.2.2.1 s11.2.2.2.2.1 s11.2.2.2.2.2.1)) (fun r11=>(cond u10_1 (oN (znO u10_12 y0) (r11 (u10_7,(u10_8,(u10_9,(u10_10,(u10_11,((znN u10_12 y0),(u10_13,(u10_14,(u10_15,(u10_16,())))))))))))) (oN (znO u10_11 y0) (r11 (u10_7,(u10_8,(u10_9,(u10_10,((znN u10_11 y0),(u10_12,(u10_13,(u10_14,(u10_15,(u10_16,())))))))))))))))
def zqw (N:Nat)(u9_11:lM)(u9_12:lN)(u9_13:lE)(u9_14:lE)(u9_0:Int)(u9_5:Int)(u9_3:Int)(u9_1:Int)(u9_2:Int)(r10:((Int×(Bool×(Int×(Int×(Int×(Int×(Int×(Int×(Int×(lM×(lN×(lE×(lE×(lM×(lN×(lE×(lE×Unit))))))))))))))))))->OA)(u9_4:Bool)(u9_6:Int)(u9_7:Int)(u9_8:Int)(u9_9:Int)(u9_10:Int)(u9_15:lM)(u9_16:lN)(u9_17:lE)(u9_18:lE):OA:=
 let y7:=(⟨u9_11,u9_12,u9_13,u9_14⟩:Host);let y1:=(zmG y7 u9_0 u9_5 u9_3);let y3:=(inb u9_0 (ln y1.Mons));let y0:=(zOC u9_11 u9_12 u9_13 u9_14 u9_0 u9_5 u9_3);let y6:=(ix y0.Tables u9_1 zee);let y4:=(ix y0.Guests u9_1 zx).Live; (oN (zlF y7 u9_0 u9_5 u9_3) (oN y3 (oN y3 (oN (inb u9_1 (ln y0.Tables)) (oN y3 (oN (inb u9_1 (ln y0.Guests)) (oN y3 (oN (zGS y6 y4 y0.Outer u9_2) (oN (inb u9_1 (ln y0.Tables)) (share (up y1.Mons u9_0 ({ y0 with Tables:=(up y0.Tables u9_1 (zJ4 y6 y4 y0.Outer u9_2)) }:Mon)) (fun x11=>let y5:=(ix x11 u9_0 zf).Tables;let y2:=(ix y5 u9_1 zee); (oN (inb u9_0 (ln x11)) (oN (inb u9_1 (ln y5)) (oN (zCK y2 u9_2) (r10 (u9_2,(u9_4,(u9_6,(u9_7,(u9_8,(u9_9,(u9_10,((zr1 y2 u9_2).Page,((zr1 y2 u9_2).Rights,(y1.Memory,(x11,(y1.Buffer,(y1.IoBuffer,(u9_15,(u9_16,(u9_17,(u9_18,()))))))))))))))))))))))))))))))))
def zkf (N:Nat)(u9_0:Int)(u9_1:Int)(u9_2:Int)(u9_3:Int)(u9_4:Bool)(u9_5:Int)(u9_6:Int)(u9_7:Int)(u9_8:Int)(u9_9:Int)(u9_10:Int)(u9_11:lM)(u9_12:lN)(u9_13:lE)(u9_14:lE)(u9_15:lM)(u9_16:lN)(u9_17:lE)(u9_18:lE):OA:=
 let y3:=(ix u9_12 u9_0 zf).Tables;let y0:=(ix y3 u9_1 zee);let y2:=(zr1 y0 u9_2); (oN (inb u9_0 (ln u9_12)) (oN (inb u9_1 (ln y3)) (oN (zCK y0 u9_2) (share (fun (s10:(Int×(Bool×(Int×(Int×(Int×(Int×(Int×(Int×(Int×(lM×(lN×(lE×(lE×(lM×(lN×(lE×(lE×Unit))))))))))))))))))=>(zod N s10.1 s10.2.1 s10.2.2.1 s10.2.2.2.2.2.2.2.1 s10.2.2.2.2.2.2.2.2.1 s10.2.2.2.2.2.2.2.2.2.1 s10.2.2.2.2.2.2.2.2.2.2.1 s10.2.2.2.2.2.2.2.2.2.2.2.1 s10.2.2.2.2.2.2.2.2.2.2.2.2.1 s10.2.2.2.2.2.2.2.2.2.2.2.2.2.1 s10.2.2.2.2.2.2.2.2.2.2.2.2.2.2.1 s10.2.2.2.2.2.2.2.2.2.2.2.2.2.2.2.1 s10.2.2.2.2.2.2.2.2.2.2.2.2.2.2.2.2.1)) (fun r10=>let y1:=(zqw N u9_11 u9_12 u9_13 u9_14 u9_0 u9_5 u9_3 u9_1 u9_2 r10 u9_4 u9_6 u9_7 u9_8 u9_9 u9_10 u9_15 u9_16 u9_17 u9_18); (cond (nB (zCJ y0 u9_2)) y1 (cond (ieq y2.Page (-1)) y1 (oN (zf2 y2.Rights u9_3) (cond (nB (zgG y2.Rights u9_3)) y1 (r10 (u9_2,(u9_4,(u9_6,(u9_7,(u9_8,(u9_9,(u9_10,(y2.Page,(y2.Rights,(u9_11,(u9_12,(u9_13,(u9_14,(u9_15,(u9_16,(u9_17,(u9_18,())))))))))))))))))))))))))))
def zqx (N:Nat)(a2:Int)(a0:Host)(a3 a4 a5:Int)(a1:lE)(a6:Bool):OA:=
 let y3:=(zr3 a2 a3);let y2:=(zOD a0 a2 a3 a4 a5);let y1:=(ix a0.Mons a2 zf);let y5:=(ix y1.Guests a3 zx).Live;let y0:=(zlQ a1 y3 a4);let y4:=y0.Rights; (oN (inb a2 (ln a0.Mons)) (oN (inb a3 (ln y1.Guests)) (oN (zq3 y5 a4 a5) (cond (nB (ziR y5 a4 a5)) (some [(aH a0),(aI (-1)),(aB false)]) (oN (zj1 a2 a3) (cond (ieq a5 2) (oN (inb a2 (ln a0.Mons)) (oN (inb y2 (ln y1.Dirty)) (share (up a0.Mons a2 ({ y1 with Dirty:=(up y1.Dirty y2 true) }:Mon)) (fun x8=>(oN (zlR a1 y3 a4) (share (fun (s9:(Int×(Int×(Int×(Int×(Bool×(Int×(Int×(Int×(Int×(Int×(Int×(lM×(lN×(lE×(lE×(lM×(lN×(lE×(lE×Unit))))))))))))))))))))=>(zkf N s9.1 s9.2.1 s9.2.2.1 s9.2.2.2.1 s9.2.2.2.2.1 s9.2.2.2.2.2.1 s9.2.2.2.2.2.2.1 s9.2.2.2.2.2.2.2.1 s9.2.2.2.2.2.2.2.2.1 s9.2.2.2.2.2.2.2.2.2.1 s9.2.2.2.2.2.2.2.2.2.2.1 s9.2.2.2.2.2.2.2.2.2.2.2.1 s9.2.2.2.2.2.2.2.2.2.2.2.2.1 s9.2.2.2.2.2.2.2.2.2.2.2.2.2.1 s9.2.2.2.2.2.2.2.2.2.2.2.2.2.2.1 s9.2.2.2.2.2.2.2.2.2.2.2.2.2.2.2.1 s9.2.2.2.2.2.2.2.2.2.2.2.2.2.2.2.2.1 s9.2.2.2.2.2.2.2.2.2.2.2.2.2.2.2.2.2.1 s9.2.2.2.2.2.2.2.2.2.2.2.2.2.2.2.2.2.2.1)) (fun r9=>(cond (ziN a1 y3 a4) (oN (zf2 y4 a5) (cond (zgG y4 a5) (some [(aH ({ a0 with Mons:=x8 }:Host)),(aI y0.Host),(aB true)]) (r9 (a2,(a3,(a4,(a5,(a6,(y2,(y3,(y0.Tag,(y0.Page,(y0.Host,(y4,(a0.Memory,(x8,(a0.Buffer,(a0.IoBuffer,([],([],([],([],())))))))))))))))))))))) (r9 (a2,(a3,(a4,(a5,(a6,(y2,(y3,(y0.Tag,(y0.Page,(y0.Host,(y4,(a0.Memory,(x8,(a0.Buffer,(a0.IoBuffer,([],([],([],([],())))))))))))))))))))))))))))) (oN (zlR a1 y3 a4) (share (fun (s8:(Int×(Int×(Int×(Int×(Bool×(Int×(Int×(Int×(Int×(Int×(Int×(lM×(lN×(lE×(lE×(lM×(lN×(lE×(lE×Unit))))))))))))))))))))=>(zkf N s8.1 s8.2.1 s8.2.2.1 s8.2.2.2.1 s8.2.2.2.2.1 s8.2.2.2.2.2.1 s8.2.2.2.2.2.2.1 s8.2.2.2.2.2.2.2.1 s8.2.2.2.2.2.2.2.2.1 s8.2.2.2.2.2.2.2.2.2.1 s8.2.2.2.2.2.2.2.2.2.2.1 s8.2.2.2.2.2.2.2.2.2.2.2.1 s8.2.2.2.2.2.2.2.2.2.2.2.2.1 s8.2.2.2.2.2.2.2.2.2.2.2.2.2.1 s8.2.2.2.2.2.2.2.2.2.2.2.2.2.2.1 s8.2.2.2.2.2.2.2.2.2.2.2.2.2.2.2.1 s8.2.2.2.2.2.2.2.2.2.2.2.2.2.2.2.2.1 s8.2.2.2.2.2.2.2.2.2.2.2.2.2.2.2.2.2.1 s8.2.2.2.2.2.2.2.2.2.2.2.2.2.2.2.2.2.2.1)) (fun r8=>(cond (ziN a1 y3 a4) (oN (zf2 y4 a5) (cond (zgG y4 a5) (some [(aH a0),(aI y0.Host),(aB true)]) (r8 (a2,(a3,(a4,(a5,(a6,(y2,(y3,(y0.Tag,(y0.Page,(y0.Host,(y4,(a0.Memory,(a0.Mons,(a0.Buffer,(a0.IoBuffer,([],([],([],([],())))))))))))))))))))))) (r8 (a2,(a3,(a4,(a5,(a6,(y2,(y3,(y0.Tag,(y0.Page,(y0.Host,(y4,(a0.Memory,(a0.Mons,(a0.Buffer,(a0.IoBuffer,([],([],([],([],()))))))))))))))))))))))))))))))
def zo5 (N:Nat)(a0:Host)(a1:lE)(a2 a3:Int)(a4 a5:Int)(a6:Bool):OA:=
 let y1:=(zqx N a2 a0 a3 a4 a5 a1 a6);let y0:=(wsub .i64 (ln (ix a0.Mons a2 zf).Guests) 1); (oN (zeQ a0) (cond (nB (zeP a0)) (some [(aH a0),(aI (-1)),(aB false)]) (oN (zI a2 0 (wsub .i64 (ln a0.Mons) 1)) (cond (nB (zK a2 0 (wsub .i64 (ln a0.Mons) 1))) (some [(aH a0),(aI (-1)),(aB false)]) (oN (inb a2 (ln a0.Mons)) (oN (zI a3 0 y0) (cond (nB (zK a3 0 y0)) (some [(aH a0),(aI (-1)),(aB false)]) (cond (ine a5 1) (cond (ine a5 2) (some [(aH a0),(aI (-1)),(aB false)]) y1) y1))))))))
def zq8:FuncId->Nat->Option Tmpl:=zo [(36,999999,{ n:=0,tm:=[],lo:=[],ro:=[] }),(36,1007023,{ n:=210,tm:=[(2,ti),(3,ti),(4,ti),(5,ti),(6,.b),(7,.lp 0 0),(14,.lp 1 0),(17,ti),(19,ti),(20,.lp 2 0)],lo:=[(0,[.sl 0 [],.sl 1 [],.sl 2 [],.sl 3 []]),(1,[.sl 4 [],.sl 5 [],.sl 6 [],.sl 7 []]),(2,[ti,ti,ti,ti])],ro:=[(0,(.sl .int),true),(1,.mon,true),(2,.entry,true),(3,.entry,true),(4,(.sl .int),true),(5,.mon,true),(6,.entry,true),(7,.entry,true)],kr:=1 }),(36,1009011,{ n:=210,tm:=[(4,ti),(6,.b),(7,.lp 0 0),(14,.lp 1 0),(19,ti),(20,.lp 2 0),(22,.lp 3 0)],lo:=[(0,[.sl 0 [],.sl 1 [],.sl 2 [],.sl 3 []]),(1,[.sl 4 [],.sl 5 [],.sl 6 [],.sl 7 []]),(2,[ti,ti,ti,ti]),(3,[ti,ti])],ro:=[(0,(.sl .int),true),(1,.mon,true),(2,.entry,true),(3,.entry,true),(4,(.sl .int),true),(5,.mon,true),(6,.entry,true),(7,.entry,true)],kr:=1 }),(36,1005003,{ n:=210,tm:=[(7,.lp 0 0),(14,.lp 1 0),(22,.lp 2 0)],lo:=[(0,[.sl 0 [],.sl 1 [],.sl 2 [],.sl 3 []]),(1,[.sl 4 [],.sl 5 [],.sl 6 [],.sl 7 []]),(2,[ti,ti])],ro:=[(0,(.sl .int),true),(1,.mon,true),(2,.entry,true),(3,.entry,true),(4,(.sl .int),true),(5,.mon,true),(6,.entry,true),(7,.entry,true)],kr:=1 })]
theorem zMD (N:Nat)(a0:Host)(a2 a3:Int)(a4 a5:Int)(a6:Bool):zQe (cQ zlJ zox zXE zX6) zq8 N 12 36 [true,true,true,true,false,false,false,false,false,false] [(4,2)] 1 1 [[0],[1],[2],[4],[7]] .mon [aH a0,aS .entry a0.Buffer,aI a2,aI a3,aI a4,aI a5,aB a6]=zo5 N a0 a0.Buffer a2 a3 a4 a5 a6:=by kernel_rfl
theorem zME (N:Nat)(a0:Host)(a2 a3:Int)(a4 a5:Int)(a6:Bool):zQe (cQ zlJ zox zXE zX6) zq8 N 12 36 [true,true,true,true,false,false,false,false,false,false] [(4,3)] 1 1 [[0],[1],[2],[4],[7]] .mon [aH a0,aS .entry a0.IoBuffer,aI a2,aI a3,aI a4,aI a5,aB a6]=zo5 N a0 a0.IoBuffer a2 a3 a4 a5 a6:=by kernel_rfl
theorem zCx {N:Nat}{r:Host}{m g page:Int}{io:Bool}{z1 z2 z3 z4}(hb:r.Buffer.length<=1048576)(hi:r.IoBuffer.length<=1048576) :
 zod N page io (zel m g) (zeH (zce r m g) page).Page (zeH (zce r m g) page).Rights r.Memory r.Mons r.Buffer r.IoBuffer z1 z2 z3 z4=some (zML (zg7 r m g page io)):=by
 unfold zod oN
 conv=>zeta
 refine shr ?_;cases io
 .exact zc6 rfl (must (zbp hb) rfl)
 .exact must rfl (must (zbp hi) rfl)
theorem zRb {N:Nat}{r:Host}{m g page need q:Int}{io:Bool}{R:OA}{r11}{u6 u7 u8 u9 u10 z1 z2 z3 z4}(A:LookAt r m g q need)(hr:r11 (page,(io,(u6,(u7,(u8,(u9,(u10,((zeH (zce (zdj (mended r m q need) m g page) m g) page).Page,((zeH (zce (zdj (mended r m q need) m g page) m g) page).Rights,((zdj (mended r m q need) m g page).Memory,((zdj (mended r m q need) m g page).Mons,((zdj (mended r m q need) m g page).Buffer,((zdj (mended r m q need) m g page).IoBuffer,(z1,(z2,(z3,(z4,())))))))))))))))))=R) :
 zqw N r.Memory r.Mons r.Buffer r.IoBuffer m q need g page r11 io u6 u7 u8 u9 u10 z1 z2 z3 z4=R:=by
 have M:=zCE A.kp A.hm A.hg;have F:=zCE (A.fill page) A.hm A.hg;unfold zqw oN
 conv=>zeta
 exact must (zbp A.mend) (must (zB M.hm) (must (zB M.hm) (must (zB M.ht) (must (zB M.hm) (must (zB M.hg) (must (zB M.hm) (must (zbp M.hk) (must (zB M.ht) (shr (must (zB F.hm) (must (zB F.ht) (must (zbp F.hk) hr))))))))))))
theorem z5A {r:Host}{m g page need:Int}(h:zjN (zce r m g) page=false):zeu r m g page need=true:=by
 unfold zeu;rw[h];rfl
theorem z5B {r:Host}{m g page need:Int}(h:ieq (zeH (zce r m g) page).Page (-1)=true):zeu r m g page need=true:=by
 unfold zeu;rw[h];cases zjN (zce r m g) page<;>rfl
theorem z5C {r:Host}{m g page need:Int}(h:enough (zeH (zce r m g) page).Rights need=false):zeu r m g page need=true:=by
 unfold zeu;rw[h];cases zjN (zce r m g) page<;>cases ieq (zeH (zce r m g) page).Page (-1)<;>rfl
theorem z5D {r:Host}{m g page need:Int}(h1:zjN (zce r m g) page=true)(h2:ieq (zeH (zce r m g) page).Page (-1)=false)(h3:enough (zeH (zce r m g) page).Rights need=true):zeu r m g page need=false:=by
 unfold zeu;rw[h1,h2,h3];rfl
theorem zMs {r:Host}{m g page need q:Int}{io:Bool}(h:zeu r m g page need=true):(cond (zeu r m g page need) (zg7 (zdj (mended r m q need) m g page) m g page io) (zg7 r m g page io))=zg7 (zdj (mended r m q need) m g page) m g page io:=by
 rw[h];rfl
theorem z4V {r:Host}{m g page need q:Int}{io:Bool}(h:zeu r m g page need=false):(cond (zeu r m g page need) (zg7 (zdj (mended r m q need) m g page) m g page io) (zg7 r m g page io))=zg7 r m g page io:=by
 rw[h];rfl
theorem zCy {N:Nat}{r:Host}{m g page need q:Int}{io:Bool}{u7 u8 u9 u10 z1 z2 z3 z4}(A:LookAt r m g q need) :
 zkf N m g page need io q (zel m g) u7 u8 u9 u10 r.Memory r.Mons r.Buffer r.IoBuffer z1 z2 z3 z4=some (zML (cond (zeu r m g page need) (zg7 (zdj (mended r m q need) m g page) m g page io) (zg7 r m g page io))):=by
 have M:=zCE ⟨A.fit.1,rfl⟩ A.hm A.hg;have F:=zCE (A.fill page) A.hm A.hg;unfold zkf oN nB
 conv=>zeta
 refine must (zB M.hm) (must (zB M.ht) (must (zbp M.hk) (shr (brN (fun h1=>?_) (fun h1=>br (fun h2=>?_) (fun h2=>must rfl (brN (fun h3=>?_) (fun h3=>?_))))))))
 .rw [zMs (z5A h1)];exact zRb A (zCx (r:=zdj (mended r m q need) m g page) (m:=m) (g:=g) F.hb F.hi)
 .rw [zMs (z5B h2)];exact zRb A (zCx (r:=zdj (mended r m q need) m g page) (m:=m) (g:=g) F.hb F.hi)
 .rw [zMs (z5C h3)];exact zRb A (zCx (r:=zdj (mended r m q need) m g page) (m:=m) (g:=g) F.hb F.hi)
 .rw [z4V (z5D h1 h2 h3)];exact zCx (r:=r) (m:=m) (g:=g) M.hb M.hi
theorem zVA {b:List Entry}{m g page need:Int}(h:(zp3 b m g page).isSome=false):zgR b m g page need=false:=by
 unfold zgR;rw[h];rfl
theorem zCB {b:List Entry}{m g page need:Int}{x:Bool}(h1:(zp3 b m g page).isSome=true)(h:enough ((zp3 b m g page).getD ⟨0,0,0,0⟩).Rights need=x):zgR b m g page need=x:=by
 unfold zgR;rw[h1,h];rfl
theorem zCD {r:Host}{b:List Entry}{m g page need q:Int}{io:Bool}(h:zgR b m g page need=false):zg6 r b m g page need q io=bif zeu r m g page need then zg7 (zdj (mended r m q need) m g page) m g page io else zg7 r m g page io:=by
 unfold zg6;rw[h];rfl
theorem zVN {r:Host}{b:List Entry}{m g page need q:Int}{io:Bool}(h:zgR b m g page need=true):zg6 r b m g page need q io=(r,((zp3 b m g page).getD ⟨0,0,0,0⟩).Host,true):=by
 unfold zg6;rw[h];rfl
theorem zSs {h:Host}{b:List Entry}{m g page need:Int}{io:Bool}(hh:zbU h m g page need=true):lookOf h b m g page need io=zg6 (cond (ieq need 2) (zbu h m (zcj (zcs h m g) page need)) h) b m g page need (zcj (zcs h m g) page need) io:=by
 unfold lookOf;rw[hh];rfl
theorem zY0 {N:Nat}{r:Host}{b:List Entry}{m g page need:Int}{io:Bool}(hs:SmH r)(hg:zbI r m g=true)(hn:ziK need=true) :
 zqx N m r g page need b io=some (zML (lookOf r b m g page need io)):=by
 obtain ⟨g1,g2,g3⟩:=zc8 hg;unfold zqx oN nB
 conv=>zeta
 refine must (zB g2) (must (zB g3) (must rfl (brN (fun hw=>?_) (fun hw=>must rfl ?_))))
 .have:zbU r m g page need=false:=by
   unfold zbU;rw[hg,hn,show ze0 (zcs r m g) page need=false from hw]
   rfl
  rw[zmz this];rfl
 .have hl:zbU r m g page need=true:=by
   unfold zbU;rw[hg,hn,show ze0 (zcs r m g) page need=true from hw]
   rfl
  obtain ⟨A,B⟩:=zN6 hs hl;rw[zSs hl];have hd:hasB (zcj (zcs r m g) page need) (ln (ix r.Mons m mZ).Dirty)=true:=zda (zcf A.fit.1 g2).2.2.2.1 A.hq;refine br (fun h2=>?_) (fun h2=>?_)
  .rw [h2]
   show _=some (zML (zg6 (zbu r m (zcj (zcs r m g) page need)) b m g page need (zcj (zcs r m g) page need) io))
   refine must (zB g2) (must (zB hd) (shr (must rfl (shr (br (fun f1=>must rfl (br (fun f2=>?_) (fun f2=>?_))) (fun f1=>?_))))))
   .rw [zVN (zCB f1 f2)];rfl
   .rw [zCD (zCB f1 f2)];exact zCy (r:=zbu r m (zcj (zcs r m g) page need)) B
   .rw [zCD (zVA f1)];exact zCy (r:=zbu r m (zcj (zcs r m g) page need)) B
  .rw [h2]
   show _=some (zML (zg6 r b m g page need (zcj (zcs r m g) page need) io))
   refine must rfl (shr (br (fun f1=>must rfl (br (fun f2=>?_) (fun f2=>?_))) (fun f1=>?_)))
   .rw [zVN (zCB f1 f2)];rfl
   .rw [zCD (zCB f1 f2)];exact zCy A
   .rw [zCD (zVA f1)];exact zCy A
theorem zPN (a0:Host)(a1:List Entry)(a2 a3:Int)(a4 a5:Int)(a6:Bool)(hb:zbB big [aH a0,aS .entry a1,aI a2,aI a3,aI a4,aI a5,aB a6])(hc:zji a0 a1 a2 a3 a4 a5 a6=true):∃N,zo5 N a0 a1 a2 a3 a4 a5 a6=some [aH (zeE a0 a1 a2 a3 a4 a5 a6),aI (zjh a0 a1 a2 a3 a4 a5 a6),aB (zgh a0 a1 a2 a3 a4 a5 a6)]:=by
 have hs:=(zM a0).1 (zC.1 hc);refine ⟨0,?_⟩
 show _=some (zML (lookOf a0 a1 a2 a3 a4 a5 a6))
 unfold zo5 oN nB
 conv=>zeta
 refine must rfl (brN (fun h1=>?_) (fun h1=>must rfl ?_))
 .rw [zmz (zA4 (z4P h1))];rfl
 rw[show zK a2 0 (wsub .i64 (ln a0.Mons) 1)=hasB a2 (ln a0.Mons) from zo3 hs.2.1.1 a2]
 refine brN (fun h2=>?_) (fun h2=>must (zB h2) (must rfl ?_))
 .rw [zmz (zA4 (z4Q h2))];rfl
 have hl:(ix a0.Mons a2 mZ).Guests.length<=1048576:=(hs.2.1.2 _ (zbr h2 _)).2.2.2.1.1;rw[show zK a3 0 (wsub .i64 (ln (ix a0.Mons a2 zf).Guests) 1)=hasB a3 (ln (ix a0.Mons a2 mZ).Guests) from zo3 hl a3]
 refine brN (fun h3=>?_) (fun h3=>?_)
 .rw [zmz (zA4 (z4R h3))];rfl
 have hg:=z4S h1 h2 h3;have hno:∀{n:Int},ziK n=false->zbU a0 a2 a3 a4 n=false:=fun {n} h=>by
  unfold zbU;rw[hg,h];rfl
 rw[zmx,zmx];cases h4:ieq a5 1
 .cases h5:ieq a5 2
  .have:ziK a5=false:=by unfold ziK;rw[h4,h5];rfl
   rw[zmz (hno this)];rfl
  .exact zY0 hs hg (by unfold ziK;rw[h4,h5];rfl)
 .exact zY0 hs hg (by unfold ziK;rw[h4];rfl)
theorem zI7:zdF Tryz.prog 36 [true,true,true,true,false,false,false,false,false,false] (some (1,1,[[0],[1],[2],[4],[7]])) zqW:=by
 refine zKT (kt:=.mon) (zcS zho zu zb9 zMR) (zef (by kernel_rfl)) ?_
 intro al avs rs hal heq hl hr h;have hb:=zhH hr;have hal':al=[(4,2)]\/al=[(4,3)]:=by
  rw[show zgZ 36=[[(4,2)],[(4,3)]] from by kernel_rfl]at hal
  simpa using hal
 unfold zqW at h;split at h
 .rename_i a0_0 a0_1 a0_2 a0_3 a1 a2 a3 a4 a5 a6;obtain ⟨hc,rfl⟩:=zdJ h;obtain ⟨N,hN⟩:=zPN (⟨a0_0,a0_1,a0_2,a0_3⟩:Host) a1 a2 a3 a4 a5 a6 hb hc;refine ⟨⟨_,rfl⟩,rfl,zq8,N,12,?_⟩;rcases hal' with rfl|rfl
  .have e:=heq 4 2 (by simp)
   simp only[zy,kA,AV.cvs] at e;cases e;exact (zMD N (⟨a0_0,a0_1,a0_2,a0_3⟩:Host) a2 a3 a4 a5 a6).trans hN
  .have e:=heq 4 3 (by simp)
   simp only[zy,kA,AV.cvs] at e;cases e;exact (zME N (⟨a0_0,a0_1,a0_2,a0_3⟩:Host) a2 a3 a4 a5 a6).trans hN
 .cases h
def z2f:zfc:=[(36,([true,true,true,true,false,false,false,false,false,false],(some (1,1,[[0],[1],[2],[4],[7]])),zqW))]++zX6
theorem zh4:zd6 z2f:=zo1 zMR (by
 intro x hx;simp only[qH,qX,or_false]at hx;rcases hx with rfl
 .exact zI7)
def gOf (h:Host)(m g:Int):Guest:=ix (ix h.Mons m mZ).Guests g gZ
def zjW (h:Host)(m g:Int)(x:Guest):Host:={ h with Mons:=up h.Mons m { ix h.Mons m mZ with Guests:=up (ix h.Mons m mZ).Guests g x } }
def zlN (h:Host)(m g:Int)(x:Guest)(w:Bool):Host×Int×Bool:=lookOf h h.Buffer m g (zbc (address x)) (zbZ w) false
def ziF (L:Host×Int×Bool)(m g:Int)(x:Guest)(w:Bool):Host :=
 bif L.2.2 then (cond w (zjW { L.1 with Memory:=zbx L.1.Memory L.2.1 (zcQ (address x)) x.A } m g (zbY x)) (zjW L.1 m g (loaded x (cellAt L.1.Memory L.2.1 (zcQ (address x))))))
 else zjW L.1 m g (stopped x (zp2 (zbc (address x)) w))
def owned (h:Host)(m:Int):Host:=bif ilt (ix h.Mons m mZ).Own 1000000000 then { h with Mons:=up h.Mons m { ix h.Mons m mZ with Own:=zG .i64 (ix h.Mons m mZ).Own 1 } } else h
def znh (h:Host)(m n:Int):Host:=bif ilt (ln (ix h.Mons m mZ).Outs) 40 then { h with Mons:=up h.Mons m { ix h.Mons m mZ with Outs:=ap (ix h.Mons m mZ).Outs [n] } } else h
def zfM (h:Host)(m:Int)(x:Guest)(w:Int):Host:=bif (cond (ine w 6) (ieq (zxJ (ix h.Mons m mZ).Traps x.Ctl.Traps (zwV w)) 2) false) then owned h m else h
def zfL (h:Host)(m:Int)(x:Guest)(w:Int):Host:=bif (cond (zjq x.Ctl.Traps w) (ieq w 5) false) then znh h m (zcb x.Prog x.Pc).X else h
def zuP (h:Host)(m g:Int)(x:Guest)(w:Int):Host:=zjW (zfL (zfM h m x w) m x w) m g (ziG x x.Ctl.Traps w)
def zTh (h:Host)(m g:Int)(x:Guest)(w:Int):Host×Bool :=
 bif ieq w 0 then (h,false) else (bif ieq w 1 then (zjW h m g (interrupted x),true) else (bif ieq w 2 then (zjW h m g (plainly x),true) else
  (cond (cond (ieq w 3) true (ieq w 4)) (ziF (zlN h m g x (ieq w 4)) m g x (ieq w 4),true) (zuP h m g x w,true))))
def zbs (h:Host)(m g:Int):Host×Bool:=bif zbI h m g then zTh h m g (gOf h m g) (zS (gOf h m g)) else (h,false)
def zfh (x:Host×Bool):List AV:=[.agg (zbf x.1),.one (.b x.2)]
theorem zn0 {h:Host}{m g:Int}(hs:SmH h)(hm:hasB m (ln h.Mons)=true)(hg:hasB g (ln (ix h.Mons m mZ).Guests)=true):SmG (gOf h m g):=(hs.2.1.2 _ (zbr hm _)).2.2.2.1.2 _ (zbr hg _)
theorem zXV {h:Host}{m g:Int}{x:Guest}(hs:Shape h)(hm:hasB m (ln h.Mons)=true)(hx:SmG x):Shape (zjW h m g x):=by
 obtain ⟨g1,g2⟩:=zcf hs hm;exact zhB hs ⟨g1.1,g1.2.1,g1.2.2.1,zCO g1.2.2.2.1 hx,g1.2.2.2.2⟩ ⟨g2.1,g2.2.1,g2.2.2.1,by simpa using g2.2.2.2⟩
theorem zJG {h:Host}{m:Int}(hm:hasB m (ln h.Mons)=true)(x:Mon):ix (up h.Mons m x) m mZ=x:=by
 obtain ⟨k,rfl,hk⟩:=zc9 (n:=h.Mons.length) hm;exact zc5 hk _ _
@[simp] abbrev zd8 (h:Host)(m g:Int):Bool:=pc (zbA h)
@[simp] abbrev zB2 (h:Host)(m g:Int):Host:=(zbs h m g).1
@[simp] abbrev zB3 (h:Host)(m g:Int):Bool:=(zbs h m g).2
theorem z3C {α:Type}{l:List α}{x:α}(h:ilt (ln l) 40=true):few (ln (ap l [x]))=true:=by
 have:=qE h;simp only[ln] at this;exact zfU (by simp[ap];omega)
theorem zV9 {h:Host}{m:Int}{x:Guest}{w:Int}(hh:(cond (zjq x.Ctl.Traps w) (ieq w 5) false)=false):zfL h m x w=h:=by
 unfold zfL;rw[hh];rfl
theorem zOz {h:Host}{m:Int}{x:Guest}{w:Int}(hh:ilt (ln (ix h.Mons m mZ).Outs) 40=false):zfL h m x w=h:=by
 unfold zfL znh;rw[hh];cases (cond (zjq x.Ctl.Traps w) (ieq w 5) false)<;>rfl
theorem zTp {h:Host}{m:Int}{x:Guest}{w:Int}(h1:zjq x.Ctl.Traps w=true)(h2:ieq w 5=true)(hh:ilt (ln (ix h.Mons m mZ).Outs) 40=true):zfL h m x w={ h with Mons:=up h.Mons m { ix h.Mons m mZ with Outs:=ap (ix h.Mons m mZ).Outs [(zcb x.Prog x.Pc).X] } }:=by
 unfold zfL znh;rw[h1,h2,hh];rfl
theorem z0l {h:Host}{m:Int}{x:Guest}{w:Int}(h1:zjq x.Ctl.Traps w=false):zfL h m x w=h:=zV9 (by rw[h1];rfl)
theorem zKp {h:Host}{m:Int}{x:Guest}{w:Int}(h1:ieq w 5=false):zfL h m x w=h:=zV9 (by rw[h1];cases zjq x.Ctl.Traps w<;>rfl)
theorem zZf (a:Int):(cond (ieq a a) true false)=true:=by rw[zcC];rfl
theorem zk0 {h:Host}{m g:Int}(hh:zbI h m g=false):zbs h m g=(h,false):=by
 unfold zbs;rw[hh];rfl
theorem ziE {h:Host}{m g:Int}(hh:zbI h m g=true):zbs h m g=zTh h m g (gOf h m g) (zS (gOf h m g)):=by
 unfold zbs;rw[hh];rfl
theorem zk2 {a b:Bool}(h:(cond a b false)=true):a=true/\b=true:=by
 cases a
 .cases h
 .exact ⟨rfl,h⟩
theorem zhE {a b:Bool}(ha:a=true)(hb:b=true):(cond a b false)=true:=by
 rw[ha];exact hb
theorem zWc {h:Host}{m:Int}{x:Guest}{w:Int}(h6:ine w 6=true)(h0:ieq (zxJ (ix h.Mons m mZ).Traps x.Ctl.Traps (zwV w)) 2=true)(h9:ilt (ix h.Mons m mZ).Own 1000000000=true):zfM h m x w={ h with Mons:=up h.Mons m { ix h.Mons m mZ with Own:=zG .i64 (ix h.Mons m mZ).Own 1 } }:=by
 unfold zfM owned;rw[h6,h0,h9];rfl
theorem zWa {h:Host}{m:Int}{x:Guest}{w:Int}(h0:ieq (zxJ (ix h.Mons m mZ).Traps x.Ctl.Traps (zwV w)) 2=false):zfM h m x w=h:=by
 unfold zfM;rw[h0];cases ine w 6<;>rfl
theorem zWb {h:Host}{m:Int}{x:Guest}{w:Int}(h9:ilt (ix h.Mons m mZ).Own 1000000000=false):zfM h m x w=h:=by
 unfold zfM owned;rw[h9];cases (cond (ine w 6) (ieq (zxJ (ix h.Mons m mZ).Traps x.Ctl.Traps (zwV w)) 2) false)<;>rfl
theorem z5E {h:Host}{m:Int}{x:Guest}:zfM h m x 6=h:=rfl
theorem zmq {h h':Host}{m g:Int}{x:Guest}{w:Int}(e:zfM h m x w=h'):zuP h m g x w=zjW (zfL h' m x w) m g (ziG x x.Ctl.Traps w):=by
 unfold zuP;rw[e]
theorem z2h (x:Guest):ieq (zS x) 0=true\/ieq (zS x) 1=true\/ieq (zS x) 2=true\/ieq (zS x) 3=true\/ieq (zS x) 4=true\/ieq (zS x) 5=true\/ieq (zS x) 6=true\/ieq (zS x) 7=true:=by
 cases h0:ieq (zS x) 0
 .cases h1:ieq (zS x) 1
  .cases h2:ieq (zS x) 2
   .cases h3:ieq (zS x) 3
    .cases h4:ieq (zS x) 4
     .cases h5:ieq (zS x) 5
      .cases h6:ieq (zS x) 6
       .exact .inr (.inr (.inr (.inr (.inr (.inr (.inr (z7f x h0 h1 h2 h3 h4 h5 h6)))))))
       .exact .inr (.inr (.inr (.inr (.inr (.inr (.inl rfl))))))
      .exact .inr (.inr (.inr (.inr (.inr (.inl rfl)))))
     .exact .inr (.inr (.inr (.inr (.inl rfl))))
    .exact .inr (.inr (.inr (.inl rfl)))
   .exact .inr (.inr (.inl rfl))
  .exact .inr (.inl rfl)
 .exact .inl rfl
abbrev zzc (x:Guest):Bool:=bif zek x then ieq (zS x) 0 else false
def znp:List AV->Option (Bool×List AV)
 | [.agg [.s .ins c,.i .i64 d,.i .i64 e,.s .slot f,.s .slot g,.i .i64 h,.i .i64 j,.b k,.i .i64 l,.i .i64 m,.i .i64 n,.b o,.i .i64 p,.b q,.s .int r]]=>some ((zzc (⟨c,d,e,f,g,⟨h,j,k⟩,l,⟨m,n,o,p⟩,q,r⟩:Guest)),[.one (.i .i64 0)])
 | _=>none
theorem zDd:vF 252 znp:=by
 refine ⟨zb5.1,fun w avs xs rs hrep h=>?_⟩;unfold znp at h;split at h
 .obtain ⟨hc,rfl⟩:=zdJ h;obtain ⟨h1,h2⟩:=zk2 hc;exact zb5.2 w _ xs _ hrep (congr (congrArg (fun c v=>some (c,[AV.one (CV.i .i64 v)])) h1) (qE h2))
 .cases h
def z4p:zO:=[(252,znp)]++zlJ
theorem zWC:zF z4p:=zh zDd zho
@[simp] abbrev zum (h:Host)(m g:Int):Bool:=bif zd8 h m g then ieq (zS (gOf h m g)) 0 else false
@[simp] abbrev zuk (h:Host)(m g:Int):Host:=(zbs h m g).1
@[simp] abbrev zul (h:Host)(m g:Int):Bool:=(zbs h m g).2
def zDy:Run:=rF3 dH dI dI fun b c d=>(zum b c d,[aH (zuk b c d),aB (zul b c d)])
def ztj (N:Nat)(a0:Host)(a1 a2:Int):OA:=
 let y1:=(zk a0);let y0:=(ix y1.Mons a1 zf).Guests; (oN (zbD a0) (oN (zgi y1 a1 a2) (cond (nB (zh1 y1 a1 a2)) (some [(aH y1),(aB false)]) (oN (inb a1 (ln y1.Mons)) (oN (inb a2 (ln y0)) (oN (zzc (ix y0 a2 zx)) (some [(aH y1),(aB false)])))))))
abbrev zzd (x:Guest):Bool:=bif zek x then ieq (zS x) 1 else false
def znq:List AV->Option (Bool×List AV)
 | [.agg [.s .ins c,.i .i64 d,.i .i64 e,.s .slot f,.s .slot g,.i .i64 h,.i .i64 j,.b k,.i .i64 l,.i .i64 m,.i .i64 n,.b o,.i .i64 p,.b q,.s .int r]]=>some ((zzd (⟨c,d,e,f,g,⟨h,j,k⟩,l,⟨m,n,o,p⟩,q,r⟩:Guest)),[.one (.i .i64 1)])
 | _=>none
theorem zDe:vF 252 znq:=by
 refine ⟨zb5.1,fun w avs xs rs hrep h=>?_⟩;unfold znq at h;split at h
 .obtain ⟨hc,rfl⟩:=zdJ h;obtain ⟨h1,h2⟩:=zk2 hc;exact zb5.2 w _ xs _ hrep (congr (congrArg (fun c v=>some (c,[AV.one (CV.i .i64 v)])) h1) (qE h2))
 .cases h
def z4q:zO:=[(252,znq)]++zlJ
theorem zWD:zF z4q:=zh zDe zho
@[simp] abbrev zup (h:Host)(m g:Int):Bool:=bif zd8 h m g then ieq (zS (gOf h m g)) 1 else false
@[simp] abbrev zun (h:Host)(m g:Int):Host:=(zbs h m g).1
@[simp] abbrev zuo (h:Host)(m g:Int):Bool:=(zbs h m g).2
def zDz:Run:=rF3 dH dI dI fun b c d=>(zup b c d,[aH (zun b c d),aB (zuo b c d)])
def ztk (N:Nat)(a0:Host)(a1 a2:Int):OA:=
 let y2:=(zk a0);let y0:=(ix y2.Mons a1 zf);let y1:=(ix y0.Guests a2 zx); (oN (zbD a0) (oN (zgi y2 a1 a2) (cond (nB (zh1 y2 a1 a2)) (some [(aH y2),(aB false)]) (oN (inb a1 (ln y2.Mons)) (oN (inb a2 (ln y0.Guests)) (oN (zzd y1) (oN (inb a1 (ln y2.Mons)) (oN (znL y1) (oN (inb a2 (ln y0.Guests)) (share (up y2.Mons a1 ({ y0 with Guests:=(up y0.Guests a2 (ziO y1)) }:Mon)) (fun x4=>(some [(aH ({ y2 with Mons:=x4 }:Host)),(aB true)]))))))))))))
abbrev zze (x:Guest):Bool:=bif zek x then ieq (zS x) 2 else false
def znr:List AV->Option (Bool×List AV)
 | [.agg [.s .ins c,.i .i64 d,.i .i64 e,.s .slot f,.s .slot g,.i .i64 h,.i .i64 j,.b k,.i .i64 l,.i .i64 m,.i .i64 n,.b o,.i .i64 p,.b q,.s .int r]]=>some ((zze (⟨c,d,e,f,g,⟨h,j,k⟩,l,⟨m,n,o,p⟩,q,r⟩:Guest)),[.one (.i .i64 2)])
 | _=>none
theorem zDf:vF 252 znr:=by
 refine ⟨zb5.1,fun w avs xs rs hrep h=>?_⟩;unfold znr at h;split at h
 .obtain ⟨hc,rfl⟩:=zdJ h;obtain ⟨h1,h2⟩:=zk2 hc;exact zb5.2 w _ xs _ hrep (congr (congrArg (fun c v=>some (c,[AV.one (CV.i .i64 v)])) h1) (qE h2))
 .cases h
def z4r:zO:=[(252,znr)]++zlJ
theorem zWE:zF z4r:=zh zDf zho
@[simp] abbrev zus (h:Host)(m g:Int):Bool:=bif zd8 h m g then ieq (zS (gOf h m g)) 2 else false
@[simp] abbrev zuq (h:Host)(m g:Int):Host:=(zbs h m g).1
@[simp] abbrev zur (h:Host)(m g:Int):Bool:=(zbs h m g).2
def zDA:Run:=rF3 dH dI dI fun b c d=>(zus b c d,[aH (zuq b c d),aB (zur b c d)])
def ztl (N:Nat)(a0:Host)(a1 a2:Int):OA:=
 let y2:=(zk a0);let y0:=(ix y2.Mons a1 zf);let y1:=(ix y0.Guests a2 zx); (oN (zbD a0) (oN (zgi y2 a1 a2) (cond (nB (zh1 y2 a1 a2)) (some [(aH y2),(aB false)]) (oN (inb a1 (ln y2.Mons)) (oN (inb a2 (ln y0.Guests)) (oN (zze y1) (oN (inb a1 (ln y2.Mons)) (oN (zvl y1) (oN (inb a2 (ln y0.Guests)) (share (up y2.Mons a1 ({ y0 with Guests:=(up y0.Guests a2 (zqp y1)) }:Mon)) (fun x4=>(some [(aH ({ y2 with Mons:=x4 }:Host)),(aB true)]))))))))))))
abbrev zzf (x:Guest):Bool:=bif zek x then ieq (zS x) 3 else false
def zns:List AV->Option (Bool×List AV)
 | [.agg [.s .ins c,.i .i64 d,.i .i64 e,.s .slot f,.s .slot g,.i .i64 h,.i .i64 j,.b k,.i .i64 l,.i .i64 m,.i .i64 n,.b o,.i .i64 p,.b q,.s .int r]]=>some ((zzf (⟨c,d,e,f,g,⟨h,j,k⟩,l,⟨m,n,o,p⟩,q,r⟩:Guest)),[.one (.i .i64 3)])
 | _=>none
theorem zDg:vF 252 zns:=by
 refine ⟨zb5.1,fun w avs xs rs hrep h=>?_⟩;unfold zns at h;split at h
 .obtain ⟨hc,rfl⟩:=zdJ h;obtain ⟨h1,h2⟩:=zk2 hc;exact zb5.2 w _ xs _ hrep (congr (congrArg (fun c v=>some (c,[AV.one (CV.i .i64 v)])) h1) (qE h2))
 .cases h
def z4s:zO:=[(252,zns)]++zlJ
theorem zWF:zF z4s:=zh zDg zho
@[simp] abbrev zuv (h:Host)(m g:Int):Bool:=bif zd8 h m g then ieq (zS (gOf h m g)) 3 else false
@[simp] abbrev zut (h:Host)(m g:Int):Host:=(zbs h m g).1
@[simp] abbrev zuu (h:Host)(m g:Int):Bool:=(zbs h m g).2
def zDB:Run:=rF3 dH dI dI fun b c d=>(zuv b c d,[aH (zut b c d),aB (zuu b c d)])
def ztm (N:Nat)(a0:Host)(a1 a2:Int):OA:=
 let y6:=(zk a0);let y9:=(ix y6.Mons a1 zf).Guests;let y1:=(ix y9 a2 zx);let y7:=(zh8 y1);let y8:=(zcu y7);let y4:=(zjh y6 y6.Buffer a1 a2 y8 (zeR false) false);let y0:=(zeE y6 y6.Buffer a1 a2 y8 (zeR false) false);let y3:=(ix y0.Mons a1 zf);let y5:=(ix y3.Guests a2 zx);let y2:=({ y1 with Prog:=y5.Prog,Written:=y5.Written,Live:=y5.Live,Seen:=y5.Seen }:Guest); (oN (zbD a0) (oN (zgi y6 a1 a2) (cond (nB (zh1 y6 a1 a2)) (some [(aH y6),(aB false)]) (oN (inb a1 (ln y6.Mons)) (oN (inb a2 (ln y9)) (oN (zzf y1) (oN (zpp y1) (oN (zfF y7) (oN (zrB false) (oN (zji y6 y6.Buffer a1 a2 y8 (zeR false) false) (cond (nB (zgh y6 y6.Buffer a1 a2 y8 (zeR false) false)) (oN (inb a1 (ln y0.Mons)) (oN (zfF y7) (oN (zlP y8 false) (oN (zdN y2 (zgc y8 false)) (oN (inb a2 (ln y3.Guests)) (share (up y0.Mons a1 ({ y3 with Guests:=(up y3.Guests a2 (zdg y2 (zgc y8 false))) }:Mon)) (fun x4=>(some [(aH ({ y0 with Mons:=x4 }:Host)),(aB true)])))))))) (oN (inb a1 (ln y0.Mons)) (oN (zhV y7) (oN (zrz y0.Memory y4 (zdT y7)) (oN (zxS y2 (zmd y0.Memory y4 (zdT y7))) (oN (inb a2 (ln y3.Guests)) (share (up y0.Mons a1 ({ y3 with Guests:=(up y3.Guests a2 (zsZ y2 (zmd y0.Memory y4 (zdT y7)))) }:Mon)) (fun x4=>(some [(aH ({ y0 with Mons:=x4 }:Host)),(aB true)])))))))))))))))))))
abbrev zzg (x:Guest):Bool:=bif zek x then ieq (zS x) 4 else false
def znt:List AV->Option (Bool×List AV)
 | [.agg [.s .ins c,.i .i64 d,.i .i64 e,.s .slot f,.s .slot g,.i .i64 h,.i .i64 j,.b k,.i .i64 l,.i .i64 m,.i .i64 n,.b o,.i .i64 p,.b q,.s .int r]]=>some ((zzg (⟨c,d,e,f,g,⟨h,j,k⟩,l,⟨m,n,o,p⟩,q,r⟩:Guest)),[.one (.i .i64 4)])
 | _=>none
theorem zDh:vF 252 znt:=by
 refine ⟨zb5.1,fun w avs xs rs hrep h=>?_⟩;unfold znt at h;split at h
 .obtain ⟨hc,rfl⟩:=zdJ h;obtain ⟨h1,h2⟩:=zk2 hc;exact zb5.2 w _ xs _ hrep (congr (congrArg (fun c v=>some (c,[AV.one (CV.i .i64 v)])) h1) (qE h2))
 .cases h
def z4t:zO:=[(252,znt)]++zlJ
theorem zWG:zF z4t:=zh zDh zho
@[simp] abbrev zuy (h:Host)(m g:Int):Bool:=bif zd8 h m g then ieq (zS (gOf h m g)) 4 else false
@[simp] abbrev zuw (h:Host)(m g:Int):Host:=(zbs h m g).1
@[simp] abbrev zux (h:Host)(m g:Int):Bool:=(zbs h m g).2
def zDC:Run:=rF3 dH dI dI fun b c d=>(zuy b c d,[aH (zuw b c d),aB (zux b c d)])
def ztn (N:Nat)(a0:Host)(a1 a2:Int):OA:=
 let y4:=(zk a0);let y8:=(ix y4.Mons a1 zf).Guests;let y1:=(ix y8 a2 zx);let y9:=(zh8 y1);let y5:=(zcu y9);let y7:=(zjh y4 y4.Buffer a1 a2 y5 (zeR true) false);let y0:=(zeE y4 y4.Buffer a1 a2 y5 (zeR true) false);let y3:=(ix y0.Mons a1 zf);let y6:=(ix y3.Guests a2 zx);let y2:=({ y1 with Prog:=y6.Prog,Written:=y6.Written,Live:=y6.Live,Seen:=y6.Seen }:Guest); (oN (zbD a0) (oN (zgi y4 a1 a2) (cond (nB (zh1 y4 a1 a2)) (some [(aH y4),(aB false)]) (oN (inb a1 (ln y4.Mons)) (oN (inb a2 (ln y8)) (oN (zzg y1) (oN (zpp y1) (oN (zfF y9) (oN (zrB true) (oN (zji y4 y4.Buffer a1 a2 y5 (zeR true) false) (cond (nB (zgh y4 y4.Buffer a1 a2 y5 (zeR true) false)) (oN (inb a1 (ln y0.Mons)) (oN (zfF y9) (oN (zlP y5 true) (oN (zdN y2 (zgc y5 true)) (oN (inb a2 (ln y3.Guests)) (share (up y0.Mons a1 ({ y3 with Guests:=(up y3.Guests a2 (zdg y2 (zgc y5 true))) }:Mon)) (fun x4=>(some [(aH ({ y0 with Mons:=x4 }:Host)),(aB true)])))))))) (oN (zhV y9) (oN (zh0 y0.Memory y7 (zdT y9) y1.A) (oN (inb a1 (ln y0.Mons)) (oN (zxZ y2) (oN (inb a2 (ln y3.Guests)) (share (up y0.Mons a1 ({ y3 with Guests:=(up y3.Guests a2 (zs7 y2)) }:Mon)) (fun x4=>(some [(aH ({ y0 with Memory:=(ziA y0.Memory y7 (zdT y9) y1.A),Mons:=x4 }:Host)),(aB true)])))))))))))))))))))
abbrev zzh (x:Guest):Bool:=bif zek x then ieq (zS x) 5 else false
def znu:List AV->Option (Bool×List AV)
 | [.agg [.s .ins c,.i .i64 d,.i .i64 e,.s .slot f,.s .slot g,.i .i64 h,.i .i64 j,.b k,.i .i64 l,.i .i64 m,.i .i64 n,.b o,.i .i64 p,.b q,.s .int r]]=>some ((zzh (⟨c,d,e,f,g,⟨h,j,k⟩,l,⟨m,n,o,p⟩,q,r⟩:Guest)),[.one (.i .i64 5)])
 | _=>none
theorem zDi:vF 252 znu:=by
 refine ⟨zb5.1,fun w avs xs rs hrep h=>?_⟩;unfold znu at h;split at h
 .obtain ⟨hc,rfl⟩:=zdJ h;obtain ⟨h1,h2⟩:=zk2 hc;exact zb5.2 w _ xs _ hrep (congr (congrArg (fun c v=>some (c,[AV.one (CV.i .i64 v)])) h1) (qE h2))
 .cases h
def z4u:zO:=[(252,znu)]++zlJ
theorem zWH:zF z4u:=zh zDi zho
@[simp] abbrev zuB (h:Host)(m g:Int):Bool:=bif zd8 h m g then ieq (zS (gOf h m g)) 5 else false
@[simp] abbrev zuz (h:Host)(m g:Int):Host:=(zbs h m g).1
@[simp] abbrev zuA (h:Host)(m g:Int):Bool:=(zbs h m g).2
def zDD:Run:=rF3 dH dI dI fun b c d=>(zuB b c d,[aH (zuz b c d),aB (zuA b c d)])
def zto (N:Nat)(a0:Host)(a1 a2:Int):OA:=
 let y8:=(zk a0);let y4:=(inb a1 (ln y8.Mons));let y2:=(ix y8.Mons a1 zf);let y10:=(inb a2 (ln y2.Guests));let y0:=(ix y2.Guests a2 zx);let y9:=(ap y2.Outs [(zfl y0.Prog y0.Pc).X]);let y16:=(up y8.Mons a1 ({ y2 with Outs:=y9 }:Mon));let y7:=y0.Ctl.Traps;let y5:=(up y8.Mons a1 ({ y2 with Guests:=(up y2.Guests a2 (zb3 y0 y7 5)) }:Mon)); (oN (zbD a0) (oN (zgi y8 a1 a2) (cond (nB (zh1 y8 a1 a2)) (some [(aH y8),(aB false)]) (oN y4 (oN y10 (oN (zzh y0) (oN y4 (oN (zpG y2.Traps y7 1) (cond (ieq (zmD y2.Traps y7 1) 2) (oN y4 (cond (ilt y2.Own 1000000000) (oN y4 (oN y4 (share (up y8.Mons a1 ({ y2 with Own:=(zG .i64 y2.Own 1) }:Mon)) (fun x4=>let y12:=(inb a1 (ln x4));let y3:=(ix x4 a1 zf);let y6:=(ix y3.Guests a2 zx);let y17:=(ap y3.Outs [(zfl y6.Prog y0.Pc).X]);let y1:=({ y0 with Prog:=y6.Prog,Written:=y6.Written,Live:=y6.Live,Seen:=y6.Seen }:Guest);let y11:=(up x4 a1 ({ y3 with Guests:=(up y3.Guests a2 (zb3 y1 y7 5)) }:Mon)); (oN (zdv y1 y7 5) (cond (zcZ y1 y7 5) (oN y12 (cond (ilt (ln y3.Outs) 40) (oN y12 (oN (ze8 y6.Prog y0.Pc) (oN (few (ln y17)) (oN y12 (oN (cond (ieq a1 a1) true false) (share (up x4 a1 ({ y3 with Outs:=y17 }:Mon)) (fun x5=>let y13:=(ix x5 a1 zf); (oN (inb a1 (ln x5)) (oN (inb a2 (ln y13.Guests)) (share (up x5 a1 ({ y13 with Guests:=(up y13.Guests a2 (zb3 y1 y7 5)) }:Mon)) (fun x6=>(some [(aH ({ y8 with Mons:=x6 }:Host)),(aB true)])))))))))))) (oN y12 (oN (inb a2 (ln y3.Guests)) (share y11 (fun x5=>(some [(aH ({ y8 with Mons:=x5 }:Host)),(aB true)]))))))) (oN y12 (oN (inb a2 (ln y3.Guests)) (share y11 (fun x5=>(some [(aH ({ y8 with Mons:=x5 }:Host)),(aB true)]))))))))))) (oN (zdv y0 y7 5) (cond (zcZ y0 y7 5) (oN y4 (cond (ilt (ln y2.Outs) 40) (oN y4 (oN (ze8 y0.Prog y0.Pc) (oN (few (ln y9)) (oN y4 (oN (cond (ieq a1 a1) true false) (share y16 (fun x4=>let y14:=(ix x4 a1 zf); (oN (inb a1 (ln x4)) (oN (inb a2 (ln y14.Guests)) (share (up x4 a1 ({ y14 with Guests:=(up y14.Guests a2 (zb3 y0 y7 5)) }:Mon)) (fun x5=>(some [(aH ({ y8 with Mons:=x5 }:Host)),(aB true)])))))))))))) (oN y4 (oN y10 (share y5 (fun x4=>(some [(aH ({ y8 with Mons:=x4 }:Host)),(aB true)]))))))) (oN y4 (oN y10 (share y5 (fun x4=>(some [(aH ({ y8 with Mons:=x4 }:Host)),(aB true)]))))))))) (oN (zdv y0 y7 5) (cond (zcZ y0 y7 5) (oN y4 (cond (ilt (ln y2.Outs) 40) (oN y4 (oN (ze8 y0.Prog y0.Pc) (oN (few (ln y9)) (oN y4 (oN (cond (ieq a1 a1) true false) (share y16 (fun x4=>let y15:=(ix x4 a1 zf); (oN (inb a1 (ln x4)) (oN (inb a2 (ln y15.Guests)) (share (up x4 a1 ({ y15 with Guests:=(up y15.Guests a2 (zb3 y0 y7 5)) }:Mon)) (fun x5=>(some [(aH ({ y8 with Mons:=x5 }:Host)),(aB true)])))))))))))) (oN y4 (oN y10 (share y5 (fun x4=>(some [(aH ({ y8 with Mons:=x4 }:Host)),(aB true)]))))))) (oN y4 (oN y10 (share y5 (fun x4=>(some [(aH ({ y8 with Mons:=x4 }:Host)),(aB true)]))))))))))))))))
abbrev zzi (x:Guest):Bool:=bif zek x then ieq (zS x) 6 else false
def znv:List AV->Option (Bool×List AV)
 | [.agg [.s .ins c,.i .i64 d,.i .i64 e,.s .slot f,.s .slot g,.i .i64 h,.i .i64 j,.b k,.i .i64 l,.i .i64 m,.i .i64 n,.b o,.i .i64 p,.b q,.s .int r]]=>some ((zzi (⟨c,d,e,f,g,⟨h,j,k⟩,l,⟨m,n,o,p⟩,q,r⟩:Guest)),[.one (.i .i64 6)])
 | _=>none
theorem zDj:vF 252 znv:=by
 refine ⟨zb5.1,fun w avs xs rs hrep h=>?_⟩;unfold znv at h;split at h
 .obtain ⟨hc,rfl⟩:=zdJ h;obtain ⟨h1,h2⟩:=zk2 hc;exact zb5.2 w _ xs _ hrep (congr (congrArg (fun c v=>some (c,[AV.one (CV.i .i64 v)])) h1) (qE h2))
 .cases h
def z4v:zO:=[(252,znv)]++zlJ
theorem zWI:zF z4v:=zh zDj zho
@[simp] abbrev zuE (h:Host)(m g:Int):Bool:=bif zd8 h m g then ieq (zS (gOf h m g)) 6 else false
@[simp] abbrev zuC (h:Host)(m g:Int):Host:=(zbs h m g).1
@[simp] abbrev zuD (h:Host)(m g:Int):Bool:=(zbs h m g).2
def zDE:Run:=rF3 dH dI dI fun b c d=>(zuE b c d,[aH (zuC b c d),aB (zuD b c d)])
def ztp (N:Nat)(a0:Host)(a1 a2:Int):OA:=
 let y3:=(zk a0);let y4:=(inb a1 (ln y3.Mons));let y0:=(ix y3.Mons a1 zf);let y5:=(inb a2 (ln y0.Guests));let y1:=(ix y0.Guests a2 zx);let y2:=(up y3.Mons a1 ({ y0 with Guests:=(up y0.Guests a2 (zb3 y1 y1.Ctl.Traps 6)) }:Mon)); (oN (zbD a0) (oN (zgi y3 a1 a2) (cond (nB (zh1 y3 a1 a2)) (some [(aH y3),(aB false)]) (oN y4 (oN y5 (oN (zzi y1) (oN (zdv y1 y1.Ctl.Traps 6) (cond (zcZ y1 y1.Ctl.Traps 6) (oN y4 (oN y5 (share y2 (fun x4=>(some [(aH ({ y3 with Mons:=x4 }:Host)),(aB true)]))))) (oN y4 (oN y5 (share y2 (fun x4=>(some [(aH ({ y3 with Mons:=x4 }:Host)),(aB true)])))))))))))))
abbrev zzj (x:Guest):Bool:=bif zek x then ieq (zS x) 7 else false
def znw:List AV->Option (Bool×List AV)
 | [.agg [.s .ins c,.i .i64 d,.i .i64 e,.s .slot f,.s .slot g,.i .i64 h,.i .i64 j,.b k,.i .i64 l,.i .i64 m,.i .i64 n,.b o,.i .i64 p,.b q,.s .int r]]=>some ((zzj (⟨c,d,e,f,g,⟨h,j,k⟩,l,⟨m,n,o,p⟩,q,r⟩:Guest)),[.one (.i .i64 7)])
 | _=>none
theorem zDk:vF 252 znw:=by
 refine ⟨zb5.1,fun w avs xs rs hrep h=>?_⟩;unfold znw at h;split at h
 .obtain ⟨hc,rfl⟩:=zdJ h;obtain ⟨h1,h2⟩:=zk2 hc;exact zb5.2 w _ xs _ hrep (congr (congrArg (fun c v=>some (c,[AV.one (CV.i .i64 v)])) h1) (qE h2))
 .cases h
def z4w:zO:=[(252,znw)]++zlJ
theorem zWJ:zF z4w:=zh zDk zho
@[simp] abbrev zuH (h:Host)(m g:Int):Bool:=bif zd8 h m g then ieq (zS (gOf h m g)) 7 else false
@[simp] abbrev zuF (h:Host)(m g:Int):Host:=(zbs h m g).1
@[simp] abbrev zuG (h:Host)(m g:Int):Bool:=(zbs h m g).2
def zDF:Run:=rF3 dH dI dI fun b c d=>(zuH b c d,[aH (zuF b c d),aB (zuG b c d)])
def ztq (N:Nat)(a0:Host)(a1 a2:Int):OA:=
 let y9:=(zk a0);let y4:=(inb a1 (ln y9.Mons));let y2:=(ix y9.Mons a1 zf);let y8:=(inb a2 (ln y2.Guests));let y0:=(ix y2.Guests a2 zx);let y6:=y0.Ctl.Traps;let y3:=(up y9.Mons a1 ({ y2 with Guests:=(up y2.Guests a2 (zb3 y0 y6 7)) }:Mon)); (oN (zbD a0) (oN (zgi y9 a1 a2) (cond (nB (zh1 y9 a1 a2)) (some [(aH y9),(aB false)]) (oN y4 (oN y8 (oN (zzj y0) (oN y4 (oN (zpG y2.Traps y6 2) (cond (ieq (zmD y2.Traps y6 2) 2) (oN y4 (cond (ilt y2.Own 1000000000) (oN y4 (oN y4 (share (up y9.Mons a1 ({ y2 with Own:=(zG .i64 y2.Own 1) }:Mon)) (fun x4=>let y5:=(ix x4 a1 zf);let y7:=(ix y5.Guests a2 zx);let y1:=({ y0 with Prog:=y7.Prog,Written:=y7.Written,Live:=y7.Live,Seen:=y7.Seen }:Guest);let y10:=(up x4 a1 ({ y5 with Guests:=(up y5.Guests a2 (zb3 y1 y6 7)) }:Mon)); (oN (zdv y1 y6 7) (cond (zcZ y1 y6 7) (oN (inb a1 (ln x4)) (oN (inb a2 (ln y5.Guests)) (share y10 (fun x5=>(some [(aH ({ y9 with Mons:=x5 }:Host)),(aB true)]))))) (oN (inb a1 (ln x4)) (oN (inb a2 (ln y5.Guests)) (share y10 (fun x5=>(some [(aH ({ y9 with Mons:=x5 }:Host)),(aB true)]))))))))))) (oN (zdv y0 y6 7) (cond (zcZ y0 y6 7) (oN y4 (oN y8 (share y3 (fun x4=>(some [(aH ({ y9 with Mons:=x4 }:Host)),(aB true)]))))) (oN y4 (oN y8 (share y3 (fun x4=>(some [(aH ({ y9 with Mons:=x4 }:Host)),(aB true)]))))))))) (oN (zdv y0 y6 7) (cond (zcZ y0 y6 7) (oN y4 (oN y8 (share y3 (fun x4=>(some [(aH ({ y9 with Mons:=x4 }:Host)),(aB true)]))))) (oN y4 (oN y8 (share y3 (fun x4=>(some [(aH ({ y9 with Mons:=x4 }:Host)),(aB true)]))))))))))))))))
theorem zDo (a0:Host)(a1 a2:Int)(hc:zum a0 a1 a2=true):∃N,ztj N a0 a1 a2=some [aH (zuk a0 a1 a2),aB (zul a0 a1 a2)]:=by
 obtain ⟨hc,hw⟩:=zk2 hc;have hs:=(zM a0).1 (zC.1 hc);refine ⟨0,?_⟩
 show _=some (zfh (zbs a0 a1 a2))
 unfold ztj oN nB
 conv=>zeta
 refine must (zbp ((zM _).2 hs)) (must (zbp ((zM _).2 hs)) (brN (fun hh=>?_) (fun hh=>?_)))
 .rw [zk0 hh];rfl
 obtain ⟨g1,g2,g3⟩:=zc8 hh;have hx:=zn0 hs g2 g3;have hk:zS (gOf a0 a1 a2)=0:=qE hw;rw[ziE hh,hk];refine must (zB g2) (must (zB g3) (must (zhE rfl hw) ?_));rfl
theorem zn9:vF 190 zDy:=kF3 zWC zu zb9 zh4 (zo []) zDo
theorem zDp (a0:Host)(a1 a2:Int)(hc:zup a0 a1 a2=true):∃N,ztk N a0 a1 a2=some [aH (zun a0 a1 a2),aB (zuo a0 a1 a2)]:=by
 obtain ⟨hc,hw⟩:=zk2 hc;have hs:=(zM a0).1 (zC.1 hc);refine ⟨0,?_⟩
 show _=some (zfh (zbs a0 a1 a2))
 unfold ztk oN nB
 conv=>zeta
 refine must (zbp ((zM _).2 hs)) (must (zbp ((zM _).2 hs)) (brN (fun hh=>?_) (fun hh=>?_)))
 .rw [zk0 hh];rfl
 obtain ⟨g1,g2,g3⟩:=zc8 hh;have hx:=zn0 hs g2 g3;have hk:zS (gOf a0 a1 a2)=1:=qE hw;rw[ziE hh,hk];refine must (zB g2) (must (zB g3) (must (zhE rfl hw) ?_))
 show _=some (zfh (zjW a0 a1 a2 (interrupted (gOf a0 a1 a2)),true))
 exact must (zB g2) (must (zbp hx) (must (zB g3) rfl))
theorem zzq:vF 190 zDz:=kF3 zWD zu zb9 zh4 (zo []) zDp
theorem zDq (a0:Host)(a1 a2:Int)(hc:zus a0 a1 a2=true):∃N,ztl N a0 a1 a2=some [aH (zuq a0 a1 a2),aB (zur a0 a1 a2)]:=by
 obtain ⟨hc,hw⟩:=zk2 hc;have hs:=(zM a0).1 (zC.1 hc);refine ⟨0,?_⟩
 show _=some (zfh (zbs a0 a1 a2))
 unfold ztl oN nB
 conv=>zeta
 refine must (zbp ((zM _).2 hs)) (must (zbp ((zM _).2 hs)) (brN (fun hh=>?_) (fun hh=>?_)))
 .rw [zk0 hh];rfl
 obtain ⟨g1,g2,g3⟩:=zc8 hh;have hx:=zn0 hs g2 g3;have hk:zS (gOf a0 a1 a2)=2:=qE hw;rw[ziE hh,hk];refine must (zB g2) (must (zB g3) (must (zhE rfl hw) ?_))
 show _=some (zfh (zjW a0 a1 a2 (plainly (gOf a0 a1 a2)),true))
 exact must (zB g2) (must (zbp hx) (must (zB g3) rfl))
theorem zzr:vF 190 zDA:=kF3 zWE zu zb9 zh4 (zo []) zDq
theorem zDr (a0:Host)(a1 a2:Int)(hc:zuv a0 a1 a2=true):∃N,ztm N a0 a1 a2=some [aH (zut a0 a1 a2),aB (zuu a0 a1 a2)]:=by
 obtain ⟨hc,hw⟩:=zk2 hc;have hs:=(zM a0).1 (zC.1 hc);refine ⟨0,?_⟩
 show _=some (zfh (zbs a0 a1 a2))
 unfold ztm oN nB
 conv=>zeta
 refine must (zbp ((zM _).2 hs)) (must (zbp ((zM _).2 hs)) (brN (fun hh=>?_) (fun hh=>?_)))
 .rw [zk0 hh];rfl
 obtain ⟨g1,g2,g3⟩:=zc8 hh;have hx:=zn0 hs g2 g3;have hk:zS (gOf a0 a1 a2)=3:=qE hw;rw[ziE hh,hk];refine must (zB g2) (must (zB g3) (must (zhE rfl hw) ?_))
 show _=some (zfh (ziF (zlN a0 a1 a2 (gOf a0 a1 a2) false) a1 a2 (gOf a0 a1 a2) false,true))
 have k:=zv1 (b:=a0.Buffer) (page:=zbc (address (gOf a0 a1 a2))) (need:=zbZ false) (io:=false) hs hh;have F:=zCE k g2 g3;have e3:(ix (ix (zeE (zk a0) (zk a0).Buffer a1 a2 (zcu (zh8 (ix (ix (zk a0).Mons a1 zf).Guests a2 zx))) (zeR false) false).Mons a1 zf).Guests a2 zx)=(ix (ix (zk a0).Mons a1 zf).Guests a2 zx):=congrArg (fun l=>ix l a2 gZ) (zIs k.gs a1);rw[e3];unfold ziF;refine must rfl (must rfl (must rfl (must (zbp ((zM _).2 hs)) (brN (fun h=>?_) (fun h=>?_)))))
 .rw [show (zlN a0 a1 a2 (gOf a0 a1 a2) false).2.2=false from h]
  exact must (zB F.hm) (must rfl (must rfl (must (zbp hx) (must (zB F.hg) rfl))))
 .rw [show (zlN a0 a1 a2 (gOf a0 a1 a2) false).2.2=true from h]
  exact must (zB F.hm) (must rfl (must rfl (must (zbp hx) (must (zB F.hg) rfl))))
theorem zzs:vF 190 zDB:=kF3 zWF zu zb9 zh4 (zo []) zDr
theorem zDs (a0:Host)(a1 a2:Int)(hc:zuy a0 a1 a2=true):∃N,ztn N a0 a1 a2=some [aH (zuw a0 a1 a2),aB (zux a0 a1 a2)]:=by
 obtain ⟨hc,hw⟩:=zk2 hc;have hs:=(zM a0).1 (zC.1 hc);refine ⟨0,?_⟩
 show _=some (zfh (zbs a0 a1 a2))
 unfold ztn oN nB
 conv=>zeta
 refine must (zbp ((zM _).2 hs)) (must (zbp ((zM _).2 hs)) (brN (fun hh=>?_) (fun hh=>?_)))
 .rw [zk0 hh];rfl
 obtain ⟨g1,g2,g3⟩:=zc8 hh;have hx:=zn0 hs g2 g3;have hk:zS (gOf a0 a1 a2)=4:=qE hw;rw[ziE hh,hk];refine must (zB g2) (must (zB g3) (must (zhE rfl hw) ?_))
 show _=some (zfh (ziF (zlN a0 a1 a2 (gOf a0 a1 a2) true) a1 a2 (gOf a0 a1 a2) true,true))
 have k:=zv1 (b:=a0.Buffer) (page:=zbc (address (gOf a0 a1 a2))) (need:=zbZ true) (io:=false) hs hh;have F:=zCE k g2 g3;have e3:(ix (ix (zeE (zk a0) (zk a0).Buffer a1 a2 (zcu (zh8 (ix (ix (zk a0).Mons a1 zf).Guests a2 zx))) (zeR true) false).Mons a1 zf).Guests a2 zx)=(ix (ix (zk a0).Mons a1 zf).Guests a2 zx):=congrArg (fun l=>ix l a2 gZ) (zIs k.gs a1);rw[e3];unfold ziF;refine must rfl (must rfl (must rfl (must (zbp ((zM _).2 hs)) (brN (fun h=>?_) (fun h=>?_)))))
 .rw [show (zlN a0 a1 a2 (gOf a0 a1 a2) true).2.2=false from h]
  exact must (zB F.hm) (must rfl (must rfl (must (zbp hx) (must (zB F.hg) rfl))))
 .rw [show (zlN a0 a1 a2 (gOf a0 a1 a2) true).2.2=true from h]
  exact must rfl (must (zbp k.shape.1.1) (must (zB F.hm) (must (zbp hx) (must (zB F.hg) rfl))))
theorem zzt:vF 190 zDC:=kF3 zWG zu zb9 zh4 (zo []) zDs
theorem z3D {a0:Host}{a1 a2:Int}(hx:SmG (gOf a0 a1 a2))(g2:hasB a1 (ln a0.Mons)=true)(g3:hasB a2 (ln (ix a0.Mons a1 mZ).Guests)=true) :
 (cond (zdv (ix (ix (zk a0).Mons a1 zf).Guests a2 zx) (ix (ix (zk a0).Mons a1 zf).Guests a2 zx).Ctl.Traps 5) (cond (zcZ (ix (ix (zk a0).Mons a1 zf).Guests a2 zx) (ix (ix (zk a0).Mons a1 zf).Guests a2 zx).Ctl.Traps 5) (cond (inb a1 (ln (zk a0).Mons)) (cond (ilt (ln (ix (zk a0).Mons a1 zf).Outs) 40) (cond (inb a1 (ln (zk a0).Mons)) (cond (ze8 (ix (ix (zk a0).Mons a1 zf).Guests a2 zx).Prog (ix (ix (zk a0).Mons a1 zf).Guests a2 zx).Pc) (cond (few (ln (ap (ix (zk a0).Mons a1 zf).Outs [(zfl (ix (ix (zk a0).Mons a1 zf).Guests a2 zx).Prog (ix (ix (zk a0).Mons a1 zf).Guests a2 zx).Pc).X]))) (cond (inb a1 (ln (zk a0).Mons)) (cond (cond (ieq a1 a1) true false) (share (up (zk a0).Mons a1 ({ (ix (zk a0).Mons a1 zf) with Outs:=(ap (ix (zk a0).Mons a1 zf).Outs [(zfl (ix (ix (zk a0).Mons a1 zf).Guests a2 zx).Prog (ix (ix (zk a0).Mons a1 zf).Guests a2 zx).Pc).X]) }:Mon)) (fun x4=>(cond (inb a1 (ln x4)) (cond (inb a2 (ln (ix x4 a1 zf).Guests)) (share (up x4 a1 ({ (ix x4 a1 zf) with Guests:=(up (ix x4 a1 zf).Guests a2 (zb3 (ix (ix (zk a0).Mons a1 zf).Guests a2 zx) (ix (ix (zk a0).Mons a1 zf).Guests a2 zx).Ctl.Traps 5)) }:Mon)) (fun x5=>(some [(.agg (zbf ({ (zk a0) with Mons:=x5 }:Host))),(.one (.b true))]))) none) none))) none) none) none) none) none) (cond (inb a1 (ln (zk a0).Mons)) (cond (inb a2 (ln (ix (zk a0).Mons a1 zf).Guests)) (share (up (zk a0).Mons a1 ({ (ix (zk a0).Mons a1 zf) with Guests:=(up (ix (zk a0).Mons a1 zf).Guests a2 (zb3 (ix (ix (zk a0).Mons a1 zf).Guests a2 zx) (ix (ix (zk a0).Mons a1 zf).Guests a2 zx).Ctl.Traps 5)) }:Mon)) (fun x4=>(some [(.agg (zbf ({ (zk a0) with Mons:=x4 }:Host))),(.one (.b true))]))) none) none)) none) (cond (inb a1 (ln (zk a0).Mons)) (cond (inb a2 (ln (ix (zk a0).Mons a1 zf).Guests)) (share (up (zk a0).Mons a1 ({ (ix (zk a0).Mons a1 zf) with Guests:=(up (ix (zk a0).Mons a1 zf).Guests a2 (zb3 (ix (ix (zk a0).Mons a1 zf).Guests a2 zx) (ix (ix (zk a0).Mons a1 zf).Guests a2 zx).Ctl.Traps 5)) }:Mon)) (fun x4=>(some [(.agg (zbf ({ (zk a0) with Mons:=x4 }:Host))),(.one (.b true))]))) none) none)) none)=some (zfh (zjW (zfL a0 a1 (gOf a0 a1 a2) 5) a1 a2 (ziG (gOf a0 a1 a2) (gOf a0 a1 a2).Ctl.Traps 5),true)):=by
 refine must (zbp hx) (br (fun h1=>must (zB g2) (br (fun h3=>?_) (fun h3=>?_))) (fun h1=>?_))
 .rw [zTp (h:=a0) (m:=a1) (x:=gOf a0 a1 a2) (w:=5) h1 rfl h3];refine must (zB g2) (must rfl (must (z3C h3) (must (zB g2) (must (zZf _) (shr (must (zB (zd7 g2)) (must ?_ rfl)))))));rw[zJG g2];exact zB g3
 .rw [zOz (h:=a0) (m:=a1) (x:=gOf a0 a1 a2) (w:=5) h3];exact must (zB g2) (must (zB g3) rfl)
 .rw [z0l (h:=a0) (m:=a1) (x:=gOf a0 a1 a2) (w:=5) h1];exact must (zB g2) (must (zB g3) rfl)
theorem z6O {a0:Host}{x4:List Mon}{a1 a2:Int}(hx:SmG (gOf a0 a1 a2))(g2:hasB a1 (ln x4)=true)(g3:hasB a2 (ln (ix x4 a1 mZ).Guests)=true)(e:(ix (ix x4 a1 zf).Guests a2 zx)=gOf a0 a1 a2) :
 (cond (zdv ({ (ix (ix (zk a0).Mons a1 zf).Guests a2 zx) with Prog:=(ix (ix x4 a1 zf).Guests a2 zx).Prog,Written:=(ix (ix x4 a1 zf).Guests a2 zx).Written,Live:=(ix (ix x4 a1 zf).Guests a2 zx).Live,Seen:=(ix (ix x4 a1 zf).Guests a2 zx).Seen }:Guest) (ix (ix (zk a0).Mons a1 zf).Guests a2 zx).Ctl.Traps 5) (cond (zcZ ({ (ix (ix (zk a0).Mons a1 zf).Guests a2 zx) with Prog:=(ix (ix x4 a1 zf).Guests a2 zx).Prog,Written:=(ix (ix x4 a1 zf).Guests a2 zx).Written,Live:=(ix (ix x4 a1 zf).Guests a2 zx).Live,Seen:=(ix (ix x4 a1 zf).Guests a2 zx).Seen }:Guest) (ix (ix (zk a0).Mons a1 zf).Guests a2 zx).Ctl.Traps 5) (cond (inb a1 (ln x4)) (cond (ilt (ln (ix x4 a1 zf).Outs) 40) (cond (inb a1 (ln x4)) (cond (ze8 (ix (ix x4 a1 zf).Guests a2 zx).Prog (ix (ix (zk a0).Mons a1 zf).Guests a2 zx).Pc) (cond (few (ln (ap (ix x4 a1 zf).Outs [(zfl (ix (ix x4 a1 zf).Guests a2 zx).Prog (ix (ix (zk a0).Mons a1 zf).Guests a2 zx).Pc).X]))) (cond (inb a1 (ln x4)) (cond (cond (ieq a1 a1) true false) (share (up x4 a1 ({ (ix x4 a1 zf) with Outs:=(ap (ix x4 a1 zf).Outs [(zfl (ix (ix x4 a1 zf).Guests a2 zx).Prog (ix (ix (zk a0).Mons a1 zf).Guests a2 zx).Pc).X]) }:Mon)) (fun x5=>(cond (inb a1 (ln x5)) (cond (inb a2 (ln (ix x5 a1 zf).Guests)) (share (up x5 a1 ({ (ix x5 a1 zf) with Guests:=(up (ix x5 a1 zf).Guests a2 (zb3 ({ (ix (ix (zk a0).Mons a1 zf).Guests a2 zx) with Prog:=(ix (ix x4 a1 zf).Guests a2 zx).Prog,Written:=(ix (ix x4 a1 zf).Guests a2 zx).Written,Live:=(ix (ix x4 a1 zf).Guests a2 zx).Live,Seen:=(ix (ix x4 a1 zf).Guests a2 zx).Seen }:Guest) (ix (ix (zk a0).Mons a1 zf).Guests a2 zx).Ctl.Traps 5)) }:Mon)) (fun x6=>(some [(.agg (zbf ({ (zk a0) with Mons:=x6 }:Host))),(.one (.b true))]))) none) none))) none) none) none) none) none) (cond (inb a1 (ln x4)) (cond (inb a2 (ln (ix x4 a1 zf).Guests)) (share (up x4 a1 ({ (ix x4 a1 zf) with Guests:=(up (ix x4 a1 zf).Guests a2 (zb3 ({ (ix (ix (zk a0).Mons a1 zf).Guests a2 zx) with Prog:=(ix (ix x4 a1 zf).Guests a2 zx).Prog,Written:=(ix (ix x4 a1 zf).Guests a2 zx).Written,Live:=(ix (ix x4 a1 zf).Guests a2 zx).Live,Seen:=(ix (ix x4 a1 zf).Guests a2 zx).Seen }:Guest) (ix (ix (zk a0).Mons a1 zf).Guests a2 zx).Ctl.Traps 5)) }:Mon)) (fun x5=>(some [(.agg (zbf ({ (zk a0) with Mons:=x5 }:Host))),(.one (.b true))]))) none) none)) none) (cond (inb a1 (ln x4)) (cond (inb a2 (ln (ix x4 a1 zf).Guests)) (share (up x4 a1 ({ (ix x4 a1 zf) with Guests:=(up (ix x4 a1 zf).Guests a2 (zb3 ({ (ix (ix (zk a0).Mons a1 zf).Guests a2 zx) with Prog:=(ix (ix x4 a1 zf).Guests a2 zx).Prog,Written:=(ix (ix x4 a1 zf).Guests a2 zx).Written,Live:=(ix (ix x4 a1 zf).Guests a2 zx).Live,Seen:=(ix (ix x4 a1 zf).Guests a2 zx).Seen }:Guest) (ix (ix (zk a0).Mons a1 zf).Guests a2 zx).Ctl.Traps 5)) }:Mon)) (fun x5=>(some [(.agg (zbf ({ (zk a0) with Mons:=x5 }:Host))),(.one (.b true))]))) none) none)) none)=some (zfh (zjW (zfL { a0 with Mons:=x4 } a1 (gOf a0 a1 a2) 5) a1 a2 (ziG (gOf a0 a1 a2) (gOf a0 a1 a2).Ctl.Traps 5),true)):=by
 rw[e];refine must (zbp hx) (br (fun h1=>must (zB g2) (br (fun h3=>?_) (fun h3=>?_))) (fun h1=>?_))
 .rw [zTp (h:={ a0 with Mons:=x4 }) (m:=a1) (x:=gOf a0 a1 a2) (w:=5) h1 rfl h3];refine must (zB g2) (must rfl (must (z3C h3) (must (zB g2) (must (zZf _) (shr (must (zB (zd7 (h:={ a0 with Mons:=x4 }) g2)) (must ?_ rfl)))))));rw[zJG (h:={ a0 with Mons:=x4 }) g2];exact zB g3
 .rw [zOz (h:={ a0 with Mons:=x4 }) (m:=a1) (x:=gOf a0 a1 a2) (w:=5) h3];exact must (zB g2) (must (zB g3) rfl)
 .rw [z0l (h:={ a0 with Mons:=x4 }) (m:=a1) (x:=gOf a0 a1 a2) (w:=5) h1];exact must (zB g2) (must (zB g3) rfl)
theorem zDt (a0:Host)(a1 a2:Int)(hc:zuB a0 a1 a2=true):∃N,zto N a0 a1 a2=some [aH (zuz a0 a1 a2),aB (zuA a0 a1 a2)]:=by
 obtain ⟨hc,hw⟩:=zk2 hc;have hs:=(zM a0).1 (zC.1 hc);refine ⟨0,?_⟩
 show _=some (zfh (zbs a0 a1 a2))
 unfold zto oN nB
 conv=>zeta
 refine must (zbp ((zM _).2 hs)) (must (zbp ((zM _).2 hs)) (brN (fun hh=>?_) (fun hh=>?_)))
 .rw [zk0 hh];rfl
 obtain ⟨g1,g2,g3⟩:=zc8 hh;have hx:=zn0 hs g2 g3;have hk:zS (gOf a0 a1 a2)=5:=qE hw;rw[ziE hh,hk];refine must (zB g2) (must (zB g3) (must (zhE rfl hw) ?_))
 show _=some (zfh (zuP a0 a1 a2 (gOf a0 a1 a2) 5,true))
 refine must (zB g2) (must rfl (br (fun h0=>must (zB g2) (br (fun h9=>must (zB g2) (must (zB g2) (shr ?_))) (fun h9=>?_))) (fun h0=>?_)))
 .rw [zmq (zWc (h:=a0) (m:=a1) (x:=gOf a0 a1 a2) (w:=5) rfl h0 h9)];have eM:=zJG g2 { ix a0.Mons a1 mZ with Own:=zG .i64 (ix a0.Mons a1 mZ).Own 1 };refine z6O hx (zd7 g2) ?_ ?_
  .show hasB a2 (ln (ix (up a0.Mons a1 _) a1 mZ).Guests)=true
   rw[eM];exact g3
  .show ix (ix (up a0.Mons a1 _) a1 mZ).Guests a2 gZ=_
   rw[eM];rfl
 .rw [zmq (zWb (h:=a0) (m:=a1) (x:=gOf a0 a1 a2) (w:=5) h9)];exact z3D hx g2 g3
 .rw [zmq (zWa (h:=a0) (m:=a1) (x:=gOf a0 a1 a2) (w:=5) h0)];exact z3D hx g2 g3
theorem zzu:vF 190 zDD:=kF3 zWH zu zb9 zh4 (zo []) zDt
theorem zDu (a0:Host)(a1 a2:Int)(hc:zuE a0 a1 a2=true):∃N,ztp N a0 a1 a2=some [aH (zuC a0 a1 a2),aB (zuD a0 a1 a2)]:=by
 obtain ⟨hc,hw⟩:=zk2 hc;have hs:=(zM a0).1 (zC.1 hc);refine ⟨0,?_⟩
 show _=some (zfh (zbs a0 a1 a2))
 unfold ztp oN nB
 conv=>zeta
 refine must (zbp ((zM _).2 hs)) (must (zbp ((zM _).2 hs)) (brN (fun hh=>?_) (fun hh=>?_)))
 .rw [zk0 hh];rfl
 obtain ⟨g1,g2,g3⟩:=zc8 hh;have hx:=zn0 hs g2 g3;have hk:zS (gOf a0 a1 a2)=6:=qE hw;rw[ziE hh,hk];refine must (zB g2) (must (zB g3) (must (zhE rfl hw) ?_))
 show _=some (zfh (zuP a0 a1 a2 (gOf a0 a1 a2) 6,true))
 rw[zmq (z5E (h:=a0) (m:=a1) (x:=gOf a0 a1 a2)),zKp (w:=6) rfl];exact must (zbp hx) (br (fun h1=>must (zB g2) (must (zB g3) rfl)) (fun h1=>must (zB g2) (must (zB g3) rfl)))
theorem zzv:vF 190 zDE:=kF3 zWI zu zb9 zh4 (zo []) zDu
theorem z3E {a0:Host}{a1 a2:Int}(hx:SmG (gOf a0 a1 a2))(g2:hasB a1 (ln a0.Mons)=true)(g3:hasB a2 (ln (ix a0.Mons a1 mZ).Guests)=true) :
 (cond (zdv (ix (ix (zk a0).Mons a1 zf).Guests a2 zx) (ix (ix (zk a0).Mons a1 zf).Guests a2 zx).Ctl.Traps 7) (cond (zcZ (ix (ix (zk a0).Mons a1 zf).Guests a2 zx) (ix (ix (zk a0).Mons a1 zf).Guests a2 zx).Ctl.Traps 7) (cond (inb a1 (ln (zk a0).Mons)) (cond (inb a2 (ln (ix (zk a0).Mons a1 zf).Guests)) (share (up (zk a0).Mons a1 ({ (ix (zk a0).Mons a1 zf) with Guests:=(up (ix (zk a0).Mons a1 zf).Guests a2 (zb3 (ix (ix (zk a0).Mons a1 zf).Guests a2 zx) (ix (ix (zk a0).Mons a1 zf).Guests a2 zx).Ctl.Traps 7)) }:Mon)) (fun x4=>(some [(.agg (zbf ({ (zk a0) with Mons:=x4 }:Host))),(.one (.b true))]))) none) none) (cond (inb a1 (ln (zk a0).Mons)) (cond (inb a2 (ln (ix (zk a0).Mons a1 zf).Guests)) (share (up (zk a0).Mons a1 ({ (ix (zk a0).Mons a1 zf) with Guests:=(up (ix (zk a0).Mons a1 zf).Guests a2 (zb3 (ix (ix (zk a0).Mons a1 zf).Guests a2 zx) (ix (ix (zk a0).Mons a1 zf).Guests a2 zx).Ctl.Traps 7)) }:Mon)) (fun x4=>(some [(.agg (zbf ({ (zk a0) with Mons:=x4 }:Host))),(.one (.b true))]))) none) none)) none)=some (zfh (zjW a0 a1 a2 (ziG (gOf a0 a1 a2) (gOf a0 a1 a2).Ctl.Traps 7),true)) :=
 must (zbp hx) (br (fun h1=>must (zB g2) (must (zB g3) rfl)) (fun h1=>must (zB g2) (must (zB g3) rfl)))
theorem z6P {a0:Host}{x4:List Mon}{a1 a2:Int}(hx:SmG (gOf a0 a1 a2))(g2:hasB a1 (ln x4)=true)(g3:hasB a2 (ln (ix x4 a1 mZ).Guests)=true)(e:(ix (ix x4 a1 zf).Guests a2 zx)=gOf a0 a1 a2) :
 (cond (zdv ({ (ix (ix (zk a0).Mons a1 zf).Guests a2 zx) with Prog:=(ix (ix x4 a1 zf).Guests a2 zx).Prog,Written:=(ix (ix x4 a1 zf).Guests a2 zx).Written,Live:=(ix (ix x4 a1 zf).Guests a2 zx).Live,Seen:=(ix (ix x4 a1 zf).Guests a2 zx).Seen }:Guest) (ix (ix (zk a0).Mons a1 zf).Guests a2 zx).Ctl.Traps 7) (cond (zcZ ({ (ix (ix (zk a0).Mons a1 zf).Guests a2 zx) with Prog:=(ix (ix x4 a1 zf).Guests a2 zx).Prog,Written:=(ix (ix x4 a1 zf).Guests a2 zx).Written,Live:=(ix (ix x4 a1 zf).Guests a2 zx).Live,Seen:=(ix (ix x4 a1 zf).Guests a2 zx).Seen }:Guest) (ix (ix (zk a0).Mons a1 zf).Guests a2 zx).Ctl.Traps 7) (cond (inb a1 (ln x4)) (cond (inb a2 (ln (ix x4 a1 zf).Guests)) (share (up x4 a1 ({ (ix x4 a1 zf) with Guests:=(up (ix x4 a1 zf).Guests a2 (zb3 ({ (ix (ix (zk a0).Mons a1 zf).Guests a2 zx) with Prog:=(ix (ix x4 a1 zf).Guests a2 zx).Prog,Written:=(ix (ix x4 a1 zf).Guests a2 zx).Written,Live:=(ix (ix x4 a1 zf).Guests a2 zx).Live,Seen:=(ix (ix x4 a1 zf).Guests a2 zx).Seen }:Guest) (ix (ix (zk a0).Mons a1 zf).Guests a2 zx).Ctl.Traps 7)) }:Mon)) (fun x5=>(some [(.agg (zbf ({ (zk a0) with Mons:=x5 }:Host))),(.one (.b true))]))) none) none) (cond (inb a1 (ln x4)) (cond (inb a2 (ln (ix x4 a1 zf).Guests)) (share (up x4 a1 ({ (ix x4 a1 zf) with Guests:=(up (ix x4 a1 zf).Guests a2 (zb3 ({ (ix (ix (zk a0).Mons a1 zf).Guests a2 zx) with Prog:=(ix (ix x4 a1 zf).Guests a2 zx).Prog,Written:=(ix (ix x4 a1 zf).Guests a2 zx).Written,Live:=(ix (ix x4 a1 zf).Guests a2 zx).Live,Seen:=(ix (ix x4 a1 zf).Guests a2 zx).Seen }:Guest) (ix (ix (zk a0).Mons a1 zf).Guests a2 zx).Ctl.Traps 7)) }:Mon)) (fun x5=>(some [(.agg (zbf ({ (zk a0) with Mons:=x5 }:Host))),(.one (.b true))]))) none) none)) none)=some (zfh (zjW { a0 with Mons:=x4 } a1 a2 (ziG (gOf a0 a1 a2) (gOf a0 a1 a2).Ctl.Traps 7),true)):=by
 rw[e];exact must (zbp hx) (br (fun h1=>must (zB g2) (must (zB g3) rfl)) (fun h1=>must (zB g2) (must (zB g3) rfl)))
theorem zDv (a0:Host)(a1 a2:Int)(hc:zuH a0 a1 a2=true):∃N,ztq N a0 a1 a2=some [aH (zuF a0 a1 a2),aB (zuG a0 a1 a2)]:=by
 obtain ⟨hc,hw⟩:=zk2 hc;have hs:=(zM a0).1 (zC.1 hc);refine ⟨0,?_⟩
 show _=some (zfh (zbs a0 a1 a2))
 unfold ztq oN nB
 conv=>zeta
 refine must (zbp ((zM _).2 hs)) (must (zbp ((zM _).2 hs)) (brN (fun hh=>?_) (fun hh=>?_)))
 .rw [zk0 hh];rfl
 obtain ⟨g1,g2,g3⟩:=zc8 hh;have hx:=zn0 hs g2 g3;have hk:zS (gOf a0 a1 a2)=7:=qE hw;rw[ziE hh,hk];refine must (zB g2) (must (zB g3) (must (zhE rfl hw) ?_))
 show _=some (zfh (zuP a0 a1 a2 (gOf a0 a1 a2) 7,true))
 refine must (zB g2) (must rfl (br (fun h0=>must (zB g2) (br (fun h9=>must (zB g2) (must (zB g2) (shr ?_))) (fun h9=>?_))) (fun h0=>?_)))
 .rw [zmq (zWc (h:=a0) (m:=a1) (x:=gOf a0 a1 a2) (w:=7) rfl h0 h9),zKp (w:=7) rfl];have eM:=zJG g2 { ix a0.Mons a1 mZ with Own:=zG .i64 (ix a0.Mons a1 mZ).Own 1 };refine z6P hx (zd7 g2) ?_ ?_
  .show hasB a2 (ln (ix (up a0.Mons a1 _) a1 mZ).Guests)=true
   rw[eM];exact g3
  .show ix (ix (up a0.Mons a1 _) a1 mZ).Guests a2 gZ=_
   rw[eM];rfl
 .rw [zmq (zWb (h:=a0) (m:=a1) (x:=gOf a0 a1 a2) (w:=7) h9),zKp (w:=7) rfl];exact z3E hx g2 g3
 .rw [zmq (zWa (h:=a0) (m:=a1) (x:=gOf a0 a1 a2) (w:=7) h0),zKp (w:=7) rfl];exact z3E hx g2 g3
theorem zzw:vF 190 zDF:=kF3 zWJ zu zb9 zh4 (zo []) zDv
def zoL:List AV->Option (Bool×List AV)
 | [.agg [.s (.sl .int) b,.s .mon c,.s .entry d,.s .entry e],.one (.i .i64 f),.one (.i .i64 g)]=>some ((zd8 (⟨b,c,d,e⟩:Host) f g),[aH (zB2 (⟨b,c,d,e⟩:Host) f g),aB (zB3 (⟨b,c,d,e⟩:Host) f g)])
 | _=>none
theorem zF4:vF 190 zoL:=by
 refine ⟨zn9.1,fun w avs xs rs hrep h=>?_⟩;unfold zoL at h;split at h
 .rename_i a0_0 a0_1 a0_2 a0_3 a1 a2;obtain ⟨hc,rfl⟩:=zdJ h;rcases z2h (gOf (⟨a0_0,a0_1,a0_2,a0_3⟩:Host) a1 a2) with e|e|e|e|e|e|e|e
  .exact zn9.2 w _ xs _ hrep (congrArg (fun c=>some (c,zfh (zbs (⟨a0_0,a0_1,a0_2,a0_3⟩:Host) a1 a2))) (zhE hc e))
  .exact zzq.2 w _ xs _ hrep (congrArg (fun c=>some (c,zfh (zbs (⟨a0_0,a0_1,a0_2,a0_3⟩:Host) a1 a2))) (zhE hc e))
  .exact zzr.2 w _ xs _ hrep (congrArg (fun c=>some (c,zfh (zbs (⟨a0_0,a0_1,a0_2,a0_3⟩:Host) a1 a2))) (zhE hc e))
  .exact zzs.2 w _ xs _ hrep (congrArg (fun c=>some (c,zfh (zbs (⟨a0_0,a0_1,a0_2,a0_3⟩:Host) a1 a2))) (zhE hc e))
  .exact zzt.2 w _ xs _ hrep (congrArg (fun c=>some (c,zfh (zbs (⟨a0_0,a0_1,a0_2,a0_3⟩:Host) a1 a2))) (zhE hc e))
  .exact zzu.2 w _ xs _ hrep (congrArg (fun c=>some (c,zfh (zbs (⟨a0_0,a0_1,a0_2,a0_3⟩:Host) a1 a2))) (zhE hc e))
  .exact zzv.2 w _ xs _ hrep (congrArg (fun c=>some (c,zfh (zbs (⟨a0_0,a0_1,a0_2,a0_3⟩:Host) a1 a2))) (zhE hc e))
  .exact zzw.2 w _ xs _ hrep (congrArg (fun c=>some (c,zfh (zbs (⟨a0_0,a0_1,a0_2,a0_3⟩:Host) a1 a2))) (zhE hc e))
 .cases h
def z3m:zO:=[(190,zoL)]++zlJ
theorem z04:zF z3m:=zh zF4 zho
def z3n:zO:=z3m
theorem z05:zF z3n:=z04
def brought (n a b:Int):Int:=bif ilt n a then a else (cond (ilt b a) a (zLJ n b))
@[simp] abbrev zpu (_ _ _:Int):Bool:=true
@[simp] abbrev zqj (n a b:Int):Int:=brought n a b
def zqS:Run:=rF3 dI dI dI fun b c d=>(zpu b c d,[aI (zqj b c d)])
def zDU (N:Nat)(a0 a1 a2:Int):OA:=
 (cond (ilt a2 a1) (some [(aI a1)]) (cond (ilt a0 a1) (some [(aI a1)]) (cond (igt a0 a2) (some [(aI a2)]) (some [(aI a0)]))))
theorem zPg (a0 a1 a2:Int)(hc:zpu a0 a1 a2=true):∃N,zDU N a0 a1 a2=some [aI (zqj a0 a1 a2)]:=by
 refine ⟨0,?_⟩;unfold zDU;unfold zqj brought zLJ;cases h1:ilt a2 a1<;>cases h2:ilt a0 a1<;>cases h3:igt a0 a2<;>simp [igt] at * <;> omega
theorem ztM:vF 242 zqS:=kF3 zsa zu zl zn (zo []) zPg
structure RI (a:List Bare) (i:Nat) (l:List Bare):Prop where
 len:l.length=a.length
 sm:zWl l
 eq:∀k,i<=k->l[k]?=a[k]?
theorem RI.up {a l:List Bare}{i:Nat}(h:RI a i l)(x:Bare)(hx:SmB x):RI a (i+1) (up l (i:Int) x) :=
 ⟨by rw[zfG];exact h.len,z5x h.sm hx,fun k hk=>by rw[z6l (by omega)];exact h.eq k (by omega)⟩
structure RJ (l:List Bare) (i:Nat) (l':List Bare):Prop where
 len:l'.length=l.length
 sm:SmB (ix l' (i:Int) zKH)
 up:∀x,E.up l' (i:Int) x=E.up l (i:Int) x
theorem RJ.next {l l':List Bare}{i:Nat}(h:RJ l i l')(hi:i<l.length)(x:Bare)(hx:SmB x):RJ l i (E.up l' (i:Int) x) :=
 ⟨by rw[zfG];exact h.len,by rw[zc5 (by rw[h.len];exact hi)];exact hx,fun y=>by rw[zpU];exact h.up y⟩
def zYN:zO:=z3n
theorem zYO:zF zYN:=z05
theorem zTa {h:Host}{m:Int}(hs:SmH h)(hm:hasB m (ln h.Mons)=true):SmB (zA h m):=by
 have g1:=hs.2.1.2 _ (zbr hm mZ);have hP:∀(mm:List (List Int)) (q:Int),SmM mm->(zb8 mm q).length<=1048576:=fun mm q h=>zTc h;have hpg:∀p:Int,(zbR h m p).length<=1048576:=by
  intro p;unfold zbR;cases hasB m (ln h.Mons)
  .exact (by decide:zyc.length<=1048576)
  .cases hasB p 8
   .exact (by decide:zyc.length<=1048576)
   .simp only [cT];cases ine (zbm (ix h.Mons m zf).Outer p).Page (-1)
    .exact hP _ _ g1.2.1
    .exact hP _ _ hs.1
 have hN:∀(n i:Nat),∀x∈zcc h m n i,x.length<=1048576:=by
  intro n
  induction n with
  | zero=>intro i x hx;cases hx
  | succ n ih =>
   intro i x hx;rcases qH.1 hx with rfl|hx
   .exact hpg _
   .exact ih (i+1) x hx
 unfold zA;rw[hm];exact ⟨⟨by show (zcc h m 8 0).length<=1048576;rw[zxM];decide,hN 8 0⟩,g1.2.2.2.1,g1.2.2.2.2.1⟩
def z3o:zO:=zYN
theorem z06:zF z3o:=zYO
def z3p:zO:=[(242,zqS)]++z3o
theorem z07:zF z3p:=zh ztM z06
def cnt (l:List Mon):List Nat:=l.map fun x=>x.Guests.length
theorem z5R {l l':List Mon}(h:zdG l'=zdG l):cnt l'=cnt l:=by
 have e:∀l:List Mon,cnt l=(zdG l).map List.length:=fun l=>by simp[cnt,zdG]
 rw[e,e,h]
theorem zQJ {l:List Mon}{m:Int}{x:Mon}(hm:hasB m (ln l)=true)(hx:x.Guests.length=(ix l m mZ).Guests.length):cnt (up l m x)=cnt l:=by
 obtain ⟨k,rfl,hk⟩:=zc9 (n:=l.length) hm;unfold cnt up;rw[List.map_set,kW,hx,zZ hk];have:=@uX _ (l.map fun x=>x.Guests.length) k (by simpa using hk)
 simpa using this
theorem z4g {l l':List Mon}(h:cnt l'=cnt l):l'.length=l.length:=by
 have:=congrArg List.length h;simpa [cnt] using this
theorem z5S {l l':List Mon}(h:cnt l'=cnt l)(m:Int):(ix l' m mZ).Guests.length=(ix l m mZ).Guests.length:=by
 have h2:(cnt l')[m.toNat]?=(cnt l)[m.toNat]?:=by rw[h]
 unfold cnt at h2;rw[qN,qN]at h2;unfold ix;simp only[j9];cases h3:l'[m.toNat]? <;> cases h4:l[m.toNat]? <;> rw [h3,h4]at h2<;>simp at h2 ⊢;exact h2
theorem z5e (h:Host)(m p:Int):(zc0 h m p).Memory=h.Memory:=(zfB (zeh h m p) m p noSlot).2
theorem z5d (h:Host):(zcK h).Memory=h.Memory:=by
 unfold zcK;cases ieq (ln (zb1 h)) 0
 .rfl
 .exact z5e _ _ _
theorem z5c (m:List (List Int))(p:Int)(c:List Int):(zgJ m p c).length=m.length:=by
 unfold zgJ;cases hasB p (ln m)
 .rfl
 .cases zb6 c
  .rfl
  .simp
theorem z5a (m:List (List Int))(p c v:Int):(zbx m p c v).length=m.length:=by
 unfold zbx;cases zg8 m p c
 .rfl
 .cases win v 0 99
  .rfl
  .simp
theorem zXk (h:Host)(m p:Int):(fetched h m p).Memory.length=h.Memory.length:=by
 unfold fetched zeq;rw[(zfB _ _ _ _).2];unfold landing;rw[z5c,z5d]
theorem zSx (h:Host)(m p n:Int):(zit h m p n).Memory=h.Memory:=by
 unfold zit;cases ieq (wand .i64 n 2) 0
 .unfold opened;cases ieq (wand .i64 (ix (ix (zbu h m p).Mons m mZ).Outer p sZ).Rights 2) 0
  .rfl
  .exact (zfB _ _ _ _).2
 .rfl
theorem zZz (h:Host)(m p n:Int):(mended h m p n).Memory.length=h.Memory.length:=by
 unfold mended;cases ieq (ix (ix h.Mons m mZ).Outer p sZ).Page (-1)
 .exact congrArg List.length (zSx _ _ _ _)
 .exact (congrArg List.length (zSx _ _ _ _)).trans (zXk _ _ _)
theorem zZA (h:Host)(m g p:Int)(io:Bool):(ztS h m g p io).Memory=h.Memory:=by cases io<;>rfl
theorem z1z (h:Host)(b:List Entry)(m g page need q:Int)(io:Bool):(zg6 h b m g page need q io).1.Memory.length=h.Memory.length:=by
 unfold zg6;cases zgR b m g page need
 .cases zeu h m g page need
  .exact congrArg List.length (zZA _ _ _ _ _)
  .exact (congrArg List.length (zZA _ _ _ _ _)).trans (zZz h m q need)
 .rfl
theorem z5b (h:Host)(b:List Entry)(m g page need:Int)(io:Bool):(lookOf h b m g page need io).1.Memory.length=h.Memory.length:=by
 unfold lookOf;cases zbU h m g page need
 .rfl
 .simp only [cT];rw[z1z];cases ieq need 2<;>rfl
structure Keep (h r:Host):Prop where
 shape:Shape r
 cnt:cnt r.Mons=cnt h.Mons
 mem:r.Memory.length=h.Memory.length
theorem Keep.has {h r:Host}(k:Keep h r){m:Int}(hm:hasB m (ln h.Mons)=true):hasB m (ln r.Mons)=true:=by
 rw[ln,z4g k.cnt];exact hm
theorem Keep.hg {h r:Host}(k:Keep h r){m g:Int}(hg:hasB g (ln (ix h.Mons m mZ).Guests)=true):hasB g (ln (ix r.Mons m mZ).Guests)=true:=by
 rw[ln,z5S k.cnt];exact hg
theorem Keep.trans {a b c:Host}(h:Keep a b)(k:Keep b c):Keep a c:=⟨k.shape,k.cnt.trans h.cnt,k.mem.trans h.mem⟩
theorem Keep.rfl' {h:Host}(hs:Shape h):Keep h h:=⟨hs,rfl,rfl⟩
theorem zmy {h:Host}{m g:Int}{x:Guest}(hs:Shape h)(hm:hasB m (ln h.Mons)=true)(hx:SmG x):Keep h (zjW h m g x):=⟨zXV hs hm hx,zQJ hm (by simp),rfl⟩
theorem zAZ {h:Host}{b:List Entry}{m g page need:Int}{io:Bool}(hs:SmH h)(hh:zbI h m g=true):Keep h (lookOf h b m g page need io).1:=by
 have k:=zv1 (b:=b) (page:=page) (need:=need) (io:=io) hs hh;exact ⟨k.shape,z5R k.gs,z5b _ _ _ _ _ _ _⟩
theorem zZk {h:Host}{p c v:Int}(hs:Shape h):Keep h { h with Memory:=zbx h.Memory p c v }:=⟨zOv hs (zx8 hs.1.1),rfl,z5a _ _ _ _⟩
theorem zXc {h:Host}{m:Int}(hs:Shape h)(hm:hasB m (ln h.Mons)=true):Keep h (owned h m):=by
 obtain ⟨g1,g2⟩:=zcf hs hm;unfold owned;cases ilt (ix h.Mons m mZ).Own 1000000000
 .exact Keep.rfl' hs
 .exact ⟨zhB hs g1 g2,zQJ hm rfl,rfl⟩
theorem zXb {h:Host}{m n:Int}(hs:Shape h)(hm:hasB m (ln h.Mons)=true):Keep h (znh h m n):=by
 obtain ⟨g1,g2⟩:=zcf hs hm;unfold znh;cases h3:ilt (ln (ix h.Mons m mZ).Outs) 40
 .exact Keep.rfl' hs
 .have h4:=qE h3;simp only[ln]at h4;refine ⟨zhB hs ⟨g1.1,g1.2.1,g1.2.2.1,g1.2.2.2.1,?_,g1.2.2.2.2.2⟩ g2,zQJ hm rfl,rfl⟩;simp[ap];omega
theorem zZm {h:Host}{m g:Int}{x:Guest}{w:Int}(hs:Shape h)(hm:hasB m (ln h.Mons)=true)(hx:SmG x):Keep h (zuP h m g x w):=by
 have k1:Keep h (zfM h m x w):=by
  unfold zfM;cases (cond (ine w 6) (ieq (zxJ (ix h.Mons m mZ).Traps x.Ctl.Traps (zwV w)) 2) false)
  .exact Keep.rfl' hs
  .exact zXc hs hm
 have k2:Keep (zfM h m x w) (zfL (zfM h m x w) m x w):=by
  unfold zfL;cases (cond (zjq x.Ctl.Traps w) (ieq w 5) false)
  .exact Keep.rfl' k1.shape
  .exact zXb k1.shape (k1.has hm)
 have k3:=k1.trans k2;exact k3.trans (zmy k3.shape (k3.has hm) (zCb _ _ hx))
theorem zZl {h:Host}{m g:Int}(hs:SmH h)(hh:zbI h m g=true):Keep h (zbs h m g).1:=by
 obtain ⟨g1,g2,g3⟩:=zc8 hh;have hx:=zn0 hs g2 g3;have hS:=(zeJ hs g1).1;rw[ziE hh];unfold zTh;cases ieq (zS (gOf h m g)) 0
 .cases ieq (zS (gOf h m g)) 1
  .cases ieq (zS (gOf h m g)) 2
   .cases (cond (ieq (zS (gOf h m g)) 3) true (ieq (zS (gOf h m g)) 4))
    .exact zZm hS g2 hx
    .have k:=zAZ (b:=h.Buffer) (page:=zbc (address (gOf h m g))) (need:=zbZ (ieq (zS (gOf h m g)) 4)) (io:=false) hs hh
     show Keep h (ziF (zlN h m g (gOf h m g) (ieq (zS (gOf h m g)) 4)) m g (gOf h m g) (ieq (zS (gOf h m g)) 4))
     unfold ziF;cases (zlN h m g (gOf h m g) (ieq (zS (gOf h m g)) 4)).2.2
     .exact k.trans (zmy k.shape (k.has g2) hx)
     .cases ieq (zS (gOf h m g)) 4
      .have k:=zAZ (b:=h.Buffer) (page:=zbc (address (gOf h m g))) (need:=zbZ false) (io:=false) hs hh;exact k.trans (zmy k.shape (k.has g2) (zKf _ hx))
      .have k:=zAZ (b:=h.Buffer) (page:=zbc (address (gOf h m g))) (need:=zbZ true) (io:=false) hs hh;have k2:=zZk (p:=(zlN h m g (gOf h m g) true).2.1) (c:=zcQ (address (gOf h m g))) (v:=(gOf h m g).A) k.shape;have k3:=k.trans k2;exact k3.trans (zmy k3.shape (k3.has g2) (zkd hx))
   .exact zmy hS g2 (zE9 hx)
  .exact zmy hS g2 (zV2 hx)
 .exact Keep.rfl' hS
structure Same (h r:Host):Prop where
 sm:SmH r
 cnt:cnt r.Mons=cnt h.Mons
 mem:r.Memory.length=h.Memory.length
 st:r=h\/Shape r
theorem Same.rfl' {h:Host}(hs:SmH h):Same h h:=⟨hs,rfl,rfl,.inl rfl⟩
theorem Same.trans {a b c:Host}(h:Same a b)(k:Same b c):Same a c:=⟨k.sm,k.cnt.trans h.cnt,k.mem.trans h.mem,by
 rcases k.st with e|e
 .rw [e];exact h.st
 .exact .inr e⟩
theorem zZ3 {h:Host}(m g:Int)(hs:SmH h):Same h (zbs h m g).1:=by
 cases hh:zbI h m g
 .rw [zk0 hh];exact Same.rfl' hs
 .have k:=zZl hs hh;exact ⟨k.shape.1,k.cnt,k.mem,.inr k.shape⟩
def z3q:zO:=[(242,zqS)]++zWB
theorem zsc:zF z3q:=zh ztM zsa
theorem zQF {a b:Bool}(h:(a=true)↔(b=true)):a=b:=by cases a<;>cases b<;>simp_all
@[simp] theorem z6C (x:Int):win x 0 3=hasB x 4:=zQF (by rw[zfS];unfold hasB;rw[decide_eq_true_iff];omega)
@[simp] theorem z0r (x:Int):win x 0 7=hasB x 8:=zQF (by rw[zfS];unfold hasB;rw[decide_eq_true_iff];omega)
def zdL (t:List Slot)(p:Int)(s:Slot):List Slot:=bif hasB p (ln t) then up t p s else t
@[simp] theorem z6D (t:List Slot)(p:Int)(s:Slot):(zdL t p s).length=t.length:=by
 unfold zdL;cases hasB p (ln t)<;>simp
@[simp] abbrev znU (t:List Slot)(p:Int)(s:Slot):Bool:=pc (t.length<=1048576)
@[simp] abbrev zkU (t:List Slot)(p:Int)(s:Slot):List Slot:=zdL t p s
def zwI:Run:=rF3 (dS .slot) dI (dT .slot) fun b c d=>(znU b c d,[aS .slot (zkU b c d)])
def zz9 (N:Nat)(a0:lS)(a1:Int)(a2:Slot):OA:=
 (oN (few (ln (ap [] a0))) (oN (zI a1 0 (wsub .i64 (ln a0) 1)) (cond (zK a1 0 (wsub .i64 (ln a0) 1)) (oN (inb a1 (ln (ap [] a0))) (share (up (ap [] a0) a1 a2) (fun x4=>(some [(aS .slot x4)])))) (some [(aS .slot (ap [] a0))]))))
theorem zMn (a0:List Slot)(a1:Int)(a2:Slot)(hc:znU a0 a1 a2=true):∃N,zz9 N a0 a1 a2=some [aS .slot (zkU a0 a1 a2)]:=by
 have hs:=zC.1 hc;refine ⟨0,?_⟩;unfold zz9 oN;refine mu (must rfl (br (fun _=>mu (shr ?_)) (fun _=>?_)))
 all_goals first|rfl|(simp only [*,zkU,zdL,cT,cF]<;>rfl)|simp_all[Ty.cells,zkU,zdL]
theorem zGg:vF 308 zwI:=kF3 zsc zu zl zn (zo []) zMn
def zfD (p n:Int):Bool:=bif zcJ p then win n 0 7 else false
def zrv (p n:Int):Int:=bif zfD p n then wor .i64 p (zn5 .i64 1 n) else p
theorem cv7 {n:Int}(h:hasB n 8=true):wcv .u64 n=n/\ile 0 n=true:=by
 have:=qE h;exact ⟨zWg (by omega) (by omega),qK (by omega)⟩
@[simp] abbrev zjb (p n:Int):Bool:=true
@[simp] abbrev zge (p n:Int):Int:=zrv p n
@[simp] abbrev zlx (p n:Int):Bool:=zfD p n
def zy0:Run:=rF2 dI dI fun b c=>(zjb b c,[aI (zge b c),aB (zlx b c)])
def zD8 (N:Nat)(a0 a1:Int):OA:=
 (oN (zeU a0) (cond (nB (zeT a0)) (some [(aI a0),(aB false)]) (oN (zI a1 0 7) (cond (nB (zK a1 0 7)) (some [(aI a0),(aB false)]) (oN (ile 0 (wcv .u64 a1)) (some [(aI (wor .i64 a0 (zn5 .i64 1 (wcv .u64 a1)))),(aB true)]))))))
theorem zPv (a0 a1:Int)(hc:zjb a0 a1=true):∃N,zD8 N a0 a1=some [aI (zge a0 a1),aB (zlx a0 a1)]:=by
 have hw:=@cv7 a1;refine ⟨0,?_⟩;unfold zD8 oN nB;refine must rfl (brN (fun _=>?_) (fun _=>must rfl (brN (fun _=>?_) (fun _=>mu ?_))))
 all_goals first|rfl|(simp only [*,zge,zlx,zrv,zfD,cT,cF]<;>rfl)|simp_all[Ty.cells,zge,zlx,zrv,zfD]
theorem zIQ:vF 310 zy0:=kF2 zsc zu zl zn (zo []) zPv
def posts (c:Ctl)(n:Int):Bool:=bif zgK c then (cond (win n 0 7) (ieq (wand .i64 (zCk .i64 c.Post n) 1) 1) false) else false
@[simp] abbrev zB6 (c:Ctl)(n:Int):Bool:=true
@[simp] abbrev zwO (c:Ctl)(n:Int):Bool:=posts c n
def zEX:Run:=rF2 dC dI fun b c=>(zB6 b c,[aB (zwO b c)])
def zNu (N:Nat)(a0:Ctl)(a1:Int):OA:=
 (oN (zqk a0) (cond (zoQ a0) (oN (zI a1 0 7) (cond (zK a1 0 7) (oN (ile 0 (wcv .u64 a1)) (some [(aB (ieq (wand .i64 (zCk .i64 a0.Post (wcv .u64 a1)) 1) 1))])) oF)) oF))
theorem zUv (a0:Ctl)(a1:Int)(hc:zB6 a0 a1=true):∃N,zNu N a0 a1=some [aB (zwO a0 a1)]:=by
 have hw:=@cv7 a1;refine ⟨0,?_⟩;unfold zNu oN;refine must rfl (br (fun _=>must rfl (br (fun _=>mu ?_) (fun _=>?_))) (fun _=>?_))
 all_goals first|rfl|(simp only [*,zwO,posts,cT,cF]<;>rfl)|simp_all[Ty.cells,zwO,posts]
theorem zOW:vF 321 zEX:=kF2 zsc zu zl zn (zo []) zUv
def zb0 (b:Bare)(g:Int):Bool:=bif zbX b then hasB g (ln b.Guests) else false
theorem zdf {b:Bare}{g:Int}:(zb0 b g=true)↔zbX b=true/\hasB g (ln b.Guests)=true:=by
 unfold zb0;cases zbX b<;>simp
@[simp] abbrev zh9 (b:Bare)(g:Int):Bool:=pc (SmB b)
@[simp] abbrev zjg (b:Bare)(g:Int):Bool:=zb0 b g
def zE0:Run:=rF2 (dT .bare) dI fun b c=>(zh9 b c,[aB (zjg b c)])
def zNx (N:Nat)(a0:Bare)(a1:Int):OA:=
 (oN (znx a0) (cond (zeo a0) (oN (zI a1 0 (wsub .i64 (ln a0.Guests) 1)) (some [(aB (zK a1 0 (wsub .i64 (ln a0.Guests) 1)))])) oF))
theorem zUy (a0:Bare)(a1:Int)(hc:zh9 a0 a1=true):∃N,zNx N a0 a1=some [aB (zjg a0 a1)]:=by
 have hs:=zC.1 hc;have hl:a0.Guests.length<=1048576:=hs.2.1.1
 refine ⟨0,?_⟩;unfold zNx oN;refine must rfl (br (fun _=>must rfl ?_) (fun _=>?_))
 all_goals first|rfl|(simp only [*,zjg,zb0,cT,cF]<;>rfl)|simp_all[Ty.cells,zjg,zb0]
theorem zOZ:vF 307 zE0:=kF2 zsc zu zl zn (zo []) zUy
def z3r:zO:=[(308,zwI),(310,zy0),(321,zEX),(307,zE0)]++z3q
theorem zjA:zF z3r:=zh zGg (zh zIQ (zh zOW (zh zOZ zsc)))
theorem z2g {α:Type}{l:List α}{i:Int}{d:α}(h:hasB i (ln l)=true):up l i (ix l i d)=l:=by
 obtain ⟨k,rfl,hk⟩:=zc9 (n:=l.length) h;unfold up;rw[zZ hk,kW];exact uX hk
theorem zsf {b:Bare}{g:Int}(h:hasB g (ln b.Guests)=true):gAt b g=ix b.Guests g zx:=by
 unfold gAt;rw[h];rfl
theorem zZ5 {b:Bare}{g:Int}(h:hasB g (ln b.Guests)=true):zdV b g (gAt b g)=b:=by
 unfold zdV;rw[zsf h,z2g h]
def chg (b:Bare)(g:Int)(c:Bool)(x:Guest):Bare:=bif (cond (zb0 b g) c false) then zdV b g x else b
def zbM (b:Bare)(g:Int)(c:Bool):Bool:=bif zb0 b g then c else false
def zq5 (p:Int)(s:Slot):Bool:=bif hasB p 4 then zde s 8 else false
def zx5 (x:Guest)(p:Int)(s:Slot):Guest:={ x with Written:=zdL x.Written p s }
def zdn (x:Guest)(p:Int):Guest:={ x with Live:=zdL x.Live p (zbm x.Written p) }
def zjR:GExit:=⟨0,0,false,0⟩
def zqz (x:Guest)(v:Int):Bool:=bif win v 0 99 then (cond (ieq x.Exit.Kind 2) true (ieq x.Exit.Kind 3)) else false
def zuT (x:Guest)(v:Int):Guest:=zbY (stopped (cond (ieq x.Exit.Kind 2) { x with A:=v } x) zjR)
def zu6 (x:Guest):Bool:=bif ieq x.Exit.Kind 1 then true else ieq x.Exit.Kind 4
def zu7 (x:Guest):Guest:=bif ieq x.Exit.Kind 1 then stopped x zjR else held (stopped x zjR)
def zl6 (x:Guest)(n:Int):Guest:={ x with Pending:=zrv x.Pending n }
def zFs (x:Guest)(c:Ctl):Guest:={ x with Ctl:=c }
theorem z4U {x:Guest}{n:Int}(h:zfD x.Pending n=false):zl6 x n=x:=by
 unfold zl6 zrv;rw[h];rfl
theorem z1Y {x:Guest}(p:Int)(s:Slot)(h:SmG x):SmG (zx5 x p s):=⟨h.1,by simpa [zx5] using h.2.1,h.2.2.1,h.2.2.2⟩
theorem zKe {x:Guest}(p:Int)(h:SmG x):SmG (zdn x p):=⟨h.1,h.2.1,by simpa [zdn] using h.2.2.1,h.2.2.2⟩
theorem z1W {x:Guest}(v:Int)(h:SmG x):SmG (zuT x v):=by
 unfold zuT;cases ieq x.Exit.Kind 2<;>exact zkd h
theorem z1X {x:Guest}(h:SmG x):SmG (zu7 x):=by
 unfold zu7;cases ieq x.Exit.Kind 1
 .exact zTb (g:=stopped x zjR) h
 .exact h
theorem zo0 {b:Bare}{g:Int}{c:Bool}{x:Guest}(h:SmB b)(hx:SmG x):SmB (chg b g c x):=by
 unfold chg;cases (cond (zb0 b g) c false)
 .exact h
 .exact zmn h hx
@[simp] abbrev zpt (b:Bare)(g p:Int)(s:Slot):Bool:=pc (SmB b)
@[simp] abbrev zhx (b:Bare)(g p:Int)(s:Slot):Bare:=chg b g (zq5 p s) (zx5 (gAt b g) p s)
@[simp] abbrev zja (b:Bare)(g p:Int)(s:Slot):Bool:=zbM b g (zq5 p s)
def zqR:Run:=rF4 (dT .bare) dI dI (dT .slot) fun b c d e=>(zpt b c d e,[aT .bare (zhx b c d e),aB (zja b c d e)])
def zDT (N:Nat)(a0:Bare)(a1 a2:Int)(a3:Slot):OA:=
 let y0:=(zca a0);let y1:=(ix y0.Guests a1 zx); (oN (zeC a0) (oN (zh9 y0 a1) (cond (nB (zjg y0 a1)) (some [(aT .bare y0),(aB false)]) (oN (zI a2 0 3) (cond (nB (zK a2 0 3)) (some [(aT .bare y0),(aB false)]) (oN (zrG a3 8) (cond (nB (zoU a3 8)) (some [(aT .bare y0),(aB false)]) (oN (inb a1 (ln y0.Guests)) (oN (znU y1.Written a2 a3) (oN (inb a1 (ln y0.Guests)) (share (up y0.Guests a1 ({ y1 with Written:=(zkU y1.Written a2 a3) }:Guest)) (fun x5=>(some [(aT .bare ({ y0 with Guests:=x5 }:Bare)),(aB true)])))))))))))))
theorem zPf (a0:Bare)(a1 a2:Int)(a3:Slot)(hc:zpt a0 a1 a2 a3=true):∃N,zDT N a0 a1 a2 a3=some [aT .bare (zhx a0 a1 a2 a3),aB (zja a0 a1 a2 a3)]:=by
 have hs:=zC.1 hc;have hx:=ziX a1 hs;have hz:zb0 a0 a1=true->hasB a1 (ln a0.Guests)=true:=fun h=>(zdf.1 h).2;have hz2:zb0 a0 a1=true->gAt a0 a1=ix a0.Guests a1 zx:=fun h=>zsf (zdf.1 h).2;have hw:=hx.2.1
 refine ⟨0,?_⟩;unfold zDT oN nB
 conv=>zeta
 refine mu (mu (brN (fun _=>?_) (fun _=>must rfl (brN (fun _=>?_) (fun _=>must rfl (brN (fun _=>?_) (fun _=>mu (mu (mu (shr ?_))))))))))
 all_goals first|rfl|(simp only [*,zhx,zja,chg,zbM,zq5,zx5,zdV,cT,cF]<;>rfl)|simp_all[Ty.cells,zhx,zja,chg,zbM,zq5,zx5,zdV]
theorem ztL:vF 258 zqR:=kF4 zjA zu zl zn (zo []) zPf
@[simp] abbrev zqZ (b:Bare)(g p:Int):Bool:=pc (SmB b)
@[simp] abbrev zej (b:Bare)(g p:Int):Bare:=chg b g (hasB p 4) (zdn (gAt b g) p)
@[simp] abbrev zgU (b:Bare)(g p:Int):Bool:=zbM b g (hasB p 4)
def zno:Run:=rF3 (dT .bare) dI dI fun b c d=>(zqZ b c d,[aT .bare (zej b c d),aB (zgU b c d)])
def zyp (N:Nat)(a0:Bare)(a1 a2:Int):OA:=
 let y1:=(zca a0);let y2:=(inb a1 (ln y1.Guests));let y0:=(ix y1.Guests a1 zx); (oN (zeC a0) (oN (zh9 y1 a1) (cond (nB (zjg y1 a1)) (some [(aT .bare y1),(aB false)]) (oN (zI a2 0 3) (cond (nB (zK a2 0 3)) (some [(aT .bare y1),(aB false)]) (oN y2 (oN y2 (oN (ziz y0.Written a2) (oN (znU y0.Live a2 (zgH y0.Written a2)) (oN y2 (share (up y1.Guests a1 ({ y0 with Live:=(zkU y0.Live a2 (zgH y0.Written a2)) }:Guest)) (fun x4=>(some [(aT .bare ({ y1 with Guests:=x4 }:Bare)),(aB true)])))))))))))))
theorem zJs (a0:Bare)(a1 a2:Int)(hc:zqZ a0 a1 a2=true):∃N,zyp N a0 a1 a2=some [aT .bare (zej a0 a1 a2),aB (zgU a0 a1 a2)]:=by
 have hs:=zC.1 hc;have hx:=ziX a1 hs;have hz:zb0 a0 a1=true->hasB a1 (ln a0.Guests)=true:=fun h=>(zdf.1 h).2;have hz2:zb0 a0 a1=true->gAt a0 a1=ix a0.Guests a1 zx:=fun h=>zsf (zdf.1 h).2;have hw:=hx.2.2.1
 refine ⟨0,?_⟩;unfold zyp oN nB
 conv=>zeta
 refine mu (mu (brN (fun _=>?_) (fun _=>must rfl (brN (fun _=>?_) (fun _=>mu (mu (must rfl (mu (mu (shr ?_))))))))))
 all_goals first|rfl|(simp only [*,zej,zgU,chg,zbM,zdn,zdV,cT,cF]<;>rfl)|simp_all[Ty.cells,zej,zgU,chg,zbM,zdn,zdV]
theorem zrb:vF 261 zno:=kF3 zjA zu zl zn (zo []) zJs
@[simp] abbrev zkE (b:Bare)(g v:Int):Bool:=pc (SmB b)
@[simp] abbrev zfi (b:Bare)(g v:Int):Bare:=chg b g (zqz (gAt b g) v) (zuT (gAt b g) v)
@[simp] abbrev zgt (b:Bare)(g v:Int):Bool:=zbM b g (zqz (gAt b g) v)
def zma:Run:=rF3 (dT .bare) dI dI fun b c d=>(zkE b c d,[aT .bare (zfi b c d),aB (zgt b c d)])
def zvz (N:Nat)(a0:Bare)(a1 a2:Int):OA:=
 let y2:=(zca a0);let y4:=(inb a1 (ln y2.Guests));let y1:=(⟨0,0,false,0⟩:GExit);let y0:=(ix y2.Guests a1 zx);let y3:=({ y0 with A:=a2 }:Guest); (oN (zeC a0) (oN (zh9 y2 a1) (cond (nB (zjg y2 a1)) (some [(aT .bare y2),(aB false)]) (oN (zI a2 0 99) (cond (nB (zK a2 0 99)) (some [(aT .bare y2),(aB false)]) (oN y4 (cond (ieq y0.Exit.Kind 2) (oN (zdN y3 y1) (oN (zdI (zdg y3 y1)) (oN y4 (share (up y2.Guests a1 (zfJ (zdg y3 y1))) (fun x4=>(some [(aT .bare ({ y2 with Guests:=x4 }:Bare)),(aB true)])))))) (cond (ieq y0.Exit.Kind 3) (oN (zdN y0 y1) (oN (zdI (zdg y0 y1)) (oN y4 (share (up y2.Guests a1 (zfJ (zdg y0 y1))) (fun x4=>(some [(aT .bare ({ y2 with Guests:=x4 }:Bare)),(aB true)])))))) (some [(aT .bare y2),(aB false)])))))))))
theorem zGx (a0:Bare)(a1 a2:Int)(hc:zkE a0 a1 a2=true):∃N,zvz N a0 a1 a2=some [aT .bare (zfi a0 a1 a2),aB (zgt a0 a1 a2)]:=by
 have hs:=zC.1 hc;have hx:=ziX a1 hs;have hz:zb0 a0 a1=true->hasB a1 (ln a0.Guests)=true:=fun h=>(zdf.1 h).2;have hz2:zb0 a0 a1=true->gAt a0 a1=ix a0.Guests a1 zx:=fun h=>zsf (zdf.1 h).2;have ho:_/\_/\_/\_:=hx
 refine ⟨0,?_⟩;unfold zvz oN nB
 conv=>zeta
 refine mu (mu (brN (fun _=>?_) (fun _=>must rfl (brN (fun _=>?_) (fun _=>mu (br (fun _=>mu (mu (mu (shr ?_)))) (fun _=>br (fun _=>mu (mu (mu (shr ?_)))) (fun _=>?_))))))))
 all_goals first|rfl|(simp only [*,zfi,zgt,chg,zbM,zqz,zuT,zjR,zdV,SmG,stopped,cT,cF]<;>rfl)|simp_all[Ty.cells,zfi,zgt,chg,zbM,zqz,zuT,zjR,zdV,SmG,stopped]
theorem zp7:vF 263 zma:=kF3 zjA zu zl zn (zo []) zGx
@[simp] abbrev zkG (b:Bare)(g:Int):Bool:=pc (SmB b)
@[simp] abbrev zfk (b:Bare)(g:Int):Bare:=chg b g (zu6 (gAt b g)) (zu7 (gAt b g))
@[simp] abbrev zgv (b:Bare)(g:Int):Bool:=zbM b g (zu6 (gAt b g))
def zmc:Run:=rF2 (dT .bare) dI fun b c=>(zkG b c,[aT .bare (zfk b c),aB (zgv b c)])
def zvB (N:Nat)(a0:Bare)(a1:Int):OA:=
 let y2:=(zca a0);let y3:=(inb a1 (ln y2.Guests));let y1:=(⟨0,0,false,0⟩:GExit);let y0:=(ix y2.Guests a1 zx); (oN (zeC a0) (oN (zh9 y2 a1) (cond (nB (zjg y2 a1)) (some [(aT .bare y2),(aB false)]) (oN y3 (cond (ieq y0.Exit.Kind 1) (oN (zdN y0 y1) (oN y3 (share (up y2.Guests a1 (zdg y0 y1)) (fun x3=>(some [(aT .bare ({ y2 with Guests:=x3 }:Bare)),(aB true)]))))) (cond (ieq y0.Exit.Kind 4) (oN (zdN y0 y1) (oN (zme (zdg y0 y1)) (oN y3 (share (up y2.Guests a1 (zwM (zdg y0 y1))) (fun x3=>(some [(aT .bare ({ y2 with Guests:=x3 }:Bare)),(aB true)])))))) (some [(aT .bare y2),(aB false)])))))))
theorem zGz (a0:Bare)(a1:Int)(hc:zkG a0 a1=true):∃N,zvB N a0 a1=some [aT .bare (zfk a0 a1),aB (zgv a0 a1)]:=by
 have hs:=zC.1 hc;have hx:=ziX a1 hs;have hz:zb0 a0 a1=true->hasB a1 (ln a0.Guests)=true:=fun h=>(zdf.1 h).2;have hz2:zb0 a0 a1=true->gAt a0 a1=ix a0.Guests a1 zx:=fun h=>zsf (zdf.1 h).2;have ho:_/\_/\_/\_:=hx
 refine ⟨0,?_⟩;unfold zvB oN nB
 conv=>zeta
 refine mu (mu (brN (fun _=>?_) (fun _=>mu (br (fun _=>mu (mu (shr ?_))) (fun _=>br (fun _=>mu (mu (mu (shr ?_)))) (fun _=>?_))))))
 all_goals first|rfl|(simp only [*,zfk,zgv,chg,zbM,zu6,zu7,zjR,zdV,SmG,stopped,cT,cF]<;>rfl)|simp_all[Ty.cells,zfk,zgv,chg,zbM,zu6,zu7,zjR,zdV,SmG,stopped]
theorem zp9:vF 264 zmc:=kF2 zjA zu zl zn (zo []) zGz
theorem z5O {b:Bare}{g:Int}{c:Bool}{x:Guest}(h:zb0 b g=false):chg b g c x=b:=by
 unfold chg;rw[h];rfl
theorem z4e {b:Bare}{g n:Int}(h:zb0 b g=true):chg b g (zfD (gAt b g).Pending n) (zl6 (gAt b g) n)=zdV b g (zl6 (gAt b g) n):=by
 unfold chg;rw[h];cases hp:zfD (gAt b g).Pending n
 .rw [z4U hp,zZ5 (zdf.1 h).2];rfl
 .rfl
@[simp] abbrev zkF (b:Bare)(g n:Int):Bool:=pc (SmB b)
@[simp] abbrev zfj (b:Bare)(g n:Int):Bare:=chg b g (zfD (gAt b g).Pending n) (zl6 (gAt b g) n)
@[simp] abbrev zgu (b:Bare)(g n:Int):Bool:=zbM b g (zfD (gAt b g).Pending n)
def zmb:Run:=rF3 (dT .bare) dI dI fun b c d=>(zkF b c d,[aT .bare (zfj b c d),aB (zgu b c d)])
def zvA (N:Nat)(a0:Bare)(a1 a2:Int):OA:=
 let y1:=(zca a0);let y0:=(ix y1.Guests a1 zx); (oN (zeC a0) (oN (zh9 y1 a1) (cond (nB (zjg y1 a1)) (some [(aT .bare y1),(aB false)]) (oN (inb a1 (ln y1.Guests)) (oN (zjb y0.Pending a2) (oN (inb a1 (ln y1.Guests)) (share (up y1.Guests a1 ({ y0 with Pending:=(zge y0.Pending a2) }:Guest)) (fun x4=>(some [(aT .bare ({ y1 with Guests:=x4 }:Bare)),(aB (zlx y0.Pending a2))])))))))))
theorem zGy (a0:Bare)(a1 a2:Int)(hc:zkF a0 a1 a2=true):∃N,zvA N a0 a1 a2=some [aT .bare (zfj a0 a1 a2),aB (zgu a0 a1 a2)]:=by
 have hs:=zC.1 hc;have hz:zb0 a0 a1=true->hasB a1 (ln a0.Guests)=true:=fun h=>(zdf.1 h).2;have hz2:zb0 a0 a1=true->gAt a0 a1=ix a0.Guests a1 zx:=fun h=>zsf (zdf.1 h).2;have hj:=@z4e a0 a1 a2;have hj0:=@z5O a0 a1 (zfD (gAt a0 a1).Pending a2) (zl6 (gAt a0 a1) a2)
 refine ⟨0,?_⟩;unfold zvA oN nB
 conv=>zeta
 refine mu (mu (brN (fun _=>?_) (fun _=>mu (must rfl (mu (shr ?_))))))
 all_goals first|rfl|(simp only [*,zfj,zgu,zbM,zdV,zl6,cT,cF]<;>rfl)|simp_all[Ty.cells,zfj,zgu,zbM,zdV,zl6]
theorem zp8:vF 265 zmb:=kF3 zjA zu zl zn (zo []) zGy
@[simp] abbrev zps (b:Bare)(g:Int)(c:Ctl):Bool:=pc (SmB b)
@[simp] abbrev zhw (b:Bare)(g:Int)(c:Ctl):Bare:=chg b g (zgK c) (zFs (gAt b g) c)
@[simp] abbrev zi9 (b:Bare)(g:Int)(c:Ctl):Bool:=zbM b g (zgK c)
def zqQ:Run:=rF3 (dT .bare) dI dC fun b c d=>(zps b c d,[aT .bare (zhw b c d),aB (zi9 b c d)])
def zDS (N:Nat)(a0:Bare)(a1:Int)(a2:Ctl):OA:=
 let y0:=(zca a0); (oN (zeC a0) (oN (zh9 y0 a1) (cond (nB (zjg y0 a1)) (some [(aT .bare y0),(aB false)]) (oN (zqk a2) (cond (nB (zoQ a2)) (some [(aT .bare y0),(aB false)]) (oN (inb a1 (ln y0.Guests)) (share (up y0.Guests a1 ({ (ix y0.Guests a1 zx) with Ctl:=a2 }:Guest)) (fun x4=>(some [(aT .bare ({ y0 with Guests:=x4 }:Bare)),(aB true)])))))))))
theorem zPe (a0:Bare)(a1:Int)(a2:Ctl)(hc:zps a0 a1 a2=true):∃N,zDS N a0 a1 a2=some [aT .bare (zhw a0 a1 a2),aB (zi9 a0 a1 a2)]:=by
 have hs:=zC.1 hc;have hz:zb0 a0 a1=true->hasB a1 (ln a0.Guests)=true:=fun h=>(zdf.1 h).2;have hz2:zb0 a0 a1=true->gAt a0 a1=ix a0.Guests a1 zx:=fun h=>zsf (zdf.1 h).2
 refine ⟨0,?_⟩;unfold zDS oN nB
 conv=>zeta
 refine mu (mu (brN (fun _=>?_) (fun _=>must rfl (brN (fun _=>?_) (fun _=>mu (shr ?_))))))
 all_goals first|rfl|(simp only [*,zhw,zi9,chg,zbM,zFs,zdV,cT,cF]<;>rfl)|simp_all[Ty.cells,zhw,zi9,chg,zbM,zFs,zdV]
theorem ztK:vF 266 zqQ:=kF3 zjA zu zl zn (zo []) zPe
def z3J (p c v:Int):Bool:=bif hasB p 8 then (cond (hasB c 4) (win v 0 99) false) else false
def zv9 (b:Bare)(p c v:Int):Bool:=bif zbX b then z3J p c v else false
def zQi (b:Bare)(p c v:Int):Bare:=bif zv9 b p c v then { b with Memory:=zbx b.Memory p c v } else b
def zk1 (b:Bare):Bare:=bif zbX b then { b with Pending:=zi2 b.Pending } else b
def zqy (b:Bare):Int:=bif zbX b then zst b.Pending else -1
def zkg (b:Bare):Bool:=bif zbX b then !ilt (zdq b.Pending) 0 else false
def zmY (b:Bare)(g a n:Int):Bool:=bif zb0 b g then (cond (win a 0 15) (ze0 (gAt b g).Live (zbc a) n) false) else false
def zCs (b:Bare)(g a n:Int):Int:=zcj (gAt b g).Live (zbc a) n
def zxf (b:Bare)(g a v:Int):Bool:=bif zmY b g a 2 then win v 0 99 else false
def zWO (b:Bare)(g a v:Int):Bare:=bif zxf b g a v then { b with Memory:=zbx b.Memory (zCs b g a 2) (zcQ a) v } else b
def zQm (b:Bare)(g a:Int):Int:=bif zmY b g a 1 then cellAt b.Memory (zCs b g a 1) (zcQ a) else 0
@[simp] abbrev zpr (b:Bare):Bool:=pc (SmB b)
@[simp] abbrev zhv (b:Bare):Bare:=zk1 b
@[simp] abbrev zi7 (b:Bare):Int:=zqy b
@[simp] abbrev zi8 (b:Bare):Bool:=zkg b
def zqP:Run:=rF1 (dT .bare) fun b=>(zpr b,[aT .bare (zhv b),aI (zi7 b),aB (zi8 b)])
def zDR (N:Nat)(a0:Bare):OA:=
 let y0:=(zca a0); (oN (zeC a0) (oN (znx y0) (cond (nB (zeo y0)) (some [(aT .bare y0),(aI (-1)),(aB false)]) (oN (zpK y0.Pending) (some [(aT .bare ({ y0 with Pending:=(zjd y0.Pending) }:Bare)),(aI (zje y0.Pending)),(aB (zlA y0.Pending))])))))
theorem zPd (a0:Bare)(hc:zpr a0=true):∃N,zDR N a0=some [aT .bare (zhv a0),aI (zi7 a0),aB (zi8 a0)]:=by
 have hs:=zC.1 hc;refine ⟨0,?_⟩;unfold zDR oN nB
 conv=>zeta
 refine mu (must rfl (brN (fun _=>?_) (fun _=>must rfl ?_)))
 all_goals first|rfl|(simp only [*,zhv,zi7,zi8,zk1,zqy,zkg,zi2,zst,cT,cF]<;>rfl)|simp_all[Ty.cells,zhv,zi7,zi8,zk1,zqy,zkg,zi2,zst]
theorem ztJ:vF 270 zqP:=kF1 zjA zu zl zn (zo []) zPd
def z3s:zO:=z3r
theorem zQX:zF z3s:=zjA
def zdH (l:List Guest)(n:Int):List Int:=idxs (fun (x:Guest)=>posts x.Ctl n) l 0
theorem zRu {α:Type}(p:α->Bool):∀(l:List α) (i:Nat),∀k∈idxs p l i,(i:Int)<=k/\k<(i:Int)+l.length
 | [],_,k,hk=>by cases hk
 | x :: l,i,k,hk=>by
  have hr:=zRu p l (i+1);simp only[qU];unfold idxs at hk;cases hp:p x
  .rw [hp]at hk;have:=hr k hk;omega
  .rw [hp]at hk;rcases qH.1 hk with rfl|hk
   .omega
   .have:=hr k hk;omega
@[simp] abbrev zs3 (b:Bare)(n:Int):Bool:=pc (SmB b)
@[simp] abbrev zkS (b:Bare)(n:Int):List Int:=zdH b.Guests n
def zwy:Run:=rF2 (dT .bare) dI fun b c=>(zs3 b c,[aS .int (zkS b c)])
def zz0 (N:Nat)(a0:Bare)(a1:Int):OA:=
 (iter (σ:=(Int×(Int×(Int×((List Int)×(lM×(lG×((List Int)×Unit)))))))) N (fun r3 s4=>let y0:=s4.2.2.2.2.2.1;let y1:=(ix y0 s4.2.1 zx).Ctl; (cond (ilt s4.2.1 (ln y0)) (oN (inb s4.2.1 (ln y0)) (oN (zB6 y1 s4.1) (cond (zwO y1 s4.1) (oN (few (ln (ap s4.2.2.2.1 [s4.2.1]))) (r3 (s4.1,((zG .i64 s4.2.1 1),(s4.2.2.1,((ap s4.2.2.2.1 [s4.2.1]),(s4.2.2.2.2.1,(y0,(s4.2.2.2.2.2.2.1,()))))))))) (r3 (s4.1,((zG .i64 s4.2.1 1),(s4.2.2.1,(s4.2.2.2.1,(s4.2.2.2.2.1,(y0,(s4.2.2.2.2.2.2.1,()))))))))))) (some [(aS .int s4.2.2.2.1)]))) (a1,(0,(a0.Pending,([],(a0.Memory,(a0.Guests,(a0.Outs,()))))))))
def zM3:FuncId->Nat->Option Tmpl:=zo [(313,0,{ n:=28,tm:=[(1,ti),(2,.lp 0 0),(5,.sl 0 []),(6,ti)],lo:=[(0,[.sl 1 [],.sl 2 [],.sl 3 [],ti])],ro:=[(0,.int,true),(1,(.sl .int),false),(2,.guest,false),(3,.int,false)] })]
theorem zMc (a0:Bare)(a1:Int)(hc:zs3 a0 a1=true):∃N,zz0 N a0 a1=some [aS .int (zkS a0 a1)]:=by
 have hs:=zC.1 hc;have hl:=zcd hs.2.1.1;refine zbT fun N hNN=>?_;unfold zz0 oN
 conv=>zeta
 refine (zba a0.Guests (fun i (t:(List Int))=>(a1,(i:Int),a0.Pending,t,a0.Memory,a0.Guests,a0.Outs,())) _ (fun i (x:Guest) (t:List Int) κ=>bif posts x.Ctl a1 then (cond (few (ln (ap t [(i:Int)]))) (κ (ap t [(i:Int)])) none) else κ t) (fun (t:(List Int))=>(some [(.one (.s .int t))])) (fun i hi t rec=>?_) (fun t rec=>?_) _ ([]) (hNN hl.1)).trans ?_
 .simp only [zbh hi,zN hi,zZ hi,zU hi hl.1,cT]
 .simp only [zbb,cF]
 exact zjF (fun (x:Guest)=>posts x.Ctl a1) _ a0.Guests 0 [] (by simpa using hl.2)
theorem zF6:vF 313 zwy:=kF2 zQX zu zl zn zM3 zMc
def z3t:zO:=[(313,zwy)]++z3s
theorem zQY:zF z3t:=zh zF6 zQX
def zCH (n:Int)(l:List Guest)(k:Int):List Guest:=up l k (zl6 (ix l k zx) n)
def zkC (n:Int)(ks:List Int)(l:List Guest):List Guest:=ks.foldl (zCH n) l
theorem zBb (n:Int)(l:List Guest)(k:Int):(zCH n l k).length=l.length:=zfG _ _ _
theorem zXZ {n:Int}{l:List Guest}{k:Int}(hk:hasB k (ln l)=true)(h:zlW l):zlW (zCH n l k):=zCO h (z0c h hk _)
theorem zCc {n:Int}:∀(ks:List Int) {l:List Guest},(∀k∈ks,hasB k (ln l)=true)->zlW l->zlW (zkC n ks l)/\(zkC n ks l).length=l.length
 | [],_,_,h=>⟨h,rfl⟩
 | k :: ks,l,hk,h=>by
  have h1:=zXZ (n:=n) (hk k (by simp)) h
  obtain ⟨g1,g2⟩:=zCc (n:=n) ks (l:=zCH n l k) (fun j hj=>by rw[ln,zBb];exact hk j (by simp[hj])) h1
  exact ⟨g1,g2.trans (zBb _ _ _)⟩
theorem zRi {ρ:Type}(n:Int)(K:List Guest->Option ρ):∀(ks:List Int) (i:Nat) (l:List Guest),(∀k∈ks,hasB k (ln l)=true) ->
 goL (fun _ k (t:List Guest) κ=>bif inb k (ln t) then (cond (inb k (ln t)) (κ (up t k (zl6 (ix t k zx) n))) none) else none) K ks i l=K (zkC n ks l)
 | [],_,_,_=>rfl
 | k :: ks,i,l,h=>by
  have hk:inb k (ln l)=true:=h k (by simp)
  simp only[goL,hk,cT];exact zRi n K ks (i+1) (zCH n l k) (fun j hj=>by rw[ln,zBb];exact h j (by simp[hj]))
def zCI (b:Bare)(n:Int):Bare:=bif ieq (ln (zdH b.Guests n)) 0 then { b with Pending:=zrv b.Pending n } else { b with Guests:=zkC n (zdH b.Guests n) b.Guests }
def zes (b:Bare)(n:Int):Bool:=bif zbX b then hasB n 8 else false
def ziw (b:Bare)(n:Int):Bare:=bif zes b n then zCI b n else b
theorem zJV {b:Bare}{n:Int}:∀k∈zdH b.Guests n,hasB k (ln b.Guests)=true:=fun k hk=>by
 have:=zRu _ _ _ k hk;exact qK (by simp only[ln];omega)
theorem zXG {b:Bare}{n:Int}(h:ieq (ln (zdH b.Guests n)) 0=true):zkC n (zdH b.Guests n) b.Guests=b.Guests:=by
 have h1:((zdH b.Guests n).length:Int)=0:=qE h;have:zdH b.Guests n=[]:=uS.1 (by omega)
 rw[this];rfl
theorem zXF {b:Bare}{n:Int}:(cond (ieq (ln (zdH b.Guests n)) 0) (some [AV.agg (Ty.cells .bare ⟨b.Memory,zkC n (zdH b.Guests n) b.Guests,b.Outs,zrv b.Pending n⟩),AV.one (.b true)]) (some [AV.agg (Ty.cells .bare ⟨b.Memory,zkC n (zdH b.Guests n) b.Guests,b.Outs,b.Pending⟩),AV.one (.b true)]))=some [AV.agg (Ty.cells .bare (zCI b n)),AV.one (.b true)]:=by
 unfold zCI;cases h:ieq (ln (zdH b.Guests n)) 0
 .rfl
 .simp only [cT,zXG h]
@[simp] abbrev zny (b:Bare)(n:Int):Bool:=pc (SmB b)
@[simp] abbrev zhW (b:Bare)(n:Int):Bare:=ziw b n
@[simp] abbrev zjY (b:Bare)(n:Int):Bool:=zes b n
def zoJ:Run:=rF2 (dT .bare) dI fun b c=>(zny b c,[aT .bare (zhW b c),aB (zjY b c)])
def zzR (N:Nat)(a0:Bare)(a1:Int):OA:=
 let y2:=(zca a0); (oN (zeC a0) (oN (znx y2) (cond (nB (zeo y2)) (some [(aT .bare y2),(aB false)]) (oN (zI a1 0 7) (cond (nB (zK a1 0 7)) (some [(aT .bare y2),(aB false)]) (oN (zs3 y2 a1) (iter (σ:=(Int×(Int×(Int×(Int×((List Int)×(lM×(lG×((List Int)×(lM×(lG×((List Int)×Unit)))))))))))) N (fun r3 s4=>let y5:=s4.2.2.2.2.2.2.2.1;let y3:=s4.2.2.2.2.1;let y1:=s4.2.2.2.2.2.2.1;let y0:=(ix y3 s4.2.1 0);let y4:=(ix y1 y0 zx); (cond (ilt s4.2.1 (ln y3)) (oN (inb s4.2.1 (ln y3)) (oN (inb s4.2.1 (ln y3)) (oN (inb y0 (ln y1)) (oN (zjb y4.Pending s4.1) (oN (inb y0 (ln y1)) (r3 (s4.1,((zG .i64 s4.2.1 1),(s4.2.2.1,(s4.2.2.2.1,(y3,(s4.2.2.2.2.2.1,((up y1 y0 ({ y4 with Pending:=(zge y4.Pending s4.1) }:Guest)),(y5,(s4.2.2.2.2.2.2.2.2.1,(s4.2.2.2.2.2.2.2.2.2.1,(s4.2.2.2.2.2.2.2.2.2.2.1,()))))))))))))))))) (cond (ieq (ln y3) 0) (oN (zjb s4.2.2.1 s4.1) (some [(aT .bare (⟨s4.2.2.2.2.2.1,y1,y5,(zge s4.2.2.1 s4.1)⟩:Bare)),(aB true)])) (some [(aT .bare (⟨s4.2.2.2.2.2.1,y1,y5,s4.2.2.1⟩:Bare)),(aB true)])))) (a1,(0,(y2.Pending,(0,((zkS y2 a1),(y2.Memory,(y2.Guests,(y2.Outs,([],([],([],()))))))))))))))))))
def zMY:FuncId->Nat->Option Tmpl:=zo [(269,0,{ n:=62,tm:=[(1,ti),(2,.lp 0 0),(4,.lp 1 0),(6,.sl 0 []),(7,ti)],lo:=[(0,[.sl 1 [],.sl 2 [],.sl 3 [],ti]),(1,[.sl 4 [],.sl 5 [],.sl 6 [],ti])],ro:=[(0,.int,true),(1,(.sl .int),true),(2,.guest,true),(3,.int,true),(4,(.sl .int),true),(5,.guest,true),(6,.int,true)] })]
theorem zL2 (a0:Bare)(a1:Int)(hc:zny a0 a1=true):∃N,zzR N a0 a1=some [aT .bare (zhW a0 a1),aB (zjY a0 a1)]:=by
 have hs:=zC.1 hc;have hk:(zdH a0.Guests a1).length<=big:=jC (zxz _ _ _) (zcd hs.2.1.1).1;refine zbT fun N hNN=>?_;unfold zzR zhW zjY ziw zes oN nB
 conv=>zeta
 refine must (zY hs) (must rfl (brN (fun h1=>?_) (fun h1=>must rfl (brN (fun h2=>?_) (fun h2=>must (zY hs) ?_)))))
 .simp only [show zbX a0=false from h1,cF]
 .simp only [show zbX a0=true from h1,show hasB a1 8=false from by first|exact h2|exact (z0r a1).symm.trans h2,cT,cF]
 simp only[show zbX a0=true from h1,show hasB a1 8=true from by first|exact h2|exact (z0r a1).symm.trans h2,cT]
 refine (zba (zkS (zca a0) a1) (fun i (t:lG)=>(a1,(i:Int),(zca a0).Pending,0,(zkS (zca a0) a1),(zca a0).Memory,t,(zca a0).Outs,[],[],[],())) _ (fun _ k (t:List Guest) κ=>bif inb k (ln t) then (cond (inb k (ln t)) (κ (up t k (zl6 (ix t k zx) a1))) none) else none) (fun (t:lG)=>(cond (ieq (ln (zkS (zca a0) a1)) 0) (cond (zjb (zca a0).Pending a1) (some [(.agg (Ty.cells .bare (⟨(zca a0).Memory,t,(zca a0).Outs,(zge (zca a0).Pending a1)⟩:Bare))),(.one (.b true))]) none) (some [(.agg (Ty.cells .bare (⟨(zca a0).Memory,t,(zca a0).Outs,(zca a0).Pending⟩:Bare))),(.one (.b true))]))) (fun i hi t rec=>?_) (fun t rec=>?_) _ ((zca a0).Guests) (hNN hk)).trans ?_
 .simp only [zbh hi,zN hi,zZ hi,zU hi hk,cT];rfl
 .simp only [zbb,cF];rfl
 exact (zRi a1 _ _ 0 _ zJV).trans zXF
theorem zsk:vF 269 zoJ:=kF2 zQY zu zl zn zMY zL2
def zYl:zO:=[(258,zqR),(261,zno),(263,zma),(264,zmc),(265,zmb),(266,zqQ),(270,zqP),(269,zoJ)]++z3t
theorem zAm:zF zYl:=zh ztL (zh zrb (zh zp7 (zh zp9 (zh zp8 (zh ztK (zh ztJ (zh zsk zQY)))))))
theorem z0j {n:Int}(h:(ieq n 4||ieq n 8)=true):n=4\/n=8:=by
 rcases jW _ _ ▸ h with h|h
 .exact .inl (qE h)
 .exact .inr (qE h)
theorem zZx {n:Int}(h:(ieq n 8||ieq n 12)=true):n=8\/n=12:=by
 rcases jW _ _ ▸ h with h|h
 .exact .inl (qE h)
 .exact .inr (qE h)
@[simp] abbrev zhZ (n:Int):Bool:=ieq n 4||ieq n 8
@[simp] abbrev zf4 (n:Int):List Slot:=List.replicate n.toNat ⟨-1,0⟩
def zoM:Run:=rF1 dI fun b=>(zhZ b,[aS .slot (zf4 b)])
def zQx (N:Nat)(a0:Int):OA:=
 (oN (zpu a0 0 24) (iter (σ:=(Int×(lS×Unit))) N (fun r2 s3=>(cond (igt s3.1 0) (oN zci (oN (few (ln (ap s3.2.1 [zbq]))) (r2 ((wsub .i64 s3.1 1),((ap s3.2.1 [zbq]),()))))) (some [(aS .slot s3.2.1)]))) ((zqj a0 0 24),([],()))))
def zM5:FuncId->Nat->Option Tmpl:=zo [(243,0,{ n:=17,tm:=[(3,.sl 0 []),(4,ti)],lo:=[],ro:=[(0,.slot,true)] })]
theorem zMj (a0:Int)(hc:zhZ a0=true):∃N,zQx N a0=some [aS .slot (zf4 a0)]:=by
 refine ⟨30,?_⟩;have h:a0=4\/a0=8:=z0j hc;rcases h with rfl|rfl<;>(change _=_;kernel_rfl)
theorem zsm:vF 243 zoM:=kF1 zAm zu zl zn zM5 zMj
@[simp] abbrev znM (n:Int):Bool:=ieq n 8||ieq n 12
@[simp] abbrev zix (n:Int):List (List Int):=List.replicate n.toNat [0,0,0,0]
def zsL:Run:=rF1 dI fun b=>(znM b,[aS (.sl .int) (zix b)])
def zWj (N:Nat)(a0:Int):OA:=
 (oN (zpu a0 0 24) (iter (σ:=(Int×(lM×Unit))) N (fun r2 s3=>(cond (igt s3.1 0) (oN (cond (few 4) (ieq 4 4) false) (oN (few (ln (ap s3.2.1 [(rp 4 0)]))) (r2 ((wsub .i64 s3.1 1),((ap s3.2.1 [(rp 4 0)]),()))))) (some [(aS (.sl .int) s3.2.1)]))) ((zqj a0 0 24),([],()))))
def zTz:FuncId->Nat->Option Tmpl:=zo [(185,0,{ n:=17,tm:=[(3,.sl 0 []),(4,ti)],lo:=[],ro:=[(0,(.sl .int),true)] })]
theorem zRZ (a0:Int)(hc:znM a0=true):∃N,zWj N a0=some [aS (.sl .int) (zix a0)]:=by
 refine ⟨30,?_⟩;have h:a0=8\/a0=12:=zZx hc;rcases h with rfl|rfl<;>(change _=_;kernel_rfl)
theorem zvT:vF 185 zsL:=kF1 zAm zu zl zn zTz zRZ
def zYm:zO:=[(243,zoM),(185,zsL)]++zYl
theorem zNG:zF zYm:=zh zsm (zh zvT zAm)
def zkc:List Slot:=List.replicate 4 ⟨-1,0⟩
def zem (p:List Ins):Guest:=⟨p,0,0,zkc,zkc,⟨0,0,false⟩,0,⟨0,0,false,0⟩,false,[]⟩
@[simp] abbrev znD (p:List Ins):Bool:=pc (p.length<=1048576)
@[simp] abbrev znC (p:List Ins):Guest:=zem p
def zoK:Run:=rF1 (dS .ins) fun b=>(znD b,[aT .guest (znC b)])
def zzU (N:Nat)(a0:lI):OA:=
 (oN (few (ln (ap [] a0))) (oN (zhZ 4) (oN (zhZ 4) (some [(aT .guest (⟨(ap [] a0),0,0,(zf4 4),(zf4 4),⟨0,0,false⟩,0,⟨0,0,false,0⟩,false,[]⟩:Guest))]))))
theorem zL6 (a0:List Ins)(hc:znD a0=true):∃N,zzU N a0=some [aT .guest (znC a0)]:=by
 have hs:=zC.1 hc;refine ⟨0,?_⟩;unfold zzU oN;refine mu (must rfl (must rfl ?_))
 first|rfl|(simp only [*,znC,zem,zkc,cT,cF]<;>rfl)|simp_all[Ty.cells,znC,zem,zkc]
theorem zsl:vF 244 zoK:=kF1 zNG zu zl zn (zo []) zL6
def z6a:zO:=[(244,zoK)]++zYm
theorem zAn:zF z6a:=zh zsl zNG
def zMA:List (List Int):=List.replicate 8 [0,0,0,0]
def z5K (ps:List (List Ins)):Prop:=ps.length<=1048576/\∀p∈ps,p.length<=1048576
theorem zOb {α β ρ:Type}(m:Nat)(f:α->β)(K:List β->Option ρ):∀(l:List α) (i:Nat) (acc:List β),acc.length+l.length<=2147483648 ->
 goL (fun (i:Nat) x acc k=>bif ilt (i:Int) (m:Int) then (cond (few (ln (ap acc [f x]))) (k (ap acc [f x])) none) else K acc) K l i acc=K (acc++(l.take (m-i)).map f)
 | [],i,acc,_=>by simp[goL]
 | x :: l,i,acc,hn=>by
  simp only[qU]at hn;have hf:few (ln (ap acc [f x]))=true:=zfU (by simp[ap];omega)
  by_cases h:i<m
  .have hi:ilt (i:Int) (m:Int)=true:=qK (by omega)
   simp only[goL,hi,hf,cT];rw[zOb m f K l (i+1) (ap acc [f x]) (by simp[ap];omega)]
   rw[show m-i=m-(i+1)+1 by omega]
   simp[ap]
  .have hi:ilt (i:Int) (m:Int)=false:=qJ (by omega)
   simp only[goL,hi,cF];rw[show m-i=0 by omega]
   simp
@[simp] abbrev zBW (a:GAct):Bool:=true
@[simp] abbrev zwL (a:GAct):Bool:=win a.Kind 1 17
def zEO:Run:=rF1 (dT .act) fun b=>(zBW b,[aB (zwL b)])
def zNk (N:Nat)(a0:GAct):OA:=
 (oN (zI a0.Kind 1 17) (some [(aB (zK a0.Kind 1 17))]))
theorem zUl (a0:GAct)(hc:zBW a0=true):∃N,zNk N a0=some [aB (zwL a0)]:=by
 refine ⟨0,?_⟩;unfold zNk oN;refine must rfl ?_
 first|rfl|(simp only [*,zwL,cT,cF]<;>rfl)|simp_all[Ty.cells,zwL]
theorem zON:vF 187 zEO:=kF1 zAn zu zl zn (zo []) zUl
@[simp] abbrev zvh (k:Int):Bool:=true
@[simp] abbrev zql (k:Int):Bool:=win k 13 17
def zyU:Run:=rF1 dI fun b=>(zvh b,[aB (zql b)])
def zD3 (N:Nat)(a0:Int):OA:=
 (oN (zI a0 13 17) (some [(aB (zK a0 13 17))]))
theorem zPp (a0:Int)(hc:zvh a0=true):∃N,zD3 N a0=some [aB (zql a0)]:=by
 refine ⟨0,?_⟩;unfold zD3 oN;refine must rfl ?_
 first|rfl|(simp only [*,zql,cT,cF]<;>rfl)|simp_all[Ty.cells,zql]
theorem zIK:vF 188 zyU:=kF1 zAn zu zl zn (zo []) zPp
@[simp] abbrev zBX (a:GAct):Bool:=true
@[simp] abbrev zoP (a:GAct):Ctl:=⟨a.X,a.Y,ieq a.Z 1⟩
def zEP:Run:=rF1 (dT .act) fun b=>(zBX b,[.agg (zAl (zoP b))])
def zNl (N:Nat)(a0:GAct):OA:=
 (some [(.agg [(.i .i64 a0.X),(.i .i64 a0.Y),(.b (ieq a0.Z 1))])])
theorem zUm (a0:GAct)(hc:zBX a0=true):∃N,zNl N a0=some [.agg (zAl (zoP a0))]:=by
 refine ⟨0,?_⟩;unfold zNl
 first|rfl|(simp only [*,zoP,cT,cF]<;>rfl)|simp_all[Ty.cells,zoP]
theorem zOO:vF 197 zEP:=kF1 zAn zu zl zn (zo []) zUm
def zQU:zO:=[(258,zqR),(261,zno),(263,zma),(264,zmc),(265,zmb),(266,zqQ),(270,zqP),(269,zoJ),(185,zsL)]++z3p
theorem zAo:zF zQU:=zh ztL (zh zrb (zh zp7 (zh zp9 (zh zp8 (zh ztK (zh ztJ (zh zsk (zh zvT z07))))))))
def zcy (x:Mon):Bare:=⟨zMA,x.Guests,x.Outs,x.Pending⟩
def ztv (x:Mon)(b:Bare):Mon:={ x with Guests:=b.Guests,Pending:=b.Pending }
def zcL (h:Host)(m:Int)(b:Bare):Host:={ h with Mons:=up h.Mons m (ztv (ix h.Mons m mZ) b) }
@[simp] abbrev zed (x:Mon):Bool:=pc (zeG x)
@[simp] abbrev zby (x:Mon):Bare:=zcy x
def zzb:Run:=rF1 (dT .mon) fun b=>(zed b,[aT .bare (zby b)])
def zEk (N:Nat)(a0:Mon):OA:=
 (oN (znM 8) (oN (zfa a0.Guests) (oN (few (ln (ap [] a0.Outs))) (some [(aT .bare (⟨(zix 8),(zft a0.Guests),(ap [] a0.Outs),a0.Pending⟩:Bare))]))))
theorem zPP (a0:Mon)(hc:zed a0=true):∃N,zEk N a0=some [aT .bare (zby a0)]:=by
 have hs:=zC.1 hc;refine ⟨0,?_⟩;unfold zEk oN;exact must rfl (must (zY ((ztA _).2 hs.2.2.2.1)) (must (zmt hs.2.2.2.2.1) rfl))
theorem zI9:vF 259 zzb:=kF1 zAo zu zb9 zh4 (zo []) zPP
@[simp] abbrev zec (h:Host)(m:Int)(b:Bare):Bool:=pc (hasB m (ln h.Mons)=true/\zlW b.Guests)
@[simp] abbrev zgj (h:Host)(m:Int)(b:Bare):Host:=zcL h m b
theorem z6B {l:List Mon}{m:Int}(hm:hasB m (ln l)=true)(b:Bare):inb m (ln (up l m { ix l m mZ with Guests:=b.Guests }))=true /\
 up (up l m { ix l m mZ with Guests:=b.Guests }) m { ix (up l m { ix l m mZ with Guests:=b.Guests }) m mZ with Pending:=b.Pending }=up l m (ztv (ix l m mZ) b):=by
 obtain ⟨k,rfl,hk⟩:=zc9 (n:=l.length) hm;refine ⟨zB (by rw[ln,zfG];exact hm),?_⟩
 rw[zpU,zc5 hk];rfl
def zqX:List AV->Option (Bool×List AV)
 | [.agg [.s (.sl .int) b,.s .mon c,.s .entry d,.s .entry e],.one (.i .i64 f),.agg [.s (.sl .int) g,.s .guest h,.s .int j,.i .i64 k]]=>some ((zec (⟨b,c,d,e⟩:Host) f (⟨g,h,j,k⟩:Bare)),[aH (zgj (⟨b,c,d,e⟩:Host) f (⟨g,h,j,k⟩:Bare))])
 | _=>none
def zuS (N:Nat)(a0:Host)(a1:Int)(a2:Bare):OA:=
 (oN (zfa a2.Guests) (oN (inb a1 (ln a0.Mons)) (share (up a0.Mons a1 ({ (ix a0.Mons a1 zf) with Guests:=(zft a2.Guests) }:Mon)) (fun x4=>(oN (inb a1 (ln x4)) (share (up x4 a1 ({ (ix x4 a1 zf) with Pending:=a2.Pending }:Mon)) (fun x5=>(some [(aH ({ a0 with Mons:=x5 }:Host))]))))))))
theorem zSG (N:Nat)(a0:Host)(a1:Int)(a2:Bare):zWQ (cQ zQU zox zXE z2f) (zo []) N 12 260 [true,true,true,true,false,false,false,false,false] [aH a0,aI a1,aT .bare a2]=zuS N a0 a1 a2:=by kernel_rfl
theorem zPO (a0:Host)(a1:Int)(a2:Bare)(hb:zbB big [aH a0,aI a1,aT .bare a2])(hc:zec a0 a1 a2=true):∃N,zuS N a0 a1 a2=some [aH (zgj a0 a1 a2)]:=by
 obtain ⟨hm,hg⟩:=zC.1 hc;obtain ⟨h1,h2⟩:=z6B hm a2;refine ⟨0,?_⟩;unfold zuS oN;refine must (zY ((ztA _).2 hg)) (must (zB hm) (shr (must h1 (shr ?_))));have e:zft a2.Guests=a2.Guests:=rfl;rw[e]
 show some [AV.agg (zbf { a0 with Mons:=_ })]=some [AV.agg (zbf { a0 with Mons:=_ })]
 rw[show zf=mZ from rfl,h2]
theorem zI8:zdF Tryz.prog 260 [true,true,true,true,false,false,false,false,false] none zqX:=by
 refine zKU (zcS zAo zu zb9 zh4) (zef (by kernel_rfl)) (by kernel_rfl) ?_
 intro avs rs hl hr h;have hb:=zhH hr;unfold zqX at h;split at h
 .obtain ⟨hc,rfl⟩:=zdJ h;obtain ⟨N,hN⟩:=zPO _ _ _ (by exact hb) hc
  exact ⟨_,N,12,(zSG N _ _ _ ).trans hN⟩
 .cases h
def zYs:zO:=[(259,zzb)]++zQU
theorem zh6:zF zYs:=zh zI9 zAo
def z7c:zfc:=[(260,([true,true,true,true,false,false,false,false,false],none,zqX))]++z2f
theorem zcR:zd6 z7c:=zo1 zh4 (by
 intro x hx;simp only[qH,qX,or_false]at hx;rcases hx with rfl
 .exact zI8)
def z3Q (h:Host)(m:Int)(cB:Bool)(B:Bare)(o0 o1:Host->Ans):OA:=
 bif zbD h then (cond (zeZ h m) (cond (cond (zeY h m) false true) (some (o0 h)) (cond (inb m (ln h.Mons)) (cond (zed (ix h.Mons m mZ)) (cond cB (cond (zec h m B) (some (o1 (zcL h m B))) none) none) none) none)) none) else none
theorem zbO {h:Host}{m:Int}:(zb2 h m=true)↔zbJ h=true/\hasB m (ln h.Mons)=true:=by
 unfold zb2;cases zbJ h<;>simp
theorem zms {h:Host}{m:Int}{cB:Bool}{B:Bare}{o0 o1:Host->Ans}(hs:SmH h)(hc:zb2 h m=true->cB=true)(hB:zb2 h m=true->SmB B):z3Q h m cB B o0 o1=some (cond (zb2 h m) (o1 (zcL h m B)) (o0 h)):=by
 unfold z3Q;refine must (zY ((zM h).2 hs)) (must rfl ?_);rw[show zeY h m=zb2 h m from rfl]
 cases h0:zb2 h m
 .rfl
 .have h2:=(zbO.1 h0).2;exact zc6 rfl (must (zB h2) (must (zY (hs.2.1.2 _ (zbr h2 _))) (must (hc h0) (must (zY ⟨h2,(hB h0).2.1⟩) rfl))))
structure SameB (b c:Bare):Prop where
 g:b.Guests=c.Guests
 p:b.Pending=c.Pending
 o:zbX b=zbX c
theorem SameB.at {b c:Bare}(h:SameB b c)(g:Int):gAt b g=gAt c g:=by unfold gAt;rw[h.g]
theorem SameB.has {b c:Bare}(h:SameB b c)(g:Int):zb0 b g=zb0 c g:=by unfold zb0;rw[h.g,h.o]
theorem back_eq {h:Host}{m:Int}{b c:Bare}(hg:b.Guests=c.Guests)(hp:b.Pending=c.Pending):zcL h m b=zcL h m c:=by
 unfold zcL ztv;rw[hg,hp]
theorem zof {b c:Bare}(hS:SameB b c)(h:Host)(m g:Int)(k:Bool)(x:Guest):zcL h m (chg b g k x)=zcL h m (chg c g k x):=by
 unfold chg;rw[hS.has];cases (cond (zb0 c g) k false)
 .exact back_eq hS.g hS.p
 .exact back_eq (by simp only[cT,zdV,hS.g]) hS.p
theorem zkk {b c:Bare}(hS:SameB b c)(g:Int)(k:Bool):zbM b g k=zbM c g k:=by
 unfold zbM;rw[hS.has]
theorem zib {h:Host}{m:Int}(h0:zb2 h m=true)(hv:zbX (zcy (ix h.Mons m mZ))=true):SameB (zcy (ix h.Mons m mZ)) (zA h m):=by
 obtain ⟨h1,h2⟩:=zbO.1 h0;refine ⟨?_,?_,hv.trans (zEm h1 h2).symm⟩<;>unfold zA zcy<;>rw [h2]<;>rfl
theorem z4Z:zgL zMA 8=true:=by decide
theorem zmM {h:Host}{m:Int}(h0:zb2 h m=true):zbX (zcy (ix h.Mons m mZ))=true:=by
 obtain ⟨h1,h2⟩:=zbO.1 h0;have:=zEm h1 h2;unfold zA at this;rw[h2,cT] at this;unfold zbX at this ⊢;simp only[zcy,z4Z] at *
 simp_all
theorem zep {x:Mon}(h:zeG x):SmB (zcy x):=⟨show SmM zMA from ⟨by decide,by decide⟩,h.2.2.2.1,h.2.2.2.2.1⟩
def zei (h:Host)(m:Int)(b:Bare):Host:=bif zb2 h m then zcL h m b else h
def zdE (h:Host)(m:Int)(ok:Bool):Bool:=bif zb2 h m then ok else false
@[simp] abbrev zi5 (b:Bare)(g p:Int)(s:Slot):Bare:=chg b g (zq5 p s) (zx5 (gAt b g) p s)
@[simp] abbrev zln (b:Bare)(g p:Int)(s:Slot):Bool:=zbM b g (zq5 p s)
@[simp] abbrev zgq (b:Bare)(g v:Int):Bare:=chg b g (zqz (gAt b g) v) (zuT (gAt b g) v)
@[simp] abbrev zhQ (b:Bare)(g v:Int):Bool:=zbM b g (zqz (gAt b g) v)
@[simp] abbrev zgs (b:Bare)(g:Int):Bare:=chg b g (zu6 (gAt b g)) (zu7 (gAt b g))
@[simp] abbrev zhS (b:Bare)(g:Int):Bool:=zbM b g (zu6 (gAt b g))
@[simp] abbrev zgr (b:Bare)(g n:Int):Bare:=chg b g (zfD (gAt b g).Pending n) (zl6 (gAt b g) n)
@[simp] abbrev zhR (b:Bare)(g n:Int):Bool:=zbM b g (zfD (gAt b g).Pending n)
@[simp] abbrev zi4 (b:Bare)(g:Int)(c:Ctl):Bare:=chg b g (zgK c) (zFs (gAt b g) c)
@[simp] abbrev zlm (b:Bare)(g:Int)(c:Ctl):Bool:=zbM b g (zgK c)
@[simp] abbrev zll (b:Bare):Bare:=zk1 b
@[simp] abbrev zpi (b:Bare):Int:=zqy b
@[simp] abbrev zpj (b:Bare):Bool:=zkg b
@[simp] abbrev zjQ (b:Bare)(n:Int):Bare:=ziw b n
@[simp] abbrev znf (b:Bare)(n:Int):Bool:=zes b n
@[simp] abbrev zUH (h:Host)(m:Int)(g p:Int)(s:Slot):Host:=zei h m (zi5 (zA h m) g p s)
@[simp] abbrev zUI (h:Host)(m:Int)(g p:Int)(s:Slot):Bool:=zdE h m (zln (zA h m) g p s)
@[simp] abbrev zMt (h:Host)(m:Int)(g v:Int):Host:=zei h m (zgq (zA h m) g v)
@[simp] abbrev zMu (h:Host)(m:Int)(g v:Int):Bool:=zdE h m (zhQ (zA h m) g v)
@[simp] abbrev zMx (h:Host)(m:Int)(g:Int):Host:=zei h m (zgs (zA h m) g)
@[simp] abbrev zMy (h:Host)(m:Int)(g:Int):Bool:=zdE h m (zhS (zA h m) g)
@[simp] abbrev zMv (h:Host)(m:Int)(g n:Int):Host:=zei h m (zgr (zA h m) g n)
@[simp] abbrev zMw (h:Host)(m:Int)(g n:Int):Bool:=zdE h m (zhR (zA h m) g n)
@[simp] abbrev zUF (h:Host)(m:Int)(g:Int)(x:Ctl):Host:=zei h m (zi4 (zA h m) g x)
@[simp] abbrev zUG (h:Host)(m:Int)(g:Int)(x:Ctl):Bool:=zdE h m (zlm (zA h m) g x)
@[simp] abbrev zSt (h:Host)(m:Int)(n:Int):Host:=zei h m (zjQ (zA h m) n)
@[simp] abbrev zSu (h:Host)(m:Int)(n:Int):Bool:=zdE h m (znf (zA h m) n)
@[simp] abbrev zUC (h:Host)(m:Int):Host:=zei h m (zll (zA h m))
@[simp] abbrev zUD (h:Host)(m:Int):Int:=bif zb2 h m then zpi (zA h m) else -1
@[simp] abbrev zUE (h:Host)(m:Int):Bool:=zdE h m (zpj (zA h m))
@[simp] abbrev zPR (h:Host)(m g p:Int):Bool:=zdE h m (zbM (zA h m) g (hasB p 4))
theorem zZQ {b c:Bare}(hS:SameB b c)(n:Int):(ziw b n).Guests=(ziw c n).Guests/\(ziw b n).Pending=(ziw c n).Pending/\zes b n=zes c n:=by
 have e:zes b n=zes c n:=by unfold zes;rw[hS.o]
 unfold ziw;rw[e];cases zes c n
 .exact ⟨hS.g,hS.p,rfl⟩
 .unfold zCI;rw[hS.g];cases ieq (ln (zdH c.Guests n)) 0
  .exact ⟨by simp only[cT,cF],by simp only[cT,cF,hS.p],rfl⟩
  .exact ⟨by simp only[cT,hS.g],by simp only[cT,hS.p],rfl⟩
theorem z0u {b c:Bare}(hS:SameB b c):(zk1 b).Guests=(zk1 c).Guests/\(zk1 b).Pending=(zk1 c).Pending/\zqy b=zqy c/\zkg b=zkg c:=by
 unfold zk1 zqy zkg;rw[hS.o,hS.p];cases zbX c
 .exact ⟨hS.g,hS.p,rfl,rfl⟩
 .exact ⟨hS.g,rfl,rfl,rfl⟩
theorem z0b {b:Bare}{n:Int}(h:SmB b):SmB (ziw b n):=by
 unfold ziw;cases zes b n
 .exact h
 .unfold zCI;cases ieq (ln (zdH b.Guests n)) 0
  .exact ⟨h.1,(zCc _ zJV h.2.1).1,h.2.2⟩
  .exact h
theorem z1V {b:Bare}(h:SmB b):SmB (zk1 b):=by
 unfold zk1;cases zbX b
 .exact h
 .exact h
theorem zrQ {H H':Host}{x y:Bool}(h1:H=H')(h2:x=y):some [AV.agg (zbf H),AV.one (.b x)]=some [AV.agg (zbf H'),AV.one (.b y)]:=by rw[h1,h2]
theorem z4h {H H':Host}{n k:Int}{x y:Bool}(h1:H=H')(h2:n=k)(h3:x=y):some [AV.agg (zbf H),AV.one (.i .i64 n),AV.one (.b x)]=some [AV.agg (zbf H'),AV.one (.i .i64 k),AV.one (.b y)]:=by rw[h1,h2,h3]
theorem zVZ {b:Bare}(g p:Int)(s:Slot)(hb:SmB b):SmB (zi5 b g p s):=zo0 hb (z1Y _ _ (ziX _ hb))
theorem z1R {b c:Bare}(hS:SameB b c)(h:Host)(m:Int)(g p:Int)(s:Slot):zcL h m (zi5 b g p s)=zcL h m (zi5 c g p s)/\zln b g p s=zln c g p s:=by
 have e:=hS.at g;simp only[zi5,zln,e];exact ⟨zof hS _ _ _ _ _,zkk hS _ _⟩
@[simp] abbrev zvg (h:Host)(m:Int)(g p:Int)(s:Slot):Bool:=pc (zbA h)
@[simp] abbrev zpE (h:Host)(m:Int)(g p:Int)(s:Slot):Host:=zei h m (zi5 (zA h m) g p s)
@[simp] abbrev zpF (h:Host)(m:Int)(g p:Int)(s:Slot):Bool:=zdE h m (zln (zA h m) g p s)
def zyT:Run:=rF5 dH dI dI dI (dT .slot) fun b c d e f=>(zvg b c d e f,[aH (zpE b c d e f),aB (zpF b c d e f)])
def zD2 (N:Nat)(a0:Host)(a1 a2 a3:Int)(a4:Slot):OA:=
 let y1:=(zk a0);let y0:=(ix y1.Mons a1 zf); (oN (zbD a0) (oN (zeZ y1 a1) (cond (nB (zeY y1 a1)) (some [(aH y1),(aB false)]) (oN (inb a1 (ln y1.Mons)) (oN (zed y0) (oN (zpt (zby y0) a2 a3 a4) (oN (zec y1 a1 (zhx (zby y0) a2 a3 a4)) (some [(aH (zgj y1 a1 (zhx (zby y0) a2 a3 a4))),(aB (zja (zby y0) a2 a3 a4))]))))))))
theorem zPo (a0:Host)(a1 a2 a3:Int)(a4:Slot)(hc:zvg a0 a1 a2 a3 a4=true):∃N,zD2 N a0 a1 a2 a3 a4=some [aH (zpE a0 a1 a2 a3 a4),aB (zpF a0 a1 a2 a3 a4)]:=by
 have hs:=(zM a0).1 (zC.1 hc);refine ⟨0,?_⟩;have key:=zms (h:=a0) (m:=a1) (cB:=zpt (zcy (ix a0.Mons a1 mZ)) a2 a3 a4) (B:=zhx (zcy (ix a0.Mons a1 mZ)) a2 a3 a4) (o0:=fun H=>[.agg (zbf H),.one (.b false)]) (o1:=fun H=>[.agg (zbf H),.one (.b (zja (zcy (ix a0.Mons a1 mZ)) a2 a3 a4))]) hs
  (fun h0=>zY (zep (hs.2.1.2 _ (zbr (zbO.1 h0).2 _)))) (fun h0=>zVZ _ _ _ (zep (hs.2.1.2 _ (zbr (zbO.1 h0).2 _))))
 refine (show zD2 0 a0 a1 a2 a3 a4=_ from key).trans ?_
 unfold zpE zpF zei zdE;cases h0:zb2 a0 a1
 .rfl
 .obtain ⟨e1,e2⟩:=z1R (zib h0 (zmM h0)) a0 a1 a2 a3 a4;simp only[cT];exact zrQ e1 e2
theorem zIJ:vF 191 zyT:=kF5 zh6 zu zb9 zcR (zo []) zPo
theorem zKb {b:Bare}(g v:Int)(hb:SmB b):SmB (zgq b g v):=zo0 hb (z1W _ (ziX _ hb))
theorem zU2 {b c:Bare}(hS:SameB b c)(h:Host)(m:Int)(g v:Int):zcL h m (zgq b g v)=zcL h m (zgq c g v)/\zhQ b g v=zhQ c g v:=by
 have e:=hS.at g;simp only[zgq,zhQ,e];exact ⟨zof hS _ _ _ _ _,zkk hS _ _⟩
@[simp] abbrev zoR (h:Host)(m:Int)(g v:Int):Bool:=pc (zbA h)
@[simp] abbrev zkL (h:Host)(m:Int)(g v:Int):Host:=zei h m (zgq (zA h m) g v)
@[simp] abbrev zkM (h:Host)(m:Int)(g v:Int):Bool:=zdE h m (zhQ (zA h m) g v)
def zsI:Run:=rF4 dH dI dI dI fun b c d e=>(zoR b c d e,[aH (zkL b c d e),aB (zkM b c d e)])
def zvE (N:Nat)(a0:Host)(a1 a2 a3:Int):OA:=
 let y1:=(zk a0);let y0:=(ix y1.Mons a1 zf); (oN (zbD a0) (oN (zeZ y1 a1) (cond (nB (zeY y1 a1)) (some [(aH y1),(aB false)]) (oN (inb a1 (ln y1.Mons)) (oN (zed y0) (oN (zkE (zby y0) a2 a3) (oN (zec y1 a1 (zfi (zby y0) a2 a3)) (some [(aH (zgj y1 a1 (zfi (zby y0) a2 a3))),(aB (zgt (zby y0) a2 a3))]))))))))
theorem zGC (a0:Host)(a1 a2 a3:Int)(hc:zoR a0 a1 a2 a3=true):∃N,zvE N a0 a1 a2 a3=some [aH (zkL a0 a1 a2 a3),aB (zkM a0 a1 a2 a3)]:=by
 have hs:=(zM a0).1 (zC.1 hc);refine ⟨0,?_⟩;have key:=zms (h:=a0) (m:=a1) (cB:=zkE (zcy (ix a0.Mons a1 mZ)) a2 a3) (B:=zfi (zcy (ix a0.Mons a1 mZ)) a2 a3) (o0:=fun H=>[.agg (zbf H),.one (.b false)]) (o1:=fun H=>[.agg (zbf H),.one (.b (zgt (zcy (ix a0.Mons a1 mZ)) a2 a3))]) hs
  (fun h0=>zY (zep (hs.2.1.2 _ (zbr (zbO.1 h0).2 _)))) (fun h0=>zKb _ _ (zep (hs.2.1.2 _ (zbr (zbO.1 h0).2 _))))
 refine (show zvE 0 a0 a1 a2 a3=_ from key).trans ?_
 unfold zkL zkM zei zdE;cases h0:zb2 a0 a1
 .rfl
 .obtain ⟨e1,e2⟩:=zU2 (zib h0 (zmM h0)) a0 a1 a2 a3;simp only[cT];exact zrQ e1 e2
theorem zAI:vF 193 zsI:=kF4 zh6 zu zb9 zcR (zo []) zGC
theorem zKd {b:Bare}(g:Int)(hb:SmB b):SmB (zgs b g):=zo0 hb (z1X (ziX _ hb))
theorem zU4 {b c:Bare}(hS:SameB b c)(h:Host)(m:Int)(g:Int):zcL h m (zgs b g)=zcL h m (zgs c g)/\zhS b g=zhS c g:=by
 have e:=hS.at g;simp only[zgs,zhS,e];exact ⟨zof hS _ _ _ _ _,zkk hS _ _⟩
@[simp] abbrev zoT (h:Host)(m:Int)(g:Int):Bool:=pc (zbA h)
@[simp] abbrev zkP (h:Host)(m:Int)(g:Int):Host:=zei h m (zgs (zA h m) g)
@[simp] abbrev zkQ (h:Host)(m:Int)(g:Int):Bool:=zdE h m (zhS (zA h m) g)
def zsK:Run:=rF3 dH dI dI fun b c d=>(zoT b c d,[aH (zkP b c d),aB (zkQ b c d)])
def zvG (N:Nat)(a0:Host)(a1 a2:Int):OA:=
 let y1:=(zk a0);let y0:=(ix y1.Mons a1 zf); (oN (zbD a0) (oN (zeZ y1 a1) (cond (nB (zeY y1 a1)) (some [(aH y1),(aB false)]) (oN (inb a1 (ln y1.Mons)) (oN (zed y0) (oN (zkG (zby y0) a2) (oN (zec y1 a1 (zfk (zby y0) a2)) (some [(aH (zgj y1 a1 (zfk (zby y0) a2))),(aB (zgv (zby y0) a2))]))))))))
theorem zGE (a0:Host)(a1 a2:Int)(hc:zoT a0 a1 a2=true):∃N,zvG N a0 a1 a2=some [aH (zkP a0 a1 a2),aB (zkQ a0 a1 a2)]:=by
 have hs:=(zM a0).1 (zC.1 hc);refine ⟨0,?_⟩;have key:=zms (h:=a0) (m:=a1) (cB:=zkG (zcy (ix a0.Mons a1 mZ)) a2) (B:=zfk (zcy (ix a0.Mons a1 mZ)) a2) (o0:=fun H=>[.agg (zbf H),.one (.b false)]) (o1:=fun H=>[.agg (zbf H),.one (.b (zgv (zcy (ix a0.Mons a1 mZ)) a2))]) hs
  (fun h0=>zY (zep (hs.2.1.2 _ (zbr (zbO.1 h0).2 _)))) (fun h0=>zKd _ (zep (hs.2.1.2 _ (zbr (zbO.1 h0).2 _))))
 refine (show zvG 0 a0 a1 a2=_ from key).trans ?_
 unfold zkP zkQ zei zdE;cases h0:zb2 a0 a1
 .rfl
 .obtain ⟨e1,e2⟩:=zU4 (zib h0 (zmM h0)) a0 a1 a2;simp only[cT];exact zrQ e1 e2
theorem zAK:vF 194 zsK:=kF3 zh6 zu zb9 zcR (zo []) zGE
theorem zKc {b:Bare}(g n:Int)(hb:SmB b):SmB (zgr b g n):=zo0 hb (ziX (b:=b) _ hb)
theorem zU3 {b c:Bare}(hS:SameB b c)(h:Host)(m:Int)(g n:Int):zcL h m (zgr b g n)=zcL h m (zgr c g n)/\zhR b g n=zhR c g n:=by
 have e:=hS.at g;simp only[zgr,zhR,e];exact ⟨zof hS _ _ _ _ _,zkk hS _ _⟩
@[simp] abbrev zoS (h:Host)(m:Int)(g n:Int):Bool:=pc (zbA h)
@[simp] abbrev zkN (h:Host)(m:Int)(g n:Int):Host:=zei h m (zgr (zA h m) g n)
@[simp] abbrev zkO (h:Host)(m:Int)(g n:Int):Bool:=zdE h m (zhR (zA h m) g n)
def zsJ:Run:=rF4 dH dI dI dI fun b c d e=>(zoS b c d e,[aH (zkN b c d e),aB (zkO b c d e)])
def zvF (N:Nat)(a0:Host)(a1 a2 a3:Int):OA:=
 let y1:=(zk a0);let y0:=(ix y1.Mons a1 zf); (oN (zbD a0) (oN (zeZ y1 a1) (cond (nB (zeY y1 a1)) (some [(aH y1),(aB false)]) (oN (inb a1 (ln y1.Mons)) (oN (zed y0) (oN (zkF (zby y0) a2 a3) (oN (zec y1 a1 (zfj (zby y0) a2 a3)) (some [(aH (zgj y1 a1 (zfj (zby y0) a2 a3))),(aB (zgu (zby y0) a2 a3))]))))))))
theorem zGD (a0:Host)(a1 a2 a3:Int)(hc:zoS a0 a1 a2 a3=true):∃N,zvF N a0 a1 a2 a3=some [aH (zkN a0 a1 a2 a3),aB (zkO a0 a1 a2 a3)]:=by
 have hs:=(zM a0).1 (zC.1 hc);refine ⟨0,?_⟩;have key:=zms (h:=a0) (m:=a1) (cB:=zkF (zcy (ix a0.Mons a1 mZ)) a2 a3) (B:=zfj (zcy (ix a0.Mons a1 mZ)) a2 a3) (o0:=fun H=>[.agg (zbf H),.one (.b false)]) (o1:=fun H=>[.agg (zbf H),.one (.b (zgu (zcy (ix a0.Mons a1 mZ)) a2 a3))]) hs
  (fun h0=>zY (zep (hs.2.1.2 _ (zbr (zbO.1 h0).2 _)))) (fun h0=>zKc _ _ (zep (hs.2.1.2 _ (zbr (zbO.1 h0).2 _))))
 refine (show zvF 0 a0 a1 a2 a3=_ from key).trans ?_
 unfold zkN zkO zei zdE;cases h0:zb2 a0 a1
 .rfl
 .obtain ⟨e1,e2⟩:=zU3 (zib h0 (zmM h0)) a0 a1 a2 a3;simp only[cT];exact zrQ e1 e2
theorem zAJ:vF 195 zsJ:=kF4 zh6 zu zb9 zcR (zo []) zGD
theorem zVY {b:Bare}(g:Int)(x:Ctl)(hb:SmB b):SmB (zi4 b g x):=zo0 hb (ziX (b:=b) _ hb)
theorem z1Q {b c:Bare}(hS:SameB b c)(h:Host)(m:Int)(g:Int)(x:Ctl):zcL h m (zi4 b g x)=zcL h m (zi4 c g x)/\zlm b g x=zlm c g x:=by
 have e:=hS.at g;simp only[zi4,zlm,e];exact ⟨zof hS _ _ _ _ _,zkk hS _ _⟩
@[simp] abbrev zvd (h:Host)(m:Int)(g:Int)(x:Ctl):Bool:=pc (zbA h)
@[simp] abbrev zpA (h:Host)(m:Int)(g:Int)(x:Ctl):Host:=zei h m (zi4 (zA h m) g x)
@[simp] abbrev zpB (h:Host)(m:Int)(g:Int)(x:Ctl):Bool:=zdE h m (zlm (zA h m) g x)
def zyQ:Run:=rF4 dH dI dI dC fun b c d e=>(zvd b c d e,[aH (zpA b c d e),aB (zpB b c d e)])
def zDZ (N:Nat)(a0:Host)(a1 a2:Int)(a3:Ctl):OA:=
 let y1:=(zk a0);let y0:=(ix y1.Mons a1 zf); (oN (zbD a0) (oN (zeZ y1 a1) (cond (nB (zeY y1 a1)) (some [(aH y1),(aB false)]) (oN (inb a1 (ln y1.Mons)) (oN (zed y0) (oN (zps (zby y0) a2 a3) (oN (zec y1 a1 (zhw (zby y0) a2 a3)) (some [(aH (zgj y1 a1 (zhw (zby y0) a2 a3))),(aB (zi9 (zby y0) a2 a3))]))))))))
theorem zPl (a0:Host)(a1 a2:Int)(a3:Ctl)(hc:zvd a0 a1 a2 a3=true):∃N,zDZ N a0 a1 a2 a3=some [aH (zpA a0 a1 a2 a3),aB (zpB a0 a1 a2 a3)]:=by
 have hs:=(zM a0).1 (zC.1 hc);refine ⟨0,?_⟩;have key:=zms (h:=a0) (m:=a1) (cB:=zps (zcy (ix a0.Mons a1 mZ)) a2 a3) (B:=zhw (zcy (ix a0.Mons a1 mZ)) a2 a3) (o0:=fun H=>[.agg (zbf H),.one (.b false)]) (o1:=fun H=>[.agg (zbf H),.one (.b (zi9 (zcy (ix a0.Mons a1 mZ)) a2 a3))]) hs
  (fun h0=>zY (zep (hs.2.1.2 _ (zbr (zbO.1 h0).2 _)))) (fun h0=>zVY _ _ (zep (hs.2.1.2 _ (zbr (zbO.1 h0).2 _))))
 refine (show zDZ 0 a0 a1 a2 a3=_ from key).trans ?_
 unfold zpA zpB zei zdE;cases h0:zb2 a0 a1
 .rfl
 .obtain ⟨e1,e2⟩:=z1Q (zib h0 (zmM h0)) a0 a1 a2 a3;simp only[cT];exact zrQ e1 e2
theorem zIG:vF 196 zyQ:=kF4 zh6 zu zb9 zcR (zo []) zPl
theorem zS9 {b:Bare}(n:Int)(hb:SmB b):SmB (zjQ b n):=z0b hb
theorem zZ2 {b c:Bare}(hS:SameB b c)(h:Host)(m n:Int):zcL h m (zjQ b n)=zcL h m (zjQ c n)/\znf b n=znf c n:=by
 obtain ⟨e1,e2,e3⟩:=zZQ hS n;exact ⟨back_eq e1 e2,e3⟩
@[simp] abbrev zsW (h:Host)(m:Int)(n:Int):Bool:=pc (zbA h)
@[simp] abbrev znG (h:Host)(m:Int)(n:Int):Host:=zei h m (zjQ (zA h m) n)
@[simp] abbrev znH (h:Host)(m:Int)(n:Int):Bool:=zdE h m (znf (zA h m) n)
def zwv:Run:=rF3 dH dI dI fun b c d=>(zsW b c d,[aH (znG b c d),aB (znH b c d)])
def zzX (N:Nat)(a0:Host)(a1 a2:Int):OA:=
 let y1:=(zk a0);let y0:=(ix y1.Mons a1 zf); (oN (zbD a0) (oN (zeZ y1 a1) (cond (nB (zeY y1 a1)) (some [(aH y1),(aB false)]) (oN (inb a1 (ln y1.Mons)) (oN (zed y0) (oN (zny (zby y0) a2) (oN (zec y1 a1 (zhW (zby y0) a2)) (some [(aH (zgj y1 a1 (zhW (zby y0) a2))),(aB (zjY (zby y0) a2))]))))))))
theorem zL9 (a0:Host)(a1 a2:Int)(hc:zsW a0 a1 a2=true):∃N,zzX N a0 a1 a2=some [aH (znG a0 a1 a2),aB (znH a0 a1 a2)]:=by
 have hs:=(zM a0).1 (zC.1 hc);refine ⟨0,?_⟩;have key:=zms (h:=a0) (m:=a1) (cB:=zny (zcy (ix a0.Mons a1 mZ)) a2) (B:=zhW (zcy (ix a0.Mons a1 mZ)) a2) (o0:=fun H=>[.agg (zbf H),.one (.b false)]) (o1:=fun H=>[.agg (zbf H),.one (.b (zjY (zcy (ix a0.Mons a1 mZ)) a2))]) hs
  (fun h0=>zY (zep (hs.2.1.2 _ (zbr (zbO.1 h0).2 _)))) (fun h0=>zS9 _ (zep (hs.2.1.2 _ (zbr (zbO.1 h0).2 _))))
 refine (show zzX 0 a0 a1 a2=_ from key).trans ?_
 unfold znG znH zei zdE;cases h0:zb2 a0 a1
 .rfl
 .obtain ⟨e1,e2⟩:=zZ2 (zib h0 (zmM h0)) a0 a1 a2;simp only[cT];exact zrQ e1 e2
theorem zF2:vF 199 zwv:=kF3 zh6 zu zb9 zcR (zo []) zL9
theorem zVX {b:Bare}(hb:SmB b):SmB (zll b):=z1V hb
theorem z1P {b c:Bare}(hS:SameB b c)(h:Host)(m:Int):zcL h m (zll b)=zcL h m (zll c)/\zpi b=zpi c/\zpj b=zpj c:=by
 obtain ⟨e1,e2,e3,e4⟩:=z0u hS;exact ⟨back_eq e1 e2,e3,e4⟩
@[simp] abbrev zvc (h:Host)(m:Int):Bool:=pc (zbA h)
@[simp] abbrev zpw (h:Host)(m:Int):Host:=zei h m (zll (zA h m))
@[simp] abbrev zpx (h:Host)(m:Int):Int:=bif zb2 h m then zpi (zA h m) else -1
@[simp] abbrev zpy (h:Host)(m:Int):Bool:=zdE h m (zpj (zA h m))
def zyO:Run:=rF2 dH dI fun b c=>(zvc b c,[aH (zpw b c),aI (zpx b c),aB (zpy b c)])
def zDX (N:Nat)(a0:Host)(a1:Int):OA:=
 let y1:=(zk a0);let y0:=(ix y1.Mons a1 zf); (oN (zbD a0) (oN (zeZ y1 a1) (cond (nB (zeY y1 a1)) (some [(aH y1),(aI (-1)),(aB false)]) (oN (inb a1 (ln y1.Mons)) (oN (zed y0) (oN (zpr (zby y0)) (oN (zec y1 a1 (zhv (zby y0))) (some [(aH (zgj y1 a1 (zhv (zby y0)))),(aI (zi7 (zby y0))),(aB (zi8 (zby y0)))]))))))))
theorem zPj (a0:Host)(a1:Int)(hc:zvc a0 a1=true):∃N,zDX N a0 a1=some [aH (zpw a0 a1),aI (zpx a0 a1),aB (zpy a0 a1)]:=by
 have hs:=(zM a0).1 (zC.1 hc);refine ⟨0,?_⟩;have key:=zms (h:=a0) (m:=a1) (cB:=zpr (zcy (ix a0.Mons a1 mZ))) (B:=zhv (zcy (ix a0.Mons a1 mZ))) (o0:=fun H=>[.agg (zbf H),.one (.i .i64 (-1)),.one (.b false)]) (o1:=fun H=>[.agg (zbf H),.one (.i .i64 (zi7 (zcy (ix a0.Mons a1 mZ)))),.one (.b (zi8 (zcy (ix a0.Mons a1 mZ))))]) hs
  (fun h0=>zY (zep (hs.2.1.2 _ (zbr (zbO.1 h0).2 _)))) (fun h0=>zVX (zep (hs.2.1.2 _ (zbr (zbO.1 h0).2 _))))
 refine (show zDX 0 a0 a1=_ from key).trans ?_
 unfold zpw zpx zpy zei zdE;cases h0:zb2 a0 a1
 .rfl
 .obtain ⟨e1,e2,e3⟩:=z1P (zib h0 (zmM h0)) a0 a1;simp only[cT];exact z4h e1 e2 e3
theorem zIE:vF 200 zyO:=kF2 zh6 zu zb9 zcR (zo []) zPj
def zYt:zO:=[(191,zyT),(193,zsI),(194,zsK),(195,zsJ),(196,zyQ),(199,zwv),(200,zyO)]++zYs
theorem zty:zF zYt:=zh zIJ (zh zAI (zh zAK (zh zAJ (zh zIG (zh zF2 (zh zIE zh6))))))
def ziD (h:Host)(m t:Int):Host:=bif zbJ h then (cond (hasB m (ln h.Mons)) (cond (win t 0 3) { h with Mons:=up h.Mons m { ix h.Mons m mZ with Traps:=t } } h) h) else h
def zx4 (h:Host)(m t:Int):Bool:=bif zbJ h then (cond (hasB m (ln h.Mons)) (win t 0 3) false) else false
@[simp] abbrev zs6 (h:Host)(m t:Int):Bool:=pc (zbA h)
@[simp] abbrev znR (h:Host)(m t:Int):Host:=ziD h m t
@[simp] abbrev znS (h:Host)(m t:Int):Bool:=zx4 h m t
def zwE:Run:=rF3 dH dI dI fun b c d=>(zs6 b c d,[aH (znR b c d),aB (znS b c d)])
def zz5 (N:Nat)(a0:Host)(a1 a2:Int):OA:=
 let y0:=(zk a0); (oN (zbD a0) (oN (zeQ y0) (cond (nB (zeP y0)) (some [(aH y0),(aB false)]) (oN (zI a1 0 (wsub .i64 (ln y0.Mons) 1)) (cond (nB (zK a1 0 (wsub .i64 (ln y0.Mons) 1))) (some [(aH y0),(aB false)]) (oN (zI a2 0 3) (cond (nB (zK a2 0 3)) (some [(aH y0),(aB false)]) (oN (inb a1 (ln y0.Mons)) (share (up y0.Mons a1 ({ (ix y0.Mons a1 zf) with Traps:=a2 }:Mon)) (fun x4=>(some [(aH ({ y0 with Mons:=x4 }:Host)),(aB true)])))))))))))
theorem zMi (a0:Host)(a1 a2:Int)(hc:zs6 a0 a1 a2=true):∃N,zz5 N a0 a1 a2=some [aH (znR a0 a1 a2),aB (znS a0 a1 a2)]:=by
 have hs:=(zM a0).1 (zC.1 hc);refine ⟨0,?_⟩;unfold zz5 znR znS ziD zx4 oN nB
 conv=>zeta
 refine must hc (must rfl ?_);rw[show zeP (zk a0)=zbJ a0 from rfl]
 cases hh:zbJ a0
 .rfl
 .refine zc6 rfl (must rfl ?_);rw[show zK a1 0 (wsub .i64 (ln (zk a0).Mons) 1)=hasB a1 (ln a0.Mons) from zNd hh a1]
  cases hm:hasB a1 (ln a0.Mons)
  .rfl
  .refine zc6 rfl (must rfl ?_);rw[show zK a2 0 3=win a2 0 3 from rfl]
   cases ht:win a2 0 3
   .rfl
   .exact zc6 rfl (must (zB hm) rfl)
theorem zGc:vF 249 zwE:=kF3 zty zu zb9 zcR (zo []) zMi
theorem zi6 {h:Host}{m p:Int}:(zbQ h m p=true)↔zbJ h=true/\hasB m (ln h.Mons)=true/\hasB p 8=true:=by
 unfold zbQ;cases zbJ h<;>cases hasB m (ln h.Mons)<;>simp
def zjm (h:Host)(m p:Int):Bool:=ieq (ix (ix h.Mons m mZ).Outer p sZ).Page (-1)
def zoy (h:Host)(m p:Int):Host:=bif zbQ h m p then (cond (zjm h m p) h (zc0 h m p)) else h
def zBa (h:Host)(m p:Int):Bool:=bif zbQ h m p then !zjm h m p else false
def zsx (h:Host)(m p:Int):Host:=bif zbQ h m p then (cond (zjm h m p) (fetched h m p) h) else h
def zGK (h:Host)(m p:Int):Bool:=bif zbQ h m p then zjm h m p else false
@[simp] abbrev zvk (h:Host)(m p:Int):Bool:=pc (zbA h)
@[simp] abbrev zpH (h:Host)(m p:Int):Host:=zoy h m p
@[simp] abbrev zpI (h:Host)(m p:Int):Bool:=zBa h m p
@[simp] abbrev zxT (h:Host)(m p:Int):Bool:=pc (zbA h)
@[simp] abbrev zrC (h:Host)(m p:Int):Host:=zsx h m p
@[simp] abbrev zrD (h:Host)(m p:Int):Bool:=zGK h m p
theorem zJL {h:Host}(hs:SmH h)(hh:zbJ h=true){m p:Int}(hm:hasB m (ln h.Mons)=true)(hp:hasB p 8=true) :
 (cond (ieq (ix (ix h.Mons m mZ).Outer p sZ).Page (-1)) (ieq (ix (ix h.Mons m mZ).Outer p sZ).Rights 0) false)=zjm h m p:=by
 have hf:=(zrt (zf8 hh _ (zbr hm mZ)) hp).no;unfold zcq at hf;unfold zjm;rw[<- hf];cases h1:ieq (ix (ix h.Mons m mZ).Outer p sZ).Page (-1)<;>simp [noSlot,h1]
theorem zOi {h:Host}(hs:SmH h)(hh:zbJ h=true){m p:Int}(hm:hasB m (ln h.Mons)=true)(hp:hasB p 8=true):inb p (ln (ix h.Mons m mZ).Outer)=true :=
 zB (by rw[ln,((zeJ hs hh).1.2 _ (zbr hm mZ)).1];exact hp)
def zyY:Run:=rF3 dH dI dI fun b c d=>(zvk b c d,[aH (zpH b c d),aB (zpI b c d)])
def zD6 (N:Nat)(a0:Host)(a1 a2:Int):OA:=
 let y1:=(zk a0);let y0:=(ix y1.Mons a1 zf).Outer; (oN (zbD a0) (oN (zmF y1 a1 a2) (cond (nB (zgW y1 a1 a2)) (some [(aH y1),(aB false)]) (oN (inb a1 (ln y1.Mons)) (oN (inb a2 (ln y0)) (oN zci (cond (cond (ieq (ix y0 a2 zJ).Page zbq.Page) (ieq (ix y0 a2 zJ).Rights zbq.Rights) false) (some [(aH y1),(aB false)]) (oN (zrM y1 a1 a2) (some [(aH (zx3 y1 a1 a2)),(aB true)])))))))))
theorem zPt (a0:Host)(a1 a2:Int)(hc:zvk a0 a1 a2=true):∃N,zD6 N a0 a1 a2=some [aH (zpH a0 a1 a2),aB (zpI a0 a1 a2)]:=by
 have hs:=(zM a0).1 (zC.1 hc);refine ⟨0,?_⟩;unfold zD6 zpH zpI zoy zBa oN nB
 conv=>zeta
 refine must hc (must rfl ?_);rw[show zgW (zk a0) a1 a2=zbQ a0 a1 a2 from rfl]
 cases h0:zbQ a0 a1 a2
 .rfl
 .obtain ⟨hh,hm,hp⟩:=zi6.1 h0;refine zc6 rfl (must (zB hm) (must (zOi hs hh hm hp) (must rfl ?_)));rw[show (cond (ieq (ix (ix (zk a0).Mons a1 zf).Outer a2 zJ).Page zbq.Page) (ieq (ix (ix (zk a0).Mons a1 zf).Outer a2 zJ).Rights zbq.Rights) false)=zjm a0 a1 a2 from zJL hs hh hm hp]
  cases h1:zjm a0 a1 a2
  .exact zc6 rfl (must (zY ⟨(zeJ hs hh).1,hm,hp⟩) rfl)
  .rfl
theorem zIO:vF 246 zyY:=kF3 zty zu zb9 zcR (zo []) zPt
def zBH:Run:=rF3 dH dI dI fun b c d=>(zxT b c d,[aH (zrC b c d),aB (zrD b c d)])
def zHA (N:Nat)(a0:Host)(a1 a2:Int):OA:=
 let y1:=(zk a0);let y0:=(ix y1.Mons a1 zf).Outer; (oN (zbD a0) (oN (zmF y1 a1 a2) (cond (nB (zgW y1 a1 a2)) (some [(aH y1),(aB false)]) (oN (inb a1 (ln y1.Mons)) (oN (inb a2 (ln y0)) (oN zci (cond (nB (cond (ieq (ix y0 a2 zJ).Page zbq.Page) (ieq (ix y0 a2 zJ).Rights zbq.Rights) false)) (some [(aH y1),(aB false)]) (oN (zuJ y1 a1 a2) (some [(aH (zwP y1 a1 a2)),(aB true)])))))))))
theorem zR4 (a0:Host)(a1 a2:Int)(hc:zxT a0 a1 a2=true):∃N,zHA N a0 a1 a2=some [aH (zrC a0 a1 a2),aB (zrD a0 a1 a2)]:=by
 have hs:=(zM a0).1 (zC.1 hc);refine ⟨0,?_⟩;unfold zHA zrC zrD zsx zGK oN nB
 conv=>zeta
 refine must hc (must rfl ?_);rw[show zgW (zk a0) a1 a2=zbQ a0 a1 a2 from rfl]
 cases h0:zbQ a0 a1 a2
 .rfl
 .obtain ⟨hh,hm,hp⟩:=zi6.1 h0;refine zc6 rfl (must (zB hm) (must (zOi hs hh hm hp) (must rfl ?_)));rw[show (cond (ieq (ix (ix (zk a0).Mons a1 zf).Outer a2 zJ).Page zbq.Page) (ieq (ix (ix (zk a0).Mons a1 zf).Outer a2 zJ).Rights zbq.Rights) false)=zjm a0 a1 a2 from zJL hs hh hm hp]
  cases h1:zjm a0 a1 a2
  .rfl
  .exact zc6 rfl (must (zY ⟨zeJ hs hh,hm,hp⟩) rfl)
theorem zLp:vF 247 zBH:=kF3 zty zu zb9 zcR (zo []) zR4
def zYu:zO:=[(249,zwE),(246,zyY),(247,zBH)]++zYt
theorem zNI:zF zYu:=zh zGc (zh zIO (zh zLp zty))
theorem zX1 {x:Mon}{b:Bare}(h:zeG x)(hb:zlW b.Guests):zeG (ztv x b):=⟨h.1,h.2.1,h.2.2.1,hb,h.2.2.2.2⟩
theorem zGX {h:Host}{m:Int}{b:Bare}(hs:SmH h)(hm:hasB m (ln h.Mons)=true)(hb:zlW b.Guests):SmH (zcL h m b) :=
 ⟨hs.1,zic hs.2.1 (zX1 (hs.2.1.2 _ (zbr hm _)) hb),hs.2.2⟩
theorem zQE {h:Host}{m:Int}(b:Bare)(hm:hasB m (ln h.Mons)=true):hasB m (ln (zcL h m b).Mons)=true:=by
 show hasB m (ln (up h.Mons m _))=true
 rw[ln,zfG];exact hm
theorem z3Y {h:Host}{m:Int}(b:Bare)(hm:hasB m (ln h.Mons)=true):ix (zcL h m b).Mons m mZ=ztv (ix h.Mons m mZ) b:=by
 obtain ⟨k,rfl,hk⟩:=zc9 (n:=h.Mons.length) hm;exact zc5 hk _ _
def zAv (h:Host)(m g p:Int):Host:=⟨h.Memory,up h.Mons m { ix h.Mons m mZ with Tables:=up (ix h.Mons m mZ).Tables g (zbG (ix (ix h.Mons m mZ).Tables g kZ) p) },zco h.Buffer (zel m g) p,zco h.IoBuffer (zel m g) p⟩
def zY1 (H:Host)(m g p:Int)(o:Host->Ans):OA:=
 bif inb m (ln H.Mons) then (bif inb m (ln H.Mons) then (bif inb g (ln (ix H.Mons m mZ).Tables) then (bif zkJ (ix (ix H.Mons m mZ).Tables g kZ) p then (bif inb g (ln (ix H.Mons m mZ).Tables) then (share (up H.Mons m { ix H.Mons m mZ with Tables:=up (ix H.Mons m mZ).Tables g (zbG (ix (ix H.Mons m mZ).Tables g kZ) p) }) fun x =>
  (cond (zj1 m g) (cond (zfR H.Buffer (zel m g) p) (cond (zj1 m g) (cond (zfR H.IoBuffer (zel m g) p) (some (o ⟨H.Memory,x,zco H.Buffer (zel m g) p,zco H.IoBuffer (zel m g) p⟩)) none) none) none) none)) else none) else none) else none) else none) else none
theorem zY2 {H:Host}{m g p:Int}{o:Host->Ans}(hs:SmH H)(hm:hasB m (ln H.Mons)=true)(hg:hasB g (ln (ix H.Mons m mZ).Tables)=true):zY1 H m g p o=some (o (zAv H m g p)):=by
 have hx:=hs.2.1.2 _ (zbr hm mZ);unfold zY1;exact must (zB hm) (must (zB hm) (must (zB hg) (must (zY (hx.2.2.2.2.2.2 _ (zbr hg _))) (must (zB hg) (shr (must rfl (must (zY hs.2.2.1) (must rfl (must (zY hs.2.2.2) rfl)))))))))
def zjH (h:Host)(m g p:Int):Host:=bif zb2 h m then (cond (zbM (zA h m) g (hasB p 4)) (zAv (zcL h m (chg (zA h m) g (hasB p 4) (zdn (gAt (zA h m) g) p))) m g p) h) else h
@[simp] abbrev zq2 (h:Host)(m g p:Int):Bool:=pc (zbA h)
@[simp] abbrev zlS (h:Host)(m g p:Int):Host:=zjH h m g p
@[simp] abbrev zlT (h:Host)(m g p:Int):Bool:=zdE h m (zbM (zA h m) g (hasB p 4))
theorem zU5 {h:Host}{m:Int}(hm:hasB m (ln h.Mons)=true):(zA h m).Guests=(ix h.Mons m mZ).Guests:=by unfold zA;rw[hm];rfl
theorem zNY {h:Host}{m g:Int}{k:Bool}(hs:SmH h)(h0:zb2 h m=true)(b:Bare)(hk:zbM (zA h m) g k=true):hasB g (ln (ix (zcL h m b).Mons m mZ).Tables)=true:=by
 obtain ⟨hh,hm⟩:=zbO.1 h0;rw[z3Y b hm]
 show hasB g (ln (ix h.Mons m mZ).Tables)=true
 rw[ln,((zeJ hs hh).1.2 _ (zbr hm mZ)).2.2.2,<- zU5 hm];unfold zbM at hk;cases hb:zb0 (zA h m) g
 .rw [hb]at hk;cases hk
 .exact (zdf.1 hb).2
def zua:Run:=rF4 dH dI dI dI fun b c d e=>(zq2 b c d e,[aH (zlS b c d e),aB (zlT b c d e)])
def zyw (N:Nat)(a0:Host)(a1 a2 a3:Int):OA:=
 let y5:=(zr3 a1 a2);let y3:=(zk a0);let y2:=(ix y3.Mons a1 zf);let y0:=(zgj y3 a1 (zej (zby y2) a2 a3));let y1:=(ix y0.Mons a1 zf);let y4:=(ix y1.Tables a2 zee); (oN (zbD a0) (oN (zeZ y3 a1) (cond (nB (zeY y3 a1)) (some [(aH y3),(aB false)]) (oN (inb a1 (ln y3.Mons)) (oN (zed y2) (oN (zqZ (zby y2) a2 a3) (cond (nB (zgU (zby y2) a2 a3)) (some [(aH y3),(aB false)]) (oN (zec y3 a1 (zej (zby y2) a2 a3)) (oN (inb a1 (ln y0.Mons)) (oN (inb a1 (ln y0.Mons)) (oN (inb a2 (ln y1.Tables)) (oN (zkJ y4 a3) (oN (inb a2 (ln y1.Tables)) (share (up y0.Mons a1 ({ y1 with Tables:=(up y1.Tables a2 (zjZ y4 a3)) }:Mon)) (fun x5=>(oN (zj1 a1 a2) (oN (zfR y0.Buffer y5 a3) (oN (zj1 a1 a2) (oN (zfR y0.IoBuffer y5 a3) (some [(aH (⟨y0.Memory,x5,(zlt y0.Buffer y5 a3),(zlt y0.IoBuffer y5 a3)⟩:Host)),(aB true)]))))))))))))))))))))
theorem zJz (a0:Host)(a1 a2 a3:Int)(hb:zbB big [aH a0,aI a1,aI a2,aI a3])(hc:zq2 a0 a1 a2 a3=true):∃N,zyw N a0 a1 a2 a3=some [aH (zlS a0 a1 a2 a3),aB (zlT a0 a1 a2 a3)]:=by
 have hs:=(zM a0).1 (zC.1 hc);refine ⟨0,?_⟩;unfold zyw zlS zlT zjH zdE oN nB
 conv=>zeta
 refine must hc (must rfl ?_);rw[show zeY (zk a0) a1=zb2 a0 a1 from rfl]
 cases h0:zb2 a0 a1
 .rfl
 .obtain ⟨hh,hm⟩:=zbO.1 h0;have hx:=hs.2.1.2 _ (zbr hm mZ);have hv:=zep hx;have hS:=zib h0 (zmM h0);have hk:zbM (zcy (ix a0.Mons a1 mZ)) a2 (hasB a3 4)=zbM (zA a0 a1) a2 (hasB a3 4):=zkk hS _ _;have hB:zcL a0 a1 (zej (zcy (ix a0.Mons a1 mZ)) a2 a3)=zcL a0 a1 (chg (zA a0 a1) a2 (hasB a3 4) (zdn (gAt (zA a0 a1) a2) a3)):=by
   rw[<- hS.at];exact zof hS _ _ _ _ _
  refine zc6 rfl (must (zB hm) (must (zY hx) (must (zY hv) ?_)));rw[show zgU (zby (ix (zk a0).Mons a1 zf)) a2 a3=zbM (zA a0 a1) a2 (hasB a3 4) from hk]
  cases hf:zbM (zA a0 a1) a2 (hasB a3 4)
  .rfl
  .have hb:SmB (zej (zcy (ix a0.Mons a1 mZ)) a2 a3):=zo0 hv (zKe _ (ziX _ hv));refine zc6 rfl (must (zY ⟨hm,hb.2.1⟩) ?_);have key:=zY2 (H:=zcL a0 a1 (zej (zcy (ix a0.Mons a1 mZ)) a2 a3)) (m:=a1) (g:=a2) (p:=a3) (o:=fun H=>[.agg (zbf H),.one (.b true)]) (zGX hs hm hb.2.1) (zQE _ hm) (zNY hs h0 _ hf);refine (show _=_ from key).trans ?_
   rw[hB];rfl
theorem zC9:vF 192 zua:=hF4 zNI zu zb9 zcR (zo []) zJz
def zYv:zO:=[(192,zua)]++zYu
theorem zNJ:zF zYv:=zh zC9 zNI
def zSW (h:Host)(m p c v:Int):Host:={ mended h m p 2 with Memory:=zbx (mended h m p 2).Memory (ix (ix (mended h m p 2).Mons m mZ).Outer p sZ).Page c v }
def zeK (h:Host)(m p c v:Int):Bool:=bif zbQ h m p then (cond (hasB c 4) (win v 0 99) false) else false
def zl2 (h:Host)(m p c v:Int):Host:=bif zeK h m p c v then zSW h m p c v else h
@[simp] abbrev zsV (h:Host)(m p c v:Int):Bool:=pc (zbA h)
@[simp] abbrev znE (h:Host)(m p c v:Int):Host:=zl2 h m p c v
@[simp] abbrev znF (h:Host)(m p c v:Int):Bool:=zeK h m p c v
def z3K (H:Host)(m p c v:Int)(o:Host->Ans):OA:=
 bif zlF H m p 2 then (cond (inb m (ln (mended H m p 2).Mons)) (cond (inb p (ln (ix (mended H m p 2).Mons m mZ).Outer)) (cond (zh0 (mended H m p 2).Memory (ix (ix (mended H m p 2).Mons m mZ).Outer p sZ).Page c v) (some (o (zSW H m p c v))) none) none) none) else none
theorem z1H {h:Host}{m p c v:Int}{o:Host->Ans}(hs:SmH h)(h0:zbQ h m p=true):z3K h m p c v o=some (o (zSW h m p c v)):=by
 obtain ⟨hh,hm,hp⟩:=zi6.1 h0;have hf:=zeJ hs hh;obtain ⟨h1,h2⟩:=ztc (n:=2) hf hm hp;unfold z3K;refine must (zY ⟨hf,hm,hp,.inr rfl,zrt (zf8 hh _ (zbr hm mZ)) hp⟩) (must (zB h2) (must (zB ?_) (must (zY h1.1.1) rfl)));rw[ln,(h1.2 _ (zbr h2 mZ)).1];exact hp
def zwu:Run:=rF5 dH dI dI dI dI fun b c d e f=>(zsV b c d e f,[aH (znE b c d e f),aB (znF b c d e f)])
def zzW (N:Nat)(a0:Host)(a1 a2:Int)(a3 a4:Int):OA:=
 let y2:=(zk a0);let y0:=(zmG y2 a1 a2 2);let y1:=(ix y0.Mons a1 zf).Outer;let y3:=(ix y1 a2 zJ).Page; (oN (zbD a0) (oN (zmF y2 a1 a2) (cond (nB (zgW y2 a1 a2)) (some [(aH y2),(aB false)]) (oN (zI a3 0 3) (cond (nB (zK a3 0 3)) (some [(aH y2),(aB false)]) (oN (zI a4 0 99) (cond (nB (zK a4 0 99)) (some [(aH y2),(aB false)]) (oN (zlF y2 a1 a2 2) (oN (inb a1 (ln y0.Mons)) (oN (inb a2 (ln y1)) (oN (zh0 y0.Memory y3 a3 a4) (some [(aH ({ y0 with Memory:=(ziA y0.Memory y3 a3 a4) }:Host)),(aB true)]))))))))))))
theorem zL8 (a0:Host)(a1 a2:Int)(a3 a4:Int)(hc:zsV a0 a1 a2 a3 a4=true):∃N,zzW N a0 a1 a2 a3 a4=some [aH (znE a0 a1 a2 a3 a4),aB (znF a0 a1 a2 a3 a4)]:=by
 have hs:=(zM a0).1 (zC.1 hc);refine ⟨0,?_⟩;unfold zzW znE znF zl2 zeK oN nB
 conv=>zeta
 refine must hc (must rfl ?_);rw[show zgW (zk a0) a1 a2=zbQ a0 a1 a2 from rfl]
 cases h0:zbQ a0 a1 a2
 .rfl
 .refine zc6 rfl (must rfl ?_);rw[show zK a3 0 3=hasB a3 4 from z6C a3]
  cases h1:hasB a3 4
  .rfl
  .refine zc6 rfl (must rfl ?_);rw[show zK a4 0 99=win a4 0 99 from rfl]
   cases h2:win a4 0 99
   .rfl
   .have key:=z1H (c:=a3) (v:=a4) (o:=fun H=>[.agg (zbf H),.one (.b true)]) hs h0;exact zc6 rfl (show _=_ from key)
theorem zF1:vF 198 zwu:=kF5 zNJ zu zb9 zcR (zo []) zL8
def zYw:zO:=[(198,zwu)]++zYv
theorem zYx:zF zYw:=zh zF1 zNJ
def zYy:zO:=zYw
theorem zAp:zF zYy:=zYx
theorem zZu (h:Host)(b:List Entry)(m g page need:Int)(io:Bool):(lookOf h b m g page need io).2.2=zbU h m g page need:=by
 cases hl:zbU h m g page need
 .rw [zmz hl]
 .rw [zSs hl];unfold zg6 zg7;generalize zgR b m g page need=x;cases x
  .generalize zeu _ m g page need=y;cases y<;>rfl
  .rfl
theorem z4W {h:Host}{m g page need:Int}(b:List Entry)(io:Bool)(hs:SmH h)(hl:zbU h m g page need=true):SmM (lookOf h b m g page need io).1.Memory:=by
 have hg:zbI h m g=true:=by
  unfold zbU at hl;cases h1:zbI h m g
  .rw [h1]at hl;cases hl
  .rfl
 exact (zv1 hs hg).shape.1.1
def zAX (h:Host)(m g a n:Int):Host×Int×Bool:=lookOf h h.IoBuffer m g (zbc a) n true
def zf7 (h:Host)(m g a v:Int):Bool:=bif win a 0 15 then (cond (win v 0 99) (zbU h m g (zbc a) 2) false) else false
def zop (h:Host)(m g a v:Int):Host:=bif zf7 h m g a v then { (zAX h m g a 2).1 with Memory:=zbx (zAX h m g a 2).1.Memory (zAX h m g a 2).2.1 (zcQ a) v } else h
def zfn (h:Host)(m g a:Int):Bool:=bif win a 0 15 then zbU h m g (zbc a) 1 else false
def zl3 (h:Host)(m g a:Int):Host:=bif zfn h m g a then (zAX h m g a 1).1 else h
def zqa (h:Host)(m g a:Int):Int:=bif zfn h m g a then cellAt (zAX h m g a 1).1.Memory (zAX h m g a 1).2.1 (zcQ a) else 0
@[simp] abbrev zve (h:Host)(m g a v:Int):Bool:=pc (zbA h)
@[simp] abbrev zpC (h:Host)(m g a v:Int):Host:=zop h m g a v
@[simp] abbrev zpD (h:Host)(m g a v:Int):Bool:=zf7 h m g a v
@[simp] abbrev zsX (h:Host)(m g a:Int):Bool:=pc (zbA h)
@[simp] abbrev znI (h:Host)(m g a:Int):Host:=zl3 h m g a
@[simp] abbrev znJ (h:Host)(m g a:Int):Int:=zqa h m g a
@[simp] abbrev znK (h:Host)(m g a:Int):Bool:=zfn h m g a
def zyR:Run:=rF5 dH dI dI dI dI fun b c d e f=>(zve b c d e f,[aH (zpC b c d e f),aB (zpD b c d e f)])
def zD0 (N:Nat)(a0:Host)(a1 a2:Int)(a3 a4:Int):OA:=
 let y1:=(zk a0);let y2:=(zjh y1 y1.IoBuffer a1 a2 (zcu a3) 2 true);let y0:=(zeE y1 y1.IoBuffer a1 a2 (zcu a3) 2 true); (oN (zbD a0) (oN (zI a3 0 15) (cond (nB (zK a3 0 15)) (some [(aH y1),(aB false)]) (oN (zI a4 0 99) (cond (nB (zK a4 0 99)) (some [(aH y1),(aB false)]) (oN (zfF a3) (oN (zji y1 y1.IoBuffer a1 a2 (zcu a3) 2 true) (cond (nB (zgh y1 y1.IoBuffer a1 a2 (zcu a3) 2 true)) (some [(aH y0),(aB false)]) (oN (zhV a3) (oN (zh0 y0.Memory y2 (zdT a3) a4) (some [(aH ({ y0 with Memory:=(ziA y0.Memory y2 (zdT a3) a4) }:Host)),(aB true)])))))))))))
theorem zPm (a0:Host)(a1 a2:Int)(a3 a4:Int)(hc:zve a0 a1 a2 a3 a4=true):∃N,zD0 N a0 a1 a2 a3 a4=some [aH (zpC a0 a1 a2 a3 a4),aB (zpD a0 a1 a2 a3 a4)]:=by
 have hs:=(zM a0).1 (zC.1 hc);refine ⟨0,?_⟩;unfold zD0 zpC zpD zop zf7 oN nB
 conv=>zeta
 refine must hc (must rfl ?_);rw[show zK a3 0 15=win a3 0 15 from rfl]
 cases h1:win a3 0 15
 .rfl
 .refine zc6 rfl (must rfl ?_);rw[show zK a4 0 99=win a4 0 99 from rfl]
  cases h2:win a4 0 99
  .rfl
  .refine zc6 rfl (must rfl (must hc ?_));rw[show zgh (zk a0) (zk a0).IoBuffer a1 a2 (zcu a3) 2 true=zbU a0 a1 a2 (zbc a3) 2 from zZu _ _ _ _ _ _ _]
   cases h3:zbU a0 a1 a2 (zbc a3) 2
   .rw [show zeE (zk a0) (zk a0).IoBuffer a1 a2 (zcu a3) 2 true=a0 from congrArg Prod.fst (zmz h3)]
    rfl
   .exact zc6 rfl (must rfl (must (zY (z4W a0.IoBuffer true hs h3)) rfl))
theorem zIH:vF 201 zyR:=kF5 zAp zu zb9 zcR (zo []) zPm
def zww:Run:=rF4 dH dI dI dI fun b c d e=>(zsX b c d e,[aH (znI b c d e),aI (znJ b c d e),aB (znK b c d e)])
def zzY (N:Nat)(a0:Host)(a1 a2 a3:Int):OA:=
 let y1:=(zk a0);let y2:=(zjh y1 y1.IoBuffer a1 a2 (zcu a3) 1 true);let y0:=(zeE y1 y1.IoBuffer a1 a2 (zcu a3) 1 true); (oN (zbD a0) (oN (zI a3 0 15) (cond (nB (zK a3 0 15)) (some [(aH y1),(aI 0),(aB false)]) (oN (zfF a3) (oN (zji y1 y1.IoBuffer a1 a2 (zcu a3) 1 true) (cond (nB (zgh y1 y1.IoBuffer a1 a2 (zcu a3) 1 true)) (some [(aH y0),(aI 0),(aB false)]) (oN (zhV a3) (oN (zrz y0.Memory y2 (zdT a3)) (some [(aH y0),(aI (zmd y0.Memory y2 (zdT a3))),(aB true)])))))))))
theorem zMa (a0:Host)(a1 a2 a3:Int)(hc:zsX a0 a1 a2 a3=true):∃N,zzY N a0 a1 a2 a3=some [aH (znI a0 a1 a2 a3),aI (znJ a0 a1 a2 a3),aB (znK a0 a1 a2 a3)]:=by
 have hs:=(zM a0).1 (zC.1 hc);refine ⟨0,?_⟩;unfold zzY znI znJ znK zl3 zqa zfn oN nB
 conv=>zeta
 refine must hc (must rfl ?_);rw[show zK a3 0 15=win a3 0 15 from rfl]
 cases h1:win a3 0 15
 .rfl
 .refine zc6 rfl (must rfl (must hc ?_));rw[show zgh (zk a0) (zk a0).IoBuffer a1 a2 (zcu a3) 1 true=zbU a0 a1 a2 (zbc a3) 1 from zZu _ _ _ _ _ _ _]
  cases h3:zbU a0 a1 a2 (zbc a3) 1
  .rw [show zeE (zk a0) (zk a0).IoBuffer a1 a2 (zcu a3) 1 true=a0 from congrArg Prod.fst (zmz h3)]
   rfl
  .exact zc6 rfl (must rfl (must rfl rfl))
theorem zF3:vF 202 zww:=kF4 zAp zu zb9 zcR (zo []) zMa
def zYz:zO:=[(201,zyR),(202,zww)]++zYy
theorem zYA:zF zYz:=zh zIH (zh zF3 zAp)
def zYB:zO:=[(243,zoM),(244,zoK)]++zYz
theorem zNK:zF zYB:=zh zsm (zh zsl zYA)
def zi3:Kept:=⟨rp 4 false,zkc⟩
@[simp] abbrev zvi (n:Int):Bool:=ieq n 4
@[simp] abbrev zuI (n:Int):Kept:=zi3
def zyV:Run:=rF1 dI fun b=>(zvi b,[aT .kept (zuI b)])
def zTQ (N:Nat)(a0:Int):OA:=
 let y0:=(ln (zf4 a0)); (oN (zhZ a0) (oN (cond (few y0) (ieq y0 y0) false) (some [(aT .kept (⟨(rp y0 false),(zf4 a0)⟩:Kept))])))
theorem zPq (a0:Int)(hc:zvi a0=true):∃N,zTQ N a0=some [aT .kept (zuI a0)]:=by
 refine ⟨0,?_⟩;have h:a0=4:=qE hc;subst h
 change _=_
 kernel_rfl
theorem zIL:vF 245 zyV:=kF1 zNK zu zb9 zcR (zo []) zPq
def zYC:zO:=[(245,zyV)]++zYB
theorem zNL:zF zYC:=zh zIL zNK
def zte:List Slot:=List.replicate 8 ⟨-1,0⟩
def zfV (ps:List (List Ins)):Mon:=⟨zte,zMA,rp 8 false,(ps.take 2).map zem,[],0,0,(ps.take 2).map (fun _=>zi3),0⟩
theorem zJE {α β γ ρ:Type}(m:Nat)(f:α->β)(g:α->γ)(K:List β×List γ->Option ρ):∀(l:List α) (i:Nat) (u:List β×List γ),u.1.length+l.length<=2147483648->u.2.length+l.length<=2147483648 ->
 goL (fun (i:Nat) x (u:List β×List γ) k=>bif ilt (i:Int) (m:Int) then (cond (few (ln (ap u.1 [f x]))) (cond (few (ln (ap u.2 [g x]))) (k (ap u.1 [f x],ap u.2 [g x])) none) none) else K u) K l i u=K (u.1++(l.take (m-i)).map f,u.2++(l.take (m-i)).map g)
 | [],i,u,_,_=>by simp[goL]
 | x :: l,i,u,h1,h2=>by
  simp only[qU]at h1 h2;have e1:few (ln (ap u.1 [f x]))=true:=zfU (by simp[ap];omega)
  have e2:few (ln (ap u.2 [g x]))=true:=zfU (by simp[ap];omega)
  by_cases h:i<m
  .have hi:ilt (i:Int) (m:Int)=true:=qK (by omega)
   simp only[goL,hi,e1,e2,cT];rw[zJE m f g K l (i+1) _ (by simp[ap];omega) (by simp[ap];omega)]
   rw[show m-i=m-(i+1)+1 by omega]
   simp[ap]
  .have hi:ilt (i:Int) (m:Int)=false:=qJ (by omega)
   simp only[goL,hi,cF];rw[show m-i=0 by omega]
   simp
def zZB (u:List Guest×List Kept):OA:=some [AV.agg (Ty.cells .mon (⟨zte,zMA,rp 8 false,u.1,[],0,0,u.2,0⟩:Mon))]
@[simp] abbrev zrA (ps:List (List Ins)):Bool:=pc (z5K ps)
@[simp] abbrev zGT (ps:List (List Ins)):Mon:=zfV ps
def zBD:Run:=rF1 (dS (.sl .ins)) fun b=>(zrA b,[aT .mon (zGT b)])
def zHx (N:Nat)(a0:lP):OA:=
 (oN (zhZ 8) (oN (znM 8) (oN (cond (few 8) (ieq 8 8) false) (iter (σ:=(Int×(Int×(Int×(Int×(Int×(Int×(Int×(lP×(lS×(lM×(lB×(lG×((List Int)×(lK×(lS×(lM×(lB×(lG×((List Int)×(lK×Unit))))))))))))))))))))) N (fun r2 s3=>let y8:=s3.2.2.2.2.2.2.2.2.2.2.2.2.2.2.1;let y7:=s3.2.2.2.2.2.2.2.2.2.2.2.2.2.2.2.1;let y6:=s3.2.2.2.2.2.2.2.2.2.2.2.2.2.2.2.2.1;let y5:=s3.2.2.2.2.2.2.2.2.2.2.2.2.2.2.2.2.2.1;let y4:=s3.2.2.2.2.2.2.2.2.2.2.2.2.2.2.2.2.2.2.1;let y3:=s3.2.2.2.2.2.2.2.1;let y2:=s3.2.2.2.2.2.2.2.2.2.2.2.2.2.2.2.2.2.2.2.1;let y1:=(ap y5 [(znC (ix y3 s3.1 []))]);let y0:=(aT .mon (⟨y8,y7,y6,y5,y4,s3.2.2.2.2.1,s3.2.2.2.2.2.1,y2,s3.2.2.2.2.2.2.1⟩:Mon)); (cond (ilt s3.1 (ln y3)) (cond (ilt s3.1 2) (oN (inb s3.1 (ln y3)) (oN (znD (ix y3 s3.1 [])) (oN (few (ln y1)) (oN (zvi 4) (oN (few (ln (ap y2 [(zuI 4)]))) (r2 ((zG .i64 s3.1 1),(s3.2.1,(s3.2.2.1,(s3.2.2.2.1,(s3.2.2.2.2.1,(s3.2.2.2.2.2.1,(s3.2.2.2.2.2.2.1,(y3,(s3.2.2.2.2.2.2.2.2.1,(s3.2.2.2.2.2.2.2.2.2.1,(s3.2.2.2.2.2.2.2.2.2.2.1,(s3.2.2.2.2.2.2.2.2.2.2.2.1,(s3.2.2.2.2.2.2.2.2.2.2.2.2.1,(s3.2.2.2.2.2.2.2.2.2.2.2.2.2.1,(y8,(y7,(y6,(y1,(y4,((ap y2 [(zuI 4)]),())))))))))))))))))))))))))) (some [y0])) (some [y0]))) (0,(0,(0,(0,(0,(0,(0,(a0,([],([],([],([],([],([],((zf4 8),((zix 8),((rp 8 false),([],([],([],()))))))))))))))))))))))))
def zTA:FuncId->Nat->Option Tmpl:=zo [(186,0,{ n:=36,tm:=[(0,.sl 0 []),(2,.lp 0 0),(3,.lp 1 0),(4,ti)],lo:=[(0,[.sl 1 [],.sl 2 [],.sl 3 [],.sl 4 [],.sl 5 [],ti,ti,.sl 6 [],ti]),(1,[.sl 7 [],.sl 8 [],.sl 9 [],.sl 10 [],.sl 11 [],ti,ti,.sl 12 [],ti])],ro:=[(0,(.sl .ins),false),(1,.slot,true),(2,(.sl .int),true),(3,.bool,true),(4,.guest,true),(5,.int,true),(6,.kept,true),(7,.slot,true),(8,(.sl .int),true),(9,.bool,true),(10,.guest,true),(11,.int,true),(12,.kept,true)] })]
theorem zR0 (a0:List lI)(hc:zrA a0=true):∃N,zHx N a0=some [aT .mon (zGT a0)]:=by
 have hs:=zC.1 hc;have hl:=zcd hs.1;refine zbT fun N hNN=>?_;unfold zHx oN
 conv=>zeta
 refine must rfl (must rfl (must rfl ?_));refine (zba a0 (fun i (t:lG×lK)=>((i:Int),0,0,0,0,0,0,a0,[],[],[],[],[],[],(zf4 8),(zix 8),(rp 8 false),t.1,[],t.2,())) _ (fun i (x:List Ins) (u:List Guest×List Kept) κ=>bif ilt (i:Int) ((2:Nat):Int) then (cond (few (ln (ap u.1 [zem x]))) (cond (few (ln (ap u.2 [zi3]))) (κ (ap u.1 [zem x],ap u.2 [zi3])) none) none) else zZB u) (fun (t:lG×lK)=>(some [(.agg (Ty.cells .mon (⟨(zf4 8),(zix 8),(rp 8 false),t.1,[],0,0,t.2,0⟩:Mon)))])) (fun i hi t rec=>?_) (fun t rec=>?_) _ ([],[]) (hNN hl.1)).trans ?_
 .simp only [zbh hi,zN hi,zZ hi,zU hi hl.1,cT];have hx:znD a0[i]=true:=zY (hs.2 _ (jG hi));simp only[hx,cT];rfl
 .simp only [zbb,cF]
 exact zJE 2 zem (fun _=>zi3) zZB a0 0 ([],[]) (by simpa using hl.2) (by simpa using hl.2)
theorem zLl:vF 186 zBD:=kF1 zNL zu zb9 zcR zTA zR0
def zYD:zO:=[(186,zBD)]++zYC
theorem zNM:zF zYD:=zh zLl zNL
def zXj:List (List Int):=List.replicate 12 [0,0,0,0]
def ze2 (ps:List (List (List Ins))):Host:=⟨zXj,(ps.take 3).map zfV,[],[]⟩
def zHR (ps:List (List (List Ins))):Prop:=ps.length<=1048576/\∀p∈ps,z5K p
@[simp] abbrev zvf (ps:List (List (List Ins))):Bool:=pc (zHR ps)
@[simp] abbrev zgd (ps:List (List (List Ins))):Host:=ze2 ps
def zVI (t:List Mon):OA:=some [AV.agg (zbf ⟨zXj,t,[],[]⟩)]
def zyS:Run:=rF1 (dS (.sl (.sl .ins))) fun b=>(zvf b,[aH (zgd b)])
def zD1 (N:Nat)(a0:lQ):OA:=
 (oN (znM 12) (iter (σ:=(Int×(lQ×(lM×(lN×(lE×(lE×(lM×(lN×(lE×(lE×Unit))))))))))) N (fun r2 s3=>let y1:=(ap s3.2.2.2.2.2.2.2.1 [(zGT (ix s3.2.1 s3.1 []))]);let y0:=(aH (⟨s3.2.2.2.2.2.2.1,s3.2.2.2.2.2.2.2.1,s3.2.2.2.2.2.2.2.2.1,s3.2.2.2.2.2.2.2.2.2.1⟩:Host)); (cond (ilt s3.1 (ln s3.2.1)) (cond (ilt s3.1 3) (oN (inb s3.1 (ln s3.2.1)) (oN (zrA (ix s3.2.1 s3.1 [])) (oN (few (ln y1)) (r2 ((zG .i64 s3.1 1),(s3.2.1,(s3.2.2.1,(s3.2.2.2.1,(s3.2.2.2.2.1,(s3.2.2.2.2.2.1,(s3.2.2.2.2.2.2.1,(y1,(s3.2.2.2.2.2.2.2.2.1,(s3.2.2.2.2.2.2.2.2.2.1,())))))))))))))) (some [y0])) (some [y0]))) (0,(a0,([],([],([],([],((zix 12),([],([],([],()))))))))))))
def zP1:FuncId->Nat->Option Tmpl:=zo [(144,0,{ n:=28,tm:=[(0,.sl 0 []),(2,.lp 0 0),(3,.lp 1 0),(4,ti)],lo:=[(0,[.sl 1 [],.sl 2 [],.sl 3 [],.sl 4 []]),(1,[.sl 5 [],.sl 6 [],.sl 7 [],.sl 8 []])],ro:=[(0,(.sl (.sl .ins)),false),(1,(.sl .int),true),(2,.mon,true),(3,.entry,true),(4,.entry,true),(5,(.sl .int),true),(6,.mon,true),(7,.entry,true),(8,.entry,true)] })]
theorem zPn (a0:List lP)(hc:zvf a0=true):∃N,zD1 N a0=some [aH (zgd a0)]:=by
 have hs:=zC.1 hc;have hl:=zcd hs.1;refine zbT fun N hNN=>?_;unfold zD1 oN
 conv=>zeta
 refine must rfl ?_;refine (zba a0 (fun i (t:lN)=>((i:Int),a0,[],[],[],[],(zix 12),t,[],[],())) _ (fun i (x:List lI) (t:List Mon) κ=>bif ilt (i:Int) ((3:Nat):Int) then (cond (few (ln (ap t [zfV x]))) (κ (ap t [zfV x])) none) else zVI t) (fun (t:lN)=>(some [(.agg (zbf (⟨(zix 12),t,[],[]⟩:Host)))])) (fun i hi t rec=>?_) (fun t rec=>?_) _ ([]) (hNN hl.1)).trans ?_
 .simp only [zbh hi,zN hi,zZ hi,zU hi hl.1,cT];have hx:zrA a0[i]=true:=zY (hs.2 _ (jG hi));simp only[hx,cT];rfl
 .simp only [zbb,cF]
 exact zOb 3 zfV zVI a0 0 [] (by simpa using hl.2)
theorem zII:vF 144 zyS:=kF1 zNM zu zb9 zcR zP1 zPn
def zYE:zO:=[(144,zyS)]++zYD
theorem zNN:zF zYE:=zh zII zNM
def zhK:Nat->Nat->Kept->Kept
 | 0,_,k=>k
 | n+1,i,k=>zhK n (i+1) (zbG k (i:Int))
def zij (k:Kept):Kept:=zhK k.Known.length 0 k
theorem zWX (k:Kept)(p:Int):(zbG k p).Known.length=k.Known.length:=by
 unfold zbG;cases zdb k p
 .rfl
 .exact zfG _ _ _
theorem zvp:∀(n i:Nat) (k:Kept),SmK k->SmK (zhK n i k)
 | 0,_,_,h=>h
 | n+1,i,k,h=>zvp n (i+1) _ (zn1 h)
@[simp] abbrev zq1 (k:Kept):Bool:=pc (SmK k)
@[simp] abbrev zvb (k:Kept):Kept:=zij k
def zt9:Run:=rF1 (dT .kept) fun b=>(zq1 b,[aT .kept (zvb b)])
def zyv (N:Nat)(a0:Kept):OA:=
 (oN (zfr a0) (iter (σ:=(Int×(lB×(lS×(lB×(lS×Unit)))))) N (fun r2 s3=>let y0:=(⟨s3.2.1,s3.2.2.1⟩:Kept); (cond (ilt s3.1 (ln s3.2.1)) (oN (zkJ y0 s3.1) (r2 ((zG .i64 s3.1 1),((zjZ y0 s3.1).Known,((zjZ y0 s3.1).Slots,(s3.2.2.2.1,(s3.2.2.2.2.1,()))))))) (some [(aT .kept y0)]))) (0,((zc4 a0).Known,((zc4 a0).Slots,([],([],())))))))
def zKB:FuncId->Nat->Option Tmpl:=zo [(291,0,{ n:=17,tm:=[(1,.lp 0 0),(2,.lp 1 0),(3,ti)],lo:=[(0,[.sl 0 [],.sl 1 []]),(1,[.sl 2 [],.sl 3 []])],ro:=[(0,.bool,true),(1,.slot,true),(2,.bool,true),(3,.slot,true)] })]
theorem zJy (a0:Kept)(hc:zq1 a0=true):∃N,zyv N a0=some [aT .kept (zvb a0)]:=by
 have hs:=zC.1 hc;have hl:=zcd hs.1;refine zbT fun N hNN=>?_;unfold zyv oN
 conv=>zeta
 refine must (zbp ((zvI _).2 hs)) ?_;refine (zv0 a0.Known.length (fun i (k:Kept)=>((i:Int),(k.Known,(k.Slots,([],([],())))))) _ (fun i k=>SmK k/\k.Known.length=a0.Known.length) (fun i k=>some [AV.agg (Ty.cells .kept (zhK (a0.Known.length-i) i k))]) (fun i k rec hi hI hr=>?_) (fun k rec hI=>?_) N 0 a0 ⟨hs,rfl⟩ (jV _) (hNN hl.1)).trans rfl
 .refine must (zbh (by rw[hI.2];exact hi)) (must (zY hI.1) ?_)
  have q:=hr (zbG k (i:Int)) ⟨zn1 hI.1,by rw[zWX];exact hI.2⟩
  rw[show a0.Known.length-i=a0.Known.length-(i+1)+1 by omega]
  rw[zU hi hl.1];exact q
 .refine zc6 (by show ilt (a0.Known.length:Int) (ln k.Known)=false;rw[ln,hI.2];exact qJ (by omega)) ?_
  rw[k6];rfl
theorem zC8:vF 291 zt9:=kF1 zNN zu zb9 zcR zKB zJy
def zYF:zO:=[(291,zt9)]++zYE
theorem zNO:zF zYF:=zh zC8 zNN
def ztw:Nat->Nat->List Kept->List Kept
 | 0,_,l=>l
 | n+1,j,l=>ztw n (j+1) (up l (j:Int) (zij (ix l (j:Int) kZ)))
def ztx (x:Mon)(n j:Nat):Mon:={ x with Tables:=ztw n j x.Tables }
def zmX:Nat->Nat->List Mon->List Mon
 | 0,_,t=>t
 | n+1,i,t=>zmX n (i+1) (up t (i:Int) (ztx (ix t (i:Int) mZ) (ix t (i:Int) mZ).Tables.length 0))
def cold (h:Host):Host:=⟨h.Memory,zmX h.Mons.length 0 h.Mons,[],[]⟩
theorem zKg:∀(n j:Nat) (l:List Kept),j+n<=l.length->zAc l->zAc (ztw n j l)
 | 0,_,_,_,h=>h
 | n+1,j,l,hn,h=>by
  have hj:j<l.length:=by omega
  refine zKg n (j+1) _ (by rw[zfG];omega) (zwR h (zvp _ _ _ ?_))
  rw[zZ hj];exact h.2 _ (jG hj)
theorem zKi {x:Mon}(h:zeG x){n j:Nat}(hn:j+n<=x.Tables.length):zeG (ztx x n j):=⟨h.1,h.2.1,h.2.2.1,h.2.2.2.1,h.2.2.2.2.1,zKg n j _ hn h.2.2.2.2.2⟩
@[simp] abbrev zGR (h:Host):Bool:=pc (zbA h)
@[simp] abbrev zS0 (h:Host):Host:=cold h
def zJ1:Run:=rF1 dH fun b=>(zGR b,[aH (zS0 b)])
def zQt (N:Nat)(a0:Host):OA:=
 (oN (zbD a0) (iter (σ:=(Int×(lM×(lN×(lE×(lE×(lM×(lN×(lE×(lE×Unit)))))))))) N (fun r2 s3=>(cond (ilt s3.1 (ln s3.2.2.1)) (iter (σ:=(Int×(Int×(lM×(lN×(lE×(lE×(lM×(lN×(lE×(lE×Unit))))))))))) N (fun r4 s5=>let y1:=(inb s5.1 (ln s5.2.2.2.1));let y0:=(ix s5.2.2.2.1 s5.1 zf);let y2:=(ix y0.Tables s5.2.1 zee); (oN y1 (cond (ilt s5.2.1 (ln y0.Tables)) (oN y1 (oN y1 (oN (inb s5.2.1 (ln y0.Tables)) (oN (zq1 y2) (oN (inb s5.2.1 (ln y0.Tables)) (share (up s5.2.2.2.1 s5.1 ({ y0 with Tables:=(up y0.Tables s5.2.1 (zvb y2)) }:Mon)) (fun x6=>(r4 (s5.1,((zG .i64 s5.2.1 1),(s5.2.2.1,(x6,(s5.2.2.2.2.1,(s5.2.2.2.2.2.1,(s5.2.2.2.2.2.2.1,(s5.2.2.2.2.2.2.2.1,(s5.2.2.2.2.2.2.2.2.1,(s5.2.2.2.2.2.2.2.2.2.1,())))))))))))))))))) (r2 ((zG .i64 s5.1 1),(s5.2.2.1,(s5.2.2.2.1,(s5.2.2.2.2.1,(s5.2.2.2.2.2.1,(s5.2.2.2.2.2.2.1,(s5.2.2.2.2.2.2.2.1,(s5.2.2.2.2.2.2.2.2.1,(s5.2.2.2.2.2.2.2.2.2.1,()))))))))))))) (s3.1,(0,(s3.2.1,(s3.2.2.1,(s3.2.2.2.1,(s3.2.2.2.2.1,(s3.2.2.2.2.2.1,(s3.2.2.2.2.2.2.1,(s3.2.2.2.2.2.2.2.1,(s3.2.2.2.2.2.2.2.2.1,()))))))))))) (some [(aH (⟨s3.2.1,s3.2.2.1,[],[]⟩:Host))]))) (0,((zk a0).Memory,((zk a0).Mons,((zk a0).Buffer,((zk a0).IoBuffer,([],([],([],([],())))))))))))
def zX7:FuncId->Nat->Option Tmpl:=zo [(250,0,{ n:=48,tm:=[(1,.lp 0 0),(2,.lp 1 0),(3,ti)],lo:=[(0,[.sl 0 [],.sl 1 [],.sl 2 [],.sl 3 []]),(1,[.sl 4 [],.sl 5 [],.sl 6 [],.sl 7 []])],ro:=[(0,(.sl .int),true),(1,.mon,true),(2,.entry,true),(3,.entry,true),(4,(.sl .int),true),(5,.mon,true),(6,.entry,true),(7,.entry,true)] }),(250,2,{ n:=48,tm:=[(1,.lp 0 0),(2,.lp 1 0),(3,ti),(4,ti)],lo:=[(0,[.sl 0 [],.sl 1 [],.sl 2 [],.sl 3 []]),(1,[.sl 4 [],.sl 5 [],.sl 6 [],.sl 7 []])],ro:=[(0,(.sl .int),true),(1,.mon,true),(2,.entry,true),(3,.entry,true),(4,(.sl .int),true),(5,.mon,true),(6,.entry,true),(7,.entry,true)] })]
theorem zXg (a0:Host)(hc:zGR a0=true):∃N,zQt N a0=some [aH (zS0 a0)]:=by
 have hs:=(zM a0).1 (zC.1 hc);have hl:=zcd hs.2.1.1;refine zbT fun N hNN=>?_;unfold zQt oN
 conv=>zeta
 refine must hc ?_;refine (zv0 a0.Mons.length (fun i (t:List Mon)=>((i:Int),(a0.Memory,(t,(a0.Buffer,(a0.IoBuffer,([],([],([],([],())))))))))) _ (fun i t=>zpW t/\t.length=a0.Mons.length) (fun i t=>some [AV.agg (zbf ⟨a0.Memory,zmX (a0.Mons.length-i) i t,[],[]⟩)]) (fun i t rec hi hI hr=>?_) (fun t rec hI=>?_) N 0 a0.Mons ⟨hs.2.1,rfl⟩ (jV _) (hNN hl.1)).trans rfl
 .have hit:i<t.length:=by rw[hI.2];exact hi
  have hx:zeG (ix t (i:Int) mZ):=by rw[zZ hit];exact hI.1.2 _ (jG hit)
  have hk:=zcd hx.2.2.2.2.2.1;refine must (zbh hit) ?_;refine (zv0 (ix t (i:Int) mZ).Tables.length (fun j (u:List Mon)=>((i:Int),((j:Int),(a0.Memory,(u,(a0.Buffer,(a0.IoBuffer,([],([],([],([],())))))))))))
   _ (fun j u=>u.length=t.length/\zeG (ix u (i:Int) mZ)/\(ix u (i:Int) mZ).Tables.length=(ix t (i:Int) mZ).Tables.length)
   (fun j u=>rec (((i+1:Nat):Int),(a0.Memory,(up u (i:Int) (ztx (ix u (i:Int) mZ) ((ix t (i:Int) mZ).Tables.length-j) j),(a0.Buffer,(a0.IoBuffer,([],([],([],([],()))))))))))
   (fun j u rec1 hj hJ hr1=>?_) (fun u rec1 hJ=>?_) N 0 t ⟨rfl,hx,rfl⟩ (jV _) (hNN hk.1)).trans ?_
  .have hiu:i<u.length:=by rw[hJ.1];exact hit
   have hju:j<(ix u (i:Int) mZ).Tables.length:=by rw[hJ.2.2];exact hj
   have hkj:SmK (ix (ix u (i:Int) mZ).Tables (j:Int) kZ):=by rw[zZ hju];exact hJ.2.1.2.2.2.2.2.2 _ (jG hju)
   refine must (zN hiu) (must (zbh hju) (must (zN hiu) (must (zN hiu) (must (zN hju) (must (zY hkj) (must (zN hju) (shr ?_)))))));have hn:zeG { ix u (i:Int) mZ with Tables:=up (ix u (i:Int) mZ).Tables (j:Int) (zij (ix (ix u (i:Int) mZ).Tables (j:Int) kZ)) } :=
    ⟨hJ.2.1.1,hJ.2.1.2.1,hJ.2.1.2.2.1,hJ.2.1.2.2.2.1,hJ.2.1.2.2.2.2.1,zwR hJ.2.1.2.2.2.2.2 (zvp _ _ _ hkj)⟩
   have q:=hr1 (up u (i:Int) { ix u (i:Int) mZ with Tables:=up (ix u (i:Int) mZ).Tables (j:Int) (zij (ix (ix u (i:Int) mZ).Tables (j:Int) kZ)) }) ⟨by rw[zfG];exact hJ.1,by rw[zc5 hiu];exact hn,by rw[zc5 hiu];simp only[zfG];exact hJ.2.2⟩
   rw[zU hj hk.1];refine q.trans ?_;rw[zc5 hiu,zpU,show (ix t (i:Int) mZ).Tables.length-j=(ix t (i:Int) mZ).Tables.length-(j+1)+1 by omega]
   rfl
  .have hiu:i<u.length:=by rw[hJ.1];exact hit
   refine must (zN hiu) (zc6 (by show ilt ((ix t (i:Int) mZ).Tables.length:Int) (ln (ix u (i:Int) mZ).Tables)=false;rw[ln,hJ.2.2];exact qJ (by omega)) ?_)
   rw[zU hi hl.1,k6]
   show rec (_,(a0.Memory,(u,_)))=rec (_,(a0.Memory,(up u (i:Int) (ix u (i:Int) mZ),_)))
   rw[zM9 hiu]
  .have q:=hr (up t (i:Int) (ztx (ix t (i:Int) mZ) (ix t (i:Int) mZ).Tables.length 0)) ⟨zic hI.1 (zKi hx (by omega)),by rw[zfG];exact hI.2⟩
   refine q.trans ?_;rw[show a0.Mons.length-i=a0.Mons.length-(i+1)+1 by omega]
   rfl
 .refine zc6 (by show ilt (a0.Mons.length:Int) (ln t)=false;rw[ln,hI.2];exact qJ (by omega)) ?_
  rw[k6];rfl
theorem zRp:vF 250 zJ1:=kF1 zNO zu zb9 zcR zX7 zXg
def zYG:zO:=[(250,zJ1)]++zYF
theorem zYH:zF zYG:=zh zRp zNO
def zYI:zO:=zYG
theorem zNP:zF zYI:=zYH
theorem zzk:∀(n i:Nat) (t:List Mon),i+n<=t.length->zpW t->zpW (zmX n i t)
 | 0,_,_,_,h=>h
 | n+1,i,t,hn,h=>by
  have hi:i<t.length:=by omega
  refine zzk n (i+1) _ (by rw[zfG];omega) (zic h (zKi ?_ (by omega)))
  rw[zZ hi];exact h.2 _ (jG hi)
theorem z1Z {h:Host}(hs:SmH h):SmH (cold h):=⟨hs.1,zzk _ _ _ (by omega) hs.2.1,by simp[cold],by simp[cold]⟩
theorem zmo {h:Host}{m:Int}{b:Bare}(hs:SmH h)(hb:zb2 h m=true->SmB b):SmH (zei h m b):=by
 unfold zei;cases h0:zb2 h m
 .exact hs
 .exact zGX hs (zbO.1 h0).2 (hb h0).2.1
theorem z0d {h:Host}{m g p:Int}(hs:SmH h):SmH (zjH h m g p):=by
 unfold zjH;cases h0:zb2 h m
 .exact hs
 .cases hk:zbM (zA h m) g (hasB p 4)
  .exact hs
  .have hm:=(zbO.1 h0).2;have hv:=zTa hs hm;have hb:SmB (chg (zA h m) g (hasB p 4) (zdn (gAt (zA h m) g) p)):=zo0 hv (zKe _ (ziX _ hv));have h1:=zGX hs hm hb.2.1;have h2:=zQE (chg (zA h m) g (hasB p 4) (zdn (gAt (zA h m) g) p)) hm;have h3:=zNY hs h0 (chg (zA h m) g (hasB p 4) (zdn (gAt (zA h m) g) p)) hk;have hx:=h1.2.1.2 _ (zbr h2 mZ);simp only[cT];exact ⟨h1.1,zic h1.2.1 ⟨hx.1,hx.2.1,hx.2.2.1,hx.2.2.2.1,hx.2.2.2.2.1,zwR hx.2.2.2.2.2 (zn1 (hx.2.2.2.2.2.2 _ (zbr h3 _)))⟩,jC (zxh _ _ _) h1.2.2.1,jC (zxh _ _ _) h1.2.2.2⟩
theorem z14 {h:Host}{m p c v:Int}(hs:SmH h):SmH (zl2 h m p c v):=by
 unfold zl2;cases hf:zeK h m p c v
 .exact hs
 .have h0:zbQ h m p=true:=by
   unfold zeK at hf;cases hp:zbQ h m p
   .rw [hp]at hf;cases hf
   .rfl
  obtain ⟨hh,hm,hp⟩:=zi6.1 h0;have h1:=(ztc (n:=2) (zeJ hs hh) hm hp).1.1;exact ⟨zx8 h1.1,h1.2⟩
theorem zSr {h:Host}{m g page need:Int}(b:List Entry)(io:Bool)(hs:SmH h)(hl:zbU h m g page need=true):SmH (lookOf h b m g page need io).1:=by
 have hg:zbI h m g=true:=by
  unfold zbU at hl;cases h1:zbI h m g
  .rw [h1]at hl;cases hl
  .rfl
 exact (zv1 hs hg).shape.1
theorem z5y {h:Host}{m g a v:Int}(hs:SmH h):SmH (zop h m g a v):=by
 unfold zop;cases hf:zf7 h m g a v
 .exact hs
 .have hl:zbU h m g (zbc a) 2=true:=by
   unfold zf7 at hf;cases h1:win a 0 15
   .rw [h1]at hf;cases hf
   .cases h2:win v 0 99
    .rw [h1,h2]at hf;cases hf
    .rw [h1,h2]at hf;exact hf
  have h1:=zSr h.IoBuffer true hs hl;exact ⟨zx8 h1.1,h1.2⟩
theorem z15 {h:Host}{m g a:Int}(hs:SmH h):SmH (zl3 h m g a):=by
 unfold zl3;cases hf:zfn h m g a
 .exact hs
 .have hl:zbU h m g (zbc a) 1=true:=by
   unfold zfn at hf;cases h1:win a 0 15
   .rw [h1]at hf;cases hf
   .rw [h1]at hf;exact hf
  exact zSr h.IoBuffer true hs hl
theorem z5z {h:Host}{m p:Int}(hs:SmH h):SmH (zoy h m p):=by
 unfold zoy;cases h0:zbQ h m p
 .exact hs
 .obtain ⟨hh,hm,hp⟩:=zi6.1 h0;cases zjm h m p
  .exact (zKa (zeJ hs hh).1 hm).1
  .exact hs
theorem z6y {h:Host}{m p:Int}(hs:SmH h):SmH (zsx h m p):=by
 unfold zsx;cases h0:zbQ h m p
 .exact hs
 .obtain ⟨hh,hm,hp⟩:=zi6.1 h0;cases zjm h m p
  .exact hs
  .exact (ziV (zeJ hs hh) hm hp).1.1
theorem z0g {h:Host}{m t:Int}(hs:SmH h):SmH (ziD h m t):=by
 unfold ziD;cases zbJ h
 .exact hs
 .cases hm:hasB m (ln h.Mons)
  .exact hs
  .cases win t 0 3
   .exact hs
   .have hx:zeG (ix h.Mons m mZ):=hs.2.1.2 _ (zbr hm mZ);exact ⟨hs.1,zic hs.2.1 ⟨hx.1,hx.2.1,hx.2.2.1,hx.2.2.2.1,hx.2.2.2.2.1,hx.2.2.2.2.2⟩,hs.2.2⟩
def zss (h:Host)(a:GAct):Host:=bif ieq a.Kind 1 then (zbs h a.M a.G).1 else (cond (ieq a.Kind 2) (zUH h a.M a.G a.X ⟨a.Y,a.Z⟩) (cond (ieq a.Kind 3) (zjH h a.M a.G a.X) (cond (ieq a.Kind 4) (zMt h a.M a.G a.X) (cond (ieq a.Kind 5) (zMx h a.M a.G) (cond (ieq a.Kind 6) (zMv h a.M a.G a.X) (cond (ieq a.Kind 7) (zUF h a.M a.G ⟨a.X,a.Y,ieq a.Z 1⟩) (cond (ieq a.Kind 8) (zl2 h a.M a.X a.Y a.Z) (cond (ieq a.Kind 9) (zSt h a.M a.X) (cond (ieq a.Kind 10) (zUC h a.M) (cond (ieq a.Kind 11) (zop h a.M a.G a.X a.Y) (zl3 h a.M a.G a.X)))))))))))
def zAV (h:Host)(a:GAct):Told:=bif ieq a.Kind 1 then ⟨(zbs h a.M a.G).2,0⟩ else (cond (ieq a.Kind 2) ⟨zUI h a.M a.G a.X ⟨a.Y,a.Z⟩,0⟩ (cond (ieq a.Kind 3) ⟨zPR h a.M a.G a.X,0⟩ (cond (ieq a.Kind 4) ⟨zMu h a.M a.G a.X,0⟩ (cond (ieq a.Kind 5) ⟨zMy h a.M a.G,0⟩ (cond (ieq a.Kind 6) ⟨zMw h a.M a.G a.X,0⟩ (cond (ieq a.Kind 7) ⟨zUG h a.M a.G ⟨a.X,a.Y,ieq a.Z 1⟩,0⟩ (cond (ieq a.Kind 8) ⟨zeK h a.M a.X a.Y a.Z,0⟩ (cond (ieq a.Kind 9) ⟨zSu h a.M a.X,0⟩ (cond (ieq a.Kind 10) ⟨zUE h a.M,zUD h a.M⟩ (cond (ieq a.Kind 11) ⟨zf7 h a.M a.G a.X a.Y,0⟩ (⟨zfn h a.M a.G a.X,zqa h a.M a.G a.X⟩)))))))))))
def zlp (h:Host)(a:GAct):Host:=bif ieq a.Kind 13 then zoy h a.M a.X else (cond (ieq a.Kind 14) (zsx h a.M a.X) (cond (ieq a.Kind 15) (zdo h a.M a.X) (cond (ieq a.Kind 16) (ziD h a.M a.X) (cold h))))
def zJP (h:Host)(a:GAct):Told:=bif ieq a.Kind 13 then ⟨zBa h a.M a.X,0⟩ else (cond (ieq a.Kind 14) ⟨zGK h a.M a.X,0⟩ (cond (ieq a.Kind 15) ⟨zbQ h a.M a.X,0⟩ (cond (ieq a.Kind 16) ⟨zx4 h a.M a.X,0⟩ (⟨true,0⟩))))
def zd1 (h:Host)(a:GAct):Host:=bif win a.Kind 1 17 then (cond (win a.Kind 13 17) (zlp h a) (zss h a)) else h
def zin (h:Host)(a:GAct):Told:=bif win a.Kind 1 17 then (cond (win a.Kind 13 17) (zJP h a) (zAV h a)) else ⟨false,0⟩
theorem z0f {h:Host}{a:GAct}(hs:SmH h):SmH (zlp h a):=by
 unfold zlp;cases ieq a.Kind 13
 .cases ieq a.Kind 14
  .cases ieq a.Kind 15
   .cases ieq a.Kind 16
    .exact z1Z hs
    .exact z0g hs
   .exact zCd hs
  .exact z6y hs
 .exact z5z hs
theorem z0e {h:Host}{a:GAct}(hs:SmH h):SmH (zss h a):=by
 have hv:zb2 h a.M=true->SmB (zA h a.M):=fun h0=>zTa hs (zbO.1 h0).2;unfold zss;cases ieq a.Kind 1
 .cases ieq a.Kind 2
  .cases ieq a.Kind 3
   .cases ieq a.Kind 4
    .cases ieq a.Kind 5
     .cases ieq a.Kind 6
      .cases ieq a.Kind 7
       .cases ieq a.Kind 8
        .cases ieq a.Kind 9
         .cases ieq a.Kind 10
          .cases ieq a.Kind 11
           .exact z15 hs
           .exact z5y hs
          .exact zmo hs (fun h0=>zVX (hv h0))
         .exact zmo hs (fun h0=>zS9 _ (hv h0))
        .exact z14 hs
       .exact zmo hs (fun h0=>zVY _ _ (hv h0))
      .exact zmo hs (fun h0=>zKc _ _ (hv h0))
     .exact zmo hs (fun h0=>zKd _ (hv h0))
    .exact zmo hs (fun h0=>zKb _ _ (hv h0))
   .exact z0d hs
  .exact zmo hs (fun h0=>zVZ _ _ _ (hv h0))
 .exact (zZ3 a.M a.G hs).sm
theorem zV3 {h:Host}{a:GAct}(hs:SmH h):SmH (zd1 h a):=by
 unfold zd1;cases win a.Kind 1 17
 .exact hs
 .cases win a.Kind 13 17
  .exact z0e hs
  .exact z0f hs
@[simp] abbrev zta (h:Host)(a:GAct):Bool:=pc (zbA h)
@[simp] abbrev zka (h:Host)(a:GAct):Host:=zlp h a
@[simp] abbrev zh3 (h:Host)(a:GAct):Told:=zJP h a
def zwK:Run:=rF2 dH (dT .act) fun b c=>(zta b c,[aH (zka b c),aT .told (zh3 b c)])
def zAb (N:Nat)(a0:Host)(a1:GAct):OA:=
 (cond (ieq a1.Kind 13) (oN (zvk a0 a1.M a1.X) (some [(aH (zpH a0 a1.M a1.X)),(.agg [(.b (zpI a0 a1.M a1.X)),(.i .i64 0)])])) (cond (ieq a1.Kind 14) (oN (zxT a0 a1.M a1.X) (some [(aH (zrC a0 a1.M a1.X)),(.agg [(.b (zrD a0 a1.M a1.X)),(.i .i64 0)])])) (cond (ieq a1.Kind 15) (oN (zB0 a0 a1.M a1.X) (some [(aH (zui a0 a1.M a1.X)),(.agg [(.b (zuj a0 a1.M a1.X)),(.i .i64 0)])])) (cond (ieq a1.Kind 16) (oN (zs6 a0 a1.M a1.X) (some [(aH (znR a0 a1.M a1.X)),(.agg [(.b (znS a0 a1.M a1.X)),(.i .i64 0)])])) (oN (zGR a0) (some [(aH (zS0 a0)),(.agg [(.b true),(.i .i64 0)])]))))))
theorem zMr (a0:Host)(a1:GAct)(hc:zta a0 a1=true):∃N,zAb N a0 a1=some [aH (zka a0 a1),aT .told (zh3 a0 a1)]:=by
 have hs:=zC.1 hc;refine ⟨0,?_⟩;unfold zAb oN;refine br (fun _=>mu ?_) (fun _=>br (fun _=>mu ?_) (fun _=>br (fun _=>mu ?_) (fun _=>br (fun _=>mu ?_) (fun _=>mu ?_))))
 all_goals first|rfl|(simp only [*,zka,zh3,zlp,zJP,cT,cF]<;>rfl)|simp_all[Ty.cells,zka,zh3,zlp,zJP]
theorem zGk:vF 189 zwK:=kF2 zNP zu zb9 zcR (zo []) zMr
def zYJ:zO:=[(189,zwK),(187,zEO),(188,zyU),(197,zEP)]++zYI
theorem zNQ:zF zYJ:=zh zGk (zh zON (zh zIK (zh zOO zNP)))
@[simp] abbrev zpz (h:Host)(a:GAct):Bool:=pc (zbA h)
@[simp] abbrev zlv (h:Host)(a:GAct):Host:=zd1 h a
@[simp] abbrev zlw (h:Host)(a:GAct):Told:=zin h a
def zyP:Run:=rF2 dH (dT .act) fun b c=>(zpz b c,[aH (zlv b c),aT .told (zlw b c)])
def zDY (N:Nat)(a0:Host)(a1:GAct):OA:=
 let y0:=(⟨a1.Y,a1.Z⟩:Slot); (oN (zBW a1) (cond (nB (zwL a1)) (oN (zbD a0) (some [(aH (zk a0)),(.agg [(.b false),(.i .i64 0)])])) (oN (zvh a1.Kind) (cond (zql a1.Kind) (oN (zta a0 a1) (some [(aH (zka a0 a1)),(.agg [(.b (zh3 a0 a1).Ok),(.i .i64 (zh3 a0 a1).N)])])) (cond (ieq a1.Kind 1) (oN (zd8 a0 a1.M a1.G) (some [(aH (zB2 a0 a1.M a1.G)),(.agg [(.b (zB3 a0 a1.M a1.G)),(.i .i64 0)])])) (cond (ieq a1.Kind 2) (oN (zvg a0 a1.M a1.G a1.X y0) (some [(aH (zpE a0 a1.M a1.G a1.X y0)),(.agg [(.b (zpF a0 a1.M a1.G a1.X y0)),(.i .i64 0)])])) (cond (ieq a1.Kind 3) (oN (zq2 a0 a1.M a1.G a1.X) (some [(aH (zlS a0 a1.M a1.G a1.X)),(.agg [(.b (zlT a0 a1.M a1.G a1.X)),(.i .i64 0)])])) (cond (ieq a1.Kind 4) (oN (zoR a0 a1.M a1.G a1.X) (some [(aH (zkL a0 a1.M a1.G a1.X)),(.agg [(.b (zkM a0 a1.M a1.G a1.X)),(.i .i64 0)])])) (cond (ieq a1.Kind 5) (oN (zoT a0 a1.M a1.G) (some [(aH (zkP a0 a1.M a1.G)),(.agg [(.b (zkQ a0 a1.M a1.G)),(.i .i64 0)])])) (cond (ieq a1.Kind 6) (oN (zoS a0 a1.M a1.G a1.X) (some [(aH (zkN a0 a1.M a1.G a1.X)),(.agg [(.b (zkO a0 a1.M a1.G a1.X)),(.i .i64 0)])])) (cond (ieq a1.Kind 7) (oN (zBX a1) (oN (zvd a0 a1.M a1.G (zoP a1)) (some [(aH (zpA a0 a1.M a1.G (zoP a1))),(.agg [(.b (zpB a0 a1.M a1.G (zoP a1))),(.i .i64 0)])]))) (cond (ieq a1.Kind 8) (oN (zsV a0 a1.M a1.X a1.Y a1.Z) (some [(aH (znE a0 a1.M a1.X a1.Y a1.Z)),(.agg [(.b (znF a0 a1.M a1.X a1.Y a1.Z)),(.i .i64 0)])])) (cond (ieq a1.Kind 9) (oN (zsW a0 a1.M a1.X) (some [(aH (znG a0 a1.M a1.X)),(.agg [(.b (znH a0 a1.M a1.X)),(.i .i64 0)])])) (cond (ieq a1.Kind 10) (oN (zvc a0 a1.M) (some [(aH (zpw a0 a1.M)),(.agg [(.b (zpy a0 a1.M)),(.i .i64 (zpx a0 a1.M))])])) (cond (ieq a1.Kind 11) (oN (zve a0 a1.M a1.G a1.X a1.Y) (some [(aH (zpC a0 a1.M a1.G a1.X a1.Y)),(.agg [(.b (zpD a0 a1.M a1.G a1.X a1.Y)),(.i .i64 0)])])) (oN (zsX a0 a1.M a1.G a1.X) (some [(aH (znI a0 a1.M a1.G a1.X)),(.agg [(.b (znK a0 a1.M a1.G a1.X)),(.i .i64 (znJ a0 a1.M a1.G a1.X))])])))))))))))))))))
theorem zPk (a0:Host)(a1:GAct)(hc:zpz a0 a1=true):∃N,zDY N a0 a1=some [aH (zlv a0 a1),aT .told (zlw a0 a1)]:=by
 have hs:=zC.1 hc;refine ⟨0,?_⟩;unfold zDY oN nB
 conv=>zeta
 refine must rfl (brN (fun _=>mu ?_) (fun _=>must rfl (br (fun _=>mu ?_) (fun _=>br (fun _=>mu ?_) (fun _=>br (fun _=>mu ?_) (fun _=>br (fun _=>mu ?_) (fun _=>br (fun _=>mu ?_) (fun _=>br (fun _=>mu ?_) (fun _=>br (fun _=>mu ?_) (fun _=>br (fun _=>must rfl (mu ?_)) (fun _=>br (fun _=>mu ?_) (fun _=>br (fun _=>mu ?_) (fun _=>br (fun _=>mu ?_) (fun _=>br (fun _=>mu ?_) (fun _=>mu ?_)))))))))))))))
 all_goals first|rfl|(simp only [*,zlv,zlw,zd1,zin,zss,zAV,cT,cF]<;>rfl)|simp_all[Ty.cells,zlv,zlw,zd1,zin,zss,zAV]
theorem zIF:vF 145 zyP:=kF2 zNQ zu zb9 zcR (zo []) zPk
def zYK:zO:=[(145,zyP)]++zYJ
theorem zNR:zF zYK:=zh zIF zNQ
def zBd:List GAct->Host×List Told->Host×List Told
 | [],u=>u
 | a :: l,u=>zBd l (zd1 u.1 a,ap u.2 [zin u.1 a])
def zxs (ps:List (List (List Ins)))(l:List GAct):Host×List Told:=zBd (l.take 80) (ze2 ps,[])
abbrev HSt:Type:=(List Told)×(List (List Int))×(List Mon)×(List Entry)×(List Entry)
def hOf (t:HSt):Host:=⟨t.2.1,t.2.2.1,t.2.2.2.1,t.2.2.2.2⟩
def tOf (u:Host×List Told):HSt:=(u.2,u.1.Memory,u.1.Mons,u.1.Buffer,u.1.IoBuffer)
def zxF (t:HSt):OA:=some [AV.agg (zbf (hOf t)),AV.one (.s .told t.1)]
theorem zV4 {ps:List (List (List Ins))}(h:zHR ps):SmH (ze2 ps):=by
 refine ⟨show SmM zXj from ⟨by decide,by decide⟩,⟨?_,?_⟩,by simp[ze2],by simp[ze2]⟩
 .simp only [ze2,uK,vE];omega
 .intro x hx;simp only[ze2,jA]at hx;obtain ⟨p,hp,rfl⟩:=hx;have hps:=h.2 p (jY hp);refine ⟨show zte.length<=1048576 by decide,show SmM zMA from ⟨by decide,by decide⟩,show (rp 8 false).length<=1048576 by decide,⟨?_,?_⟩,by simp[zfV],⟨?_,?_⟩⟩
  .simp only [zfV,uK,vE];omega
  .intro y hy;simp only[zfV,jA]at hy;obtain ⟨q,hq,rfl⟩:=hy;exact ⟨hps.2 q (jY hq),show zkc.length<=1048576 by decide,show zkc.length<=1048576 by decide,by simp[zem]⟩
  .simp only [zfV,uK,vE];omega
  .intro y hy;simp only[zfV,jA]at hy;obtain ⟨q,hq,rfl⟩:=hy;exact ⟨show (rp 4 false).length<=1048576 by decide,show zkc.length<=1048576 by decide⟩
theorem zEz {c:Host->GAct->Bool}(hc:∀h a,SmH h->c h a=true)(m:Nat):∀(l:List GAct) (i:Nat) (u:Host×List Told),SmH u.1->u.2.length+l.length<=2147483648 ->
 goL (fun (i:Nat) x (t:HSt) κ=>bif ilt (i:Int) (m:Int) then (cond (c (hOf t) x) (cond (few (ln (ap t.1 [zin (hOf t) x]))) (κ (ap t.1 [zin (hOf t) x],(zd1 (hOf t) x).Memory,(zd1 (hOf t) x).Mons,(zd1 (hOf t) x).Buffer,(zd1 (hOf t) x).IoBuffer)) none) none) else zxF t) zxF l i (tOf u)=zxF (tOf (zBd (l.take (m-i)) u))
 | [],i,u,_,_=>by simp[goL,zBd]
 | a :: l,i,u,hs,hn=>by
  simp only[qU]at hn;have hf:few (ln (ap u.2 [zin u.1 a]))=true:=zfU (by simp[ap];omega)
  have hh:hOf (tOf u)=u.1:=rfl;have h2:(tOf u).1=u.2:=rfl
  by_cases h:i<m
  .have hi:ilt (i:Int) (m:Int)=true:=qK (by omega)
   simp only[goL,hi,hh,h2,hf,hc _ _ hs,cT];refine (zEz hc m l (i+1) (zd1 u.1 a,ap u.2 [zin u.1 a]) (zV3 hs) (by simp[ap];omega)).trans ?_
   rw[show m-i=m-(i+1)+1 by omega]
   rfl
  .have hi:ilt (i:Int) (m:Int)=false:=qJ (by omega)
   simp only[goL,hi,cF];rw[show m-i=0 by omega]
   rfl
@[simp] abbrev zsU (ps:List (List (List Ins)))(l:List GAct):Bool:=pc (zHR ps/\l.length<=1048576)
@[simp] abbrev zsS (ps:List (List (List Ins)))(l:List GAct):Host:=(zxs ps l).1
@[simp] abbrev zB1 (ps:List (List (List Ins)))(l:List GAct):List Told:=(zxs ps l).2
def zwt:Run:=rF2 (dS (.sl (.sl .ins))) (dS .act) fun b c=>(zsU b c,[aH (zsS b c),aS .told (zB1 b c)])
def zzV (N:Nat)(a0:lQ)(a1:lA):OA:=
 (oN (zvf a0) (iter (σ:=(Int×(lA×(lT×(lM×(lN×(lE×(lE×(lM×(lN×(lE×(lE×Unit)))))))))))) N (fun r3 s4=>let y1:=(ix s4.2.1 s4.1 z7h);let y0:=(⟨s4.2.2.2.2.2.2.2.1,s4.2.2.2.2.2.2.2.2.1,s4.2.2.2.2.2.2.2.2.2.1,s4.2.2.2.2.2.2.2.2.2.2.1⟩:Host);let y3:=(ap s4.2.2.1 [(zlw y0 y1)]);let y2:=(zlv y0 y1); (cond (ilt s4.1 (ln s4.2.1)) (cond (ilt s4.1 80) (oN (inb s4.1 (ln s4.2.1)) (oN (zpz y0 y1) (oN (few (ln y3)) (r3 ((zG .i64 s4.1 1),(s4.2.1,(y3,(s4.2.2.2.1,(s4.2.2.2.2.1,(s4.2.2.2.2.2.1,(s4.2.2.2.2.2.2.1,(y2.Memory,(y2.Mons,(y2.Buffer,(y2.IoBuffer,()))))))))))))))) (some [(aH y0),(aS .told s4.2.2.1)])) (some [(aH y0),(aS .told s4.2.2.1)]))) (0,(a1,([],([],([],([],([],((zgd a0).Memory,((zgd a0).Mons,((zgd a0).Buffer,((zgd a0).IoBuffer,())))))))))))))
def zM1:FuncId->Nat->Option Tmpl:=zo [(85,0,{ n:=39,tm:=[(1,.sl 0 []),(4,.lp 0 0),(6,.lp 1 0),(7,.sl 1 []),(8,ti)],lo:=[(0,[.sl 2 [],.sl 3 [],.sl 4 [],.sl 5 []]),(1,[.sl 6 [],.sl 7 [],.sl 8 [],.sl 9 []])],ro:=[(0,.act,false),(1,.told,true),(2,(.sl .int),true),(3,.mon,true),(4,.entry,true),(5,.entry,true),(6,(.sl .int),true),(7,.mon,true),(8,.entry,true),(9,.entry,true)] })]
theorem zL7 (a0:List lP)(a1:List GAct)(hc:zsU a0 a1=true):∃N,zzV N a0 a1=some [aH (zsS a0 a1),aS .told (zB1 a0 a1)]:=by
 obtain ⟨hs,hl1⟩:=zC.1 hc;have hl:=zcd hl1;refine zbT fun N hNN=>?_;unfold zzV oN
 conv=>zeta
 refine must (zY hs) ?_;refine (zba a1 (fun i (t:lT×lM×lN×lE×lE)=>((i:Int),a1,t.1,[],[],[],[],t.2.1,t.2.2.1,t.2.2.2.1,t.2.2.2.2,())) _ (fun i (x:GAct) (t:HSt) κ=>bif ilt (i:Int) ((80:Nat):Int) then (cond (zpz (hOf t) x) (cond (few (ln (ap t.1 [zin (hOf t) x]))) (κ (ap t.1 [zin (hOf t) x],(zd1 (hOf t) x).Memory,(zd1 (hOf t) x).Mons,(zd1 (hOf t) x).Buffer,(zd1 (hOf t) x).IoBuffer)) none) none) else zxF t) (fun (t:lT×lM×lN×lE×lE)=>(some [(.agg (zbf (⟨t.2.1,t.2.2.1,t.2.2.2.1,t.2.2.2.2⟩:Host))),(.one (.s .told t.1))])) (fun i hi t rec=>?_) (fun t rec=>?_) _ ([],(zgd a0).Memory,(zgd a0).Mons,(zgd a0).Buffer,(zgd a0).IoBuffer) (hNN hl.1)).trans ?_
 .simp only [zbh hi,zN hi,zZ hi,zU hi hl.1,cT];rfl
 .simp only [zbb,cF]
 exact zEz (fun h a hh=>zY ((zM h).2 hh)) 80 a1 0 (ze2 a0,[]) (zV4 hs) (by simpa using hl.2)
theorem zF0:vF 85 zwt:=kF2 zNR zu zb9 zcR zM1 zL7
def zFw:zO:=[(85,zwt)]++zYK
theorem zuX:zF zFw:=zh zF0 zNR
def zHW (b:Bare)(a:GAct):Bare:=bif ieq a.Kind 1 then zhm b a.G else (cond (ieq a.Kind 2) (chg b a.G (zq5 a.X ⟨a.Y,a.Z⟩) (zx5 (gAt b a.G) a.X ⟨a.Y,a.Z⟩)) (cond (ieq a.Kind 3) (chg b a.G (hasB a.X 4) (zdn (gAt b a.G) a.X)) (cond (ieq a.Kind 4) (chg b a.G (zqz (gAt b a.G) a.X) (zuT (gAt b a.G) a.X)) (cond (ieq a.Kind 5) (chg b a.G (zu6 (gAt b a.G)) (zu7 (gAt b a.G))) (cond (ieq a.Kind 6) (chg b a.G (zfD (gAt b a.G).Pending a.X) (zl6 (gAt b a.G) a.X)) (cond (ieq a.Kind 7) (chg b a.G (zgK ⟨a.X,a.Y,ieq a.Z 1⟩) (zFs (gAt b a.G) ⟨a.X,a.Y,ieq a.Z 1⟩)) (cond (ieq a.Kind 8) (zQi b a.X a.Y a.Z) (cond (ieq a.Kind 9) (ziw b a.X) (cond (ieq a.Kind 10) (zk1 b) (cond (ieq a.Kind 11) (zWO b a.G a.X a.Y) (b)))))))))))
def zHX (b:Bare)(a:GAct):Told:=bif ieq a.Kind 1 then ⟨zkj b a.G,0⟩ else (cond (ieq a.Kind 2) ⟨zbM b a.G (zq5 a.X ⟨a.Y,a.Z⟩),0⟩ (cond (ieq a.Kind 3) ⟨zbM b a.G (hasB a.X 4),0⟩ (cond (ieq a.Kind 4) ⟨zbM b a.G (zqz (gAt b a.G) a.X),0⟩ (cond (ieq a.Kind 5) ⟨zbM b a.G (zu6 (gAt b a.G)),0⟩ (cond (ieq a.Kind 6) ⟨zbM b a.G (zfD (gAt b a.G).Pending a.X),0⟩ (cond (ieq a.Kind 7) ⟨zbM b a.G (zgK ⟨a.X,a.Y,ieq a.Z 1⟩),0⟩ (cond (ieq a.Kind 8) ⟨zv9 b a.X a.Y a.Z,0⟩ (cond (ieq a.Kind 9) ⟨zes b a.X,0⟩ (cond (ieq a.Kind 10) ⟨zkg b,zqy b⟩ (cond (ieq a.Kind 11) ⟨zxf b a.G a.X a.Y,0⟩ (⟨zmY b a.G a.X 1,zQm b a.G a.X⟩)))))))))))
def zHY (l:List Bare)(a:GAct):List Bare:=bif win a.Kind 1 17 then (cond (win a.Kind 13 17) l (cond (hasB a.M (ln l)) (up l a.M (zHW (ix l a.M zKH) a)) l)) else l
def zWo (l:List Bare)(a:GAct):Told:=bif win a.Kind 1 17 then (cond (win a.Kind 13 17) ⟨false,0⟩ (cond (hasB a.M (ln l)) (zHX (ix l a.M zKH) a) (cond (ieq a.Kind 10) ⟨false,-1⟩ ⟨false,0⟩))) else ⟨false,0⟩
theorem zq {i n:Int}:hasB i n=true↔0<=i/\i<n:=by unfold hasB;exact decide_eq_true_iff
theorem zcm {x a b:Int}:win x a b=true↔a<=x/\x<=b:=by simp[win,ige,ile]
theorem zbi {x y:Int}:ieq x y=true↔x=y:=by simp[ieq]
theorem zvZ {x y:Int}:ine x y=true↔x≠y:=by simp[ine]
theorem zbH {x y:Int}:ieq x y=false↔x≠y:=by simp[ieq]
theorem zbW {a b:Bool}:(cond a b false)=true↔a=true/\b=true:=by cases a<;>simp
theorem zbz {α:Type}(l:List α)(i:Int)(x:α):(up l i x).length=l.length:=by simp[up]
theorem zdc {α:Type}(l:List α)(i:Int)(x:α):ln (up l i x)=ln l:=by simp[up,ln]
theorem zxB {α:Type}{l:List α}{i:Int}(h:hasB i (ln l)=true)(d:α):∃k:Nat,∃hk:k<l.length,i=(k:Int)/\ix l i d=l[k]:=by
 rw[zq]at h;unfold ln at h;refine ⟨i.toNat,by omega,by omega,?_⟩
 simp[ix,List.getD,qB (show i.toNat<l.length by omega)]
theorem zli {α:Type}{l:List α}{k:Nat}(h:k<l.length)(d:α):ix l (k:Int) d=l[k]:=by
 simp[ix,List.getD,qB h]
theorem zku {α:Type}{l:List α}{i:Int}(h:hasB i (ln l)=true)(d:α):ix l i d∈l:=by
 obtain ⟨k,hk,_,e⟩:=zxB h d;rw[e];exact jG hk
theorem zA6 {α:Type}{l:List α}{x:α}(h:x∈l)(d:α):∃i,hasB i (ln l)=true/\ix l i d=x:=by
 obtain ⟨k,hk,e⟩:=List.mem_iff_getElem.1 h;exact ⟨(k:Int),zq.2 (by unfold ln;omega),(zli hk d).trans e⟩
theorem zV {α:Type}{l:List α}{i:Int}(h:hasB i (ln l)=true)(x d:α):ix (up l i x) i d=x:=by
 rw[zq]at h;unfold ln at h;simp[ix,up,List.getD,show i.toNat<l.length by omega]
theorem zbj {α:Type}{l:List α}{i j:Int}(hi:0<=i)(hj:0<=j)(h:i≠j)(x d:α):ix (up l i x) j d=ix l j d:=by
 have:i.toNat≠j.toNat:=by omega
 simp[ix,up,List.getD,jD,this]
theorem z0p {α:Type}(l:List α)(i:Int)(x y:α):up (up l i x) i y=up l i y:=by simp[up]
theorem zrX {α:Type}{l m:List α}(d:α)(h:l.length=m.length)(e:∀i,hasB i (ln l)=true->ix l i d=ix m i d):l=m:=by
 refine List.ext_getElem h fun k h1 h2=>?_;have:=e (k:Int) (zq.2 (by unfold ln;omega))
 rwa [zli h1,zli h2] at this
theorem zmr {α:Type}{l:List α}{i:Int}(h:hasB i (ln l)=true)(d:α):up l i (ix l i d)=l:=by
 obtain ⟨k,hk,rfl,e⟩:=zxB h d;rw[e];simp[up]
def cPg (x:Mon)(q:Int):Nat:=x.Outer.countP fun s=>ieq s.Page q
def zey (l:List Mon)(q:Int):Nat:=(l.map fun x=>cPg x q).sum
theorem zNF {α:Type}(P:α->Bool){l:List α}{i:Int}(h:hasB i (ln l)=true)(x d:α):(up l i x).countP P+(if P (ix l i d) then 1 else 0)=l.countP P+(if P x then 1 else 0):=by
 obtain ⟨k,hk,rfl,e⟩:=zxB h d;rw[e];simp only[up,kW,List.countP_set hk];have:(if P l[k]=true then 1 else 0)<=l.countP P:=by
  split
  .rename_i hp;exact List.countP_pos_iff.2 ⟨l[k],jG hk,hp⟩
  .omega
 omega
theorem zwS {l:List Mon}{m:Int}(h:hasB m (ln l)=true)(x:Mon)(q:Int):zey (up l m x) q+cPg (ix l m mZ) q=zey l q+cPg x q:=by
 obtain ⟨k,hk,rfl,e⟩:=zxB h mZ;rw[e]
 clear h e
 unfold up;simp only[kW]
 induction l generalizing k with
 | nil=>simp at hk
 | cons y l ih =>
  cases k with
  | zero=>simp[zey];omega
  | succ k =>
   have:=ih k (by simpa using hk)
   simp[zey] at this ⊢;omega
theorem zFo {l:List Mon}{m p:Int}(hm:hasB m (ln l)=true)(hp:hasB p (ln (ix l m mZ).Outer)=true):1<=zey l (ix (ix l m mZ).Outer p sZ).Page:=by
 have h1:1<=cPg (ix l m mZ) (ix (ix l m mZ).Outer p sZ).Page:=List.countP_pos_iff.2 ⟨_,zku hp sZ,by simp[ieq]⟩
 have:=zwS hm (⟨[],[],[],[],[],0,0,[],0⟩:Mon) (ix (ix l m mZ).Outer p sZ).Page;have e0:cPg (⟨[],[],[],[],[],0,0,[],0⟩:Mon) (ix (ix l m mZ).Outer p sZ).Page=0:=rfl;omega
theorem z0A {l:List Mon}{m p n k:Int}{q:Int}(hm:hasB m (ln l)=true)(hp:hasB p (ln (ix l m mZ).Outer)=true)(hn:hasB n (ln l)=true)(hk:hasB k (ln (ix l n mZ).Outer)=true)(e1:(ix (ix l m mZ).Outer p sZ).Page=q)(e2:(ix (ix l n mZ).Outer k sZ).Page=q)(h:zey l q<=1):m=n/\p=k:=by
 have hm':=zq.1 hm;have hn':=zq.1 hn;have hp':=zq.1 hp;have hk':=zq.1 hk;have hne:¬ ieq q (q+1)=true:=by simp[ieq];omega
 obtain ⟨y,hy⟩:∃y:Mon,y.Outer=up (ix l m mZ).Outer p ⟨q+1,0⟩:=⟨{ ix l m mZ with Outer:=up (ix l m mZ).Outer p ⟨q+1,0⟩ },rfl⟩;have c1:=zNF (fun s=>ieq s.Page q) hp (⟨q+1,0⟩:Slot) sZ;simp only[e1,show ieq q q=true by simp[ieq],show ieq (q+1) q=false by simp[ieq];omega,if_true,kC,if_false] at c1
 have s1:=zwS hm y q;simp only[cPg,hy] at s1;have hz:zey (up l m y) q=0:=by omega
 apply Classical.byContradiction;intro hc;have hpos:1<=zey (up l m y) q:=by
  by_cases hmn:m=n
  .subst hmn;have hpk:p≠k:=fun e=>hc ⟨rfl,e⟩;have:=zFo (l:=up l m y) (m:=m) (p:=k) (by rw[zdc];exact hm) (by rw[zV hm,hy,zdc];exact hk)
   rw[zV hm,hy,zbj hp'.1 hk'.1 hpk,e2] at this;exact this
  .have:=zFo (l:=up l m y) (m:=n) (p:=k) (by rw[zdc];exact hn) (by rw[zbj hm'.1 hn'.1 hmn];exact hk)
   rw[zbj hm'.1 hn'.1 hmn,e2] at this;exact this
 omega
theorem zr6 {a b c:Bool}:(cond a b c)=true↔(a=true/\b=true)\/(a=false/\c=true):=by cases a<;>simp
def SOk (s:Slot):Prop:=s=noSlot\/(0<=s.Page/\s.Page<=11/\1<=s.Rights/\s.Rights<=3)
theorem zGW {a b:Slot}(h1:a.Page=b.Page)(h2:a.Rights=b.Rights):a=b:=by
 cases a;cases b;simp_all
theorem zkY {a b:Slot}:zcq a b=true↔a=b:=by
 simp only[zcq,qD,zbi];exact ⟨fun h=>zGW h.1 h.2,fun h=>by rw[h];exact ⟨rfl,rfl⟩⟩
theorem zmJ {a b:Slot}:zcq a b=false↔a≠b:=by
 rw[<- Bool.not_eq_true,zkY]
theorem zVW {s:Slot}:zde s 12=true↔SOk s:=by
 unfold zde SOk;rw[zr6,zkY,zmJ];have:wsub .i64 12 1=11:=by decide
 simp only[this,zr6,zcm];simp[igt];constructor
 .rintro (h|⟨h,⟨h1,h2⟩,h3⟩)
  .exact .inl h
  .exact .inr ⟨h1,h2,h3⟩
 .intro h
  by_cases hs:s=noSlot
  .exact .inl hs
  .rcases h with h|⟨h1,h2,h3⟩
   .exact .inl h
   .exact .inr ⟨hs,⟨h1,h2⟩,h3⟩
theorem SOk.none {s:Slot}(h:SOk s)(hp:s.Page = -1):s=noSlot:=by
 rcases h with h|h
 .exact h
 .omega
theorem SOk.pos {s:Slot}(h:SOk s)(hp:s.Page≠-1):0<=s.Page/\s.Page<=11/\1<=s.Rights/\s.Rights<=3:=by
 rcases h with h|h
 .rw [h]at hp;exact absurd rfl hp
 .exact h
structure MOk (x:Mon):Prop where
 g1:1<=x.Guests.length
 g2:x.Guests.length<=2
 gt:x.Tables.length=x.Guests.length
 o8:x.Outer.length=8
 sl:∀s∈x.Outer,SOk s
 u8:x.Out.length=8
 d8:x.Dirty.length=8
 outs:x.Outs.length<=40
 pend:zcJ x.Pending=true
 tr:win x.Traps 0 3=true
 own:win x.Own 0 1000000000=true
 gs:∀g∈x.Guests,zcT g=true
 fit:∀p,hasB p 8=true->zkB (ix x.Outer p sZ) (ix x.Out p [])=true
theorem zQB {P:Nat->Bool}:∀{n i:Nat},zmU P n i=true↔∀j,i<=j->j<i+n->P j=true
 | 0,i=>by simp[zmU];intro j h1 h2;omega
 | n+1,i=>by
  rw[zmU,qD,zQB];constructor
  .rintro ⟨h1,h2⟩ j hj1 hj2
   by_cases e:j=i
   .rw [e];exact h1
   .exact h2 j (by omega) (by omega)
  .intro h;exact ⟨h i (by omega) (by omega),fun j h1 h2=>h j (by omega) (by omega)⟩
theorem zpT {t:List Slot}{n p:Int}:zcw t n p=true↔(∀s∈t,zde s p=true)/\ln t=n:=by
 unfold zcw;rw[zbW,qM,zbi]
theorem z4X {x:Mon}:zdD x=true↔MOk x:=by
 unfold zdD;simp only[zbW,zcm,zbi,zpT,zQB,qM,ile,qV];constructor
 .rintro ⟨⟨h1,h2⟩,h3,⟨h4,h5⟩,h6,h7,h8,h9,h10,h11,h12,h13⟩
  unfold ln at *;refine ⟨by omega,by omega,by omega,by omega,fun s hs=>zVW.1 (h4 s hs),by omega,by omega,by omega,h9,zcm.2 h10,zcm.2 h11,h12,fun p hp=>?_⟩
  have hp':=zq.1 hp;have:=h13 p.toNat (by omega) (by omega)
  unfold fits at this
  rwa [show ((p.toNat:Nat):Int)=p by omega] at this
 .intro h;obtain ⟨h1,h2,h3,h4,h5,h6,h7,h8,h9,h10,h11,h12,h13⟩:=h;unfold ln;exact ⟨⟨by omega,by omega⟩,by omega,⟨fun s hs=>zVW.2 (h5 s hs),by omega⟩,by omega,by omega,by omega,h9,zcm.1 h10,zcm.1 h11,h12,fun j h1 h2=>h13 (j:Int) (zq.2 (by omega))⟩
theorem zw2 (o:List Slot)(s:Slot)(q:Int):(s :: o).countP (fun s=>ieq s.Page q)=o.countP (fun s=>ieq s.Page q)+if s.Page=q then 1 else 0:=by
 rw[kX];simp[ieq]
theorem zyb:∀{o:List Slot} {u:List Bool},(∀s∈o,s.Page<u.length) ->
 (∀u',zfW o u=some u'↔(∀q,0<=q->o.countP (fun s=>ieq s.Page q)+(if ix u q false then 1 else 0)<=1) /\
  u'=(o.foldl (fun u s=>bif ilt s.Page 0 then u else up u s.Page true) u))
 | [],u,h,u'=>by
  simp[zfW];exact ⟨fun h=>⟨fun q _=>by split<;>omega,h.symm⟩,fun h=>h.2.symm⟩
 | s :: o,u,h,u'=>by
  unfold zfW
  by_cases hs:s.Page<0
  .have hl:ilt s.Page 0=true:=qK hs;rw[hl,cond_true,zyb (fun y hy=>h y (qY _ hy))];simp only[uJ,hl,cond_true];refine and_congr (forall_congr' fun q=>forall_congr' fun hq=>?_) Iff.rfl;have e:(if s.Page=q then 1 else 0)=0:=if_neg (by omega)
   rw[zw2,e,kG]
  .have hl:ilt s.Page 0=false:=qJ hs;have hlt:=h s jJ;have hb:hasB s.Page (ln u)=true:=zq.2 ⟨by omega,by unfold ln;omega⟩
   rw[hl,cond_false];cases hu:ix u s.Page false with
   | true =>
    rw[cond_true];constructor
    .intro h;cases h
    .rintro ⟨h,_⟩
     have:=h s.Page (by omega)
     rw[zw2,if_pos rfl,hu] at this;simp at this
   | false =>
    rw[cond_false,zyb (fun y hy=>by rw[zbz];exact h y (qY _ hy))]
    simp only[uJ,hl,cond_false];refine and_congr (forall_congr' fun q=>forall_congr' fun hq=>?_) Iff.rfl;rw[zw2]
    by_cases hq2:s.Page=q
    .subst hq2;rw[zV hb,hu];simp
    .rw [zbj (by omega) hq hq2,if_neg hq2,kG]
theorem zG6:∀(o:List Slot) (u:List Bool),(o.foldl (fun u s=>bif ilt s.Page 0 then u else up u s.Page true) u).length=u.length
 | [],u=>rfl
 | s :: o,u=>by
  rw[uJ,zG6];cases ilt s.Page 0<;>simp [zbz]
theorem zNa:∀(o:List Slot) (u:List Bool) (q:Int),0<=q->(∀s∈o,s.Page<u.length)->(ix (o.foldl (fun u s=>bif ilt s.Page 0 then u else up u s.Page true) u) q false=true↔ix u q false=true\/1<=o.countP (fun s=>ieq s.Page q))
 | [],u,q,hq,h=>by simp
 | s :: o,u,q,hq,h=>by
  rw[uJ,zNa _ _ q hq (fun y hy=>by have:=h y (qY _ hy);cases ilt s.Page 0<;>simpa [zbz] using this),zw2]
  by_cases hs:s.Page<0
  .rw [show ilt s.Page 0=true from qK hs,cond_true,if_neg (by omega),kG]
  .rw [show ilt s.Page 0=false from qJ hs,cond_false]
   have hlt:=h s jJ;have hb:hasB s.Page (ln u)=true:=zq.2 ⟨by omega,by unfold ln;omega⟩
   by_cases hq2:s.Page=q
   .subst hq2;rw[zV hb];simp
   .rw [zbj (by omega) hq hq2,if_neg hq2,kG]
theorem zxr:∀{l:List Mon} {u:List Bool},u.length=12->(zhL l u=true↔(∀x∈l,MOk x)/\∀q,0<=q->zey l q+(if l≠[]/\ix u q false then 1 else 0)<=1)
 | [],u,hu=>by simp[zhL,zey]
 | x :: l,u,hu=>by
  unfold zhL;rw[zbW,z4X];constructor
  .rintro ⟨h1,h2⟩
   have hp:∀s∈x.Outer,s.Page<u.length:=fun s hs=>by
    rcases h1.sl s hs with h|h
    .rw [h,hu];decide
    .rw [hu];omega
   split at h2
   .rename_i u' hu';obtain ⟨h3,rfl⟩:=(zyb hp u').1 hu';rw[zxr (by rw[zG6,hu])]at h2
    obtain ⟨h4,h5⟩:=h2;refine ⟨by simpa using ⟨h1,h4⟩,fun q hq=>?_⟩
    have h6:=h3 q hq;have h7:=h5 q hq;have h8:=zNa x.Outer u q hq hp;simp only[zey,jB,uG]at h7 ⊢;unfold cPg at h7 ⊢;simp only[ne_eq,reduceCtorEq,not_false_eq_true,true_and]
    by_cases hl:l=[]
    .subst hl;simpa using h6
    .simp only [hl,ne_eq,not_false_eq_true,true_and]at h7
     by_cases hc:ix (x.Outer.foldl (fun u s=>bif ilt s.Page 0 then u else up u s.Page true) u) q false=true
     .rw [if_pos hc]at h7;omega
     .rw [if_neg hc]at h7;have h9:¬ (ix u q false=true\/1<=x.Outer.countP (fun s=>ieq s.Page q)):=fun e=>hc (h8.2 e);rw[not_or]at h9;rw[if_neg h9.1];omega
   .cases h2
  .rintro ⟨h1,h2⟩
   have hx:MOk x:=h1 x jJ;refine ⟨hx,?_⟩;have hp:∀s∈x.Outer,s.Page<u.length:=fun s hs=>by
    rcases hx.sl s hs with h|h
    .rw [h,hu];decide
    .rw [hu];omega
   have hu':=(zyb hp _).2 ⟨fun q hq=>by
    have:=h2 q hq;simp only[zey,jB,uG,ne_eq,reduceCtorEq,not_false_eq_true,true_and] at this;unfold cPg at this;omega,rfl⟩
   rw[hu'];simp only;rw[zxr (by rw[zG6,hu])]
   refine ⟨fun y hy=>h1 y (qY _ hy),fun q hq=>?_⟩;have h3:=h2 q hq;have h8:=zNa x.Outer u q hq hp;simp only[zey,jB,uG,ne_eq,reduceCtorEq,not_false_eq_true,true_and]at h3 ⊢;unfold cPg at h3 ⊢;split
   .rename_i hc;rcases h8.1 hc.2 with h|h
    .rw [if_pos h]at h3;omega
    .omega
   .omega
structure HOk (h:Host):Prop where
 m12:h.Memory.length=12
 pgs:∀c∈h.Memory,zb6 c=true
 n1:1<=h.Mons.length
 n3:h.Mons.length<=3
 b1:zex h.Buffer=true
 b2:zex h.IoBuffer=true
 mons:∀x∈h.Mons,MOk x
 uq:∀q,0<=q->zey h.Mons q<=1
theorem zff {h:Host}:zbJ h=true↔HOk h:=by
 unfold zbJ zgL;simp only[zbW,zcm,zbi,qM];rw[zxr (by simp[rp])]
 have h0:∀q,ix (rp 12 false) q false=false:=fun q=>by
  unfold ix rp;rw[j9,kD];split<;>rfl
 simp only[h0,kC,and_false,if_false,kG];unfold ln;constructor
 .rintro ⟨⟨h1,h2⟩,⟨h3,h4⟩,h5,h6,h7,h8⟩
  exact ⟨by omega,h1,by omega,by omega,h5,h6,h7,h8⟩
 .rintro ⟨h1,h2,h3,h4,h5,h6,h7,h8⟩
  exact ⟨⟨h2,by omega⟩,⟨by omega,by omega⟩,h5,h6,h7,h8⟩
theorem HOk.mon {h:Host}(H:HOk h){m:Int}(hm:hasB m (ln h.Mons)=true):MOk (ix h.Mons m mZ):=H.mons _ (zku hm _)
theorem MOk.hasO {x:Mon}(H:MOk x){p:Int}(hp:hasB p 8=true):hasB p (ln x.Outer)=true:=by rw[ln,H.o8];exact hp
theorem MOk.hasU {x:Mon}(H:MOk x){p:Int}(hp:hasB p 8=true):hasB p (ln x.Out)=true:=by rw[ln,H.u8];exact hp
theorem MOk.hasD {x:Mon}(H:MOk x){p:Int}(hp:hasB p 8=true):hasB p (ln x.Dirty)=true:=by rw[ln,H.d8];exact hp
theorem MOk.slot {x:Mon}(H:MOk x){p:Int}(hp:hasB p 8=true):SOk (ix x.Outer p sZ):=H.sl _ (zku (H.hasO hp) _)
theorem HOk.uniq {h:Host}(H:HOk h){m p n k q:Int}(hm:hasB m (ln h.Mons)=true)(hp:hasB p 8=true)(hn:hasB n (ln h.Mons)=true)(hk:hasB k 8=true)(e1:(ix (ix h.Mons m mZ).Outer p sZ).Page=q)(e2:(ix (ix h.Mons n mZ).Outer k sZ).Page=q)(hq:0<=q):m=n/\p=k :=
 z0A hm ((H.mon hm).hasO hp) hn ((H.mon hn).hasO hk) e1 e2 (H.uq q hq)
theorem HOk.up {h:Host}(H:HOk h){m:Int}(hm:hasB m (ln h.Mons)=true){x:Mon}(hx:MOk x){h':Host}(e:h'.Mons=up h.Mons m x)(m12:h'.Memory.length=12)(pgs:∀c∈h'.Memory,zb6 c=true)(b1:zex h'.Buffer=true)(b2:zex h'.IoBuffer=true)(uq:∀q,0<=q->cPg x q<=cPg (ix h.Mons m mZ) q\/zey h.Mons q=0/\cPg x q<=1):HOk h':=by
 refine ⟨m12,pgs,by rw[e,zbz];exact H.n1,by rw[e,zbz];exact H.n3,b1,b2,fun y hy=>?_,fun q hq=>?_⟩
 .rw [e]at hy;unfold E.up at hy;rcases qZ hy with h|h
  .exact H.mons y h
  .rw [h];exact hx
 .rw [e];have h1:=zwS hm x q;have h2:=H.uq q hq;have h3:=uq q hq;omega
structure KOk (k:Kept) (inner outer:List Slot):Prop where
 l1:k.Known.length=inner.length
 l2:k.Slots.length=inner.length
 at':∀i,hasB i (ln inner)=true->ix k.Slots i sZ=bif ix k.Known i false then zbn (ix inner i sZ) outer else noSlot
def TOk (x:Mon):Prop:=∀g,hasB g (ln x.Guests)=true->KOk (ix x.Tables g kZ) (ix x.Guests g gZ).Live x.Outer
structure Rt (h:Host):Prop where
 t:∀m,hasB m (ln h.Mons)=true->TOk (ix h.Mons m mZ)
 e1:∀e∈h.Buffer,zcA h e=true
 e2:∀e∈h.IoBuffer,zcA h e=true
structure Safe (h:Host):Prop where
 ok:HOk h
 rt:Rt h
theorem zpY {a b:Slot}:below' a b=true↔a=noSlot\/(a.Page=b.Page/\enough b.Rights a.Rights=true):=by
 unfold below';rw[zr6,zkY,zmJ,zbW,zbi]
 by_cases h:a=noSlot<;>simp [h]
theorem z0q (x:Int):wand .i64 0 x=0:=by
 unfold wand;have:(BitVec.ofInt 64 0 &&& BitVec.ofInt 64 x)=0#64:=by
  rw[show BitVec.ofInt 64 0=0#64 from rfl,BitVec.zero_and]
 show IntKind.wrap .i64 ((BitVec.ofInt 64 0 &&& BitVec.ofInt 64 x).toNat:Int)=0
 rw[this];rfl
theorem z0z {a:Slot}(h:below' a noSlot=true):a=noSlot:=by
 rcases zpY.1 h with h|⟨h1,h2⟩
 .exact h
 .refine zGW h1 ?_;unfold enough at h2;rw[show noSlot.Rights=0 from rfl,z0q]at h2
  simp only[zbW,zbi]at h2;exact h2.2.2.symm
theorem ze5 {h:Host}{e:Entry}:zcA h e=true↔hasB (zc2 e.Tag) (ln h.Mons)=true/\hasB (zdK e.Tag) (ln (ix h.Mons (zc2 e.Tag) mZ).Guests)=true /\
 below' ⟨e.Host,e.Rights⟩ (zbn (zbm (ix (ix h.Mons (zc2 e.Tag) mZ).Guests (zdK e.Tag) gZ).Live e.Page) (ix h.Mons (zc2 e.Tag) mZ).Outer)=true:=by
 unfold zcA;rw[zbW,zbW]
theorem zOw {o:List Slot}{p q:Int}{s:Slot}(hp:0<=p)(h:q≠p):zbm (up o p s) q=zbm o q:=by
 unfold zbm;rw[zdc];cases hq:hasB q (ln o) with
 | false=>rfl
 | true=>rw[cond_true,cond_true,zbj hp (zq.1 hq).1 (Ne.symm h)]
theorem zH6 {s:Slot}{o:List Slot}{p:Int}{t:Slot}(hp:0<=p)(h:s.Page≠p):zbn s (up o p t)=zbn s o:=by
 unfold zbn;rw[zOw hp h]
theorem zWw {s:Slot}{o:List Slot}:zbn s o=noSlot\/(zbn s o).Page=(zbm o s.Page).Page:=by
 unfold zbn;cases ieq s.Page (-1)<;>cases ieq (zbm o s.Page).Page (-1)<;>cases ieq (zdx s.Rights (zbm o s.Page).Rights) 0<;>simp
theorem zjE (k:Kept)(q:Int):(zbG k q).Known.length=k.Known.length/\(zbG k q).Slots.length=k.Slots.length:=by
 unfold zbG;cases zdb k q<;>simp [zbz]
theorem zqC:∀(l:List Int) (k:Kept),(zd0 k l).Known.length=k.Known.length/\(zd0 k l).Slots.length=k.Slots.length
 | [],k=>⟨rfl,rfl⟩
 | q :: l,k=>by
  have h1:=zqC l (zbG k q);have h2:=zjE k q;exact ⟨h1.1.trans h2.1,h1.2.trans h2.2⟩
theorem zuY {k:Kept}{q i:Int}(hl:k.Known.length=k.Slots.length)(hi:hasB i (ln k.Known)=true) :
 ix (zbG k q).Known i false=(cond (ieq q i) false (ix k.Known i false))/\ix (zbG k q).Slots i sZ=(cond (ieq q i) noSlot (ix k.Slots i sZ)):=by
 have hi':hasB i (ln k.Slots)=true:=by unfold ln at hi ⊢;rwa [<- hl]
 unfold zbG zdb
 by_cases e:q=i
 .subst e;simp only[hi,hi',cond_true,ieq,beq_self_eq_true];exact ⟨zV hi _ _,zV hi' _ _⟩
 .rw [show ieq q i=false from zbH.2 e]
  by_cases hq:hasB q (ln k.Known)=true
  .have hq':hasB q (ln k.Slots)=true:=by unfold ln at hq ⊢;rwa [<- hl]
   simp only[hq,hq',cond_true,cond_false];exact ⟨zbj (zq.1 hq).1 (zq.1 hi).1 e _ _,zbj (zq.1 hq).1 (zq.1 hi).1 e _ _⟩
  .rw [Bool.not_eq_true]at hq;simp[hq]
theorem zjD:∀(l:List Int) {k:Kept} {i:Int},k.Known.length=k.Slots.length->hasB i (ln k.Known)=true ->
 (i∈l->ix (zd0 k l).Known i false=false/\ix (zd0 k l).Slots i sZ=noSlot) /\
 (i∉l->ix (zd0 k l).Known i false=ix k.Known i false/\ix (zd0 k l).Slots i sZ=ix k.Slots i sZ)
 | [],k,i,hl,hi=>⟨fun h=>by simp at h,fun _=>⟨rfl,rfl⟩⟩
 | q :: l,k,i,hl,hi=>by
  have h2:=zjE k q;have h3:=zuY (q:=q) hl hi;have ih:=zjD l (k:=zbG k q) (i:=i) (by rw[h2.1,h2.2,hl]) (by unfold ln at hi ⊢;rwa [h2.1])
  show (_->ix (zd0 (zbG k q) l).Known i false=_/\ix (zd0 (zbG k q) l).Slots i sZ=_)/\(_->ix (zd0 (zbG k q) l).Known i false=_/\ix (zd0 (zbG k q) l).Slots i sZ=_)
  by_cases hm:i∈l
  .refine ⟨fun _=>ih.1 hm,fun h=>absurd (qY _ hm) h⟩
  .rw [(ih.2 hm).1,(ih.2 hm).2,h3.1,h3.2]
   by_cases e:q=i
   .subst e;simp[ieq]
   .rw [zbH.2 e];simp[hm,Ne.symm e]
theorem zGq {α:Type}{P:α->Bool}{d:α}:∀{l:List α} {n:Nat} {i:Int},i∈idxs P l n↔∃k:Nat,∃h:k<l.length,i=((n+k:Nat):Int)/\P l[k]=true
 | [],n,i=>by simp[idxs]
 | x :: l,n,i=>by
  have ih:=@zGq α P d l (n+1) i;unfold idxs;constructor
  .intro h;cases hx:P x with
   | true =>
    rw[hx,cond_true,qH]at h;rcases h with h|h
    .exact ⟨0,by simp,by simpa using h,hx⟩
    .obtain ⟨k,h1,h2,h3⟩:=ih.1 h;exact ⟨k+1,by simpa using h1,by rw[h2];congr 1;omega,by simpa using h3⟩
   | false =>
    rw[hx,cond_false]at h;obtain ⟨k,h1,h2,h3⟩:=ih.1 h;exact ⟨k+1,by simpa using h1,by rw[h2];congr 1;omega,by simpa using h3⟩
  .rintro ⟨k,h1,h2,h3⟩
   cases k with
   | zero =>
    simp only[List.getElem_cons_zero]at h3;rw[h3,cond_true,h2];exact jJ
   | succ k =>
    have:=ih.2 ⟨k,by simpa using h1,by rw[h2];congr 1;omega,by simpa using h3⟩
    cases P x
    .exact this
    .exact qY _ this
theorem zke {l:List Slot}{p i:Int}:i∈zn3 l p↔hasB i (ln l)=true/\(ix l i sZ).Page=p:=by
 unfold zn3;rw[zGq (d:=sZ)];constructor
 .rintro ⟨k,h1,rfl,h3⟩
  rw[jZ,zli h1];exact ⟨zq.2 (by unfold ln;omega),zbi.1 h3⟩
 .rintro ⟨h1,h2⟩
  obtain ⟨k,hk,rfl,e⟩:=zxB h1 sZ;exact ⟨k,hk,by simp,by rw[e]at h2;exact zbi.2 h2⟩
theorem zXa {k:Kept}{inner outer:List Slot}(h:KOk k inner outer){p:Int}(hp:0<=p)(s:Slot):KOk (zdP k inner p) inner (up outer p s):=by
 have hl:=zqC (zn3 inner p) k;refine ⟨hl.1.trans h.l1,hl.2.trans h.l2,fun i hi=>?_⟩;have hi':hasB i (ln k.Known)=true:=by unfold ln at hi ⊢;rwa [h.l1]
 have ha:=zjD (zn3 inner p) (by rw[h.l1,h.l2]) hi'
 unfold zdP
 by_cases hc:(ix inner i sZ).Page=p
 .have:=ha.1 (zke.2 ⟨hi,hc⟩);rw[this.1,this.2];rfl
 .have:=ha.2 (fun h=>hc (zke.1 h).2);rw[this.1,this.2,h.at' i hi,zH6 hp hc]
theorem zqs (gs:List Guest)(p:Int):∀(n:Nat) (ts:List Kept),(zgO gs p n ts).length=ts.length
 | 0,ts=>rfl
 | n+1,ts=>by rw[zgO,zbz,zqs gs p n]
theorem zwT (gs:List Guest)(p:Int):∀(n:Nat) (ts:List Kept),n<=ts.length->∀i,0<=i->ix (zgO gs p n ts) i kZ=if i<n then zdP (ix ts i kZ) (ix gs i gZ).Live p else ix ts i kZ
 | 0,ts,_,i,hi=>by rw[if_neg (by omega)];rfl
 | n+1,ts,hn,i,hi=>by
  rw[zgO]
  by_cases e:i=n
  .subst e;rw[zV (by rw[ln,zqs];exact zq.2 (by omega)),if_pos (by omega),zwT gs p n ts (by omega) _ hi,if_neg (by omega)]
  .rw [zbj (by omega) hi (Ne.symm e),zwT gs p n ts (by omega) i hi]
   by_cases h:i<n
   .rw [if_pos h,if_pos (by omega)]
   .rw [if_neg h,if_neg (by omega)]
def zgM (x:Mon)(p:Int)(s:Slot):Mon:={ zgI x p x.Tables.length with Outer:=up x.Outer p s }
theorem z0a {x:Mon}(h:TOk x)(ht:x.Tables.length=x.Guests.length){p:Int}(hp:0<=p)(s:Slot):TOk (zgM x p s):=by
 intro g hg;have hg':hasB g (ln x.Guests)=true:=hg
 show KOk (ix (zgO x.Guests p x.Tables.length x.Tables) g kZ) (ix x.Guests g gZ).Live (up x.Outer p s)
 rw[zwT _ _ _ _ (qW _) _ (zq.1 hg').1,if_pos (by have:=zq.1 hg';unfold ln at this;omega)]
 exact zXa (h g hg') hp s
theorem ziW (h:Host)(m p:Int)(s:Slot):(zbL h m p s).Mons=up h.Mons m (zgM (ix h.Mons m mZ) p s):=by
 unfold zbL;cases ine (ix (ix h.Mons m zf).Outer p zJ).Page (-1)<;>rfl
theorem zpR (h:Host)(m p:Int)(s:Slot):(zbL h m p s).Memory=h.Memory:=by
 unfold zbL;cases ine (ix (ix h.Mons m zf).Outer p zJ).Page (-1)<;>rfl
theorem zuN (h:Host)(m p:Int)(s:Slot):(zbL h m p s).Buffer=(cond (ieq (ix (ix h.Mons m mZ).Outer p sZ).Page (-1)) h.Buffer (flushed h.Buffer (ix (ix h.Mons m mZ).Outer p sZ).Page)) /\
 (zbL h m p s).IoBuffer=(cond (ieq (ix (ix h.Mons m mZ).Outer p sZ).Page (-1)) h.IoBuffer (flushed h.IoBuffer (ix (ix h.Mons m mZ).Outer p sZ).Page)):=by
 unfold zbL
 by_cases e:(ix (ix h.Mons m zf).Outer p zJ).Page = -1
 .rw [show ine (ix (ix h.Mons m zf).Outer p zJ).Page (-1)=false by simp[ine,e],show ieq (ix (ix h.Mons m mZ).Outer p sZ).Page (-1)=true from zbi.2 e]
  exact ⟨rfl,rfl⟩
 .rw [show ine (ix (ix h.Mons m zf).Outer p zJ).Page (-1)=true from zvZ.2 e,show ieq (ix (ix h.Mons m mZ).Outer p sZ).Page (-1)=false from zbH.2 e]
  exact ⟨rfl,rfl⟩
theorem zIe {h h':Host}{m p:Int}{s:Slot}(hm:hasB m (ln h.Mons)=true)(hp:hasB p (ln (ix h.Mons m mZ).Outer)=true){x:Mon}(hM:h'.Mons=up h.Mons m x)(hG:x.Guests=(ix h.Mons m mZ).Guests)(hO:x.Outer=up (ix h.Mons m mZ).Outer p s){e:Entry}(he:zcA h e=true)(hn:(ix (ix h.Mons m mZ).Outer p sZ).Page = -1\/e.Host≠(ix (ix h.Mons m mZ).Outer p sZ).Page):zcA h' e=true:=by
 obtain ⟨h1,h2,h3⟩:=ze5.1 he;rw[ze5,hM,zdc];refine ⟨h1,?_⟩
 by_cases hc:m=zc2 e.Tag
 .rw [<- hc]at h1 h2 h3 ⊢;rw[zV hm,hG,hO];refine ⟨h2,?_⟩
  by_cases hq:(zbm (ix (ix h.Mons m mZ).Guests (zdK e.Tag) gZ).Live e.Page).Page=p
  .have key:zbn (zbm (ix (ix h.Mons m mZ).Guests (zdK e.Tag) gZ).Live e.Page) (ix h.Mons m mZ).Outer=noSlot\/e.Host≠(zbn (zbm (ix (ix h.Mons m mZ).Guests (zdK e.Tag) gZ).Live e.Page) (ix h.Mons m mZ).Outer).Page:=by
    rcases zWw (s:=zbm (ix (ix h.Mons m mZ).Guests (zdK e.Tag) gZ).Live e.Page) (o:=(ix h.Mons m mZ).Outer) with hz|hz
    .exact .inl hz
    .rw [hq]at hz;have hs:zbm (ix h.Mons m mZ).Outer p=ix (ix h.Mons m mZ).Outer p sZ:=by unfold zbm;rw[hp];rfl
     rw[hs]at hz;rcases hn with hn|hn
     .left
      unfold zbn;rw[hq,hs,hn,show ieq (-1) (-1)=true from rfl]
      cases ieq p (-1)<;>rfl
     .exact .inr (by rw[hz];exact hn)
   have hno:(⟨e.Host,e.Rights⟩:Slot)=noSlot:=by
    rcases key with key|key
    .rw [key]at h3;exact z0z h3
    .rcases zpY.1 h3 with h|h
     .exact h
     .exact absurd h.1 key
   rw[hno];exact zpY.2 (.inl rfl)
  .rw [zH6 (zq.1 hp).1 hq];exact h3
 .rw [zbj (zq.1 hm).1 (zq.1 h1).1 hc];exact ⟨h2,h3⟩
theorem zxO {h:Host}(H:Rt h){m p:Int}(hm:hasB m (ln h.Mons)=true)(hp:hasB p (ln (ix h.Mons m mZ).Outer)=true)(ht:(ix h.Mons m mZ).Tables.length=(ix h.Mons m mZ).Guests.length)(s:Slot):Rt (zbL h m p s):=by
 have hb:=zuN h m p s;have hM:=ziW h m p s;have key:∀(b:List Entry),(∀e∈b,zcA h e=true)->∀e∈(cond (ieq (ix (ix h.Mons m mZ).Outer p sZ).Page (-1)) b (flushed b (ix (ix h.Mons m mZ).Outer p sZ).Page)),zcA (zbL h m p s) e=true:=by
  intro b hb e he
  by_cases ho:(ix (ix h.Mons m mZ).Outer p sZ).Page = -1
  .rw [zbi.2 ho,cond_true]at he;exact zIe hm hp hM rfl rfl (hb e he) (.inl ho)
  .rw [zbH.2 ho,cond_false]at he;obtain ⟨he1,he2⟩:=kT.1 he;exact zIe hm hp hM rfl rfl (hb e he1) (.inr (by simpa [ieq] using he2))
 refine ⟨fun k hk=>?_,fun e he=>key _ H.e1 e (by rwa [hb.1]at he),fun e he=>key _ H.e2 e (by rwa [hb.2]at he)⟩
 rw[hM]at hk ⊢;rw[zdc]at hk
 by_cases hc:m=k
 .subst hc;rw[zV hm];exact z0a (H.t m hm) ht (zq.1 hp).1 s
 .rw [zbj (zq.1 hm).1 (zq.1 hk).1 hc];exact H.t k hk
theorem zNB:∀(l pre:List Entry),allI (alone (pre++l)) l pre.length=true↔(∀x∈l,∀y∈pre,sameKey x y=false)/\l.Pairwise (fun y x=>sameKey x y=false)
 | [],pre=>by simp[allI]
 | x :: l,pre=>by
  have ih:=zNB l (pre++[x]);rw[kE,List.singleton_append,kP,uY] at ih;rw[allI,qD,ih,List.pairwise_cons];have h1:alone (pre++x :: l) pre.length x=true↔∀y∈pre,sameKey x y=false:=by
   unfold alone;rw[kS rfl,qM];simp
  rw[h1];constructor
  .rintro ⟨h2,h3,h4⟩
   refine ⟨fun z hz y hy=>?_,fun z hz=>h3 z hz x (by simp),h4⟩
   rcases qH.1 hz with rfl|hz
   .exact h2 y hy
   .exact h3 z hz y (by simp[hy])
  .rintro ⟨h2,h3,h4⟩
   refine ⟨fun y hy=>h2 x (by simp) y hy,fun z hz y hy=>?_,h4⟩
   rcases jO.1 hy with hy|hy
   .exact h2 z (by simp[hz]) y hy
   .rw [qF.1 hy];exact h3 z hz
theorem zCo {l:List Entry}:zex l=true↔l.Pairwise (fun y x=>sameKey x y=false)/\l.length<=6:=by
 unfold zex;have:=zNB l [];simp only[jQ,List.length_nil] at this;have h0:ile (ln l) 6=true↔l.length<=6:=by
  rw[ile,qV,ln];omega
 rw[zbW,this,h0];simp
theorem zw1 {l:List Entry}(h:zex l=true)(P:Entry->Bool):zex (l.filter P)=true:=by
 rw[zCo]at h ⊢;exact ⟨h.1.sublist List.filter_sublist,jC (k8 _ _) h.2⟩
theorem zEn {l:List Entry}(h:zex l=true)(p:Int):zex (flushed l p)=true:=zw1 h _
theorem zQG {x x':Mon}{p:Int}(hp:hasB p (ln x.Outer)=true){s:Slot}(h:x'.Outer=up x.Outer p s)(q:Int):cPg x' q+(if (ix x.Outer p sZ).Page=q then 1 else 0)=cPg x q+(if s.Page=q then 1 else 0):=by
 have:=zNF (fun s=>ieq s.Page q) hp s sZ;simp only[zbi] at this;unfold cPg;rw[h];exact this
theorem zon {s:Slot}(hs:SOk s){c:List Int}:zkB s c=true↔(s.Page = -1->zb6 c=true)/\(s.Page≠-1->enough s.Rights 1=true/\c=[]):=by
 unfold zkB
 by_cases e:s=noSlot
 .rw [zkY.2 e,cond_true,e];simp[noSlot]
 .rw [zmJ.2 e,cond_false,zbW];have:s.Page≠-1:=fun h=>e (hs.none h);have h0:ile (ln c) 0=true↔c=[]:=by
   rw[ile,qV,ln,<- uS];omega
  rw[h0];exact ⟨fun h=>⟨fun h'=>absurd h' this,fun _=>h⟩,fun h=>h.2 this⟩
structure Chg (x x':Mon) (p:Int) (s:Slot) (c:List Int):Prop where
 o:x'.Outer=up x.Outer p s
 u:x'.Out=up x.Out p c
 g:x'.Guests=x.Guests
 t:x'.Tables.length=x.Tables.length
 d:x'.Dirty.length=x.Dirty.length
 a1:x'.Outs=x.Outs
 a2:x'.Pending=x.Pending
 a3:x'.Traps=x.Traps
 a4:x'.Own=x.Own
theorem MOk.chg {x x':Mon}(H:MOk x){p:Int}(hp:hasB p 8=true){s:Slot}{c:List Int}(k:Chg x x' p s c)(hs:SOk s)(hf:zkB s c=true):MOk x':=by
 refine ⟨by rw[k.g];exact H.g1,by rw[k.g];exact H.g2,by rw[k.t,k.g];exact H.gt,by rw[k.o,zbz];exact H.o8,fun y hy=>?_,by rw[k.u,zbz];exact H.u8,by rw[k.d];exact H.d8,by rw[k.a1];exact H.outs,by rw[k.a2];exact H.pend,by rw[k.a3];exact H.tr,by rw[k.a4];exact H.own,by rw[k.g];exact H.gs,fun q hq=>?_⟩
 .rw [k.o]at hy;rcases qZ hy with h|h
  .exact H.sl y h
  .rw [h];exact hs
 .rw [k.o,k.u]
  by_cases e:p=q
  .subst e;rw[zV (H.hasO hp),zV (H.hasU hp)];exact hf
  .rw [zbj (zq.1 hp).1 (zq.1 hq).1 e,zbj (zq.1 hp).1 (zq.1 hq).1 e];exact H.fit q hq
structure Like (h r:Host):Prop where
 len:r.Mons.length=h.Mons.length
 g:∀i,hasB i (ln h.Mons)=true->(ix r.Mons i mZ).Guests=(ix h.Mons i mZ).Guests
 o:∀i,hasB i (ln h.Mons)=true->(ix r.Mons i mZ).Outs=(ix h.Mons i mZ).Outs
 p:∀i,hasB i (ln h.Mons)=true->(ix r.Mons i mZ).Pending=(ix h.Mons i mZ).Pending
 tr:∀i,hasB i (ln h.Mons)=true->(ix r.Mons i mZ).Traps=(ix h.Mons i mZ).Traps
 ow:∀i,hasB i (ln h.Mons)=true->(ix r.Mons i mZ).Own=(ix h.Mons i mZ).Own
 pg:∀i k,hasB i (ln h.Mons)=true->hasB k 8=true->zbR r i k=zbR h i k
theorem Like.refl (h:Host):Like h h:=⟨rfl,fun _ _=>rfl,fun _ _=>rfl,fun _ _=>rfl,fun _ _=>rfl,fun _ _=>rfl,fun _ _ _ _=>rfl⟩
theorem Like.trans {a b c:Host}(x:Like a b)(y:Like b c):Like a c:=by
 have k:∀i,hasB i (ln a.Mons)=true->hasB i (ln b.Mons)=true:=fun i hi=>by unfold ln at hi ⊢;rwa [x.len]
 exact ⟨y.len.trans x.len,fun i h=>(y.g i (k i h)).trans (x.g i h),fun i h=>(y.o i (k i h)).trans (x.o i h),fun i h=>(y.p i (k i h)).trans (x.p i h),fun i h=>(y.tr i (k i h)).trans (x.tr i h),fun i h=>(y.ow i (k i h)).trans (x.ow i h),fun i q h hq=>(y.pg i q (k i h) hq).trans (x.pg i q h hq)⟩
theorem Like.has {h r:Host}(k:Like h r){i:Int}:hasB i (ln r.Mons)=hasB i (ln h.Mons):=by unfold ln;rw[k.len]
theorem zpn {h r:Host}{m:Int}:∀(n i:Nat),(∀k:Nat,i<=k->k<i+n->zbR r m (k:Int)=zbR h m (k:Int))->zcc r m n i=zcc h m n i
 | 0,i,_=>rfl
 | n+1,i,h=>by
  rw[zcc,zcc,h i (by omega) (by omega),zpn n (i+1) (fun k h1 h2=>h k (by omega) (by omega))]
theorem Like.seen {h r:Host}(k:Like h r)(m:Int):zA r m=zA h m:=by
 unfold zA;rw[k.has];cases hm:hasB m (ln h.Mons) with
 | false=>rfl
 | true =>
  simp only[cond_true];rw[k.g m hm,k.o m hm,k.p m hm,zpn 8 0 (fun j h1 h2=>k.pg m j hm (zq.2 (by omega)))]
theorem zmA {h:Host}{m p:Int}(hm:hasB m (ln h.Mons)=true)(hp:hasB p 8=true)(ho:hasB p (ln (ix h.Mons m mZ).Outer)=true) :
 zbR h m p=bif ieq (ix (ix h.Mons m mZ).Outer p sZ).Page (-1) then zb8 (ix h.Mons m mZ).Out p else zb8 h.Memory (ix (ix h.Mons m mZ).Outer p sZ).Page:=by
 unfold zbR;have:zbm (ix h.Mons m mZ).Outer p=ix (ix h.Mons m mZ).Outer p sZ:=by unfold zbm;rw[ho];rfl
 rw[hm,hp,cond_true,cond_true,this]
 by_cases e:(ix (ix h.Mons m mZ).Outer p sZ).Page = -1
 .rw [zbi.2 e,show ine (ix (ix h.Mons m mZ).Outer p sZ).Page (-1)=false by simp[ine,e]];rfl
 .rw [zbH.2 e,show ine (ix (ix h.Mons m mZ).Outer p sZ).Page (-1)=true from zvZ.2 e];rfl
theorem zjT {m:List (List Int)}{p:Int}(h:hasB p (ln m)=true):zb8 m p=ix m p []:=by unfold zb8;rw[h];rfl
theorem zOj {m:List (List Int)}(h:∀c∈m,zb6 c=true)(p:Int):zb6 (zb8 m p)=true:=by
 unfold zb8;cases hp:hasB p (ln m) with
 | false=>rfl
 | true=>exact h _ (zku hp _)
theorem zuO {h r:Host}(H:HOk h){m p:Int}(hm:hasB m (ln h.Mons)=true)(hp:hasB p 8=true){x:Mon}{s:Slot}{c:List Int}(hM:r.Mons=up h.Mons m x)(k:Chg (ix h.Mons m mZ) x p s c)(hs:SOk s)(hf:zkB s c=true)(m12:r.Memory.length=12)(pgs:∀c∈r.Memory,zb6 c=true)(b1:zex r.Buffer=true)(b2:zex r.IoBuffer=true)(uq:0<=s.Page->s.Page=(ix (ix h.Mons m mZ).Outer p sZ).Page\/zey h.Mons s.Page=0):HOk r:=by
 refine H.up hm ((H.mon hm).chg hp k hs hf) hM m12 pgs b1 b2 fun q hq=>?_;have h1:=zQG ((H.mon hm).hasO hp) k.o q
 by_cases e:s.Page=q
 .have e2:=uq (by omega)
  rw[if_pos e]at h1;rcases e2 with e2|e2
  .rw [if_pos (by omega)]at h1;left;omega
  .right
   rw[e] at e2;refine ⟨e2,?_⟩;have:=zwS hm x q;have h4:cPg (ix h.Mons m mZ) q<=zey h.Mons q:=by
    have:=zwS hm (⟨[],[],[],[],[],0,0,[],0⟩:Mon) q;have e0:cPg (⟨[],[],[],[],[],0,0,[],0⟩:Mon) q=0:=rfl;omega
   omega
 .rw [if_neg e]at h1
  left
  split at h1<;>omega
theorem ztQ {h r:Host}(H:HOk h){m p:Int}(hm:hasB m (ln h.Mons)=true)(hp:hasB p 8=true){x:Mon}{s:Slot}{c:List Int}(hM:r.Mons=up h.Mons m x)(k:Chg (ix h.Mons m mZ) x p s c)(hpg:(cond (ieq s.Page (-1)) c (zb8 r.Memory s.Page))=zbR h m p)(hmem:∀i q,hasB i (ln h.Mons)=true->hasB q 8=true->¬ (i=m/\q=p)->(ix (ix h.Mons i mZ).Outer q sZ).Page≠-1->zb8 r.Memory (ix (ix h.Mons i mZ).Outer q sZ).Page=zb8 h.Memory (ix (ix h.Mons i mZ).Outer q sZ).Page):Like h r:=by
 have hm0:=(zq.1 hm).1;have hp0:=(zq.1 hp).1;have e:∀{α:Type} (F:Mon->α),F x=F (ix h.Mons m mZ)->∀i,hasB i (ln h.Mons)=true->F (ix r.Mons i mZ)=F (ix h.Mons i mZ):=by
  intro α F hF i hi;rw[hM]
  by_cases e:m=i
  .subst e;rw[zV hm];exact hF
  .rw [zbj hm0 (zq.1 hi).1 e]
 refine ⟨by rw[hM,zbz],e Mon.Guests k.g,e Mon.Outs k.a1,e Mon.Pending k.a2,e Mon.Traps k.a3,e Mon.Own k.a4,fun i q hi hq=>?_⟩
 have hi':hasB i (ln r.Mons)=true:=by rw[hM,zdc];exact hi
 have hO:=(H.mon hi).hasO hq;have hO':hasB q (ln (ix r.Mons i mZ).Outer)=true:=by
  rw[hM]
  by_cases e:m=i
  .subst e;rw[zV hm,k.o,zdc];exact hO
  .rw [zbj hm0 (zq.1 hi).1 e];exact hO
 rw[zmA hi' hq hO']
 by_cases e:m=i
 .subst e;rw[hM,zV hm,k.o,k.u]
  by_cases e2:p=q
  .subst e2;rw[zV ((H.mon hm).hasO hp),<- hpg];cases ieq s.Page (-1)
   .rfl
   .rw [cond_true,cond_true,zjT (by rw[zdc];exact (H.mon hm).hasU hp),zV ((H.mon hm).hasU hp)]
  .rw [zbj hp0 (zq.1 hq).1 e2,zmA hm hq hO]
   by_cases e3:(ix (ix h.Mons m mZ).Outer q sZ).Page = -1
   .rw [zbi.2 e3,cond_true,cond_true,zjT (by rw[zdc];exact (H.mon hm).hasU hq),zjT ((H.mon hm).hasU hq),zbj hp0 (zq.1 hq).1 e2]
   .rw [zbH.2 e3,cond_false,cond_false,hmem m q hm hq (fun h=>e2 h.2.symm) e3]
 .rw [hM,zbj hm0 (zq.1 hi).1 e,zmA hi hq hO]
  by_cases e3:(ix (ix h.Mons i mZ).Outer q sZ).Page = -1
  .rw [zbi.2 e3,cond_true,cond_true]
  .rw [zbH.2 e3,cond_false,cond_false,hmem i q hi hq (fun h=>e h.1.symm) e3]
structure Op (h r:Host):Prop where
 ok:HOk r
 like:Like h r
 rt:Rt h->Rt r
theorem Op.refl {h:Host}(H:HOk h):Op h h:=⟨H,Like.refl h,id⟩
theorem Op.trans {a b c:Host}(x:Op a b)(y:Op b c):Op a c:=⟨y.ok,x.like.trans y.like,fun h=>y.rt (x.rt h)⟩
theorem Op.safe {h r:Host}(k:Op h r)(s:Safe h):Safe r:=⟨k.ok,k.rt s.rt⟩
theorem zJY {h r:Host}(H:Rt h){m:Int}(hm:hasB m (ln h.Mons)=true){x:Mon}(hM:r.Mons=up h.Mons m x)(hb1:r.Buffer=h.Buffer)(hb2:r.IoBuffer=h.IoBuffer)(hl:x.Guests.length=(ix h.Mons m mZ).Guests.length)(hv:∀g,hasB g (ln (ix h.Mons m mZ).Guests)=true->(ix x.Guests g gZ).Live=(ix (ix h.Mons m mZ).Guests g gZ).Live)(ht:x.Tables=(ix h.Mons m mZ).Tables)(ho:x.Outer=(ix h.Mons m mZ).Outer):Rt r:=by
 have hm0:=(zq.1 hm).1;have hg:∀g,hasB g (ln x.Guests)=hasB g (ln (ix h.Mons m mZ).Guests):=fun g=>by unfold ln;rw[hl]
 have key:∀e,zcA h e=true->zcA r e=true:=by
  intro e he;obtain ⟨h1,h2,h3⟩:=ze5.1 he;rw[ze5,hM,zdc];refine ⟨h1,?_⟩
  by_cases hc:m=zc2 e.Tag
  .rw [<- hc]at h1 h2 h3 ⊢;rw[zV hm,hg,hv _ h2,ho];exact ⟨h2,h3⟩
  .rw [zbj hm0 (zq.1 h1).1 hc];exact ⟨h2,h3⟩
 refine ⟨fun k hk=>?_,fun e he=>key e (H.e1 e (by rwa [hb1]at he)),fun e he=>key e (H.e2 e (by rwa [hb2]at he))⟩
 rw[hM]at hk ⊢;rw[zdc]at hk
 by_cases hc:m=k
 .subst hc;rw[zV hm];intro g hgg;rw[hg]at hgg;rw[ht,hv g hgg,ho];exact H.t m hm g hgg
 .rw [zbj hm0 (zq.1 hk).1 hc];exact H.t k hk
theorem znZ {h h1:Host}{m p:Int}{s:Slot}{x:Mon}(hm:hasB m (ln h.Mons)=true)(e:h1.Mons=up h.Mons m x):(zbL h1 m p s).Mons=up h.Mons m (zgM x p s):=by
 rw[ziW,e,zV hm,z0p]
theorem zAi {x x1:Mon}{p:Int}{s:Slot}{c:List Int}(ho:x1.Outer=x.Outer)(hu:x1.Out=up x.Out p c)(hg:x1.Guests=x.Guests)(ht:x1.Tables=x.Tables)(hd:x1.Dirty.length=x.Dirty.length)(h1:x1.Outs=x.Outs)(h2:x1.Pending=x.Pending)(h3:x1.Traps=x.Traps)(h4:x1.Own=x.Own):Chg x (zgM x1 p s) p s c :=
 ⟨by show up x1.Outer p s=_;rw[ho],hu,hg,by show (zgO x1.Guests p x1.Tables.length x1.Tables).length=_;rw[zqs,ht],hd,h1,h2,h3,h4⟩
theorem ztf {h:Host}{m p:Int}{s:Slot}(h1:zex h.Buffer=true)(h2:zex h.IoBuffer=true):zex (zbL h m p s).Buffer=true/\zex (zbL h m p s).IoBuffer=true:=by
 have:=zuN h m p s;rw[this.1,this.2];cases ieq (ix (ix h.Mons m mZ).Outer p sZ).Page (-1)
 .exact ⟨zEn h1 _,zEn h2 _⟩
 .exact ⟨h1,h2⟩
theorem z7p {h:Host}(H:HOk h){s:Slot}(hs:SOk s)(hp:s.Page≠-1):hasB s.Page (ln h.Memory)=true:=by
 have:=hs.pos hp;exact zq.2 ⟨this.1,by unfold ln;rw[H.m12];omega⟩
theorem zVQ {h:Host}(H:HOk h){m p:Int}(hm:hasB m (ln h.Mons)=true)(hp:hasB p 8=true)(hn:(ix (ix h.Mons m mZ).Outer p sZ).Page≠-1):Op h (zc0 h m p):=by
 have X:=H.mon hm;have hM:(zc0 h m p).Mons=up h.Mons m (zgM { ix h.Mons m mZ with Out:=up (ix h.Mons m mZ).Out p (zb8 h.Memory (ix (ix h.Mons m mZ).Outer p sZ).Page) } p noSlot):=znZ hm rfl;have k:Chg (ix h.Mons m mZ) (zgM { ix h.Mons m mZ with Out:=up (ix h.Mons m mZ).Out p (zb8 h.Memory (ix (ix h.Mons m mZ).Outer p sZ).Page) } p noSlot) p noSlot (zb8 h.Memory (ix (ix h.Mons m mZ).Outer p sZ).Page):=zAi rfl rfl rfl rfl rfl rfl rfl rfl rfl;have hmem:(zc0 h m p).Memory=h.Memory:=zpR _ _ _ _;have hb:=ztf (h:=zeh h m p) (m:=m) (p:=p) (s:=noSlot) H.b1 H.b2;refine ⟨zuO H hm hp hM k (.inl rfl) ((zon (.inl rfl)).2 ⟨fun _=>zOj H.pgs _,fun h=>absurd rfl h⟩) (by rw[hmem];exact H.m12) (by rw[hmem];exact H.pgs) hb.1 hb.2 (fun h=>absurd h (by decide)),
  ztQ H hm hp hM k ?_ (fun i q _ _ _ _=>by rw[hmem]),fun R=>?_⟩
 .rw [zmA hm hp (X.hasO hp),zbH.2 hn];rfl
 .have R1:Rt (zeh h m p):=zJY (x:={ ix h.Mons m mZ with Out:=up (ix h.Mons m mZ).Out p (zb8 h.Memory (ix (ix h.Mons m mZ).Outer p sZ).Page) }) R hm rfl rfl rfl rfl (fun _ _=>rfl) rfl rfl;have hm1:hasB m (ln (zeh h m p).Mons)=true:=by show hasB m (ln (up h.Mons m _))=true;rw[zdc];exact hm
  have e1:ix (zeh h m p).Mons m mZ={ ix h.Mons m mZ with Out:=up (ix h.Mons m mZ).Out p (zb8 h.Memory (ix (ix h.Mons m mZ).Outer p sZ).Page) }:=zV hm _ _;exact zxO R1 hm1 (by rw[e1];exact X.hasO hp) (by rw[e1];exact X.gt) noSlot
theorem zEt {o:List Slot}{q:Int}:zmZ o q=none↔o.countP (fun s=>ieq s.Page q)=0:=by
 unfold zmZ;rw[List.findIdx?_eq_none_iff,uH];simp
theorem zT4 {o:List Slot}{q:Int}{k:Nat}(h:zmZ o q=some k):∃hk:k<o.length,o[k].Page=q:=by
 unfold zmZ at h;rw[uV]at h;obtain ⟨hk,h1,_⟩:=h;exact ⟨hk,zbi.1 h1⟩
theorem zxI {q:Int}:∀(l:List Mon) (i:Nat),((zg9 q l i).1<0↔zey l q=0)/\(¬ (zg9 q l i).1<0->∃a b:Nat,∃ha:a<l.length,∃hb:b<l[a].Outer.length,zg9 q l i=(((i+a:Nat):Int),(b:Int))/\l[a].Outer[b].Page=q)
 | [],i=>⟨by simp[zg9,zey],fun h=>absurd (show (-1:Int)<0 by decide) h⟩
 | x :: l,i=>by
  have ih:=zxI (q:=q) l (i+1);unfold zg9;split
  .rename_i k hk;obtain ⟨h1,h2⟩:=zT4 hk;refine ⟨⟨fun h=>by simp at h;omega,fun h=>?_⟩,fun _=>⟨0,k,by simp,h1,by simp,h2⟩⟩
   exfalso;simp only[zey,jB,uG]at h;have h3:x.Outer.countP (fun s=>ieq s.Page q)=0:=by unfold cPg at h;omega
   rw[zEt.2 h3]at hk;cases hk
  .rename_i hk;have h3:=zEt.1 hk;refine ⟨?_,fun h=>?_⟩
   .rw [ih.1];simp only[zey,jB,uG];unfold cPg;omega
   .obtain ⟨a,b,ha,hb,e,hp⟩:=ih.2 h;exact ⟨a+1,b,by simpa using ha,by simpa using hb,by rw[e];simp;omega,by simpa using hp⟩
theorem zGJ {h:Host}{q:Int}(hq:0<=q):(zbt h q).1<0↔zey h.Mons q=0:=by
 unfold zbt;rw[show ilt q 0=false from qJ (by omega),cond_false]
 exact (zxI h.Mons 0).1
theorem z1E {h:Host}(H:HOk h){q:Int}(hq:0<=q)(hn:¬ (zbt h q).1<0):hasB (zbt h q).1 (ln h.Mons)=true/\hasB (zbt h q).2 8=true/\(ix (ix h.Mons (zbt h q).1 mZ).Outer (zbt h q).2 sZ).Page=q:=by
 unfold zbt at hn ⊢;rw[show ilt q 0=false from qJ (by omega),cond_false]at hn ⊢
 obtain ⟨a,b,ha,hb,e,hp⟩:=(zxI h.Mons 0).2 hn;rw[e,jZ];have h8:=(H.mons _ (jG ha)).o8;exact ⟨zq.2 (by unfold ln;simp;omega),zq.2 (by simp;omega),by rw[zli ha,zli hb];exact hp⟩
theorem zGo {P:Nat->Bool}:∀{n i:Nat} {q:Int},q∈zot P n i↔∃k:Nat,q=(k:Int)/\i<=k/\k<i+n/\P k=true
 | 0,i,q=>by simp[zot];intro k _ _ _;omega
 | n+1,i,q=>by
  have ih:=@zGo P n (i+1) q;unfold zot;constructor
  .intro h;cases hx:P i with
   | true =>
    rw[hx,cond_true,qH]at h;rcases h with h|h
    .exact ⟨i,h,by omega,by omega,hx⟩
    .obtain ⟨k,h1,h2,h3,h4⟩:=ih.1 h;exact ⟨k,h1,by omega,by omega,h4⟩
   | false =>
    rw[hx,cond_false]at h;obtain ⟨k,h1,h2,h3,h4⟩:=ih.1 h;exact ⟨k,h1,by omega,by omega,h4⟩
  .rintro ⟨k,h1,h2,h3,h4⟩
   by_cases e:k=i
   .subst e;rw[h4,cond_true,h1];exact jJ
   .have:=ih.2 ⟨k,h1,by omega,by omega,h4⟩
    cases P i
    .exact this
    .exact qY _ this
theorem zFE {h:Host}{q:Int}:q∈zb1 h↔hasB q (ln h.Memory)=true/\zey h.Mons q=0:=by
 unfold zb1;rw[zGo];constructor
 .rintro ⟨k,rfl,h1,h2,h3⟩
  exact ⟨zq.2 (by unfold ln;omega),(zGJ (by omega)).1 (qE h3)⟩
 .rintro ⟨h1,h2⟩
  have h1':=zq.1 h1;unfold ln at h1';refine ⟨q.toNat,by omega,by omega,by omega,?_⟩
  rw[show ((q.toNat:Nat):Int)=q by omega]
  exact qK ((zGJ h1'.1).2 h2)
theorem zWZ {h:Host}(hn:zb1 h≠[]):hasB (ix (zb1 h) 0 0) (ln h.Memory)=true/\zey h.Mons (ix (zb1 h) 0 0)=0:=by
 refine zFE.1 (zku (zq.2 ⟨by omega,?_⟩) 0)
 unfold ln;have:=kM.2 hn;omega
structure But (h r:Host) (m p:Int):Prop where
 ne:∀i k,hasB i (ln h.Mons)=true->hasB k 8=true->¬ (i=m/\k=p)->ix (ix r.Mons i mZ).Outer k sZ=ix (ix h.Mons i mZ).Outer k sZ
theorem zFn {h r:Host}{m p:Int}(hm:hasB m (ln h.Mons)=true)(hp:hasB p 8=true){x:Mon}{s:Slot}(hM:r.Mons=up h.Mons m x)(ho:x.Outer=up (ix h.Mons m mZ).Outer p s):But h r m p:=by
 refine ⟨fun i k hi hk hc=>?_⟩;rw[hM]
 by_cases e:m=i
 .subst e;rw[zV hm,ho,zbj (zq.1 hp).1 (zq.1 hk).1 (fun e=>hc ⟨rfl,e.symm⟩)]
 .rw [zbj (zq.1 hm).1 (zq.1 hi).1 e]
theorem zZ4 {h:Host}(H:HOk h){m p:Int}(hm:hasB m (ln h.Mons)=true)(hp:hasB p 8=true):But h (zc0 h m p) m p/\ix (ix (zc0 h m p).Mons m mZ).Outer p sZ=noSlot:=by
 have hM:(zc0 h m p).Mons=up h.Mons m (zgM { ix h.Mons m mZ with Out:=up (ix h.Mons m mZ).Out p (zb8 h.Memory (ix (ix h.Mons m mZ).Outer p sZ).Page) } p noSlot):=znZ hm rfl;refine ⟨zFn hm hp hM rfl,?_⟩;rw[hM,zV hm];exact zV ((H.mon hm).hasO hp) _ _
structure Roomy (h r:Host):Prop where
 op:Op h r
 free:zb1 r≠[]
 sl:∀i k,hasB i (ln h.Mons)=true->hasB k 8=true->ix (ix r.Mons i mZ).Outer k sZ=ix (ix h.Mons i mZ).Outer k sZ\/ix (ix r.Mons i mZ).Outer k sZ=noSlot
 dirt:∀i,(ix r.Mons i mZ).Dirty=(ix h.Mons i mZ).Dirty
theorem zKN {h r:Host}{m:Int}(hm:hasB m (ln h.Mons)=true){x:Mon}(hM:r.Mons=up h.Mons m x)(hd:x.Dirty=(ix h.Mons m mZ).Dirty)(i:Int):(ix r.Mons i mZ).Dirty=(ix h.Mons i mZ).Dirty:=by
 rw[hM]
 by_cases e:i.toNat=m.toNat
 .have:∀l:List Mon,ix l i mZ=ix l m mZ:=fun l=>by unfold ix;rw[e]
  rw[this,this,zV hm,hd]
 .unfold ix up;simp[List.getD,jD,Ne.symm e]
theorem roomy {h:Host}(H:HOk h):Roomy h (zcK h):=by
 unfold zcK
 by_cases hf:zb1 h=[]
 .rw [show ieq (ln (zb1 h)) 0=true by rw[hf];rfl,cond_true]
  have hn:¬ (zbt h 0).1<0:=fun hc=>by
   have:(0:Int)∈zb1 h:=zFE.2 ⟨zq.2 (by unfold ln;rw[H.m12];omega),(zGJ (by omega)).1 hc⟩
   rw[hf] at this;cases this
  obtain ⟨h1,h2,h3⟩:=z1E H (by omega) hn
  have k:=zVQ H h1 h2 (by rw[h3];decide)
  have hs:=zZ4 H h1 h2;refine ⟨k,fun hc=>?_,fun i q hi hq=>?_,fun i=>zKN (x:=zgM { ix h.Mons (zbt h 0).1 mZ with Out:=up (ix h.Mons (zbt h 0).1 mZ).Out (zbt h 0).2 (zb8 h.Memory (ix (ix h.Mons (zbt h 0).1 mZ).Outer (zbt h 0).2 sZ).Page) } (zbt h 0).2 noSlot) h1 (znZ h1 rfl) rfl i⟩
  .have:(0:Int)∈zb1 (zc0 h (zbt h 0).1 (zbt h 0).2):=by
    refine zFE.2 ⟨zq.2 (by unfold ln;rw[k.ok.m12];omega),?_⟩
    have hM:(zc0 h (zbt h 0).1 (zbt h 0).2).Mons=up h.Mons (zbt h 0).1 (zgM { ix h.Mons (zbt h 0).1 mZ with Out:=up (ix h.Mons (zbt h 0).1 mZ).Out (zbt h 0).2 (zb8 h.Memory (ix (ix h.Mons (zbt h 0).1 mZ).Outer (zbt h 0).2 sZ).Page) } (zbt h 0).2 noSlot):=znZ h1 rfl;have c1:=zwS h1 (zgM { ix h.Mons (zbt h 0).1 mZ with Out:=up (ix h.Mons (zbt h 0).1 mZ).Out (zbt h 0).2 (zb8 h.Memory (ix (ix h.Mons (zbt h 0).1 mZ).Outer (zbt h 0).2 sZ).Page) } (zbt h 0).2 noSlot) 0;rw[<- hM] at c1;have c2:=zQG (x':=zgM { ix h.Mons (zbt h 0).1 mZ with Out:=up (ix h.Mons (zbt h 0).1 mZ).Out (zbt h 0).2 (zb8 h.Memory (ix (ix h.Mons (zbt h 0).1 mZ).Outer (zbt h 0).2 sZ).Page) } (zbt h 0).2 noSlot) ((H.mon h1).hasO h2) (s:=noSlot) rfl 0;rw[if_pos h3,if_neg (by decide)] at c2
    have c3:=H.uq 0 (by omega)
    omega
   rw[hc] at this;cases this
  .by_cases e:i=(zbt h 0).1/\q=(zbt h 0).2
   .rw [e.1,e.2];exact .inr hs.2
   .exact .inl (hs.1.ne i q hi hq e)
 .have:ieq (ln (zb1 h)) 0=false:=zbH.2 (by unfold ln;have:=kM.2 hf;omega)
  rw[this,cond_false];exact ⟨Op.refl H,hf,fun i k hi hk=>.inl rfl,fun _=>rfl⟩
theorem zVh {m:List (List Int)}{p:Int}{c:List Int}(hp:hasB p (ln m)=true)(hc:zb6 c=true):zgJ m p c=up m p c:=by unfold zgJ;rw[hp,hc];rfl
theorem zA9 {m:List (List Int)}{p q:Int}{c:List Int}(hp:0<=p)(h:q≠p):zb8 (up m p c) q=zb8 m q:=by
 unfold zb8;rw[zdc];cases hq:hasB q (ln m) with
 | false=>rfl
 | true=>rw[cond_true,cond_true,zbj hp (zq.1 hq).1 (Ne.symm h)]
theorem zA8 {m:List (List Int)}{p:Int}{c:List Int}(hp:hasB p (ln m)=true):zb8 (up m p c) p=c:=by rw[zjT (by rw[zdc];exact hp),zV hp]
theorem zXp {h:Host}(H:HOk h){m p to:Int}(hm:hasB m (ln h.Mons)=true)(hp:hasB p 8=true)(hn:(ix (ix h.Mons m mZ).Outer p sZ).Page = -1)(ht:hasB to (ln h.Memory)=true)(hf:zey h.Mons to=0) :
 Op h (zeq h m p to)/\But h (zeq h m p to) m p/\ix (ix (zeq h m p to).Mons m mZ).Outer p sZ=⟨to,3⟩/\∀i,(ix (zeq h m p to).Mons i mZ).Dirty=(ix h.Mons i mZ).Dirty:=by
 have X:=H.mon hm;have ht':=zq.1 ht;unfold ln at ht';rw[H.m12]at ht';have hM:(zeq h m p to).Mons=up h.Mons m (zgM { ix h.Mons m mZ with Out:=up (ix h.Mons m mZ).Out p [] } p ⟨to,3⟩):=znZ hm rfl;have k:Chg (ix h.Mons m mZ) (zgM { ix h.Mons m mZ with Out:=up (ix h.Mons m mZ).Out p [] } p ⟨to,3⟩) p ⟨to,3⟩ []:=zAi rfl rfl rfl rfl rfl rfl rfl rfl rfl;have hfit:=((zon (X.slot hp)).1 (X.fit p hp)).1 hn;have hmem:(zeq h m p to).Memory=up h.Memory to (ix (ix h.Mons m mZ).Out p []):=by
  show (zbL (landing h m p to) m p ⟨to,3⟩).Memory=_
  rw[zpR];exact zVh ht hfit
 have hs:SOk ⟨to,3⟩:=.inr ⟨ht'.1,by show to<=11;omega,by show (1:Int)<=3;omega,by show (3:Int)<=3;omega⟩
 have hb:=ztf (h:=landing h m p to) (m:=m) (p:=p) (s:=⟨to,3⟩) H.b1 H.b2;refine ⟨⟨zuO H hm hp hM k hs ((zon hs).2 ⟨fun h=>absurd h (by show to≠-1;omega),fun _=>⟨show enough 3 1=true by decide,rfl⟩⟩) (by rw[hmem,zbz];exact H.m12) (fun c hc=>?_) hb.1 hb.2 (fun _=>.inr hf),
  ztQ H hm hp hM k ?_ (fun i q hi hq hc hne=>?_),fun R=>?_⟩,zFn hm hp hM rfl,?_,fun i=>zKN (x:=zgM { ix h.Mons m mZ with Out:=up (ix h.Mons m mZ).Out p [] } p ⟨to,3⟩) hm hM rfl i⟩
 .rw [hmem]at hc;rcases qZ hc with h1|h1
  .exact H.pgs c h1
  .rw [h1];exact hfit
 .rw [zmA hm hp (X.hasO hp),zbi.2 hn,cond_true,zjT (X.hasU hp)];rw[show ieq (⟨to,3⟩:Slot).Page (-1)=false from zbH.2 (by show to≠-1;omega),cond_false,hmem]
  exact zA8 ht
 .rw [hmem];refine zA9 ht'.1 (fun e=>?_);have:=zFo hi ((H.mon hi).hasO hq);rw[e] at this;omega
 .have R1:Rt (landing h m p to):=zJY (x:={ ix h.Mons m mZ with Out:=up (ix h.Mons m mZ).Out p [] }) R hm rfl rfl rfl rfl (fun _ _=>rfl) rfl rfl;have hm1:hasB m (ln (landing h m p to).Mons)=true:=by show hasB m (ln (up h.Mons m _))=true;rw[zdc];exact hm
  have e1:ix (landing h m p to).Mons m mZ={ ix h.Mons m mZ with Out:=up (ix h.Mons m mZ).Out p [] }:=zV hm _ _;exact zxO R1 hm1 (by rw[e1];exact X.hasO hp) (by rw[e1];exact X.gt) _
 .rw [hM,zV hm];exact zV (X.hasO hp) _ _
theorem zJO {h:Host}(H:HOk h){m p:Int}(hm:hasB m (ln h.Mons)=true)(hp:hasB p 8=true)(hn:(ix (ix h.Mons m mZ).Outer p sZ).Page = -1) :
 Op h (fetched h m p)/\(∃to,0<=to/\to<=11/\ix (ix (fetched h m p).Mons m mZ).Outer p sZ=⟨to,3⟩)/\∀i,(ix (fetched h m p).Mons i mZ).Dirty=(ix h.Mons i mZ).Dirty:=by
 have R:=roomy H;have hm1:hasB m (ln (zcK h).Mons)=true:=by rw[R.op.like.has];exact hm
 have hn1:(ix (ix (zcK h).Mons m mZ).Outer p sZ).Page = -1:=by
  rcases R.sl m p hm hp with h1|h1<;>rw [h1]
  .exact hn
  .rfl
 obtain ⟨h1,h2⟩:=zWZ R.free;obtain ⟨k1,k2,k3,k4⟩:=zXp R.op.ok hm1 hp hn1 h1 h2;have h1':=zq.1 h1;unfold ln at h1';rw[R.op.ok.m12]at h1';exact ⟨R.op.trans k1,⟨_,h1'.1,by omega,k3⟩,fun i=>(k4 i).trans (R.dirt i)⟩
end
end Go.Proofs.YtdaahiceaagpdaaGreat.E
