/- What is proved here: a part of the proof that the statement of this claim holds (several texts of wip/, laid together). -/
import Derived.Test.YtgjpbkhaaiffkaaGreatU5
import Derived.Maps.OwnOps
import Derived.Maps.Views
namespace Go.Proofs.YtgjpbkhaaiffkaaGreat.E
open Go
set_option linter.constructorNameAsVariable false
set_option linter.unusedVariables false
set_option maxRecDepth 100000
set_option linter.unusedSimpArgs false
set_option linter.unusedSectionVars false
noncomputable section
@[simp] abbrev zuo (h:Host)(m g b a:Int)(c:Bool):Bool:=pc (zdv h)
@[simp] abbrev zul (h:Host)(m g b a:Int)(c:Bool):Host:=(lookOf h (zue h c) m g b a c).1
@[simp] abbrev zum (h:Host)(m g b a:Int)(c:Bool):Int:=(lookOf h (zue h c) m g b a c).2.1
@[simp] abbrev zun (h:Host)(m g b a:Int)(c:Bool):Bool:=(lookOf h (zue h c) m g b a c).2.2
def zD1:Run:=rF6 dH dI dI dI dI dB λb c d e f g=>(zuo b c d e f g,[aH<|zul b c d e f g,aI<|zum b c d e f g,aB<|zun b c d e f g])
abbrev zUX (b:lM)(c:lN)(d:lE)(e:lE)(a:Int)(g:Int)(f:Int):Mon :=
 (ix (zgK (⟨b,c,d,e⟩:Host) a g f).Mons a zh)
def zty (N:Nat)(d:Int)(e:Int)(b:Int)(f:Int)(g:lM)(h:lN)(c:lE)(a:lE):OA:=
 let i:=(⟨e,d,b,f⟩:Entry); (oN (zjJ a i)<|some [aH (⟨g,h,c,ziM a i⟩:Host),aI b,aB true])
def zuZ (N:Nat)(d:lM)(e:lN)(f:lE)(g:lE)(b:Int)(i:Int)(h:Int)(a:Int)(c:Int)(s:(Int×Int×Int×Int×lM×lN×lE×lE×lM×lN×lE×lE×Unit)->OA)(k:Int)(l:lM)(m:lN)(n:lE)(p:lE):OA:=
 let x:=(⟨d,e,f,g⟩:Host);let r:=zgK x b i h;let j:=zUX d e f g b i h;let w:=ix j.Tables a zc7;let u:=(ix j.Guests a zu).Live; (oN (zgY x b i h)<|oN (inb b<|ln r.Mons)<|oN (inb a<|ln j.Tables)<|oN (inb a<|ln j.Guests)<|oN (zvR w u j.Outer c)<|oN (inb a<|ln j.Tables)<|share (up r.Mons b ({j with Tables:=(up j.Tables a<|zvQ w u j.Outer c)}:Mon)) (λq=>let v:=(ix q b zh).Tables;let t:=ix v a zc7; (oN (inb a<|ln v)<|oN (zyn t c)<|s (c,k,(zka t c).Page,(zka t c).Rights,l,m,n,p,r.Memory,q,r.Buffer,r.IoBuffer,()))))
def zp9 (N:Nat)(a:lN)(g:Int)(h:Int)(b:Int)(c:lM)(d:lE)(e:lE)(p:Int)(f:Int)(n:(Int×Int×Int×Int×lM×lN×lE×lE×lM×lN×lE×lE×Unit)->OA)(i:Int)(j:lM)(k:lN)(l:lE)(m:lE):OA:=
 let r:=zuZ N c a d e g p f h b n i j k l m;let s:=ix (ix a g zh).Tables h zc7;let q:=zka s b; (cond (nB<|zp2 s b) r<|cond (ieq q.Page<|-1) r<|oN (zbj q.Rights f)<|cond (nB<|zdi q.Rights f) r<|n (b,i,q.Page,q.Rights,j,k,l,m,c,a,d,e,()))
def ztz (N:Nat)(c:Int)(d:Int)(e:Int)(i:Int)(j:Int)(k:Int)(l:lM)(m:lN)(n:lE)(p:lE)(f:lM)(b:lN)(g:lE)(h:lE):OA:=
 let r:=(ix b c zh).Tables; (oN (inb c<|ln b)<|oN (inb d<|ln r)<|oN (zyn (ix r d zc7) e)<|share (λ(a:(Int×Int×Int×Int×lM×lN×lE×lE×lM×lN×lE×lE×Unit))=>zty N a.1 a.2.1 a.2.2.1 a.2.2.2.1 a.2.2.2.2.2.2.2.2.1 a.2.2.2.2.2.2.2.2.2.1 a.2.2.2.2.2.2.2.2.2.2.1 a.2.2.2.2.2.2.2.2.2.2.2.1) λq=>zp9 N b c d e f g h j i q k l m n p)
def ztA (N:Nat)(d:Int)(e:Int)(b:Int)(f:Int)(g:lM)(h:lN)(a:lE)(c:lE):OA:=
 let i:=(⟨e,d,b,f⟩:Entry); (oN (zjJ a i)<|some [aH (⟨g,h,ziM a i,c⟩:Host),aI b,aB true])
def ztB (N:Nat)(c:Int)(d:Int)(e:Int)(i:Int)(j:Int)(k:Int)(l:lM)(m:lN)(n:lE)(p:lE)(f:lM)(b:lN)(g:lE)(h:lE):OA:=
 let r:=(ix b c zh).Tables; (oN (inb c<|ln b)<|oN (inb d<|ln r)<|oN (zyn (ix r d zc7) e)<|share (λ(a:(Int×Int×Int×Int×lM×lN×lE×lE×lM×lN×lE×lE×Unit))=>ztA N a.1 a.2.1 a.2.2.1 a.2.2.2.1 a.2.2.2.2.2.2.2.2.1 a.2.2.2.2.2.2.2.2.2.1 a.2.2.2.2.2.2.2.2.2.2.1 a.2.2.2.2.2.2.2.2.2.2.2.1) λq=>zp9 N b c d e f g h j i q k l m n p)
def ztC (N:Nat)(f:Int)(g:Int)(c:Int)(e:Int)(r:Bool)(j:Int)(k:lM)(l:lN)(m:lE)(n:lE)(h:lM)(i:lN)(a:lE)(b:lE):OA:=
 let u:=aH (⟨h,i,a,b⟩:Host);let p:=zlv f g;let t:=zhq a p c;let s:=zhq b p c; (cond r (oN (zij f g)<|share (λ(d:(Int×Int×Int×Int×Int×Int×lM×lN×lE×lE×lM×lN×lE×lE×Unit))=>ztz N d.1 d.2.1 d.2.2.1 d.2.2.2.1 d.2.2.2.2.1 d.2.2.2.2.2.1 d.2.2.2.2.2.2.1 d.2.2.2.2.2.2.2.1 d.2.2.2.2.2.2.2.2.1 d.2.2.2.2.2.2.2.2.2.1 d.2.2.2.2.2.2.2.2.2.2.1 d.2.2.2.2.2.2.2.2.2.2.2.1 d.2.2.2.2.2.2.2.2.2.2.2.2.1 d.2.2.2.2.2.2.2.2.2.2.2.2.2.1) λq=>oN (zix b p c)<|cond (zgw b p c) (oN (zbj s.Rights e)<|cond (zdi s.Rights e) (some [u,aI s.Host,aB true])<|q (f,g,c,e,j,p,k,l,m,n,h,i,a,b,()))<|q (f,g,c,e,j,p,k,l,m,n,h,i,a,b,()))<|oN (zij f g)<|share (λ(d:(Int×Int×Int×Int×Int×Int×lM×lN×lE×lE×lM×lN×lE×lE×Unit))=>ztB N d.1 d.2.1 d.2.2.1 d.2.2.2.1 d.2.2.2.2.1 d.2.2.2.2.2.1 d.2.2.2.2.2.2.1 d.2.2.2.2.2.2.2.1 d.2.2.2.2.2.2.2.2.1 d.2.2.2.2.2.2.2.2.2.1 d.2.2.2.2.2.2.2.2.2.2.1 d.2.2.2.2.2.2.2.2.2.2.2.1 d.2.2.2.2.2.2.2.2.2.2.2.2.1 d.2.2.2.2.2.2.2.2.2.2.2.2.2.1) λq=>oN (zix a p c)<|cond (zgw a p c) (oN (zbj t.Rights e)<|cond (zdi t.Rights e) (some [u,aI t.Host,aB true])<|q (f,g,c,e,j,p,k,l,m,n,h,i,a,b,()))<|q (f,g,c,e,j,p,k,l,m,n,h,i,a,b,()))
def ztD (N:Nat)(c:Int)(i:Int)(d:Int)(b:Int)(m:Bool)(n:lM)(p:lN)(j:lE)(k:lE)(e:lM)(a:lN)(f:lE)(g:lE)(l:lG):OA:=
 let s:=ix a c zh;let r:=(ix l i zu).Live;let q:=zeL r d b; (oN (inb i<|ln l)<|oN (zfL r d b)<|cond (nB<|zdZ r d b) (some [aH (⟨e,a,f,g⟩:Host),aI<|-1,aB false])<|share (λ(h:(Int×Int×Int×Int×Bool×Int×lM×lN×lE×lE×lM×lN×lE×lE×Unit))=>ztC N h.1 h.2.1 h.2.2.1 h.2.2.2.1 h.2.2.2.2.1 h.2.2.2.2.2.1 h.2.2.2.2.2.2.1 h.2.2.2.2.2.2.2.1 h.2.2.2.2.2.2.2.2.1 h.2.2.2.2.2.2.2.2.2.1 h.2.2.2.2.2.2.2.2.2.2.1 h.2.2.2.2.2.2.2.2.2.2.2.1 h.2.2.2.2.2.2.2.2.2.2.2.2.1 h.2.2.2.2.2.2.2.2.2.2.2.2.2.1) λt=>cond (ieq b 2) (oN (inb c<|ln a)<|oN (inb q<|ln s.Dirty)<|share (up a c ({s with Dirty:=(up s.Dirty q true)}:Mon)) λu=>t (c,i,d,b,m,q,n,p,j,k,e,u,f,g,()))<|t (c,i,d,b,m,q,n,p,j,k,e,a,f,g,()))
def zKm (N:Nat)(d:Host)(e f:Int)(h g:Int)(i:Bool):OA:=
 let c:=zk d;let a:=zc3 d e; (oN (zM d)<|oN (zdg d e)<|share (λ(b:(Int×Int×Int×Int×Bool×Int×Int×Int×lM×lN×lE×lE×lM×lN×lE×lE×lS×lM×lB×lG×(List Int)×lK×Unit))=>ztD N b.1 b.2.1 b.2.2.1 b.2.2.2.1 b.2.2.2.2.1 b.2.2.2.2.2.2.2.2.1 b.2.2.2.2.2.2.2.2.2.1 b.2.2.2.2.2.2.2.2.2.2.1 b.2.2.2.2.2.2.2.2.2.2.2.1 b.2.2.2.2.2.2.2.2.2.2.2.2.1 b.2.2.2.2.2.2.2.2.2.2.2.2.2.1 b.2.2.2.2.2.2.2.2.2.2.2.2.2.2.1 b.2.2.2.2.2.2.2.2.2.2.2.2.2.2.2.1 b.2.2.2.2.2.2.2.2.2.2.2.2.2.2.2.2.2.2.2.1) λj=>oN (zcj d)<|cond (nB<|zci d) (some [aH c,aI<|-1,aB false])<|cond (nB<|znb d e) (some [aH c,aI<|-1,aB false])<|oN (zbj f<|ln a.Guests)<|cond (nB<|zca f<|ln a.Guests) (some [aH c,aI<|-1,aB false])<|cond (ine g 1) (cond (ine g 2) (some [aH c,aI<|-1,aB false])<|j (e,f,h,g,i,a.Pending,a.Traps,a.Own,[],[],[],[],c.Memory,c.Mons,c.Buffer,c.IoBuffer,a.Outer,a.Out,a.Dirty,a.Guests,a.Outs,a.Tables,()))<|j (e,f,h,g,i,a.Pending,a.Traps,a.Own,[],[],[],[],c.Memory,c.Mons,c.Buffer,c.IoBuffer,a.Outer,a.Out,a.Dirty,a.Guests,a.Outs,a.Tables,()))
def zYe:=zq [(167,999999,{n:=0,tm:=[],lo:=[],ro:=[]}),(167,1007055,{n:=200,tm:=[(1,ti),(2,ti),(3,ti),(4,ti),(5,.b),(12,.lp 0 0),(15,.lp 1 0),(16,.lp 2 0)],lo:=[(0,[.sl 0 [],.sl 1 [],.sl 2 [],.sl 3 []]),(1,[.sl 4 [],.sl 5 [],.sl 6 [],.sl 7 []]),(2,[.sl 8 [],.sl 9 [],.sl 10 [],.sl 11 [],.sl 12 [],ti,ti,.sl 13 [],ti])],ro:=[(0,.sl .int,true),(1,.mon,true),(2,.entry,true),(3,.entry,true),(4,.sl .int,true),(5,.mon,true),(6,.entry,true),(7,.entry,true),(8,.slot,true),(9,.sl .int,true),(10,.bool,true),(11,.guest,true),(12,.int,true),(13,.kept,true)]}),(167,1005039,{n:=200,tm:=[(1,ti),(2,ti),(3,ti),(4,ti),(5,.b),(12,.lp 0 0),(15,.lp 1 0),(18,ti)],lo:=[(0,[.sl 0 [],.sl 1 [],.sl 2 [],.sl 3 []]),(1,[.sl 4 [],.sl 5 [],.sl 6 [],.sl 7 []])],ro:=[(0,.sl .int,true),(1,.mon,true),(2,.entry,true),(3,.entry,true),(4,.sl .int,true),(5,.mon,true),(6,.entry,true),(7,.entry,true)]}),(167,1009019,{n:=200,tm:=[(1,ti),(2,ti),(3,ti),(4,ti),(12,.lp 0 0),(15,.lp 1 0),(18,ti),(20,.lp 1 3),(21,ti)],lo:=[(0,[.sl 0 [],.sl 1 [],.sl 2 [],.sl 3 []]),(1,[.sl 4 [],.sl 5 [],.sl 6 [],.sl 7 []])],ro:=[(0,.sl .int,true),(1,.mon,true),(2,.entry,true),(3,.entry,true),(4,.sl .int,true),(5,.mon,true),(6,.entry,true),(7,.entry,true)]}),(167,1011005,{n:=200,tm:=[(3,ti),(12,.lp 0 0),(15,.lp 1 0),(20,.lp 1 3),(21,ti),(24,.lp 2 0)],lo:=[(0,[.sl 0 [],.sl 1 [],.sl 2 [],.sl 3 []]),(1,[.sl 4 [],.sl 5 [],.sl 6 [],.sl 7 []]),(2,[ti,ti])],ro:=[(0,.sl .int,true),(1,.mon,true),(2,.entry,true),(3,.entry,true),(4,.sl .int,true),(5,.mon,true),(6,.entry,true),(7,.entry,true)]}),(167,1001009019,{n:=200,tm:=[(1,ti),(2,ti),(3,ti),(4,ti),(12,.lp 0 0),(15,.lp 1 0),(18,ti),(20,.lp 1 2),(21,ti)],lo:=[(0,[.sl 0 [],.sl 1 [],.sl 2 [],.sl 3 []]),(1,[.sl 4 [],.sl 5 [],.sl 6 [],.sl 7 []])],ro:=[(0,.sl .int,true),(1,.mon,true),(2,.entry,true),(3,.entry,true),(4,.sl .int,true),(5,.mon,true),(6,.entry,true),(7,.entry,true)]}),(167,1001011005,{n:=200,tm:=[(3,ti),(12,.lp 0 0),(15,.lp 1 0),(20,.lp 1 2),(21,ti),(24,.lp 2 0)],lo:=[(0,[.sl 0 [],.sl 1 [],.sl 2 [],.sl 3 []]),(1,[.sl 4 [],.sl 5 [],.sl 6 [],.sl 7 []]),(2,[ti,ti])],ro:=[(0,.sl .int,true),(1,.mon,true),(2,.entry,true),(3,.entry,true),(4,.sl .int,true),(5,.mon,true),(6,.entry,true),(7,.entry,true)]})]
theorem z9M {N:Nat}{r:Host}{m g a:Int}(b:r.IoBuffer.length<=1048576) :
 zty N a (zfa m g) (zeX (zcp r m g) a).Page (zeX (zcp r m g) a).Rights r.Memory r.Mons r.Buffer r.IoBuffer=some (zl8<|zfU r m g a true):=by
 unfold zty oN
 conv=>zeta
 exact must (zbu b) rfl
theorem z9O {N:Nat}{r:Host}{m g a:Int}(b:r.Buffer.length<=1048576) :
 ztA N a (zfa m g) (zeX (zcp r m g) a).Page (zeX (zcp r m g) a).Rights r.Memory r.Mons r.Buffer r.IoBuffer=some (zl8<|zfU r m g a false):=by
 unfold ztA oN
 conv=>zeta
 exact must (zbu b) rfl
theorem z7u {N:Nat}{r:Host}{m g a b q:Int}{R:OA}{r10}{u5 u6 u7 u8 u9}(A:LookAt r m g q b)(c:r10 (a,u5,(zeX (zcp (zcQ (mended r m q b) m g a) m g) a).Page,(zeX (zcp (zcQ (mended r m q b) m g a) m g) a).Rights,u6,u7,u8,u9,(zcQ (mended r m q b) m g a).Memory,(zcQ (mended r m q b) m g a).Mons,(zcQ (mended r m q b) m g a).Buffer,(zcQ (mended r m q b) m g a).IoBuffer,())=R) :
 zuZ N r.Memory r.Mons r.Buffer r.IoBuffer m q b g a r10 u5 u6 u7 u8 u9=R:=by
 have M:=zn1 A.kp A.hm A.hg;have F:=zn1 (A.fill a) A.hm A.hg;unfold zuZ oN
 conv=>zeta
 exact must (zbu A.mend) (must (zA M.hm)<|must (zA M.ht)<|must (zA M.hg)<|must (zbu M.hk)<|must (zA M.ht)<|shr<|must (zA F.ht) (must rfl c))
theorem lk_3 {N:Nat}{r:Host}{m g a b q:Int}{c:Bool}{r10}{u5 u6 u7 u8 u9}(A:LookAt r m g q b)(h:r10 (a,u5,(zeX (zcp (zcQ (mended r m q b) m g a) m g) a).Page,(zeX (zcp (zcQ (mended r m q b) m g a) m g) a).Rights,u6,u7,u8,u9,(zcQ (mended r m q b) m g a).Memory,(zcQ (mended r m q b) m g a).Mons,(zcQ (mended r m q b) m g a).Buffer,(zcQ (mended r m q b) m g a).IoBuffer,())=some (zl8<|zfU (zcQ (mended r m q b) m g a) m g a c))(i:r10 (a,u5,(zeX (zcp r m g) a).Page,(zeX (zcp r m g) a).Rights,u6,u7,u8,u9,r.Memory,r.Mons,r.Buffer,r.IoBuffer,())=some (zl8<|zfU r m g a c)) :
 zp9 N r.Mons m g a r.Memory r.Buffer r.IoBuffer q b r10 u5 u6 u7 u8 u9=some (zl8<|cond (zfJ r m g a b) (zfU (zcQ (mended r m q b) m g a) m g a c)<|zfU r m g a c):=by
 unfold zp9 oN nB
 conv=>zeta
 refine brN (λd=>?_) (λd=>br (λe=>?_) λe=>must rfl (brN (λf=>?_) λf=>?_))
 .rw [zuP<|z0Q d];exact z7u A h
 .rw [zuP<|z0R e];exact z7u A h
 .rw [zuP<|z0S f];exact z7u A h
 .rw [z0u<|z0T d e f];exact i
theorem z9N {N:Nat}{r:Host}{m g a b q:Int}{u6 u7 u8 u9}(A:LookAt r m g q b) :
 ztz N m g a b q (zfa m g) u6 u7 u8 u9 r.Memory r.Mons r.Buffer r.IoBuffer=some (zl8<|cond (zfJ r m g a b) (zfU (zcQ (mended r m q b) m g a) m g a true)<|zfU r m g a true):=by
 have M:=zn1 ⟨A.fit.1,rfl⟩ A.hm A.hg;have F:=zn1 (A.fill a) A.hm A.hg;unfold ztz oN
 conv=>zeta
 exact must (zA M.hm) (must (zA M.ht) (must rfl (shr<|lk_3 A (z9M (r:=zcQ (mended r m q b) m g a) (m:=m) (g:=g) F.hi)<|z9M (r:=r) (m:=m) (g:=g) M.hi)))
theorem z9P {N:Nat}{r:Host}{m g a b q:Int}{u6 u7 u8 u9}(A:LookAt r m g q b) :
 ztB N m g a b q (zfa m g) u6 u7 u8 u9 r.Memory r.Mons r.Buffer r.IoBuffer=some (zl8<|cond (zfJ r m g a b) (zfU (zcQ (mended r m q b) m g a) m g a false)<|zfU r m g a false):=by
 have M:=zn1 ⟨A.fit.1,rfl⟩ A.hm A.hg;have F:=zn1 (A.fill a) A.hm A.hg;unfold ztB oN
 conv=>zeta
 exact must (zA M.hm) (must (zA M.ht) (must rfl (shr<|lk_3 A (z9O (r:=zcQ (mended r m q b) m g a) (m:=m) (g:=g) F.hb)<|z9O (r:=r) (m:=m) (g:=g) M.hb)))
theorem z9Q {N:Nat}{r:Host}{m g b a q:Int}{e:Bool}{u6 u7 u8 u9}(A:LookAt r m g q a) :
 ztC N m g b a e q u6 u7 u8 u9 r.Memory r.Mons r.Buffer r.IoBuffer=some (zl8<|zhQ r (zue r e) m g b a q e):=by
 unfold ztC oN
 conv=>zeta
 cases e
 .show _=some (zl8<|zhQ r r.Buffer m g b a q false)
  refine zb4 rfl (must rfl (shr (must rfl (br (λc=>must rfl (br (λd=>?_) λd=>?_)) λc=>?_))))
  .rw [zEE<|zpW c d];rfl
  .rw [zpZ<|zpW c d];exact z9P A
  .rw [zpZ<|zEA c];exact z9P A
 .show _=some (zl8<|zhQ r r.IoBuffer m g b a q true)
  refine must rfl (must rfl (shr (must rfl (br (λc=>must rfl (br (λd=>?_) λd=>?_)) λc=>?_))))
  .rw [zEE<|zpW c d];rfl
  .rw [zpZ<|zpW c d];exact z9N A
  .rw [zpZ<|zEA c];exact z9N A
theorem zbc7 (r:Host)(m q:Int)(a:Bool):zue (zbO r m q) a=zue r a:=by cases a<;>rfl
theorem z9R {N:Nat}{r:Host}{m g b a:Int}{c:Bool}{z1 z2 z3 z4}(k:SmH r)(hg:zb8 r m g=true)(h:zhw a=true) :
 ztD N m g b a c z1 z2 z3 z4 r.Memory r.Mons r.Buffer r.IoBuffer (ix r.Mons m mZ).Guests=some (zl8 (lookOf r (zue r c) m g b a c)):=by
 obtain⟨l,f,i⟩:=zdO hg;unfold ztD oN nB
 conv=>zeta
 refine must (zA i) (must rfl (brN (fun e=>?_) (fun e=>?_)))
 .have:zbZ r m g b a=false:=by
   unfold zbZ;rw[hg,h,show zfK (zcP r m g) b a=false from e];rfl
  rw[zjg this];rfl
 .have hl:zbZ r m g b a=true:=by
   unfold zbZ;rw[hg,h,show zfK (zcP r m g) b a=true from e];rfl
  obtain⟨A,B⟩:=zDM k hl;rw[zJB hl];have j:hasB (zcx (zcP r m g) b a) (ln (ix r.Mons m mZ).Dirty)=true:=zez (zcW A.fit.1 f).2.2.2.1 A.hq;refine shr (br (fun d=>?_) (fun d=>?_))
  .rw [d]
   show _=some (zl8 (zhQ (zbO r m (zcx (zcP r m g) b a)) (zue r c) m g b a (zcx (zcP r m g) b a) c))
   rw[<- zbc7 r m (zcx (zcP r m g) b a) c];exact must (zA f) (must (zA j) (shr (z9Q (r:=zbO r m (zcx (zcP r m g) b a)) B)))
  .rw [d];exact z9Q A
theorem zWx (a:Host)(b d:Int)(e c:Int)(f:Bool)(s:zuo a b d e c f=true):∃N,zKm N a b d e c f=some [aH<|zul a b d e c f,aI<|zum a b d e c f,aB<|zun a b d e c f]:=by
 have i:=(zO a).1 (zD.1 s);refine⟨0,?_⟩;show _=some (zl8<|lookOf a (zue a f) b d e c f);unfold zKm oN nB;conv=>zeta
 refine must (zbu<|(zO _).2 i) (must (zbu<|(zO _).2 i)<|shr (must rfl (brN (λj=>?_) λj=>?_)));{rw [zjg<|zp0<|zOt j];rfl};refine brN (λg=>?_) (λg=>?_);{rw [zjg<|zp0<|zOu g];rfl};have q:zc3 a b=ix a.Mons b mZ:=(by unfold zc3;rw[show hasB b (ln a.Mons)=true from g];rfl);rw[q];refine must rfl (brN (λk=>?_) λk=>?_);{rw [zjg<|zp0<|zOv k];rfl};have hg:=zOw j g k;have m:∀{n:Int},zhw n=false->zbZ a b d e n=false:=λ{n} h=>(by unfold zbZ;rw[hg,h];rfl);rw[zje,zje];cases l:ieq c 1;{cases p:ieq c 2;{have:zhw c=false:=(by unfold zhw;rw[l,p];rfl);rw[zjg<|m this];rfl};{exact z9R (r:=a) i hg (by unfold zhw;rw[l,p];rfl)}};{exact z9R (r:=a) i hg (by unfold zhw;rw[l];rfl)}
theorem zO2:vV 167 zD1:=kF6 zjn zl zbB zir zYe zWx
def z9w:zbd:=[(167,zD1),(319,zr7)]++zo7
theorem zVy:zQ z9w:=zf zO2 (zf zIZ zjn)
@[simp] abbrev zl2 (h:Host)(m g b a:Int):Bool:=pc (zdv h)
@[simp] abbrev zuj (h:Host)(m g page need:Int):Host:=(lookOf h h.Buffer m g page need false).1
@[simp] abbrev zuk (h:Host)(m g page need:Int):Int:=(lookOf h h.Buffer m g page need false).2.1
@[simp] abbrev zzL (h:Host)(m g b a:Int):Bool:=(lookOf h h.Buffer m g b a false).2.2
def zDY:Run:=rF5 dH dI dI dI dI λb c d e f=>(zl2 b c d e f,[aH<|zuj b c d e f,aI<|zuk b c d e f,aB<|zzL b c d e f])
def zJ8 (N:Nat)(a:Host)(b c:Int)(d e:Int):OA:=
 (oN (zuo a b c d e false)<|some [aH<|zul a b c d e false,aI<|zum a b c d e false,aB<|zun a b c d e false])
theorem zWi (a:Host)(b c:Int)(d e:Int)(f:zl2 a b c d e=true):∃N,zJ8 N a b c d e=some [aH<|zuj a b c d e,aI<|zuk a b c d e,aB<|zzL a b c d e]:=by refine⟨0,?_⟩;unfold zJ8 oN;exact must f rfl
theorem zOK:vV 72 zDY:=kF5 zVy zl zbB zir (zq []) zWi
def z9x:zbd:=[(72,zDY)]++z9w
theorem z6W:zQ z9x:=zf zOK zVy
def z4d:zbd:=[(83,zlk)]++z9x
theorem zR4:zQ z4d:=zf zvk z6W
def zyL:Run:=rF3 dH dI dI λb c d=>(zdz b c d,[aH<|zcA b c d,aB<|zcJ b c d])
abbrev zi8 (a:Host)(b c:Int):Int :=
 (zhp<|ix (zc3 a b).Guests c zu)
abbrev zdY (a:Host)(b c:Int):Int :=
 (zhJ<|ix (zc3 a b).Guests c zu)
abbrev zxP (a:Host)(b c:Int):Host :=
 (zuj a b c (zbw<|zi8 a b c)<|zcR<|ieq (zdY a b c) 4)
abbrev zi7 (a:Host)(b c:Int):Guest :=
 (ix (ix (zk a).Mons b zh).Guests c zu)
abbrev znF (c:lN)(a b:Int):Guest :=
 (ix (ix c a zh).Guests b zu)
abbrev zxQ (a:Host)(b c:Int):Int :=
 (zuk a b c (zbw<|zi8 a b c)<|zcR<|ieq (zdY a b c) 4)
def znG (N:Nat)(f:Host)(c d:Int):OA:=
 let j:=zxQ f c d;let h:=ieq (zdY f c d) 4;let a:=zi8 f c d;let b:=zxP f c d;let k:=inb c<|ln b.Mons;let e:=ix (zc3 f c).Guests d zu;let g:=ix b.Mons c zh;let l:=inb d<|ln g.Guests; (oN (zbs a)<|oN (ziK h)<|oN (zl2 f c d (zbw a)<|zcR h)<|cond (nB<|zzL f c d (zbw a)<|zcR h) (oN (zbs a)<|oN (zgv (zbw a) h)<|oN (zcn e<|zeW (zbw a) h)<|oN k<|oN l<|share (up b.Mons c ({g with Guests:=(up g.Guests d<|zcz e<|zeW (zbw a) h)}:Mon)) λi=>some [aH ({b with Mons:=i}:Host),aB true])<|cond h (oN (zbs a)<|oN (zdf b.Memory j (zcv a) e.A)<|oN (zK e)<|oN k<|oN l<|share (up b.Mons c ({g with Guests:=(up g.Guests d<|zb7 e)}:Mon)) λi=>some [aH ({b with Memory:=(zdG b.Memory j (zcv a) e.A),Mons:=i}:Host),aB true])<|oN (zbs a)<|oN (zeK b.Memory j<|zcv a)<|oN (zkv e<|zf6 b.Memory j<|zcv a)<|oN k<|oN l<|share (up b.Mons c ({g with Guests:=(up g.Guests d<|zjI e<|zf6 b.Memory j<|zcv a)}:Mon)) λi=>some [aH ({b with Mons:=i}:Host),aB true])
def znH (N:Nat)(f:Host)(a b:Int)(d:lN):OA:=
 let c:=znF d a b;let e:=ix d a zh;let g:=({ (zi7 f a b) with Prog:=c.Prog,Written:=c.Written,Live:=c.Live,Seen:=c.Seen}:Guest); (oN (zK g)<|oN (inb b<|ln e.Guests)<|share (up d a ({e with Guests:=(up e.Guests b<|zb7 g)}:Mon)) λh=>some [aH ({ (zk f) with Mons:=h}:Host),aB true])
def znI (N:Nat)(e:Host)(a d:Int):OA:=
 let g:=(zk e).Mons;let c:=zi7 e a d;let b:=ix g a zh;let h:=ap b.Outs [(zd5 c.Prog c.Pc).X]; (cond (ieq (zdY e a d) 7) (oN (zK c)<|oN (inb d<|ln b.Guests)<|share (up g a ({b with Guests:=(up b.Guests d<|zjD c)}:Mon)) λf=>some [aH ({ (zk e) with Mons:=f}:Host),aB true])<|cond (ilt (ln b.Outs) 40) (oN (zdV c.Prog c.Pc)<|oN (few<|ln h)<|oN (cond (ieq a a) true false)<|share (up g a ({b with Outs:=h}:Mon)) λf=>znH N e a d f)<|oN (zK c)<|oN (inb d<|ln b.Guests)<|share (up g a ({b with Guests:=(up b.Guests d<|zb7 c)}:Mon)) λf=>some [aH ({ (zk e) with Mons:=f}:Host),aB true])
def znJ (N:Nat)(a:Int)(g:Host)(b:Int):OA:=
 let f:=zk g;let j:=zdY g a b;let d:=zi7 g a b;let c:=ix f.Mons a zh;let l:=zlI c.Traps d.Ctl.Traps<|zjs j; (oN (inb a<|ln f.Mons)<|oN (inb b<|ln c.Guests)<|oN (zqu j)<|oN (zo1 c.Traps d.Ctl.Traps<|zjs j)<|cond (ieq l 1) (oN (zoM d j)<|oN (inb b<|ln c.Guests)<|share (up f.Mons a ({c with Guests:=(up c.Guests b<|zlF d j)}:Mon)) λe=>some [aH ({f with Mons:=e}:Host),aB true])<|cond (ieq l 2) (cond (ilt c.Own 1000000000) (share (up f.Mons a ({c with Own:=(zN .i64 c.Own 1)}:Mon)) (λe=>let i:=ix e a zh;let h:=znF e a b;let k:=ap i.Outs [(zd5 h.Prog d.Pc).X];let q:=({d with Prog:=h.Prog,Written:=h.Written,Live:=h.Live,Seen:=h.Seen}:Guest); (cond (ieq j 7) (oN (zK q)<|oN (inb b<|ln i.Guests)<|share (up e a ({i with Guests:=(up i.Guests b<|zjD q)}:Mon)) λm=>some [aH ({f with Mons:=m}:Host),aB true])<|cond (ilt (ln i.Outs) 40) (oN (zdV h.Prog d.Pc)<|oN (few<|ln k)<|oN (cond (ieq a a) true false)<|share (up e a ({i with Outs:=k}:Mon)) (λm=>let p:=ix m a zh;let n:=ix p.Guests b zu;let r:=({d with Prog:=n.Prog,Written:=n.Written,Live:=n.Live,Seen:=n.Seen}:Guest); (oN (zK r)<|oN (inb b<|ln p.Guests)<|share (up m a ({p with Guests:=(up p.Guests b<|zb7 r)}:Mon)) λs=>some [aH ({f with Mons:=s}:Host),aB true])))<|znH N g a b e)))<|znI N g a b)<|znI N g a b)
def zk7 (N:Nat)(a:Host)(b c:Int):OA:=
 (oN (zdg a b)<|oN (zb6 (zef a b) c)<|oN (inb b<|ln (zk a).Mons)<|share (up (zk a).Mons b ({ (ix (zk a).Mons b zh) with Guests:=(zgf (zef a b) c).Guests}:Mon)) λd=>some [aH ({ (zk a) with Mons:=d}:Host),aB true])
def zhx (N:Nat)(a:Host)(b c:Int):OA:=
 let d:=zdY a b c; (cond (ieq d 5) (cond (ieq d 5) (znJ N b a c)<|zk7 N a b c)<|cond (ieq d 7) (znJ N b a c)<|zk7 N a b c)
def zBS (N:Nat)(a:Host)(c b:Int):OA:=
 let f:=aH<|zk a;let e:=zdY a c b;let d:=(zc3 a c).Guests;let g:=ix d b zu; (oN (zM a)<|oN (zdg a c)<|oN (zcj a)<|cond (nB<|zci a) (some [f,aB false])<|cond (nB<|znb a c) (some [f,aB false])<|oN (zbj b<|ln d)<|cond (nB<|zca b<|ln d) (some [f,aB false])<|oN (inb b<|ln d)<|oN (zbx g)<|cond (ieq e 0) (some [f,aB false])<|oN (inb b<|ln d)<|oN (zbx g)<|oN (zbx g)<|cond (ieq e 3) (cond (ieq e 3) (znG N a c b)<|zhx N a c b)<|cond (ieq e 4) (znG N a c b)<|zhx N a c b)
theorem zW4 {h:Host}{m:Int}(a:hasB m (ln h.Mons)=true):zc3 h m=ix h.Mons m mZ:=by unfold zc3;rw[a];rfl
theorem is_1 {N:Nat}{a:Host}{c d:Int}(l:SmH a)(p:zb8 a c d=true) :
 znG N a c d=some (zft (ziz (zjR a c d (gOf a c d)<|ieq (zL<|gOf a c d) 4) c d (gOf a c d)<|ieq (zL<|gOf a c d) 4,true)):=by
 obtain⟨s,i,n⟩:=zdO p;have m:=zmx l i n;have k:=zuO (b:=a.Buffer) (page:=zbp (address<|gOf a c d)) (need:=zcq (ieq (zL<|gOf a c d) 4)) (io:=false) l p;have F:=zn1 k i n;have g:=zW4 i;have e:zdY a c d=zL (gOf a c d):=by show zhJ (ix (zc3 a c).Guests d gZ)=_;rw[g];rfl
 have f:zi8 a c d=address (gOf a c d):=by show zhp (ix (zc3 a c).Guests d gZ)=_;rw[g];rfl
 have q:zxP a c d=(zjR a c d (gOf a c d)<|ieq (zL<|gOf a c d) 4).1:=by show zuj a c d (zbw<|zi8 a c d) (zcR<|ieq (zdY a c d) 4)=_;rw[e,f];rfl
 have r:zxQ a c d=(zjR a c d (gOf a c d)<|ieq (zL<|gOf a c d) 4).2.1:=by show zuk a c d (zbw<|zi8 a c d) (zcR<|ieq (zdY a c d) 4)=_;rw[e,f];rfl
 unfold znG oN nB
 conv=>zeta
 rw[q,e,f,r,g];unfold ziz;refine must rfl (must rfl (must (zbu<|(zO _).2 l)<|brN (λh=>?_) λh=>?_))
 .rw [show (zjR a c d (gOf a c d)<|ieq (zL<|gOf a c d) 4).2.2=false from h]
  exact must rfl (must rfl (must (zbu m)<|must (zA F.hm) (must (zA F.hg) rfl)))
 .rw [show (zjR a c d (gOf a c d)<|ieq (zL<|gOf a c d) 4).2.2=true from h]
  refine br (λj=>?_) (λj=>?_)
  .have kk:=k.shape.1.1;rw[j] at F kk ⊢;exact must rfl (must (zbu kk)<|must (zbu m)<|must (zA F.hm) (must (zA F.hg) rfl))
  .rw [j] at F ⊢;exact must rfl (must rfl (must (zbu m)<|must (zA F.hm) (must (zA F.hg) rfl)))
theorem is_2 {N:Nat}{c:Host}{d:List Mon}{a b:Int}(g:SmG (gOf c a b))(f:hasB b (ln (ix d a mZ).Guests)=true)(e:znF d a b=zi7 c a b) :
 znH N c a b d=some (zft (zht {c with Mons:=d} a b<|zcg<|gOf c a b,true)):=by
 unfold znH oN
 conv=>zeta
 rw[e];exact must (zbu g) (must (zA f) rfl)
def leftG (x:Guest)(w:Int):Guest:=bif ieq w 7 then held x else zcg x
def zzT (h:Host)(m:Int)(x:Guest)(w:Int):Host:=bif ieq w 7 then h else zjw h m (zcF x.Prog x.Pc).X
theorem zyA {h:Host}{m:Int}{x:Guest}{w:Int}(a:ieq w 7=true):leftG x w=held x/\zzT h m x w=h:=by unfold leftG zzT;rw[a];exact⟨rfl,rfl⟩
theorem zoO {h:Host}{m:Int}{x:Guest}{w:Int}(a:ieq w 7=false):leftG x w=zcg x/\zzT h m x w=zjw h m (zcF x.Prog x.Pc).X:=by unfold leftG zzT;rw[a];exact⟨rfl,rfl⟩
theorem z0C {h:Host}{m n:Int}(a:ilt (ln (ix h.Mons m mZ).Outs) 40=true):zjw h m n={h with Mons:=up h.Mons m {ix h.Mons m mZ with Outs:=ap (ix h.Mons m mZ).Outs [n]}}:=by unfold zjw;rw[a];rfl
theorem z0B {h:Host}{m n:Int}(a:ilt (ln (ix h.Mons m mZ).Outs) 40=false):zjw h m n=h:=by unfold zjw;rw[a];rfl
theorem is_3 {N:Nat}{b:Host}{a c:Int}(k:SmH b)(g:hasB a (ln b.Mons)=true)(e:hasB c (ln (ix b.Mons a mZ).Guests)=true)(j:zdY b a c=zL (gOf b a c)) :
 znI N b a c=some (zft (zht (zzT b a (gOf b a c)<|zL<|gOf b a c) a c<|leftG (gOf b a c)<|zL<|gOf b a c,true)):=by
 have i:=zmx k g e;unfold znI oN
 conv=>zeta
 rw[j];refine br (λd=>?_) (λd=>br (λf=>?_) λf=>?_)
 .rw [(zyA (x:=gOf b a c) (h:=b) (m:=a) d).1,(zyA (x:=gOf b a c) d).2];exact must (zbu i) (must (zA e) rfl)
 .rw [(zoO (x:=gOf b a c) (h:=b) (m:=a) d).1,(zoO (x:=gOf b a c) d).2,z0C f];refine must rfl (must (zUL f)<|must (zMs _)<|shr<|is_2 i ?_ ?_)
  .rw [zqB g];exact e
  .show ix (ix (up b.Mons a _) a mZ).Guests c gZ=_
   rw[zqB g]
 .rw [(zoO (x:=gOf b a c) (h:=b) (m:=a) d).1,(zoO (x:=gOf b a c) d).2,z0B f];exact must (zbu i) (must (zA e) rfl)
theorem zbcN {h:Host}{m g:Int}{x:Guest}{w:Int}(d:ieq w 6=false)(c:ieq w 5=false->ieq w 6=false->ieq w 7=true)(e:zey x.Ctl.Traps (zgM w)=false):zmm h m g x w=zht (zzT (zfA h m x w) m x w) m g (leftG x w):=by unfold zmm;cases b:ieq w 7;{have a:ieq w 5=true:=(by cases a:ieq w 5;{have:=c a d;rw[b] at this;cases this};{rfl});obtain⟨f,i⟩:=tr3 x x.Ctl.Traps w d b e a;rw[(zoO (x:=x) (h:=zfA h m x w) (m:=m) b).1,(zoO (x:=x) b).2,f];unfold zh3;rw[i,a];rfl};{have a:ieq w 5=false:=(by have:w=7:=qD b;rw[this];rfl);rw[(zyA (x:=x) (h:=zfA h m x w) (m:=m) b).1,(zyA (x:=x) b).2,tr4 x x.Ctl.Traps w d c e a,zEh a]}
theorem is_p {f:Host}{d:List Mon}{a c:Int}(h:SmG (gOf f a c))(g:hasB c (ln (ix d a mZ).Guests)=true)(e:(ix (ix d a zh).Guests c zu)=gOf f a c) :
 (cond (zK ({ (ix (ix (zk f).Mons a zh).Guests c zu) with Prog:=(ix (ix d a zh).Guests c zu).Prog,Written:=(ix (ix d a zh).Guests c zu).Written,Live:=(ix (ix d a zh).Guests c zu).Live,Seen:=(ix (ix d a zh).Guests c zu).Seen}:Guest)) (cond (inb c<|ln (ix d a zh).Guests) (share (up d a ({ (ix d a zh) with Guests:=(up (ix d a zh).Guests c<|zb7 ({ (ix (ix (zk f).Mons a zh).Guests c zu) with Prog:=(ix (ix d a zh).Guests c zu).Prog,Written:=(ix (ix d a zh).Guests c zu).Written,Live:=(ix (ix d a zh).Guests c zu).Live,Seen:=(ix (ix d a zh).Guests c zu).Seen}:Guest))}:Mon)) λi=>some [.agg<|zbh ({ (zk f) with Mons:=i}:Host),.one<|.b true]) none) none)=some (zft (zht {f with Mons:=d} a c<|zcg<|gOf f a c,true)):=by
 rw[e];exact must (zbu h) (must (zA g) rfl)
theorem is_o {f:Host}{d:List Mon}{a c:Int}(l:SmG (gOf f a c))(n:hasB a (ln d)=true)(k:hasB c (ln (ix d a mZ).Guests)=true)(e:(ix (ix d a zh).Guests c zu)=gOf f a c) :
 (cond (ieq (zL<|gOf f a c) 7) (cond (zK ({ (ix (ix (zk f).Mons a zh).Guests c zu) with Prog:=(ix (ix d a zh).Guests c zu).Prog,Written:=(ix (ix d a zh).Guests c zu).Written,Live:=(ix (ix d a zh).Guests c zu).Live,Seen:=(ix (ix d a zh).Guests c zu).Seen}:Guest)) (cond (inb c<|ln (ix d a zh).Guests) (share (up d a ({ (ix d a zh) with Guests:=(up (ix d a zh).Guests c<|zjD ({ (ix (ix (zk f).Mons a zh).Guests c zu) with Prog:=(ix (ix d a zh).Guests c zu).Prog,Written:=(ix (ix d a zh).Guests c zu).Written,Live:=(ix (ix d a zh).Guests c zu).Live,Seen:=(ix (ix d a zh).Guests c zu).Seen}:Guest))}:Mon)) λg=>some [.agg<|zbh ({ (zk f) with Mons:=g}:Host),.one<|.b true]) none) none)<|cond (ilt (ln (ix d a zh).Outs) 40) (cond (zdV (ix (ix d a zh).Guests c zu).Prog (ix (ix (zk f).Mons a zh).Guests c zu).Pc) (cond (few<|ln<|ap (ix d a zh).Outs [(zd5 (ix (ix d a zh).Guests c zu).Prog (ix (ix (zk f).Mons a zh).Guests c zu).Pc).X]) (cond (cond (ieq a a) true false) (share (up d a ({ (ix d a zh) with Outs:=(ap (ix d a zh).Outs [(zd5 (ix (ix d a zh).Guests c zu).Prog (ix (ix (zk f).Mons a zh).Guests c zu).Pc).X])}:Mon)) λg=>cond (zK ({ (ix (ix (zk f).Mons a zh).Guests c zu) with Prog:=(ix (ix g a zh).Guests c zu).Prog,Written:=(ix (ix g a zh).Guests c zu).Written,Live:=(ix (ix g a zh).Guests c zu).Live,Seen:=(ix (ix g a zh).Guests c zu).Seen}:Guest)) (cond (inb c<|ln (ix g a zh).Guests) (share (up g a ({ (ix g a zh) with Guests:=(up (ix g a zh).Guests c<|zb7 ({ (ix (ix (zk f).Mons a zh).Guests c zu) with Prog:=(ix (ix g a zh).Guests c zu).Prog,Written:=(ix (ix g a zh).Guests c zu).Written,Live:=(ix (ix g a zh).Guests c zu).Live,Seen:=(ix (ix g a zh).Guests c zu).Seen}:Guest))}:Mon)) λp=>some [.agg<|zbh ({ (zk f) with Mons:=p}:Host),.one<|.b true]) none) none) none) none) none)<|cond (zK ({ (ix (ix (zk f).Mons a zh).Guests c zu) with Prog:=(ix (ix d a zh).Guests c zu).Prog,Written:=(ix (ix d a zh).Guests c zu).Written,Live:=(ix (ix d a zh).Guests c zu).Live,Seen:=(ix (ix d a zh).Guests c zu).Seen}:Guest)) (cond (inb c<|ln (ix d a zh).Guests) (share (up d a ({ (ix d a zh) with Guests:=(up (ix d a zh).Guests c<|zb7 ({ (ix (ix (zk f).Mons a zh).Guests c zu) with Prog:=(ix (ix d a zh).Guests c zu).Prog,Written:=(ix (ix d a zh).Guests c zu).Written,Live:=(ix (ix d a zh).Guests c zu).Live,Seen:=(ix (ix d a zh).Guests c zu).Seen}:Guest))}:Mon)) λg=>some [.agg<|zbh ({ (zk f) with Mons:=g}:Host),.one<|.b true]) none) none)=some (zft (zht (zzT {f with Mons:=d} a (gOf f a c)<|zL<|gOf f a c) a c<|leftG (gOf f a c)<|zL<|gOf f a c,true)):=by
 rw[e];refine br (λi=>?_) (λi=>br (λj=>?_) λj=>?_)
 .rw [(zyA (x:=gOf f a c) (h:={f with Mons:=d}) (m:=a) i).1,(zyA (x:=gOf f a c) i).2];exact must (zbu l) (must (zA k) rfl)
 .rw [(zoO (x:=gOf f a c) (h:={f with Mons:=d}) (m:=a) i).1,(zoO (x:=gOf f a c) i).2,z0C (h:={f with Mons:=d}) j];refine must rfl (must (zUL j)<|must (zMs _)<|shr<|is_p l ?_ ?_)
  .rw [zqB (h:={f with Mons:=d}) n];exact k
  .show ix (ix (up d a _) a mZ).Guests c gZ=_
   rw[zqB (h:={f with Mons:=d}) n];exact e
 .rw [(zoO (x:=gOf f a c) (h:={f with Mons:=d}) (m:=a) i).1,(zoO (x:=gOf f a c) i).2,z0B (h:={f with Mons:=d}) j];exact must (zbu l) (must (zA k) rfl)
theorem tf (b:Bool):b=false\/b=true:=by cases b<;>simp
theorem is_4 {N:Nat}{a:Host}{b c:Int}(r:SmH a)(d:hasB b (ln a.Mons)=true)(e:hasB c (ln (ix a.Mons b mZ).Guests)=true)(q:zdY a b c=zL (gOf a b c))(l:ieq (zL<|gOf a b c) 6=false)(f:ieq (zL<|gOf a b c) 5=false->ieq (zL<|gOf a b c) 6=false->ieq (zL<|gOf a b c) 7=true) :
 znJ N b a c=some (zft (zmm a b c (gOf a b c)<|zL<|gOf a b c,true)):=by
 have s:=zmx r d e;have n:=is_3 (N:=N) r d e q;have g:ine (zL<|gOf a b c) 6=true:=by rw[zje,l];rfl
 unfold znJ oN
 conv=>zeta
 rw[q];refine must (zA d) (must (zA e) (must rfl (must rfl ?_)));rw[show ieq (zlI (ix a.Mons b zh).Traps (zi7 a b c).Ctl.Traps<|zjs<|zL<|gOf a b c) 1=zey (gOf a b c).Ctl.Traps (zgM<|zL<|gOf a b c) from zbcC _ _ _]
 refine br (λh=>?_) (λh=>?_)
 .obtain⟨e1,e2⟩:=tr2 (gOf a b c) (gOf a b c).Ctl.Traps _ l f h;have i:zfA a b (gOf a b c) (zL<|gOf a b c)=a:=by unfold zfA;rw[g,zbcD h];rfl
  unfold zmm;rw[i,zNN e2,e1];exact must (zbu s) (must (zA e) rfl)
 .rw [zbcN l f h];have i:zfA a b (gOf a b c) (zL<|gOf a b c)=bif ieq (zoB (ix a.Mons b mZ).Traps (gOf a b c).Ctl.Traps<|zgM<|zL<|gOf a b c) 2 then owned a b else a:=by unfold zfA;rw[g];rfl
  rw[i];refine br (λm=>?_) (λm=>?_)
  .rw [show ieq (zoB (ix a.Mons b mZ).Traps (gOf a b c).Ctl.Traps<|zgM<|zL<|gOf a b c) 2=true from m]
   simp only[cT];unfold owned;refine br (λk=>?_) (λk=>?_)
   rotate_left
   .rw [k];exact n
   rw[k];refine shr ?_;have p:=zqB d {ix a.Mons b mZ with Own:=zN .i64 (ix a.Mons b mZ).Own 1};have j:hasB b (ln<|up a.Mons b {ix a.Mons b mZ with Own:=zN .i64 (ix a.Mons b mZ).Own 1})=true:=zf2 d;have t:znF (up a.Mons b {ix a.Mons b mZ with Own:=zN .i64 (ix a.Mons b mZ).Own 1}) b c=zi7 a b c:=by show ix (ix (up a.Mons b _) b mZ).Guests c gZ=_;rw[p]
   refine is_o s j ?_ t;rw[p];exact e
  .rw [show ieq (zoB (ix a.Mons b mZ).Traps (gOf a b c).Ctl.Traps<|zgM<|zL<|gOf a b c) 2=false from m]
   exact n
theorem z7q {N:Nat}{a:Host}{b c:Int}(r:SmH a)(q:zb8 a b c=true)(m:ieq (zL<|gOf a b c) 0=false){y:Guest}{o:List Int}(s:(stepped (zB a b) c (gOf a b c)<|zL<|gOf a b c).Guests=up (ix a.Mons b mZ).Guests c y)(p:SmB (zB a b)) :
 zk7 N a b c=some (zft (zht a b c y,true)):=by
 obtain⟨k,f,l⟩:=zdO q;have g:=zso k f;have i:(zB a b).Guests=(ix a.Mons b mZ).Guests:=by unfold zB;rw[f];rfl
 have e:hasB c (ln (zB a b).Guests)=true:=by rw[i];exact l
 have h:gAt (zB a b) c=gOf a b c:=by unfold gAt;rw[e,i];rfl
 have d:zhh (zB a b) c=true:=by unfold zhh;rw[e,g,h,m];rfl
 have j:zfp (zB a b) c=stepped (zB a b) c (gOf a b c) (zL<|gOf a b c):=by unfold zfp;rw[d,h];rfl
 have n:(zgf (zef a b) c).Guests=up (ix a.Mons b mZ).Guests c y:=by show (zfp (zB a b) c).Guests=_;rw[j,s]
 unfold zk7 oN;rw[n];exact must (zbu<|(zO _).2 r) (must (zbu p) (must (zA f) rfl))
theorem ze9 {h:Host}{m:Int}(g:SmH h)(f:hasB m (ln h.Mons)=true):SmB (zB h m):=by
 have b:=g.2.1.2 _ (zbQ f mZ);have e:∀(d:List (List Int)) (q:Int),SmM d->(zcZ d q).length<=1048576:=λd q h=>zXM h;have c:∀p:Int,(zcl h m p).length<=1048576:=by intro p;unfold zcl;cases hasB m (ln h.Mons);{exact(by decide:zAl.length<=1048576)};{cases hasB p 8;{exact(by decide:zAl.length<=1048576)};{simp only [cT];cases ine (zbK (ix h.Mons m zh).Outer p).Page (-1);{exact e _ _ b.2.1};{exact e _ _ g.1}}}
 have j:∀(n i:Nat),∀x∈zcU h m n i,x.length<=1048576:=by
  intro n
  induction n with
  |zero=>intro i x a;cases a
  |succ n k=>intro i x a;rcases qG.1 a with rfl|a;{exact c _};{exact k (i+1) x a}
 unfold zB;rw[f];exact⟨⟨by show (zcU h m 8 0).length<=1048576;rw[zzZ];decide,j 8 0⟩,b.2.2.2.1,b.2.2.2.2.1⟩
theorem zxx (b:Bare)(g:Int)(x:Guest):(zev b g x).Guests=up b.Guests g x:=rfl
theorem zPR (a:Host)(b c:Int)(q:zbE big [aH a,aI b,aI c])(B:zdz a b c=true):∃N,zBS N a b c=some [aH (zcA a b c),aB (zcJ a b c)]:=by
 have g:=(zO a).1 (zD.1 B);refine⟨0,?_⟩;show _=some (zft (zcH a b c));unfold zBS oN nB;conv=>zeta
 refine must (zbu ((zO _).2 g)) (must (zbu ((zO _).2 g)) (must rfl (brN (fun u=>?_) (fun u=>brN (fun l=>?_) (fun l=>?_)))));{rw [zke (zOt u)];rfl};{rw [zke (zOu l)];rfl};have y:=zW4 (h:=a) (m:=b) l;have n:zdY a b c=zL (gOf a b c):=(by show zhJ (ix (zc3 a b).Guests c gZ)=_;rw[y];rfl);rw[y,n];refine must rfl (brN (fun p=>?_) (fun p=>?_));{rw [zke (zOv p)];rfl};have j:=zOw u l p;have s:hasB b (ln a.Mons)=true:=l;have t:hasB c (ln (ix a.Mons b mZ).Guests)=true:=p;have q:=ze9 g s;have r:(zB a b).Guests=(ix a.Mons b mZ).Guests:=(by unfold zB;rw[s];rfl);rw[zkY j];unfold zNH;refine must (zA t) (must rfl (br (fun d=>?_) (fun d=>must (zA t) (must rfl (must rfl (br (fun i=>must i ?_) (fun i=>br (fun k=>?_) (fun k=>?_))))))));{rw [d];rfl};{have e:zL (gOf a b c)=3:=qD i;have T:=is_1 (N:=0) g j;rw[T];rw[e];rfl};{have e:zL (gOf a b c)=4:=qD k;have T:=is_1 (N:=0) g j;rw[T];rw[e];rfl}
 .have fin:∀{R:Host×Bool},zhx 0 a b c=some (zft R)->R=(bif ieq (zL (gOf a b c)) 0 then (a,false) else (bif ieq (zL (gOf a b c)) 1 then (zht a b c (interrupted (gOf a b c)),true) else (bif ieq (zL (gOf a b c)) 2 then (zht a b c (plainly (gOf a b c)),true) else
   (cond (cond (ieq (zL (gOf a b c)) 3) true (ieq (zL (gOf a b c)) 4)) (ziz (zjR a b c (gOf a b c) (ieq (zL (gOf a b c)) 4)) b c (gOf a b c) (ieq (zL (gOf a b c)) 4),true) (zmm a b c (gOf a b c) (zL (gOf a b c)),true)))))->zhx 0 a b c=_:=fun h e=>h.trans (congrArg (fun x=>some (zft x)) e)
  have w:ieq (zL (gOf a b c)) 5=false->ieq (zL (gOf a b c)) 7=false->zhx 0 a b c=zk7 0 a b c:=by
   intro v A;unfold zhx;conv=>zeta
   rw[n];exact zb4 v (zb4 A rfl)
  rcases tf (ieq (zL (gOf a b c)) 1) with f|f
  .rcases tf (ieq (zL (gOf a b c)) 2) with w2|w2
   .rcases tf (ieq (zL (gOf a b c)) 6) with w6|w6
    .have h57:ieq (zL (gOf a b c)) 5=false->ieq (zL (gOf a b c)) 6=false->ieq (zL (gOf a b c)) 7=true:=fun v z=>zUU _ d f w2 i k v z;have T:=is_4 (N:=0) g s t n w6 h57;refine fin (R:=(zmm a b c (gOf a b c) (zL (gOf a b c)),true)) ?_ (by rw[d,f,w2,i,k];rfl);unfold zhx;conv=>zeta
     rw[n];cases C:ieq (zL (gOf a b c)) 5;{exact zb4 rfl (must (h57 C w6) T)};{exact must rfl (must rfl T)}
    {have e:zL (gOf a b c)=6:=qD w6;refine fin (R:=(zht a b c (zgO (gOf a b c) (gOf a b c).Ctl.Traps (zL (gOf a b c))),true)) ?_ ?_;{rw [w (by rw[e];rfl) (by rw[e];rfl)];refine z7q (o:=[]) g j d ?_ q;unfold stepped zov;rw[f,w2,i,k,(tr1 (gOf a b c) (gOf a b c).Ctl.Traps _ w6).2];show (zev (zB a b) c _).Guests=_;rw[zxx,r]};{rw [d,f,w2,i,k];unfold zmm zfA;rw[zNN (tr1 (gOf a b c) (gOf a b c).Ctl.Traps _ w6).2,zje,w6];rfl}}
   {have e:zL (gOf a b c)=2:=qD w2;refine fin (R:=(zht a b c (plainly (gOf a b c)),true)) ?_ (by rw[d,f,w2];rfl);rw[w (by rw[e];rfl) (by rw[e];rfl)];refine z7q (o:=[]) g j d ?_ q;unfold stepped;rw[f,w2];show (zev (zB a b) c _).Guests=_;rw[zxx,r]}
  {have e:zL (gOf a b c)=1:=qD f;refine fin (R:=(zht a b c (interrupted (gOf a b c)),true)) ?_ (by rw[d,f];rfl);rw[w (by rw[e];rfl) (by rw[e];rfl)];refine z7q (o:=[]) g j d ?_ q;unfold stepped;rw[f];show (zev (zB a b) c _).Guests=_;rw[zxx,r]}
theorem zIq:vV 22 zyL:=hF3 zR4 zl zbB zir (zq []) zPR
def z9y:zbd:=[(22,zyL)]++z4d
theorem z6X:zQ z9y:=zf zIq zR4
def z9z:zbd:=[(90,zj6),(197,zj6)]++z9y
theorem z6Y:zQ z9z:=zf zwC (zf zwJ z6X)
def cnt (l:List Mon):List Nat:=l.map λx=>x.Guests.length
theorem zbbZ {l a:List Mon}(h:zfF a=zfF l):cnt a=cnt l:=by have e:∀l:List Mon,cnt l=(zfF l).map List.length:=λl=>(by simp[cnt,zfF]);rw[e,e,h]
theorem zVi {l:List Mon}{m:Int}{x:Mon}(b:hasB m (ln l)=true)(c:x.Guests.length=(ix l m mZ).Guests.length):cnt (up l m x)=cnt l:=by obtain⟨k,rfl,a⟩:=zeN (n:=l.length) b;unfold cnt up;rw[List.map_set,kE,c,zbb a];have:=@vC _ (l.map λx=>x.Guests.length) k (by simpa using a);simpa using this
theorem zbat {l a:List Mon}(h:cnt a=cnt l):a.length=l.length:=by have:=congrArg List.length h;simpa [cnt] using this
theorem zbb0 {l b:List Mon}(h:cnt b=cnt l)(m:Int):(ix b m mZ).Guests.length=(ix l m mZ).Guests.length:=by have a:(cnt b)[m.toNat]?=(cnt l)[m.toNat]?:=(by rw[h]);unfold cnt at a;rw[qN,qN]at a;unfold ix;simp only[kF];cases c:b[m.toNat]? <;> cases d:l[m.toNat]? <;> rw [c,d]at a<;>simp at a ⊢;exact a
theorem zbbe (h:Host)(m p:Int):(zeS h m p).Memory=h.Memory:=(zib (zgt h m p) m p noSlot).2
theorem zbbd (h:Host):(zd2 h).Memory=h.Memory:=by unfold zd2;cases ieq (ln<|zcN h) 0;{rfl};{exact zbbe _ _ _}
theorem zbbc (m:List (List Int))(p:Int)(c:List Int):(zk0 m p c).length=m.length:=by unfold zk0;cases hasB p (ln m);{rfl};{cases zcT c;{rfl};{simp}}
theorem zbba (m:List (List Int))(p c v:Int):(zbU m p c v).length=m.length:=by unfold zbU;cases zhv m p c;{rfl};{cases zi v 0 99;{rfl};{simp}}
theorem z2e (h:Host)(m p:Int):(fetched h m p).Memory.length=h.Memory.length:=by unfold fetched zgz;rw[(zib _ _ _ _).2];unfold landing;rw[zbbc,zbbd]
theorem zW3 (h:Host)(m p n:Int):(zl6 h m p n).Memory=h.Memory:=by unfold zl6;cases ieq (wand .i64 n 2) 0;{unfold opened;cases ieq (wand .i64 (ix (ix (zbO h m p).Mons m mZ).Outer p sZ).Rights 2) 0;{rfl};{exact(zib _ _ _ _).2}};{rfl}
theorem z4U (h:Host)(m p n:Int):(mended h m p n).Memory.length=h.Memory.length:=by unfold mended;cases ieq (ix (ix h.Mons m mZ).Outer p sZ).Page (-1);{exact congrArg List.length (zW3 _ _ _ _)};{exact(congrArg List.length<|zW3 _ _ _ _).trans (z2e _ _ _)}
theorem z4V (h:Host)(m g p:Int)(a:Bool):(zwW h m g p a).Memory=h.Memory:=by cases a<;>rfl
theorem z7C (h:Host)(b:List Entry)(m g c a q:Int)(d:Bool):(zhQ h b m g c a q d).1.Memory.length=h.Memory.length:=by unfold zhQ;cases zj3 b m g c a;{cases zfJ h m g c a;{exact congrArg List.length (z4V _ _ _ _ _)};{exact(congrArg List.length<|z4V _ _ _ _ _).trans (z4U h m q a)}};{rfl}
theorem zbbb (h:Host)(b:List Entry)(m g page need:Int)(io:Bool):(lookOf h b m g page need io).1.Memory.length=h.Memory.length:=by unfold lookOf;cases zbZ h m g page need;{rfl};{simp only [cT];rw[z7C];cases ieq need 2<;>rfl}
structure Keep (h r:Host):Prop where
 shape:Shape r
 cnt:cnt r.Mons=cnt h.Mons
 mem:r.Memory.length=h.Memory.length
theorem Keep.has {h r:Host}(k:Keep h r){m:Int}(a:hasB m (ln h.Mons)=true):hasB m (ln r.Mons)=true:=by rw[ln,zbat k.cnt];exact a
theorem Keep.hg {h r:Host}(k:Keep h r){m g:Int}(hg:hasB g (ln (ix h.Mons m mZ).Guests)=true):hasB g (ln (ix r.Mons m mZ).Guests)=true:=by rw[ln,zbb0 k.cnt];exact hg
theorem Keep.trans {a b c:Host}(h:Keep a b)(k:Keep b c):Keep a c:=⟨k.shape,k.cnt.trans h.cnt,k.mem.trans h.mem⟩
theorem Keep.rfl' {h:Host}(a:Shape h):Keep h h:=⟨a,rfl,rfl⟩
theorem zpY {h:Host}{m g:Int}{x:Guest}(b:Shape h)(a:hasB m (ln h.Mons)=true)(c:SmG x):Keep h (zht h m g x):=⟨z2M b a c,zVi a (by simp),rfl⟩
theorem zDy {h:Host}{b:List Entry}{m g page need:Int}{io:Bool}(c:SmH h)(a:zb8 h m g=true):Keep h (lookOf h b m g page need io).1:=by have k:=zuO (b:=b) (page:=page) (need:=need) (io:=io) c a;exact⟨k.shape,zbbZ k.gs,zbbb _ _ _ _ _ _ _⟩
theorem z4E {h:Host}{p c v:Int}(a:Shape h):Keep h {h with Memory:=zbU h.Memory p c v}:=⟨zSK a<|zpP a.1.1,rfl,zbba _ _ _ _⟩
theorem z1X {h:Host}{m:Int}(a:Shape h)(b:hasB m (ln h.Mons)=true):Keep h (owned h m):=by obtain⟨c,d⟩:=zcW a b;unfold owned;cases ilt (ix h.Mons m mZ).Own 1000000000;{exact Keep.rfl' a};{exact⟨zkX a c d,zVi b rfl,rfl⟩}
theorem z1W {h:Host}{m n:Int}(b:Shape h)(c:hasB m (ln h.Mons)=true):Keep h (zjw h m n):=by obtain⟨a,d⟩:=zcW b c;unfold zjw;cases e:ilt (ln (ix h.Mons m mZ).Outs) 40;{exact Keep.rfl' b};{have f:=qD e;simp only[ln]at f;refine⟨zkX b ⟨a.1,a.2.1,a.2.2.1,a.2.2.2.1,?_,a.2.2.2.2.2⟩ d,zVi c rfl,rfl⟩;simp[ap];omega}
theorem z4G {h:Host}{m g:Int}{x:Guest}{w:Int}(d:Shape h)(b:hasB m (ln h.Mons)=true)(e:SmG x):Keep h (zmm h m g x w):=by have a:Keep h (zfA h m x w):=(by unfold zfA;cases (cond (ine w 6) (ieq (zoB (ix h.Mons m mZ).Traps x.Ctl.Traps<|zgM w) 2) false);{exact Keep.rfl' d};{exact z1X d b});have f:Keep (zfA h m x w) (zh3 (zfA h m x w) m x w):=(by unfold zh3;cases (cond (zis x.Ctl.Traps w) (ieq w 5) false);{exact Keep.rfl' a.shape};{exact z1W a.shape (a.has b)});have c:=a.trans f;exact c.trans (zpY c.shape (c.has b)<|zEc _ _ e)
theorem z4F {h:Host}{m g:Int}(f:SmH h)(e:zb8 h m g=true):Keep h (zcH h m g).1:=by obtain⟨l,a,n⟩:=zdO e;have d:=zmx f a n;have i:=(zfQ f l).1;rw[zkY e];unfold zNH;cases ieq (zL<|gOf h m g) 0;{cases ieq (zL<|gOf h m g) 1;{cases ieq (zL<|gOf h m g) 2;{cases (cond (ieq (zL<|gOf h m g) 3) true<|ieq (zL<|gOf h m g) 4);{exact z4G i a d};{have k:=zDy (b:=h.Buffer) (page:=zbp (address<|gOf h m g)) (need:=zcq (ieq (zL<|gOf h m g) 4)) (io:=false) f e;show Keep h (ziz (zjR h m g (gOf h m g)<|ieq (zL<|gOf h m g) 4) m g (gOf h m g)<|ieq (zL<|gOf h m g) 4);unfold ziz;cases (zjR h m g (gOf h m g)<|ieq (zL<|gOf h m g) 4).2.2;{exact k.trans (zpY k.shape (k.has a) d)};{cases ieq (zL<|gOf h m g) 4;{have k:=zDy (b:=h.Buffer) (page:=zbp (address<|gOf h m g)) (need:=zcq false) (io:=false) f e;exact k.trans (zpY k.shape (k.has a)<|zND _ d)};{have k:=zDy (b:=h.Buffer) (page:=zbp (address<|gOf h m g)) (need:=zcq true) (io:=false) f e;have q:=z4E (p:=(zjR h m g (gOf h m g) true).2.1) (c:=zee (address<|gOf h m g)) (v:=(gOf h m g).A) k.shape;have j:=k.trans q;exact j.trans (zpY j.shape (j.has a)<|zlO d)}}}};{exact zpY i a (zHB d)}};{exact zpY i a (z0N d)}};{exact Keep.rfl' i}
structure Same (h r:Host):Prop where
 sm:SmH r
 cnt:cnt r.Mons=cnt h.Mons
 mem:r.Memory.length=h.Memory.length
 st:r=h\/Shape r
theorem Same.rfl' {h:Host}(a:SmH h):Same h h:=⟨a,rfl,rfl,.inl rfl⟩
theorem Same.trans {a b c:Host}(h:Same a b)(k:Same b c):Same a c:=⟨k.sm,k.cnt.trans h.cnt,k.mem.trans h.mem,by
 rcases k.st with e|e
 .rw [e];exact h.st
 .exact .inr e⟩
theorem z5H {h:Host}(m g:Int)(b:SmH h):Same h (zcH h m g).1:=by cases a:zb8 h m g;{rw [zke a];exact Same.rfl' b};{have k:=z4F b a;exact⟨k.shape.1,k.cnt,k.mem,.inr k.shape⟩}
def zVt:zbd:=[(104,zj9),(118,zj9),(105,zio),(120,zio),(106,zhE),(125,zhE),(107,zhG),(127,zhG),(108,zhF),(129,zhF),(109,zj8),(131,zj8),(111,zji),(133,zji),(113,zj7),(138,zj7),(114,ztR),(115,zr6),(112,zjj),(136,zjj),(98,zlm),(29,zlm)]++z9z
theorem zCR:zQ zVt:=zf zwI (zf zwB<|zf zt5<|zf zt3<|zf zte<|zf ztb<|zf ztg<|zf ztd<|zf ztf<|zf ztc<|zf zwG<|zf zwA<|zf zvo<|zf zvi<|zf zwF<|zf zwz<|zf zwH<|zf zvq<|zf zvp<|zf zvj<|zf zym<|zf zyk z6Y)
def zdP (x:Mon):Bare:=⟨ztO,x.Guests,x.Outs,x.Pending⟩
def zsn (x:Mon)(b:Bare):Mon:={x with Guests:=b.Guests,Pending:=b.Pending}
def zcE (h:Host)(m:Int)(b:Bare):Host:={h with Mons:=up h.Mons m (zsn (ix h.Mons m mZ) b)}
@[simp] abbrev zgq (x:Mon):Bool:=pc (zf8 x)
@[simp] abbrev zb1 (x:Mon):Bare:=zdP x
def zBi:Run:=rF1 (dT .mon) λb=>(zgq b,[aT .bare<|zb1 b])
def zGP (N:Nat)(a:Mon):OA:=
 (oN (ziJ 8)<|oN (zhs a.Guests)<|oN (few<|ln<|ap [] a.Outs)<|some [aT .bare (⟨ze6 8,zh2 a.Guests,ap [] a.Outs,a.Pending⟩:Bare)])
theorem zUl (a:Mon)(c:zgq a=true):∃N,zGP N a=some [aT .bare<|zb1 a]:=by have b:=zD.1 c;refine⟨0,?_⟩;unfold zGP oN;exact must rfl (must (zba<|(zwp _).2 b.2.2.2.1) (must (zpU b.2.2.2.2.1) rfl))
theorem zMo:vV 365 zBi:=kF1 zCR zl zbB zir (zq []) zUl
@[simp] abbrev zgp (h:Host)(m:Int)(b:Bare):Bool:=pc (hasB m (ln h.Mons)=true/\zpx b.Guests)
@[simp] abbrev zi5 (h:Host)(m:Int)(b:Bare):Host:=zcE h m b
theorem zN7 {l:List Mon}{m:Int}(a:hasB m (ln l)=true)(b:Bare):inb m (ln<|up l m {ix l m mZ with Guests:=b.Guests})=true/\
 up (up l m {ix l m mZ with Guests:=b.Guests}) m {ix (up l m {ix l m mZ with Guests:=b.Guests}) m mZ with Pending:=b.Pending}=up l m (zsn (ix l m mZ) b):=by
 obtain⟨k,rfl,c⟩:=zeN (n:=l.length) a;refine⟨zA (by rw[ln,zgN];exact a),?_⟩
 rw[zrv,zed c];rfl
def ztV:List AV->Option (Bool×List AV)
 |[.agg [.s (.sl .int) b,.s .mon c,.s .entry d,.s .entry e],.one<|.i .i64 f,.agg [.s (.sl .int) g,.s .guest h,.s .int j,.i .i64 k]]=>some (zgp (⟨b,c,d,e⟩:Host) f (⟨g,h,j,k⟩:Bare),[aH<|zi5 (⟨b,c,d,e⟩:Host) f (⟨g,h,j,k⟩:Bare)])
 |_=>none
def zxp (N:Nat)(b:Host)(a:Int)(c:Bare):OA:=
 (oN (zhs c.Guests)<|oN (inb a<|ln b.Mons)<|share (up b.Mons a ({ (ix b.Mons a zh) with Guests:=(zh2 c.Guests)}:Mon)) λd=>oN (inb a<|ln d)<|share (up d a ({ (ix d a zh) with Pending:=c.Pending}:Mon)) λe=>some [aH ({b with Mons:=e}:Host)])
theorem zW9 (N:Nat)(a:Host)(b:Int)(c:Bare):z1C (cQ zVt zqA z2s z8t) (zq []) N 12 366 [true,true,true,true,false,false,false,false,false] [aH a,aI b,aT .bare c]=zxp N a b c:=by kernel_rfl
theorem zUk (b:Host)(c:Int)(a:Bare)(i:zbE big [aH b,aI c,aT .bare a])(h:zgp b c a=true):∃N,zxp N b c a=some [aH<|zi5 b c a]:=by obtain⟨d,hg⟩:=zD.1 h;obtain⟨f,g⟩:=zN7 d a;refine⟨0,?_⟩;unfold zxp oN;refine must (zba<|(zwp _).2 hg) (must (zA d)<|shr<|must f<|shr ?_);have e:zh2 a.Guests=a.Guests:=rfl;rw[e];show some [AV.agg<|zbh {b with Mons:=_}]=some [AV.agg<|zbh {b with Mons:=_}];rw[show zh=mZ from rfl,g]
theorem zMn:zfB Tryz.prog 366 [true,true,true,true,false,false,false,false,false] none ztV:=by refine zOy (zin zCR zl zbB zir) (zkm (by kernel_rfl)) (by kernel_rfl) ?_;intro a g f e h;have c:=zk8 e;unfold ztV at h;split at h;{obtain⟨d,rfl⟩:=zfo h;obtain⟨N,b⟩:=zUk _ _ _ (by exact c) d;exact⟨_,N,12,(zW9 N _ _ _ ).trans b⟩};{cases h}
def z3J:zbd:=[(365,zBi)]++zVt
theorem zfC:zQ z3J:=zf zMo zCR
def zbdt:zgP:=[(366,[true,true,true,true,false,false,false,false,false],none,ztV)]++z8t
theorem zbT:zfu zbdt:=zsd zir (by
 intro x a;simp only[qG,qZ,or_false]at a;rcases a with rfl
 .exact zMn)
def z97 (h:Host)(m:Int)(c:Bool)(B:Bare)(ok:Bool)(a b:Host->Ans):OA:=
 bif zM h then (cond (zcj h) (cond (cond (zci h) false true) (some<|a h)<|cond (zbj m<|ln h.Mons) (cond (cond (zca m<|ln h.Mons) false true) (some<|a h)<|cond (zdg h m) (cond c (cond ok (cond (zdh B.Guests) (cond (inb m<|ln h.Mons) (share (up h.Mons m {ix h.Mons m mZ with Guests:=B.Guests}) λx=>cond (inb m<|ln x) (share (up x m {ix x m mZ with Pending:=B.Pending}) λy=>some (b {h with Mons:=y})) none) none) none)<|some<|b h) none) none) none) none) else none
def zbac (h:Host)(m:Int)(a:Bool)(B:Bare)(b c:Host->Ans):OA:=
 bif zM h then (cond (zhg h m) (cond (cond (zhf h m) false true) (some<|b h)<|cond (inb m<|ln h.Mons) (cond (zgq<|ix h.Mons m mZ) (cond a (cond (zgp h m B) (some<|c<|zcE h m B) none) none) none) none) none) else none
theorem zbv {h:Host}{m:Int}:(zck h m=true)↔zbP h=true/\hasB m (ln h.Mons)=true:=by unfold zck;cases zbP h<;>simp
theorem zpF {h:Host}{m:Int}{cB:Bool}{B:Bare}{ok:Bool}{o0 o1:Host->Ans}(l:SmH h)(k:zck h m=true->cB=true)(j:zck h m=true->SmB B)(c:zck h m=true->ok=false->zcE h m B=h) :
 z97 h m cB B ok o0 o1=some (cond (zck h m) (o1<|zcE h m B)<|o0 h):=by
 have i:zdv h:=(zO h).2 l;unfold z97;refine must (zba i) (must rfl ?_);rw[show zci h=zbP h from rfl]
 have g:zbP h=true->hasB m (ln h.Mons)=true->cB=true:=λa b=>k (zbv.2 ⟨a,b⟩);have f:zbP h=true->hasB m (ln h.Mons)=true->SmB B:=λa b=>j (zbv.2 ⟨a,b⟩);unfold zck at c ⊢;cases e:zbP h
 .rfl
 .refine zb4 rfl (must rfl ?_);rw[show zca m (ln h.Mons)=hasB m (ln h.Mons) from rfl]
  rw[e]at c;cases d:hasB m (ln h.Mons)
  .rfl
  .rw [d]at c;refine zb4 rfl (must (zbu i)<|must (g e d) ?_);cases ok
   .simp only [cT,cF,c rfl rfl]
   .obtain⟨e1,e2⟩:=zN7 d B;refine must rfl (must (zba (f e d).2.1)<|must (zA d)<|shr<|must e1<|shr ?_)
    show some (o1 {h with Mons:=_})=_
    rw[e2];rfl
theorem zpS {h:Host}{m:Int}{cB:Bool}{B:Bare}{o0 o1:Host->Ans}(c:SmH h)(e:zck h m=true->cB=true)(d:zck h m=true->SmB B):zbac h m cB B o0 o1=some (cond (zck h m) (o1<|zcE h m B)<|o0 h):=by unfold zbac;refine must (zba<|(zO h).2 c) (must rfl ?_);rw[show zhf h m=zck h m from rfl];cases a:zck h m;{rfl};{have b:=(zbv.1 a).2;exact zb4 rfl (must (zA b)<|must (zba<|c.2.1.2 _<|zbQ b _)<|must (e a) (must (zba ⟨b,(d a).2.1⟩) rfl))}
structure SameB (b c:Bare):Prop where
 g:b.Guests=c.Guests
 p:b.Pending=c.Pending
 o:zbW b=zbW c
theorem SameB.at {b c:Bare}(h:SameB b c)(g:Int):gAt b g=gAt c g:=by unfold gAt;rw[h.g]
theorem SameB.has {b c:Bare}(h:SameB b c)(g:Int):zbR b g=zbR c g:=by unfold zbR;rw[h.g,h.o]
theorem back_eq {h:Host}{m:Int}{b c:Bare}(hg:b.Guests=c.Guests)(a:b.Pending=c.Pending):zcE h m b=zcE h m c:=by unfold zcE zsn;rw[hg,a]
theorem zrI {b c:Bare}(a:SameB b c)(h:Host)(m g:Int)(k:Bool)(x:Guest):zcE h m (chg b g k x)=zcE h m (chg c g k x):=by unfold chg;rw[a.has];cases (cond (zbR c g) k false);{exact back_eq a.g a.p};{exact back_eq (by simp only[cT,zev,a.g]) a.p}
theorem znN {b c:Bare}(a:SameB b c)(g:Int)(k:Bool):zb0 b g k=zb0 c g k:=by unfold zb0;rw[a.has]
theorem zlE {h:Host}{m:Int}(a:hasB m (ln h.Mons)=true):zcE h m (zB h m)=h:=by unfold zcE zsn zB;rw[a,cT];simp only;rw[zYu a]
theorem zlN {h:Host}{m:Int}(b:zck h m=true)(d:zbW (zdP<|ix h.Mons m mZ)=true):SameB (zdP<|ix h.Mons m mZ) (zB h m):=by obtain⟨c,a⟩:=zbv.1 b;refine⟨?_,?_,d.trans (zso c a).symm⟩<;>unfold zB zdP<;>rw [a]<;>rfl
theorem zba9:zkq ztO 8=true:=by decide
theorem zp7 {h:Host}{m:Int}(b:zck h m=true):zbW (zdP<|ix h.Mons m mZ)=true:=by obtain⟨c,a⟩:=zbv.1 b;have:=zso c a;unfold zB at this;rw[a,cT] at this;unfold zbW at this ⊢;simp only[zdP,zba9] at *;simp_all
theorem zgy {x:Mon}(h:zf8 x):SmB (zdP x):=⟨show SmM ztO from ⟨by decide,by decide⟩,h.2.2.2.1,h.2.2.2.2.1⟩
theorem zu8 {b:Bare}{g:Int}{k:Bool}{x:Guest}(h:zb0 b g k=false):chg b g k x=b:=by unfold chg;unfold zb0 at h;rw[h];rfl
def zgu (h:Host)(m:Int)(b:Bare):Host:=bif zck h m then zcE h m b else h
def zfz (h:Host)(m:Int)(ok:Bool):Bool:=bif zck h m then ok else false
@[simp] abbrev zgU (h:Host)(m:Int)(g p:Int)(s:Slot):Host:=zgu h m (zdo (zB h m) g p s)
@[simp] abbrev zhV (h:Host)(m:Int)(g p:Int)(s:Slot):Bool:=zfz h m (zdJ (zB h m) g p s)
@[simp] abbrev zfj (h:Host)(m:Int)(g v:Int):Host:=zgu h m (zcc (zB h m) g v)
@[simp] abbrev zfV (h:Host)(m:Int)(g v:Int):Bool:=zfz h m (zcr (zB h m) g v)
@[simp] abbrev zfl (h:Host)(m:Int)(g:Int):Host:=zgu h m (zce (zB h m) g)
@[simp] abbrev zfX (h:Host)(m:Int)(g:Int):Bool:=zfz h m (zct (zB h m) g)
@[simp] abbrev zfk (h:Host)(m:Int)(g n:Int):Host:=zgu h m (zcd (zB h m) g n)
@[simp] abbrev zfW (h:Host)(m:Int)(g n:Int):Bool:=zfz h m (zcs (zB h m) g n)
@[simp] abbrev zhT (h:Host)(m:Int)(g:Int)(x:Ctl):Host:=zgu h m (zcX (zB h m) g x)
@[simp] abbrev zhU (h:Host)(m:Int)(g:Int)(x:Ctl):Bool:=zfz h m (zdc (zB h m) g x)
@[simp] abbrev zgg (h:Host)(m:Int)(n:Int):Host:=zgu h m (zde (zB h m) n)
@[simp] abbrev zg8 (h:Host)(m:Int)(n:Int):Bool:=zfz h m (zdw (zB h m) n)
@[simp] abbrev zgT (h:Host)(m:Int):Host:=zgu h m (zdb<|zB h m)
@[simp] abbrev zhR (h:Host)(m:Int):Int:=bif zck h m then zd9 (zB h m) else -1
@[simp] abbrev zhS (h:Host)(m:Int):Bool:=zfz h m (zdn<|zB h m)
@[simp] abbrev zgs (h:Host)(m g p:Int):Bool:=zfz h m (zb0 (zB h m) g<|hasB p 4)
def zua (b:Bare)(a:GAct):Bare:=bif ieq a.Kind 1 then zfp b a.G else (cond (ieq a.Kind 2) (chg b a.G (ztY a.X ⟨a.Y,a.Z⟩)<|zvX (gAt b a.G) a.X ⟨a.Y,a.Z⟩)<|cond (ieq a.Kind 3) (chg b a.G (hasB a.X 4)<|zeB (gAt b a.G) a.X)<|cond (ieq a.Kind 4) (chg b a.G (ztI (gAt b a.G) a.X)<|zu3 (gAt b a.G) a.X)<|cond (ieq a.Kind 5) (chg b a.G (zxD<|gAt b a.G)<|zvH<|gAt b a.G)<|cond (ieq a.Kind 6) (chg b a.G (zid (gAt b a.G).Pending a.X)<|znd (gAt b a.G) a.X)<|cond (ieq a.Kind 7) (chg b a.G (znO ⟨a.X,a.Y,ieq a.Z 1⟩)<|zCO (gAt b a.G) ⟨a.X,a.Y,ieq a.Z 1⟩)<|cond (ieq a.Kind 8) (zk3 b a.X a.Y a.Z)<|cond (ieq a.Kind 9) (zks b a.X)<|cond (ieq a.Kind 10) (zlR b)<|cond (ieq a.Kind 11) (zzu b a.G a.X a.Y)<|b)
def zzi (b:Bare)(a:GAct):Told:=bif ieq a.Kind 1 then ⟨zhh b a.G,0⟩ else (cond (ieq a.Kind 2) ⟨zb0 b a.G<|ztY a.X ⟨a.Y,a.Z⟩,0⟩<|cond (ieq a.Kind 3) ⟨zb0 b a.G<|hasB a.X 4,0⟩<|cond (ieq a.Kind 4) ⟨zb0 b a.G<|ztI (gAt b a.G) a.X,0⟩<|cond (ieq a.Kind 5) ⟨zb0 b a.G<|zxD<|gAt b a.G,0⟩<|cond (ieq a.Kind 6) ⟨zb0 b a.G<|zid (gAt b a.G).Pending a.X,0⟩<|cond (ieq a.Kind 7) ⟨zb0 b a.G<|znO ⟨a.X,a.Y,ieq a.Z 1⟩,0⟩<|cond (ieq a.Kind 8) ⟨ziA b a.X a.Y a.Z,0⟩<|cond (ieq a.Kind 9) ⟨zge b a.X,0⟩<|cond (ieq a.Kind 10) ⟨zk1 b,zrH b⟩<|cond (ieq a.Kind 11) ⟨zqf b a.G a.X a.Y,0⟩<|⟨zjP b a.G a.X 1,zz4 b a.G a.X⟩)
def zki (l:List Bare)(a:GAct):List Bare:=bif zi a.Kind 1 17 then (cond (zi a.Kind 13 17) l<|cond (hasB a.M<|ln l) (up l a.M<|zua (ix l a.M ztw) a) l) else l
def ziC (l:List Bare)(a:GAct):Told:=bif zi a.Kind 1 17 then (cond (zi a.Kind 13 17) ⟨false,0⟩<|cond (hasB a.M<|ln l) (zzi (ix l a.M ztw) a)<|cond (ieq a.Kind 10) ⟨false,-1⟩ ⟨false,0⟩) else ⟨false,0⟩
def zn7:List GAct->List Bare×List Told->List Bare×List Told
 |[],u=>u
 |a::l,u=>zn7 l (zki u.1 a,ap u.2 [ziC u.1 a])
def z9L (a:List (List<|List Ins))(l:List GAct):List Bare×List Told:=zn7 (l.take 80) ((a.take 3).map zi9,[])
def z3x:zbd:=[(100,zyZ)]++z3v
theorem zRW:zQ z3x:=zf zJb z3w
theorem z8g {b:Bare}{p c v:Int}(h:SmB b):SmB (zk3 b p c v):=by unfold zk3;cases ziA b p c v;{exact h};{exact⟨zpP h.1,h.2⟩}
theorem zbbz {b:Bare}{g a v:Int}(h:SmB b):SmB (zzu b g a v):=by unfold zzu;cases zqf b g a v;{exact h};{exact⟨zpP h.1,h.2⟩}
theorem z0K {b:Bare}(h:SmB b):SmB (zlR b):=by unfold zlR;cases zbW b;{exact h};{exact h}
theorem zXI {b:Bare}{n:Int}(h:SmB b):SmB (zks b n):=by unfold zks;cases zge b n;{exact h};{unfold zEL;cases ieq (ln<|zfs b.Guests n) 0;{exact⟨h.1,(zEd _ zz2 h.2.1).1,h.2.2⟩};{exact h}}
theorem z8f {b:Bare}{a:GAct}(h:SmB b):SmB (zua b a):=by have hg:=zf3 a.G h;unfold zua;cases ieq a.Kind 1;{cases ieq a.Kind 2;{cases ieq a.Kind 3;{cases ieq a.Kind 4;{cases ieq a.Kind 5;{cases ieq a.Kind 6;{cases ieq a.Kind 7;{cases ieq a.Kind 8;{cases ieq a.Kind 9;{cases ieq a.Kind 10;{cases ieq a.Kind 11;{exact h};{exact zbbz h}};{exact z0K h}};{exact zXI h}};{exact z8g h}};{exact ziq h hg}};{exact ziq h hg}};{exact ziq h (zXL hg)}};{exact ziq h (zXJ _ hg)}};{exact ziq h (zru _ hg)}};{exact ziq h (zJP _ _ hg)}};{exact z8h h}
@[simp] abbrev ziV (l:List Bare)(a:GAct):Bool:=pc (ztH l)
@[simp] abbrev zkN (l:List Bare)(a:GAct):List Bare:=zki l a
@[simp] abbrev ziU (l:List Bare)(a:GAct):Told:=ziC l a
def zBc:Run:=rF2 (dS .bare) (dT .act) λb c=>(ziV b c,[aS .bare<|zkN b c,aT .told<|ziU b c])
def zGl (N:Nat)(k:lR)(a:GAct):OA:=
 let j:=ieq a.M a.M;let h:=(⟨a.Y,a.Z⟩:Slot);let e:=zz9 k;let g:=aS .bare e;let f:=inb a.M<|ln e;let c:=ix e a.M ztw; (oN (zvU k)<|oN (zkt a)<|cond (nB<|zuS a) (some [g,.agg [.b false,.i .i64 0]])<|oN (zoZ a.Kind)<|cond (znz a.Kind) (some [g,.agg [.b false,.i .i64 0]])<|oN (zJ a.M 0<|wsub .i64 (ln e) 1)<|cond (nB<|zi a.M 0<|wsub .i64 (ln e) 1) (cond (ieq a.Kind 10) (some [g,.agg [.b false,.i .i64<|-1]])<|some [g,.agg [.b false,.i .i64 0]])<|oN f<|cond (ieq a.Kind 1) (oN (zb6 c a.G)<|oN f<|share (up e a.M<|zgf c a.G) λd=>some [aS .bare d,.agg [.b<|zh7 c a.G,.i .i64 0]])<|cond (ieq a.Kind 2) (oN (ziX c a.G a.X h)<|oN f<|share (up e a.M<|zdo c a.G a.X h) λd=>some [aS .bare d,.agg [.b<|zdJ c a.G a.X h,.i .i64 0]])<|cond (ieq a.Kind 3) (oN (zkb c a.G a.X)<|oN f<|share (up e a.M<|zc4 c a.G a.X) λd=>some [aS .bare d,.agg [.b<|zeM c a.G a.X,.i .i64 0]])<|cond (ieq a.Kind 4) (oN (zgG c a.G a.X)<|oN f<|share (up e a.M<|zcc c a.G a.X) λd=>some [aS .bare d,.agg [.b<|zcr c a.G a.X,.i .i64 0]])<|cond (ieq a.Kind 5) (oN (zb6 c a.G)<|oN f<|share (up e a.M<|zce c a.G) λd=>some [aS .bare d,.agg [.b<|zct c a.G,.i .i64 0]])<|cond (ieq a.Kind 6) (oN (zgH c a.G a.X)<|oN f<|share (up e a.M<|zcd c a.G a.X) λd=>some [aS .bare d,.agg [.b<|zcs c a.G a.X,.i .i64 0]])<|cond (ieq a.Kind 7) (oN (zkt a)<|oN (ziW c a.G<|zjl a)<|oN f<|share (up e a.M<|zcX c a.G<|zjl a) λd=>some [aS .bare d,.agg [.b<|zdc c a.G<|zjl a,.i .i64 0]])<|cond (ieq a.Kind 8) (oN (znr c a.X a.Y a.Z)<|oN f<|share (up e a.M<|zfe c a.X a.Y a.Z) λd=>some [aS .bare d,.agg [.b<|zgj c a.X a.Y a.Z,.i .i64 0]])<|cond (ieq a.Kind 9) (oN (zdF c a.X)<|oN f<|share (up e a.M<|zde c a.X) λd=>some [aS .bare d,.agg [.b<|zdw c a.X,.i .i64 0]])<|cond (ieq a.Kind 10) (oN (zbc c)<|oN f<|share (up e a.M<|zdb c) λd=>some [aS .bare d,.agg [.b<|zdn c,.i .i64<|zd9 c]])<|cond (ieq a.Kind 11) (oN (zxG c a.G a.X a.Y)<|oN f<|share (up e a.M<|zoS c a.G a.X a.Y) λd=>some [aS .bare d,.agg [.b<|zoT c a.G a.X a.Y,.i .i64 0]])<|oN (zvN c a.G a.X)<|oN f<|oN (cond (cond (cond j true false) (cond j true false) false) (cond j true false) false)<|share (up e a.M c) λd=>some [aS .bare d,.agg [.b<|znt c a.G a.X,.i .i64<|zns c a.G a.X]])
theorem zTQ (a:List Bare)(b:GAct)(d:ziV a b=true):∃N,zGl N a b=some [aS .bare<|zkN a b,aT .told<|ziU a b]:=by
 have c:=zD.1 d;have f:hasB b.M (ln a)=true->SmB (ix a b.M ztw):=λh=>z5P c h _;have e:a.length<=1048576:=c.1;refine⟨0,?_⟩;unfold zGl oN nB;conv=>zeta
 refine mu (must rfl (brN (λ_=>?_) λ_=>must rfl (br (λ_=>?_) λ_=>must rfl (brN (λ_=>br (λ_=>?_) λ_=>?_) λ_=>mu (br (λ_=>mu (mu<|shr ?_)) λ_=>br (λ_=>mu (mu<|shr ?_)) λ_=>br (λ_=>mu (mu<|shr ?_)) λ_=>br (λ_=>mu (mu<|shr ?_)) λ_=>br (λ_=>mu (mu<|shr ?_)) λ_=>br (λ_=>mu (mu<|shr ?_)) λ_=>br (λ_=>must rfl (mu<|mu<|shr ?_)) λ_=>br (λ_=>mu (mu<|shr ?_)) λ_=>br (λ_=>mu (mu<|shr ?_)) λ_=>br (λ_=>mu (mu<|shr ?_)) λ_=>br (λ_=>mu (mu<|shr ?_)) λ_=>mu (mu<|mu<|shr ?_))))));all_goals first|rfl|(simp only [*,zkN,ziU,zki,ziC,zua,zzi,cT,cF]<;>rfl)|simp_all[Ty.cells,zkN,ziU,zki,ziC,zua,zzi]
theorem zLQ:vV 32 zBc:=kF2 zRW zbf zn zo (zq []) zTQ
def zbb8:zbd:=[(32,zBc)]++z3x
theorem z3y:zQ zbb8:=zf zLQ zRW
theorem z5Q {l:List Bare}{a:GAct}(h:ztH l):ztH (zki l a):=by unfold zki;cases zi a.Kind 1 17;{exact h};{cases zi a.Kind 13 17;{cases b:hasB a.M (ln l);{exact h};{exact z0M h (z8f<|z5P h b _)}};{exact h}}
def zrX (u:List Bare×List Told):OA:=some [AV.one<|.s .bare u.1,AV.one<|.s .told u.2]
def zxr (a:List (List<|List Ins)):Prop:=a.length<=1048576/\∀p∈a,z6k p
theorem zbbA {b:List (List Ins)}(h:z6k b):SmB (zi9 b):=by refine⟨show SmM ztO from ⟨by decide,by decide⟩,⟨?_,?_⟩,by simp[zi9]⟩;{simp only [zi9,k7,uB];omega};{intro x a;simp only[zi9,jE]at a;obtain⟨p,c,rfl⟩:=a;exact⟨h.2 p<|jX c,show zjO.length<=1048576 by decide,show zjO.length<=1048576 by decide,by simp[zdK]⟩}
theorem z8i {a:List (List<|List Ins)}(h:zxr a):ztH ((a.take 3).map zi9):=by refine⟨?_,?_⟩;{simp only [k7,uB];omega};{intro b c;obtain⟨p,d,rfl⟩:=jE.1 c;exact zbbA (h.2 p<|jX d)}
theorem z7m {d a c:Type}{b:Nat->d->a->(a->Option c)->Option c}{K K':a->Option c}{l:List d}{i:Nat}{t:a}(h:∀t,K t=K' t):goL b K l i t=goL b K' l i t:=by rw[funext h]
theorem zM3 {c:List Bare->GAct->Bool}(d:∀l a,ztH l->c l a=true)(m:Nat):∀(l:List GAct) (i:Nat) (u:List Bare×List Told),ztH u.1->u.2.length+l.length<=2147483648->
 goL (λ(j:Nat) y (u:List Bare×List Told) k=>bif ilt (j:Int) (m:Int) then (cond (c u.1 y) (cond (few<|ln<|ap u.2 [ziC u.1 y]) (k (zki u.1 y,ap u.2 [ziC u.1 y])) none) none) else zrX u) zrX l i u=zrX (zn7 (l.take<|m-i) u)
 |[],i,u,_,_=>by simp[goL,zn7]
 |a::l,i,u,e,g=>by simp only[qU]at g;have f:few (ln<|ap u.2 [ziC u.1 a])=true:=zfE (by simp[ap];omega);by_cases h:i<m;{have b:ilt (i:Int) (m:Int)=true:=qK (by omega);simp only[goL,b,f,d _ _ e,cT];rw[zM3 d m l (i+1) _ (z5Q e) (by simp[ap];omega)];rw[show m-i=m-(i+1)+1 by omega];rfl};{have b:ilt (i:Int) (m:Int)=false:=qH (by omega);simp only[goL,b,cF];rw[show m-i=0 by omega];rfl}
@[simp] abbrev zgh (ps:List (List<|List Ins))(l:List GAct):Bool:=pc (zxr ps/\l.length<=1048576)
@[simp] abbrev zjB (ps:List (List<|List Ins))(l:List GAct):List Bare:=(z9L ps l).1
@[simp] abbrev zg9 (ps:List (List<|List Ins))(l:List GAct):List Told:=(z9L ps l).2
def zWW (l:List GAct)(t:List Bare):OA:=goL (λ(j:Nat) y (u:List Bare×List Told) a=>bif ilt (j:Int) ((80:Nat):Int) then (cond (ziV u.1 y) (cond (few<|ln<|ap u.2 [ziC u.1 y]) (a (zki u.1 y,ap u.2 [ziC u.1 y])) none) none) else zrX u) zrX l 0 (t,[])
def zyY:Run:=rF2 (dS<|.sl<|.sl .ins) (dS .act) λb c=>(zgh b c,[aS .bare<|zjB b c,aS .told<|zg9 b c])
def zCi (N:Nat)(i:lQ)(j:lA):OA:=
 (iter (σ:=(Int×lQ×lA×lR×Unit)) N (λk b=>let f:=ap b.2.2.2.1 [zD7<|ix b.2.1 b.1 []]; (cond (ilt b.1<|ln b.2.1) (cond (ilt b.1 3) (oN (inb b.1<|ln b.2.1)<|oN (zgi<|ix b.2.1 b.1 [])<|oN (few<|ln f)<|k (zN .i64 b.1 1,b.2.1,b.2.2.1,f,()))<|iter (σ:=(Int×lA×lR×lT×Unit)) N (λc a=>let d:=ix a.2.1 a.1 zjU;let g:=ap a.2.2.2.1 [ziU a.2.2.1 d]; (cond (ilt a.1<|ln a.2.1) (cond (ilt a.1 80) (oN (inb a.1<|ln a.2.1)<|oN (ziV a.2.2.1 d)<|oN (few<|ln g)<|c (zN .i64 a.1 1,a.2.1,zkN a.2.2.1 d,g,()))<|some [aS .bare a.2.2.1,aS .told a.2.2.2.1])<|some [aS .bare a.2.2.1,aS .told a.2.2.2.1])) (0,b.2.2.1,b.2.2.2.1,[],()))<|iter (σ:=(Int×lA×lR×lT×Unit)) N (λc a=>let e:=ix a.2.1 a.1 zjU;let h:=ap a.2.2.2.1 [ziU a.2.2.1 e]; (cond (ilt a.1<|ln a.2.1) (cond (ilt a.1 80) (oN (inb a.1<|ln a.2.1)<|oN (ziV a.2.2.1 e)<|oN (few<|ln h)<|c (zN .i64 a.1 1,a.2.1,zkN a.2.2.1 e,h,()))<|some [aS .bare a.2.2.1,aS .told a.2.2.2.1])<|some [aS .bare a.2.2.1,aS .told a.2.2.2.1])) (0,b.2.2.1,b.2.2.2.1,[],()))) (0,i,j,[],()))
def zQ9:=zq [(9,0,{n:=57,tm:=[(0,.sl 0 []),(1,.sl 1 []),(6,.sl 2 []),(7,ti)],lo:=[],ro:=[(0,.sl<|.sl .ins,false),(1,.act,false),(2,.bare,true)]}),(9,2,{n:=57,tm:=[(1,.sl 0 []),(6,.sl 1 []),(8,.sl 2 []),(9,ti)],lo:=[],ro:=[(0,.act,false),(1,.bare,true),(2,.told,true)]})]
theorem zQe (k:List lP)(d:List GAct)(w:zgh k d=true):∃N,zCi N k d=some [aS .bare<|zjB k d,aS .told<|zg9 k d]:=by
 obtain⟨r,q⟩:=zD.1 w;have p:=zcu r.1;have e:=zcu q;refine zbX λN m=>?_;unfold zCi oN;conv=>zeta
 refine(zY k (λi (t:lR)=>((i:Int),k,d,t,())) _ (λi (x:List lI) (t:List Bare) B=>bif ilt (i:Int) ((3:Nat):Int) then (cond (few<|ln<|ap t [zi9 x]) (B<|ap t [zi9 x]) none) else zWW d t) (λ(t:lR)=>iter (σ:=(Int×lA×lR×lT×Unit)) N (λA b=>cond (ilt b.1<|ln b.2.1) (cond (ilt b.1 80) (cond (inb b.1<|ln b.2.1) (cond (ziV b.2.2.1<|ix b.2.1 b.1 zjU) (cond (few<|ln<|ap b.2.2.2.1 [ziU b.2.2.1<|ix b.2.1 b.1 zjU]) (A (zN .i64 b.1 1,b.2.1,zkN b.2.2.1<|ix b.2.1 b.1 zjU,ap b.2.2.2.1 [ziU b.2.2.1<|ix b.2.1 b.1 zjU],())) none) none) none)<|some [.one<|.s .bare b.2.2.1,.one<|.s .told b.2.2.2.1])<|some [.one<|.s .bare b.2.2.1,.one<|.s .told b.2.2.2.1]) (0,d,t,[],())) (λi n t rec=>?_) (λt rec=>?_) _ ([])<|m p.1).trans ?_;{simp only [zbn n,zU n,zbb n,zX n p.1,cT];have z:zgi k[i]=true:=zba (r.2 _<|jA n);cases v:ilt (i:Int) 3;{simp only [cF,show ilt (i:Int) ((3:Nat):Int)=false from v];refine(zY d (λj (u:lR×lT)=>((j:Int),d,u.1,u.2,())) _ (λj y (u:List Bare×List Told) c=>bif ilt (j:Int) ((80:Nat):Int) then (cond (ziV u.1 y) (cond (few<|ln<|ap u.2 [ziC u.1 y]) (c (zki u.1 y,ap u.2 [ziC u.1 y])) none) none) else zrX u) (λ(u:lR×lT)=>some [.one<|.s .bare u.1,.one<|.s .told u.2]) (λj g u f=>?_) (λu f=>?_) _ (t,[])<|m e.1).trans ?_;{simp only [zbn g,zU g,zbb g,zX g e.1,cT];rfl};{simp only [zbe,cF]};rfl};{simp only [z,cT,show ilt (i:Int) ((3:Nat):Int)=true from v]}};{simp only [zbe,cF]};refine(z7m (K':=zWW d) ?_).trans ?_;intro t;refine(zY d (λj (u:lR×lT)=>((j:Int),d,u.1,u.2,())) _ (λj y (u:List Bare×List Told) c=>bif ilt (j:Int) ((80:Nat):Int) then (cond (ziV u.1 y) (cond (few<|ln<|ap u.2 [ziC u.1 y]) (c (zki u.1 y,ap u.2 [ziC u.1 y])) none) none) else zrX u) (λ(u:lR×lT)=>some [.one<|.s .bare u.1,.one<|.s .told u.2]) (λj g u f=>?_) (λu f=>?_) _ (t,[])<|m e.1).trans ?_;{simp only [zbn g,zU g,zbb g,zX g e.1,cT];rfl};{simp only [zbe,cF]};rfl;refine(zwQ 3 zi9 (zWW d) k 0 [] (by simpa using p.2)).trans ?_;exact zM3 (λl a h=>zba h) 80 d 0 _ (z8i r) (by simpa using e.2)
theorem zIR:vV 9 zyY:=kF2 z3y zbf zn zo zQ9 zQe
section
open Go Go.RowKit Go.Maps
theorem zDS {H:Type}{P:Program}{e:TypeId}(a:P.underlying e=some .bool){v:Value}{z:DataW H×List MemPlace}(h:plainElem P e v=some z):∃x,v = .bool x/\z=(.lit<|.bool x,[]):=by unfold plainElem at h;rw[a]at h;cases v<;>simp at h;exact⟨_,rfl,h.symm⟩
theorem zZo {H:Type}{P:Program}(w:World){j:Array Oper}{d:List Oper}{o:Oper}{a:Act}{Q:Exit->Act->World->Prop}(hg:o.guard=none)(m x:Operand)(t:TypeId)(p:o.op=Op.lookup t m x false)(k e:TypeId)(K:Keyed P k)(z:P.underlying t=some (.map k e))(r:P.underlying e=some .bool)(C:(zeroValue e).run P w = .ok (.bool false) w)(b n:Nat)(D:DataW H)(y:a.eval m = .map (some b))(g:w.ownsMap P k (plainElem P e) b n D)(i:Value)(s:Lit)(B:a.eval x=i)(f:keyOf P k i=some s)(u:∀c:Bool,D.atKey s (.lit<|.bool false) = .lit (.bool c)->wpList P j Q d (a.put o.dst<|.bool c) w) :
 wpList P j Q (o::d) a w:=by
 refine wpList_plain hg λE l=>?_;obtain⟨v,F,h,A⟩:=g.lookup K z C (plainElem_bool r false) f;obtain⟨c,rfl,q⟩:=zDS r A;simp only[jO]at q;unfold Oper.wp;simp[execOp,p,y,B,h,Result.andThen];exact l _ _ (u c q.1)
def mapOf:List Int->DataW Unit
 |[]=>.map []
 |p::u=>(mapOf u).put (.int .i64 p) (.lit<|.bool true)
theorem zWZ:∀u,IsMap (mapOf u)
 |[]=>isMap_empty
 |p::u=>(zWZ u).put _ _
theorem zJC (p:Int):∀u,(mapOf u).atKey (.int .i64 p) (.lit<|.bool false) = .lit (.bool<|u.contains p)
 |[]=>rfl
 |q::u=>by by_cases h:p=q;{subst h;rw[mapOf,atKey_put_same (zWZ u) (by exact True.intro)];simp};{rw [mapOf,atKey_put_other (by intro e;cases e;exact h rfl),zJC p u];simp[h]}
theorem z0s:Keyed Tryz.prog 3:=int_keyed Tryz.underlying3
theorem z8y (w:World):(zeroValue 4).run Tryz.prog w = .ok (.bool false) w:=by kernel_rfl
def wf64 (p:Int):Prop:=(Lit.int .i64 p).wf=true
def apS:List (Int×Int)->List Int->Option (List Int)
 |[],u=>some u
 |s::l,u=>if s.1 = -1 then apS l u else if u.contains s.1 then none else apS l (s.1::u)
def apM:List (List<|Int×Int)->List Int->Bool
 |[],_=>true
 |m::l,u=>match apS m u with
  |none=>false
  |some a=>apM l a
theorem zOg {l:List (Int×Int)}{j:Nat}{p r:Int}(h:l[j]?=some (p,r))(u:List Int):apS (l.drop j) u=if p = -1 then apS (l.drop<|j+1) u else if u.contains p then none else apS (l.drop<|j+1) (p::u):=by obtain⟨b,a⟩:=qA.1 h;rw[j5 b,a];rfl
theorem zbak {l:List (List<|Int×Int)}{k:Nat}{m:List (Int×Int)}(h:l[k]?=some m)(u:List Int):apM (l.drop k) u=match apS m u with|none=>false|some c=>apM (l.drop<|k+1) c:=by obtain⟨b,a⟩:=qA.1 h;rw[j5 b,a];rfl
structure SlotsAt (w:World) (B:Nat) (a:Option Addr) (l:List (Int×Int)):Prop where
 at1:∀j p r,l[j]?=some (p,r)->∃b off,a=some ⟨b,off,none⟩/\b<B/\w.cell? ⟨b,off+j*2,none⟩=some (.int .i64 p)/\w.cell? ⟨b,off+j*2+1,none⟩=some (.int .i64 r)/\wf64 p
structure MonsAt (w:World) (B:Nat) (a:Option Addr) (l:List (List (Int×Int))):Prop where
 at1:∀i m,l[i]?=some m->∃b off a2 cap p1 n1 q1 p2 n2 q2 p3 n3 q3 p4 n4 q4 x5 x6 p7 n7 q7 x8,a=some ⟨b,off,none⟩/\b<B/\w.cell? ⟨b,off+i*9,none⟩=some (.slice a2 m.length cap)/\SlotsAt w B a2 m/\m.length<=1048576/\
  w.cell? ⟨b,off+i*9+1,none⟩=some (.slice p1 n1 q1)/\w.cell? ⟨b,off+i*9+2,none⟩=some (.slice p2 n2 q2)/\w.cell? ⟨b,off+i*9+3,none⟩=some (.slice p3 n3 q3)/\w.cell? ⟨b,off+i*9+4,none⟩=some (.slice p4 n4 q4)/\
  w.cell? ⟨b,off+i*9+5,none⟩=some (.int .i64 x5)/\w.cell? ⟨b,off+i*9+6,none⟩=some (.int .i64 x6)/\w.cell? ⟨b,off+i*9+7,none⟩=some (.slice p7 n7 q7)/\w.cell? ⟨b,off+i*9+8,none⟩=some (.int .i64 x8)
theorem zbbl (m x y:Value)(a:Option Addr)(B:Nat)(L:List (List<|Int×Int))(w:World)(hL:L.length<=1048576)(s:MonsAt w w.heap.size a L) :
 Calls Tryz.prog 51 #[.agg #[m,.slice a L.length B,x,y]] w λe w'=>e = .returned (.bool<|apM L [])/\Below w.heap.size w w':=by
 have a1:=@run_makeMap Tryz.prog
 go_enter Tryz.func51,Tryz.ntmps51
 go_wp2
 go_loopw [12] (λi wr=>∃(k:Nat) (u:List Int),k<=L.length/\i = .int .i64 k/\apM (L.drop k) u=apM L []/\wr.ownsMap Tryz.prog 3 (plainElem Tryz.prog 4) (w.heap.size+1) (k*1048576) (mapOf u)/\Below w.heap.size w wr/\w.heap.size+2<=wr.heap.size) (λi _=>L.length-(intOf i).toNat)
 case atStart=>exact⟨0,[],jW _,rfl,rfl,by
  have h:=World.ownsMap_made (H:=Unit) (w.alloc<|Obj.cells #[m,Value.slice a L.length B,x,y] 32) Tryz.prog 3 (plainElem Tryz.prog 4);rw[show (w.alloc<|Obj.cells #[m,Value.slice a L.length B,x,y] 32).heap.size=w.heap.size+1 from by simp]at h
  rw[Nat.zero_mul];exact h,((Below.refl _ _).alloc (qT _) _).alloc (by simp) _,by simp⟩
 case round=>
  obtain⟨k,u,hk,rfl,A,G,E,a3⟩:=hrel
  by_cases a0:k<L.length
  .obtain⟨t,hmm2⟩:∃t,L[k]?=some t:=⟨_,qB (by omega)⟩
   obtain⟨b,a4,a2,S,p1,n1,q1,p2,n2,q2,p3,n3,q3,p4,n4,q4,x5,x6,p7,n7,q7,x8,rfl,hb,T,O,M,W,X,Y,Z,e5,e6,e7,e8⟩:=s.at1 k t hmm2;obtain⟨U,D⟩:∃n,n=t.length:=⟨_,rfl⟩;rw[<- D] at T M;rw[<- E.cell (by exact hb)] at T W X Y Z e5 e6 e7 e8
   go_wp2
   go_loopw [19] (λj R=>∃(q:Nat) (v:List Int),q<=t.length/\j = .int .i64 q/\(match apS (t.drop q) v with|none=>false|some u'=>apM (L.drop<|k+1) u')=apM L []/\R.ownsMap Tryz.prog 3 (plainElem Tryz.prog 4) (w.heap.size+1) (k*1048576+q) (mapOf v)/\Below w.heap.size w R/\w.heap.size+2<=R.heap.size) (λj _=>t.length-(intOf j).toNat)
   case atStart=>exact⟨0,u,jW _,rfl,by rw[uX,<- zbak hmm2];exact A,(G.alloc _).mono (uA _ _),E.alloc (by omega) _,by simp;omega⟩
   case round=>
    obtain⟨q,v,hq,rfl,d,f,g,I⟩:=hrel
    by_cases N:q<t.length
    .obtain⟨⟨p,r⟩,hpr⟩:∃Q,t[q]?=some Q:=⟨_,qB N⟩;obtain⟨b2,V,rfl,J,f0,f1,P⟩:=O.at1 q p r hpr;rw[<- g.cell (by exact J)] at f0 f1
     have z:keyOf Tryz.prog 3 (.int .i64 p)=some (.int .i64 p):=keyOf_int_mk Tryz.underlying3 P
     go_wp2_with (first
      |(at_lookup;refine zZo _ rfl _ _ 165 rfl 3 4 z0s Tryz.underlying165 Tryz.underlying4 (z8y _) (w.heap.size+1) _ _ rfl (f.alloc _) _ _ rfl z ?_;intro c s)
      |(at_mapUpdate;refine wpList_mapUpdate_own _ rfl _ _ _ 165 rfl 3 4 z0s Tryz.underlying165 _ (w.heap.size+1) _ _ rfl (f.alloc _) (by unfold maxLen;omega) _ _ _ rfl rfl z _ [] (plainElem_bool Tryz.underlying4 true) ?_;intro w1 F l)
      |go_in)
     .have h:p = -1:=by simpa using ‹(p == -1)=true›
      have e:=zOg hpr v;rw[if_pos h] at e;refine⟨⟨q+1,v,by omega,by go_num,by rw[<- e];exact d,(f.alloc _).mono (by omega),g.alloc (by omega) _,by simp;omega⟩,by simp[intOf];omega⟩
     .have h:p≠-1:=by simpa using ‹(p == -1)=false›
      have K:c=true:=by assumption
      subst K;rw[zJC]at s;have C:v.contains p=true:=by simpa using s
      have e:=zOg hpr v;rw[if_neg h,if_pos C] at e;rw[e]at d
      go_ret
      exact⟨by rw[<- d];rfl,g.alloc (by omega) _⟩
     .have h:p≠-1:=by simpa using ‹(p == -1)=false›
      have K:c=false:=by assumption
      subst K;rw[zJC]at s;have C:v.contains p=false:=by simpa using s
      have e:=zOg hpr v;rw[if_neg h,if_neg (by rw[C];simp)] at e
      have s1:=l.size;simp at s1
      go_roundw
      case rel=>
       exact⟨q+1,p::v,by omega,by go_num,by rw[<- e];exact d,by simpa [uD,mapOf] using F,(g.alloc (by omega) _).grown l (by simp;omega) (λj hj=>by cases hj;omega),by omega⟩
      case measure=>simp[intOf];omega
    .have hqe:q=t.length:=by omega
     subst hqe
     go_wp2
     rw[vR]at d;exact⟨⟨k+1,v,by omega,by go_num,d,f.mono (by omega),g,I⟩,by simp[intOf];omega⟩
  .have hke:k=L.length:=by omega
   subst hke
   go_wp2
   go_ret
   exact⟨by rw[<- A,vR];rfl,E⟩
def pairs (l:List Slot):List (Int×Int):=l.map λs=>(s.Page,s.Rights)
def z6j (h:Host):Prop:=∀m∈h.Mons,∀s∈m.Outer,wf64 s.Page
theorem z2P {w:World}{B:Nat}{v:Value}{l:List Slot}{S:zbl}(h:Rep false w v (.s .slot l) S)(G:∀x,S x->x<B)(n:∀s∈l,wf64 s.Page):∃a c,v = .slice a (pairs l).length c/\SlotsAt w B a (pairs l):=by
 cases h with
 |nil=>exact⟨none,0,rfl,⟨λj p r h=>by simp[pairs]at h⟩⟩
 |void _ a _ M=>exact⟨some a,0,rfl,⟨λj p r h=>by simp[pairs]at h⟩⟩
 |sl _ _ b k c F e L V K _ u H C z I m D A E y=>refine⟨some ⟨b,k,none⟩,c,by simp[pairs],⟨λj p r d=>?_⟩⟩;unfold pairs at d;rw[qN]at d;cases f:l[j]? with|none=>rw[f]at d;cases d|some s=>rw[f]at d;cases d;have g:j<l.length:=(qA.1 f).1;have J:Ty.width .slot=2:=rfl;have q:=E j 0 g (by decide);have t:=E j 1 g (by decide);rw[(y j s f 0 (.i .i64 s.Page) rfl).int_inv] at q;rw[(y j s f 1 (.i .i64 s.Rights) rfl).int_inv] at t;exact⟨b,k,rfl,G b m,by rw[cell_of_block u];exact q,by rw[cell_of_block u];exact t,n s<|qJ f⟩
theorem ztn {w:World}{v:Value}{t:Ty}{l:List t.den}{S:zbl}(h:Rep false w v (.s t l) S):∃p n q,v = .slice p n q:=by obtain⟨⟨a,b,c,_⟩,_⟩:=h.len;exact⟨a,_,b,c⟩
theorem z4X {w:World}{v:Value}{l:List Mon}{S:zbl}(h:Rep false w v (.s .mon l) S)(B:∀x,S x->x<w.heap.size)(A:∀m∈l,∀s∈m.Outer,wf64 s.Page)(z:∀m∈l,m.Outer.length<=1048576) :
 ∃a g,v = .slice a (l.map λm=>pairs m.Outer).length g/\MonsAt w w.heap.size a (l.map λm=>pairs m.Outer):=by
 cases h with
 |nil=>exact⟨none,0,rfl,⟨λj m h=>by simp at h⟩⟩
 |void _ a _ ho=>exact⟨some a,0,rfl,⟨λj m h=>by simp at h⟩⟩
 |sl _ _ b k g H e fz V K _ U W E C Y t r D Z f=>refine⟨some ⟨b,k,none⟩,g,by simp,⟨λi mm p=>?_⟩⟩;rw[qN]at p;cases d:l[i]? with|none=>rw[d]at p;cases p|some m=>rw[d]at p;cases p;have q:i<l.length:=(qA.1 d).1;have T:∀j,j<9->∀x,K i j x->x<w.heap.size:=λj u x X=>B x (r i j x q u X).1;have c:∀j,j<9->w.cell? ⟨b,k+i*9+j,none⟩=some (V i j):=λj u=>(by rw[cell_of_block U];exact Z i j q u);have F:=qJ d;obtain⟨G,n,I,y⟩:=z2P (f i m d 0 (.s .slot m.Outer) rfl) (T 0 (by decide)) (A m F);obtain⟨p1,n1,q1,J⟩:=ztn (f i m d 1 (.s (.sl .int) m.Out) rfl);obtain⟨p2,n2,q2,L⟩:=ztn (f i m d 2 (.s .bool m.Dirty) rfl);obtain⟨p3,n3,q3,M⟩:=ztn (f i m d 3 (.s .guest m.Guests) rfl);obtain⟨p4,n4,q4,N⟩:=ztn (f i m d 4 (.s .int m.Outs) rfl);have O:=(f i m d 5 (.i .i64 m.Pending) rfl).int_inv;have P:=(f i m d 6 (.i .i64 m.Traps) rfl).int_inv;obtain⟨p7,n7,q7,Q⟩:=ztn (f i m d 7 (.s .kept m.Tables) rfl);have R:=(f i m d 8 (.i .i64 m.Own) rfl).int_inv;refine⟨b,k,G,n,p1,n1,q1,p2,n2,q2,p3,n3,q3,p4,n4,q4,m.Pending,m.Traps,p7,n7,q7,m.Own,rfl,B b t,?_,y,by simpa [pairs] using z m F,?_,?_,?_,?_,?_,?_,?_,?_⟩;{rw [<- I];exact c 0 (by decide)};{rw [<- J];exact c 1 (by decide)};{rw [<- L];exact c 2 (by decide)};{rw [<- M];exact c 3 (by decide)};{rw [<- N];exact c 4 (by decide)};{rw [<- O];exact c 5 (by decide)};{rw [<- P];exact c 6 (by decide)};{rw [<- Q];exact c 7 (by decide)};{rw [<- R];exact c 8 (by decide)}
def zuv (h:Host):Bool:=apM (h.Mons.map λm=>pairs m.Outer) []
@[simp] abbrev zyp (h:Host):Bool:=pc (zdv h/\z6j h)
@[simp] abbrev zDs (h:Host):Bool:=zuv h
def zpH:List AV->Option (Bool×List AV)
 |[.agg [.s (.sl .int) m,.s .mon l,.s .entry b,.s .entry c]]=>some (zyp ⟨m,l,b,c⟩,[.one<|.b<|zDs ⟨m,l,b,c⟩])
 |_=>none
theorem zDh:vV 51 zpH:=by
 refine⟨zkm (by kernel_rfl),?_⟩;intro w A z I f d;unfold zpH at d;split at d
 .rename_i m l b c;simp only[qC,jO]at d;obtain⟨k,rfl⟩:=d;obtain⟨q,t⟩:=zD.1 k;have D:z.length=4:=f.1
  match z,D with
  |[E,y,F,G],_=>
   have B:Rep false w y (.s .mon l) (λb=>b<w.heap.size):=f.2 1 _ y rfl rfl;have e:=q.mons;obtain⟨a,n,rfl,p⟩:=z4X B (λx u=>u) t (λm v=>by
    obtain⟨i,H⟩:=qQ.1 v;exact(e.inv.2 m v (.s .slot m.Outer) (by simp[Ty.cells])).len)
   refine(zbbl E F G a n _ w (by have:=e.len;unfold sm at this;simpa using this) p).mono ?_;rintro r J ⟨rfl,g⟩;refine⟨⟨g.os,g.tape,g.output,g.size,λb C=>g.block b C⟩,[.bool _],λ_ _=>False,⟨rfl,λi c x k u=>?_⟩,rfl,⟨λi x _ h=>h.elim,λi j c x _ _ _ h=>h.elim⟩⟩;cases i with|zero=>cases k;cases u;exact .b _ _|succ i=>simp[zF,AV.cvs]at k
 {cases d}
end
def spS:List Slot->List Int->Option (List Int)
 |[],u=>some u
 |s::l,u=>bif ieq s.Page (-1) then spS l u else (cond (u.any λz=>ieq z s.Page) none<|spS l<|ap u [s.Page])
def spM:List Mon->List Int->Bool
 |[],_=>true
 |m::l,u=>match spS m.Outer u with
  |none=>false
  |some v=>spM l v
def zEH:List Mon->Nat
 |[]=>0
 |m::l=>m.Outer.length+zEH l
theorem z0p {x y:Int}:(ieq x y=true)↔x=y:=by simp[ieq]
theorem zbaj (u:List Int)(p:Int):u.any (λz=>ieq z p)=u.reverse.contains p:=by cases h:u.any (λz=>ieq z p);{have:¬ u.reverse.contains p=true:=λa=>(by rw[kI]at h;have c:p∈u:=(by simpa using a);exact h p c (by simp[ieq]));cases a:u.reverse.contains p;{rfl};{exact absurd a this}};{obtain⟨z,b,e⟩:=kV.1 h;rw[z0p.1 e]at b;simpa using b}
theorem zXQ:∀(l:List Slot) (u:List Int),apS (pairs l) u.reverse=(spS l u).map List.reverse
 |[],u=>rfl
 |s::l,u=>by
  show (if s.Page = -1 then apS (pairs l) u.reverse else if u.reverse.contains s.Page then none else apS (pairs l) (s.Page::u.reverse))=_;unfold spS;rw[zbaj];by_cases h:s.Page = -1;{rw [if_pos h,z0p.2 h,cT];exact zXQ l u};{rw [if_neg h,show ieq s.Page (-1)=false from by simp[ieq,h],cF];cases a:u.reverse.contains s.Page;{have:=zXQ l (ap u [s.Page]);rw[show (ap u [s.Page]).reverse=s.Page::u.reverse from by simp[ap]] at this;simpa using this};{rfl}}
theorem z5X:∀(l:List Mon) (u:List Int),apM (l.map λ(m:Mon)=>pairs m.Outer) u.reverse=spM l u
 |[],u=>rfl
 |m::l,u=>by
  show (match apS (pairs m.Outer) u.reverse with|none=>false|some v=>apM (l.map λ(m:Mon)=>pairs m.Outer) v)=_;rw[zXQ];unfold spM;cases spS m.Outer u with|none=>rfl|some v=>exact z5X l v
theorem z6q (h:Host):zuv h=spM h.Mons []:=z5X h.Mons []
def ApOk (h:Host):Prop:=zdv h/\zEH h.Mons<=16777216
def zbc9:zbd:=[(51,zpH),(52,zoD),(53,znq)]++z1k
theorem z6Z:zQ zbc9:=zf zDh (zf zrB<|zf zqk zu9)
theorem zG6:∀(l:List Mon) (u:List Bool),zjq l u=true->∀x∈l,ze4 x=true
 |[],_,_,x,a=>by cases a
 |m::l,u,h,x,a=>by
  unfold zjq at h;cases b:ze4 m;{rw [b]at h;cases h}
  .rw [b]at h;simp only[cT]at h;cases c:zil m.Outer u with
   |none=>rw[c]at h;cases h
   |some d =>rw[c]at h;rcases qG.1 a with rfl|a;{exact b};{exact zG6 l d h x a}
theorem zG7 {h:Host}(a:zbP h=true):∀x∈h.Mons,ze4 x=true:=by unfold zbP at a;simp only[zdB]at a;exact zG6 _ _ a.2.2.2.2
theorem z8e {t:List Slot}{n:Int}(h:zds t n 12=true):∀s∈t,-1<=s.Page/\s.Page<12:=by intro s c;unfold zds at h;simp only[zdB]at h;have a:=qL.1 h.1 s c;unfold zeT at a;cases b:zc5 s noSlot;{rw [b]at a;simp only[cF,zdB]at a;have:=zf7.1 a.2.1;rw[show wsub .i64 12 1=11 from rfl] at this;omega};{unfold zc5 at b;rw[qE]at b;have:s.Page = -1:=qD b.1;omega}
theorem zSu:∀l:List Mon,(∀x∈l,ze4 x=true)->zEH l=8*l.length
 |[],_=>rfl
 |m::l,h=>by have c:=zp5 (zkM<|h m (by simp));have a:=zSu l (λx b=>h x (by simp[b]));simp only[zEH,qU,a,ln] at *;omega
theorem z3j {h:Host}(b:zdv h)(a:zbP h=true):ApOk h:=by refine⟨b,?_⟩;rw[zSu _<|zG7 a];have:=zMr a;omega
theorem z5o {h:Host}(c:zbP h=true):z6j h:=by intro m d s e;have:=z8e (zkM<|zG7 c m d) s e;unfold wf64 Lit.wf;simp only[qE,decide_eq_true_iff];have a:IntKind.i64.min = -9223372036854775808:=rfl;have b:IntKind.i64.max=9223372036854775807:=rfl;rw[a,b];omega
def zpL (h:Host):Bool:=bif zbP h then (cond (zuv h) (cond (zo5 h) (cond (zm5 h h.Buffer) (zm5 h h.IoBuffer) false) false) false) else false
@[simp] abbrev znV (h:Host):Bool:=zpL h
def zyO:Run:=rF1 dH λb=>(zM b,[aB<|znV b])
def zBX (N:Nat)(a:Host):OA:=
 (oN (zcj a)<|cond (zci a) (oN (zyp a)<|cond (zDs a) (oN (zqq a)<|cond (zj4 a) (oN (zl1 a a.Buffer)<|cond (zhC a a.Buffer) (oN (zl1 a a.IoBuffer)<|some [aB<|zhC a a.IoBuffer]) oF) oF) oF) oF)
theorem zPW (a:Host)(b:zM a=true):∃N,zBX N a=some [aB<|znV a]:=by have c:=zD.1 b;have d:zbP a=true->ApOk a:=z3j c;have e:zbP a=true->z6j a:=z5o;refine⟨0,?_⟩;unfold zBX oN;refine must rfl (br (λ_=>mu (br (λ_=>must rfl (br (λ_=>must rfl (br (λ_=>must rfl ?_) λ_=>?_)) λ_=>?_)) λ_=>?_)) λ_=>?_);all_goals first|rfl|(simp only [*,znV,zpL,zj4,zhC,cT,cF]<;>rfl)|simp_all[Ty.cells,znV,zpL,zj4,zhC]
theorem zIw:vV 11 zyO:=kF1 z6Z zl zn zo (zq []) zPW
theorem z5r {b c:Bare}(a:SameB b c)(n:Int):(zks b n).Guests=(zks c n).Guests/\(zks b n).Pending=(zks c n).Pending/\zge b n=zge c n:=by have e:zge b n=zge c n:=(by unfold zge;rw[a.o]);unfold zks;rw[e];cases zge c n;{exact⟨a.g,a.p,rfl⟩};{unfold zEL;rw[a.g];cases ieq (ln<|zfs c.Guests n) 0;{exact⟨by simp only[cT,cF],by simp only[cT,cF,a.p],rfl⟩};{exact⟨by simp only[cT,a.g],by simp only[cT,a.p],rfl⟩}}
theorem z5q {b:Bare}{n:Int}(h:zge b n=false):zks b n=b:=by unfold zks;rw[h];rfl
theorem z6m {b c:Bare}(a:SameB b c):(zlR b).Guests=(zlR c).Guests/\(zlR b).Pending=(zlR c).Pending/\zrH b=zrH c/\zk1 b=zk1 c:=by unfold zlR zrH zk1;rw[a.o,a.p];cases zbW c;{exact⟨a.g,a.p,rfl,rfl⟩};{exact⟨a.g,rfl,rfl,rfl⟩}
theorem z6l {b:Bare}(h:zk1 b=false):zlR b=b:=by unfold zlR;unfold zk1 at h;cases c:zbW b;{rfl};{rw [c]at h;have a:ilt (zeD b.Pending) 0=true:=(by simpa using h);unfold zhD;simp only[a,cT]}
theorem zuH {H a:Host}{x y:Bool}(c:H=a)(d:x=y):some [AV.agg<|zbh H,AV.one<|.b x]=some [AV.agg<|zbh a,AV.one<|.b y]:=by rw[c,d]
theorem zbau {H a:Host}{n k:Int}{x y:Bool}(c:H=a)(d:n=k)(e:x=y):some [AV.agg<|zbh H,AV.one<|.i .i64 n,AV.one<|.b x]=some [AV.agg<|zbh a,AV.one<|.i .i64 k,AV.one<|.b y]:=by rw[c,d,e]
theorem zQS {b:Bare}(g p:Int)(s:Slot)(a:SmB b):SmB (zdo b g p s):=ziq a (zJP _ _<|zf3 _ a)
theorem z7H {b:Bare}(g p:Int)(s:Slot)(a:zdJ b g p s=false):zdo b g p s=b:=zu8 a
theorem z8a {b c:Bare}(a:SameB b c)(h:Host)(m:Int)(g p:Int)(s:Slot):zcE h m (zdo b g p s)=zcE h m (zdo c g p s)/\zdJ b g p s=zdJ c g p s:=by have e:=a.at g;simp only[zdo,zdJ,e];exact⟨zrI a _ _ _ _ _,znN a _ _⟩
@[simp] abbrev zoY (h:Host)(m:Int)(g p:Int)(s:Slot):Bool:=pc (zdv h)
def zpj:Run:=rF5 dH dI dI dI (dT .slot) λb c d e f=>(zoY b c d e f,[aH<|zgU b c d e f,aB<|zhV b c d e f])
def zGz (N:Nat)(g:Host)(b d e:Int)(f:Slot):OA:=
 let a:=zk g;let c:=ix a.Mons b zh; (oN (zM g)<|oN (zhg a b)<|cond (nB<|zhf a b) (some [aH a,aB false])<|oN (inb b<|ln a.Mons)<|oN (zgq c)<|oN (ziX (zb1 c) d e f)<|oN (zgp a b<|zdo (zb1 c) d e f)<|some [aH<|zi5 a b<|zdo (zb1 c) d e f,aB<|zdJ (zb1 c) d e f])
theorem zT3 (a:Host)(c d e:Int)(f:Slot)(n:zoY a c d e f=true):∃N,zGz N a c d e f=some [aH<|zgU a c d e f,aB<|zhV a c d e f]:=by
 have i:=(zO a).1 (zD.1 n);refine⟨0,?_⟩;have j:=zpS (h:=a) (m:=c) (cB:=ziX (zdP<|ix a.Mons c mZ) d e f) (B:=zdo (zdP<|ix a.Mons c mZ) d e f) (o0:=λH=>[.agg<|zbh H,.one<|.b false]) (o1:=λH=>[.agg<|zbh H,.one<|.b<|zdJ (zdP<|ix a.Mons c mZ) d e f]) i
  (λg=>zba (zgy<|i.2.1.2 _<|zbQ (zbv.1 g).2 _)) (λg=>zQS _ _ _ (zgy<|i.2.1.2 _<|zbQ (zbv.1 g).2 _))
 refine(show zGz 0 a c d e f=_ from j).trans ?_;unfold zgU zhV zgu zfz;cases g:zck a c;{rfl};{obtain⟨k,l⟩:=z8a (zlN g<|zp7 g) a c d e f;simp only[cT];exact zuH k l}
theorem zL0:vV 320 zpj:=kF5 zfC zl zbB zbT (zq []) zT3
def zF6 (N:Nat)(b:Host)(a d e:Int)(f:Slot):OA:=
 let c:=zk b;let h:=zef b a;let j:=zdo h d e f;let i:=zdJ h d e f; (oN (zM b)<|oN (zcj b)<|cond (nB<|zci b) (some [aH c,aB false])<|oN (zbj a<|ln b.Mons)<|cond (nB<|zca a<|ln b.Mons) (some [aH c,aB false])<|oN (zdg b a)<|oN (ziX h d e f)<|cond i (oN (zdh j.Guests)<|oN (inb a<|ln c.Mons)<|share (up c.Mons a ({ (ix c.Mons a zh) with Guests:=(zd1 j.Guests)}:Mon)) λg=>oN (inb a<|ln g)<|share (up g a ({ (ix g a zh) with Pending:=j.Pending}:Mon)) λk=>some [aH ({c with Mons:=k}:Host),aB i])<|some [aH c,aB i])
theorem zTB (a:Host)(c d e:Int)(f:Slot)(k:zoY a c d e f=true):∃N,zF6 N a c d e f=some [aH<|zgU a c d e f,aB<|zhV a c d e f]:=by
 have i:=(zO a).1 (zD.1 k);refine⟨0,?_⟩;have j:=zpF (h:=a) (m:=c) (cB:=ziX (zB a c) d e f) (B:=zdo (zB a c) d e f) (ok:=zdJ (zB a c) d e f) (o0:=λH=>[.agg<|zbh H,.one<|.b false]) (o1:=λH=>[.agg<|zbh H,.one<|.b<|zdJ (zB a c) d e f]) i
  (λg=>zba (ze9 i (zbv.1 g).2)) (λg=>zQS _ _ _ (ze9 i (zbv.1 g).2)) (λg l=>(congrArg (zcE a c)<|z7H _ _ _ l).trans (zlE (zbv.1 g).2))
 refine(show zF6 0 a c d e f=_ from j).trans ?_;unfold zgU zhV zgu zfz;cases zck a c<;>rfl
theorem zLz:vV 33 zpj:=kF5 zfC zl zbB zbT (zq []) zTB
theorem zAb {b:Bare}(g v:Int)(a:SmB b):SmB (zcc b g v):=ziq a (zXJ _<|zf3 _ a)
theorem zZq {b:Bare}(g v:Int)(a:zcr b g v=false):zcc b g v=b:=zu8 a
theorem zZM {b c:Bare}(a:SameB b c)(h:Host)(m:Int)(g v:Int):zcE h m (zcc b g v)=zcE h m (zcc c g v)/\zcr b g v=zcr c g v:=by have e:=a.at g;simp only[zcc,zcr,e];exact⟨zrI a _ _ _ _ _,znN a _ _⟩
@[simp] abbrev zlp (h:Host)(m:Int)(g v:Int):Bool:=pc (zdv h)
def zmb:Run:=rF4 dH dI dI dI λb c d e=>(zlp b c d e,[aH<|zfj b c d e,aB<|zfV b c d e])
def zx6 (N:Nat)(f:Host)(b d e:Int):OA:=
 let a:=zk f;let c:=ix a.Mons b zh; (oN (zM f)<|oN (zhg a b)<|cond (nB<|zhf a b) (some [aH a,aB false])<|oN (inb b<|ln a.Mons)<|oN (zgq c)<|oN (zgG (zb1 c) d e)<|oN (zgp a b<|zcc (zb1 c) d e)<|some [aH<|zi5 a b<|zcc (zb1 c) d e,aB<|zcr (zb1 c) d e])
theorem zJw (a:Host)(c d e:Int)(l:zlp a c d e=true):∃N,zx6 N a c d e=some [aH<|zfj a c d e,aB<|zfV a c d e]:=by
 have g:=(zO a).1 (zD.1 l);refine⟨0,?_⟩;have i:=zpS (h:=a) (m:=c) (cB:=zgG (zdP<|ix a.Mons c mZ) d e) (B:=zcc (zdP<|ix a.Mons c mZ) d e) (o0:=λH=>[.agg<|zbh H,.one<|.b false]) (o1:=λH=>[.agg<|zbh H,.one<|.b<|zcr (zdP<|ix a.Mons c mZ) d e]) g
  (λf=>zba (zgy<|g.2.1.2 _<|zbQ (zbv.1 f).2 _)) (λf=>zAb _ _ (zgy<|g.2.1.2 _<|zbQ (zbv.1 f).2 _))
 refine(show zx6 0 a c d e=_ from i).trans ?_;unfold zfj zfV zgu zfz;cases f:zck a c;{rfl};{obtain⟨j,k⟩:=zZM (zlN f<|zp7 f) a c d e;simp only[cT];exact zuH j k}
theorem zDo:vV 322 zmb:=kF4 zfC zl zbB zbT (zq []) zJw
def zxV (N:Nat)(b:Host)(a c d:Int):OA:=
 let f:=zk b;let e:=zef b a; (oN (zM b)<|oN (zcj b)<|cond (nB<|zci b) (some [aH f,aB false])<|oN (zbj a<|ln b.Mons)<|cond (nB<|zca a<|ln b.Mons) (some [aH f,aB false])<|oN (zdg b a)<|oN (zgG e c d)<|cond (zcr e c d) (oN (zdh (zcc e c d).Guests)<|oN (inb a<|ln f.Mons)<|share (up f.Mons a ({ (ix f.Mons a zh) with Guests:=(zd1 (zcc e c d).Guests)}:Mon)) λg=>oN (inb a<|ln g)<|share (up g a ({ (ix g a zh) with Pending:=(zcc e c d).Pending}:Mon)) λh=>some [aH ({f with Mons:=h}:Host),aB<|zcr e c d])<|some [aH f,aB<|zcr e c d])
theorem zJl (a:Host)(c d e:Int)(j:zlp a c d e=true):∃N,zxV N a c d e=some [aH<|zfj a c d e,aB<|zfV a c d e]:=by
 have g:=(zO a).1 (zD.1 j);refine⟨0,?_⟩;have i:=zpF (h:=a) (m:=c) (cB:=zgG (zB a c) d e) (B:=zcc (zB a c) d e) (ok:=zcr (zB a c) d e) (o0:=λH=>[.agg<|zbh H,.one<|.b false]) (o1:=λH=>[.agg<|zbh H,.one<|.b<|zcr (zB a c) d e]) g
  (λf=>zba (ze9 g (zbv.1 f).2)) (λf=>zAb _ _ (ze9 g (zbv.1 f).2)) (λf k=>(congrArg (zcE a c)<|zZq _ _ k).trans (zlE (zbv.1 f).2))
 refine(show zxV 0 a c d e=_ from i).trans ?_;unfold zfj zfV zgu zfz;cases zck a c<;>rfl
theorem zDe:vV 35 zmb:=kF4 zfC zl zbB zbT (zq []) zJl
theorem zAd {b:Bare}(g:Int)(a:SmB b):SmB (zce b g):=ziq a (zXL<|zf3 _ a)
theorem zZs {b:Bare}(g:Int)(a:zct b g=false):zce b g=b:=zu8 a
theorem zZO {b c:Bare}(a:SameB b c)(h:Host)(m:Int)(g:Int):zcE h m (zce b g)=zcE h m (zce c g)/\zct b g=zct c g:=by have e:=a.at g;simp only[zce,zct,e];exact⟨zrI a _ _ _ _ _,znN a _ _⟩
@[simp] abbrev zls (h:Host)(m:Int)(g:Int):Bool:=pc (zdv h)
def zmd:Run:=rF3 dH dI dI λb c d=>(zls b c d,[aH<|zfl b c d,aB<|zfX b c d])
def zx8 (N:Nat)(e:Host)(b d:Int):OA:=
 let a:=zk e;let c:=ix a.Mons b zh; (oN (zM e)<|oN (zhg a b)<|cond (nB<|zhf a b) (some [aH a,aB false])<|oN (inb b<|ln a.Mons)<|oN (zgq c)<|oN (zb6 (zb1 c) d)<|oN (zgp a b<|zce (zb1 c) d)<|some [aH<|zi5 a b<|zce (zb1 c) d,aB<|zct (zb1 c) d])
theorem zJy (a:Host)(c d:Int)(k:zls a c d=true):∃N,zx8 N a c d=some [aH<|zfl a c d,aB<|zfX a c d]:=by
 have f:=(zO a).1 (zD.1 k);refine⟨0,?_⟩;have g:=zpS (h:=a) (m:=c) (cB:=zb6 (zdP<|ix a.Mons c mZ) d) (B:=zce (zdP<|ix a.Mons c mZ) d) (o0:=λH=>[.agg<|zbh H,.one<|.b false]) (o1:=λH=>[.agg<|zbh H,.one<|.b<|zct (zdP<|ix a.Mons c mZ) d]) f
  (λe=>zba (zgy<|f.2.1.2 _<|zbQ (zbv.1 e).2 _)) (λe=>zAd _ (zgy<|f.2.1.2 _<|zbQ (zbv.1 e).2 _))
 refine(show zx8 0 a c d=_ from g).trans ?_;unfold zfl zfX zgu zfz;cases e:zck a c;{rfl};{obtain⟨i,j⟩:=zZO (zlN e<|zp7 e) a c d;simp only[cT];exact zuH i j}
theorem zDq:vV 323 zmd:=kF3 zfC zl zbB zbT (zq []) zJy
def zxX (N:Nat)(b:Host)(a c:Int):OA:=
 let e:=zk b;let d:=zef b a; (oN (zM b)<|oN (zcj b)<|cond (nB<|zci b) (some [aH e,aB false])<|oN (zbj a<|ln b.Mons)<|cond (nB<|zca a<|ln b.Mons) (some [aH e,aB false])<|oN (zdg b a)<|oN (zb6 d c)<|cond (zct d c) (oN (zdh (zce d c).Guests)<|oN (inb a<|ln e.Mons)<|share (up e.Mons a ({ (ix e.Mons a zh) with Guests:=(zd1 (zce d c).Guests)}:Mon)) λf=>oN (inb a<|ln f)<|share (up f a ({ (ix f a zh) with Pending:=(zce d c).Pending}:Mon)) λg=>some [aH ({e with Mons:=g}:Host),aB<|zct d c])<|some [aH e,aB<|zct d c])
theorem zJn (a:Host)(c d:Int)(i:zls a c d=true):∃N,zxX N a c d=some [aH<|zfl a c d,aB<|zfX a c d]:=by
 have f:=(zO a).1 (zD.1 i);refine⟨0,?_⟩;have g:=zpF (h:=a) (m:=c) (cB:=zb6 (zB a c) d) (B:=zce (zB a c) d) (ok:=zct (zB a c) d) (o0:=λH=>[.agg<|zbh H,.one<|.b false]) (o1:=λH=>[.agg<|zbh H,.one<|.b<|zct (zB a c) d]) f
  (λe=>zba (ze9 f (zbv.1 e).2)) (λe=>zAd _ (ze9 f (zbv.1 e).2)) (λe j=>(congrArg (zcE a c)<|zZs _ j).trans (zlE (zbv.1 e).2))
 refine(show zxX 0 a c d=_ from g).trans ?_;unfold zfl zfX zgu zfz;cases zck a c<;>rfl
theorem zDg:vV 36 zmd:=kF3 zfC zl zbB zbT (zq []) zJn
theorem zAc {b:Bare}(g n:Int)(a:SmB b):SmB (zcd b g n):=ziq a (zf3 (b:=b) _ a)
theorem zZr {b:Bare}(g n:Int)(a:zcs b g n=false):zcd b g n=b:=zu8 a
theorem zZN {b c:Bare}(a:SameB b c)(h:Host)(m:Int)(g n:Int):zcE h m (zcd b g n)=zcE h m (zcd c g n)/\zcs b g n=zcs c g n:=by have e:=a.at g;simp only[zcd,zcs,e];exact⟨zrI a _ _ _ _ _,znN a _ _⟩
@[simp] abbrev zlq (h:Host)(m:Int)(g n:Int):Bool:=pc (zdv h)
def zmc:Run:=rF4 dH dI dI dI λb c d e=>(zlq b c d e,[aH<|zfk b c d e,aB<|zfW b c d e])
def zx7 (N:Nat)(f:Host)(b d e:Int):OA:=
 let a:=zk f;let c:=ix a.Mons b zh; (oN (zM f)<|oN (zhg a b)<|cond (nB<|zhf a b) (some [aH a,aB false])<|oN (inb b<|ln a.Mons)<|oN (zgq c)<|oN (zgH (zb1 c) d e)<|oN (zgp a b<|zcd (zb1 c) d e)<|some [aH<|zi5 a b<|zcd (zb1 c) d e,aB<|zcs (zb1 c) d e])
theorem zJx (a:Host)(c d e:Int)(l:zlq a c d e=true):∃N,zx7 N a c d e=some [aH<|zfk a c d e,aB<|zfW a c d e]:=by
 have g:=(zO a).1 (zD.1 l);refine⟨0,?_⟩;have i:=zpS (h:=a) (m:=c) (cB:=zgH (zdP<|ix a.Mons c mZ) d e) (B:=zcd (zdP<|ix a.Mons c mZ) d e) (o0:=λH=>[.agg<|zbh H,.one<|.b false]) (o1:=λH=>[.agg<|zbh H,.one<|.b<|zcs (zdP<|ix a.Mons c mZ) d e]) g
  (λf=>zba (zgy<|g.2.1.2 _<|zbQ (zbv.1 f).2 _)) (λf=>zAc _ _ (zgy<|g.2.1.2 _<|zbQ (zbv.1 f).2 _))
 refine(show zx7 0 a c d e=_ from i).trans ?_;unfold zfk zfW zgu zfz;cases f:zck a c;{rfl};{obtain⟨j,k⟩:=zZN (zlN f<|zp7 f) a c d e;simp only[cT];exact zuH j k}
theorem zDp:vV 324 zmc:=kF4 zfC zl zbB zbT (zq []) zJx
def zxW (N:Nat)(b:Host)(a c d:Int):OA:=
 let f:=zk b;let e:=zef b a; (oN (zM b)<|oN (zcj b)<|cond (nB<|zci b) (some [aH f,aB false])<|oN (zbj a<|ln b.Mons)<|cond (nB<|zca a<|ln b.Mons) (some [aH f,aB false])<|oN (zdg b a)<|oN (zgH e c d)<|cond (zcs e c d) (oN (zdh (zcd e c d).Guests)<|oN (inb a<|ln f.Mons)<|share (up f.Mons a ({ (ix f.Mons a zh) with Guests:=(zd1 (zcd e c d).Guests)}:Mon)) λg=>oN (inb a<|ln g)<|share (up g a ({ (ix g a zh) with Pending:=(zcd e c d).Pending}:Mon)) λh=>some [aH ({f with Mons:=h}:Host),aB<|zcs e c d])<|some [aH f,aB<|zcs e c d])
theorem zJm (a:Host)(c d e:Int)(j:zlq a c d e=true):∃N,zxW N a c d e=some [aH<|zfk a c d e,aB<|zfW a c d e]:=by
 have g:=(zO a).1 (zD.1 j);refine⟨0,?_⟩;have i:=zpF (h:=a) (m:=c) (cB:=zgH (zB a c) d e) (B:=zcd (zB a c) d e) (ok:=zcs (zB a c) d e) (o0:=λH=>[.agg<|zbh H,.one<|.b false]) (o1:=λH=>[.agg<|zbh H,.one<|.b<|zcs (zB a c) d e]) g
  (λf=>zba (ze9 g (zbv.1 f).2)) (λf=>zAc _ _ (ze9 g (zbv.1 f).2)) (λf k=>(congrArg (zcE a c)<|zZr _ _ k).trans (zlE (zbv.1 f).2))
 refine(show zxW 0 a c d e=_ from i).trans ?_;unfold zfk zfW zgu zfz;cases zck a c<;>rfl
theorem zDf:vV 37 zmc:=kF4 zfC zl zbB zbT (zq []) zJm
theorem zQR {b:Bare}(g:Int)(x:Ctl)(a:SmB b):SmB (zcX b g x):=ziq a (zf3 (b:=b) _ a)
theorem z7G {b:Bare}(g:Int)(x:Ctl)(a:zdc b g x=false):zcX b g x=b:=zu8 a
theorem z7Z {b c:Bare}(a:SameB b c)(h:Host)(m:Int)(g:Int)(x:Ctl):zcE h m (zcX b g x)=zcE h m (zcX c g x)/\zdc b g x=zdc c g x:=by have e:=a.at g;simp only[zcX,zdc,e];exact⟨zrI a _ _ _ _ _,znN a _ _⟩
@[simp] abbrev zoW (h:Host)(m:Int)(g:Int)(x:Ctl):Bool:=pc (zdv h)
def zph:Run:=rF4 dH dI dI dC λb c d e=>(zoW b c d e,[aH<|zhT b c d e,aB<|zhU b c d e])
def zGw (N:Nat)(f:Host)(b d:Int)(e:Ctl):OA:=
 let a:=zk f;let c:=ix a.Mons b zh; (oN (zM f)<|oN (zhg a b)<|cond (nB<|zhf a b) (some [aH a,aB false])<|oN (inb b<|ln a.Mons)<|oN (zgq c)<|oN (ziW (zb1 c) d e)<|oN (zgp a b<|zcX (zb1 c) d e)<|some [aH<|zi5 a b<|zcX (zb1 c) d e,aB<|zdc (zb1 c) d e])
theorem zT0 (a:Host)(c d:Int)(e:Ctl)(l:zoW a c d e=true):∃N,zGw N a c d e=some [aH<|zhT a c d e,aB<|zhU a c d e]:=by
 have g:=(zO a).1 (zD.1 l);refine⟨0,?_⟩;have i:=zpS (h:=a) (m:=c) (cB:=ziW (zdP<|ix a.Mons c mZ) d e) (B:=zcX (zdP<|ix a.Mons c mZ) d e) (o0:=λH=>[.agg<|zbh H,.one<|.b false]) (o1:=λH=>[.agg<|zbh H,.one<|.b<|zdc (zdP<|ix a.Mons c mZ) d e]) g
  (λf=>zba (zgy<|g.2.1.2 _<|zbQ (zbv.1 f).2 _)) (λf=>zQR _ _ (zgy<|g.2.1.2 _<|zbQ (zbv.1 f).2 _))
 refine(show zGw 0 a c d e=_ from i).trans ?_;unfold zhT zhU zgu zfz;cases f:zck a c;{rfl};{obtain⟨j,k⟩:=z7Z (zlN f<|zp7 f) a c d e;simp only[cT];exact zuH j k}
theorem zLX:vV 325 zph:=kF4 zfC zl zbB zbT (zq []) zT0
def zF3 (N:Nat)(b:Host)(a c:Int)(d:Ctl):OA:=
 let f:=zk b;let e:=zef b a; (oN (zM b)<|oN (zcj b)<|cond (nB<|zci b) (some [aH f,aB false])<|oN (zbj a<|ln b.Mons)<|cond (nB<|zca a<|ln b.Mons) (some [aH f,aB false])<|oN (zdg b a)<|oN (ziW e c d)<|cond (zdc e c d) (oN (zdh (zcX e c d).Guests)<|oN (inb a<|ln f.Mons)<|share (up f.Mons a ({ (ix f.Mons a zh) with Guests:=(zd1 (zcX e c d).Guests)}:Mon)) λg=>oN (inb a<|ln g)<|share (up g a ({ (ix g a zh) with Pending:=(zcX e c d).Pending}:Mon)) λh=>some [aH ({f with Mons:=h}:Host),aB<|zdc e c d])<|some [aH f,aB<|zdc e c d])
theorem zTy (a:Host)(c d:Int)(e:Ctl)(j:zoW a c d e=true):∃N,zF3 N a c d e=some [aH<|zhT a c d e,aB<|zhU a c d e]:=by
 have g:=(zO a).1 (zD.1 j);refine⟨0,?_⟩;have i:=zpF (h:=a) (m:=c) (cB:=ziW (zB a c) d e) (B:=zcX (zB a c) d e) (ok:=zdc (zB a c) d e) (o0:=λH=>[.agg<|zbh H,.one<|.b false]) (o1:=λH=>[.agg<|zbh H,.one<|.b<|zdc (zB a c) d e]) g
  (λf=>zba (ze9 g (zbv.1 f).2)) (λf=>zQR _ _ (ze9 g (zbv.1 f).2)) (λf k=>(congrArg (zcE a c)<|z7G _ _ k).trans (zlE (zbv.1 f).2))
 refine(show zF3 0 a c d e=_ from i).trans ?_;unfold zhT zhU zgu zfz;cases zck a c<;>rfl
theorem zLx:vV 38 zph:=kF4 zfC zl zbB zbT (zq []) zTy
theorem zJO {b:Bare}(n:Int)(a:SmB b):SmB (zde b n):=zXI a
theorem z5b {b:Bare}(n:Int)(a:zdw b n=false):zde b n=b:=z5q a
theorem z5G {b c:Bare}(f:SameB b c)(h:Host)(m n:Int):zcE h m (zde b n)=zcE h m (zde c n)/\zdw b n=zdw c n:=by obtain⟨a,d,e⟩:=z5r f n;exact⟨back_eq a d,e⟩
@[simp] abbrev znx (h:Host)(m:Int)(n:Int):Bool:=pc (zdv h)
def zof:Run:=rF3 dH dI dI λb c d=>(znx b c d,[aH<|zgg b c d,aB<|zg8 b c d])
def zCs (N:Nat)(e:Host)(b d:Int):OA:=
 let a:=zk e;let c:=ix a.Mons b zh; (oN (zM e)<|oN (zhg a b)<|cond (nB<|zhf a b) (some [aH a,aB false])<|oN (inb b<|ln a.Mons)<|oN (zgq c)<|oN (zdF (zb1 c) d)<|oN (zgp a b<|zde (zb1 c) d)<|some [aH<|zi5 a b<|zde (zb1 c) d,aB<|zdw (zb1 c) d])
theorem zQn (a:Host)(c d:Int)(k:znx a c d=true):∃N,zCs N a c d=some [aH<|zgg a c d,aB<|zg8 a c d]:=by
 have f:=(zO a).1 (zD.1 k);refine⟨0,?_⟩;have g:=zpS (h:=a) (m:=c) (cB:=zdF (zdP<|ix a.Mons c mZ) d) (B:=zde (zdP<|ix a.Mons c mZ) d) (o0:=λH=>[.agg<|zbh H,.one<|.b false]) (o1:=λH=>[.agg<|zbh H,.one<|.b<|zdw (zdP<|ix a.Mons c mZ) d]) f
  (λe=>zba (zgy<|f.2.1.2 _<|zbQ (zbv.1 e).2 _)) (λe=>zJO _ (zgy<|f.2.1.2 _<|zbQ (zbv.1 e).2 _))
 refine(show zCs 0 a c d=_ from g).trans ?_;unfold zgg zg8 zgu zfz;cases e:zck a c;{rfl};{obtain⟨i,j⟩:=z5G (zlN e<|zp7 e) a c d;simp only[cT];exact zuH i j}
theorem zIX:vV 327 zof:=kF3 zfC zl zbB zbT (zq []) zQn
def zBQ (N:Nat)(b:Host)(a c:Int):OA:=
 let e:=zk b;let d:=zef b a; (oN (zM b)<|oN (zcj b)<|cond (nB<|zci b) (some [aH e,aB false])<|oN (zbj a<|ln b.Mons)<|cond (nB<|zca a<|ln b.Mons) (some [aH e,aB false])<|oN (zdg b a)<|oN (zdF d c)<|cond (zdw d c) (oN (zdh (zde d c).Guests)<|oN (inb a<|ln e.Mons)<|share (up e.Mons a ({ (ix e.Mons a zh) with Guests:=(zd1 (zde d c).Guests)}:Mon)) λf=>oN (inb a<|ln f)<|share (up f a ({ (ix f a zh) with Pending:=(zde d c).Pending}:Mon)) λg=>some [aH ({e with Mons:=g}:Host),aB<|zdw d c])<|some [aH e,aB<|zdw d c])
theorem zPP (a:Host)(c d:Int)(i:znx a c d=true):∃N,zBQ N a c d=some [aH<|zgg a c d,aB<|zg8 a c d]:=by
 have f:=(zO a).1 (zD.1 i);refine⟨0,?_⟩;have g:=zpF (h:=a) (m:=c) (cB:=zdF (zB a c) d) (B:=zde (zB a c) d) (ok:=zdw (zB a c) d) (o0:=λH=>[.agg<|zbh H,.one<|.b false]) (o1:=λH=>[.agg<|zbh H,.one<|.b<|zdw (zB a c) d]) f
  (λe=>zba (ze9 f (zbv.1 e).2)) (λe=>zJO _ (ze9 f (zbv.1 e).2)) (λe j=>(congrArg (zcE a c)<|z5b _ j).trans (zlE (zbv.1 e).2))
 refine(show zBQ 0 a c d=_ from g).trans ?_;unfold zgg zg8 zgu zfz;cases zck a c<;>rfl
theorem zIo:vV 41 zof:=kF3 zfC zl zbB zbT (zq []) zPP
theorem zQQ {b:Bare}(a:SmB b):SmB (zdb b):=z0K a
theorem z7F {b:Bare}(a:zdn b=false):zdb b=b:=z6l a
theorem z7Y {b c:Bare}(g:SameB b c)(h:Host)(m:Int):zcE h m (zdb b)=zcE h m (zdb c)/\zd9 b=zd9 c/\zdn b=zdn c:=by obtain⟨a,d,e,f⟩:=z6m g;exact⟨back_eq a d,e,f⟩
def zpg:Run:=rF2 dH dI λb c=>(zdg b c,[aH<|zgT b c,aI<|zhR b c,aB<|zhS b c])
def zGu (N:Nat)(d:Host)(b:Int):OA:=
 let a:=zk d;let c:=ix a.Mons b zh; (oN (zM d)<|oN (zhg a b)<|cond (nB<|zhf a b) (some [aH a,aI<|-1,aB false])<|oN (inb b<|ln a.Mons)<|oN (zgq c)<|oN (zbc<|zb1 c)<|oN (zgp a b<|zdb<|zb1 c)<|some [aH<|zi5 a b<|zdb<|zb1 c,aI<|zd9<|zb1 c,aB<|zdn<|zb1 c])
theorem zTY (a:Host)(c:Int)(l:zdg a c=true):∃N,zGu N a c=some [aH<|zgT a c,aI<|zhR a c,aB<|zhS a c]:=by
 have e:=(zO a).1 (zD.1 l);refine⟨0,?_⟩;have f:=zpS (h:=a) (m:=c) (cB:=zbc (zdP<|ix a.Mons c mZ)) (B:=zdb (zdP<|ix a.Mons c mZ)) (o0:=λH=>[.agg<|zbh H,.one<|.i .i64<|-1,.one<|.b false]) (o1:=λH=>[.agg<|zbh H,.one<|.i .i64<|zd9<|zdP<|ix a.Mons c mZ,.one<|.b<|zdn<|zdP<|ix a.Mons c mZ]) e
  (λd=>zba (zgy<|e.2.1.2 _<|zbQ (zbv.1 d).2 _)) (λd=>zQQ (zgy<|e.2.1.2 _<|zbQ (zbv.1 d).2 _))
 refine(show zGu 0 a c=_ from f).trans ?_;unfold zgT zhR zhS zgu zfz;cases d:zck a c;{rfl};{obtain⟨g,j,k⟩:=z7Y (zlN d<|zp7 d) a c;simp only[cT];exact zbau g j k}
theorem zLV:vV 328 zpg:=kF2 zfC zl zbB zbT (zq []) zTY
def zF1 (N:Nat)(c:Host)(a:Int):OA:=
 let d:=zk c;let b:=zef c a; (oN (zM c)<|oN (zcj c)<|cond (nB<|zci c) (some [aH d,aI<|-1,aB false])<|oN (zbj a<|ln c.Mons)<|cond (nB<|zca a<|ln c.Mons) (some [aH d,aI<|-1,aB false])<|oN (zdg c a)<|oN (zbc b)<|cond (zdn b) (oN (zdh (zdb b).Guests)<|oN (inb a<|ln d.Mons)<|share (up d.Mons a ({ (ix d.Mons a zh) with Guests:=(zd1 (zdb b).Guests)}:Mon)) λe=>oN (inb a<|ln e)<|share (up e a ({ (ix e a zh) with Pending:=(zdb b).Pending}:Mon)) λf=>some [aH ({d with Mons:=f}:Host),aI<|zd9 b,aB<|zdn b])<|some [aH d,aI<|zd9 b,aB<|zdn b])
theorem zTw (a:Host)(c:Int)(g:zdg a c=true):∃N,zF1 N a c=some [aH<|zgT a c,aI<|zhR a c,aB<|zhS a c]:=by
 have e:=(zO a).1 (zD.1 g);refine⟨0,?_⟩;have f:=zpF (h:=a) (m:=c) (cB:=zbc (zB a c)) (B:=zdb (zB a c)) (ok:=zdn (zB a c)) (o0:=λH=>[.agg<|zbh H,.one<|.i .i64<|-1,.one<|.b false]) (o1:=λH=>[.agg<|zbh H,.one<|.i .i64<|zd9<|zB a c,.one<|.b<|zdn<|zB a c]) e
  (λd=>zba (ze9 e (zbv.1 d).2)) (λd=>zQQ (ze9 e (zbv.1 d).2)) (λd j=>(congrArg (zcE a c)<|z7F j).trans (zlE (zbv.1 d).2))
 refine(show zF1 0 a c=_ from f).trans ?_;unfold zgT zhR zhS zgu zfz;cases zck a c<;>rfl
theorem zLw:vV 42 zpg:=kF2 zfC zl zbB zbT (zq []) zTw
def z3K:zbd:=[(320,zpj),(33,zpj),(322,zmb),(35,zmb),(323,zmd),(36,zmd),(324,zmc),(37,zmc),(325,zph),(38,zph),(327,zof),(41,zof),(328,zpg),(42,zpg)]++z3J
theorem zm3:zQ z3K:=zf zL0 (zf zLz<|zf zDo<|zf zDe<|zf zDq<|zf zDg<|zf zDp<|zf zDf<|zf zLX<|zf zLx<|zf zIX<|zf zIo<|zf zLV<|zf zLw zfC)
def zjN (h:Host)(m t:Int):Host:=bif zbP h then (cond (hasB m<|ln h.Mons) (cond (zi t 0 3) {h with Mons:=up h.Mons m {ix h.Mons m mZ with Traps:=t}} h) h) else h
def zrr (h:Host)(m t:Int):Bool:=bif zbP h then (cond (hasB m<|ln h.Mons) (zi t 0 3) false) else false
@[simp] abbrev znB (h:Host)(m t:Int):Bool:=pc (zdv h)
@[simp] abbrev zii (h:Host)(m t:Int):Host:=zjN h m t
@[simp] abbrev zjK (h:Host)(m t:Int):Bool:=zrr h m t
def zok:Run:=rF3 dH dI dI λb c d=>(znB b c d,[aH<|zii b c d,aB<|zjK b c d])
def zCw (N:Nat)(d:Host)(b c:Int):OA:=
 let a:=zk d; (oN (zM d)<|oN (zcj a)<|cond (nB<|zci a) (some [aH a,aB false])<|oN (zJ b 0<|wsub .i64 (ln a.Mons) 1)<|cond (nB<|zi b 0<|wsub .i64 (ln a.Mons) 1) (some [aH a,aB false])<|oN (zJ c 0 3)<|cond (nB<|zi c 0 3) (some [aH a,aB false])<|oN (inb b<|ln a.Mons)<|share (up a.Mons b ({ (ix a.Mons b zh) with Traps:=c}:Mon)) λe=>some [aH ({a with Mons:=e}:Host),aB true])
theorem zQs (a:Host)(b c:Int)(d:znB a b c=true):∃N,zCw N a b c=some [aH<|zii a b c,aB<|zjK a b c]:=by
 have g:=(zO a).1 (zD.1 d);refine⟨0,?_⟩;unfold zCw zii zjK zjN zrr oN nB;conv=>zeta
 refine must d (must rfl ?_);rw[show zci (zk a)=zbP a from rfl];cases e:zbP a;{rfl};{refine zb4 rfl (must rfl ?_);rw[show zi b 0 (wsub .i64 (ln (zk a).Mons) 1)=hasB b (ln a.Mons) from zRo e b];cases f:hasB b (ln a.Mons);{rfl};{refine zb4 rfl (must rfl ?_);rw[show zi c 0 3=zi c 0 3 from rfl];cases h:zi c 0 3;{rfl};{exact zb4 rfl (must (zA f) rfl)}}}
theorem zI4:vV 359 zok:=kF3 zm3 zl zbB zbT (zq []) zQs
def zB0 (N:Nat)(b:Host)(c d:Int):OA:=
 let a:=zk b; (oN (zM b)<|oN (zcj b)<|cond (nB<|zci b) (some [aH a,aB false])<|oN (zbj c<|ln b.Mons)<|cond (nB<|zca c<|ln b.Mons) (some [aH a,aB false])<|oN (zJ d 0 3)<|cond (nB<|zi d 0 3) (some [aH a,aB false])<|oN (inb c<|ln a.Mons)<|share (up a.Mons c ({ (ix a.Mons c zh) with Traps:=d}:Mon)) λe=>some [aH ({a with Mons:=e}:Host),aB true])
theorem zPZ (a:Host)(b c:Int)(d:znB a b c=true):∃N,zB0 N a b c=some [aH<|zii a b c,aB<|zjK a b c]:=by
 have g:=(zO a).1 (zD.1 d);refine⟨0,?_⟩;unfold zB0 zii zjK zjN zrr oN nB;conv=>zeta
 refine must d (must rfl ?_);rw[show zci a=zbP a from rfl];cases f:zbP a;{rfl};{refine zb4 rfl (must rfl ?_);rw[show zca b (ln a.Mons)=hasB b (ln a.Mons) from rfl];cases e:hasB b (ln a.Mons);{rfl};{refine zb4 rfl (must rfl ?_);rw[show zi c 0 3=zi c 0 3 from rfl];cases h:zi c 0 3;{rfl};{exact zb4 rfl (must (zA e) rfl)}}}
theorem zIz:vV 47 zok:=kF3 zm3 zl zbB zbT (zq []) zPZ
theorem ziS {h:Host}{m p:Int}:(zb5 h m p=true)↔zbP h=true/\hasB m (ln h.Mons)=true/\hasB p 8=true:=by unfold zb5;cases zbP h<;>cases hasB m (ln h.Mons)<;>simp
def zjS (h:Host)(m p:Int):Bool:=ieq (ix (ix h.Mons m mZ).Outer p sZ).Page (-1)
def zn4 (h:Host)(m p:Int):Host:=bif zb5 h m p then (cond (zjS h m p) h<|zeS h m p) else h
def ztl (h:Host)(m p:Int):Bool:=bif zb5 h m p then !zjS h m p else false
def zqE (h:Host)(m p:Int):Host:=bif zb5 h m p then (cond (zjS h m p) (fetched h m p) h) else h
def zvC (h:Host)(m p:Int):Bool:=bif zb5 h m p then zjS h m p else false
@[simp] abbrev zi0 (h:Host)(m p:Int):Host:=zn4 h m p
@[simp] abbrev zkS (h:Host)(m p:Int):Bool:=ztl h m p
@[simp] abbrev zkx (h:Host)(m p:Int):Host:=zqE h m p
@[simp] abbrev zme (h:Host)(m p:Int):Bool:=zvC h m p
theorem zNc {h:Host}(f:SmH h)(c:zbP h=true){m p:Int}(d:hasB m (ln h.Mons)=true)(e:hasB p 8=true) :
 (cond (ieq (ix (ix h.Mons m mZ).Outer p sZ).Page<|-1) (ieq (ix (ix h.Mons m mZ).Outer p sZ).Rights 0) false)=zjS h m p:=by
 have a:=(zus (ziP c _<|zbQ d mZ) e).no;unfold zc5 at a;unfold zjS;rw[<- a];cases b:ieq (ix (ix h.Mons m mZ).Outer p sZ).Page (-1)<;>simp [noSlot,b]
theorem zwS {h:Host}(d:SmH h)(a:zbP h=true){m p:Int}(b:hasB m (ln h.Mons)=true)(c:hasB p 8=true):inb p (ln (ix h.Mons m mZ).Outer)=true :=
 zA (by rw[ln,((zfQ d a).1.2 _ (zbQ b mZ)).1];exact c)
def zpn:Run:=rF3 dH dI dI λb c d=>(zfn b c d,[aH<|zi0 b c d,aB<|zkS b c d])
def zGD (N:Nat)(e:Host)(c b:Int):OA:=
 let a:=zk e;let d:=(ix a.Mons c zh).Outer; (oN (zM e)<|oN (zi2 a c b)<|cond (nB<|zeA a c b) (some [aH a,aB false])<|oN (inb c<|ln a.Mons)<|oN (inb b<|ln d)<|oN zbN<|cond (cond (ieq (ix d b zW).Page zbi.Page) (ieq (ix d b zW).Rights zbi.Rights) false) (some [aH a,aB false])<|oN (zky a c b)<|some [aH<|znC a c b,aB true])
theorem zT5 (a:Host)(b c:Int)(h:zfn a b c=true):∃N,zGD N a b c=some [aH<|zi0 a b c,aB<|zkS a b c]:=by
 have g:=(zO a).1 (zD.1 h);refine⟨0,?_⟩;unfold zGD zi0 zkS zn4 ztl oN nB;conv=>zeta
 refine must h (must rfl ?_);rw[show zeA (zk a) b c=zb5 a b c from rfl];cases i:zb5 a b c;{rfl};{obtain⟨e,d,f⟩:=ziS.1 i;refine zb4 rfl (must (zA d)<|must (zwS g e d f) (must rfl ?_));rw[show (cond (ieq (ix (ix (zk a).Mons b zh).Outer c zW).Page zbi.Page) (ieq (ix (ix (zk a).Mons b zh).Outer c zW).Rights zbi.Rights) false)=zjS a b c from zNc g e d f];cases j:zjS a b c;{exact zb4 rfl (must (zba ⟨(zfQ g e).1,d,f⟩) rfl)};{rfl}}
theorem zL4:vV 356 zpn:=kF3 zm3 zl zbB zbT (zq []) zT5
def zF7 (N:Nat)(a:Host)(b c:Int):OA:=
 let d:=(ix a.Mons b zh).Outer; (oN (zM a)<|oN (zi2 a b c)<|cond (nB<|zeA a b c) (some [aH<|zk a,aB false])<|oN (inb b<|ln a.Mons)<|oN (inb c<|ln d)<|cond (ieq (ix d c zW).Page<|-1) (some [aH<|zk a,aB false])<|oN (zky (zk a) b c)<|some [aH<|znC (zk a) b c,aB true])
theorem zTD (a:Host)(b c:Int)(e:zfn a b c=true):∃N,zF7 N a b c=some [aH<|zi0 a b c,aB<|zkS a b c]:=by
 have h:=(zO a).1 (zD.1 e);refine⟨0,?_⟩;unfold zF7 zi0 zkS zn4 ztl oN nB;conv=>zeta
 refine must e (must rfl ?_);rw[show zeA a b c=zb5 a b c from rfl];cases i:zb5 a b c;{rfl};{obtain⟨f,d,g⟩:=ziS.1 i;refine zb4 rfl (must (zA d)<|must (zwS h f d g) ?_);rw[show ieq (ix (ix a.Mons b zh).Outer c zW).Page (-1)=zjS a b c from rfl];cases j:zjS a b c;{exact zb4 rfl (must (zba ⟨(zfQ h f).1,d,g⟩) rfl)};{rfl}}
theorem zLD:vV 21 zpn:=kF3 zm3 zl zbB zbT (zq []) zTD
def zqW:Run:=rF3 dH dI dI λb c d=>(zfn b c d,[aH<|zkx b c d,aB<|zme b c d])
def zKB (N:Nat)(e:Host)(c b:Int):OA:=
 let a:=zk e;let d:=(ix a.Mons c zh).Outer; (oN (zM e)<|oN (zi2 a c b)<|cond (nB<|zeA a c b) (some [aH a,aB false])<|oN (inb c<|ln a.Mons)<|oN (inb b<|ln d)<|oN zbN<|cond (nB<|cond (ieq (ix d b zW).Page zbi.Page) (ieq (ix d b zW).Rights zbi.Rights) false) (some [aH a,aB false])<|oN (zlL a c b)<|some [aH<|zmF a c b,aB true])
theorem zWI (a:Host)(b c:Int)(h:zfn a b c=true):∃N,zKB N a b c=some [aH<|zkx a b c,aB<|zme a b c]:=by
 have g:=(zO a).1 (zD.1 h);refine⟨0,?_⟩;unfold zKB zkx zme zqE zvC oN nB;conv=>zeta
 refine must h (must rfl ?_);rw[show zeA (zk a) b c=zb5 a b c from rfl];cases i:zb5 a b c;{rfl};{obtain⟨e,d,f⟩:=ziS.1 i;refine zb4 rfl (must (zA d)<|must (zwS g e d f) (must rfl ?_));rw[show (cond (ieq (ix (ix (zk a).Mons b zh).Outer c zW).Page zbi.Page) (ieq (ix (ix (zk a).Mons b zh).Outer c zW).Rights zbi.Rights) false)=zjS a b c from zNc g e d f];cases j:zjS a b c;{rfl};{exact zb4 rfl (must (zba ⟨zfQ g e,d,f⟩) rfl)}}
theorem zPi:vV 357 zqW:=kF3 zm3 zl zbB zbT (zq []) zWI
def zKb (N:Nat)(a:Host)(b c:Int):OA:=
 let d:=(ix a.Mons b zh).Outer; (oN (zM a)<|oN (zi2 a b c)<|cond (nB<|zeA a b c) (some [aH<|zk a,aB false])<|oN (inb b<|ln a.Mons)<|oN (inb c<|ln d)<|cond (ine (ix d c zW).Page<|-1) (some [aH<|zk a,aB false])<|oN (zlL (zk a) b c)<|some [aH<|zmF (zk a) b c,aB true])
theorem zWm (a:Host)(b c:Int)(e:zfn a b c=true):∃N,zKb N a b c=some [aH<|zkx a b c,aB<|zme a b c]:=by
 have h:=(zO a).1 (zD.1 e);refine⟨0,?_⟩;unfold zKb zkx zme zqE zvC oN nB;conv=>zeta
 refine must e (must rfl ?_);rw[show zeA a b c=zb5 a b c from rfl];cases i:zb5 a b c;{rfl};{obtain⟨f,d,g⟩:=ziS.1 i;refine zb4 rfl (must (zA d)<|must (zwS h f d g) ?_);rw[show ine (ix (ix a.Mons b zh).Outer c zW).Page (-1) = !zjS a b c from zje _ _];cases j:zjS a b c;{rfl};{exact zb4 rfl (must (zba ⟨zfQ h f,d,g⟩) rfl)}}
theorem zOP:vV 45 zqW:=kF3 zm3 zl zbB zbT (zq []) zWm
def z3L:zbd:=[(359,zok),(47,zok),(356,zpn),(21,zpn),(357,zqW),(45,zqW)]++z3K
theorem zCS:zQ z3L:=zf zI4 (zf zIz<|zf zL4<|zf zLD<|zf zPi<|zf zOP zm3)
theorem z2S {x:Mon}{b:Bare}(h:zf8 x)(a:zpx b.Guests):zf8 (zsn x b):=⟨h.1,h.2.1,h.2.2.1,a,h.2.2.2.2⟩
theorem zAe {h:Host}{m:Int}{b:Bare}(a:SmH h)(d:hasB m (ln h.Mons)=true)(c:zpx b.Guests):SmH (zcE h m b):=
 ⟨a.1,zkA a.2.1<|z2S (a.2.1.2 _<|zbQ d _) c,a.2.2⟩
theorem zHT {h:Host}{m:Int}(b:Bare)(a:hasB m (ln h.Mons)=true):hasB m (ln (zcE h m b).Mons)=true:=by show hasB m (ln<|up h.Mons m _)=true;rw[ln,zgN];exact a
theorem zbal {h:Host}{m:Int}(b:Bare)(c:hasB m (ln h.Mons)=true):ix (zcE h m b).Mons m mZ=zsn (ix h.Mons m mZ) b:=by obtain⟨k,rfl,a⟩:=zeN (n:=h.Mons.length) c;exact zed a _ _
def zC5 (h:Host)(m g p:Int):Host:=⟨h.Memory,up h.Mons m {ix h.Mons m mZ with Tables:=up (ix h.Mons m mZ).Tables g (zcb (ix (ix h.Mons m mZ).Tables g kZ) p)},zdk h.Buffer (zfa m g) p,zdk h.IoBuffer (zfa m g) p⟩
def z4p (H:Host)(m g p:Int)(o:Host->Ans):OA:=
 bif inb m (ln H.Mons) then (bif inb m (ln H.Mons) then (bif inb g (ln (ix H.Mons m mZ).Tables) then (bif zc1 (ix (ix H.Mons m mZ).Tables g kZ) p then (bif inb g (ln (ix H.Mons m mZ).Tables) then (share (up H.Mons m {ix H.Mons m mZ with Tables:=up (ix H.Mons m mZ).Tables g (zcb (ix (ix H.Mons m mZ).Tables g kZ) p)}) λx=>
  (cond (zij m g) (cond (zeh H.Buffer (zfa m g) p) (cond (zij m g) (cond (zeh H.IoBuffer (zfa m g) p) (some<|o ⟨H.Memory,x,zdk H.Buffer (zfa m g) p,zdk H.IoBuffer (zfa m g) p⟩) none) none) none) none)) else none) else none) else none) else none) else none
theorem zR9 {H:Host}{m g p:Int}{o:Host->Ans}(b:SmH H)(a:hasB m (ln H.Mons)=true)(hg:hasB g (ln (ix H.Mons m mZ).Tables)=true):z4p H m g p o=some (o<|zC5 H m g p):=by have c:=b.2.1.2 _ (zbQ a mZ);unfold z4p;exact must (zA a) (must (zA a)<|must (zA hg)<|must (zba<|c.2.2.2.2.2.2 _<|zbQ hg _)<|must (zA hg)<|shr (must rfl (must (zba b.2.2.1) (must rfl (must (zba b.2.2.2) rfl)))))
def zkn (h:Host)(m g p:Int):Host:=bif zck h m then (cond (zb0 (zB h m) g<|hasB p 4) (zC5 (zcE h m<|chg (zB h m) g (hasB p 4)<|zeB (gAt (zB h m) g) p) m g p) h) else h
@[simp] abbrev zmv (h:Host)(m g p:Int):Bool:=pc (zdv h)
@[simp] abbrev zhr (h:Host)(m g p:Int):Host:=zkn h m g p
theorem zZP {h:Host}{m:Int}(a:hasB m (ln h.Mons)=true):(zB h m).Guests=(ix h.Mons m mZ).Guests:=by unfold zB;rw[a];rfl
theorem zC6 {h:Host}{m g:Int}{k:Bool}(i:SmH h)(e:zck h m=true)(b:Bare)(a:zb0 (zB h m) g k=true):hasB g (ln (ix (zcE h m b).Mons m mZ).Tables)=true:=by obtain⟨f,c⟩:=zbv.1 e;rw[zbal b c];show hasB g (ln (ix h.Mons m mZ).Tables)=true;rw[ln,((zfQ i f).1.2 _ (zbQ c mZ)).2.2.2,<- zZP c];unfold zb0 at a;cases d:zbR (zB h m) g;{rw [d]at a;cases a};{exact(zd7.1 d).2}
def zmT:Run:=rF4 dH dI dI dI λb c d e=>(zmv b c d e,[aH<|zhr b c d e,aB<|zgs b c d e])
def zAM (N:Nat)(i:Host)(a b c:Int):OA:=
 let h:=zlv a b;let e:=zk i;let g:=ix e.Mons a zh;let d:=zi5 e a<|zc4 (zb1 g) b c;let f:=ix d.Mons a zh;let j:=ix f.Tables b zc7; (oN (zM i)<|oN (zhg e a)<|cond (nB<|zhf e a) (some [aH e,aB false])<|oN (inb a<|ln e.Mons)<|oN (zgq g)<|oN (zkb (zb1 g) b c)<|cond (nB<|zeM (zb1 g) b c) (some [aH e,aB false])<|oN (zgp e a<|zc4 (zb1 g) b c)<|oN (inb a<|ln d.Mons)<|oN (inb a<|ln d.Mons)<|oN (inb b<|ln f.Tables)<|oN (zc1 j c)<|oN (inb b<|ln f.Tables)<|share (up d.Mons a ({f with Tables:=(up f.Tables b<|zeP j c)}:Mon)) λk=>oN (zij a b)<|oN (zeh d.Buffer h c)<|oN (zij a b)<|oN (zeh d.IoBuffer h c)<|some [aH (⟨d.Memory,k,zfN d.Buffer h c,zfN d.IoBuffer h c⟩:Host),aB true])
theorem zM0 (a:Host)(c d e:Int)(j:zbE big [aH a,aI c,aI d,aI e])(q:zmv a c d e=true):∃N,zAM N a c d e=some [aH<|zhr a c d e,aB<|zgs a c d e]:=by
 have k:=(zO a).1 (zD.1 q);refine⟨0,?_⟩;unfold zAM zhr zgs zkn zfz oN nB;conv=>zeta
 refine must q (must rfl ?_);rw[show zhf (zk a) c=zck a c from rfl];cases h:zck a c;{rfl};{obtain⟨v,f⟩:=zbv.1 h;have r:=k.2.1.2 _ (zbQ f mZ);have l:=zgy r;have i:=zlN h (zp7 h);have u:zb0 (zdP<|ix a.Mons c mZ) d (hasB e 4)=zb0 (zB a c) d (hasB e 4):=znN i _ _;have s:zcE a c (zc4 (zdP<|ix a.Mons c mZ) d e)=zcE a c (chg (zB a c) d (hasB e 4)<|zeB (gAt (zB a c) d) e):=(by rw[<- i.at];exact zrI i _ _ _ _ _);refine zb4 rfl (must (zA f)<|must (zba r)<|must (zba l) ?_);rw[show zeM (zb1<|ix (zk a).Mons c zh) d e=zb0 (zB a c) d (hasB e 4) from u];cases t:zb0 (zB a c) d (hasB e 4);{rfl};{have j:SmB (zc4 (zdP<|ix a.Mons c mZ) d e):=ziq l (zru _<|zf3 _ l);refine zb4 rfl (must (zba ⟨f,j.2.1⟩) ?_);have n:=zR9 (H:=zcE a c (zc4 (zdP<|ix a.Mons c mZ) d e)) (m:=c) (g:=d) (p:=e) (o:=λH=>[.agg<|zbh H,.one<|.b true]) (zAe k f j.2.1) (zHT _ f) (zC6 k h _ t);refine(show _=_ from n).trans ?_;rw[s];rfl}}
theorem zFl:vV 321 zmT:=hF4 zCS zl zbB zbT (zq []) zM0
def zAt (N:Nat)(e:Host)(a d c:Int):OA:=
 let l:=zij a d;let m:=zc4 (zef e a) d c;let f:=zlv a d;let b:=zk e;let n:=inb a<|ln b.Mons;let g:=zeM (zef e a) d c;let h:=ix b.Mons a zh;let q:=ix h.Tables d zc7; (oN (zM e)<|oN (zcj e)<|cond (nB<|zci e) (some [aH b,aB false])<|oN (zbj a<|ln e.Mons)<|cond (nB<|zca a<|ln e.Mons) (some [aH b,aB false])<|oN (zdg e a)<|oN (zkb (zef e a) d c)<|cond g (oN (zdh m.Guests)<|oN n<|share (up b.Mons a ({h with Guests:=(zd1 m.Guests)}:Mon)) λi=>oN (inb a<|ln i)<|share (up i a ({ (ix i a zh) with Pending:=m.Pending}:Mon)) (λj=>let k:=ix j a zh;let p:=ix k.Tables d zc7; (cond g (oN (inb a<|ln j)<|oN (inb a<|ln j)<|oN (inb d<|ln k.Tables)<|oN (zc1 p c)<|oN (inb d<|ln k.Tables)<|share (up j a ({k with Tables:=(up k.Tables d<|zeP p c)}:Mon)) λr=>oN l<|oN (zeh b.Buffer f c)<|oN l<|oN (zeh b.IoBuffer f c)<|some [aH (⟨b.Memory,r,zfN b.Buffer f c,zfN b.IoBuffer f c⟩:Host),aB g])<|some [aH ({b with Mons:=j}:Host),aB g])))<|cond g (oN n<|oN n<|oN (inb d<|ln h.Tables)<|oN (zc1 q c)<|oN (inb d<|ln h.Tables)<|share (up b.Mons a ({h with Tables:=(up h.Tables d<|zeP q c)}:Mon)) λi=>oN l<|oN (zeh b.Buffer f c)<|oN l<|oN (zeh b.IoBuffer f c)<|some [aH (⟨b.Memory,i,zfN b.Buffer f c,zfN b.IoBuffer f c⟩:Host),aB g])<|some [aH b,aB g])
theorem zMG (a:Host)(c d e:Int)(h:zbE big [aH a,aI c,aI d,aI e])(i:zmv a c d e=true):∃N,zAt N a c d e=some [aH<|zhr a c d e,aB<|zgs a c d e]:=by
 have k:=(zO a).1 (zD.1 i);refine⟨0,?_⟩;unfold zAt zhr zgs zkn zfz oN nB;conv=>zeta
 refine must i (must rfl ?_);rw[show zci a=zbP a from rfl];cases j:zbP a;{unfold zck;rw[j];rfl};{refine zb4 rfl (must rfl ?_);rw[show zca c (ln a.Mons)=hasB c (ln a.Mons) from rfl];cases f:hasB c (ln a.Mons);{unfold zck;rw[j,f];rfl};{have q:zck a c=true:=zbv.2 ⟨j,f⟩;have l:=ze9 k f;have h:SmB (zc4 (zB a c) d e):=ziq l (zru _<|zf3 _ l);rw[q];refine zb4 rfl (must i<|must (zba l) ?_);rw[show zeM (zef a c) d e=zb0 (zB a c) d (hasB e 4) from rfl];cases t:zb0 (zB a c) d (hasB e 4);{rfl};{obtain⟨r,s⟩:=zN7 f (zc4 (zB a c) d e);refine must rfl (must (zba h.2.1)<|must (zA f)<|shr<|must r<|shr ?_);rw[show zh=mZ from rfl,s];have n:=zR9 (H:=zcE a c (zc4 (zB a c) d e)) (m:=c) (g:=d) (p:=e) (o:=λH=>[.agg<|zbh H,.one<|.b true]) (zAe k f h.2.1) (zHT _ f) (zC6 k q _ t);exact must rfl (show _=_ from n)}}}
theorem zE1:vV 34 zmT:=hF4 zCS zl zbB zbT (zq []) zMG
def z3M:zbd:=[(321,zmT),(34,zmT)]++z3L
theorem zCT:zQ z3M:=zf zFl (zf zE1 zCS)
def zXs (h:Host)(m p c v:Int):Host:={mended h m p 2 with Memory:=zbU (mended h m p 2).Memory (ix (ix (mended h m p 2).Mons m mZ).Outer p sZ).Page c v}
def zdR (h:Host)(m p c v:Int):Bool:=bif zb5 h m p then (cond (hasB c 4) (zi v 0 99) false) else false
def zlZ (h:Host)(m p c v:Int):Host:=bif zdR h m p c v then zXs h m p c v else h
@[simp] abbrev znw (h:Host)(m p c v:Int):Bool:=pc (zdv h)
@[simp] abbrev zjE (h:Host)(m p c v:Int):Host:=zlZ h m p c v
@[simp] abbrev zjF (h:Host)(m p c v:Int):Bool:=zdR h m p c v
def z95 (H:Host)(m p c v:Int)(o:Host->Ans):OA:=
 bif zgY H m p 2 then (cond (inb m<|ln (mended H m p 2).Mons) (cond (inb p<|ln (ix (mended H m p 2).Mons m mZ).Outer) (cond (zdf (mended H m p 2).Memory (ix (ix (mended H m p 2).Mons m mZ).Outer p sZ).Page c v) (some<|o<|zXs H m p c v) none) none) none) else none
theorem zXr {h:Host}{m p c v:Int}{o:Host->Ans}(j:SmH h)(i:zb5 h m p=true):z95 h m p c v o=some (o<|zXs h m p c v):=by obtain⟨g,b,a⟩:=ziS.1 i;have f:=zfQ j g;obtain⟨d,e⟩:=zvY (n:=2) f b a;unfold z95;refine must (zba ⟨f,b,a,.inr rfl,zus (ziP g _<|zbQ b mZ) a⟩) (must (zA e)<|must (zA ?_) (must (zba d.1.1) rfl));rw[ln,(d.2 _<|zbQ e mZ).1];exact a
def zoe:Run:=rF5 dH dI dI dI dI λb c d e f=>(znw b c d e f,[aH<|zjE b c d e f,aB<|zjF b c d e f])
def zCr (N:Nat)(g:Host)(b c:Int)(e f:Int):OA:=
 let a:=zk g;let d:=zgK a b c 2;let h:=(ix d.Mons b zh).Outer;let i:=(ix h c zW).Page; (oN (zM g)<|oN (zi2 a b c)<|cond (nB<|zeA a b c) (some [aH a,aB false])<|oN (zJ e 0 3)<|cond (nB<|zi e 0 3) (some [aH a,aB false])<|oN (zJ f 0 99)<|cond (nB<|zi f 0 99) (some [aH a,aB false])<|oN (zgY a b c 2)<|oN (inb b<|ln d.Mons)<|oN (inb c<|ln h)<|oN (zdf d.Memory i e f)<|some [aH ({d with Memory:=(zdG d.Memory i e f)}:Host),aB true])
theorem zQm (d:Host)(f g:Int)(a e:Int)(i:znw d f g a e=true):∃N,zCr N d f g a e=some [aH<|zjE d f g a e,aB<|zjF d f g a e]:=by
 have k:=(zO d).1 (zD.1 i);refine⟨0,?_⟩;unfold zCr zjE zjF zlZ zdR oN nB;conv=>zeta
 refine must i (must rfl ?_);rw[show zeA (zk d) f g=zb5 d f g from rfl];cases j:zb5 d f g;{rfl};{refine zb4 rfl (must rfl ?_);rw[show zi a 0 3=hasB a 4 from zbcO a];cases l:hasB a 4;{rfl};{refine zb4 rfl (must rfl ?_);rw[show zi e 0 99=zi e 0 99 from rfl];cases m:zi e 0 99;{rfl};{have h:=zXr (c:=a) (v:=e) (o:=λH=>[.agg<|zbh H,.one<|.b true]) k j;exact zb4 rfl (show _=_ from h)}}}
theorem zIW:vV 326 zoe:=kF5 zCT zl zbB zbT (zq []) zQm
theorem z5p {h:Host}{m p c v:Int}(a:hasB m (ln h.Mons)=true):zcE h m (zk3 (zB h m) p c v)=h:=by have e:zcE h m (zk3 (zB h m) p c v)=zcE h m (zB h m):=(by refine back_eq ?_ ?_<;>unfold zk3<;>cases ziA (zB h m) p c v<;>rfl);rw[e];exact zlE a
theorem zbbo {h:Host}{m p c v:Int}(a:zbP h=true)(b:hasB m (ln h.Mons)=true):ziA (zB h m) p c v=zdR h m p c v:=by unfold ziA zdR zz1 zb5;rw[zso a b,a,b];cases hasB p 8<;>rfl
def zBP (N:Nat)(c:Host)(a b:Int)(e f:Int):OA:=
 let l:=zfe (zef c a) b e f;let d:=zk c;let i:=zgK d a b 2;let n:=(ix i.Mons a zh).Outer;let q:=(ix n b zW).Page;let g:=zgj (zef c a) b e f; (oN (zM c)<|oN (zcj c)<|cond (nB<|zci c) (some [aH d,aB false])<|oN (zbj a<|ln c.Mons)<|cond (nB<|zca a<|ln c.Mons) (some [aH d,aB false])<|oN (zdg c a)<|oN (znr (zef c a) b e f)<|cond g (oN (zdh l.Guests)<|oN (inb a<|ln d.Mons)<|share (up d.Mons a ({ (ix d.Mons a zh) with Guests:=(zd1 l.Guests)}:Mon)) λj=>oN (inb a<|ln j)<|share (up j a ({ (ix j a zh) with Pending:=l.Pending}:Mon)) (λr=>let k:=({d with Mons:=r}:Host);let h:=zgK k a b 2;let m:=(ix h.Mons a zh).Outer;let p:=(ix m b zW).Page; (cond g (oN (zgY k a b 2)<|oN (inb a<|ln h.Mons)<|oN (inb b<|ln m)<|oN (zdf h.Memory p e f)<|some [aH ({h with Memory:=(zdG h.Memory p e f)}:Host),aB g])<|some [aH k,aB g])))<|cond g (oN (zgY d a b 2)<|oN (inb a<|ln i.Mons)<|oN (inb b<|ln n)<|oN (zdf i.Memory q e f)<|some [aH ({i with Memory:=(zdG i.Memory q e f)}:Host),aB g])<|some [aH d,aB g])
theorem zPO (a:Host)(d e:Int)(f g:Int)(p:zbE big [aH a,aI d,aI e,aI f,aI g])(k:znw a d e f g=true):∃N,zBP N a d e f g=some [aH<|zjE a d e f g,aB<|zjF a d e f g]:=by
 have q:=(zO a).1 (zD.1 k);refine⟨0,?_⟩;unfold zBP zjE zjF zlZ oN nB;conv=>zeta
 refine must k (must rfl ?_);rw[show zci a=zbP a from rfl];cases m:zbP a;{unfold zdR zb5;rw[m];rfl};{refine zb4 rfl (must rfl ?_);rw[show zca d (ln a.Mons)=hasB d (ln a.Mons) from rfl];cases h:hasB d (ln a.Mons);{unfold zdR zb5;rw[m,h];rfl};{have i:=ze9 q h;have p:SmB (zfe (zB a d) e f g):=(by show SmB (zk3 _ _ _ _);unfold zk3;cases ziA (zB a d) e f g;{exact i};{exact⟨zpP i.1,i.2⟩});refine zb4 rfl (must k<|must (zba i) ?_);rw[show zgj (zef a d) e f g=zdR a d e f g from zbbo m h];cases l:zdR a d e f g;{rfl};{have t:zb5 a d e=true:=(by unfold zdR at l;cases u:zb5 a d e;{rw [u]at l;cases l};{rfl});obtain⟨r,s⟩:=zN7 h (zfe (zB a d) e f g);refine must rfl (must (zba p.2.1)<|must (zA h)<|shr<|must r<|shr ?_);rw[show zh=mZ from rfl,s];have j:({zk a with Mons:=up (zk a).Mons d (zsn (ix (zk a).Mons d mZ)<|zfe (zB a d) e f g)}:Host)=a:=z5p h;have n:=zXr (c:=f) (v:=g) (o:=λH=>[.agg<|zbh H,.one<|.b true]) q t;refine must rfl ?_;rw[j];exact(show _=_ from n)}}}
theorem zIn:vV 40 zoe:=hF5 zCT zl zbB zbT (zq []) zPO
def z3N:zbd:=[(326,zoe),(40,zoe)]++z3M
theorem zR0:zQ z3N:=zf zIW (zf zIn zCT)
@[simp] abbrev zqn (h:Host)(m g b a:Int):Host:=(lookOf h h.IoBuffer m g b a true).1
@[simp] abbrev zld (h:Host)(m g b a:Int):Int:=(lookOf h h.IoBuffer m g b a true).2.1
@[simp] abbrev zle (h:Host)(m g b a:Int):Bool:=(lookOf h h.IoBuffer m g b a true).2.2
def zyM:Run:=rF5 dH dI dI dI dI λb c d e f=>(zl2 b c d e f,[aH<|zqn b c d e f,aI<|zld b c d e f,aB<|zle b c d e f])
def zBT (N:Nat)(a:Host)(b c:Int)(d e:Int):OA:=
 (oN (zuo a b c d e true)<|some [aH<|zul a b c d e true,aI<|zum a b c d e true,aB<|zun a b c d e true])
theorem zPS (a:Host)(b c:Int)(d e:Int)(f:zl2 a b c d e=true):∃N,zBT N a b c d e=some [aH<|zqn a b c d e,aI<|zld a b c d e,aB<|zle a b c d e]:=by refine⟨0,?_⟩;unfold zBT oN;exact must f rfl
theorem zIr:vV 139 zyM:=kF5 zR0 zl zbB zbT (zq []) zPS
def z3O:zbd:=[(139,zyM)]++z3N
theorem zs3:zQ z3O:=zf zIr zR0
theorem zM4 (h:Host)(b:List Entry)(m g c a:Int)(e:Bool):(lookOf h b m g c a e).2.2=zbZ h m g c a:=by cases d:zbZ h m g c a;{rw [zjg d]};{rw [zJB d];unfold zhQ zfU;generalize zj3 b m g c a=x;cases x;{generalize zfJ _ m g c a=y;cases y<;>rfl};{rfl}}
theorem z0v {h:Host}{m g c a:Int}(b:List Entry)(i:Bool)(f:SmH h)(d:zbZ h m g c a=true):SmM (lookOf h b m g c a i).1.Memory:=by have hg:zb8 h m g=true:=(by unfold zbZ at d;cases e:zb8 h m g;{rw [e]at d;cases d};{rfl});exact(zuO f hg).shape.1.1
def zDw (h:Host)(m g a n:Int):Host×Int×Bool:=lookOf h h.IoBuffer m g (zbp a) n true
def zhl (h:Host)(m g a v:Int):Bool:=bif zi a 0 15 then (cond (zi v 0 99) (zbZ h m g (zbp a) 2) false) else false
def znU (h:Host)(m g a v:Int):Host:=bif zhl h m g a v then { (zDw h m g a 2).1 with Memory:=zbU (zDw h m g a 2).1.Memory (zDw h m g a 2).2.1 (zee a) v} else h
def zgr (h:Host)(m g a:Int):Bool:=bif zi a 0 15 then zbZ h m g (zbp a) 1 else false
def zl0 (h:Host)(m g a:Int):Host:=bif zgr h m g a then (zDw h m g a 1).1 else h
def zm9 (h:Host)(m g a:Int):Int:=bif zgr h m g a then cellAt (zDw h m g a 1).1.Memory (zDw h m g a 1).2.1 (zee a) else 0
@[simp] abbrev zoX (h:Host)(m g a v:Int):Bool:=pc (zdv h)
@[simp] abbrev zkO (h:Host)(m g a v:Int):Host:=znU h m g a v
@[simp] abbrev zkP (h:Host)(m g a v:Int):Bool:=zhl h m g a v
@[simp] abbrev zny (h:Host)(m g a:Int):Bool:=pc (zdv h)
@[simp] abbrev zih (h:Host)(m g a:Int):Host:=zl0 h m g a
@[simp] abbrev zjG (h:Host)(m g a:Int):Int:=zm9 h m g a
@[simp] abbrev zjH (h:Host)(m g a:Int):Bool:=zgr h m g a
def zpi:Run:=rF5 dH dI dI dI dI λb c d e f=>(zoX b c d e f,[aH<|zkO b c d e f,aB<|zkP b c d e f])
def zGx (N:Nat)(g:Host)(c d:Int)(a e:Int):OA:=
 let b:=zk g;let h:=zmG b b.IoBuffer c d (zbw a) 2 true;let f:=zg0 b b.IoBuffer c d (zbw a) 2 true; (oN (zM g)<|oN (zJ a 0 15)<|cond (nB<|zi a 0 15) (some [aH b,aB false])<|oN (zJ e 0 99)<|cond (nB<|zi e 0 99) (some [aH b,aB false])<|oN (zbs a)<|oN (zmH b b.IoBuffer c d (zbw a) 2 true)<|cond (nB<|zi4 b b.IoBuffer c d (zbw a) 2 true) (some [aH f,aB false])<|oN (zbs a)<|oN (zdf f.Memory h (zcv a) e)<|some [aH ({f with Memory:=(zdG f.Memory h (zcv a) e)}:Host),aB true])
theorem zT1 (a:Host)(c d:Int)(b e:Int)(f:zoX a c d b e=true):∃N,zGx N a c d b e=some [aH<|zkO a c d b e,aB<|zkP a c d b e]:=by
 have h:=(zO a).1 (zD.1 f);refine⟨0,?_⟩;unfold zGx zkO zkP znU zhl oN nB;conv=>zeta
 refine must f (must rfl ?_);rw[show zi b 0 15=zi b 0 15 from rfl];cases i:zi b 0 15;{rfl};{refine zb4 rfl (must rfl ?_);rw[show zi e 0 99=zi e 0 99 from rfl];cases j:zi e 0 99;{rfl};{refine zb4 rfl (must rfl (must f ?_));rw[show zi4 (zk a) (zk a).IoBuffer c d (zbw b) 2 true=zbZ a c d (zbp b) 2 from zM4 _ _ _ _ _ _ _];cases g:zbZ a c d (zbp b) 2;{rw [show zg0 (zk a) (zk a).IoBuffer c d (zbw b) 2 true=a from congrArg Prod.fst (zjg g)];rfl};{exact zb4 rfl (must rfl (must (zba<|z0v a.IoBuffer true h g) rfl))}}}
theorem zLY:vV 329 zpi:=kF5 zs3 zl zbB zbT (zq []) zT1
def zF4 (N:Nat)(a:Host)(c d:Int)(b e:Int):OA:=
 let f:=zqn a c d (zbw b) 2; (oN (zbs b)<|oN (zl2 a c d (zbw b) 2)<|oN (zJ b 0 15)<|cond (nB<|zi b 0 15) (oN (zM a)<|some [aH<|zk a,aB false])<|oN (zJ e 0 99)<|cond (nB<|zi e 0 99) (oN (zM a)<|some [aH<|zk a,aB false])<|cond (nB<|zle a c d (zbw b) 2) (oN (zM a)<|some [aH<|zk a,aB false])<|oN (zbs b)<|oN (zdf f.Memory (zld a c d (zbw b) 2) (zcv b) e)<|some [aH ({f with Memory:=(zdG f.Memory (zld a c d (zbw b) 2) (zcv b) e)}:Host),aB true])
theorem zTz (b:Host)(c d:Int)(a e:Int)(f:zoX b c d a e=true):∃N,zF4 N b c d a e=some [aH<|zkO b c d a e,aB<|zkP b c d a e]:=by
 have h:=(zO b).1 (zD.1 f);refine⟨0,?_⟩;unfold zF4 zkO zkP znU zhl oN nB;conv=>zeta
 refine must rfl (must f (must rfl ?_));rw[show zi a 0 15=zi a 0 15 from rfl];cases i:zi a 0 15;{exact must rfl (must f rfl)};{refine zb4 rfl (must rfl ?_);rw[show zi e 0 99=zi e 0 99 from rfl];cases j:zi e 0 99;{exact must rfl (must f rfl)};{refine zb4 rfl ?_;rw[show zle b c d (zbw a) 2=zbZ b c d (zbp a) 2 from zM4 _ _ _ _ _ _ _];cases g:zbZ b c d (zbp a) 2;{exact must rfl (must f rfl)};{exact zb4 rfl (must rfl (must (zba<|z0v b.IoBuffer true h g) rfl))}}}
theorem zLy:vV 43 zpi:=kF5 zs3 zl zbB zbT (zq []) zTz
def zog:Run:=rF4 dH dI dI dI λb c d e=>(zny b c d e,[aH<|zih b c d e,aI<|zjG b c d e,aB<|zjH b c d e])
def zCt (N:Nat)(f:Host)(c d a:Int):OA:=
 let b:=zk f;let g:=zmG b b.IoBuffer c d (zbw a) 1 true;let e:=zg0 b b.IoBuffer c d (zbw a) 1 true; (oN (zM f)<|oN (zJ a 0 15)<|cond (nB<|zi a 0 15) (some [aH b,aI 0,aB false])<|oN (zbs a)<|oN (zmH b b.IoBuffer c d (zbw a) 1 true)<|cond (nB<|zi4 b b.IoBuffer c d (zbw a) 1 true) (some [aH e,aI 0,aB false])<|oN (zbs a)<|oN (zeK e.Memory g<|zcv a)<|some [aH e,aI<|zf6 e.Memory g<|zcv a,aB true])
theorem zQo (a:Host)(c d b:Int)(e:zny a c d b=true):∃N,zCt N a c d b=some [aH<|zih a c d b,aI<|zjG a c d b,aB<|zjH a c d b]:=by
 have h:=(zO a).1 (zD.1 e);refine⟨0,?_⟩;unfold zCt zih zjG zjH zl0 zm9 zgr oN nB;conv=>zeta
 refine must e (must rfl ?_);rw[show zi b 0 15=zi b 0 15 from rfl];cases g:zi b 0 15;{rfl};{refine zb4 rfl (must rfl (must e ?_));rw[show zi4 (zk a) (zk a).IoBuffer c d (zbw b) 1 true=zbZ a c d (zbp b) 1 from zM4 _ _ _ _ _ _ _];cases f:zbZ a c d (zbp b) 1;{rw [show zg0 (zk a) (zk a).IoBuffer c d (zbw b) 1 true=a from congrArg Prod.fst (zjg f)];rfl};{exact zb4 rfl (must rfl (must rfl rfl))}}
theorem zIY:vV 330 zog:=kF4 zs3 zl zbB zbT (zq []) zQo
def zBR (N:Nat)(b:Host)(c d a:Int):OA:=
 let e:=zqn b c d (zbw a) 1; (oN (zbs a)<|oN (zl2 b c d (zbw a) 1)<|oN (zJ a 0 15)<|cond (nB<|zi a 0 15) (oN (zM b)<|some [aH<|zk b,aI 0,aB false])<|cond (nB<|zle b c d (zbw a) 1) (oN (zM b)<|some [aH<|zk b,aI 0,aB false])<|oN (zbs a)<|oN (zeK e.Memory (zld b c d (zbw a) 1)<|zcv a)<|some [aH e,aI<|zf6 e.Memory (zld b c d (zbw a) 1)<|zcv a,aB true])
theorem zPQ (b:Host)(c d a:Int)(e:zny b c d a=true):∃N,zBR N b c d a=some [aH<|zih b c d a,aI<|zjG b c d a,aB<|zjH b c d a]:=by
 have h:=(zO b).1 (zD.1 e);refine⟨0,?_⟩;unfold zBR zih zjG zjH zl0 zm9 zgr oN nB;conv=>zeta
 refine must rfl (must e (must rfl ?_));rw[show zi a 0 15=zi a 0 15 from rfl];cases f:zi a 0 15;{exact must rfl (must e rfl)};{refine zb4 rfl ?_;rw[show zle b c d (zbw a) 1=zbZ b c d (zbp a) 1 from zM4 _ _ _ _ _ _ _];cases g:zbZ b c d (zbp a) 1;{exact must rfl (must e rfl)};{exact zb4 rfl (must rfl (must rfl rfl))}}
theorem zIp:vV 44 zog:=kF4 zs3 zl zbB zbT (zq []) zPQ
def z3P:zbd:=[(329,zpi),(43,zpi),(330,zog),(44,zog)]++z3O
theorem z3Q:zQ z3P:=zf zLY (zf zLy<|zf zIY<|zf zIp zs3)
def z3R:zbd:=[(198,zr8),(95,zn9),(99,zjk),(96,zjk)]++z3P
theorem zCU:zQ z3R:=zf zvs (zf zvn<|zf zvr<|zf zvl z3Q)
def zjf:Kept:=⟨rp 4 false,zjO⟩
@[simp] abbrev zo0 (n:Int):Bool:=ieq n 4
@[simp] abbrev znA (n:Int):Kept:=zjf
def zpk:Run:=rF1 dI λb=>(zo0 b,[aT .kept<|znA b])
def zYB (N:Nat)(b:Int):OA:=
 let a:=ln<|ziN b; (oN (zlu b)<|oN (cond (few a) (ieq a a) false)<|some [aT .kept (⟨rp a false,ziN b⟩:Kept)])
theorem zT4 (a:Int)(b:zo0 a=true):∃N,zYB N a=some [aT .kept<|znA a]:=by refine⟨0,?_⟩;have h:a=4:=qD b;subst h;change _=_;kernel_rfl
theorem zL1:vV 355 zpk:=kF1 zCU zl zbB zbT (zq []) zT4
def zYA (N:Nat)(a:Int):OA:=
 let b:=ziQ a 0 24; (oN (zkK a 0 24)<|oN (cond (few b) (ieq b b) false)<|oN (zlg a)<|some [aT .kept (⟨rp b false,ziH a⟩:Kept)])
theorem zTC (a:Int)(b:zo0 a=true):∃N,zYA N a=some [aT .kept<|znA a]:=by refine⟨0,?_⟩;have h:a=4:=qD b;subst h;change _=_;kernel_rfl
theorem zLA:vV 97 zpk:=kF1 zCU zl zbB zbT (zq []) zTC
def z3S:zbd:=[(355,zpk),(97,zpk)]++z3R
theorem zCV:zQ z3S:=zf zL1 (zf zLA zCU)
def zv0:List Slot:=List.replicate 8 ⟨-1,0⟩
def zfx (a:List (List Ins)):Mon:=⟨zv0,ztO,rp 8 false,(a.take 2).map zdK,[],0,0,(a.take 2).map λ_=>zjf,0⟩
theorem zSl {c a b m:Type}(f:c->a)(g:c->b)(K:List a×List b->Option m):∀(l:List c) (i:Nat) (u:List a×List b),u.1.length+l.length<=2147483648->u.2.length+l.length<=2147483648->
 goL (λ(_:Nat) x (u:List a×List b) k=>bif few (ln<|ap u.1 [f x]) then (cond (few<|ln<|ap u.2 [g x]) (k (ap u.1 [f x],ap u.2 [g x])) none) else none) K l i u=K (u.1++l.map f,u.2++l.map g)
 |[],i,u,_,_=>by simp[goL]
 |x::l,i,u,h,j=>by simp only[qU]at h j;have d:few (ln<|ap u.1 [f x])=true:=zfE (by simp[ap];omega);have e:few (ln<|ap u.2 [g x])=true:=zfE (by simp[ap];omega);simp only[goL,d,e,cT];rw[zSl f g K l (i+1) _ (by simp[ap];omega) (by simp[ap];omega)];simp[ap]
theorem zM5 {d a b q:Type}(m:Nat)(f:d->a)(g:d->b)(K:List a×List b->Option q):∀(l:List d) (i:Nat) (u:List a×List b),u.1.length+l.length<=2147483648->u.2.length+l.length<=2147483648->
 goL (λ(i:Nat) x (u:List a×List b) k=>bif ilt (i:Int) (m:Int) then (cond (few<|ln<|ap u.1 [f x]) (cond (few<|ln<|ap u.2 [g x]) (k (ap u.1 [f x],ap u.2 [g x])) none) none) else K u) K l i u=K (u.1++(l.take<|m-i).map f,u.2++(l.take<|m-i).map g)
 |[],i,u,_,_=>by simp[goL]
 |x::l,i,u,n,p=>by simp only[qU]at n p;have e:few (ln<|ap u.1 [f x])=true:=zfE (by simp[ap];omega);have j:few (ln<|ap u.2 [g x])=true:=zfE (by simp[ap];omega);by_cases h:i<m;{have c:ilt (i:Int) (m:Int)=true:=qK (by omega);simp only[goL,c,e,j,cT];rw[zM5 m f g K l (i+1) _ (by simp[ap];omega) (by simp[ap];omega)];rw[show m-i=m-(i+1)+1 by omega];simp[ap]};{have c:ilt (i:Int) (m:Int)=false:=qH (by omega);simp only[goL,c,cF];rw[show m-i=0 by omega];simp}
def zW5 (u:List Guest×List Kept):OA:=some [AV.agg<|Ty.cells .mon (⟨zv0,ztO,rp 8 false,u.1,[],0,0,u.2,0⟩:Mon)]
@[simp] abbrev zvS (a:List (List Ins)):Mon:=zfx a
def zqS:Run:=rF1 (dS<|.sl .ins) λb=>(zgi b,[aT .mon<|zvS b])
def zKx (N:Nat)(k:lP):OA:=
 (oN (zlu 8)<|oN (ziJ 8)<|oN (cond (few 8) (ieq 8 8) false)<|iter (σ:=(Int×Int×Int×Int×Int×Int×Int×lP×lS×lM×lB×lG×(List Int)×lK×lS×lM×lB×lG×(List Int)×lK×Unit)) N (λl a=>let j:=a.2.2.2.2.2.2.2.2.2.2.2.2.2.2.1;let i:=a.2.2.2.2.2.2.2.2.2.2.2.2.2.2.2.1;let h:=a.2.2.2.2.2.2.2.2.2.2.2.2.2.2.2.2.1;let g:=a.2.2.2.2.2.2.2.2.2.2.2.2.2.2.2.2.2.1;let f:=a.2.2.2.2.2.2.2.2.2.2.2.2.2.2.2.2.2.2.1;let b:=a.2.2.2.2.2.2.2.1;let c:=a.2.2.2.2.2.2.2.2.2.2.2.2.2.2.2.2.2.2.2.1;let e:=ap g [zhW<|ix b a.1 []];let d:=aT .mon (⟨j,i,h,g,f,a.2.2.2.2.1,a.2.2.2.2.2.1,c,a.2.2.2.2.2.2.1⟩:Mon); (cond (ilt a.1<|ln b) (cond (ilt a.1 2) (oN (inb a.1<|ln b)<|oN (zhc<|ix b a.1 [])<|oN (few<|ln e)<|oN (zo0 4)<|oN (few<|ln<|ap c [znA 4])<|l (zN .i64 a.1 1,a.2.1,a.2.2.1,a.2.2.2.1,a.2.2.2.2.1,a.2.2.2.2.2.1,a.2.2.2.2.2.2.1,b,a.2.2.2.2.2.2.2.2.1,a.2.2.2.2.2.2.2.2.2.1,a.2.2.2.2.2.2.2.2.2.2.1,a.2.2.2.2.2.2.2.2.2.2.2.1,a.2.2.2.2.2.2.2.2.2.2.2.2.1,a.2.2.2.2.2.2.2.2.2.2.2.2.2.1,j,i,h,e,f,ap c [znA 4],()))<|some [d])<|some [d])) (0,0,0,0,0,0,0,k,[],[],[],[],[],[],ziN 8,ze6 8,rp 8 false,[],[],[],()))
def zYj:=zq [(316,0,{n:=36,tm:=[(0,.sl 0 []),(2,.lp 0 0),(3,.lp 1 0),(4,ti)],lo:=[(0,[.sl 1 [],.sl 2 [],.sl 3 [],.sl 4 [],.sl 5 [],ti,ti,.sl 6 [],ti]),(1,[.sl 7 [],.sl 8 [],.sl 9 [],.sl 10 [],.sl 11 [],ti,ti,.sl 12 [],ti])],ro:=[(0,.sl .ins,false),(1,.slot,true),(2,.sl .int,true),(3,.bool,true),(4,.guest,true),(5,.int,true),(6,.kept,true),(7,.slot,true),(8,.sl .int,true),(9,.bool,true),(10,.guest,true),(11,.int,true),(12,.kept,true)]})]
theorem zWG (a:List lI)(f:zgi a=true):∃N,zKx N a=some [aT .mon<|zvS a]:=by
 have e:=zD.1 f;have c:=zcu e.1;refine zbX λN d=>?_;unfold zKx oN;conv=>zeta
 refine must rfl (must rfl (must rfl ?_));refine(zY a (λi (t:lG×lK)=>((i:Int),0,0,0,0,0,0,a,[],[],[],[],[],[],ziN 8,ze6 8,rp 8 false,t.1,[],t.2,())) _ (λi (x:List Ins) (u:List Guest×List Kept) h=>bif ilt (i:Int) ((2:Nat):Int) then (cond (few<|ln<|ap u.1 [zdK x]) (cond (few<|ln<|ap u.2 [zjf]) (h (ap u.1 [zdK x],ap u.2 [zjf])) none) none) else zW5 u) (λ(t:lG×lK)=>some [.agg<|Ty.cells .mon (⟨ziN 8,ze6 8,rp 8 false,t.1,[],0,0,t.2,0⟩:Mon)]) (λi b t rec=>?_) (λt rec=>?_) _ ([],[])<|d c.1).trans ?_;{simp only [zbn b,zU b,zbb b,zX b c.1,cT];have g:zhc a[i]=true:=zba (e.2 _<|jA b);simp only[g,cT];rfl};{simp only [zbe,cF]};exact zM5 2 zdK (λ_=>zjf) zW5 a 0 ([],[]) (by simpa using c.2) (by simpa using c.2)
theorem zPe:vV 316 zqS:=kF1 zCV zl zbB zbT zYj zWG
def zJ9 (N:Nat)(b:lP):OA:=
 let e:=zgR (ln b) 2; (oN (zlg 8)<|oN (ziJ 8)<|oN (cond (few 8) (ieq 8 8) false)<|oN (inr 0 e<|ln b)<|iter (σ:=(Int×Int×Int×Int×Int×Int×Int×Int×lP×lS×lM×lB×lG×(List Int)×lK×lS×lM×lB×lG×(List Int)×lK×Unit)) N (λl a=>let k:=a.2.2.2.2.2.2.2.2.2.2.2.2.2.2.2.1;let j:=a.2.2.2.2.2.2.2.2.2.2.2.2.2.2.2.2.1;let i:=a.2.2.2.2.2.2.2.2.2.2.2.2.2.2.2.2.2.1;let h:=a.2.2.2.2.2.2.2.2.2.2.2.2.2.2.2.2.2.2.1;let g:=a.2.2.2.2.2.2.2.2.2.2.2.2.2.2.2.2.2.2.2.1;let c:=a.2.2.2.2.2.2.2.2.1;let d:=a.2.2.2.2.2.2.2.2.2.2.2.2.2.2.2.2.2.2.2.2.1;let f:=ap h [zhW<|ix c a.2.1 []]; (cond (ilt a.2.1 a.1) (oN (inb a.2.1<|ln c)<|oN (zhc<|ix c a.2.1 [])<|oN (few<|ln f)<|oN (zo0 4)<|oN (few<|ln<|ap d [znA 4])<|l (a.1,zN .i64 a.2.1 1,a.2.2.1,a.2.2.2.1,a.2.2.2.2.1,a.2.2.2.2.2.1,a.2.2.2.2.2.2.1,a.2.2.2.2.2.2.2.1,c,a.2.2.2.2.2.2.2.2.2.1,a.2.2.2.2.2.2.2.2.2.2.1,a.2.2.2.2.2.2.2.2.2.2.2.1,a.2.2.2.2.2.2.2.2.2.2.2.2.1,a.2.2.2.2.2.2.2.2.2.2.2.2.2.1,a.2.2.2.2.2.2.2.2.2.2.2.2.2.2.1,k,j,i,f,g,ap d [znA 4],()))<|some [aT .mon (⟨k,j,i,h,g,a.2.2.2.2.2.1,a.2.2.2.2.2.2.1,d,a.2.2.2.2.2.2.2.1⟩:Mon)])) (ln<|tk b e,0,0,0,0,0,0,0,tk b e,[],[],[],[],[],[],ziH 8,ze6 8,rp 8 false,[],[],[],()))
def zX9:=zq [(30,0,{n:=35,tm:=[(2,.lp 0 0),(3,.lp 1 0),(14,.sl 0 []),(15,ti),(16,ti)],lo:=[(0,[.sl 1 [],.sl 2 [],.sl 3 [],.sl 4 [],.sl 5 [],ti,ti,.sl 6 [],ti]),(1,[.sl 7 [],.sl 8 [],.sl 9 [],.sl 10 [],.sl 11 [],ti,ti,.sl 12 [],ti])],ro:=[(0,.sl .ins,false),(1,.slot,true),(2,.sl .int,true),(3,.bool,true),(4,.guest,true),(5,.int,true),(6,.kept,true),(7,.slot,true),(8,.sl .int,true),(9,.bool,true),(10,.guest,true),(11,.int,true),(12,.kept,true)]})]
theorem zWk (a:List lI)(j:zgi a=true):∃N,zJ9 N a=some [aT .mon<|zvS a]:=by
 have f:=zD.1 j;have m:=zcu f.1;have h:=zX3 a 2;have g:tk a (zgR (ln a) 2)=a.take 2:=h.1;have d:(tk a<|zgR (ln a) 2).length<=1048576:=(by rw[g];exact jB (by simp;omega) f.1);have b:=(zcu d).1;refine zbX λN e=>?_;unfold zJ9 oN;conv=>zeta
 refine must rfl (must rfl (must rfl (must h.2 ?_)));refine(zY (tk a<|zgR (ln a) 2) (λi (t:lG×lK)=>(ln<|tk a<|zgR (ln a) 2,(i:Int),0,0,0,0,0,0,tk a<|zgR (ln a) 2,[],[],[],[],[],[],ziH 8,ze6 8,rp 8 false,t.1,[],t.2,())) _ (λ_ (x:List Ins) (u:List Guest×List Kept) l=>bif few (ln<|ap u.1 [zdK x]) then (cond (few<|ln<|ap u.2 [zjf]) (l (ap u.1 [zdK x],ap u.2 [zjf])) none) else none) (λ(t:lG×lK)=>some [.agg<|Ty.cells .mon (⟨ziH 8,ze6 8,rp 8 false,t.1,[],0,0,t.2,0⟩:Mon)]) (λi c t rec=>?_) (λt rec=>?_) _ ([],[])<|e b).trans ?_;{simp only [zbn c,zU c,zbb c,zX c b,cT];have k:zhc (tk a<|zgR (ln a) 2)[i]=true:=zba (f.2 _<|z6d<|jA c);simp only[k,cT];rfl};{simp only [zbe,cF]};refine(zSl zdK (λ_=>zjf) zW5 _ 0 ([],[]) (by simp only[uE];omega) (by simp only[uE];omega)).trans ?_;rw[g];rfl
theorem zOL:vV 30 zqS:=kF1 zCV zl zbB zbT zX9 zWk
def z3T:zbd:=[(316,zqS),(30,zqS)]++z3S
theorem zCW:zQ z3T:=zf zPe (zf zOL zCV)
def z2c:List (List Int):=List.replicate 12 [0,0,0,0]
def zco (ps:List (List<|List Ins)):Host:=⟨z2c,(ps.take 3).map zfx,[],[]⟩
@[simp] abbrev zkQ (ps:List (List<|List Ins)):Bool:=pc (zxr ps)
@[simp] abbrev zdy (a:List (List<|List Ins)):Host:=zco a
def zPC (t:List Mon):OA:=some [AV.agg<|zbh ⟨z2c,t,[],[]⟩]
def zmu:Run:=rF1 (dS<|.sl<|.sl .ins) λb=>(zkQ b,[aH<|zdy b])
def zGy (N:Nat)(d:lQ):OA:=
 (oN (ziJ 12)<|iter (σ:=(Int×lQ×lM×lN×lE×lE×lM×lN×lE×lE×Unit)) N (λe a=>let c:=ap a.2.2.2.2.2.2.2.1 [zvS<|ix a.2.1 a.1 []];let b:=aH (⟨a.2.2.2.2.2.2.1,a.2.2.2.2.2.2.2.1,a.2.2.2.2.2.2.2.2.1,a.2.2.2.2.2.2.2.2.2.1⟩:Host); (cond (ilt a.1<|ln a.2.1) (cond (ilt a.1 3) (oN (inb a.1<|ln a.2.1)<|oN (zgi<|ix a.2.1 a.1 [])<|oN (few<|ln c)<|e (zN .i64 a.1 1,a.2.1,a.2.2.1,a.2.2.2.1,a.2.2.2.2.1,a.2.2.2.2.2.1,a.2.2.2.2.2.2.1,c,a.2.2.2.2.2.2.2.2.1,a.2.2.2.2.2.2.2.2.2.1,()))<|some [b])<|some [b])) (0,d,[],[],[],[],ze6 12,[],[],[],()))
def zUx:=zq [(269,0,{n:=28,tm:=[(0,.sl 0 []),(2,.lp 0 0),(3,.lp 1 0),(4,ti)],lo:=[(0,[.sl 1 [],.sl 2 [],.sl 3 [],.sl 4 []]),(1,[.sl 5 [],.sl 6 [],.sl 7 [],.sl 8 []])],ro:=[(0,.sl<|.sl .ins,false),(1,.sl .int,true),(2,.mon,true),(3,.entry,true),(4,.entry,true),(5,.sl .int,true),(6,.mon,true),(7,.entry,true),(8,.entry,true)]})]
theorem zT2 (a:List lP)(f:zkQ a=true):∃N,zGy N a=some [aH<|zdy a]:=by
 have e:=zD.1 f;have d:=zcu e.1;refine zbX λN c=>?_;unfold zGy oN;conv=>zeta
 refine must rfl ?_;refine(zY a (λi (t:lN)=>((i:Int),a,[],[],[],[],ze6 12,t,[],[],())) _ (λi (x:List lI) (t:List Mon) h=>bif ilt (i:Int) ((3:Nat):Int) then (cond (few<|ln<|ap t [zfx x]) (h<|ap t [zfx x]) none) else zPC t) (λ(t:lN)=>some [.agg<|zbh (⟨ze6 12,t,[],[]⟩:Host)]) (λi b t rec=>?_) (λt rec=>?_) _ ([])<|c d.1).trans ?_;{simp only [zbn b,zU b,zbb b,zX b d.1,cT];have g:zgi a[i]=true:=zba (e.2 _<|jA b);simp only[g,cT];rfl};{simp only [zbe,cF]};exact zwQ 3 zfx zPC a 0 [] (by simpa using d.2)
theorem zLZ:vV 269 zmu:=kF1 zCW zl zbB zbT zUx zT2
def zF5 (N:Nat)(b:lQ):OA:=
 let c:=zgR (ln b) 3; (oN (ziJ 12)<|oN (inr 0 c<|ln b)<|iter (σ:=(Int×Int×lQ×lM×lN×lE×lE×lM×lN×lE×lE×Unit)) N (λe a=>let d:=ap a.2.2.2.2.2.2.2.2.1 [zvS<|ix a.2.2.1 a.2.1 []]; (cond (ilt a.2.1 a.1) (oN (inb a.2.1<|ln a.2.2.1)<|oN (zgi<|ix a.2.2.1 a.2.1 [])<|oN (few<|ln d)<|e (a.1,zN .i64 a.2.1 1,a.2.2.1,a.2.2.2.1,a.2.2.2.2.1,a.2.2.2.2.2.1,a.2.2.2.2.2.2.1,a.2.2.2.2.2.2.2.1,d,a.2.2.2.2.2.2.2.2.2.1,a.2.2.2.2.2.2.2.2.2.2.1,()))<|some [aH (⟨a.2.2.2.2.2.2.2.1,a.2.2.2.2.2.2.2.2.1,a.2.2.2.2.2.2.2.2.2.1,a.2.2.2.2.2.2.2.2.2.2.1⟩:Host)])) (ln<|tk b c,0,tk b c,[],[],[],[],ze6 12,[],[],[],()))
def zUr:=zq [(8,0,{n:=27,tm:=[(2,.lp 0 0),(3,.lp 1 0),(12,.sl 0 []),(13,ti),(14,ti)],lo:=[(0,[.sl 1 [],.sl 2 [],.sl 3 [],.sl 4 []]),(1,[.sl 5 [],.sl 6 [],.sl 7 [],.sl 8 []])],ro:=[(0,.sl<|.sl .ins,false),(1,.sl .int,true),(2,.mon,true),(3,.entry,true),(4,.entry,true),(5,.sl .int,true),(6,.mon,true),(7,.entry,true),(8,.entry,true)]})]
theorem zTA (a:List lP)(j:zkQ a=true):∃N,zF5 N a=some [aH<|zdy a]:=by
 have g:=zD.1 j;have h:=zX3 a 3;have f:tk a (zgR (ln a) 3)=a.take 3:=h.1;have d:(tk a<|zgR (ln a) 3).length<=1048576:=(by rw[f];exact jB (by simp;omega) g.1);have b:=(zcu d).1;refine zbX λN e=>?_;unfold zF5 oN;conv=>zeta
 refine must rfl (must h.2 ?_);refine(zY (tk a<|zgR (ln a) 3) (λi (t:lN)=>(ln<|tk a<|zgR (ln a) 3,(i:Int),tk a<|zgR (ln a) 3,[],[],[],[],ze6 12,t,[],[],())) _ (λ_ (x:List lI) (t:List Mon) l=>bif few (ln<|ap t [zfx x]) then l (ap t [zfx x]) else none) (λ(t:lN)=>some [.agg<|zbh (⟨ze6 12,t,[],[]⟩:Host)]) (λi c t rec=>?_) (λt rec=>?_) _ ([])<|e b).trans ?_;{simp only [zbn c,zU c,zbb c,zX c b,cT];have k:zgi (tk a<|zgR (ln a) 3)[i]=true:=zba (g.2 _<|z6d<|jA c);simp only[k,cT]};{simp only [zbe,cF]};refine(zW1 zfx zPC _ 0 [] (by simp only[uE];omega)).trans ?_;rw[f];rfl
theorem zwE:vV 8 zmu:=kF1 zCW zl zbB zbT zUr zTA
def z3U:zbd:=[(269,zmu),(8,zmu)]++z3T
theorem zCX:zQ z3U:=zf zLZ (zf zwE zCW)
def zjb:Nat->Nat->Kept->Kept
 | 0,_,k=>k
 |n+1,i,k=>zjb n (i+1) (zcb k (i:Int))
def ziE (k:Kept):Kept:=zjb k.Known.length 0 k
theorem z1J (k:Kept)(p:Int):(zcb k p).Known.length=k.Known.length:=by unfold zcb;cases zeg k p;{rfl};{exact zgN _ _ _}
theorem zsS:∀(n i:Nat) (k:Kept),SmK k->SmK (zjb n i k)
 | 0,_,_,h=>h
 |n+1,i,k,h=>zsS n (i+1) _ (zot h)
@[simp] abbrev zoV (k:Kept):Kept:=ziE k
theorem zG3 {b d:Type}(K:List Bool×List Slot->Option d):∀(l:List b) (i:Nat) (k:Kept),SmK k->
 goL (λ(i:Nat) _ (t:List Bool×List Slot) c=>bif zc1 ⟨t.1,t.2⟩ (i:Int) then c ((zeP ⟨t.1,t.2⟩ (i:Int)).Known,(zeP ⟨t.1,t.2⟩ (i:Int)).Slots) else none) K l i (k.Known,k.Slots)=K ((zjb l.length i k).Known,(zjb l.length i k).Slots)
 |[],_,_,_=>rfl
 |x::l,i,k,h=>by have a:zc1 ⟨k.Known,k.Slots⟩ (i:Int)=true:=zba h;simp only[goL,a,cT];exact zG3 K l (i+1) (zcb k (i:Int)) (zot h)
def zmL:Run:=rF1 (dT .kept) λb=>(zel b,[aT .kept<|zoV b])
def zAs (N:Nat)(b:Kept):OA:=
 (oN (zel b)<|iter (σ:=(Int×Int×lB×lS×lB×lS×Unit)) N (λd a=>let c:=(⟨a.2.2.2.2.1,a.2.2.2.2.2.1⟩:Kept); (cond (ilt a.2.1 a.1) (oN (zc1 c a.2.1)<|d (a.1,zN .i64 a.2.1 1,a.2.2.1,a.2.2.2.1,(zeP c a.2.1).Known,(zeP c a.2.1).Slots,()))<|some [aT .kept c])) (ln b.Known,0,[],[],(zdm b).Known,(zdm b).Slots,()))
def zNT:=zq [(143,0,{n:=18,tm:=[(2,.lp 0 0),(3,.lp 1 0),(9,ti),(10,ti)],lo:=[(0,[.sl 0 [],.sl 1 []]),(1,[.sl 2 [],.sl 3 []])],ro:=[(0,.bool,true),(1,.slot,true),(2,.bool,true),(3,.slot,true)]})]
theorem zMF (a:Kept)(f:zel a=true):∃N,zAs N a=some [aT .kept<|zoV a]:=by
 have d:=zD.1 f;have e:=zcu d.1;refine zbX λN c=>?_;unfold zAs oN;conv=>zeta
 refine must (zba d) ?_;refine(zY a.Known (λi (t:lB×lS)=>(ln a.Known,(i:Int),[],[],t.1,t.2,())) _ (λi (x:Bool) (t:List Bool×List Slot) g=>bif zc1 ⟨t.1,t.2⟩ (i:Int) then g ((zeP ⟨t.1,t.2⟩ (i:Int)).Known,(zeP ⟨t.1,t.2⟩ (i:Int)).Slots) else none) (λ(t:lB×lS)=>some [.agg<|Ty.cells .kept (⟨t.1,t.2⟩:Kept)]) (λi b t rec=>?_) (λt rec=>?_) _ ((zdm a).Known,(zdm a).Slots)<|c e.1).trans ?_;{simp only [zbn b,zU b,zbb b,zX b e.1,cT]};{simp only [zbe,cF]};exact zG3 _ a.Known 0 a d
theorem zE0:vV 143 zmL:=kF1 zCX zl zbB zbT zNT zMF
def zAL (N:Nat)(c:Kept):OA:=
 (oN (zh1 c)<|iter (σ:=(Int×lB×lS×lB×lS×Unit)) N (λd a=>let b:=(⟨a.2.1,a.2.2.1⟩:Kept); (cond (ilt a.1<|ln a.2.1) (oN (zc1 b a.1)<|d (zN .i64 a.1 1,(zeP b a.1).Known,(zeP b a.1).Slots,a.2.2.2.1,a.2.2.2.2.1,()))<|some [aT .kept b])) (0,(zeI c).Known,(zeI c).Slots,[],[],()))
def zN3:=zq [(387,0,{n:=17,tm:=[(1,.lp 0 0),(2,.lp 1 0),(3,ti)],lo:=[(0,[.sl 0 [],.sl 1 []]),(1,[.sl 2 [],.sl 3 []])],ro:=[(0,.bool,true),(1,.slot,true),(2,.bool,true),(3,.slot,true)]})]
theorem zMY (a:Kept)(g:zel a=true):∃N,zAL N a=some [aT .kept<|zoV a]:=by
 have d:=zD.1 g;have f:=zcu d.1;refine zbX λN c=>?_;unfold zAL oN;conv=>zeta
 refine must (zbu<|(zya _).2 d) ?_;refine(zrU a.Known.length (λi (k:Kept)=>((i:Int),k.Known,k.Slots,[],[],())) _ (λi k=>SmK k/\k.Known.length=a.Known.length) (λi k=>some [AV.agg<|Ty.cells .kept<|zjb (a.Known.length-i) i k]) (λi k rec e b h=>?_) (λk rec b=>?_) N 0 a ⟨d,rfl⟩ (jW _)<|c f.1).trans rfl;{refine must (zbn (by rw[b.2];exact e)) (must (zba b.1) ?_);have q:=h (zcb k (i:Int)) ⟨zot b.1,by rw[z1J];exact b.2⟩;rw[show a.Known.length-i=a.Known.length-(i+1)+1 by omega];rw[zX e f.1];exact q};{refine zb4 (by show ilt (a.Known.length:Int) (ln k.Known)=false;rw[ln,b.2];exact qH (by omega)) ?_;rw[kY];rfl}
theorem zFk:vV 387 zmL:=kF1 zCX zl zbB zbT zN3 zMY
def z3V:zbd:=[(387,zmL),(143,zmL)]++z3U
theorem zR1:zQ z3V:=zf zFk (zf zE0 zCX)
def zwk:Nat->Nat->List Kept->List Kept
 | 0,_,l=>l
 |n+1,j,l=>zwk n (j+1) (up l (j:Int)<|ziE<|ix l (j:Int) kZ)
def zsp (x:Mon)(n j:Nat):Mon:={x with Tables:=zwk n j x.Tables}
def zoK:Nat->Nat->List Mon->List Mon
 | 0,_,t=>t
 |n+1,i,t=>zoK n (i+1) (up t (i:Int)<|zsp (ix t (i:Int) mZ) (ix t (i:Int) mZ).Tables.length 0)
def cold (h:Host):Host:=⟨h.Memory,zoK h.Mons.length 0 h.Mons,[],[]⟩
theorem zNE:∀(n j:Nat) (l:List Kept),j+n<=l.length->zCF l->zCF (zwk n j l)
 | 0,_,_,_,h=>h
 |n+1,j,l,b,h=>by have a:j<l.length:=(by omega);refine zNE n (j+1) _ (by rw[zgN];omega) (zuV h<|zsS _ _ _ ?_);rw[zbb a];exact h.2 _ (jA a)
theorem zAg {x:Mon}(h:zf8 x){n j:Nat}(a:j+n<=x.Tables.length):zf8 (zsp x n j):=⟨h.1,h.2.1,h.2.2.1,h.2.2.2.1,h.2.2.2.2.1,zNE n j _ a h.2.2.2.2.2⟩
@[simp] abbrev zy2 (h:Host):Host:=cold h
def zuy:Run:=rF1 dH λb=>(zM b,[aH<|zy2 b])
def zU0 (N:Nat)(d:Host):OA:=
 (oN (zM d)<|iter (σ:=(Int×lM×lN×lE×lE×lM×lN×lE×lE×Unit)) N (λg b=>cond (ilt b.1<|ln b.2.2.1) (iter (σ:=(Int×Int×lM×lN×lE×lE×lM×lN×lE×lE×Unit)) N (λh a=>let e:=inb a.1<|ln a.2.2.2.1;let c:=ix a.2.2.2.1 a.1 zh;let f:=ix c.Tables a.2.1 zc7; (oN e<|cond (ilt a.2.1<|ln c.Tables) (oN e<|oN e<|oN (inb a.2.1<|ln c.Tables)<|oN (zel f)<|oN (inb a.2.1<|ln c.Tables)<|share (up a.2.2.2.1 a.1 ({c with Tables:=(up c.Tables a.2.1<|zoV f)}:Mon)) λi=>h (a.1,zN .i64 a.2.1 1,a.2.2.1,i,a.2.2.2.2.1,a.2.2.2.2.2.1,a.2.2.2.2.2.2.1,a.2.2.2.2.2.2.2.1,a.2.2.2.2.2.2.2.2.1,a.2.2.2.2.2.2.2.2.2.1,()))<|g (zN .i64 a.1 1,a.2.2.1,a.2.2.2.1,a.2.2.2.2.1,a.2.2.2.2.2.1,a.2.2.2.2.2.2.1,a.2.2.2.2.2.2.2.1,a.2.2.2.2.2.2.2.2.1,a.2.2.2.2.2.2.2.2.2.1,()))) (b.1,0,b.2.1,b.2.2.1,b.2.2.2.1,b.2.2.2.2.1,b.2.2.2.2.2.1,b.2.2.2.2.2.2.1,b.2.2.2.2.2.2.2.1,b.2.2.2.2.2.2.2.2.1,()))<|some [aH (⟨b.2.1,b.2.2.1,[],[]⟩:Host)]) (0,(zk d).Memory,(zk d).Mons,(zk d).Buffer,(zk d).IoBuffer,[],[],[],[],()))
def z3b:=zq [(360,0,{n:=48,tm:=[(1,.lp 0 0),(2,.lp 1 0),(3,ti)],lo:=[(0,[.sl 0 [],.sl 1 [],.sl 2 [],.sl 3 []]),(1,[.sl 4 [],.sl 5 [],.sl 6 [],.sl 7 []])],ro:=[(0,.sl .int,true),(1,.mon,true),(2,.entry,true),(3,.entry,true),(4,.sl .int,true),(5,.mon,true),(6,.entry,true),(7,.entry,true)]}),(360,2,{n:=48,tm:=[(1,.lp 0 0),(2,.lp 1 0),(3,ti),(4,ti)],lo:=[(0,[.sl 0 [],.sl 1 [],.sl 2 [],.sl 3 []]),(1,[.sl 4 [],.sl 5 [],.sl 6 [],.sl 7 []])],ro:=[(0,.sl .int,true),(1,.mon,true),(2,.entry,true),(3,.entry,true),(4,.sl .int,true),(5,.mon,true),(6,.entry,true),(7,.entry,true)]})]
theorem z18 (a:Host)(m:zM a=true):∃N,zU0 N a=some [aH<|zy2 a]:=by
 have v:=(zO a).1 (zD.1 m);have s:=zcu v.2.1.1;refine zbX λN f=>?_;unfold zU0 oN;conv=>zeta
 refine must m ?_;refine(zrU a.Mons.length (λi (t:List Mon)=>((i:Int),a.Memory,t,a.Buffer,a.IoBuffer,[],[],[],[],())) _ (λi t=>zqb t/\t.length=a.Mons.length) (λi t=>some [AV.agg<|zbh ⟨a.Memory,zoK (a.Mons.length-i) i t,[],[]⟩]) (λi t rec n e x=>?_) (λt rec e=>?_) N 0 a.Mons ⟨v.2.1,rfl⟩ (jW _)<|f s.1).trans rfl
 .have hit:i<t.length:=(by rw[e.2];exact n);have l:zf8 (ix t (i:Int) mZ):=by rw[zbb hit];exact e.1.2 _ (jA hit)
  have r:=zcu l.2.2.2.2.2.1;refine must (zbn hit) ?_;refine(zrU (ix t (i:Int) mZ).Tables.length (λj (u:List Mon)=>((i:Int),(j:Int),a.Memory,u,a.Buffer,a.IoBuffer,[],[],[],[],()))
   _ (λj u=>u.length=t.length/\zf8 (ix u (i:Int) mZ)/\(ix u (i:Int) mZ).Tables.length=(ix t (i:Int) mZ).Tables.length)
   (λj u=>rec (((i+1:Nat):Int),a.Memory,up u (i:Int)<|zsp (ix u (i:Int) mZ) ((ix t (i:Int) mZ).Tables.length-j) j,a.Buffer,a.IoBuffer,[],[],[],[],()))
   (λj u h p c k=>?_) (λu h c=>?_) N 0 t ⟨rfl,l,rfl⟩ (jW _) (f r.1)).trans ?_
  .have b:i<u.length:=(by rw[c.1];exact hit);have d:j<(ix u (i:Int) mZ).Tables.length:=(by rw[c.2.2];exact p);have g:SmK (ix (ix u (i:Int) mZ).Tables (j:Int) kZ):=by rw[zbb d];exact c.2.1.2.2.2.2.2.2 _ (jA d)
   refine must (zU b) (must (zbn d)<|must (zU b)<|must (zU b)<|must (zU d)<|must (zba g)<|must (zU d)<|shr ?_);have w:zf8 {ix u (i:Int) mZ with Tables:=up (ix u (i:Int) mZ).Tables (j:Int) (ziE<|ix (ix u (i:Int) mZ).Tables (j:Int) kZ)} :=
    ⟨c.2.1.1,c.2.1.2.1,c.2.1.2.2.1,c.2.1.2.2.2.1,c.2.1.2.2.2.2.1,zuV c.2.1.2.2.2.2.2<|zsS _ _ _ g⟩
   have q:=k (up u (i:Int) {ix u (i:Int) mZ with Tables:=up (ix u (i:Int) mZ).Tables (j:Int) (ziE<|ix (ix u (i:Int) mZ).Tables (j:Int) kZ)}) ⟨by rw[zgN];exact c.1,by rw[zed b];exact w,by rw[zed b];simp only[zgN];exact c.2.2⟩;rw[zX p r.1];refine q.trans ?_;rw[zed b,zrv,show (ix t (i:Int) mZ).Tables.length-j=(ix t (i:Int) mZ).Tables.length-(j+1)+1 by omega];rfl
  {have b:i<u.length:=(by rw[c.1];exact hit);refine must (zU b) (zb4 (by show ilt ((ix t (i:Int) mZ).Tables.length:Int) (ln (ix u (i:Int) mZ).Tables)=false;rw[ln,c.2.2];exact qH (by omega)) ?_);rw[zX n s.1,kY];show rec (_,a.Memory,u,_)=rec (_,a.Memory,up u (i:Int)<|ix u (i:Int) mZ,_);rw[zET b]};{have q:=x (up t (i:Int)<|zsp (ix t (i:Int) mZ) (ix t (i:Int) mZ).Tables.length 0) ⟨zkA e.1<|zAg l (by omega),by rw[zgN];exact e.2⟩;refine q.trans ?_;rw[show a.Mons.length-i=a.Mons.length-(i+1)+1 by omega];rfl}
 {refine zb4 (by show ilt (a.Mons.length:Int) (ln t)=false;rw[ln,e.2];exact qH (by omega)) ?_;rw[kY];rfl}
theorem zVZ:vV 360 zuy:=kF1 zR1 zl zbB zbT z3b z18
def z3W:zbd:=[(360,zuy)]++z3V
theorem zR2:zQ z3W:=zf zVZ zR1
def zUY (N:Nat)(d:Host):OA:=
 (oN (zM d)<|iter (σ:=(Int×Int×lM×lN×lE×lE×lM×lN×lE×lE×Unit)) N (λk b=>let f:=b.2.2.2.2.2.2.2.1; (cond (ilt b.2.1 b.1) (oN (inb b.2.1<|ln f)<|iter (σ:=(Int×Int×Int×Int×Int×Int×lN×lM×lN×lE×lE×lM×lE×lE×Unit)) N (λl a=>let j:=a.2.2.2.2.2.2.2.2.2.2.2.2.1;let i:=a.2.2.2.2.2.2.2.2.2.2.2.2.2.1;let c:=a.2.2.2.2.2.1;let e:=a.2.2.2.2.2.2.1;let h:=ix e a.1 zh;let g:=(ix e a.2.2.2.1 zh).Tables; (cond (ilt c a.2.2.2.2.1) (oN (inb c<|ln g)<|oN (inb a.1<|ln e)<|oN (zel<|ix g c zc7)<|oN (inb c<|ln h.Tables)<|share (up e a.1 ({h with Tables:=(up h.Tables c<|zoV<|ix g c zc7)}:Mon)) λp=>l (a.1,a.2.1,a.2.2.1,a.2.2.2.1,a.2.2.2.2.1,zN .i64 c 1,p,a.2.2.2.2.2.2.2.1,a.2.2.2.2.2.2.2.2.1,a.2.2.2.2.2.2.2.2.2.1,a.2.2.2.2.2.2.2.2.2.2.1,a.2.2.2.2.2.2.2.2.2.2.2.1,j,i,()))<|k (a.2.1,zN .i64 a.2.2.1 1,a.2.2.2.2.2.2.2.1,a.2.2.2.2.2.2.2.2.1,a.2.2.2.2.2.2.2.2.2.1,a.2.2.2.2.2.2.2.2.2.2.1,a.2.2.2.2.2.2.2.2.2.2.2.1,e,j,i,()))) (b.2.1,b.1,b.2.1,b.2.1,ln (ix f b.2.1 zh).Tables,0,f,b.2.2.1,b.2.2.2.1,b.2.2.2.2.1,b.2.2.2.2.2.1,b.2.2.2.2.2.2.1,b.2.2.2.2.2.2.2.2.1,b.2.2.2.2.2.2.2.2.2.1,()))<|share [] λm=>share [] λn=>some [aH (⟨b.2.2.2.2.2.2.1,f,m,n⟩:Host)])) (ln (zk d).Mons,0,[],[],[],[],(zk d).Memory,(zk d).Mons,(zk d).Buffer,(zk d).IoBuffer,()))
def z3a:=zq [(48,0,{n:=42,tm:=[(2,.lp 0 0),(3,.lp 1 0),(11,ti),(12,ti)],lo:=[(0,[.sl 0 [],.sl 1 [],.sl 2 [],.sl 3 []]),(1,[.sl 4 [],.sl 5 [],.sl 6 [],.sl 7 []])],ro:=[(0,.sl .int,true),(1,.mon,true),(2,.entry,true),(3,.entry,true),(4,.sl .int,true),(5,.mon,true),(6,.entry,true),(7,.entry,true)]}),(48,2,{n:=42,tm:=[(2,.lp 0 0),(3,.lp 1 0),(4,ti),(11,ti),(12,ti),(20,.sl 0 [7]),(21,ti),(22,ti)],lo:=[(0,[.sl 1 [],.sl 2 [],.sl 3 [],.sl 4 []]),(1,[.sl 5 [],.sl 0 [],.sl 6 [],.sl 7 []])],ro:=[(0,.mon,true),(1,.sl .int,true),(2,.mon,true),(3,.entry,true),(4,.entry,true),(5,.sl .int,true),(6,.entry,true),(7,.entry,true)]})]
theorem z1Z (a:Host)(p:zM a=true):∃N,zUY N a=some [aH<|zy2 a]:=by
 have v:=(zO a).1 (zD.1 p);have s:=zcu v.2.1.1;refine zbX λN f=>?_;unfold zUY oN;conv=>zeta
 refine must p ?_;refine(zrU a.Mons.length (λi (t:List Mon)=>(ln a.Mons,(i:Int),[],[],[],[],a.Memory,t,a.Buffer,a.IoBuffer,())) _ (λi t=>zqb t/\t.length=a.Mons.length) (λi t=>some [AV.agg<|zbh ⟨a.Memory,zoK (a.Mons.length-i) i t,[],[]⟩]) (λi t rec k e x=>?_) (λt rec e=>?_) N 0 a.Mons ⟨v.2.1,rfl⟩ (jW _)<|f s.1).trans rfl
 .have hit:i<t.length:=(by rw[e.2];exact k);have n:zf8 (ix t (i:Int) mZ):=by rw[zbb hit];exact e.1.2 _ (jA hit)
  have r:=zcu n.2.2.2.2.2.1;refine must (zbn k) (must (zU hit) ?_);refine(zrU (ix t (i:Int) mZ).Tables.length (λj (u:List Mon)=>((i:Int),ln a.Mons,(i:Int),(i:Int),ln (ix t (i:Int) mZ).Tables,(j:Int),u,[],[],[],[],a.Memory,a.Buffer,a.IoBuffer,()))
   _ (λj u=>u.length=t.length/\zf8 (ix u (i:Int) mZ)/\(ix u (i:Int) mZ).Tables.length=(ix t (i:Int) mZ).Tables.length)
   (λj u=>rec (ln a.Mons,((i+1:Nat):Int),[],[],[],[],a.Memory,up u (i:Int)<|zsp (ix u (i:Int) mZ) ((ix t (i:Int) mZ).Tables.length-j) j,a.Buffer,a.IoBuffer,()))
   (λj u h l b m=>?_) (λu h b=>?_) N 0 t ⟨rfl,n,rfl⟩ (jW _) (f r.1)).trans ?_
  .have c:i<u.length:=(by rw[b.1];exact hit);have d:j<(ix u (i:Int) mZ).Tables.length:=(by rw[b.2.2];exact l);have g:SmK (ix (ix u (i:Int) mZ).Tables (j:Int) kZ):=by rw[zbb d];exact b.2.1.2.2.2.2.2.2 _ (jA d)
   refine must (zbn l) (must (zU d)<|must (zU c)<|must (zba g)<|must (zU d)<|shr ?_);have w:zf8 {ix u (i:Int) mZ with Tables:=up (ix u (i:Int) mZ).Tables (j:Int) (ziE<|ix (ix u (i:Int) mZ).Tables (j:Int) kZ)} :=
    ⟨b.2.1.1,b.2.1.2.1,b.2.1.2.2.1,b.2.1.2.2.2.1,b.2.1.2.2.2.2.1,zuV b.2.1.2.2.2.2.2<|zsS _ _ _ g⟩
   have q:=m (up u (i:Int) {ix u (i:Int) mZ with Tables:=up (ix u (i:Int) mZ).Tables (j:Int) (ziE<|ix (ix u (i:Int) mZ).Tables (j:Int) kZ)}) ⟨by rw[zgN];exact b.1,by rw[zed c];exact w,by rw[zed c];simp only[zgN];exact b.2.2⟩;rw[zX l r.1];refine q.trans ?_;rw[zed c,zrv,show (ix t (i:Int) mZ).Tables.length-j=(ix t (i:Int) mZ).Tables.length-(j+1)+1 by omega];rfl
  {have c:i<u.length:=(by rw[b.1];exact hit);refine zb4 (by show ilt ((ix t (i:Int) mZ).Tables.length:Int) (ln (ix t (i:Int) mZ).Tables)=false;exact qH (by simp only[ln];omega)) ?_;rw[zX k s.1,kY];show rec _=rec (ln a.Mons,_,[],[],[],[],a.Memory,up u (i:Int)<|ix u (i:Int) mZ,_);rw[zET c]};{have q:=x (up t (i:Int)<|zsp (ix t (i:Int) mZ) (ix t (i:Int) mZ).Tables.length 0) ⟨zkA e.1<|zAg n (by omega),by rw[zgN];exact e.2⟩;refine q.trans ?_;rw[show a.Mons.length-i=a.Mons.length-(i+1)+1 by omega];rfl}
 {refine zb4 (by show ilt (a.Mons.length:Int) (ln a.Mons)=false;exact qH (by simp only[ln];omega)) ?_;rw[kY];rfl}
theorem zVU:vV 48 zuy:=kF1 zR2 zl zbB zbT z3a z1Z
def z3X:zbd:=[(48,zuy)]++z3W
theorem zR3:zQ z3X:=zf zVU zR2
theorem zBs:∀(n i:Nat) (t:List Mon),i+n<=t.length->zqb t->zqb (zoK n i t)
 | 0,_,_,_,h=>h
 |n+1,i,t,b,h=>by have a:i<t.length:=(by omega);refine zBs n (i+1) _ (by rw[zgN];omega) (zkA h<|zAg ?_ (by omega));rw[zbb a];exact h.2 _ (jA a)
theorem z8j {h:Host}(a:SmH h):SmH (cold h):=⟨a.1,zBs _ _ _ (by omega) a.2.1,by simp[cold],by simp[cold]⟩
theorem zpO {h:Host}{m:Int}{b:Bare}(c:SmH h)(d:zck h m=true->SmB b):SmH (zgu h m b):=by unfold zgu;cases a:zck h m;{exact c};{exact zAe c (zbv.1 a).2 (d a).2.1}
theorem z5R {h:Host}{m g p:Int}(c:SmH h):SmH (zkn h m g p):=by unfold zkn;cases e:zck h m;{exact c};{cases l:zb0 (zB h m) g (hasB p 4);{exact c};{have d:=(zbv.1 e).2;have f:=ze9 c d;have k:SmB (chg (zB h m) g (hasB p 4)<|zeB (gAt (zB h m) g) p):=ziq f (zru _<|zf3 _ f);have b:=zAe c d k.2.1;have i:=zHT (chg (zB h m) g (hasB p 4)<|zeB (gAt (zB h m) g) p) d;have j:=zC6 c e (chg (zB h m) g (hasB p 4)<|zeB (gAt (zB h m) g) p) l;have a:=b.2.1.2 _ (zbQ i mZ);simp only[cT];exact⟨b.1,zkA b.2.1 ⟨a.1,a.2.1,a.2.2.1,a.2.2.2.1,a.2.2.2.2.1,zuV a.2.2.2.2.2<|zot<|a.2.2.2.2.2.2 _<|zbQ j _⟩,jB (zzw _ _ _) b.2.2.1,jB (zzw _ _ _) b.2.2.2⟩}}
theorem z8k {h:Host}{m p c v:Int}(e:SmH h):SmH (zlZ h m p c v):=by unfold zlZ;cases a:zdR h m p c v;{exact e};{have f:zb5 h m p=true:=(by unfold zdR at a;cases b:zb5 h m p;{rw [b]at a;cases a};{rfl});obtain⟨g,i,b⟩:=ziS.1 f;have d:=(zvY (n:=2) (zfQ e g) i b).1.1;exact⟨zpP d.1,d.2⟩}
theorem zWY {h:Host}{m g c a:Int}(b:List Entry)(i:Bool)(f:SmH h)(d:zbZ h m g c a=true):SmH (lookOf h b m g c a i).1:=by have hg:zb8 h m g=true:=(by unfold zbZ at d;cases e:zb8 h m g;{rw [e]at d;cases d};{rfl});exact(zuO f hg).shape.1
theorem zbbC {h:Host}{m g a v:Int}(e:SmH h):SmH (znU h m g a v):=by unfold znU;cases b:zhl h m g a v;{exact e};{have f:zbZ h m g (zbp a) 2=true:=(by unfold zhl at b;cases c:zi a 0 15;{rw [c]at b;cases b};{cases d:zi v 0 99;{rw [c,d]at b;cases b};{rw [c,d]at b;exact b}});have c:=zWY h.IoBuffer true e f;exact⟨zpP c.1,c.2⟩}
theorem z8l {h:Host}{m g a:Int}(d:SmH h):SmH (zl0 h m g a):=by unfold zl0;cases b:zgr h m g a;{exact d};{have e:zbZ h m g (zbp a) 1=true:=(by unfold zgr at b;cases c:zi a 0 15;{rw [c]at b;cases b};{rw [c]at b;exact b});exact zWY h.IoBuffer true d e}
theorem zbbD {h:Host}{m p:Int}(a:SmH h):SmH (zn4 h m p):=by unfold zn4;cases b:zb5 h m p;{exact a};{obtain⟨c,d,e⟩:=ziS.1 b;cases zjS h m p;{exact(zNA (zfQ a c).1 d).1};{exact a}}
theorem zbcK {h:Host}{m p:Int}(a:SmH h):SmH (zqE h m p):=by unfold zqE;cases b:zb5 h m p;{exact a};{obtain⟨c,d,e⟩:=ziS.1 b;cases zjS h m p;{exact a};{exact(zmw (zfQ a c) d e).1.1}}
theorem z5V {h:Host}{m t:Int}(a:SmH h):SmH (zjN h m t):=by unfold zjN;cases zbP h;{exact a};{cases c:hasB m (ln h.Mons);{exact a};{cases zi t 0 3;{exact a};{have b:zf8 (ix h.Mons m mZ):=a.2.1.2 _ (zbQ c mZ);exact⟨a.1,zkA a.2.1 ⟨b.1,b.2.1,b.2.2.1,b.2.2.2.1,b.2.2.2.2.1,b.2.2.2.2.2⟩,a.2.2⟩}}}
def zg6 (h:Host)(a:GAct):Host:=bif ieq a.Kind 1 then (zcH h a.M a.G).1 else (cond (ieq a.Kind 2) (zgU h a.M a.G a.X ⟨a.Y,a.Z⟩)<|cond (ieq a.Kind 3) (zkn h a.M a.G a.X)<|cond (ieq a.Kind 4) (zfj h a.M a.G a.X)<|cond (ieq a.Kind 5) (zfl h a.M a.G)<|cond (ieq a.Kind 6) (zfk h a.M a.G a.X)<|cond (ieq a.Kind 7) (zhT h a.M a.G ⟨a.X,a.Y,ieq a.Z 1⟩)<|cond (ieq a.Kind 8) (zlZ h a.M a.X a.Y a.Z)<|cond (ieq a.Kind 9) (zgg h a.M a.X)<|cond (ieq a.Kind 10) (zgT h a.M)<|cond (ieq a.Kind 11) (znU h a.M a.G a.X a.Y)<|zl0 h a.M a.G a.X)
def zh9 (h:Host)(a:GAct):Told:=bif ieq a.Kind 1 then ⟨(zcH h a.M a.G).2,0⟩ else (cond (ieq a.Kind 2) ⟨zhV h a.M a.G a.X ⟨a.Y,a.Z⟩,0⟩<|cond (ieq a.Kind 3) ⟨zgs h a.M a.G a.X,0⟩<|cond (ieq a.Kind 4) ⟨zfV h a.M a.G a.X,0⟩<|cond (ieq a.Kind 5) ⟨zfX h a.M a.G,0⟩<|cond (ieq a.Kind 6) ⟨zfW h a.M a.G a.X,0⟩<|cond (ieq a.Kind 7) ⟨zhU h a.M a.G ⟨a.X,a.Y,ieq a.Z 1⟩,0⟩<|cond (ieq a.Kind 8) ⟨zdR h a.M a.X a.Y a.Z,0⟩<|cond (ieq a.Kind 9) ⟨zg8 h a.M a.X,0⟩<|cond (ieq a.Kind 10) ⟨zhS h a.M,zhR h a.M⟩<|cond (ieq a.Kind 11) ⟨zhl h a.M a.G a.X a.Y,0⟩<|⟨zgr h a.M a.G a.X,zm9 h a.M a.G a.X⟩)
def zjx (h:Host)(a:GAct):Host:=bif ieq a.Kind 13 then zn4 h a.M a.X else (cond (ieq a.Kind 14) (zqE h a.M a.X)<|cond (ieq a.Kind 15) (zqi h a.M a.X)<|cond (ieq a.Kind 16) (zjN h a.M a.X)<|cold h)
def zqC (h:Host)(a:GAct):Told:=bif ieq a.Kind 13 then ⟨ztl h a.M a.X,0⟩ else (cond (ieq a.Kind 14) ⟨zvC h a.M a.X,0⟩<|cond (ieq a.Kind 15) ⟨zb5 h a.M a.X,0⟩<|cond (ieq a.Kind 16) ⟨zrr h a.M a.X,0⟩<|⟨true,0⟩)
def zbF (h:Host)(a:GAct):Host:=bif zi a.Kind 1 17 then (cond (zi a.Kind 13 17) (zjx h a)<|zg6 h a) else h
def zb9 (h:Host)(a:GAct):Told:=bif zi a.Kind 1 17 then (cond (zi a.Kind 13 17) (zqC h a)<|zh9 h a) else ⟨false,0⟩
theorem z5U {h:Host}{a:GAct}(b:SmH h):SmH (zjx h a):=by unfold zjx;cases ieq a.Kind 13;{cases ieq a.Kind 14;{cases ieq a.Kind 15;{cases ieq a.Kind 16;{exact z8j b};{exact z5V b}};{exact z5S b}};{exact zbcK b}};{exact zbbD b}
theorem z5T {h:Host}{a:GAct}(c:SmH h):SmH (zg6 h a):=by have d:zck h a.M=true->SmB (zB h a.M):=λb=>ze9 c (zbv.1 b).2;unfold zg6;cases ieq a.Kind 1;{cases ieq a.Kind 2;{cases ieq a.Kind 3;{cases ieq a.Kind 4;{cases ieq a.Kind 5;{cases ieq a.Kind 6;{cases ieq a.Kind 7;{cases ieq a.Kind 8;{cases ieq a.Kind 9;{cases ieq a.Kind 10;{cases ieq a.Kind 11;{exact z8l c};{exact zbbC c}};{exact zpO c (λb=>zQQ (d b))}};{exact zpO c (λb=>zJO _ (d b))}};{exact z8k c}};{exact zpO c (λb=>zQR _ _ (d b))}};{exact zpO c (λb=>zAc _ _ (d b))}};{exact zpO c (λb=>zAd _ (d b))}};{exact zpO c (λb=>zAb _ _ (d b))}};{exact z5R c}};{exact zpO c (λb=>zQS _ _ _ (d b))}};{exact(z5H a.M a.G c).sm}
theorem zEQ {h:Host}{a:GAct}(b:SmH h):SmH (zbF h a):=by unfold zbF;cases zi a.Kind 1 17;{exact b};{cases zi a.Kind 13 17;{exact z5T b};{exact z5U b}}
@[simp] abbrev zfI (h:Host)(a:GAct):Bool:=pc (zdv h)
@[simp] abbrev znD (h:Host)(a:GAct):Host:=zjx h a
@[simp] abbrev zlB (h:Host)(a:GAct):Told:=zqC h a
def zy1:Run:=rF2 dH (dT .act) λb c=>(zfI b c,[aH<|znD b c,aT .told<|zlB b c])
def zCE (N:Nat)(c:Host)(a:GAct):OA:=
 (cond (ieq a.Kind 13) (oN (zfn c a.M a.X)<|some [aH<|zi0 c a.M a.X,.agg [.b<|zkS c a.M a.X,.i .i64 0]])<|cond (ieq a.Kind 14) (oN (zfn c a.M a.X)<|some [aH<|zkx c a.M a.X,.agg [.b<|zme c a.M a.X,.i .i64 0]])<|cond (ieq a.Kind 15) (oN (zfn c a.M a.X)<|some [aH<|zku c a.M a.X,.agg [.b<|zeA c a.M a.X,.i .i64 0]])<|cond (ieq a.Kind 16) (oN (znB c a.M a.X)<|some [aH<|zii c a.M a.X,.agg [.b<|zjK c a.M a.X,.i .i64 0]])<|oN (zM c)<|some [aH<|zy2 c,.agg [.b true,.i .i64 0]])
theorem zQz (a:Host)(b:GAct)(c:zfI a b=true):∃N,zCE N a b=some [aH<|znD a b,aT .told<|zlB a b]:=by have d:=zD.1 c;refine⟨0,?_⟩;unfold zCE oN;refine br (λ_=>mu ?_) (λ_=>br (λ_=>mu ?_) λ_=>br (λ_=>mu ?_) λ_=>br (λ_=>mu ?_) λ_=>mu ?_);all_goals first|rfl|(simp only [*,znD,zlB,zjx,zqC,cT,cF]<;>rfl)|simp_all[Ty.cells,znD,zlB,zjx,zqC]
theorem zJd:vV 318 zy1:=kF2 zR3 zl zbB zbT (zq []) zQz
def z3Y:zbd:=[(318,zy1),(101,zxE),(59,zho),(58,zho),(110,zmC),(39,zmC)]++z3X
theorem zCY:zQ z3Y:=zf zJd (zf zAV<|zf zqm<|zf zql<|zf zAW<|zf zAT zR3)
@[simp] abbrev zgW (h:Host)(a:GAct):Host:=zbF h a
@[simp] abbrev zgl (h:Host)(a:GAct):Told:=zb9 h a
def zmt:Run:=rF2 dH (dT .act) λb c=>(zfI b c,[aH<|zgW b c,aT .told<|zgl b c])
def zGv (N:Nat)(c:Host)(a:GAct):OA:=
 let d:=(⟨a.Y,a.Z⟩:Slot); (oN (zkt a)<|cond (nB<|zuS a) (oN (zM c)<|some [aH<|zk c,.agg [.b false,.i .i64 0]])<|oN (zoZ a.Kind)<|cond (znz a.Kind) (oN (zfI c a)<|some [aH<|znD c a,.agg [.b (zlB c a).Ok,.i .i64 (zlB c a).N]])<|cond (ieq a.Kind 1) (oN (zdz c a.M a.G)<|some [aH<|zcA c a.M a.G,.agg [.b<|zcJ c a.M a.G,.i .i64 0]])<|cond (ieq a.Kind 2) (oN (zoY c a.M a.G a.X d)<|some [aH<|zgU c a.M a.G a.X d,.agg [.b<|zhV c a.M a.G a.X d,.i .i64 0]])<|cond (ieq a.Kind 3) (oN (zmv c a.M a.G a.X)<|some [aH<|zhr c a.M a.G a.X,.agg [.b<|zgs c a.M a.G a.X,.i .i64 0]])<|cond (ieq a.Kind 4) (oN (zlp c a.M a.G a.X)<|some [aH<|zfj c a.M a.G a.X,.agg [.b<|zfV c a.M a.G a.X,.i .i64 0]])<|cond (ieq a.Kind 5) (oN (zls c a.M a.G)<|some [aH<|zfl c a.M a.G,.agg [.b<|zfX c a.M a.G,.i .i64 0]])<|cond (ieq a.Kind 6) (oN (zlq c a.M a.G a.X)<|some [aH<|zfk c a.M a.G a.X,.agg [.b<|zfW c a.M a.G a.X,.i .i64 0]])<|cond (ieq a.Kind 7) (oN (zkt a)<|oN (zoW c a.M a.G<|zjl a)<|some [aH<|zhT c a.M a.G<|zjl a,.agg [.b<|zhU c a.M a.G<|zjl a,.i .i64 0]])<|cond (ieq a.Kind 8) (oN (znw c a.M a.X a.Y a.Z)<|some [aH<|zjE c a.M a.X a.Y a.Z,.agg [.b<|zjF c a.M a.X a.Y a.Z,.i .i64 0]])<|cond (ieq a.Kind 9) (oN (znx c a.M a.X)<|some [aH<|zgg c a.M a.X,.agg [.b<|zg8 c a.M a.X,.i .i64 0]])<|cond (ieq a.Kind 10) (oN (zdg c a.M)<|some [aH<|zgT c a.M,.agg [.b<|zhS c a.M,.i .i64<|zhR c a.M]])<|cond (ieq a.Kind 11) (oN (zoX c a.M a.G a.X a.Y)<|some [aH<|zkO c a.M a.G a.X a.Y,.agg [.b<|zkP c a.M a.G a.X a.Y,.i .i64 0]])<|oN (zny c a.M a.G a.X)<|some [aH<|zih c a.M a.G a.X,.agg [.b<|zjH c a.M a.G a.X,.i .i64<|zjG c a.M a.G a.X]])
theorem zTZ (a:Host)(b:GAct)(c:zfI a b=true):∃N,zGv N a b=some [aH<|zgW a b,aT .told<|zgl a b]:=by
 have d:=zD.1 c;refine⟨0,?_⟩;unfold zGv oN nB;conv=>zeta
 refine must rfl (brN (λ_=>mu ?_) λ_=>must rfl (br (λ_=>mu ?_) λ_=>br (λ_=>mu ?_) λ_=>br (λ_=>mu ?_) λ_=>br (λ_=>mu ?_) λ_=>br (λ_=>mu ?_) λ_=>br (λ_=>mu ?_) λ_=>br (λ_=>mu ?_) λ_=>br (λ_=>must rfl (mu ?_)) λ_=>br (λ_=>mu ?_) λ_=>br (λ_=>mu ?_) λ_=>br (λ_=>mu ?_) λ_=>br (λ_=>mu ?_) λ_=>mu ?_));all_goals first|rfl|(simp only [*,zgW,zgl,zbF,zb9,zg6,zh9,cT,cF]<;>rfl)|simp_all[Ty.cells,zgW,zgl,zbF,zb9,zg6,zh9]
theorem zLW:vV 270 zmt:=kF2 zCY zl zbB zbT (zq []) zTZ
theorem zbcW {h:Host}{a:GAct}(b:ieq a.Kind 1=true):zbF h a=(zcH h a.M a.G).1/\zb9 h a=⟨(zcH h a.M a.G).2,0⟩:=by have e:a.Kind=1:=qD b;constructor;{unfold zbF zg6;rw[e];rfl};{unfold zb9 zh9;rw[e];rfl}
theorem zbcX {h:Host}{a:GAct}(b:ieq a.Kind 2=true):zbF h a=zgU h a.M a.G a.X ⟨a.Y,a.Z⟩/\zb9 h a=⟨zhV h a.M a.G a.X ⟨a.Y,a.Z⟩,0⟩:=by have e:a.Kind=2:=qD b;constructor;{unfold zbF zg6;rw[e];rfl};{unfold zb9 zh9;rw[e];rfl}
theorem zbcY {h:Host}{a:GAct}(b:ieq a.Kind 3=true):zbF h a=zkn h a.M a.G a.X/\zb9 h a=⟨zgs h a.M a.G a.X,0⟩:=by have e:a.Kind=3:=qD b;constructor;{unfold zbF zg6;rw[e];rfl};{unfold zb9 zh9;rw[e];rfl}
theorem zbcZ {h:Host}{a:GAct}(b:ieq a.Kind 4=true):zbF h a=zfj h a.M a.G a.X/\zb9 h a=⟨zfV h a.M a.G a.X,0⟩:=by have e:a.Kind=4:=qD b;constructor;{unfold zbF zg6;rw[e];rfl};{unfold zb9 zh9;rw[e];rfl}
theorem zbc0 {h:Host}{a:GAct}(b:ieq a.Kind 5=true):zbF h a=zfl h a.M a.G/\zb9 h a=⟨zfX h a.M a.G,0⟩:=by have e:a.Kind=5:=qD b;constructor;{unfold zbF zg6;rw[e];rfl};{unfold zb9 zh9;rw[e];rfl}
theorem zbc1 {h:Host}{a:GAct}(b:ieq a.Kind 6=true):zbF h a=zfk h a.M a.G a.X/\zb9 h a=⟨zfW h a.M a.G a.X,0⟩:=by have e:a.Kind=6:=qD b;constructor;{unfold zbF zg6;rw[e];rfl};{unfold zb9 zh9;rw[e];rfl}
theorem zbc2 {h:Host}{a:GAct}(b:ieq a.Kind 7=true):zbF h a=zhT h a.M a.G ⟨a.X,a.Y,ieq a.Z 1⟩/\zb9 h a=⟨zhU h a.M a.G ⟨a.X,a.Y,ieq a.Z 1⟩,0⟩:=by have e:a.Kind=7:=qD b;constructor;{unfold zbF zg6;rw[e];rfl};{unfold zb9 zh9;rw[e];rfl}
theorem zbc3 {h:Host}{a:GAct}(b:ieq a.Kind 8=true):zbF h a=zlZ h a.M a.X a.Y a.Z/\zb9 h a=⟨zdR h a.M a.X a.Y a.Z,0⟩:=by have e:a.Kind=8:=qD b;constructor;{unfold zbF zg6;rw[e];rfl};{unfold zb9 zh9;rw[e];rfl}
theorem zbc4 {h:Host}{a:GAct}(b:ieq a.Kind 9=true):zbF h a=zgg h a.M a.X/\zb9 h a=⟨zg8 h a.M a.X,0⟩:=by have e:a.Kind=9:=qD b;constructor;{unfold zbF zg6;rw[e];rfl};{unfold zb9 zh9;rw[e];rfl}
theorem zbbL {h:Host}{a:GAct}(b:ieq a.Kind 10=true):zbF h a=zgT h a.M/\zb9 h a=⟨zhS h a.M,zhR h a.M⟩:=by have e:a.Kind=10:=qD b;constructor;{unfold zbF zg6;rw[e];rfl};{unfold zb9 zh9;rw[e];rfl}
theorem zbbM {h:Host}{a:GAct}(b:ieq a.Kind 11=true):zbF h a=znU h a.M a.G a.X a.Y/\zb9 h a=⟨zhl h a.M a.G a.X a.Y,0⟩:=by have e:a.Kind=11:=qD b;constructor;{unfold zbF zg6;rw[e];rfl};{unfold zb9 zh9;rw[e];rfl}
theorem zbbN {h:Host}{a:GAct}(b:ieq a.Kind 12=true):zbF h a=zl0 h a.M a.G a.X/\zb9 h a=⟨zgr h a.M a.G a.X,zm9 h a.M a.G a.X⟩:=by have e:a.Kind=12:=qD b;constructor;{unfold zbF zg6;rw[e];rfl};{unfold zb9 zh9;rw[e];rfl}
theorem zbbO {h:Host}{a:GAct}(b:ieq a.Kind 13=true):zbF h a=zn4 h a.M a.X/\zb9 h a=⟨ztl h a.M a.X,0⟩:=by have e:a.Kind=13:=qD b;constructor;{unfold zbF zjx;rw[e];rfl};{unfold zb9 zqC;rw[e];rfl}
theorem zbbP {h:Host}{a:GAct}(b:ieq a.Kind 14=true):zbF h a=zqE h a.M a.X/\zb9 h a=⟨zvC h a.M a.X,0⟩:=by have e:a.Kind=14:=qD b;constructor;{unfold zbF zjx;rw[e];rfl};{unfold zb9 zqC;rw[e];rfl}
theorem zbbQ {h:Host}{a:GAct}(b:ieq a.Kind 15=true):zbF h a=zqi h a.M a.X/\zb9 h a=⟨zb5 h a.M a.X,0⟩:=by have e:a.Kind=15:=qD b;constructor;{unfold zbF zjx;rw[e];rfl};{unfold zb9 zqC;rw[e];rfl}
theorem zbbR {h:Host}{a:GAct}(b:ieq a.Kind 16=true):zbF h a=zjN h a.M a.X/\zb9 h a=⟨zrr h a.M a.X,0⟩:=by have e:a.Kind=16:=qD b;constructor;{unfold zbF zjx;rw[e];rfl};{unfold zb9 zqC;rw[e];rfl}
theorem zbbS {h:Host}{a:GAct}(b:ieq a.Kind 17=true):zbF h a=cold h/\zb9 h a=⟨true,0⟩:=by have e:a.Kind=17:=qD b;constructor;{unfold zbF zjx;rw[e];rfl};{unfold zb9 zqC;rw[e];rfl}
theorem zbcV {h:Host}{a:GAct}(l:ieq a.Kind 1=false)(m:ieq a.Kind 2=false)(n:ieq a.Kind 3=false)(p:ieq a.Kind 4=false)(q:ieq a.Kind 5=false)(r:ieq a.Kind 6=false)(s:ieq a.Kind 7=false)(t:ieq a.Kind 8=false)(u:ieq a.Kind 9=false)(b:ieq a.Kind 10=false)(c:ieq a.Kind 11=false)(d:ieq a.Kind 12=false)(e:ieq a.Kind 13=false)(f:ieq a.Kind 14=false)(g:ieq a.Kind 15=false)(i:ieq a.Kind 16=false)(j:ieq a.Kind 17=false):zbF h a=h/\zb9 h a=⟨false,0⟩:=by have k:zi a.Kind 1 17=false:=(by cases k:zi a.Kind 1 17;{rfl};{have:=zf7.1 k;have:=qY l;have:=qY m;have:=qY n;have:=qY p;have:=qY q;have:=qY r;have:=qY s;have:=qY t;have:=qY u;have:=qY b;have:=qY c;have:=qY d;have:=qY e;have:=qY f;have:=qY g;have:=qY i;have:=qY j;omega});unfold zbF zb9;rw[k];exact⟨rfl,rfl⟩
def zF2 (N:Nat)(c:Host)(a:GAct):OA:=
 let g:=zhT c a.M a.G<|zjl a;let f:=zkO c a.M a.G a.X a.Y;let e:=zjE c a.M a.X a.Y a.Z;let d:=(⟨a.Y,a.Z⟩:Slot); (cond (ieq a.Kind 1) (oN (zdz c a.M a.G)<|oN (zM<|zcA c a.M a.G)<|some [aH<|zk<|zcA c a.M a.G,.agg [.b<|zcJ c a.M a.G,.i .i64 0]])<|cond (ieq a.Kind 2) (oN (zoY c a.M a.G a.X d)<|oN (zM<|zgU c a.M a.G a.X d)<|some [aH<|zk<|zgU c a.M a.G a.X d,.agg [.b<|zhV c a.M a.G a.X d,.i .i64 0]])<|cond (ieq a.Kind 3) (oN (zmv c a.M a.G a.X)<|oN (zM<|zhr c a.M a.G a.X)<|some [aH<|zk<|zhr c a.M a.G a.X,.agg [.b<|zgs c a.M a.G a.X,.i .i64 0]])<|cond (ieq a.Kind 4) (oN (zlp c a.M a.G a.X)<|oN (zM<|zfj c a.M a.G a.X)<|some [aH<|zk<|zfj c a.M a.G a.X,.agg [.b<|zfV c a.M a.G a.X,.i .i64 0]])<|cond (ieq a.Kind 5) (oN (zls c a.M a.G)<|oN (zM<|zfl c a.M a.G)<|some [aH<|zk<|zfl c a.M a.G,.agg [.b<|zfX c a.M a.G,.i .i64 0]])<|cond (ieq a.Kind 6) (oN (zlq c a.M a.G a.X)<|oN (zM<|zfk c a.M a.G a.X)<|some [aH<|zk<|zfk c a.M a.G a.X,.agg [.b<|zfW c a.M a.G a.X,.i .i64 0]])<|cond (ieq a.Kind 7) (oN (zkt a)<|oN (zoW c a.M a.G<|zjl a)<|oN (zM g)<|some [aH<|zk g,.agg [.b<|zhU c a.M a.G<|zjl a,.i .i64 0]])<|cond (ieq a.Kind 8) (oN (znw c a.M a.X a.Y a.Z)<|oN (zM e)<|some [aH<|zk e,.agg [.b<|zjF c a.M a.X a.Y a.Z,.i .i64 0]])<|cond (ieq a.Kind 9) (oN (znx c a.M a.X)<|oN (zM<|zgg c a.M a.X)<|some [aH<|zk<|zgg c a.M a.X,.agg [.b<|zg8 c a.M a.X,.i .i64 0]])<|cond (ieq a.Kind 10) (oN (zdg c a.M)<|oN (zM<|zgT c a.M)<|some [aH<|zk<|zgT c a.M,.agg [.b<|zhS c a.M,.i .i64<|zhR c a.M]])<|cond (ieq a.Kind 11) (oN (zoX c a.M a.G a.X a.Y)<|oN (zM f)<|some [aH<|zk f,.agg [.b<|zkP c a.M a.G a.X a.Y,.i .i64 0]])<|cond (ieq a.Kind 12) (oN (zny c a.M a.G a.X)<|oN (zM<|zih c a.M a.G a.X)<|some [aH<|zk<|zih c a.M a.G a.X,.agg [.b<|zjH c a.M a.G a.X,.i .i64<|zjG c a.M a.G a.X]])<|cond (ieq a.Kind 13) (oN (zfn c a.M a.X)<|oN (zM<|zi0 c a.M a.X)<|some [aH<|zk<|zi0 c a.M a.X,.agg [.b<|zkS c a.M a.X,.i .i64 0]])<|cond (ieq a.Kind 14) (oN (zfn c a.M a.X)<|oN (zM<|zkx c a.M a.X)<|some [aH<|zk<|zkx c a.M a.X,.agg [.b<|zme c a.M a.X,.i .i64 0]])<|cond (ieq a.Kind 15) (oN (zfn c a.M a.X)<|oN (zM<|zku c a.M a.X)<|some [aH<|zk<|zku c a.M a.X,.agg [.b<|zwL c a.M a.X,.i .i64 0]])<|cond (ieq a.Kind 16) (oN (znB c a.M a.X)<|oN (zM<|zii c a.M a.X)<|some [aH<|zk<|zii c a.M a.X,.agg [.b<|zjK c a.M a.X,.i .i64 0]])<|cond (ieq a.Kind 17) (oN (zM c)<|oN (zM<|zy2 c)<|some [aH<|zk<|zy2 c,.agg [.b true,.i .i64 0]])<|oN (zM c)<|some [aH<|zk c,.agg [.b false,.i .i64 0]])
theorem zTx (a:Host)(b:GAct)(c:zfI a b=true):∃N,zF2 N a b=some [aH<|zgW a b,aT .told<|zgl a b]:=by
 have d:=zD.1 c;have e:zdv (zbF a b):=(zO _).2 (zEQ<|(zO _).1 d);have p:=@zbcW a b;have q:=@zbcX a b;have r:=@zbcY a b;have s:=@zbcZ a b;have t:=@zbc0 a b;have u:=@zbc1 a b;have v:=@zbc2 a b;have w:=@zbc3 a b;have x:=@zbc4 a b;have f:=@zbbL a b;have g:=@zbbM a b;have h:=@zbbN a b;have i:=@zbbO a b;have j:=@zbbP a b;have k:=@zbbQ a b;have l:=@zbbR a b;have m:=@zbbS a b;have n:=@zbcV a b;refine⟨0,?_⟩;unfold zF2 oN;conv=>zeta
 refine br (λ_=>mu (mu ?_)) (λ_=>br (λ_=>mu (mu ?_)) λ_=>br (λ_=>mu (mu ?_)) λ_=>br (λ_=>mu (mu ?_)) λ_=>br (λ_=>mu (mu ?_)) λ_=>br (λ_=>mu (mu ?_)) λ_=>br (λ_=>must rfl (mu<|mu ?_)) λ_=>br (λ_=>mu (mu ?_)) λ_=>br (λ_=>mu (mu ?_)) λ_=>br (λ_=>mu (mu ?_)) λ_=>br (λ_=>mu (mu ?_)) λ_=>br (λ_=>mu (mu ?_)) λ_=>br (λ_=>mu (mu ?_)) λ_=>br (λ_=>mu (mu ?_)) λ_=>br (λ_=>mu (mu ?_)) λ_=>br (λ_=>mu (mu ?_)) λ_=>br (λ_=>mu (mu ?_)) λ_=>mu ?_);all_goals first|rfl|(simp only [*,zgW,zgl,cT,cF]<;>rfl)|simp_all[Ty.cells,zgW,zgl]
theorem zwD:vV 10 zmt:=kF2 zCY zl zbB zbT (zq []) zTx
def z3Z:zbd:=[(270,zmt),(10,zmt)]++z3Y
theorem zCZ:zQ z3Z:=zf zLW (zf zwD zCY)
def zpG:List GAct->Host×List Told->Host×List Told
 |[],u=>u
 |a::l,u=>zpG l (zbF u.1 a,ap u.2 [zb9 u.1 a])
def zvt (a:List (List<|List Ins))(l:List GAct):Host×List Told:=zpG (l.take 80) (zco a,[])
abbrev HSt:Type:=(List Told)×(List<|List Int)×(List Mon)×(List Entry)×(List Entry)
def hOf (t:HSt):Host:=⟨t.2.1,t.2.2.1,t.2.2.2.1,t.2.2.2.2⟩
def tOf (u:Host×List Told):HSt:=(u.2,u.1.Memory,u.1.Mons,u.1.Buffer,u.1.IoBuffer)
def zrY (t:HSt):OA:=some [AV.agg<|zbh<|hOf t,AV.one<|.s .told t.1]
theorem zQU {ps:List (List<|List Ins)}(h:zxr ps):SmH (zco ps):=by refine⟨show SmM z2c from ⟨by decide,by decide⟩,⟨?_,?_⟩,by simp[zco],by simp[zco]⟩;{simp only [zco,k7,uB];omega};{intro x d;simp only[zco,jE]at d;obtain⟨p,e,rfl⟩:=d;have b:=h.2 p (jX e);refine⟨show zv0.length<=1048576 by decide,show SmM ztO from ⟨by decide,by decide⟩,show (rp 8 false).length<=1048576 by decide,⟨?_,?_⟩,by simp[zfx],⟨?_,?_⟩⟩;{simp only [zfx,k7,uB];omega};{intro y a;simp only[zfx,jE]at a;obtain⟨q,c,rfl⟩:=a;exact⟨b.2 q<|jX c,show zjO.length<=1048576 by decide,show zjO.length<=1048576 by decide,by simp[zdK]⟩};{simp only [zfx,k7,uB];omega};{intro y a;simp only[zfx,jE]at a;obtain⟨q,c,rfl⟩:=a;exact⟨show (rp 4 false).length<=1048576 by decide,show zjO.length<=1048576 by decide⟩}}
theorem zG5 {c:Host->GAct->Bool}(d:∀h a,SmH h->c h a=true)(m:Nat):∀(l:List GAct) (i:Nat) (u:Host×List Told),SmH u.1->u.2.length+l.length<=2147483648->
 goL (λ(i:Nat) x (t:HSt) n=>bif ilt (i:Int) (m:Int) then (cond (c (hOf t) x) (cond (few<|ln<|ap t.1 [zb9 (hOf t) x]) (n (ap t.1 [zb9 (hOf t) x],(zbF (hOf t) x).Memory,(zbF (hOf t) x).Mons,(zbF (hOf t) x).Buffer,(zbF (hOf t) x).IoBuffer)) none) none) else zrY t) zrY l i (tOf u)=zrY (tOf<|zpG (l.take<|m-i) u)
 |[],i,u,_,_=>by simp[goL,zpG]
 |a::l,i,u,e,k=>by simp only[qU]at k;have g:few (ln<|ap u.2 [zb9 u.1 a])=true:=zfE (by simp[ap];omega);have j:hOf (tOf u)=u.1:=rfl;have f:(tOf u).1=u.2:=rfl;by_cases h:i<m;{have b:ilt (i:Int) (m:Int)=true:=qK (by omega);simp only[goL,b,j,f,g,d _ _ e,cT];refine(zG5 d m l (i+1) (zbF u.1 a,ap u.2 [zb9 u.1 a]) (zEQ e) (by simp[ap];omega)).trans ?_;rw[show m-i=m-(i+1)+1 by omega];rfl};{have b:ilt (i:Int) (m:Int)=false:=qH (by omega);simp only[goL,b,cF];rw[show m-i=0 by omega];rfl}
theorem zLr {c:Host->GAct->Bool}(b:∀h a,SmH h->c h a=true):∀(l:List GAct) (i:Nat) (u:Host×List Told),SmH u.1->u.2.length+l.length<=2147483648->
 goL (λ(_:Nat) x (t:HSt) k=>bif c (hOf t) x then (cond (few<|ln<|ap t.1 [zb9 (hOf t) x]) (k (ap t.1 [zb9 (hOf t) x],(zbF (hOf t) x).Memory,(zbF (hOf t) x).Mons,(zbF (hOf t) x).Buffer,(zbF (hOf t) x).IoBuffer)) none) else none) zrY l i (tOf u)=zrY (tOf<|zpG l u)
 |[],i,u,_,_=>rfl
 |a::l,i,u,d,j=>by simp only[qU]at j;have f:few (ln<|ap u.2 [zb9 u.1 a])=true:=zfE (by simp[ap];omega);have g:hOf (tOf u)=u.1:=rfl;have e:(tOf u).1=u.2:=rfl;simp only[goL,g,e,f,b _ _ d,cT];exact zLr b l (i+1) (zbF u.1 a,ap u.2 [zb9 u.1 a]) (zEQ d) (by simp[ap];omega)
@[simp] abbrev zlr (a:List (List<|List Ins))(l:List GAct):Host:=(zvt a l).1
@[simp] abbrev znv (a:List (List<|List Ins))(l:List GAct):List Told:=(zvt a l).2
def zll:Run:=rF2 (dS<|.sl<|.sl .ins) (dS .act) λb c=>(zgh b c,[aH<|zlr b c,aS .told<|znv b c])
def zCq (N:Nat)(b:lQ)(g:lA):OA:=
 (oN (zkQ b)<|iter (σ:=(Int×lA×lT×lM×lN×lE×lE×lM×lN×lE×lE×Unit)) N (λh a=>let e:=ix a.2.1 a.1 zjU;let c:=(⟨a.2.2.2.2.2.2.2.1,a.2.2.2.2.2.2.2.2.1,a.2.2.2.2.2.2.2.2.2.1,a.2.2.2.2.2.2.2.2.2.2.1⟩:Host);let f:=ap a.2.2.1 [zgl c e];let d:=zgW c e; (cond (ilt a.1<|ln a.2.1) (cond (ilt a.1 80) (oN (inb a.1<|ln a.2.1)<|oN (zfI c e)<|oN (few<|ln f)<|h (zN .i64 a.1 1,a.2.1,f,a.2.2.2.1,a.2.2.2.2.1,a.2.2.2.2.2.1,a.2.2.2.2.2.2.1,d.Memory,d.Mons,d.Buffer,d.IoBuffer,()))<|some [aH c,aS .told a.2.2.1])<|some [aH c,aS .told a.2.2.1])) (0,g,[],[],[],[],[],(zdy b).Memory,(zdy b).Mons,(zdy b).Buffer,(zdy b).IoBuffer,()))
def zRc:=zq [(160,0,{n:=39,tm:=[(1,.sl 0 []),(4,.lp 0 0),(6,.lp 1 0),(7,.sl 1 []),(8,ti)],lo:=[(0,[.sl 2 [],.sl 3 [],.sl 4 [],.sl 5 []]),(1,[.sl 6 [],.sl 7 [],.sl 8 [],.sl 9 []])],ro:=[(0,.act,false),(1,.told,true),(2,.sl .int,true),(3,.mon,true),(4,.entry,true),(5,.entry,true),(6,.sl .int,true),(7,.mon,true),(8,.entry,true),(9,.entry,true)]})]
theorem zQl (b:List lP)(c:List GAct)(k:zgh b c=true):∃N,zCq N b c=some [aH<|zlr b c,aS .told<|znv b c]:=by
 obtain⟨j,g⟩:=zD.1 k;have f:=zcu g;refine zbX λN e=>?_;unfold zCq oN;conv=>zeta
 refine must (zba j) ?_;refine(zY c (λi (t:lT×lM×lN×lE×lE)=>((i:Int),c,t.1,[],[],[],[],t.2.1,t.2.2.1,t.2.2.2.1,t.2.2.2.2,())) _ (λi (x:GAct) (t:HSt) m=>bif ilt (i:Int) ((80:Nat):Int) then (cond (zfI (hOf t) x) (cond (few<|ln<|ap t.1 [zb9 (hOf t) x]) (m (ap t.1 [zb9 (hOf t) x],(zbF (hOf t) x).Memory,(zbF (hOf t) x).Mons,(zbF (hOf t) x).Buffer,(zbF (hOf t) x).IoBuffer)) none) none) else zrY t) (λ(t:lT×lM×lN×lE×lE)=>some [.agg<|zbh (⟨t.2.1,t.2.2.1,t.2.2.2.1,t.2.2.2.2⟩:Host),.one<|.s .told t.1]) (λi d t rec=>?_) (λt rec=>?_) _ ([],(zdy b).Memory,(zdy b).Mons,(zdy b).Buffer,(zdy b).IoBuffer)<|e f.1).trans ?_;{simp only [zbn d,zU d,zbb d,zX d f.1,cT];rfl};{simp only [zbe,cF]};exact zG5 (λh a l=>zba ((zO h).2 l)) 80 c 0 (zco b,[]) (zQU j) (by simpa using f.2)
theorem zIV:vV 160 zll:=kF2 zCZ zl zbB zbT zRc zQl
def zBO (N:Nat)(b:lQ)(c:lA):OA:=
 let g:=zgR (ln c) 80; (oN (zkQ b)<|oN (inr 0 g<|ln c)<|iter (σ:=(Int×Int×lT×lA×lM×lN×lE×lE×lM×lN×lE×lE×Unit)) N (λi a=>let f:=ix a.2.2.2.1 a.2.1 zjU;let d:=(⟨a.2.2.2.2.2.2.2.2.1,a.2.2.2.2.2.2.2.2.2.1,a.2.2.2.2.2.2.2.2.2.2.1,a.2.2.2.2.2.2.2.2.2.2.2.1⟩:Host);let h:=ap a.2.2.1 [zgl d f];let e:=zgW d f; (cond (ilt a.2.1 a.1) (oN (inb a.2.1<|ln a.2.2.2.1)<|oN (zfI d f)<|oN (few<|ln h)<|i (a.1,zN .i64 a.2.1 1,h,a.2.2.2.1,a.2.2.2.2.1,a.2.2.2.2.2.1,a.2.2.2.2.2.2.1,a.2.2.2.2.2.2.2.1,e.Memory,e.Mons,e.Buffer,e.IoBuffer,()))<|some [aH d,aS .told a.2.2.1])) (ln<|tk c g,0,[],tk c g,[],[],[],[],(zdy b).Memory,(zdy b).Mons,(zdy b).Buffer,(zdy b).IoBuffer,()))
def zQ1:=zq [(12,0,{n:=36,tm:=[(4,.lp 0 0),(6,.lp 1 0),(7,.sl 0 []),(16,.sl 1 []),(17,ti),(18,ti)],lo:=[(0,[.sl 2 [],.sl 3 [],.sl 4 [],.sl 5 []]),(1,[.sl 6 [],.sl 7 [],.sl 8 [],.sl 9 []])],ro:=[(0,.told,true),(1,.act,false),(2,.sl .int,true),(3,.mon,true),(4,.entry,true),(5,.entry,true),(6,.sl .int,true),(7,.mon,true),(8,.entry,true),(9,.entry,true)]})]
theorem zPN (c:List lP)(b:List GAct)(n:zgh c b=true):∃N,zBO N c b=some [aH<|zlr c b,aS .told<|znv c b]:=by
 obtain⟨l,j⟩:=zD.1 n;have m:=zX3 b 80;have k:tk b (zgR (ln b) 80)=b.take 80:=m.1;have e:(tk b<|zgR (ln b) 80).length<=1048576:=(by rw[k];exact jB (by simp;omega) j);have g:=zcu e;refine zbX λN f=>?_;unfold zBO oN;conv=>zeta
 refine must (zba l) (must m.2 ?_);refine(zY (tk b<|zgR (ln b) 80) (λi (t:lT×lM×lN×lE×lE)=>(ln<|tk b<|zgR (ln b) 80,(i:Int),t.1,tk b<|zgR (ln b) 80,[],[],[],[],t.2.1,t.2.2.1,t.2.2.2.1,t.2.2.2.2,())) _ (λ_ (x:GAct) (t:HSt) q=>bif zfI (hOf t) x then (cond (few<|ln<|ap t.1 [zb9 (hOf t) x]) (q (ap t.1 [zb9 (hOf t) x],(zbF (hOf t) x).Memory,(zbF (hOf t) x).Mons,(zbF (hOf t) x).Buffer,(zbF (hOf t) x).IoBuffer)) none) else none) (λ(t:lT×lM×lN×lE×lE)=>some [.agg<|zbh (⟨t.2.1,t.2.2.1,t.2.2.2.1,t.2.2.2.2⟩:Host),.one<|.s .told t.1]) (λi d t rec=>?_) (λt rec=>?_) _ ([],(zdy c).Memory,(zdy c).Mons,(zdy c).Buffer,(zdy c).IoBuffer)<|f g.1).trans ?_;{simp only [zbn d,zU d,zbb d,zX d g.1,cT];rfl};{simp only [zbe,cF]};refine(zLr (λh a p=>zba ((zO h).2 p)) _ 0 (zco c,[]) (zQU l) (by simpa using g.2)).trans ?_;rw[k];rfl
theorem zvm:vV 12 zll:=kF2 zCZ zl zbB zbT zQ1 zPN
def zVu:zbd:=[(160,zll),(12,zll)]++z3Z
theorem zGU:zQ zVu:=zf zIV (zf zvm zCZ)
theorem zG {i n:Int}:hasB i n=true↔0<=i/\i<n:=by unfold hasB;exact decide_eq_true_iff
theorem zdu {x a b:Int}:zi x a b=true↔a<=x/\x<=b:=by simp[zi,ige,ile]
theorem zbC {x y:Int}:ieq x y=true↔x=y:=by simp[ieq]
theorem zED {x y:Int}:ine x y=true↔x≠y:=by simp[ine]
theorem zcf {x y:Int}:ieq x y=false↔x≠y:=by simp[ieq]
theorem zcG {a b:Bool}:(cond a b false)=true↔a=true/\b=true:=by cases a<;>simp
theorem zb2 {a:Type}(l:List a)(i:Int)(x:a):(up l i x).length=l.length:=by simp[up]
theorem ze0 {a:Type}(l:List a)(i:Int)(x:a):ln (up l i x)=ln l:=by simp[up,ln]
theorem zzQ {a:Type}{l:List a}{i:Int}(h:hasB i (ln l)=true)(d:a):∃k:Nat,∃b:k<l.length,i=(k:Int)/\ix l i d=l[k]:=by rw[zG]at h;unfold ln at h;refine⟨i.toNat,by omega,by omega,?_⟩;simp[ix,List.getD,qB (show i.toNat<l.length by omega)]
theorem zjt {a:Type}{l:List a}{k:Nat}(h:k<l.length)(d:a):ix l (k:Int) d=l[k]:=by simp[ix,List.getD,qB h]
theorem znX {a:Type}{l:List a}{i:Int}(h:hasB i (ln l)=true)(d:a):ix l i d∈l:=by obtain⟨k,b,_,e⟩:=zzQ h d;rw[e];exact jA b
theorem zM6 {a:Type}{l:List a}{x:a}(h:x∈l)(d:a):∃i,hasB i (ln l)=true/\ix l i d=x:=by obtain⟨k,b,e⟩:=List.mem_iff_getElem.1 h;exact⟨(k:Int),zG.2 (by unfold ln;omega),(zjt b d).trans e⟩
theorem zbr {a:Type}{l:List a}{i:Int}(h:hasB i (ln l)=true)(x d:a):ix (up l i x) i d=x:=by rw[zG]at h;unfold ln at h;simp[ix,up,List.getD,show i.toNat<l.length by omega]
theorem zbI {a:Type}{l:List a}{i j:Int}(b:0<=i)(c:0<=j)(h:i≠j)(x d:a):ix (up l i x) j d=ix l j d:=by have:i.toNat≠j.toNat:=(by omega);simp[ix,up,List.getD,jI,this]
theorem z6f {a:Type}(l:List a)(i:Int)(x y:a):up (up l i x) i y=up l i y:=by simp[up]
theorem zQB {a:Type}{l m:List a}(d:a)(h:l.length=m.length)(e:∀i,hasB i (ln l)=true->ix l i d=ix m i d):l=m:=by refine vT h λk b c=>?_;have:=e (k:Int) (zG.2 (by unfold ln;omega));rwa [zjt b,zjt c] at this
theorem zJX {a:Type}{l:List a}{i:Int}(h:hasB i (ln l)=true)(d:a):up l i (ix l i d)=l:=by obtain⟨k,b,rfl,e⟩:=zzQ h d;rw[e];simp[up]
def cPg (x:Mon)(q:Int):Nat:=x.Outer.countP λs=>ieq s.Page q
def zf5 (l:List Mon)(q:Int):Nat:=(l.map λx=>cPg x q).sum
theorem zRV {a:Type}(P:a->Bool){l:List a}{i:Int}(h:hasB i (ln l)=true)(x d:a):(up l i x).countP P+(if P (ix l i d) then 1 else 0)=l.countP P+(if P x then 1 else 0):=by
 obtain⟨k,b,rfl,e⟩:=zzQ h d;rw[e];simp only[up,kE,List.countP_set b];have:(if P l[k]=true then 1 else 0)<=l.countP P:=by
  split
  .rename_i hp;exact vI.2 ⟨l[k],jA b,hp⟩
  .omega
 omega
theorem zy5 {l:List Mon}{m:Int}(h:hasB m (ln l)=true)(x:Mon)(q:Int):zf5 (up l m x) q+cPg (ix l m mZ) q=zf5 l q+cPg x q:=by obtain⟨k,a,rfl,e⟩:=zzQ h mZ;rw[e];clear h e;unfold up;simp only[kE];induction l generalizing k with|nil=>simp at a|cons y l b=>(cases k with|zero=>simp[zf5];omega|succ k=>have:=b k (by simpa using a);simp[zf5] at this ⊢;omega)
theorem zHV {l:List Mon}{m p:Int}(a:hasB m (ln l)=true)(b:hasB p (ln (ix l m mZ).Outer)=true):1<=zf5 l (ix (ix l m mZ).Outer p sZ).Page:=by have d:1<=cPg (ix l m mZ) (ix (ix l m mZ).Outer p sZ).Page:=vI.2 ⟨_,znX b sZ,by simp[ieq]⟩;have:=zy5 a (⟨[],[],[],[],[],0,0,[],0⟩:Mon) (ix (ix l m mZ).Outer p sZ).Page;have c:cPg (⟨[],[],[],[],[],0,0,[],0⟩:Mon) (ix (ix l m mZ).Outer p sZ).Page=0:=rfl;omega
theorem z6u {l:List Mon}{m p n k:Int}{q:Int}(b:hasB m (ln l)=true)(v:hasB p (ln (ix l m mZ).Outer)=true)(u:hasB n (ln l)=true)(f:hasB k (ln (ix l n mZ).Outer)=true)(z:(ix (ix l m mZ).Outer p sZ).Page=q)(t:(ix (ix l n mZ).Outer k sZ).Page=q)(h:zf5 l q<=1):m=n/\p=k:=by have c:=zG.1 b;have d:=zG.1 u;have i:=zG.1 v;have g:=zG.1 f;have B:¬ ieq q (q+1)=true:=(by simp[ieq];omega);obtain⟨y,r⟩:∃y:Mon,y.Outer=up (ix l m mZ).Outer p ⟨q+1,0⟩:=⟨{ix l m mZ with Outer:=up (ix l m mZ).Outer p ⟨q+1,0⟩},rfl⟩;have x:=zRV (λs=>ieq s.Page q) v (⟨q+1,0⟩:Slot) sZ;simp only[z,show ieq q q=true by simp[ieq],show ieq (q+1) q=false by simp[ieq];omega,if_true,kG,if_false] at x;have C:=zy5 b y q;simp only[cPg,r] at C;have D:zf5 (up l m y) q=0:=(by omega);apply Classical.byContradiction;intro A;have w:1<=zf5 (up l m y) q:=(by by_cases a:m=n;{subst a;have j:p≠k:=λe=>A ⟨rfl,e⟩;have:=zHV (l:=up l m y) (m:=m) (p:=k) (by rw[ze0];exact b) (by rw[zbr b,r,ze0];exact f);rw[zbr b,r,zbI i.1 g.1 j,t] at this;exact this};{have:=zHV (l:=up l m y) (m:=n) (p:=k) (by rw[ze0];exact u) (by rw[zbI c.1 d.1 a];exact f);rw[zbI c.1 d.1 a,t] at this;exact this});omega
theorem zu5 {a b c:Bool}:(cond a b c)=true↔(a=true/\b=true)\/(a=false/\c=true):=by cases a<;>simp
def SOk (s:Slot):Prop:=s=noSlot\/(0<=s.Page/\s.Page<=11/\1<=s.Rights/\s.Rights<=3)
theorem zXH {a b:Slot}(c:a.Page=b.Page)(d:a.Rights=b.Rights):a=b:=by cases a;cases b;simp_all
theorem zmj {a b:Slot}:zc5 a b=true↔a=b:=by simp only[zc5,qE,zbC];exact⟨λh=>zXH h.1 h.2,λh=>by rw[h];exact⟨rfl,rfl⟩⟩
theorem ztt {a b:Slot}:zc5 a b=false↔a≠b:=by rw[<- vU,zmj]
theorem z0J {s:Slot}:zeT s 12=true↔SOk s:=by unfold zeT SOk;rw[zu5,zmj,ztt];have:wsub .i64 12 1=11:=(by decide);simp only[this,zu5,zdu];simp[igt];constructor;{rintro (h|⟨h,⟨a,b⟩,c⟩);{exact .inl h};{exact .inr ⟨a,b,c⟩}};{intro h;by_cases d:s=noSlot;{exact .inl d};{rcases h with h|⟨a,b,c⟩;{exact .inl h};{exact .inr ⟨d,⟨a,b⟩,c⟩}}}
theorem SOk.none {s:Slot}(h:SOk s)(a:s.Page = -1):s=noSlot:=by rcases h with h|h;{exact h};{omega}
theorem SOk.pos {s:Slot}(h:SOk s)(a:s.Page≠-1):0<=s.Page/\s.Page<=11/\1<=s.Rights/\s.Rights<=3:=by rcases h with h|h;{rw [h]at a;exact absurd rfl a};{exact h}
structure MOk (x:Mon):Prop where
 g1:1<=x.Guests.length
 g2:x.Guests.length<=2
 gt:x.Tables.length=x.Guests.length
 o8:x.Outer.length=8
 sl:∀s∈x.Outer,SOk s
 u8:x.Out.length=8
 d8:x.Dirty.length=8
 outs:x.Outs.length<=40
 pend:zem x.Pending=true
 tr:zi x.Traps 0 3=true
 own:zi x.Own 0 1000000000=true
 gs:∀g∈x.Guests,zex g=true
 fit:∀p,hasB p 8=true->zn3 (ix x.Outer p sZ) (ix x.Out p [])=true
theorem zHQ {P:Nat->Bool}:∀{n i:Nat},zoy P n i=true↔∀j,i<=j->j<i+n->P j=true
 | 0,i=>by simp[zoy];intro j a b;omega
 |n+1,i=>by rw[zoy,qE,zHQ];constructor;{rintro⟨a,b⟩ j c d;by_cases e:j=i;{rw [e];exact a};{exact b j (by omega) (by omega)}};{intro h;exact⟨h i (by omega) (by omega),λj a b=>h j (by omega) (by omega)⟩}
theorem zsV {t:List Slot}{n p:Int}:zds t n p=true↔(∀s∈t,zeT s p=true)/\ln t=n:=by unfold zds;rw[zcG,qL,zbC]
theorem zba7 {x:Mon}:ze4 x=true↔MOk x:=by unfold ze4;simp only[zcG,zdu,zbC,zsV,zHQ,qL,ile,qX];constructor;{rintro⟨⟨g,i⟩,m,⟨k,l⟩,n,q,r,e,a,b,c,d⟩;unfold ln at *;refine⟨by omega,by omega,by omega,by omega,λs f=>z0J.1 (k s f),by omega,by omega,by omega,e,zdu.2 a,zdu.2 b,c,λp t=>?_⟩;have u:=zG.1 t;have:=d p.toNat (by omega) (by omega);unfold fits at this;rwa [show ((p.toNat:Nat):Int)=p by omega] at this};{intro h;obtain⟨g,i,m,k,l,n,q,r,e,a,b,c,d⟩:=h;unfold ln;exact⟨⟨by omega,by omega⟩,by omega,⟨λs f=>z0J.2 (l s f),by omega⟩,by omega,by omega,by omega,e,zdu.1 a,zdu.1 b,c,λj g i=>d (j:Int) (zG.2 (by omega))⟩}
theorem zlS (o:List Slot)(s:Slot)(q:Int):(s::o).countP (λs=>ieq s.Page q)=o.countP (λs=>ieq s.Page q)+if s.Page=q then 1 else 0:=by rw[vB];simp[ieq]
theorem zAj:∀{o:List Slot} {u:List Bool},(∀s∈o,s.Page<u.length)->
 (∀c,zil o u=some c↔(∀q,0<=q->o.countP (λs=>ieq s.Page q)+(if ix u q false then 1 else 0)<=1)/\
  c=(o.foldl (λu s=>bif ilt s.Page 0 then u else up u s.Page true) u))
 |[],u,h,c=>by simp[zil];exact⟨λh=>⟨λq _=>by split<;>omega,h.symm⟩,λh=>h.2.symm⟩
 |s::o,u,h,c=>by
  unfold zil;by_cases g:s.Page<0;{have b:ilt s.Page 0=true:=qK g;rw[b,cond_true,zAj λy d=>h y (qW _ d)];simp only[uS,b,cond_true];refine and_congr (forall_congr' λq=>forall_congr' λf=>?_) Iff.rfl;have e:(if s.Page=q then 1 else 0)=0:=if_neg (by omega);rw[zlS,e,kK]};{have b:ilt s.Page 0=false:=qH g;have k:=h s jC;have j:hasB s.Page (ln u)=true:=zG.2 ⟨by omega,by unfold ln;omega⟩;rw[b,cond_false];cases i:ix u s.Page false with|true=>rw[cond_true];constructor;{intro h;cases h};{rintro⟨h,_⟩;have:=h s.Page (by omega);rw[zlS,if_pos rfl,i] at this;simp at this}|false=>rw[cond_false,zAj (λy d=>by rw[zb2];exact h y (qW _ d))];simp only[uS,b,cond_false];refine and_congr (forall_congr' λq=>forall_congr' λf=>?_) Iff.rfl;rw[zlS];by_cases a:s.Page=q;{subst a;rw[zbr j,i];simp};{rw [zbI (by omega) f a,if_neg a,kK]}}
theorem zJY:∀(o:List Slot) (u:List Bool),(o.foldl (λu s=>bif ilt s.Page 0 then u else up u s.Page true) u).length=u.length
 |[],u=>rfl
 |s::o,u=>by rw[uS,zJY];cases ilt s.Page 0<;>simp [zb2]
theorem zRk:∀(o:List Slot) (u:List Bool) (q:Int),0<=q->(∀s∈o,s.Page<u.length)->(ix (o.foldl (λu s=>bif ilt s.Page 0 then u else up u s.Page true) u) q false=true↔ix u q false=true\/1<=o.countP λs=>ieq s.Page q)
 |[],u,q,b,h=>by simp
 |s::o,u,q,b,h=>by
  rw[uS,zRk _ _ q b (λy f=>by have:=h y (qW _ f);cases ilt s.Page 0<;>simpa [zb2] using this),zlS];by_cases c:s.Page<0;{rw [show ilt s.Page 0=true from qK c,cond_true,if_neg (by omega),kK]};{rw [show ilt s.Page 0=false from qH c,cond_false];have e:=h s jC;have d:hasB s.Page (ln u)=true:=zG.2 ⟨by omega,by unfold ln;omega⟩;by_cases a:s.Page=q;{subst a;rw[zbr d];simp};{rw [zbI (by omega) b a,if_neg a,kK]}}
theorem zzJ:∀{l:List Mon} {u:List Bool},u.length=12->(zjq l u=true↔(∀x∈l,MOk x)/\∀q,0<=q->zf5 l q+(if l≠[]/\ix u q false then 1 else 0)<=1)
 |[],u,c=>by simp[zjq,zf5]
 |x::l,u,c=>by
  unfold zjq;rw[zcG,zba7];constructor;{rintro⟨f,b⟩;have k:∀s∈x.Outer,s.Page<u.length:=λs n=>(by rcases f.sl s n with h|h;{rw [h,c];decide};{rw [c];omega});split at b;{rename_i B d;obtain⟨g,rfl⟩:=(zAj k B).1 d;rw[zzJ (by rw[zJY,c])]at b;obtain⟨v,w⟩:=b;refine⟨by simpa using ⟨f,v⟩,λq a=>?_⟩;have z:=g q a;have i:=w q a;have m:=zRk x.Outer u q a k;simp only[zf5,jH,uR]at i ⊢;unfold cPg at i ⊢;simp only[ne_eq,reduceCtorEq,not_false_eq_true,true_and];by_cases r:l=[];{subst r;simpa using z};{simp only [r,ne_eq,not_false_eq_true,true_and]at i;by_cases j:ix (x.Outer.foldl (λu s=>bif ilt s.Page 0 then u else up u s.Page true) u) q false=true;{rw [if_pos j]at i;omega};{rw [if_neg j]at i;have p:¬ (ix u q false=true\/1<=x.Outer.countP λs=>ieq s.Page q):=λe=>j (m.2 e);rw[not_or]at p;rw[if_neg p.1];omega}}};{cases b}}
  .rintro⟨f,b⟩;have t:MOk x:=f x jC;refine⟨t,?_⟩;have k:∀s∈x.Outer,s.Page<u.length:=λs n=>by rcases t.sl s n with h|h;{rw [h,c];decide};{rw [c];omega}
   have d:=(zAj k _).2 ⟨λq a=>by
    have:=b q a;simp only[zf5,jH,uR,ne_eq,reduceCtorEq,not_false_eq_true,true_and] at this;unfold cPg at this;omega,rfl⟩
   rw[d];simp only;rw[zzJ (by rw[zJY,c])];refine⟨λy A=>f y (qW _ A),λq a=>?_⟩;have g:=b q a;have m:=zRk x.Outer u q a k;simp only[zf5,jH,uR,ne_eq,reduceCtorEq,not_false_eq_true,true_and]at g ⊢;unfold cPg at g ⊢;split;{rename_i j;rcases m.1 j.2 with h|h;{rw [if_pos h]at g;omega};{omega}};{omega}
structure HOk (h:Host):Prop where
 m12:h.Memory.length=12
 pgs:∀c∈h.Memory,zcT c=true
 n1:1<=h.Mons.length
 n3:h.Mons.length<=3
 b1:zg3 h.Buffer=true
 b2:zg3 h.IoBuffer=true
 mons:∀x∈h.Mons,MOk x
 uq:∀q,0<=q->zf5 h.Mons q<=1
theorem zlc {h:Host}:zbP h=true↔HOk h:=by unfold zbP zkq;simp only[zcG,zdu,zbC,qL];rw[zzJ (by simp[rp])];have g:∀q,ix (rp 12 false) q false=false:=λq=>(by unfold ix rp;rw[kF,kH];split<;>rfl);simp only[g,kG,and_false,if_false,kK];unfold ln;constructor;{rintro⟨⟨e,f⟩,⟨i,j⟩,a,b,c,d⟩;exact⟨by omega,e,by omega,by omega,a,b,c,d⟩};{rintro⟨e,f,i,j,a,b,c,d⟩;exact⟨⟨f,by omega⟩,⟨by omega,by omega⟩,a,b,c,d⟩}
theorem HOk.mon {h:Host}(H:HOk h){m:Int}(a:hasB m (ln h.Mons)=true):MOk (ix h.Mons m mZ):=H.mons _ (znX a _)
theorem MOk.hasO {x:Mon}(H:MOk x){p:Int}(a:hasB p 8=true):hasB p (ln x.Outer)=true:=by rw[ln,H.o8];exact a
theorem MOk.hasU {x:Mon}(H:MOk x){p:Int}(a:hasB p 8=true):hasB p (ln x.Out)=true:=by rw[ln,H.u8];exact a
theorem MOk.hasD {x:Mon}(H:MOk x){p:Int}(a:hasB p 8=true):hasB p (ln x.Dirty)=true:=by rw[ln,H.d8];exact a
theorem MOk.slot {x:Mon}(H:MOk x){p:Int}(a:hasB p 8=true):SOk (ix x.Outer p sZ):=H.sl _ (znX (H.hasO a) _)
theorem HOk.uniq {h:Host}(H:HOk h){m p n k q:Int}(a:hasB m (ln h.Mons)=true)(f:hasB p 8=true)(b:hasB n (ln h.Mons)=true)(e:hasB k 8=true)(c:(ix (ix h.Mons m mZ).Outer p sZ).Page=q)(d:(ix (ix h.Mons n mZ).Outer k sZ).Page=q)(g:0<=q):m=n/\p=k :=
 z6u a ((H.mon a).hasO f) b ((H.mon b).hasO e) c d (H.uq q g)
theorem HOk.up {h:Host}(H:HOk h){m:Int}(k:hasB m (ln h.Mons)=true){x:Mon}(l:MOk x){a:Host}(e:a.Mons=up h.Mons m x)(d:a.Memory.length=12)(f:∀c∈a.Memory,zcT c=true)(i:zg3 a.Buffer=true)(j:zg3 a.IoBuffer=true)(n:∀q,0<=q->cPg x q<=cPg (ix h.Mons m mZ) q\/zf5 h.Mons q=0/\cPg x q<=1):HOk a:=by refine⟨d,f,by rw[e,zb2];exact H.n1,by rw[e,zb2];exact H.n3,i,j,λy b=>?_,λq g=>?_⟩;{rw [e]at b;unfold E.up at b;rcases jD b with h|h;{exact H.mons y h};{rw [h];exact l}};{rw [e];have p:=zy5 k x q;have r:=H.uq q g;have s:=n q g;omega}
structure KOk (k:Kept) (inner outer:List Slot):Prop where
 l1:k.Known.length=inner.length
 l2:k.Slots.length=inner.length
 at':∀i,hasB i (ln inner)=true->ix k.Slots i sZ=bif ix k.Known i false then zbD (ix inner i sZ) outer else noSlot
theorem zba6 {k:Kept}{d e:List Slot}:znf k d e=true↔KOk k d e:=by unfold znf;have f:∀{a b:Int} {c:Bool},(cond (ine a b) false c)=true↔a=b/\c=true:=(by intro a b c;by_cases h:a=b;{simp [ine,h]};{simp [ine,h]});rw[f,f,zHQ];unfold ln zrV;constructor;{rintro⟨m,n,g⟩;refine⟨by omega,by omega,λi p=>?_⟩;have l:=zG.1 p;unfold ln at l;have:=zmj.1 (g i.toNat (by omega) (by omega));rwa [show ((i.toNat:Nat):Int)=i by omega] at this};{rintro⟨m,n,g⟩;exact⟨by omega,by omega,λj q r=>zmj.2 (g _<|zG.2 (by unfold ln;omega))⟩}
def TOk (x:Mon):Prop:=∀g,hasB g (ln x.Guests)=true->KOk (ix x.Tables g kZ) (ix x.Guests g gZ).Live x.Outer
structure Rt (h:Host):Prop where
 t:∀m,hasB m (ln h.Mons)=true->TOk (ix h.Mons m mZ)
 e1:∀e∈h.Buffer,zcY h e=true
 e2:∀e∈h.IoBuffer,zcY h e=true
structure Safe (h:Host):Prop where
 ok:HOk h
 rt:Rt h
theorem zsY {a b:Slot}:below' a b=true↔a=noSlot\/(a.Page=b.Page/\enough b.Rights a.Rights=true):=by unfold below';rw[zu5,zmj,ztt,zcG,zbC];by_cases h:a=noSlot<;>simp [h]
theorem z6g (x:Int):wand .i64 0 x=0:=by unfold wand;have:(BitVec.ofInt 64 0 &&& BitVec.ofInt 64 x)=0#64:=(by rw[show BitVec.ofInt 64 0=0#64 from rfl,BitVec.zero_and]);show IntKind.wrap .i64 ((BitVec.ofInt 64 0 &&& BitVec.ofInt 64 x).toNat:Int)=0;rw[this];rfl
theorem z6t {a:Slot}(h:below' a noSlot=true):a=noSlot:=by rcases zsY.1 h with h|⟨c,b⟩;{exact h};{refine zXH c ?_;unfold enough at b;rw[show noSlot.Rights=0 from rfl,z6g]at b;simp only[zcG,zbC]at b;exact b.2.2.symm}
theorem zhk {h:Host}{e:Entry}:zcY h e=true↔hasB (zdI e.Tag) (ln h.Mons)=true/\hasB (zew e.Tag) (ln (ix h.Mons (zdI e.Tag) mZ).Guests)=true/\
 below' ⟨e.Host,e.Rights⟩ (zbD (zbK (ix (ix h.Mons (zdI e.Tag) mZ).Guests (zew e.Tag) gZ).Live e.Page) (ix h.Mons (zdI e.Tag) mZ).Outer)=true:=by
 unfold zcY;rw[zcG,zcG]
theorem zSL {o:List Slot}{p q:Int}{s:Slot}(a:0<=p)(h:q≠p):zbK (up o p s) q=zbK o q:=by unfold zbK;rw[ze0];cases b:hasB q (ln o) with|false=>rfl|true=>rw[cond_true,cond_true,zbI a (zG.1 b).1<|Ne.symm h]
theorem zK4 {s:Slot}{o:List Slot}{p:Int}{t:Slot}(a:0<=p)(h:s.Page≠p):zbD s (up o p t)=zbD s o:=by unfold zbD;rw[zSL a h]
theorem z1f {s:Slot}{o:List Slot}:zbD s o=noSlot\/(zbD s o).Page=(zbK o s.Page).Page:=by unfold zbD;cases ieq s.Page (-1)<;>cases ieq (zbK o s.Page).Page (-1)<;>cases ieq (zfv s.Rights (zbK o s.Page).Rights) 0<;>simp
theorem zm7 (k:Kept)(q:Int):(zcb k q).Known.length=k.Known.length/\(zcb k q).Slots.length=k.Slots.length:=by unfold zcb;cases zeg k q<;>simp [zb2]
theorem zAS:∀(l:List Int) (k:Kept),(zf9 k l).Known.length=k.Known.length/\(zf9 k l).Slots.length=k.Slots.length
 |[],k=>⟨rfl,rfl⟩
 |q::l,k=>by have a:=zAS l (zcb k q);have b:=zm7 k q;exact⟨a.1.trans b.1,a.2.trans b.2⟩
theorem zxw {k:Kept}{q i:Int}(d:k.Known.length=k.Slots.length)(b:hasB i (ln k.Known)=true) :
 ix (zcb k q).Known i false=(cond (ieq q i) false<|ix k.Known i false)/\ix (zcb k q).Slots i sZ=(cond (ieq q i) noSlot<|ix k.Slots i sZ):=by
 have c:hasB i (ln k.Slots)=true:=by unfold ln at b ⊢;rwa [<- d]
 unfold zcb zeg
 by_cases e:q=i
 .subst e;simp only[b,c,cond_true,ieq,beq_self_eq_true];exact⟨zbr b _ _,zbr c _ _⟩
 .rw [show ieq q i=false from zcf.2 e]
  by_cases a:hasB q (ln k.Known)=true
  .have hq':hasB q (ln k.Slots)=true:=by unfold ln at a ⊢;rwa [<- d]
   simp only[a,hq',cond_true,cond_false];exact⟨zbI (zG.1 a).1 (zG.1 b).1 e _ _,zbI (zG.1 a).1 (zG.1 b).1 e _ _⟩
  .rw [vU]at a;simp[a]
theorem zC7:∀(l:List Int) {k:Kept} {i:Int},k.Known.length=k.Slots.length->hasB i (ln k.Known)=true->
 (i∈l->ix (zf9 k l).Known i false=false/\ix (zf9 k l).Slots i sZ=noSlot)/\
 (i∉l->ix (zf9 k l).Known i false=ix k.Known i false/\ix (zf9 k l).Slots i sZ=ix k.Slots i sZ)
 |[],k,i,d,c=>⟨λh=>by simp at h,λ_=>⟨rfl,rfl⟩⟩
 |q::l,k,i,d,c=>by have b:=zm7 k q;have g:=zxw (q:=q) d c;have f:=zC7 l (k:=zcb k q) (i:=i) (by rw[b.1,b.2,d]) (by unfold ln at c ⊢;rwa [b.1]);show (_->ix (zf9 (zcb k q) l).Known i false=_/\ix (zf9 (zcb k q) l).Slots i sZ=_)/\(_->ix (zf9 (zcb k q) l).Known i false=_/\ix (zf9 (zcb k q) l).Slots i sZ=_);by_cases a:i∈l;{refine⟨λ_=>f.1 a,λh=>absurd (qW _ a) h⟩};{rw [(f.2 a).1,(f.2 a).2,g.1,g.2];by_cases e:q=i;{subst e;simp[ieq]};{rw [zcf.2 e];simp[a,Ne.symm e]}}
theorem zJf {e:Type}{P:e->Bool}{d:e}:∀{l:List e} {n:Nat} {i:Int},i∈idxs P l n↔∃k:Nat,∃h:k<l.length,i=((n+k:Nat):Int)/\P l[k]=true
 |[],n,i=>by simp[idxs]
 |x::l,n,i=>by
  have g:=@zJf e P d l (n+1) i;unfold idxs;constructor
  .intro h;cases f:P x with
   |true=>rw[f,cond_true,qG]at h;rcases h with h|h;{exact⟨0,by simp,by simpa using h,f⟩};{obtain⟨k,c,b,a⟩:=g.1 h;exact⟨k+1,by simpa using c,by rw[b];congr 1;omega,by simpa using a⟩}
   |false=>rw[f,cond_false]at h;obtain⟨k,c,b,a⟩:=g.1 h;exact⟨k+1,by simpa using c,by rw[b];congr 1;omega,by simpa using a⟩
  {rintro⟨k,c,b,a⟩;cases k with|zero=>simp only[List.getElem_cons_zero]at a;rw[a,cond_true,b];exact jC|succ k=>have:=g.2 ⟨k,by simpa using c,by rw[b];congr 1;omega,by simpa using a⟩;cases P x;{exact this};{exact qW _ this}}
theorem zYw {l:List Slot}{p i:Int}:i∈zEm l p↔hasB i (ln l)=true/\(ix l i sZ).Page=p:=by unfold zEm;rw[zJf (d:=sZ)];constructor;{rintro⟨k,a,rfl,c⟩;rw[j8,zjt a];exact⟨zG.2 (by unfold ln;omega),zbC.1 c⟩};{rintro⟨a,b⟩;obtain⟨k,f,rfl,e⟩:=zzQ a sZ;exact⟨k,f,by simp,by rw[e]at b;exact zbC.2 b⟩}
theorem z1V {k:Kept}{a b:List Slot}(h:KOk k a b){p:Int}(j:0<=p)(s:Slot):KOk (zlW k a p) a (up b p s):=by have g:=zAS (zEm a p) k;refine⟨g.1.trans h.l1,g.2.trans h.l2,λi d=>?_⟩;have e:hasB i (ln k.Known)=true:=(by unfold ln at d ⊢;rwa [h.l1]);have f:=zC7 (zEm a p) (by rw[h.l1,h.l2]) e;unfold zlW;by_cases c:(ix a i sZ).Page=p;{have:=f.1 (zYw.2 ⟨d,c⟩);rw[this.1,this.2];rfl};{have:=f.2 (λh=>c (zYw.1 h).2);rw[this.1,this.2,h.at' i d,zK4 j c]}
theorem zEf (b:List Guest)(p:Int):∀(n:Nat) (a:List Kept),(zml b p n a).length=a.length
 | 0,a=>rfl
 |n+1,a=>by rw[zml,zb2,zEf b p n]
theorem zQX (b:List Guest)(p:Int):∀(n:Nat) (a:List Kept),n<=a.length->∀i,0<=i->ix (zml b p n a) i kZ=if i<n then zlW (ix a i kZ) (ix b i gZ).Live p else ix a i kZ
 | 0,a,_,i,c=>by rw[if_neg (by omega)];rfl
 |n+1,a,d,i,c=>by rw[zml];by_cases e:i=n;{subst e;rw[zbr (by rw[ln,zEf];exact zG.2 (by omega)),if_pos (by omega),zQX b p n a (by omega) _ c,if_neg (by omega)]};{rw [zbI (by omega) c<|Ne.symm e,zQX b p n a (by omega) i c];by_cases h:i<n;{rw [if_pos h,if_pos (by omega)]};{rw [if_neg h,if_neg (by omega)]}}
def zmk (x:Mon)(p:Int)(s:Slot):Mon:={zjZ x p x.Tables.length with Outer:=up x.Outer p s}
theorem z5O {x:Mon}(h:TOk x)(c:x.Tables.length=x.Guests.length){p:Int}(b:0<=p)(s:Slot):TOk (zmk x p s):=by intro g hg;have a:hasB g (ln x.Guests)=true:=hg;show KOk (ix (zml x.Guests p x.Tables.length x.Tables) g kZ) (ix x.Guests g gZ).Live (up x.Outer p s);rw[zQX _ _ _ _ (qT _) _ (zG.1 a).1,if_pos (by have:=zG.1 a;unfold ln at this;omega)];exact z1V (h g a) b s
theorem zt1 (h:Host)(m p:Int)(s:Slot):(zcD h m p s).Mons=up h.Mons m (zmk (ix h.Mons m mZ) p s):=by unfold zcD;cases ine (ix (ix h.Mons m zh).Outer p zW).Page (-1)<;>rfl
theorem zxI (h:Host)(m p:Int)(s:Slot):(zcD h m p s).Memory=h.Memory:=by unfold zcD;cases ine (ix (ix h.Mons m zh).Outer p zW).Page (-1)<;>rfl
theorem zSN (h:Host)(m p:Int)(s:Slot):(zcD h m p s).Buffer=(cond (ieq (ix (ix h.Mons m mZ).Outer p sZ).Page<|-1) h.Buffer<|flushed h.Buffer (ix (ix h.Mons m mZ).Outer p sZ).Page)/\
 (zcD h m p s).IoBuffer=(cond (ieq (ix (ix h.Mons m mZ).Outer p sZ).Page<|-1) h.IoBuffer<|flushed h.IoBuffer (ix (ix h.Mons m mZ).Outer p sZ).Page):=by
 unfold zcD
 by_cases e:(ix (ix h.Mons m zh).Outer p zW).Page = -1
 .rw [show ine (ix (ix h.Mons m zh).Outer p zW).Page (-1)=false by simp[ine,e],show ieq (ix (ix h.Mons m mZ).Outer p sZ).Page (-1)=true from zbC.2 e]
  exact⟨rfl,rfl⟩
 .rw [show ine (ix (ix h.Mons m zh).Outer p zW).Page (-1)=true from zED.2 e,show ieq (ix (ix h.Mons m mZ).Outer p sZ).Page (-1)=false from zcf.2 e]
  exact⟨rfl,rfl⟩
theorem zK9 {h k:Host}{m p:Int}{s:Slot}(n:hasB m (ln h.Mons)=true)(q:hasB p (ln (ix h.Mons m mZ).Outer)=true){x:Mon}(u:k.Mons=up h.Mons m x)(t:x.Guests=(ix h.Mons m mZ).Guests)(v:x.Outer=up (ix h.Mons m mZ).Outer p s){e:Entry}(w:zcY h e=true)(c:(ix (ix h.Mons m mZ).Outer p sZ).Page = -1\/e.Host≠(ix (ix h.Mons m mZ).Outer p sZ).Page):zcY k e=true:=by obtain⟨f,g,b⟩:=zhk.1 w;rw[zhk,u,ze0];refine⟨f,?_⟩;by_cases l:m=zdI e.Tag;{rw [<- l]at f g b ⊢;rw[zbr n,t,v];refine⟨g,?_⟩;by_cases j:(zbK (ix (ix h.Mons m mZ).Guests (zew e.Tag) gZ).Live e.Page).Page=p;{have a:zbD (zbK (ix (ix h.Mons m mZ).Guests (zew e.Tag) gZ).Live e.Page) (ix h.Mons m mZ).Outer=noSlot\/e.Host≠(zbD (zbK (ix (ix h.Mons m mZ).Guests (zew e.Tag) gZ).Live e.Page) (ix h.Mons m mZ).Outer).Page:=(by rcases z1f (s:=zbK (ix (ix h.Mons m mZ).Guests (zew e.Tag) gZ).Live e.Page) (o:=(ix h.Mons m mZ).Outer) with d|d;{exact .inl d};{rw [j]at d;have r:zbK (ix h.Mons m mZ).Outer p=ix (ix h.Mons m mZ).Outer p sZ:=(by unfold zbK;rw[q];rfl);rw[r]at d;rcases c with c|c;{left;unfold zbD;rw[j,r,c,show ieq (-1) (-1)=true from rfl];cases ieq p (-1)<;>rfl};{exact .inr (by rw[d];exact c)}});have i:(⟨e.Host,e.Rights⟩:Slot)=noSlot:=(by rcases a with a|a;{rw [a]at b;exact z6t b};{rcases zsY.1 b with h|h;{exact h};{exact absurd h.1 a}});rw[i];exact zsY.2 (.inl rfl)};{rw [zK4 (zG.1 q).1 j];exact b}};{rw [zbI (zG.1 n).1 (zG.1 f).1 l];exact⟨g,b⟩}
theorem zz5 {h:Host}(H:Rt h){m p:Int}(d:hasB m (ln h.Mons)=true)(q:hasB p (ln (ix h.Mons m mZ).Outer)=true)(u:(ix h.Mons m mZ).Tables.length=(ix h.Mons m mZ).Guests.length)(s:Slot):Rt (zcD h m p s):=by have c:=zSN h m p s;have i:=zt1 h m p s;have f:∀(b:List Entry),(∀e∈b,zcY h e=true)->∀e∈(cond (ieq (ix (ix h.Mons m mZ).Outer p sZ).Page<|-1) b<|flushed b (ix (ix h.Mons m mZ).Outer p sZ).Page),zcY (zcD h m p s) e=true:=(by intro b c e a;by_cases n:(ix (ix h.Mons m mZ).Outer p sZ).Page = -1;{rw [zbC.2 n,cond_true]at a;exact zK9 d q i rfl rfl (c e a) (.inl n)};{rw [zcf.2 n,cond_false]at a;obtain⟨j,l⟩:=List.mem_filter.1 a;exact zK9 d q i rfl rfl (c e j) (.inr (by simpa [ieq] using l))});refine⟨λk g=>?_,λe a=>f _ H.e1 e (by rwa [c.1]at a),λe a=>f _ H.e2 e (by rwa [c.2]at a)⟩;rw[i]at g ⊢;rw[ze0]at g;by_cases r:m=k;{subst r;rw[zbr d];exact z5O (H.t m d) u (zG.1 q).1 s};{rw [zbI (zG.1 d).1 (zG.1 g).1 r];exact H.t k g}
theorem zRQ:∀(l a:List Entry),allI (alone<|a++l) l a.length=true↔(∀x∈l,∀y∈a,sameKey x y=false)/\l.Pairwise (λy x=>sameKey x y=false)
 |[],a=>by simp[allI]
 |x::l,a=>by have g:=zRQ l (a++[x]);rw[j4,List.singleton_append,kN,k6] at g;rw[allI,qE,g,List.pairwise_cons];have h:alone (a++x::l) a.length x=true↔∀y∈a,sameKey x y=false:=(by unfold alone;rw[kR rfl,qL];simp);rw[h];constructor;{rintro⟨d,e,f⟩;refine⟨λz c y b=>?_,λz c=>e z c x (by simp),f⟩;rcases qG.1 c with rfl|c;{exact d y b};{exact e z c y (by simp[b])}};{rintro⟨d,e,f⟩;refine⟨λy b=>d x (by simp) y b,λz c y b=>?_,f⟩;rcases jP.1 b with b|b;{exact d z (by simp[c]) y b};{rw [qF.1 b];exact e z c}}
theorem zEq {l:List Entry}:zg3 l=true↔l.Pairwise (λy x=>sameKey x y=false)/\l.length<=6:=by unfold zg3;have:=zRQ l [];simp only[jL,uE] at this;have a:ile (ln l) 6=true↔l.length<=6:=(by rw[ile,qX,ln];omega);rw[zcG,this,a];simp
theorem zzk {l:List Entry}(h:zg3 l=true)(P:Entry->Bool):zg3 (l.filter P)=true:=by rw[zEq]at h ⊢;exact⟨h.1.sublist List.filter_sublist,jB (uM _ _) h.2⟩
theorem zGR {l:List Entry}(h:zg3 l=true)(p:Int):zg3 (flushed l p)=true:=zzk h _
theorem zVf {x x':Mon}{p:Int}(a:hasB p (ln x.Outer)=true){s:Slot}(h:x'.Outer=up x.Outer p s)(q:Int):cPg x' q+(if (ix x.Outer p sZ).Page=q then 1 else 0)=cPg x q+(if s.Page=q then 1 else 0):=by have:=zRV (λs=>ieq s.Page q) a s sZ;simp only[zbC] at this;unfold cPg;rw[h];exact this
theorem zrO {s:Slot}(d:SOk s){c:List Int}:zn3 s c=true↔(s.Page = -1->zcT c=true)/\(s.Page≠-1->enough s.Rights 1=true/\c=[]):=by unfold zn3;by_cases e:s=noSlot;{rw [zmj.2 e,cond_true,e];simp[noSlot]};{rw [ztt.2 e,cond_false,zcG];have:s.Page≠-1:=λh=>e (d.none h);have b:ile (ln c) 0=true↔c=[]:=(by rw[ile,qX,ln,<- uZ];omega);rw[b];exact⟨λh=>⟨λa=>absurd a this,λ_=>h⟩,λh=>h.2 this⟩}
structure Chg (x x':Mon) (p:Int) (s:Slot) (c:List Int):Prop where
 o:x'.Outer=up x.Outer p s
 u:x'.Out=up x.Out p c
 g:x'.Guests=x.Guests
 t:x'.Tables.length=x.Tables.length
 d:x'.Dirty.length=x.Dirty.length
 a1:x'.Outs=x.Outs
 a2:x'.Pending=x.Pending
 a3:x'.Traps=x.Traps
 a4:x'.Own=x.Own
theorem MOk.chg {x i:Mon}(H:MOk x){p:Int}(a:hasB p 8=true){s:Slot}{c:List Int}(k:Chg x i p s c)(l:SOk s)(j:zn3 s c=true):MOk i:=by refine⟨by rw[k.g];exact H.g1,by rw[k.g];exact H.g2,by rw[k.t,k.g];exact H.gt,by rw[k.o,zb2];exact H.o8,λy f=>?_,by rw[k.u,zb2];exact H.u8,by rw[k.d];exact H.d8,by rw[k.a1];exact H.outs,by rw[k.a2];exact H.pend,by rw[k.a3];exact H.tr,by rw[k.a4];exact H.own,by rw[k.g];exact H.gs,λq b=>?_⟩;{rw [k.o]at f;rcases jD f with h|h;{exact H.sl y h};{rw [h];exact l}};{rw [k.o,k.u];by_cases e:p=q;{subst e;rw[zbr<|H.hasO a,zbr<|H.hasU a];exact j};{rw [zbI (zG.1 a).1 (zG.1 b).1 e,zbI (zG.1 a).1 (zG.1 b).1 e];exact H.fit q b}}
structure Like (h r:Host):Prop where
 len:r.Mons.length=h.Mons.length
 g:∀i,hasB i (ln h.Mons)=true->(ix r.Mons i mZ).Guests=(ix h.Mons i mZ).Guests
 o:∀i,hasB i (ln h.Mons)=true->(ix r.Mons i mZ).Outs=(ix h.Mons i mZ).Outs
 p:∀i,hasB i (ln h.Mons)=true->(ix r.Mons i mZ).Pending=(ix h.Mons i mZ).Pending
 tr:∀i,hasB i (ln h.Mons)=true->(ix r.Mons i mZ).Traps=(ix h.Mons i mZ).Traps
 ow:∀i,hasB i (ln h.Mons)=true->(ix r.Mons i mZ).Own=(ix h.Mons i mZ).Own
 pg:∀i k,hasB i (ln h.Mons)=true->hasB k 8=true->zcl r i k=zcl h i k
theorem Like.refl (h:Host):Like h h:=⟨rfl,λ_ _=>rfl,λ_ _=>rfl,λ_ _=>rfl,λ_ _=>rfl,λ_ _=>rfl,λ_ _ _ _=>rfl⟩
theorem Like.trans {a b c:Host}(x:Like a b)(y:Like b c):Like a c:=by have k:∀i,hasB i (ln a.Mons)=true->hasB i (ln b.Mons)=true:=λi e=>(by unfold ln at e ⊢;rwa [x.len]);exact⟨y.len.trans x.len,λi h=>(y.g i<|k i h).trans (x.g i h),λi h=>(y.o i<|k i h).trans (x.o i h),λi h=>(y.p i<|k i h).trans (x.p i h),λi h=>(y.tr i<|k i h).trans (x.tr i h),λi h=>(y.ow i<|k i h).trans (x.ow i h),λi q h d=>(y.pg i q (k i h) d).trans (x.pg i q h d)⟩
theorem Like.has {h r:Host}(k:Like h r){i:Int}:hasB i (ln r.Mons)=hasB i (ln h.Mons):=by unfold ln;rw[k.len]
theorem zsA {h r:Host}{m:Int}:∀(n i:Nat),(∀k:Nat,i<=k->k<i+n->zcl r m (k:Int)=zcl h m (k:Int))->zcU r m n i=zcU h m n i
 | 0,i,_=>rfl
 |n+1,i,h=>by rw[zcU,zcU,h i (by omega) (by omega),zsA n (i+1) λk a b=>h k (by omega) (by omega)]
theorem Like.seen {h r:Host}(k:Like h r)(m:Int):zB r m=zB h m:=by unfold zB;rw[k.has];cases a:hasB m (ln h.Mons) with|false=>rfl|true=>simp only[cond_true];rw[k.g m a,k.o m a,k.p m a,zsA 8 0 λj b c=>k.pg m j a (zG.2 (by omega))]
theorem zp1 {h:Host}{m p:Int}(a:hasB m (ln h.Mons)=true)(c:hasB p 8=true)(b:hasB p (ln (ix h.Mons m mZ).Outer)=true) :
 zcl h m p=bif ieq (ix (ix h.Mons m mZ).Outer p sZ).Page (-1) then zcZ (ix h.Mons m mZ).Out p else zcZ h.Memory (ix (ix h.Mons m mZ).Outer p sZ).Page:=by
 unfold zcl;have:zbK (ix h.Mons m mZ).Outer p=ix (ix h.Mons m mZ).Outer p sZ:=by unfold zbK;rw[b];rfl
 rw[a,c,cond_true,cond_true,this]
 by_cases e:(ix (ix h.Mons m mZ).Outer p sZ).Page = -1
 .rw [zbC.2 e,show ine (ix (ix h.Mons m mZ).Outer p sZ).Page (-1)=false by simp[ine,e]];rfl
 .rw [zcf.2 e,show ine (ix (ix h.Mons m mZ).Outer p sZ).Page (-1)=true from zED.2 e];rfl
theorem znk {m:List (List Int)}{p:Int}(h:hasB p (ln m)=true):zcZ m p=ix m p []:=by unfold zcZ;rw[h];rfl
theorem zSw {m:List (List Int)}(h:∀c∈m,zcT c=true)(p:Int):zcT (zcZ m p)=true:=by unfold zcZ;cases a:hasB p (ln m) with|false=>rfl|true=>exact h _ (znX a _)
theorem zxj {h r:Host}(H:HOk h){m p:Int}(b:hasB m (ln h.Mons)=true)(i:hasB p 8=true){x:Mon}{s:Slot}{c:List Int}(n:r.Mons=up h.Mons m x)(k:Chg (ix h.Mons m mZ) x p s c)(u:SOk s)(t:zn3 s c=true)(f:r.Memory.length=12)(g:∀c∈r.Memory,zcT c=true)(j:zg3 r.Buffer=true)(l:zg3 r.IoBuffer=true)(v:0<=s.Page->s.Page=(ix (ix h.Mons m mZ).Outer p sZ).Page\/zf5 h.Mons s.Page=0):HOk r:=by refine H.up b ((H.mon b).chg i k u t) n f g j l λq z=>?_;have d:=zVf ((H.mon b).hasO i) k.o q;by_cases e:s.Page=q;{have a:=v (by omega);rw[if_pos e]at d;rcases a with a|a;{rw [if_pos (by omega)]at d;left;omega};{right;rw[e] at a;refine⟨a,?_⟩;have:=zy5 b x q;have y:cPg (ix h.Mons m mZ) q<=zf5 h.Mons q:=(by have:=zy5 b (⟨[],[],[],[],[],0,0,[],0⟩:Mon) q;have w:cPg (⟨[],[],[],[],[],0,0,[],0⟩:Mon) q=0:=rfl;omega);omega}};{rw [if_neg e]at d;left;split at d<;>omega}
theorem zwP {h r:Host}(H:HOk h){m p:Int}(a:hasB m (ln h.Mons)=true)(y:hasB p 8=true){x:Mon}{s:Slot}{c:List Int}(n:r.Mons=up h.Mons m x)(k:Chg (ix h.Mons m mZ) x p s c)(B:(cond (ieq s.Page<|-1) c<|zcZ r.Memory s.Page)=zcl h m p)(f:∀i q,hasB i (ln h.Mons)=true->hasB q 8=true->¬ (i=m/\q=p)->(ix (ix h.Mons i mZ).Outer q sZ).Page≠-1->zcZ r.Memory (ix (ix h.Mons i mZ).Outer q sZ).Page=zcZ h.Memory (ix (ix h.Mons i mZ).Outer q sZ).Page):Like h r:=by have l:=(zG.1 a).1;have t:=(zG.1 y).1;have e:∀{C:Type} (F:Mon->C),F x=F (ix h.Mons m mZ)->∀i,hasB i (ln h.Mons)=true->F (ix r.Mons i mZ)=F (ix h.Mons i mZ):=(by intro C F D i d;rw[n];by_cases e:m=i;{subst e;rw[zbr a];exact D};{rw [zbI l (zG.1 d).1 e]});refine⟨by rw[n,zb2],e Mon.Guests k.g,e Mon.Outs k.a1,e Mon.Pending k.a2,e Mon.Traps k.a3,e Mon.Own k.a4,λi q d b=>?_⟩;have A:hasB i (ln r.Mons)=true:=(by rw[n,ze0];exact d);have w:=(H.mon d).hasO b;have z:hasB q (ln (ix r.Mons i mZ).Outer)=true:=(by rw[n];by_cases e:m=i;{subst e;rw[zbr a,k.o,ze0];exact w};{rw [zbI l (zG.1 d).1 e];exact w});rw[zp1 A b z];by_cases e:m=i;{subst e;rw[n,zbr a,k.o,k.u];by_cases v:p=q;{subst v;rw[zbr<|(H.mon a).hasO y,<- B];cases ieq s.Page (-1);{rfl};{rw [cond_true,cond_true,znk (by rw[ze0];exact(H.mon a).hasU y),zbr<|(H.mon a).hasU y]}};{rw [zbI t (zG.1 b).1 v,zp1 a b w];by_cases j:(ix (ix h.Mons m mZ).Outer q sZ).Page = -1;{rw [zbC.2 j,cond_true,cond_true,znk (by rw[ze0];exact(H.mon a).hasU b),znk<|(H.mon a).hasU b,zbI t (zG.1 b).1 v]};{rw [zcf.2 j,cond_false,cond_false,f m q a b (λh=>v h.2.symm) j]}}};{rw [n,zbI l (zG.1 d).1 e,zp1 d b w];by_cases j:(ix (ix h.Mons i mZ).Outer q sZ).Page = -1;{rw [zbC.2 j,cond_true,cond_true]};{rw [zcf.2 j,cond_false,cond_false,f i q d b (λh=>e h.1.symm) j]}}
end
end Go.Proofs.YtgjpbkhaaiffkaaGreat.E
