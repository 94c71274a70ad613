/- What is proved here: a part of the proof that the statement of this claim holds (several texts of wip/, laid together). -/
import Derived.Test.YtbihnofoichpmaaGreatV4
namespace Go.Proofs.YtbihnofoichpmaaGreat.E
open Go
set_option linter.unusedVariables false
set_option maxRecDepth 100000
set_option linter.unusedSimpArgs false
set_option linter.unusedSectionVars false
noncomputable section
def zdI (l:List Mon):List (List Guest):=l.map fun x=>x.Guests
theorem zxg {l:List Mon}{m:Int}{x:Mon}(hm:hasB m (ln l)=true)(hx:x.Guests=(ix l m mZ).Guests):zdI (up l m x)=zdI l:=by
 obtain ⟨k,rfl,hk⟩:=zdA (n:=l.length) hm;unfold zdI up;rw[List.map_set,kU,hx,zba hk];have:=@uT _ (l.map fun x=>x.Guests) k (by simpa using hk)
 simpa using this
theorem zIc {l l':List Mon}(h:zdI l'=zdI l)(m:Int):(ix l' m mZ).Guests=(ix l m mZ).Guests:=by
 unfold zdI at h;have h2:(l'.map fun x=>x.Guests)[m.toNat]?=(l.map fun x=>x.Guests)[m.toNat]?:=by rw[h]
 rw[qM,qM]at h2;unfold ix;simp only[j7];cases h3:l'[m.toNat]? <;> cases h4:l[m.toNat]? <;> rw [h3,h4]at h2<;>simp at h2 ⊢;exact h2
theorem zxf {h:Host}{m p:Int}{s:Slot}(hm:hasB m (ln h.Mons)=true):zdI (zbQ h m p s).Mons=zdI h.Mons:=by
 rw[(zgE h m p s).1];exact zxg hm rfl
theorem z4W {h:Host}{m p:Int}(hm:hasB m (ln h.Mons)=true):zdI (zcO h m p).Mons=zdI h.Mons:=(zxf (h:=zd2 h m p) (zeq hm)).trans (zxg hm rfl)
theorem z4V {h:Host}(hf:Fit h):zdI (zcS h).Mons=zdI h.Mons:=by
 unfold zcS;cases h0:ieq (ln (zby h)) 0
 .rfl
 .exact z4W (zCB hf h0).1
theorem zXa {h:Host}{m p:Int}(hf:Fit h)(hm:hasB m (ln h.Mons)=true):zdI (fetched h m p).Mons=zdI h.Mons:=by
 have hr:=zsp hf hm;exact ((zxf (h:=landing (zcS h) m p (ix (zby (zcS h)) 0 0)) (zeq hr)).trans (zxg hr rfl)).trans (z4V hf)
theorem zRl {h:Host}{m p n:Int}(hm:hasB m (ln h.Mons)=true):zdI (zky h m p n).Mons=zdI h.Mons:=by
 have hd:zdI (zb2 h m p).Mons=zdI h.Mons:=zxg hm rfl;unfold zky;cases ieq (wand .i64 n 2) 0
 .unfold opened;cases ieq (wand .i64 (ix (ix (zb2 h m p).Mons m mZ).Outer p sZ).Rights 2) 0
  .exact hd
  .exact (zxf (h:=zb2 h m p) (zeq hm)).trans hd
 .rfl
theorem zZk {h:Host}{m p n:Int}(hf:Fit h)(hm:hasB m (ln h.Mons)=true)(hp:hasB p 8=true):zdI (mended h m p n).Mons=zdI h.Mons:=by
 unfold mended;cases ieq (ix (ix h.Mons m mZ).Outer p sZ).Page (-1)
 .exact zRl hm
 .exact (zRl (zlS hf hm hp).2).trans (zXa hf hm)
theorem z6t {l l':List Mon}(h:zdI l'=zdI l):l'.length=l.length:=by
 have:=congrArg List.length h;simpa [zdI] using this
abbrev kZ:Kept:=Ty.dflt .kept
theorem z7o {x:Guest}(hk:zcW x=true){p n:Int}(hw:ze0 x.Live p n=true):hasB (zck x.Live p n) 8=true:=by
 have ht:zcv x.Live 4 8=true:=by
  unfold zcW at hk;simp only[qD]at hk;exact hk.2.2.2.2.1
 unfold zck;rw[hw];simp only[cT];unfold ze0 at hw;cases h1:ieq (zbl x.Live p).Page (-1)
 .unfold zbl at h1 ⊢;cases h2:hasB p (ln x.Live)
  .rw [h2]at h1;cases h1
  .rw [h2]at h1;simp only[cT]at h1 ⊢;unfold zcv at ht;simp only[zcM]at ht;have hs:=qO.1 ht.1 _ (zbq h2 sZ);unfold zde at hs;cases h3:zcy (ix x.Live p sZ) noSlot
   .rw [h3]at hs;simp only[cF,zcM]at hs;have:=zfQ.1 hs.2.1;rw[show wsub .i64 8 1=7 from rfl] at this
    show hasB (ix x.Live p sZ).Page 8=true
    exact qI (by omega)
   .unfold zcy at h3;rw[qD]at h3;have:(ix x.Live p sZ).Page = -1:=qE h3.1;rw[show ieq (ix x.Live p zK).Page (-1)=true from qI this]at h1
    cases h1
 .rw [h1]at hw;cases hw
def zcr (h:Host)(m g:Int):List Slot:=(ix (ix h.Mons m mZ).Guests g gZ).Live
def zce (h:Host)(m g:Int):Kept:=ix (ix h.Mons m mZ).Tables g kZ
def zpW (b:List Entry)(m g page:Int):Option Entry:=zCr b (zek m g) page
def zgR (b:List Entry)(m g page need:Int):Bool:=bif (zpW b m g page).isSome then enough ((zpW b m g page).getD ⟨0,0,0,0⟩).Rights need else false
def zeu (h:Host)(m g page need:Int):Bool:=bif zjN (zce h m g) page then (cond (ieq (zeG (zce h m g) page).Page (-1)) true (!enough (zeG (zce h m g) page).Rights need)) else true
def zdl (h:Host)(m g page:Int):Host:={ h with Mons:=up h.Mons m { ix h.Mons m mZ with Tables:=up (ix h.Mons m mZ).Tables g (filled (zce h m g) (zcr h m g) (ix h.Mons m mZ).Outer page) } }
def zQa (h:Host)(m g page:Int):Entry:=⟨zek m g,page,(zeG (zce h m g) page).Page,(zeG (zce h m g) page).Rights⟩
def ztI (h:Host)(m g page:Int)(io:Bool):Host:=bif io then { h with IoBuffer:=zso h.IoBuffer (zQa h m g page) } else { h with Buffer:=zso h.Buffer (zQa h m g page) }
def zg9 (h:Host)(m g page:Int)(io:Bool):Host×Int×Bool:=(ztI h m g page io,(zeG (zce h m g) page).Page,true)
def zg8 (h:Host)(b:List Entry)(m g page need q:Int)(io:Bool):Host×Int×Bool :=
 bif zgR b m g page need then (h,((zpW b m g page).getD ⟨0,0,0,0⟩).Host,true)
 else (cond (zeu h m g page need) (zg9 (zdl (mended h m q need) m g page) m g page io) (zg9 h m g page io))
def ziP (need:Int):Bool:=bif ieq need 1 then true else ieq need 2
def zbS (h:Host)(m g page need:Int):Bool:=bif zbJ h m g then (cond (ziP need) (ze0 (zcr h m g) page need) false) else false
def lookOf (h:Host)(b:List Entry)(m g page need:Int)(io:Bool):Host×Int×Bool :=
 bif zbS h m g page need then zg8 (cond (ieq need 2) (zb2 h m (zck (zcr h m g) page need)) h) b m g page need (zck (zcr h m g) page need) io else (h,-1,false)
structure Kp (h r:Host):Prop where
 shape:Shape r
 gs:zdI r.Mons=zdI h.Mons
theorem Kp.has {h r:Host}(k:Kp h r){m:Int}(hm:hasB m (ln h.Mons)=true):hasB m (ln r.Mons)=true:=by
 rw[ln,z6t k.gs];exact hm
theorem zXZ {h:Host}{m g page:Int}(hs:Shape h)(hm:hasB m (ln h.Mons)=true)(hg:hasB g (ln (ix h.Mons m mZ).Guests)=true):Shape (zdl h m g page):=by
 obtain ⟨g1,g2⟩:=zcJ hs hm;have ht:hasB g (ln (ix h.Mons m mZ).Tables)=true:=by rw[ln,g2.2.2.2];exact hg
 exact ziH hs ⟨g1.1,g1.2.1,g1.2.2.1,g1.2.2.2.1,g1.2.2.2.2.1,zwJ g1.2.2.2.2.2 (zX5 (g1.2.2.2.2.2.2 _ (zbq ht _)))⟩ ⟨g2.1,g2.2.1,g2.2.2.1,by simpa using g2.2.2.2⟩
theorem zZu {h r:Host}{m g page:Int}{io:Bool}(k:Kp h r):Kp h (ztI r m g page io):=by
 obtain ⟨⟨h1,h2,h3,h4⟩,h5⟩:=k.shape;unfold ztI;cases io
 .exact ⟨⟨⟨h1,h2,(zGD _ h3).1,h4⟩,h5⟩,k.gs⟩
 .exact ⟨⟨⟨h1,h2,h3,(zGD _ h4).1⟩,h5⟩,k.gs⟩
structure LookAt (h:Host) (m g q need:Int):Prop where
 fit:Fit h
 hm:hasB m (ln h.Mons)=true
 hg:hasB g (ln (ix h.Mons m mZ).Guests)=true
 hq:hasB q 8=true
 hn:need=1\/need=2
 hs:SlotFit (ix (ix h.Mons m mZ).Outer q sZ)
theorem LookAt.mend {h:Host}{m g q need:Int}(A:LookAt h m g q need):zYi h m q need:=⟨A.fit,A.hm,A.hq,A.hn,A.hs⟩
theorem LookAt.kp {h:Host}{m g q need:Int}(A:LookAt h m g q need):Kp h (mended h m q need):=⟨(zsZ A.fit A.hm A.hq).1,zZk A.fit A.hm A.hq⟩
theorem LookAt.fill {h:Host}{m g q need:Int}(A:LookAt h m g q need)(page:Int):Kp h (zdl (mended h m q need) m g page):=by
 have k:=A.kp;have hg:hasB g (ln (ix (mended h m q need).Mons m mZ).Guests)=true:=by rw[zIc k.gs];exact A.hg
 have e:zdI (zdl (mended h m q need) m g page).Mons=zdI (mended h m q need).Mons:=zxg (k.has A.hm) rfl;exact ⟨zXZ k.shape (k.has A.hm) hg,e.trans k.gs⟩
theorem zRy {h:Host}{b:List Entry}{m g page need q:Int}{io:Bool}(A:LookAt h m g q need):Kp h (zg8 h b m g page need q io).1:=by
 unfold zg8;cases zgR b m g page need
 .cases zeu h m g page need
  .exact zZu ⟨A.fit.1,rfl⟩
  .exact zZu (A.fill page)
 .exact ⟨A.fit.1,rfl⟩
theorem zdb {h:Host}{m g:Int}(hh:zbJ h m g=true):zbK h=true/\hasB m (ln h.Mons)=true/\hasB g (ln (ix h.Mons m mZ).Guests)=true:=by
 unfold zbJ at hh;simp only[zcM]at hh;exact hh
theorem zXb {h:Host}{m g:Int}(hh:zbJ h m g=true):zcW (ix (ix h.Mons m mZ).Guests g gZ)=true:=by
 obtain ⟨h1,h2,h3⟩:=zdb hh;have hk:=zf5 h1 _ (zbq h2 mZ);unfold zdE at hk;simp only[zcM]at hk;exact qO.1 hk.2.2.2.2.2.2.2.2.2.1 _ (zbq h3 _)
theorem zJt {n:Int}(h:ziP n=true):n=1\/n=2:=by
 unfold ziP at h;cases h1:ieq n 1
 .rw [h1]at h;exact .inr (qE h)
 .exact .inl (qE h1)
theorem zNZ {h:Host}{m g page need:Int}(hs:SmH h)(hh:zbS h m g page need=true) :
 LookAt h m g (zck (zcr h m g) page need) need/\LookAt (zb2 h m (zck (zcr h m g) page need)) m g (zck (zcr h m g) page need) need:=by
 unfold zbS at hh;simp only[zcM]at hh;obtain ⟨h1,h2,h3⟩:=hh;obtain ⟨g1,g2,g3⟩:=zdb h1;have hq:hasB (zck (zcr h m g) page need) 8=true:=z7o (zXb h1) h3;have hsl:=zrg (zf5 g1 _ (zbq g2 mZ)) hq;have hf:=zdS hs g1;refine ⟨⟨hf,g2,g3,hq,zJt h2,hsl⟩,⟨zUb hf g2,zeq g2,?_,hq,zJt h2,?_⟩⟩
 .have e:zdI (zb2 h m (zck (zcr h m g) page need)).Mons=zdI h.Mons:=zxg g2 rfl;rw[zIc e];exact g3
 .obtain ⟨k,rfl,hk⟩:=zdA (n:=h.Mons.length) g2;unfold zb2;rw[zdx hk];exact hsl
theorem zvQ {h:Host}{b:List Entry}{m g page need:Int}{io:Bool}(hs:SmH h)(hh:zbJ h m g=true):Kp h (lookOf h b m g page need io).1:=by
 have hf:=zdS hs (zdb hh).1;unfold lookOf;cases h1:zbS h m g page need
 .exact ⟨hf.1,rfl⟩
 .obtain ⟨A,B⟩:=zNZ hs h1;simp only[cT];cases ieq need 2
  .exact zRy A
  .have k:=zRy (b:=b) (page:=page) (io:=io) B;have e:zdI (zb2 h m (zck (zcr h m g) page need)).Mons=zdI h.Mons:=zxg A.hm rfl;exact ⟨k.shape,k.gs.trans e⟩
def zMx (x:Host×Int×Bool):List AV:=[.agg (zbh x.1),.one (.i .i64 x.2.1),.one (.b x.2.2)]
theorem zmv {h:Host}{b:List Entry}{m g page need:Int}{io:Bool}(hh:zbS h m g page need=false):lookOf h b m g page need io=(h,-1,false):=by
 unfold lookOf;rw[hh];rfl
theorem zA0 {h:Host}{m g page need:Int}(hh:zbJ h m g=false):zbS h m g page need=false:=by
 unfold zbS;rw[hh];rfl
theorem z4X {h:Host}{m g:Int}(hh:zbK h=false):zbJ h m g=false:=by
 unfold zbJ;rw[hh];rfl
theorem z4Y {h:Host}{m g:Int}(hh:hasB m (ln h.Mons)=false):zbJ h m g=false:=by
 unfold zbJ;rw[hh];cases zbK h<;>rfl
theorem z4Z {h:Host}{m g:Int}(hh:hasB g (ln (ix h.Mons m mZ).Guests)=false):zbJ h m g=false:=by
 unfold zbJ;rw[hh];cases zbK h<;>cases hasB m (ln h.Mons)<;>rfl
theorem z5a {h:Host}{m g:Int}(h1:zbK h=true)(h2:hasB m (ln h.Mons)=true)(h3:hasB g (ln (ix h.Mons m mZ).Guests)=true):zbJ h m g=true:=by
 unfold zbJ;rw[h1,h2,h3];rfl
structure LookF (r:Host) (m g:Int):Prop where
 hm:hasB m (ln r.Mons)=true
 hg:hasB g (ln (ix r.Mons m mZ).Guests)=true
 ht:hasB g (ln (ix r.Mons m mZ).Tables)=true
 hk:SmK (zce r m g)
 hb:r.Buffer.length<=1048576
 hi:r.IoBuffer.length<=1048576
theorem zCz {h r:Host}{m g:Int}(k:Kp h r)(hm:hasB m (ln h.Mons)=true)(hg:hasB g (ln (ix h.Mons m mZ).Guests)=true):LookF r m g:=by
 obtain ⟨g1,g2⟩:=zcJ k.shape (k.has hm);have hg':hasB g (ln (ix r.Mons m mZ).Guests)=true:=by rw[zIc k.gs];exact hg
 have ht:hasB g (ln (ix r.Mons m mZ).Tables)=true:=by rw[ln,g2.2.2.2];exact hg'
 exact ⟨k.has hm,hg',ht,g1.2.2.2.2.2.2 _ (zbq ht _),k.shape.1.2.2.1,k.shape.1.2.2.2⟩
@[simp] abbrev zjl (h:Host)(b:List Entry)(m g page need:Int)(io:Bool):Bool:=pc (zbz h)
@[simp] abbrev zeD (h:Host)(b:List Entry)(m g page need:Int)(io:Bool):Host:=(lookOf h b m g page need io).1
@[simp] abbrev zjk (h:Host)(b:List Entry)(m g page need:Int)(io:Bool):Int:=(lookOf h b m g page need io).2.1
@[simp] abbrev zgf (h:Host)(b:List Entry)(m g page need:Int)(io:Bool):Bool:=(lookOf h b m g page need io).2.2
def zqJ:List AV->Option (Bool×List AV)
 | [.agg [.s (.sl .int) c,.s .mon d,.s .entry e,.s .entry f],.one (.s .entry g),.one (.i .i64 h),.one (.i .i64 j),.one (.i .i64 k),.one (.i .i64 l),.one (.b m)]=>some ((zjl (⟨c,d,e,f⟩:Host) g h j k l m),[aH (zeD (⟨c,d,e,f⟩:Host) g h j k l m),aI (zjk (⟨c,d,e,f⟩:Host) g h j k l m),aB (zgf (⟨c,d,e,f⟩:Host) g h j k l m)])
 | _=>none
abbrev zOx (u9_11:lM)(u9_12:lN)(u9_13:lE)(u9_14:lE)(u9_0:Int)(u9_5:Int)(u9_3:Int):Mon :=
 (ix (zmD (⟨u9_11,u9_12,u9_13,u9_14⟩:Host) u9_0 u9_5 u9_3).Mons u9_0 zf)
abbrev zOy (a0:Host)(a2 a3:Int)(a4 a5:Int):Int :=
 (ziV (ix (ix a0.Mons a2 zf).Guests a3 zx).Live a4 a5)
def zKu (N:Nat)(u11_0:Int)(u11_2:lM)(u11_3:lN)(u11_4:lE)(u11_5:lE):OA:=
 (some [(aH (⟨u11_2,u11_3,u11_4,u11_5⟩:Host)),(aI u11_0),(aB true)])
def zoa (N:Nat)(u10_0:Int)(u10_1:Bool)(u10_2:Int)(u10_7:Int)(u10_8:Int)(u10_9:lM)(u10_10:lN)(u10_11:lE)(u10_12:lE)(u10_13:lM)(u10_14:lN)(u10_15:lE)(u10_16:lE):OA:=
 let y0:=(⟨u10_2,u10_0,u10_7,u10_8⟩:Entry); (share (fun (s11:(Int×(Int×(lM×(lN×(lE×(lE×(lM×(lN×(lE×(lE×Unit)))))))))))=>(zKu N s11.1 s11.2.2.1 s11.2.2.2.1 s11.2.2.2.2.1 s11.2.2.2.2.2.1)) (fun r11=>(cond u10_1 (oN (znM u10_12 y0) (r11 (u10_7,(u10_8,(u10_9,(u10_10,(u10_11,((znL u10_12 y0),(u10_13,(u10_14,(u10_15,(u10_16,())))))))))))) (oN (znM u10_11 y0) (r11 (u10_7,(u10_8,(u10_9,(u10_10,((znL u10_11 y0),(u10_12,(u10_13,(u10_14,(u10_15,(u10_16,())))))))))))))))
def zqj (N:Nat)(u9_11:lM)(u9_12:lN)(u9_13:lE)(u9_14:lE)(u9_0:Int)(u9_5:Int)(u9_3:Int)(u9_1:Int)(u9_2:Int)(r10:((Int×(Bool×(Int×(Int×(Int×(Int×(Int×(Int×(Int×(lM×(lN×(lE×(lE×(lM×(lN×(lE×(lE×Unit))))))))))))))))))->OA)(u9_4:Bool)(u9_6:Int)(u9_7:Int)(u9_8:Int)(u9_9:Int)(u9_10:Int)(u9_15:lM)(u9_16:lN)(u9_17:lE)(u9_18:lE):OA:=
 let y7:=(⟨u9_11,u9_12,u9_13,u9_14⟩:Host);let y1:=(zmD y7 u9_0 u9_5 u9_3);let y3:=(inb u9_0 (ln y1.Mons));let y0:=(zOx u9_11 u9_12 u9_13 u9_14 u9_0 u9_5 u9_3);let y6:=(ix y0.Tables u9_1 zef);let y4:=(ix y0.Guests u9_1 zx).Live; (oN (zlE y7 u9_0 u9_5 u9_3) (oN y3 (oN y3 (oN (inb u9_1 (ln y0.Tables)) (oN y3 (oN (inb u9_1 (ln y0.Guests)) (oN y3 (oN (zGF y6 y4 y0.Outer u9_2) (oN (inb u9_1 (ln y0.Tables)) (share (up y1.Mons u9_0 ({ y0 with Tables:=(up y0.Tables u9_1 (zJQ y6 y4 y0.Outer u9_2)) }:Mon)) (fun x11=>let y5:=(ix x11 u9_0 zf).Tables;let y2:=(ix y5 u9_1 zef); (oN (inb u9_0 (ln x11)) (oN (inb u9_1 (ln y5)) (oN (zCF y2 u9_2) (r10 (u9_2,(u9_4,(u9_6,(u9_7,(u9_8,(u9_9,(u9_10,((zrM y2 u9_2).Page,((zrM y2 u9_2).Rights,(y1.Memory,(x11,(y1.Buffer,(y1.IoBuffer,(u9_15,(u9_16,(u9_17,(u9_18,()))))))))))))))))))))))))))))))))
def zkf (N:Nat)(u9_0:Int)(u9_1:Int)(u9_2:Int)(u9_3:Int)(u9_4:Bool)(u9_5:Int)(u9_6:Int)(u9_7:Int)(u9_8:Int)(u9_9:Int)(u9_10:Int)(u9_11:lM)(u9_12:lN)(u9_13:lE)(u9_14:lE)(u9_15:lM)(u9_16:lN)(u9_17:lE)(u9_18:lE):OA:=
 let y3:=(ix u9_12 u9_0 zf).Tables;let y0:=(ix y3 u9_1 zef);let y2:=(zrM y0 u9_2); (oN (inb u9_0 (ln u9_12)) (oN (inb u9_1 (ln y3)) (oN (zCF y0 u9_2) (share (fun (s10:(Int×(Bool×(Int×(Int×(Int×(Int×(Int×(Int×(Int×(lM×(lN×(lE×(lE×(lM×(lN×(lE×(lE×Unit))))))))))))))))))=>(zoa N s10.1 s10.2.1 s10.2.2.1 s10.2.2.2.2.2.2.2.1 s10.2.2.2.2.2.2.2.2.1 s10.2.2.2.2.2.2.2.2.2.1 s10.2.2.2.2.2.2.2.2.2.2.1 s10.2.2.2.2.2.2.2.2.2.2.2.1 s10.2.2.2.2.2.2.2.2.2.2.2.2.1 s10.2.2.2.2.2.2.2.2.2.2.2.2.2.1 s10.2.2.2.2.2.2.2.2.2.2.2.2.2.2.1 s10.2.2.2.2.2.2.2.2.2.2.2.2.2.2.2.1 s10.2.2.2.2.2.2.2.2.2.2.2.2.2.2.2.2.1)) (fun r10=>let y1:=(zqj N u9_11 u9_12 u9_13 u9_14 u9_0 u9_5 u9_3 u9_1 u9_2 r10 u9_4 u9_6 u9_7 u9_8 u9_9 u9_10 u9_15 u9_16 u9_17 u9_18); (cond (nB (zCE y0 u9_2)) y1 (cond (ieq y2.Page (-1)) y1 (oN (zfZ y2.Rights u9_3) (cond (nB (zgI y2.Rights u9_3)) y1 (r10 (u9_2,(u9_4,(u9_6,(u9_7,(u9_8,(u9_9,(u9_10,(y2.Page,(y2.Rights,(u9_11,(u9_12,(u9_13,(u9_14,(u9_15,(u9_16,(u9_17,(u9_18,())))))))))))))))))))))))))))
def zqk (N:Nat)(a2:Int)(a0:Host)(a3 a4 a5:Int)(a1:lE)(a6:Bool):OA:=
 let y3:=(zrO a2 a3);let y2:=(zOy a0 a2 a3 a4 a5);let y1:=(ix a0.Mons a2 zf);let y5:=(ix y1.Guests a3 zx).Live;let y0:=(zlN a1 y3 a4);let y4:=y0.Rights; (oN (inb a2 (ln a0.Mons)) (oN (inb a3 (ln y1.Guests)) (oN (zqQ y5 a4 a5) (cond (nB (ziW y5 a4 a5)) (some [(aH a0),(aI (-1)),(aB false)]) (oN (zj0 a2 a3) (cond (ieq a5 2) (oN (inb a2 (ln a0.Mons)) (oN (inb y2 (ln y1.Dirty)) (share (up a0.Mons a2 ({ y1 with Dirty:=(up y1.Dirty y2 true) }:Mon)) (fun x8=>(oN (zlO a1 y3 a4) (share (fun (s9:(Int×(Int×(Int×(Int×(Bool×(Int×(Int×(Int×(Int×(Int×(Int×(lM×(lN×(lE×(lE×(lM×(lN×(lE×(lE×Unit))))))))))))))))))))=>(zkf N s9.1 s9.2.1 s9.2.2.1 s9.2.2.2.1 s9.2.2.2.2.1 s9.2.2.2.2.2.1 s9.2.2.2.2.2.2.1 s9.2.2.2.2.2.2.2.1 s9.2.2.2.2.2.2.2.2.1 s9.2.2.2.2.2.2.2.2.2.1 s9.2.2.2.2.2.2.2.2.2.2.1 s9.2.2.2.2.2.2.2.2.2.2.2.1 s9.2.2.2.2.2.2.2.2.2.2.2.2.1 s9.2.2.2.2.2.2.2.2.2.2.2.2.2.1 s9.2.2.2.2.2.2.2.2.2.2.2.2.2.2.1 s9.2.2.2.2.2.2.2.2.2.2.2.2.2.2.2.1 s9.2.2.2.2.2.2.2.2.2.2.2.2.2.2.2.2.1 s9.2.2.2.2.2.2.2.2.2.2.2.2.2.2.2.2.2.1 s9.2.2.2.2.2.2.2.2.2.2.2.2.2.2.2.2.2.2.1)) (fun r9=>(cond (ziS a1 y3 a4) (oN (zfZ y4 a5) (cond (zgI y4 a5) (some [(aH ({ a0 with Mons:=x8 }:Host)),(aI y0.Host),(aB true)]) (r9 (a2,(a3,(a4,(a5,(a6,(y2,(y3,(y0.Tag,(y0.Page,(y0.Host,(y4,(a0.Memory,(x8,(a0.Buffer,(a0.IoBuffer,([],([],([],([],())))))))))))))))))))))) (r9 (a2,(a3,(a4,(a5,(a6,(y2,(y3,(y0.Tag,(y0.Page,(y0.Host,(y4,(a0.Memory,(x8,(a0.Buffer,(a0.IoBuffer,([],([],([],([],())))))))))))))))))))))))))))) (oN (zlO a1 y3 a4) (share (fun (s8:(Int×(Int×(Int×(Int×(Bool×(Int×(Int×(Int×(Int×(Int×(Int×(lM×(lN×(lE×(lE×(lM×(lN×(lE×(lE×Unit))))))))))))))))))))=>(zkf N s8.1 s8.2.1 s8.2.2.1 s8.2.2.2.1 s8.2.2.2.2.1 s8.2.2.2.2.2.1 s8.2.2.2.2.2.2.1 s8.2.2.2.2.2.2.2.1 s8.2.2.2.2.2.2.2.2.1 s8.2.2.2.2.2.2.2.2.2.1 s8.2.2.2.2.2.2.2.2.2.2.1 s8.2.2.2.2.2.2.2.2.2.2.2.1 s8.2.2.2.2.2.2.2.2.2.2.2.2.1 s8.2.2.2.2.2.2.2.2.2.2.2.2.2.1 s8.2.2.2.2.2.2.2.2.2.2.2.2.2.2.1 s8.2.2.2.2.2.2.2.2.2.2.2.2.2.2.2.1 s8.2.2.2.2.2.2.2.2.2.2.2.2.2.2.2.2.1 s8.2.2.2.2.2.2.2.2.2.2.2.2.2.2.2.2.2.1 s8.2.2.2.2.2.2.2.2.2.2.2.2.2.2.2.2.2.2.1)) (fun r8=>(cond (ziS a1 y3 a4) (oN (zfZ y4 a5) (cond (zgI y4 a5) (some [(aH a0),(aI y0.Host),(aB true)]) (r8 (a2,(a3,(a4,(a5,(a6,(y2,(y3,(y0.Tag,(y0.Page,(y0.Host,(y4,(a0.Memory,(a0.Mons,(a0.Buffer,(a0.IoBuffer,([],([],([],([],())))))))))))))))))))))) (r8 (a2,(a3,(a4,(a5,(a6,(y2,(y3,(y0.Tag,(y0.Page,(y0.Host,(y4,(a0.Memory,(a0.Mons,(a0.Buffer,(a0.IoBuffer,([],([],([],([],()))))))))))))))))))))))))))))))
def zoY (N:Nat)(a0:Host)(a1:lE)(a2 a3:Int)(a4 a5:Int)(a6:Bool):OA:=
 let y1:=(zqk N a2 a0 a3 a4 a5 a1 a6);let y0:=(wsub .i64 (ln (ix a0.Mons a2 zf).Guests) 1); (oN (zeQ a0) (cond (nB (zeP a0)) (some [(aH a0),(aI (-1)),(aB false)]) (oN (zI a2 0 (wsub .i64 (ln a0.Mons) 1)) (cond (nB (zL a2 0 (wsub .i64 (ln a0.Mons) 1))) (some [(aH a0),(aI (-1)),(aB false)]) (oN (inb a2 (ln a0.Mons)) (oN (zI a3 0 y0) (cond (nB (zL a3 0 y0)) (some [(aH a0),(aI (-1)),(aB false)]) (cond (ine a5 1) (cond (ine a5 2) (some [(aH a0),(aI (-1)),(aB false)]) y1) y1))))))))
def zqX:FuncId->Nat->Option Tmpl:=zo [(158,999999,{ n:=0,tm:=[],lo:=[],ro:=[] }),(158,1007023,{ n:=210,tm:=[(2,ti),(3,ti),(4,ti),(5,ti),(6,.b),(7,.lp 0 0),(14,.lp 1 0),(17,ti),(19,ti),(20,.lp 2 0)],lo:=[(0,[.sl 0 [],.sl 1 [],.sl 2 [],.sl 3 []]),(1,[.sl 4 [],.sl 5 [],.sl 6 [],.sl 7 []]),(2,[ti,ti,ti,ti])],ro:=[(0,(.sl .int),true),(1,.mon,true),(2,.entry,true),(3,.entry,true),(4,(.sl .int),true),(5,.mon,true),(6,.entry,true),(7,.entry,true)],kr:=1 }),(158,1009011,{ n:=210,tm:=[(4,ti),(6,.b),(7,.lp 0 0),(14,.lp 1 0),(19,ti),(20,.lp 2 0),(22,.lp 3 0)],lo:=[(0,[.sl 0 [],.sl 1 [],.sl 2 [],.sl 3 []]),(1,[.sl 4 [],.sl 5 [],.sl 6 [],.sl 7 []]),(2,[ti,ti,ti,ti]),(3,[ti,ti])],ro:=[(0,(.sl .int),true),(1,.mon,true),(2,.entry,true),(3,.entry,true),(4,(.sl .int),true),(5,.mon,true),(6,.entry,true),(7,.entry,true)],kr:=1 }),(158,1005003,{ n:=210,tm:=[(7,.lp 0 0),(14,.lp 1 0),(22,.lp 2 0)],lo:=[(0,[.sl 0 [],.sl 1 [],.sl 2 [],.sl 3 []]),(1,[.sl 4 [],.sl 5 [],.sl 6 [],.sl 7 []]),(2,[ti,ti])],ro:=[(0,(.sl .int),true),(1,.mon,true),(2,.entry,true),(3,.entry,true),(4,(.sl .int),true),(5,.mon,true),(6,.entry,true),(7,.entry,true)],kr:=1 })]
theorem zMr (N:Nat)(a0:Host)(a2 a3:Int)(a4 a5:Int)(a6:Bool):zQb (cQ zlG zqu zXK zYc) zqX N 12 158 [true,true,true,true,false,false,false,false,false,false] [(4,2)] 1 1 [[0],[1],[2],[4],[7]] .mon [aH a0,aS .entry a0.Buffer,aI a2,aI a3,aI a4,aI a5,aB a6]=zoY N a0 a0.Buffer a2 a3 a4 a5 a6:=by kernel_rfl
theorem zMs (N:Nat)(a0:Host)(a2 a3:Int)(a4 a5:Int)(a6:Bool):zQb (cQ zlG zqu zXK zYc) zqX N 12 158 [true,true,true,true,false,false,false,false,false,false] [(4,3)] 1 1 [[0],[1],[2],[4],[7]] .mon [aH a0,aS .entry a0.IoBuffer,aI a2,aI a3,aI a4,aI a5,aB a6]=zoY N a0 a0.IoBuffer a2 a3 a4 a5 a6:=by kernel_rfl
theorem zCs {N:Nat}{r:Host}{m g page:Int}{io:Bool}{z1 z2 z3 z4}(hb:r.Buffer.length<=1048576)(hi:r.IoBuffer.length<=1048576) :
 zoa N page io (zek m g) (zeG (zce r m g) page).Page (zeG (zce r m g) page).Rights r.Memory r.Mons r.Buffer r.IoBuffer z1 z2 z3 z4=some (zMx (zg9 r m g page io)):=by
 unfold zoa oN
 conv=>zeta
 refine shr ?_;cases io
 .exact zcT rfl (must (zbs hb) rfl)
 .exact must rfl (must (zbs hi) rfl)
theorem zRa {N:Nat}{r:Host}{m g page need q:Int}{io:Bool}{R:OA}{r11}{u6 u7 u8 u9 u10 z1 z2 z3 z4}(A:LookAt r m g q need)(hr:r11 (page,(io,(u6,(u7,(u8,(u9,(u10,((zeG (zce (zdl (mended r m q need) m g page) m g) page).Page,((zeG (zce (zdl (mended r m q need) m g page) m g) page).Rights,((zdl (mended r m q need) m g page).Memory,((zdl (mended r m q need) m g page).Mons,((zdl (mended r m q need) m g page).Buffer,((zdl (mended r m q need) m g page).IoBuffer,(z1,(z2,(z3,(z4,())))))))))))))))))=R) :
 zqj N r.Memory r.Mons r.Buffer r.IoBuffer m q need g page r11 io u6 u7 u8 u9 u10 z1 z2 z3 z4=R:=by
 have M:=zCz A.kp A.hm A.hg;have F:=zCz (A.fill page) A.hm A.hg;unfold zqj oN
 conv=>zeta
 exact must (zbs A.mend) (must (zB M.hm) (must (zB M.hm) (must (zB M.ht) (must (zB M.hm) (must (zB M.hg) (must (zB M.hm) (must (zbs M.hk) (must (zB M.ht) (shr (must (zB F.hm) (must (zB F.ht) (must (zbs F.hk) hr))))))))))))
theorem z5H {r:Host}{m g page need:Int}(h:zjN (zce r m g) page=false):zeu r m g page need=true:=by
 unfold zeu;rw[h];rfl
theorem z5I {r:Host}{m g page need:Int}(h:ieq (zeG (zce r m g) page).Page (-1)=true):zeu r m g page need=true:=by
 unfold zeu;rw[h];cases zjN (zce r m g) page<;>rfl
theorem z5J {r:Host}{m g page need:Int}(h:enough (zeG (zce r m g) page).Rights need=false):zeu r m g page need=true:=by
 unfold zeu;rw[h];cases zjN (zce r m g) page<;>cases ieq (zeG (zce r m g) page).Page (-1)<;>rfl
theorem z5K {r:Host}{m g page need:Int}(h1:zjN (zce r m g) page=true)(h2:ieq (zeG (zce r m g) page).Page (-1)=false)(h3:enough (zeG (zce r m g) page).Rights need=true):zeu r m g page need=false:=by
 unfold zeu;rw[h1,h2,h3];rfl
theorem zMh {r:Host}{m g page need q:Int}{io:Bool}(h:zeu r m g page need=true):(cond (zeu r m g page need) (zg9 (zdl (mended r m q need) m g page) m g page io) (zg9 r m g page io))=zg9 (zdl (mended r m q need) m g page) m g page io:=by
 rw[h];rfl
theorem z5d {r:Host}{m g page need q:Int}{io:Bool}(h:zeu r m g page need=false):(cond (zeu r m g page need) (zg9 (zdl (mended r m q need) m g page) m g page io) (zg9 r m g page io))=zg9 r m g page io:=by
 rw[h];rfl
theorem zCt {N:Nat}{r:Host}{m g page need q:Int}{io:Bool}{u7 u8 u9 u10 z1 z2 z3 z4}(A:LookAt r m g q need) :
 zkf N m g page need io q (zek m g) u7 u8 u9 u10 r.Memory r.Mons r.Buffer r.IoBuffer z1 z2 z3 z4=some (zMx (cond (zeu r m g page need) (zg9 (zdl (mended r m q need) m g page) m g page io) (zg9 r m g page io))):=by
 have M:=zCz ⟨A.fit.1,rfl⟩ A.hm A.hg;have F:=zCz (A.fill page) A.hm A.hg;unfold zkf oN nB
 conv=>zeta
 refine must (zB M.hm) (must (zB M.ht) (must (zbs M.hk) (shr (brN (fun h1=>?_) (fun h1=>br (fun h2=>?_) (fun h2=>must rfl (brN (fun h3=>?_) (fun h3=>?_))))))))
 .rw [zMh (z5H h1)];exact zRa A (zCs (r:=zdl (mended r m q need) m g page) (m:=m) (g:=g) F.hb F.hi)
 .rw [zMh (z5I h2)];exact zRa A (zCs (r:=zdl (mended r m q need) m g page) (m:=m) (g:=g) F.hb F.hi)
 .rw [zMh (z5J h3)];exact zRa A (zCs (r:=zdl (mended r m q need) m g page) (m:=m) (g:=g) F.hb F.hi)
 .rw [z5d (z5K h1 h2 h3)];exact zCs (r:=r) (m:=m) (g:=g) M.hb M.hi
theorem zVF {b:List Entry}{m g page need:Int}(h:(zpW b m g page).isSome=false):zgR b m g page need=false:=by
 unfold zgR;rw[h];rfl
theorem zCw {b:List Entry}{m g page need:Int}{x:Bool}(h1:(zpW b m g page).isSome=true)(h:enough ((zpW b m g page).getD ⟨0,0,0,0⟩).Rights need=x):zgR b m g page need=x:=by
 unfold zgR;rw[h1,h];rfl
theorem zCy {r:Host}{b:List Entry}{m g page need q:Int}{io:Bool}(h:zgR b m g page need=false):zg8 r b m g page need q io=bif zeu r m g page need then zg9 (zdl (mended r m q need) m g page) m g page io else zg9 r m g page io:=by
 unfold zg8;rw[h];rfl
theorem zVT {r:Host}{b:List Entry}{m g page need q:Int}{io:Bool}(h:zgR b m g page need=true):zg8 r b m g page need q io=(r,((zpW b m g page).getD ⟨0,0,0,0⟩).Host,true):=by
 unfold zg8;rw[h];rfl
theorem zSv {h:Host}{b:List Entry}{m g page need:Int}{io:Bool}(hh:zbS h m g page need=true):lookOf h b m g page need io=zg8 (cond (ieq need 2) (zb2 h m (zck (zcr h m g) page need)) h) b m g page need (zck (zcr h m g) page need) io:=by
 unfold lookOf;rw[hh];rfl
theorem zY7 {N:Nat}{r:Host}{b:List Entry}{m g page need:Int}{io:Bool}(hs:SmH r)(hg:zbJ r m g=true)(hn:ziP need=true) :
 zqk N m r g page need b io=some (zMx (lookOf r b m g page need io)):=by
 obtain ⟨g1,g2,g3⟩:=zdb hg;unfold zqk oN nB
 conv=>zeta
 refine must (zB g2) (must (zB g3) (must rfl (brN (fun hw=>?_) (fun hw=>must rfl ?_))))
 .have:zbS r m g page need=false:=by
   unfold zbS;rw[hg,hn,show ze0 (zcr r m g) page need=false from hw]
   rfl
  rw[zmv this];rfl
 .have hl:zbS r m g page need=true:=by
   unfold zbS;rw[hg,hn,show ze0 (zcr r m g) page need=true from hw]
   rfl
  obtain ⟨A,B⟩:=zNZ hs hl;rw[zSv hl];have hd:hasB (zck (zcr r m g) page need) (ln (ix r.Mons m mZ).Dirty)=true:=zdB (zcJ A.fit.1 g2).2.2.2.1 A.hq;refine br (fun h2=>?_) (fun h2=>?_)
  .rw [h2]
   show _=some (zMx (zg8 (zb2 r m (zck (zcr r m g) page need)) b m g page need (zck (zcr r m g) page need) io))
   refine must (zB g2) (must (zB hd) (shr (must rfl (shr (br (fun f1=>must rfl (br (fun f2=>?_) (fun f2=>?_))) (fun f1=>?_))))))
   .rw [zVT (zCw f1 f2)];rfl
   .rw [zCy (zCw f1 f2)];exact zCt (r:=zb2 r m (zck (zcr r m g) page need)) B
   .rw [zCy (zVF f1)];exact zCt (r:=zb2 r m (zck (zcr r m g) page need)) B
  .rw [h2]
   show _=some (zMx (zg8 r b m g page need (zck (zcr r m g) page need) io))
   refine must rfl (shr (br (fun f1=>must rfl (br (fun f2=>?_) (fun f2=>?_))) (fun f1=>?_)))
   .rw [zVT (zCw f1 f2)];rfl
   .rw [zCy (zCw f1 f2)];exact zCt A
   .rw [zCy (zVF f1)];exact zCt A
theorem zPK (a0:Host)(a1:List Entry)(a2 a3:Int)(a4 a5:Int)(a6:Bool)(hb:zbG big [aH a0,aS .entry a1,aI a2,aI a3,aI a4,aI a5,aB a6])(hc:zjl a0 a1 a2 a3 a4 a5 a6=true):∃N,zoY N a0 a1 a2 a3 a4 a5 a6=some [aH (zeD a0 a1 a2 a3 a4 a5 a6),aI (zjk a0 a1 a2 a3 a4 a5 a6),aB (zgf a0 a1 a2 a3 a4 a5 a6)]:=by
 have hs:=(zJ a0).1 (zD.1 hc);refine ⟨0,?_⟩
 show _=some (zMx (lookOf a0 a1 a2 a3 a4 a5 a6))
 unfold zoY oN nB
 conv=>zeta
 refine must rfl (brN (fun h1=>?_) (fun h1=>must rfl ?_))
 .rw [zmv (zA0 (z4X h1))];rfl
 rw[show zL a2 0 (wsub .i64 (ln a0.Mons) 1)=hasB a2 (ln a0.Mons) from zoW hs.2.1.1 a2]
 refine brN (fun h2=>?_) (fun h2=>must (zB h2) (must rfl ?_))
 .rw [zmv (zA0 (z4Y h2))];rfl
 have hl:(ix a0.Mons a2 mZ).Guests.length<=1048576:=(hs.2.1.2 _ (zbq h2 _)).2.2.2.1.1;rw[show zL a3 0 (wsub .i64 (ln (ix a0.Mons a2 zf).Guests) 1)=hasB a3 (ln (ix a0.Mons a2 mZ).Guests) from zoW hl a3]
 refine brN (fun h3=>?_) (fun h3=>?_)
 .rw [zmv (zA0 (z4Z h3))];rfl
 have hg:=z5a h1 h2 h3;have hno:∀{n:Int},ziP n=false->zbS a0 a2 a3 a4 n=false:=fun {n} h=>by
  unfold zbS;rw[hg,h];rfl
 rw[zku,zku];cases h4:ieq a5 1
 .cases h5:ieq a5 2
  .have:ziP a5=false:=by unfold ziP;rw[h4,h5];rfl
   rw[zmv (hno this)];rfl
  .exact zY7 hs hg (by unfold ziP;rw[h4,h5];rfl)
 .exact zY7 hs hg (by unfold ziP;rw[h4];rfl)
theorem zIS:zdG Tryz.prog 158 [true,true,true,true,false,false,false,false,false,false] (some (1,1,[[0],[1],[2],[4],[7]])) zqJ:=by
 refine zKG (kt:=.mon) (zc4 zhr zq zb0 zMI) (zex (by kernel_rfl)) ?_
 intro al avs rs hal heq hl hr h;have hb:=zhJ hr;have hal':al=[(4,2)]\/al=[(4,3)]:=by
  rw[show zgZ 158=[[(4,2)],[(4,3)]] from by kernel_rfl]at hal
  simpa using hal
 unfold zqJ at h;split at h
 .rename_i a0_0 a0_1 a0_2 a0_3 a1 a2 a3 a4 a5 a6;obtain ⟨hc,rfl⟩:=zdM h;obtain ⟨N,hN⟩:=zPK (⟨a0_0,a0_1,a0_2,a0_3⟩:Host) a1 a2 a3 a4 a5 a6 hb hc;refine ⟨⟨_,rfl⟩,rfl,zqX,N,12,?_⟩;rcases hal' with rfl|rfl
  .have e:=heq 4 2 (by simp)
   simp only[zy,j8,AV.cvs] at e;cases e;exact (zMr N (⟨a0_0,a0_1,a0_2,a0_3⟩:Host) a2 a3 a4 a5 a6).trans hN
  .have e:=heq 4 3 (by simp)
   simp only[zy,j8,AV.cvs] at e;cases e;exact (zMs N (⟨a0_0,a0_1,a0_2,a0_3⟩:Host) a2 a3 a4 a5 a6).trans hN
 .cases h
def z2o:zfd:=[(158,([true,true,true,true,false,false,false,false,false,false],(some (1,1,[[0],[1],[2],[4],[7]])),zqJ))]++zYc
theorem zh7:zd8 z2o:=zoV zMI (by
 intro x hx;simp only[qH,qV,or_false]at hx;rcases hx with rfl
 .exact zIS)
def gOf (h:Host)(m g:Int):Guest:=ix (ix h.Mons m mZ).Guests g gZ
def zjV (h:Host)(m g:Int)(x:Guest):Host:={ h with Mons:=up h.Mons m { ix h.Mons m mZ with Guests:=up (ix h.Mons m mZ).Guests g x } }
def zlK (h:Host)(m g:Int)(x:Guest)(w:Bool):Host×Int×Bool:=lookOf h h.Buffer m g (zbe (address x)) (zbX w) false
def ziL (L:Host×Int×Bool)(m g:Int)(x:Guest)(w:Bool):Host :=
 bif L.2.2 then (cond w (zjV { L.1 with Memory:=zbx L.1.Memory L.2.1 (zcU (address x)) x.A } m g (zbW x)) (zjV L.1 m g (loaded x (cellAt L.1.Memory L.2.1 (zcU (address x))))))
 else zjV L.1 m g (stopped x (zpU (zbe (address x)) w))
def owned (h:Host)(m:Int):Host:=bif ilt (ix h.Mons m mZ).Own 1000000000 then { h with Mons:=up h.Mons m { ix h.Mons m mZ with Own:=zG .i64 (ix h.Mons m mZ).Own 1 } } else h
def zng (h:Host)(m n:Int):Host:=bif ilt (ln (ix h.Mons m mZ).Outs) 40 then { h with Mons:=up h.Mons m { ix h.Mons m mZ with Outs:=ap (ix h.Mons m mZ).Outs [n] } } else h
def zfK (h:Host)(m:Int)(x:Guest)(w:Int):Host:=bif (cond (ine w 6) (ieq (zxD (ix h.Mons m mZ).Traps x.Ctl.Traps (zwM w)) 2) false) then owned h m else h
def zfJ (h:Host)(m:Int)(x:Guest)(w:Int):Host:=bif (cond (zjt x.Ctl.Traps w) (ieq w 5) false) then zng h m (zb9 x.Prog x.Pc).X else h
def zuF (h:Host)(m g:Int)(x:Guest)(w:Int):Host:=zjV (zfJ (zfK h m x w) m x w) m g (ziM x x.Ctl.Traps w)
def zTn (h:Host)(m g:Int)(x:Guest)(w:Int):Host×Bool :=
 bif ieq w 0 then (h,false) else (bif ieq w 1 then (zjV h m g (interrupted x),true) else (bif ieq w 2 then (zjV h m g (plainly x),true) else
  (cond (cond (ieq w 3) true (ieq w 4)) (ziL (zlK h m g x (ieq w 4)) m g x (ieq w 4),true) (zuF h m g x w,true))))
def zbu (h:Host)(m g:Int):Host×Bool:=bif zbJ h m g then zTn h m g (gOf h m g) (zS (gOf h m g)) else (h,false)
def zff (x:Host×Bool):List AV:=[.agg (zbh x.1),.one (.b x.2)]
theorem znZ {h:Host}{m g:Int}(hs:SmH h)(hm:hasB m (ln h.Mons)=true)(hg:hasB g (ln (ix h.Mons m mZ).Guests)=true):SmG (gOf h m g):=(hs.2.1.2 _ (zbq hm _)).2.2.2.1.2 _ (zbq hg _)
theorem zX0 {h:Host}{m g:Int}{x:Guest}(hs:Shape h)(hm:hasB m (ln h.Mons)=true)(hx:SmG x):Shape (zjV h m g x):=by
 obtain ⟨g1,g2⟩:=zcJ hs hm;exact ziH hs ⟨g1.1,g1.2.1,g1.2.2.1,zCI g1.2.2.2.1 hx,g1.2.2.2.2⟩ ⟨g2.1,g2.2.1,g2.2.2.1,by simpa using g2.2.2.2⟩
theorem zJr {h:Host}{m:Int}(hm:hasB m (ln h.Mons)=true)(x:Mon):ix (up h.Mons m x) m mZ=x:=by
 obtain ⟨k,rfl,hk⟩:=zdA (n:=h.Mons.length) hm;exact zdx hk _ _
@[simp] abbrev zd9 (h:Host)(m g:Int):Bool:=pc (zbz h)
@[simp] abbrev zBW (h:Host)(m g:Int):Host:=(zbu h m g).1
@[simp] abbrev zBX (h:Host)(m g:Int):Bool:=(zbu h m g).2
theorem z3K {α:Type}{l:List α}{x:α}(h:ilt (ln l) 40=true):few (ln (ap l [x]))=true:=by
 have:=qE h;simp only[ln] at this;exact zfT (by simp[ap];omega)
theorem zWj {h:Host}{m:Int}{x:Guest}{w:Int}(hh:(cond (zjt x.Ctl.Traps w) (ieq w 5) false)=false):zfJ h m x w=h:=by
 unfold zfJ;rw[hh];rfl
theorem zOt {h:Host}{m:Int}{x:Guest}{w:Int}(hh:ilt (ln (ix h.Mons m mZ).Outs) 40=false):zfJ h m x w=h:=by
 unfold zfJ zng;rw[hh];cases (cond (zjt x.Ctl.Traps w) (ieq w 5) false)<;>rfl
theorem zTw {h:Host}{m:Int}{x:Guest}{w:Int}(h1:zjt x.Ctl.Traps w=true)(h2:ieq w 5=true)(hh:ilt (ln (ix h.Mons m mZ).Outs) 40=true):zfJ h m x w={ h with Mons:=up h.Mons m { ix h.Mons m mZ with Outs:=ap (ix h.Mons m mZ).Outs [(zb9 x.Prog x.Pc).X] } }:=by
 unfold zfJ zng;rw[h1,h2,hh];rfl
theorem z0r {h:Host}{m:Int}{x:Guest}{w:Int}(h1:zjt x.Ctl.Traps w=false):zfJ h m x w=h:=zWj (by rw[h1];rfl)
theorem zKd {h:Host}{m:Int}{x:Guest}{w:Int}(h1:ieq w 5=false):zfJ h m x w=h:=zWj (by rw[h1];cases zjt x.Ctl.Traps w<;>rfl)
theorem zZm (a:Int):(cond (ieq a a) true false)=true:=by rw[zcC];rfl
theorem zkY {h:Host}{m g:Int}(hh:zbJ h m g=false):zbu h m g=(h,false):=by
 unfold zbu;rw[hh];rfl
theorem ziJ {h:Host}{m g:Int}(hh:zbJ h m g=true):zbu h m g=zTn h m g (gOf h m g) (zS (gOf h m g)):=by
 unfold zbu;rw[hh];rfl
theorem zk1 {a b:Bool}(h:(cond a b false)=true):a=true/\b=true:=by
 cases a
 .cases h
 .exact ⟨rfl,h⟩
theorem zhF {a b:Bool}(ha:a=true)(hb:b=true):(cond a b false)=true:=by
 rw[ha];exact hb
theorem zWm {h:Host}{m:Int}{x:Guest}{w:Int}(h6:ine w 6=true)(h0:ieq (zxD (ix h.Mons m mZ).Traps x.Ctl.Traps (zwM w)) 2=true)(h9:ilt (ix h.Mons m mZ).Own 1000000000=true):zfK h m x w={ h with Mons:=up h.Mons m { ix h.Mons m mZ with Own:=zG .i64 (ix h.Mons m mZ).Own 1 } }:=by
 unfold zfK owned;rw[h6,h0,h9];rfl
theorem zWk {h:Host}{m:Int}{x:Guest}{w:Int}(h0:ieq (zxD (ix h.Mons m mZ).Traps x.Ctl.Traps (zwM w)) 2=false):zfK h m x w=h:=by
 unfold zfK;rw[h0];cases ine w 6<;>rfl
theorem zWl {h:Host}{m:Int}{x:Guest}{w:Int}(h9:ilt (ix h.Mons m mZ).Own 1000000000=false):zfK h m x w=h:=by
 unfold zfK owned;rw[h9];cases (cond (ine w 6) (ieq (zxD (ix h.Mons m mZ).Traps x.Ctl.Traps (zwM w)) 2) false)<;>rfl
theorem z5L {h:Host}{m:Int}{x:Guest}:zfK h m x 6=h:=rfl
theorem zml {h h':Host}{m g:Int}{x:Guest}{w:Int}(e:zfK h m x w=h'):zuF h m g x w=zjV (zfJ h' m x w) m g (ziM x x.Ctl.Traps w):=by
 unfold zuF;rw[e]
theorem z2q (x:Guest):ieq (zS x) 0=true\/ieq (zS x) 1=true\/ieq (zS x) 2=true\/ieq (zS x) 3=true\/ieq (zS x) 4=true\/ieq (zS x) 5=true\/ieq (zS x) 6=true\/ieq (zS x) 7=true:=by
 cases h0:ieq (zS x) 0
 .cases h1:ieq (zS x) 1
  .cases h2:ieq (zS x) 2
   .cases h3:ieq (zS x) 3
    .cases h4:ieq (zS x) 4
     .cases h5:ieq (zS x) 5
      .cases h6:ieq (zS x) 6
       .exact .inr (.inr (.inr (.inr (.inr (.inr (.inr (z7p x h0 h1 h2 h3 h4 h5 h6)))))))
       .exact .inr (.inr (.inr (.inr (.inr (.inr (.inl rfl))))))
      .exact .inr (.inr (.inr (.inr (.inr (.inl rfl)))))
     .exact .inr (.inr (.inr (.inr (.inl rfl))))
    .exact .inr (.inr (.inr (.inl rfl)))
   .exact .inr (.inr (.inl rfl))
  .exact .inr (.inl rfl)
 .exact .inl rfl
abbrev zy8 (x:Guest):Bool:=bif zej x then ieq (zS x) 0 else false
def znn:List AV->Option (Bool×List AV)
 | [.agg [.s .ins c,.i .i64 d,.i .i64 e,.s .slot f,.s .slot g,.i .i64 h,.i .i64 j,.b k,.i .i64 l,.i .i64 m,.i .i64 n,.b o,.i .i64 p,.b q,.s .int r]]=>some ((zy8 (⟨c,d,e,f,g,⟨h,j,k⟩,l,⟨m,n,o,p⟩,q,r⟩:Guest)),[.one (.i .i64 0)])
 | _=>none
theorem zDa:vB 136 znn:=by
 refine ⟨zb4.1,fun w avs xs rs hrep h=>?_⟩;unfold znn at h;split at h
 .obtain ⟨hc,rfl⟩:=zdM h;obtain ⟨h1,h2⟩:=zk1 hc;exact zb4.2 w _ xs _ hrep (congr (congrArg (fun c v=>some (c,[AV.one (CV.i .i64 v)])) h1) (qE h2))
 .cases h
def z4x:zO:=[(136,znn)]++zlG
theorem zWJ:zF z4x:=zh zDa zhr
@[simp] abbrev zua (h:Host)(m g:Int):Bool:=bif zd9 h m g then ieq (zS (gOf h m g)) 0 else false
@[simp] abbrev zt8 (h:Host)(m g:Int):Host:=(zbu h m g).1
@[simp] abbrev zt9 (h:Host)(m g:Int):Bool:=(zbu h m g).2
def zDv:Run:=rF3 dH dI dI fun b c d=>(zua b c d,[aH (zt8 b c d),aB (zt9 b c d)])
def zs9 (N:Nat)(a0:Host)(a1 a2:Int):OA:=
 let y1:=(zk a0);let y0:=(ix y1.Mons a1 zf).Guests; (oN (zbE a0) (oN (zgg y1 a1 a2) (cond (nB (zh4 y1 a1 a2)) (some [(aH y1),(aB false)]) (oN (inb a1 (ln y1.Mons)) (oN (inb a2 (ln y0)) (oN (zy8 (ix y0 a2 zx)) (some [(aH y1),(aB false)])))))))
abbrev zy9 (x:Guest):Bool:=bif zej x then ieq (zS x) 1 else false
def zno:List AV->Option (Bool×List AV)
 | [.agg [.s .ins c,.i .i64 d,.i .i64 e,.s .slot f,.s .slot g,.i .i64 h,.i .i64 j,.b k,.i .i64 l,.i .i64 m,.i .i64 n,.b o,.i .i64 p,.b q,.s .int r]]=>some ((zy9 (⟨c,d,e,f,g,⟨h,j,k⟩,l,⟨m,n,o,p⟩,q,r⟩:Guest)),[.one (.i .i64 1)])
 | _=>none
theorem zDb:vB 136 zno:=by
 refine ⟨zb4.1,fun w avs xs rs hrep h=>?_⟩;unfold zno at h;split at h
 .obtain ⟨hc,rfl⟩:=zdM h;obtain ⟨h1,h2⟩:=zk1 hc;exact zb4.2 w _ xs _ hrep (congr (congrArg (fun c v=>some (c,[AV.one (CV.i .i64 v)])) h1) (qE h2))
 .cases h
def z4y:zO:=[(136,zno)]++zlG
theorem zWK:zF z4y:=zh zDb zhr
@[simp] abbrev zug (h:Host)(m g:Int):Bool:=bif zd9 h m g then ieq (zS (gOf h m g)) 1 else false
@[simp] abbrev zue (h:Host)(m g:Int):Host:=(zbu h m g).1
@[simp] abbrev zuf (h:Host)(m g:Int):Bool:=(zbu h m g).2
def zDw:Run:=rF3 dH dI dI fun b c d=>(zug b c d,[aH (zue b c d),aB (zuf b c d)])
def zta (N:Nat)(a0:Host)(a1 a2:Int):OA:=
 let y2:=(zk a0);let y0:=(ix y2.Mons a1 zf);let y1:=(ix y0.Guests a2 zx); (oN (zbE a0) (oN (zgg y2 a1 a2) (cond (nB (zh4 y2 a1 a2)) (some [(aH y2),(aB false)]) (oN (inb a1 (ln y2.Mons)) (oN (inb a2 (ln y0.Guests)) (oN (zy9 y1) (oN (inb a1 (ln y2.Mons)) (oN (znJ y1) (oN (inb a2 (ln y0.Guests)) (share (up y2.Mons a1 ({ y0 with Guests:=(up y0.Guests a2 (ziT y1)) }:Mon)) (fun x4=>(some [(aH ({ y2 with Mons:=x4 }:Host)),(aB true)]))))))))))))
abbrev zza (x:Guest):Bool:=bif zej x then ieq (zS x) 2 else false
def znp:List AV->Option (Bool×List AV)
 | [.agg [.s .ins c,.i .i64 d,.i .i64 e,.s .slot f,.s .slot g,.i .i64 h,.i .i64 j,.b k,.i .i64 l,.i .i64 m,.i .i64 n,.b o,.i .i64 p,.b q,.s .int r]]=>some ((zza (⟨c,d,e,f,g,⟨h,j,k⟩,l,⟨m,n,o,p⟩,q,r⟩:Guest)),[.one (.i .i64 2)])
 | _=>none
theorem zDc:vB 136 znp:=by
 refine ⟨zb4.1,fun w avs xs rs hrep h=>?_⟩;unfold znp at h;split at h
 .obtain ⟨hc,rfl⟩:=zdM h;obtain ⟨h1,h2⟩:=zk1 hc;exact zb4.2 w _ xs _ hrep (congr (congrArg (fun c v=>some (c,[AV.one (CV.i .i64 v)])) h1) (qE h2))
 .cases h
def z4z:zO:=[(136,znp)]++zlG
theorem zWL:zF z4z:=zh zDc zhr
@[simp] abbrev zuj (h:Host)(m g:Int):Bool:=bif zd9 h m g then ieq (zS (gOf h m g)) 2 else false
@[simp] abbrev zuh (h:Host)(m g:Int):Host:=(zbu h m g).1
@[simp] abbrev zui (h:Host)(m g:Int):Bool:=(zbu h m g).2
def zDx:Run:=rF3 dH dI dI fun b c d=>(zuj b c d,[aH (zuh b c d),aB (zui b c d)])
def ztb (N:Nat)(a0:Host)(a1 a2:Int):OA:=
 let y2:=(zk a0);let y0:=(ix y2.Mons a1 zf);let y1:=(ix y0.Guests a2 zx); (oN (zbE a0) (oN (zgg y2 a1 a2) (cond (nB (zh4 y2 a1 a2)) (some [(aH y2),(aB false)]) (oN (inb a1 (ln y2.Mons)) (oN (inb a2 (ln y0.Guests)) (oN (zza y1) (oN (inb a1 (ln y2.Mons)) (oN (zu8 y1) (oN (inb a2 (ln y0.Guests)) (share (up y2.Mons a1 ({ y0 with Guests:=(up y0.Guests a2 (zqd y1)) }:Mon)) (fun x4=>(some [(aH ({ y2 with Mons:=x4 }:Host)),(aB true)]))))))))))))
abbrev zzb (x:Guest):Bool:=bif zej x then ieq (zS x) 3 else false
def znq:List AV->Option (Bool×List AV)
 | [.agg [.s .ins c,.i .i64 d,.i .i64 e,.s .slot f,.s .slot g,.i .i64 h,.i .i64 j,.b k,.i .i64 l,.i .i64 m,.i .i64 n,.b o,.i .i64 p,.b q,.s .int r]]=>some ((zzb (⟨c,d,e,f,g,⟨h,j,k⟩,l,⟨m,n,o,p⟩,q,r⟩:Guest)),[.one (.i .i64 3)])
 | _=>none
theorem zDd:vB 136 znq:=by
 refine ⟨zb4.1,fun w avs xs rs hrep h=>?_⟩;unfold znq at h;split at h
 .obtain ⟨hc,rfl⟩:=zdM h;obtain ⟨h1,h2⟩:=zk1 hc;exact zb4.2 w _ xs _ hrep (congr (congrArg (fun c v=>some (c,[AV.one (CV.i .i64 v)])) h1) (qE h2))
 .cases h
def z4A:zO:=[(136,znq)]++zlG
theorem zWM:zF z4A:=zh zDd zhr
@[simp] abbrev zum (h:Host)(m g:Int):Bool:=bif zd9 h m g then ieq (zS (gOf h m g)) 3 else false
@[simp] abbrev zuk (h:Host)(m g:Int):Host:=(zbu h m g).1
@[simp] abbrev zul (h:Host)(m g:Int):Bool:=(zbu h m g).2
def zDy:Run:=rF3 dH dI dI fun b c d=>(zum b c d,[aH (zuk b c d),aB (zul b c d)])
def ztc (N:Nat)(a0:Host)(a1 a2:Int):OA:=
 let y6:=(zk a0);let y9:=(ix y6.Mons a1 zf).Guests;let y1:=(ix y9 a2 zx);let y7:=(zib y1);let y8:=(zct y7);let y4:=(zjk y6 y6.Buffer a1 a2 y8 (zeR false) false);let y0:=(zeD y6 y6.Buffer a1 a2 y8 (zeR false) false);let y3:=(ix y0.Mons a1 zf);let y5:=(ix y3.Guests a2 zx);let y2:=({ y1 with Prog:=y5.Prog,Written:=y5.Written,Live:=y5.Live,Seen:=y5.Seen }:Guest); (oN (zbE a0) (oN (zgg y6 a1 a2) (cond (nB (zh4 y6 a1 a2)) (some [(aH y6),(aB false)]) (oN (inb a1 (ln y6.Mons)) (oN (inb a2 (ln y9)) (oN (zzb y1) (oN (zpk y1) (oN (zfC y7) (oN (zrm false) (oN (zjl y6 y6.Buffer a1 a2 y8 (zeR false) false) (cond (nB (zgf y6 y6.Buffer a1 a2 y8 (zeR false) false)) (oN (inb a1 (ln y0.Mons)) (oN (zfC y7) (oN (zlM y8 false) (oN (zdQ y2 (zga y8 false)) (oN (inb a2 (ln y3.Guests)) (share (up y0.Mons a1 ({ y3 with Guests:=(up y3.Guests a2 (zdh y2 (zga y8 false))) }:Mon)) (fun x4=>(some [(aH ({ y0 with Mons:=x4 }:Host)),(aB true)])))))))) (oN (inb a1 (ln y0.Mons)) (oN (zhY y7) (oN (zrk y0.Memory y4 (zdU y7)) (oN (zxN y2 (zl8 y0.Memory y4 (zdU y7))) (oN (inb a2 (ln y3.Guests)) (share (up y0.Mons a1 ({ y3 with Guests:=(up y3.Guests a2 (zsP y2 (zl8 y0.Memory y4 (zdU y7)))) }:Mon)) (fun x4=>(some [(aH ({ y0 with Mons:=x4 }:Host)),(aB true)])))))))))))))))))))
abbrev zzc (x:Guest):Bool:=bif zej x then ieq (zS x) 4 else false
def znr:List AV->Option (Bool×List AV)
 | [.agg [.s .ins c,.i .i64 d,.i .i64 e,.s .slot f,.s .slot g,.i .i64 h,.i .i64 j,.b k,.i .i64 l,.i .i64 m,.i .i64 n,.b o,.i .i64 p,.b q,.s .int r]]=>some ((zzc (⟨c,d,e,f,g,⟨h,j,k⟩,l,⟨m,n,o,p⟩,q,r⟩:Guest)),[.one (.i .i64 4)])
 | _=>none
theorem zDe:vB 136 znr:=by
 refine ⟨zb4.1,fun w avs xs rs hrep h=>?_⟩;unfold znr at h;split at h
 .obtain ⟨hc,rfl⟩:=zdM h;obtain ⟨h1,h2⟩:=zk1 hc;exact zb4.2 w _ xs _ hrep (congr (congrArg (fun c v=>some (c,[AV.one (CV.i .i64 v)])) h1) (qE h2))
 .cases h
def z4B:zO:=[(136,znr)]++zlG
theorem zWN:zF z4B:=zh zDe zhr
@[simp] abbrev zup (h:Host)(m g:Int):Bool:=bif zd9 h m g then ieq (zS (gOf h m g)) 4 else false
@[simp] abbrev zun (h:Host)(m g:Int):Host:=(zbu h m g).1
@[simp] abbrev zuo (h:Host)(m g:Int):Bool:=(zbu h m g).2
def zDz:Run:=rF3 dH dI dI fun b c d=>(zup b c d,[aH (zun b c d),aB (zuo b c d)])
def ztd (N:Nat)(a0:Host)(a1 a2:Int):OA:=
 let y4:=(zk a0);let y8:=(ix y4.Mons a1 zf).Guests;let y1:=(ix y8 a2 zx);let y9:=(zib y1);let y5:=(zct y9);let y7:=(zjk y4 y4.Buffer a1 a2 y5 (zeR true) false);let y0:=(zeD y4 y4.Buffer a1 a2 y5 (zeR true) false);let y3:=(ix y0.Mons a1 zf);let y6:=(ix y3.Guests a2 zx);let y2:=({ y1 with Prog:=y6.Prog,Written:=y6.Written,Live:=y6.Live,Seen:=y6.Seen }:Guest); (oN (zbE a0) (oN (zgg y4 a1 a2) (cond (nB (zh4 y4 a1 a2)) (some [(aH y4),(aB false)]) (oN (inb a1 (ln y4.Mons)) (oN (inb a2 (ln y8)) (oN (zzc y1) (oN (zpk y1) (oN (zfC y9) (oN (zrm true) (oN (zjl y4 y4.Buffer a1 a2 y5 (zeR true) false) (cond (nB (zgf y4 y4.Buffer a1 a2 y5 (zeR true) false)) (oN (inb a1 (ln y0.Mons)) (oN (zfC y9) (oN (zlM y5 true) (oN (zdQ y2 (zga y5 true)) (oN (inb a2 (ln y3.Guests)) (share (up y0.Mons a1 ({ y3 with Guests:=(up y3.Guests a2 (zdh y2 (zga y5 true))) }:Mon)) (fun x4=>(some [(aH ({ y0 with Mons:=x4 }:Host)),(aB true)])))))))) (oN (zhY y9) (oN (zh3 y0.Memory y7 (zdU y9) y1.A) (oN (inb a1 (ln y0.Mons)) (oN (zxU y2) (oN (inb a2 (ln y3.Guests)) (share (up y0.Mons a1 ({ y3 with Guests:=(up y3.Guests a2 (zsU y2)) }:Mon)) (fun x4=>(some [(aH ({ y0 with Memory:=(ziD y0.Memory y7 (zdU y9) y1.A),Mons:=x4 }:Host)),(aB true)])))))))))))))))))))
abbrev zzd (x:Guest):Bool:=bif zej x then ieq (zS x) 5 else false
def zns:List AV->Option (Bool×List AV)
 | [.agg [.s .ins c,.i .i64 d,.i .i64 e,.s .slot f,.s .slot g,.i .i64 h,.i .i64 j,.b k,.i .i64 l,.i .i64 m,.i .i64 n,.b o,.i .i64 p,.b q,.s .int r]]=>some ((zzd (⟨c,d,e,f,g,⟨h,j,k⟩,l,⟨m,n,o,p⟩,q,r⟩:Guest)),[.one (.i .i64 5)])
 | _=>none
theorem zDf:vB 136 zns:=by
 refine ⟨zb4.1,fun w avs xs rs hrep h=>?_⟩;unfold zns at h;split at h
 .obtain ⟨hc,rfl⟩:=zdM h;obtain ⟨h1,h2⟩:=zk1 hc;exact zb4.2 w _ xs _ hrep (congr (congrArg (fun c v=>some (c,[AV.one (CV.i .i64 v)])) h1) (qE h2))
 .cases h
def z4C:zO:=[(136,zns)]++zlG
theorem zWO:zF z4C:=zh zDf zhr
@[simp] abbrev zus (h:Host)(m g:Int):Bool:=bif zd9 h m g then ieq (zS (gOf h m g)) 5 else false
@[simp] abbrev zuq (h:Host)(m g:Int):Host:=(zbu h m g).1
@[simp] abbrev zur (h:Host)(m g:Int):Bool:=(zbu h m g).2
def zDA:Run:=rF3 dH dI dI fun b c d=>(zus b c d,[aH (zuq b c d),aB (zur b c d)])
def zte (N:Nat)(a0:Host)(a1 a2:Int):OA:=
 let y8:=(zk a0);let y4:=(inb a1 (ln y8.Mons));let y2:=(ix y8.Mons a1 zf);let y10:=(inb a2 (ln y2.Guests));let y0:=(ix y2.Guests a2 zx);let y9:=(ap y2.Outs [(zfj y0.Prog y0.Pc).X]);let y16:=(up y8.Mons a1 ({ y2 with Outs:=y9 }:Mon));let y7:=y0.Ctl.Traps;let y5:=(up y8.Mons a1 ({ y2 with Guests:=(up y2.Guests a2 (zb1 y0 y7 5)) }:Mon)); (oN (zbE a0) (oN (zgg y8 a1 a2) (cond (nB (zh4 y8 a1 a2)) (some [(aH y8),(aB false)]) (oN y4 (oN y10 (oN (zzd y0) (oN y4 (oN (zpB y2.Traps y7 1) (cond (ieq (zmA y2.Traps y7 1) 2) (oN y4 (cond (ilt y2.Own 1000000000) (oN y4 (oN y4 (share (up y8.Mons a1 ({ y2 with Own:=(zG .i64 y2.Own 1) }:Mon)) (fun x4=>let y12:=(inb a1 (ln x4));let y3:=(ix x4 a1 zf);let y6:=(ix y3.Guests a2 zx);let y17:=(ap y3.Outs [(zfj y6.Prog y0.Pc).X]);let y1:=({ y0 with Prog:=y6.Prog,Written:=y6.Written,Live:=y6.Live,Seen:=y6.Seen }:Guest);let y11:=(up x4 a1 ({ y3 with Guests:=(up y3.Guests a2 (zb1 y1 y7 5)) }:Mon)); (oN (zdu y1 y7 5) (cond (zc3 y1 y7 5) (oN y12 (cond (ilt (ln y3.Outs) 40) (oN y12 (oN (ze9 y6.Prog y0.Pc) (oN (few (ln y17)) (oN y12 (oN (cond (ieq a1 a1) true false) (share (up x4 a1 ({ y3 with Outs:=y17 }:Mon)) (fun x5=>let y13:=(ix x5 a1 zf); (oN (inb a1 (ln x5)) (oN (inb a2 (ln y13.Guests)) (share (up x5 a1 ({ y13 with Guests:=(up y13.Guests a2 (zb1 y1 y7 5)) }:Mon)) (fun x6=>(some [(aH ({ y8 with Mons:=x6 }:Host)),(aB true)])))))))))))) (oN y12 (oN (inb a2 (ln y3.Guests)) (share y11 (fun x5=>(some [(aH ({ y8 with Mons:=x5 }:Host)),(aB true)]))))))) (oN y12 (oN (inb a2 (ln y3.Guests)) (share y11 (fun x5=>(some [(aH ({ y8 with Mons:=x5 }:Host)),(aB true)]))))))))))) (oN (zdu y0 y7 5) (cond (zc3 y0 y7 5) (oN y4 (cond (ilt (ln y2.Outs) 40) (oN y4 (oN (ze9 y0.Prog y0.Pc) (oN (few (ln y9)) (oN y4 (oN (cond (ieq a1 a1) true false) (share y16 (fun x4=>let y14:=(ix x4 a1 zf); (oN (inb a1 (ln x4)) (oN (inb a2 (ln y14.Guests)) (share (up x4 a1 ({ y14 with Guests:=(up y14.Guests a2 (zb1 y0 y7 5)) }:Mon)) (fun x5=>(some [(aH ({ y8 with Mons:=x5 }:Host)),(aB true)])))))))))))) (oN y4 (oN y10 (share y5 (fun x4=>(some [(aH ({ y8 with Mons:=x4 }:Host)),(aB true)]))))))) (oN y4 (oN y10 (share y5 (fun x4=>(some [(aH ({ y8 with Mons:=x4 }:Host)),(aB true)]))))))))) (oN (zdu y0 y7 5) (cond (zc3 y0 y7 5) (oN y4 (cond (ilt (ln y2.Outs) 40) (oN y4 (oN (ze9 y0.Prog y0.Pc) (oN (few (ln y9)) (oN y4 (oN (cond (ieq a1 a1) true false) (share y16 (fun x4=>let y15:=(ix x4 a1 zf); (oN (inb a1 (ln x4)) (oN (inb a2 (ln y15.Guests)) (share (up x4 a1 ({ y15 with Guests:=(up y15.Guests a2 (zb1 y0 y7 5)) }:Mon)) (fun x5=>(some [(aH ({ y8 with Mons:=x5 }:Host)),(aB true)])))))))))))) (oN y4 (oN y10 (share y5 (fun x4=>(some [(aH ({ y8 with Mons:=x4 }:Host)),(aB true)]))))))) (oN y4 (oN y10 (share y5 (fun x4=>(some [(aH ({ y8 with Mons:=x4 }:Host)),(aB true)]))))))))))))))))
abbrev zze (x:Guest):Bool:=bif zej x then ieq (zS x) 6 else false
def znt:List AV->Option (Bool×List AV)
 | [.agg [.s .ins c,.i .i64 d,.i .i64 e,.s .slot f,.s .slot g,.i .i64 h,.i .i64 j,.b k,.i .i64 l,.i .i64 m,.i .i64 n,.b o,.i .i64 p,.b q,.s .int r]]=>some ((zze (⟨c,d,e,f,g,⟨h,j,k⟩,l,⟨m,n,o,p⟩,q,r⟩:Guest)),[.one (.i .i64 6)])
 | _=>none
theorem zDg:vB 136 znt:=by
 refine ⟨zb4.1,fun w avs xs rs hrep h=>?_⟩;unfold znt at h;split at h
 .obtain ⟨hc,rfl⟩:=zdM h;obtain ⟨h1,h2⟩:=zk1 hc;exact zb4.2 w _ xs _ hrep (congr (congrArg (fun c v=>some (c,[AV.one (CV.i .i64 v)])) h1) (qE h2))
 .cases h
def z4D:zO:=[(136,znt)]++zlG
theorem zWP:zF z4D:=zh zDg zhr
@[simp] abbrev zuv (h:Host)(m g:Int):Bool:=bif zd9 h m g then ieq (zS (gOf h m g)) 6 else false
@[simp] abbrev zut (h:Host)(m g:Int):Host:=(zbu h m g).1
@[simp] abbrev zuu (h:Host)(m g:Int):Bool:=(zbu h m g).2
def zDB:Run:=rF3 dH dI dI fun b c d=>(zuv b c d,[aH (zut b c d),aB (zuu b c d)])
def ztf (N:Nat)(a0:Host)(a1 a2:Int):OA:=
 let y3:=(zk a0);let y4:=(inb a1 (ln y3.Mons));let y0:=(ix y3.Mons a1 zf);let y5:=(inb a2 (ln y0.Guests));let y1:=(ix y0.Guests a2 zx);let y2:=(up y3.Mons a1 ({ y0 with Guests:=(up y0.Guests a2 (zb1 y1 y1.Ctl.Traps 6)) }:Mon)); (oN (zbE a0) (oN (zgg y3 a1 a2) (cond (nB (zh4 y3 a1 a2)) (some [(aH y3),(aB false)]) (oN y4 (oN y5 (oN (zze y1) (oN (zdu y1 y1.Ctl.Traps 6) (cond (zc3 y1 y1.Ctl.Traps 6) (oN y4 (oN y5 (share y2 (fun x4=>(some [(aH ({ y3 with Mons:=x4 }:Host)),(aB true)]))))) (oN y4 (oN y5 (share y2 (fun x4=>(some [(aH ({ y3 with Mons:=x4 }:Host)),(aB true)])))))))))))))
abbrev zzf (x:Guest):Bool:=bif zej x then ieq (zS x) 7 else false
def znu:List AV->Option (Bool×List AV)
 | [.agg [.s .ins c,.i .i64 d,.i .i64 e,.s .slot f,.s .slot g,.i .i64 h,.i .i64 j,.b k,.i .i64 l,.i .i64 m,.i .i64 n,.b o,.i .i64 p,.b q,.s .int r]]=>some ((zzf (⟨c,d,e,f,g,⟨h,j,k⟩,l,⟨m,n,o,p⟩,q,r⟩:Guest)),[.one (.i .i64 7)])
 | _=>none
theorem zDh:vB 136 znu:=by
 refine ⟨zb4.1,fun w avs xs rs hrep h=>?_⟩;unfold znu at h;split at h
 .obtain ⟨hc,rfl⟩:=zdM h;obtain ⟨h1,h2⟩:=zk1 hc;exact zb4.2 w _ xs _ hrep (congr (congrArg (fun c v=>some (c,[AV.one (CV.i .i64 v)])) h1) (qE h2))
 .cases h
def z4E:zO:=[(136,znu)]++zlG
theorem zWQ:zF z4E:=zh zDh zhr
@[simp] abbrev zuy (h:Host)(m g:Int):Bool:=bif zd9 h m g then ieq (zS (gOf h m g)) 7 else false
@[simp] abbrev zuw (h:Host)(m g:Int):Host:=(zbu h m g).1
@[simp] abbrev zux (h:Host)(m g:Int):Bool:=(zbu h m g).2
def zDC:Run:=rF3 dH dI dI fun b c d=>(zuy b c d,[aH (zuw b c d),aB (zux b c d)])
def ztg (N:Nat)(a0:Host)(a1 a2:Int):OA:=
 let y9:=(zk a0);let y4:=(inb a1 (ln y9.Mons));let y2:=(ix y9.Mons a1 zf);let y8:=(inb a2 (ln y2.Guests));let y0:=(ix y2.Guests a2 zx);let y6:=y0.Ctl.Traps;let y3:=(up y9.Mons a1 ({ y2 with Guests:=(up y2.Guests a2 (zb1 y0 y6 7)) }:Mon)); (oN (zbE a0) (oN (zgg y9 a1 a2) (cond (nB (zh4 y9 a1 a2)) (some [(aH y9),(aB false)]) (oN y4 (oN y8 (oN (zzf y0) (oN y4 (oN (zpB y2.Traps y6 2) (cond (ieq (zmA y2.Traps y6 2) 2) (oN y4 (cond (ilt y2.Own 1000000000) (oN y4 (oN y4 (share (up y9.Mons a1 ({ y2 with Own:=(zG .i64 y2.Own 1) }:Mon)) (fun x4=>let y5:=(ix x4 a1 zf);let y7:=(ix y5.Guests a2 zx);let y1:=({ y0 with Prog:=y7.Prog,Written:=y7.Written,Live:=y7.Live,Seen:=y7.Seen }:Guest);let y10:=(up x4 a1 ({ y5 with Guests:=(up y5.Guests a2 (zb1 y1 y6 7)) }:Mon)); (oN (zdu y1 y6 7) (cond (zc3 y1 y6 7) (oN (inb a1 (ln x4)) (oN (inb a2 (ln y5.Guests)) (share y10 (fun x5=>(some [(aH ({ y9 with Mons:=x5 }:Host)),(aB true)]))))) (oN (inb a1 (ln x4)) (oN (inb a2 (ln y5.Guests)) (share y10 (fun x5=>(some [(aH ({ y9 with Mons:=x5 }:Host)),(aB true)]))))))))))) (oN (zdu y0 y6 7) (cond (zc3 y0 y6 7) (oN y4 (oN y8 (share y3 (fun x4=>(some [(aH ({ y9 with Mons:=x4 }:Host)),(aB true)]))))) (oN y4 (oN y8 (share y3 (fun x4=>(some [(aH ({ y9 with Mons:=x4 }:Host)),(aB true)]))))))))) (oN (zdu y0 y6 7) (cond (zc3 y0 y6 7) (oN y4 (oN y8 (share y3 (fun x4=>(some [(aH ({ y9 with Mons:=x4 }:Host)),(aB true)]))))) (oN y4 (oN y8 (share y3 (fun x4=>(some [(aH ({ y9 with Mons:=x4 }:Host)),(aB true)]))))))))))))))))
theorem zDl (a0:Host)(a1 a2:Int)(hc:zua a0 a1 a2=true):∃N,zs9 N a0 a1 a2=some [aH (zt8 a0 a1 a2),aB (zt9 a0 a1 a2)]:=by
 obtain ⟨hc,hw⟩:=zk1 hc;have hs:=(zJ a0).1 (zD.1 hc);refine ⟨0,?_⟩
 show _=some (zff (zbu a0 a1 a2))
 unfold zs9 oN nB
 conv=>zeta
 refine must (zbs ((zJ _).2 hs)) (must (zbs ((zJ _).2 hs)) (brN (fun hh=>?_) (fun hh=>?_)))
 .rw [zkY hh];rfl
 obtain ⟨g1,g2,g3⟩:=zdb hh;have hx:=znZ hs g2 g3;have hk:zS (gOf a0 a1 a2)=0:=qE hw;rw[ziJ hh,hk];refine must (zB g2) (must (zB g3) (must (zhF rfl hw) ?_));rfl
theorem zn6:vB 93 zDv:=kF3 zWJ zq zb0 zh7 (zo []) zDl
theorem zDm (a0:Host)(a1 a2:Int)(hc:zug a0 a1 a2=true):∃N,zta N a0 a1 a2=some [aH (zue a0 a1 a2),aB (zuf a0 a1 a2)]:=by
 obtain ⟨hc,hw⟩:=zk1 hc;have hs:=(zJ a0).1 (zD.1 hc);refine ⟨0,?_⟩
 show _=some (zff (zbu a0 a1 a2))
 unfold zta oN nB
 conv=>zeta
 refine must (zbs ((zJ _).2 hs)) (must (zbs ((zJ _).2 hs)) (brN (fun hh=>?_) (fun hh=>?_)))
 .rw [zkY hh];rfl
 obtain ⟨g1,g2,g3⟩:=zdb hh;have hx:=znZ hs g2 g3;have hk:zS (gOf a0 a1 a2)=1:=qE hw;rw[ziJ hh,hk];refine must (zB g2) (must (zB g3) (must (zhF rfl hw) ?_))
 show _=some (zff (zjV a0 a1 a2 (interrupted (gOf a0 a1 a2)),true))
 exact must (zB g2) (must (zbs hx) (must (zB g3) rfl))
theorem zzl:vB 93 zDw:=kF3 zWK zq zb0 zh7 (zo []) zDm
theorem zDn (a0:Host)(a1 a2:Int)(hc:zuj a0 a1 a2=true):∃N,ztb N a0 a1 a2=some [aH (zuh a0 a1 a2),aB (zui a0 a1 a2)]:=by
 obtain ⟨hc,hw⟩:=zk1 hc;have hs:=(zJ a0).1 (zD.1 hc);refine ⟨0,?_⟩
 show _=some (zff (zbu a0 a1 a2))
 unfold ztb oN nB
 conv=>zeta
 refine must (zbs ((zJ _).2 hs)) (must (zbs ((zJ _).2 hs)) (brN (fun hh=>?_) (fun hh=>?_)))
 .rw [zkY hh];rfl
 obtain ⟨g1,g2,g3⟩:=zdb hh;have hx:=znZ hs g2 g3;have hk:zS (gOf a0 a1 a2)=2:=qE hw;rw[ziJ hh,hk];refine must (zB g2) (must (zB g3) (must (zhF rfl hw) ?_))
 show _=some (zff (zjV a0 a1 a2 (plainly (gOf a0 a1 a2)),true))
 exact must (zB g2) (must (zbs hx) (must (zB g3) rfl))
theorem zzm:vB 93 zDx:=kF3 zWL zq zb0 zh7 (zo []) zDn
theorem zDo (a0:Host)(a1 a2:Int)(hc:zum a0 a1 a2=true):∃N,ztc N a0 a1 a2=some [aH (zuk a0 a1 a2),aB (zul a0 a1 a2)]:=by
 obtain ⟨hc,hw⟩:=zk1 hc;have hs:=(zJ a0).1 (zD.1 hc);refine ⟨0,?_⟩
 show _=some (zff (zbu a0 a1 a2))
 unfold ztc oN nB
 conv=>zeta
 refine must (zbs ((zJ _).2 hs)) (must (zbs ((zJ _).2 hs)) (brN (fun hh=>?_) (fun hh=>?_)))
 .rw [zkY hh];rfl
 obtain ⟨g1,g2,g3⟩:=zdb hh;have hx:=znZ hs g2 g3;have hk:zS (gOf a0 a1 a2)=3:=qE hw;rw[ziJ hh,hk];refine must (zB g2) (must (zB g3) (must (zhF rfl hw) ?_))
 show _=some (zff (ziL (zlK a0 a1 a2 (gOf a0 a1 a2) false) a1 a2 (gOf a0 a1 a2) false,true))
 have k:=zvQ (b:=a0.Buffer) (page:=zbe (address (gOf a0 a1 a2))) (need:=zbX false) (io:=false) hs hh;have F:=zCz k g2 g3;have e3:(ix (ix (zeD (zk a0) (zk a0).Buffer a1 a2 (zct (zib (ix (ix (zk a0).Mons a1 zf).Guests a2 zx))) (zeR false) false).Mons a1 zf).Guests a2 zx)=(ix (ix (zk a0).Mons a1 zf).Guests a2 zx):=congrArg (fun l=>ix l a2 gZ) (zIc k.gs a1);rw[e3];unfold ziL;refine must rfl (must rfl (must rfl (must (zbs ((zJ _).2 hs)) (brN (fun h=>?_) (fun h=>?_)))))
 .rw [show (zlK a0 a1 a2 (gOf a0 a1 a2) false).2.2=false from h]
  exact must (zB F.hm) (must rfl (must rfl (must (zbs hx) (must (zB F.hg) rfl))))
 .rw [show (zlK a0 a1 a2 (gOf a0 a1 a2) false).2.2=true from h]
  exact must (zB F.hm) (must rfl (must rfl (must (zbs hx) (must (zB F.hg) rfl))))
theorem zzn:vB 93 zDy:=kF3 zWM zq zb0 zh7 (zo []) zDo
theorem zDp (a0:Host)(a1 a2:Int)(hc:zup a0 a1 a2=true):∃N,ztd N a0 a1 a2=some [aH (zun a0 a1 a2),aB (zuo a0 a1 a2)]:=by
 obtain ⟨hc,hw⟩:=zk1 hc;have hs:=(zJ a0).1 (zD.1 hc);refine ⟨0,?_⟩
 show _=some (zff (zbu a0 a1 a2))
 unfold ztd oN nB
 conv=>zeta
 refine must (zbs ((zJ _).2 hs)) (must (zbs ((zJ _).2 hs)) (brN (fun hh=>?_) (fun hh=>?_)))
 .rw [zkY hh];rfl
 obtain ⟨g1,g2,g3⟩:=zdb hh;have hx:=znZ hs g2 g3;have hk:zS (gOf a0 a1 a2)=4:=qE hw;rw[ziJ hh,hk];refine must (zB g2) (must (zB g3) (must (zhF rfl hw) ?_))
 show _=some (zff (ziL (zlK a0 a1 a2 (gOf a0 a1 a2) true) a1 a2 (gOf a0 a1 a2) true,true))
 have k:=zvQ (b:=a0.Buffer) (page:=zbe (address (gOf a0 a1 a2))) (need:=zbX true) (io:=false) hs hh;have F:=zCz k g2 g3;have e3:(ix (ix (zeD (zk a0) (zk a0).Buffer a1 a2 (zct (zib (ix (ix (zk a0).Mons a1 zf).Guests a2 zx))) (zeR true) false).Mons a1 zf).Guests a2 zx)=(ix (ix (zk a0).Mons a1 zf).Guests a2 zx):=congrArg (fun l=>ix l a2 gZ) (zIc k.gs a1);rw[e3];unfold ziL;refine must rfl (must rfl (must rfl (must (zbs ((zJ _).2 hs)) (brN (fun h=>?_) (fun h=>?_)))))
 .rw [show (zlK a0 a1 a2 (gOf a0 a1 a2) true).2.2=false from h]
  exact must (zB F.hm) (must rfl (must rfl (must (zbs hx) (must (zB F.hg) rfl))))
 .rw [show (zlK a0 a1 a2 (gOf a0 a1 a2) true).2.2=true from h]
  exact must rfl (must (zbs k.shape.1.1) (must (zB F.hm) (must (zbs hx) (must (zB F.hg) rfl))))
theorem zzo:vB 93 zDz:=kF3 zWN zq zb0 zh7 (zo []) zDp
theorem z3L {a0:Host}{a1 a2:Int}(hx:SmG (gOf a0 a1 a2))(g2:hasB a1 (ln a0.Mons)=true)(g3:hasB a2 (ln (ix a0.Mons a1 mZ).Guests)=true) :
 (cond (zdu (ix (ix (zk a0).Mons a1 zf).Guests a2 zx) (ix (ix (zk a0).Mons a1 zf).Guests a2 zx).Ctl.Traps 5) (cond (zc3 (ix (ix (zk a0).Mons a1 zf).Guests a2 zx) (ix (ix (zk a0).Mons a1 zf).Guests a2 zx).Ctl.Traps 5) (cond (inb a1 (ln (zk a0).Mons)) (cond (ilt (ln (ix (zk a0).Mons a1 zf).Outs) 40) (cond (inb a1 (ln (zk a0).Mons)) (cond (ze9 (ix (ix (zk a0).Mons a1 zf).Guests a2 zx).Prog (ix (ix (zk a0).Mons a1 zf).Guests a2 zx).Pc) (cond (few (ln (ap (ix (zk a0).Mons a1 zf).Outs [(zfj (ix (ix (zk a0).Mons a1 zf).Guests a2 zx).Prog (ix (ix (zk a0).Mons a1 zf).Guests a2 zx).Pc).X]))) (cond (inb a1 (ln (zk a0).Mons)) (cond (cond (ieq a1 a1) true false) (share (up (zk a0).Mons a1 ({ (ix (zk a0).Mons a1 zf) with Outs:=(ap (ix (zk a0).Mons a1 zf).Outs [(zfj (ix (ix (zk a0).Mons a1 zf).Guests a2 zx).Prog (ix (ix (zk a0).Mons a1 zf).Guests a2 zx).Pc).X]) }:Mon)) (fun x4=>(cond (inb a1 (ln x4)) (cond (inb a2 (ln (ix x4 a1 zf).Guests)) (share (up x4 a1 ({ (ix x4 a1 zf) with Guests:=(up (ix x4 a1 zf).Guests a2 (zb1 (ix (ix (zk a0).Mons a1 zf).Guests a2 zx) (ix (ix (zk a0).Mons a1 zf).Guests a2 zx).Ctl.Traps 5)) }:Mon)) (fun x5=>(some [(.agg (zbh ({ (zk a0) with Mons:=x5 }:Host))),(.one (.b true))]))) none) none))) none) none) none) none) none) (cond (inb a1 (ln (zk a0).Mons)) (cond (inb a2 (ln (ix (zk a0).Mons a1 zf).Guests)) (share (up (zk a0).Mons a1 ({ (ix (zk a0).Mons a1 zf) with Guests:=(up (ix (zk a0).Mons a1 zf).Guests a2 (zb1 (ix (ix (zk a0).Mons a1 zf).Guests a2 zx) (ix (ix (zk a0).Mons a1 zf).Guests a2 zx).Ctl.Traps 5)) }:Mon)) (fun x4=>(some [(.agg (zbh ({ (zk a0) with Mons:=x4 }:Host))),(.one (.b true))]))) none) none)) none) (cond (inb a1 (ln (zk a0).Mons)) (cond (inb a2 (ln (ix (zk a0).Mons a1 zf).Guests)) (share (up (zk a0).Mons a1 ({ (ix (zk a0).Mons a1 zf) with Guests:=(up (ix (zk a0).Mons a1 zf).Guests a2 (zb1 (ix (ix (zk a0).Mons a1 zf).Guests a2 zx) (ix (ix (zk a0).Mons a1 zf).Guests a2 zx).Ctl.Traps 5)) }:Mon)) (fun x4=>(some [(.agg (zbh ({ (zk a0) with Mons:=x4 }:Host))),(.one (.b true))]))) none) none)) none)=some (zff (zjV (zfJ a0 a1 (gOf a0 a1 a2) 5) a1 a2 (ziM (gOf a0 a1 a2) (gOf a0 a1 a2).Ctl.Traps 5),true)):=by
 refine must (zbs hx) (br (fun h1=>must (zB g2) (br (fun h3=>?_) (fun h3=>?_))) (fun h1=>?_))
 .rw [zTw (h:=a0) (m:=a1) (x:=gOf a0 a1 a2) (w:=5) h1 rfl h3];refine must (zB g2) (must rfl (must (z3K h3) (must (zB g2) (must (zZm _) (shr (must (zB (zeq g2)) (must ?_ rfl)))))));rw[zJr g2];exact zB g3
 .rw [zOt (h:=a0) (m:=a1) (x:=gOf a0 a1 a2) (w:=5) h3];exact must (zB g2) (must (zB g3) rfl)
 .rw [z0r (h:=a0) (m:=a1) (x:=gOf a0 a1 a2) (w:=5) h1];exact must (zB g2) (must (zB g3) rfl)
theorem z6X {a0:Host}{x4:List Mon}{a1 a2:Int}(hx:SmG (gOf a0 a1 a2))(g2:hasB a1 (ln x4)=true)(g3:hasB a2 (ln (ix x4 a1 mZ).Guests)=true)(e:(ix (ix x4 a1 zf).Guests a2 zx)=gOf a0 a1 a2) :
 (cond (zdu ({ (ix (ix (zk a0).Mons a1 zf).Guests a2 zx) with Prog:=(ix (ix x4 a1 zf).Guests a2 zx).Prog,Written:=(ix (ix x4 a1 zf).Guests a2 zx).Written,Live:=(ix (ix x4 a1 zf).Guests a2 zx).Live,Seen:=(ix (ix x4 a1 zf).Guests a2 zx).Seen }:Guest) (ix (ix (zk a0).Mons a1 zf).Guests a2 zx).Ctl.Traps 5) (cond (zc3 ({ (ix (ix (zk a0).Mons a1 zf).Guests a2 zx) with Prog:=(ix (ix x4 a1 zf).Guests a2 zx).Prog,Written:=(ix (ix x4 a1 zf).Guests a2 zx).Written,Live:=(ix (ix x4 a1 zf).Guests a2 zx).Live,Seen:=(ix (ix x4 a1 zf).Guests a2 zx).Seen }:Guest) (ix (ix (zk a0).Mons a1 zf).Guests a2 zx).Ctl.Traps 5) (cond (inb a1 (ln x4)) (cond (ilt (ln (ix x4 a1 zf).Outs) 40) (cond (inb a1 (ln x4)) (cond (ze9 (ix (ix x4 a1 zf).Guests a2 zx).Prog (ix (ix (zk a0).Mons a1 zf).Guests a2 zx).Pc) (cond (few (ln (ap (ix x4 a1 zf).Outs [(zfj (ix (ix x4 a1 zf).Guests a2 zx).Prog (ix (ix (zk a0).Mons a1 zf).Guests a2 zx).Pc).X]))) (cond (inb a1 (ln x4)) (cond (cond (ieq a1 a1) true false) (share (up x4 a1 ({ (ix x4 a1 zf) with Outs:=(ap (ix x4 a1 zf).Outs [(zfj (ix (ix x4 a1 zf).Guests a2 zx).Prog (ix (ix (zk a0).Mons a1 zf).Guests a2 zx).Pc).X]) }:Mon)) (fun x5=>(cond (inb a1 (ln x5)) (cond (inb a2 (ln (ix x5 a1 zf).Guests)) (share (up x5 a1 ({ (ix x5 a1 zf) with Guests:=(up (ix x5 a1 zf).Guests a2 (zb1 ({ (ix (ix (zk a0).Mons a1 zf).Guests a2 zx) with Prog:=(ix (ix x4 a1 zf).Guests a2 zx).Prog,Written:=(ix (ix x4 a1 zf).Guests a2 zx).Written,Live:=(ix (ix x4 a1 zf).Guests a2 zx).Live,Seen:=(ix (ix x4 a1 zf).Guests a2 zx).Seen }:Guest) (ix (ix (zk a0).Mons a1 zf).Guests a2 zx).Ctl.Traps 5)) }:Mon)) (fun x6=>(some [(.agg (zbh ({ (zk a0) with Mons:=x6 }:Host))),(.one (.b true))]))) none) none))) none) none) none) none) none) (cond (inb a1 (ln x4)) (cond (inb a2 (ln (ix x4 a1 zf).Guests)) (share (up x4 a1 ({ (ix x4 a1 zf) with Guests:=(up (ix x4 a1 zf).Guests a2 (zb1 ({ (ix (ix (zk a0).Mons a1 zf).Guests a2 zx) with Prog:=(ix (ix x4 a1 zf).Guests a2 zx).Prog,Written:=(ix (ix x4 a1 zf).Guests a2 zx).Written,Live:=(ix (ix x4 a1 zf).Guests a2 zx).Live,Seen:=(ix (ix x4 a1 zf).Guests a2 zx).Seen }:Guest) (ix (ix (zk a0).Mons a1 zf).Guests a2 zx).Ctl.Traps 5)) }:Mon)) (fun x5=>(some [(.agg (zbh ({ (zk a0) with Mons:=x5 }:Host))),(.one (.b true))]))) none) none)) none) (cond (inb a1 (ln x4)) (cond (inb a2 (ln (ix x4 a1 zf).Guests)) (share (up x4 a1 ({ (ix x4 a1 zf) with Guests:=(up (ix x4 a1 zf).Guests a2 (zb1 ({ (ix (ix (zk a0).Mons a1 zf).Guests a2 zx) with Prog:=(ix (ix x4 a1 zf).Guests a2 zx).Prog,Written:=(ix (ix x4 a1 zf).Guests a2 zx).Written,Live:=(ix (ix x4 a1 zf).Guests a2 zx).Live,Seen:=(ix (ix x4 a1 zf).Guests a2 zx).Seen }:Guest) (ix (ix (zk a0).Mons a1 zf).Guests a2 zx).Ctl.Traps 5)) }:Mon)) (fun x5=>(some [(.agg (zbh ({ (zk a0) with Mons:=x5 }:Host))),(.one (.b true))]))) none) none)) none)=some (zff (zjV (zfJ { a0 with Mons:=x4 } a1 (gOf a0 a1 a2) 5) a1 a2 (ziM (gOf a0 a1 a2) (gOf a0 a1 a2).Ctl.Traps 5),true)):=by
 rw[e];refine must (zbs hx) (br (fun h1=>must (zB g2) (br (fun h3=>?_) (fun h3=>?_))) (fun h1=>?_))
 .rw [zTw (h:={ a0 with Mons:=x4 }) (m:=a1) (x:=gOf a0 a1 a2) (w:=5) h1 rfl h3];refine must (zB g2) (must rfl (must (z3K h3) (must (zB g2) (must (zZm _) (shr (must (zB (zeq (h:={ a0 with Mons:=x4 }) g2)) (must ?_ rfl)))))));rw[zJr (h:={ a0 with Mons:=x4 }) g2];exact zB g3
 .rw [zOt (h:={ a0 with Mons:=x4 }) (m:=a1) (x:=gOf a0 a1 a2) (w:=5) h3];exact must (zB g2) (must (zB g3) rfl)
 .rw [z0r (h:={ a0 with Mons:=x4 }) (m:=a1) (x:=gOf a0 a1 a2) (w:=5) h1];exact must (zB g2) (must (zB g3) rfl)
theorem zDq (a0:Host)(a1 a2:Int)(hc:zus a0 a1 a2=true):∃N,zte N a0 a1 a2=some [aH (zuq a0 a1 a2),aB (zur a0 a1 a2)]:=by
 obtain ⟨hc,hw⟩:=zk1 hc;have hs:=(zJ a0).1 (zD.1 hc);refine ⟨0,?_⟩
 show _=some (zff (zbu a0 a1 a2))
 unfold zte oN nB
 conv=>zeta
 refine must (zbs ((zJ _).2 hs)) (must (zbs ((zJ _).2 hs)) (brN (fun hh=>?_) (fun hh=>?_)))
 .rw [zkY hh];rfl
 obtain ⟨g1,g2,g3⟩:=zdb hh;have hx:=znZ hs g2 g3;have hk:zS (gOf a0 a1 a2)=5:=qE hw;rw[ziJ hh,hk];refine must (zB g2) (must (zB g3) (must (zhF rfl hw) ?_))
 show _=some (zff (zuF a0 a1 a2 (gOf a0 a1 a2) 5,true))
 refine must (zB g2) (must rfl (br (fun h0=>must (zB g2) (br (fun h9=>must (zB g2) (must (zB g2) (shr ?_))) (fun h9=>?_))) (fun h0=>?_)))
 .rw [zml (zWm (h:=a0) (m:=a1) (x:=gOf a0 a1 a2) (w:=5) rfl h0 h9)];have eM:=zJr g2 { ix a0.Mons a1 mZ with Own:=zG .i64 (ix a0.Mons a1 mZ).Own 1 };refine z6X hx (zeq g2) ?_ ?_
  .show hasB a2 (ln (ix (up a0.Mons a1 _) a1 mZ).Guests)=true
   rw[eM];exact g3
  .show ix (ix (up a0.Mons a1 _) a1 mZ).Guests a2 gZ=_
   rw[eM];rfl
 .rw [zml (zWl (h:=a0) (m:=a1) (x:=gOf a0 a1 a2) (w:=5) h9)];exact z3L hx g2 g3
 .rw [zml (zWk (h:=a0) (m:=a1) (x:=gOf a0 a1 a2) (w:=5) h0)];exact z3L hx g2 g3
theorem zzp:vB 93 zDA:=kF3 zWO zq zb0 zh7 (zo []) zDq
theorem zDr (a0:Host)(a1 a2:Int)(hc:zuv a0 a1 a2=true):∃N,ztf N a0 a1 a2=some [aH (zut a0 a1 a2),aB (zuu a0 a1 a2)]:=by
 obtain ⟨hc,hw⟩:=zk1 hc;have hs:=(zJ a0).1 (zD.1 hc);refine ⟨0,?_⟩
 show _=some (zff (zbu a0 a1 a2))
 unfold ztf oN nB
 conv=>zeta
 refine must (zbs ((zJ _).2 hs)) (must (zbs ((zJ _).2 hs)) (brN (fun hh=>?_) (fun hh=>?_)))
 .rw [zkY hh];rfl
 obtain ⟨g1,g2,g3⟩:=zdb hh;have hx:=znZ hs g2 g3;have hk:zS (gOf a0 a1 a2)=6:=qE hw;rw[ziJ hh,hk];refine must (zB g2) (must (zB g3) (must (zhF rfl hw) ?_))
 show _=some (zff (zuF a0 a1 a2 (gOf a0 a1 a2) 6,true))
 rw[zml (z5L (h:=a0) (m:=a1) (x:=gOf a0 a1 a2)),zKd (w:=6) rfl];exact must (zbs hx) (br (fun h1=>must (zB g2) (must (zB g3) rfl)) (fun h1=>must (zB g2) (must (zB g3) rfl)))
theorem zzq:vB 93 zDB:=kF3 zWP zq zb0 zh7 (zo []) zDr
theorem z3M {a0:Host}{a1 a2:Int}(hx:SmG (gOf a0 a1 a2))(g2:hasB a1 (ln a0.Mons)=true)(g3:hasB a2 (ln (ix a0.Mons a1 mZ).Guests)=true) :
 (cond (zdu (ix (ix (zk a0).Mons a1 zf).Guests a2 zx) (ix (ix (zk a0).Mons a1 zf).Guests a2 zx).Ctl.Traps 7) (cond (zc3 (ix (ix (zk a0).Mons a1 zf).Guests a2 zx) (ix (ix (zk a0).Mons a1 zf).Guests a2 zx).Ctl.Traps 7) (cond (inb a1 (ln (zk a0).Mons)) (cond (inb a2 (ln (ix (zk a0).Mons a1 zf).Guests)) (share (up (zk a0).Mons a1 ({ (ix (zk a0).Mons a1 zf) with Guests:=(up (ix (zk a0).Mons a1 zf).Guests a2 (zb1 (ix (ix (zk a0).Mons a1 zf).Guests a2 zx) (ix (ix (zk a0).Mons a1 zf).Guests a2 zx).Ctl.Traps 7)) }:Mon)) (fun x4=>(some [(.agg (zbh ({ (zk a0) with Mons:=x4 }:Host))),(.one (.b true))]))) none) none) (cond (inb a1 (ln (zk a0).Mons)) (cond (inb a2 (ln (ix (zk a0).Mons a1 zf).Guests)) (share (up (zk a0).Mons a1 ({ (ix (zk a0).Mons a1 zf) with Guests:=(up (ix (zk a0).Mons a1 zf).Guests a2 (zb1 (ix (ix (zk a0).Mons a1 zf).Guests a2 zx) (ix (ix (zk a0).Mons a1 zf).Guests a2 zx).Ctl.Traps 7)) }:Mon)) (fun x4=>(some [(.agg (zbh ({ (zk a0) with Mons:=x4 }:Host))),(.one (.b true))]))) none) none)) none)=some (zff (zjV a0 a1 a2 (ziM (gOf a0 a1 a2) (gOf a0 a1 a2).Ctl.Traps 7),true)) :=
 must (zbs hx) (br (fun h1=>must (zB g2) (must (zB g3) rfl)) (fun h1=>must (zB g2) (must (zB g3) rfl)))
theorem z6Y {a0:Host}{x4:List Mon}{a1 a2:Int}(hx:SmG (gOf a0 a1 a2))(g2:hasB a1 (ln x4)=true)(g3:hasB a2 (ln (ix x4 a1 mZ).Guests)=true)(e:(ix (ix x4 a1 zf).Guests a2 zx)=gOf a0 a1 a2) :
 (cond (zdu ({ (ix (ix (zk a0).Mons a1 zf).Guests a2 zx) with Prog:=(ix (ix x4 a1 zf).Guests a2 zx).Prog,Written:=(ix (ix x4 a1 zf).Guests a2 zx).Written,Live:=(ix (ix x4 a1 zf).Guests a2 zx).Live,Seen:=(ix (ix x4 a1 zf).Guests a2 zx).Seen }:Guest) (ix (ix (zk a0).Mons a1 zf).Guests a2 zx).Ctl.Traps 7) (cond (zc3 ({ (ix (ix (zk a0).Mons a1 zf).Guests a2 zx) with Prog:=(ix (ix x4 a1 zf).Guests a2 zx).Prog,Written:=(ix (ix x4 a1 zf).Guests a2 zx).Written,Live:=(ix (ix x4 a1 zf).Guests a2 zx).Live,Seen:=(ix (ix x4 a1 zf).Guests a2 zx).Seen }:Guest) (ix (ix (zk a0).Mons a1 zf).Guests a2 zx).Ctl.Traps 7) (cond (inb a1 (ln x4)) (cond (inb a2 (ln (ix x4 a1 zf).Guests)) (share (up x4 a1 ({ (ix x4 a1 zf) with Guests:=(up (ix x4 a1 zf).Guests a2 (zb1 ({ (ix (ix (zk a0).Mons a1 zf).Guests a2 zx) with Prog:=(ix (ix x4 a1 zf).Guests a2 zx).Prog,Written:=(ix (ix x4 a1 zf).Guests a2 zx).Written,Live:=(ix (ix x4 a1 zf).Guests a2 zx).Live,Seen:=(ix (ix x4 a1 zf).Guests a2 zx).Seen }:Guest) (ix (ix (zk a0).Mons a1 zf).Guests a2 zx).Ctl.Traps 7)) }:Mon)) (fun x5=>(some [(.agg (zbh ({ (zk a0) with Mons:=x5 }:Host))),(.one (.b true))]))) none) none) (cond (inb a1 (ln x4)) (cond (inb a2 (ln (ix x4 a1 zf).Guests)) (share (up x4 a1 ({ (ix x4 a1 zf) with Guests:=(up (ix x4 a1 zf).Guests a2 (zb1 ({ (ix (ix (zk a0).Mons a1 zf).Guests a2 zx) with Prog:=(ix (ix x4 a1 zf).Guests a2 zx).Prog,Written:=(ix (ix x4 a1 zf).Guests a2 zx).Written,Live:=(ix (ix x4 a1 zf).Guests a2 zx).Live,Seen:=(ix (ix x4 a1 zf).Guests a2 zx).Seen }:Guest) (ix (ix (zk a0).Mons a1 zf).Guests a2 zx).Ctl.Traps 7)) }:Mon)) (fun x5=>(some [(.agg (zbh ({ (zk a0) with Mons:=x5 }:Host))),(.one (.b true))]))) none) none)) none)=some (zff (zjV { a0 with Mons:=x4 } a1 a2 (ziM (gOf a0 a1 a2) (gOf a0 a1 a2).Ctl.Traps 7),true)):=by
 rw[e];exact must (zbs hx) (br (fun h1=>must (zB g2) (must (zB g3) rfl)) (fun h1=>must (zB g2) (must (zB g3) rfl)))
theorem zDs (a0:Host)(a1 a2:Int)(hc:zuy a0 a1 a2=true):∃N,ztg N a0 a1 a2=some [aH (zuw a0 a1 a2),aB (zux a0 a1 a2)]:=by
 obtain ⟨hc,hw⟩:=zk1 hc;have hs:=(zJ a0).1 (zD.1 hc);refine ⟨0,?_⟩
 show _=some (zff (zbu a0 a1 a2))
 unfold ztg oN nB
 conv=>zeta
 refine must (zbs ((zJ _).2 hs)) (must (zbs ((zJ _).2 hs)) (brN (fun hh=>?_) (fun hh=>?_)))
 .rw [zkY hh];rfl
 obtain ⟨g1,g2,g3⟩:=zdb hh;have hx:=znZ hs g2 g3;have hk:zS (gOf a0 a1 a2)=7:=qE hw;rw[ziJ hh,hk];refine must (zB g2) (must (zB g3) (must (zhF rfl hw) ?_))
 show _=some (zff (zuF a0 a1 a2 (gOf a0 a1 a2) 7,true))
 refine must (zB g2) (must rfl (br (fun h0=>must (zB g2) (br (fun h9=>must (zB g2) (must (zB g2) (shr ?_))) (fun h9=>?_))) (fun h0=>?_)))
 .rw [zml (zWm (h:=a0) (m:=a1) (x:=gOf a0 a1 a2) (w:=7) rfl h0 h9),zKd (w:=7) rfl];have eM:=zJr g2 { ix a0.Mons a1 mZ with Own:=zG .i64 (ix a0.Mons a1 mZ).Own 1 };refine z6Y hx (zeq g2) ?_ ?_
  .show hasB a2 (ln (ix (up a0.Mons a1 _) a1 mZ).Guests)=true
   rw[eM];exact g3
  .show ix (ix (up a0.Mons a1 _) a1 mZ).Guests a2 gZ=_
   rw[eM];rfl
 .rw [zml (zWl (h:=a0) (m:=a1) (x:=gOf a0 a1 a2) (w:=7) h9),zKd (w:=7) rfl];exact z3M hx g2 g3
 .rw [zml (zWk (h:=a0) (m:=a1) (x:=gOf a0 a1 a2) (w:=7) h0),zKd (w:=7) rfl];exact z3M hx g2 g3
theorem zzr:vB 93 zDC:=kF3 zWQ zq zb0 zh7 (zo []) zDs
def zoF:List AV->Option (Bool×List AV)
 | [.agg [.s (.sl .int) b,.s .mon c,.s .entry d,.s .entry e],.one (.i .i64 f),.one (.i .i64 g)]=>some ((zd9 (⟨b,c,d,e⟩:Host) f g),[aH (zBW (⟨b,c,d,e⟩:Host) f g),aB (zBX (⟨b,c,d,e⟩:Host) f g)])
 | _=>none
theorem zFY:vB 93 zoF:=by
 refine ⟨zn6.1,fun w avs xs rs hrep h=>?_⟩;unfold zoF at h;split at h
 .rename_i a0_0 a0_1 a0_2 a0_3 a1 a2;obtain ⟨hc,rfl⟩:=zdM h;rcases z2q (gOf (⟨a0_0,a0_1,a0_2,a0_3⟩:Host) a1 a2) with e|e|e|e|e|e|e|e
  .exact zn6.2 w _ xs _ hrep (congrArg (fun c=>some (c,zff (zbu (⟨a0_0,a0_1,a0_2,a0_3⟩:Host) a1 a2))) (zhF hc e))
  .exact zzl.2 w _ xs _ hrep (congrArg (fun c=>some (c,zff (zbu (⟨a0_0,a0_1,a0_2,a0_3⟩:Host) a1 a2))) (zhF hc e))
  .exact zzm.2 w _ xs _ hrep (congrArg (fun c=>some (c,zff (zbu (⟨a0_0,a0_1,a0_2,a0_3⟩:Host) a1 a2))) (zhF hc e))
  .exact zzn.2 w _ xs _ hrep (congrArg (fun c=>some (c,zff (zbu (⟨a0_0,a0_1,a0_2,a0_3⟩:Host) a1 a2))) (zhF hc e))
  .exact zzo.2 w _ xs _ hrep (congrArg (fun c=>some (c,zff (zbu (⟨a0_0,a0_1,a0_2,a0_3⟩:Host) a1 a2))) (zhF hc e))
  .exact zzp.2 w _ xs _ hrep (congrArg (fun c=>some (c,zff (zbu (⟨a0_0,a0_1,a0_2,a0_3⟩:Host) a1 a2))) (zhF hc e))
  .exact zzq.2 w _ xs _ hrep (congrArg (fun c=>some (c,zff (zbu (⟨a0_0,a0_1,a0_2,a0_3⟩:Host) a1 a2))) (zhF hc e))
  .exact zzr.2 w _ xs _ hrep (congrArg (fun c=>some (c,zff (zbu (⟨a0_0,a0_1,a0_2,a0_3⟩:Host) a1 a2))) (zhF hc e))
 .cases h
def z3u:zO:=[(93,zoF)]++zlG
theorem z1a:zF z3u:=zh zFY zhr
def z3v:zO:=z3u
theorem z1b:zF z3v:=z1a
def brought (n a b:Int):Int:=bif ilt n a then a else (cond (ilt b a) a (zLx n b))
@[simp] abbrev zpp (_ _ _:Int):Bool:=true
@[simp] abbrev zp7 (n a b:Int):Int:=brought n a b
def zqF:Run:=rF3 dI dI dI fun b c d=>(zpp b c d,[aI (zp7 b c d)])
def zDR (N:Nat)(a0 a1 a2:Int):OA:=
 (cond (ilt a2 a1) (some [(aI a1)]) (cond (ilt a0 a1) (some [(aI a1)]) (cond (igt a0 a2) (some [(aI a2)]) (some [(aI a0)]))))
theorem zPd (a0 a1 a2:Int)(hc:zpp a0 a1 a2=true):∃N,zDR N a0 a1 a2=some [aI (zp7 a0 a1 a2)]:=by
 refine ⟨0,?_⟩;unfold zDR;unfold zp7 brought zLx;cases h1:ilt a2 a1<;>cases h2:ilt a0 a1<;>cases h3:igt a0 a2<;>simp [igt] at * <;> omega
theorem ztA:vB 125 zqF:=kF3 zrX zq zl zn (zo []) zPd
structure RI (a:List Bare) (i:Nat) (l:List Bare):Prop where
 len:l.length=a.length
 sm:zWv l
 eq:∀k,i<=k->l[k]?=a[k]?
theorem RI.up {a l:List Bare}{i:Nat}(h:RI a i l)(x:Bare)(hx:SmB x):RI a (i+1) (up l (i:Int) x) :=
 ⟨by rw[zfE];exact h.len,z5F h.sm hx,fun k hk=>by rw[z6s (by omega)];exact h.eq k (by omega)⟩
structure RJ (l:List Bare) (i:Nat) (l':List Bare):Prop where
 len:l'.length=l.length
 sm:SmB (ix l' (i:Int) zKt)
 up:∀x,E.up l' (i:Int) x=E.up l (i:Int) x
theorem RJ.next {l l':List Bare}{i:Nat}(h:RJ l i l')(hi:i<l.length)(x:Bare)(hx:SmB x):RJ l i (E.up l' (i:Int) x) :=
 ⟨by rw[zfE];exact h.len,by rw[zdx (by rw[h.len];exact hi)];exact hx,fun y=>by rw[zpO];exact h.up y⟩
def zYU:zO:=z3v
theorem zYV:zF zYU:=z1b
theorem zTg {h:Host}{m:Int}(hs:SmH h)(hm:hasB m (ln h.Mons)=true):SmB (zA h m):=by
 have g1:=hs.2.1.2 _ (zbq hm mZ);have hP:∀(mm:List (List Int)) (q:Int),SmM mm->(zb5 mm q).length<=1048576:=fun mm q h=>zTi h;have hpg:∀p:Int,(zbY h m p).length<=1048576:=by
  intro p;unfold zbY;cases hasB m (ln h.Mons)
  .exact (by decide:zx6.length<=1048576)
  .cases hasB p 8
   .exact (by decide:zx6.length<=1048576)
   .simp only [cT];cases ine (zbl (ix h.Mons m zf).Outer p).Page (-1)
    .exact hP _ _ g1.2.1
    .exact hP _ _ hs.1
 have hN:∀(n i:Nat),∀x∈zca h m n i,x.length<=1048576:=by
  intro n
  induction n with
  | zero=>intro i x hx;cases hx
  | succ n ih =>
   intro i x hx;rcases qH.1 hx with rfl|hx
   .exact hpg _
   .exact ih (i+1) x hx
 unfold zA;rw[hm];exact ⟨⟨by show (zca h m 8 0).length<=1048576;rw[zxG];decide,hN 8 0⟩,g1.2.2.2.1,g1.2.2.2.2.1⟩
def z3w:zO:=zYU
theorem z1c:zF z3w:=zYV
def z3x:zO:=[(125,zqF)]++z3w
theorem z1d:zF z3x:=zh ztA z1c
def cnt (l:List Mon):List Nat:=l.map fun x=>x.Guests.length
theorem z5Y {l l':List Mon}(h:zdI l'=zdI l):cnt l'=cnt l:=by
 have e:∀l:List Mon,cnt l=(zdI l).map List.length:=fun l=>by simp[cnt,zdI]
 rw[e,e,h]
theorem zQI {l:List Mon}{m:Int}{x:Mon}(hm:hasB m (ln l)=true)(hx:x.Guests.length=(ix l m mZ).Guests.length):cnt (up l m x)=cnt l:=by
 obtain ⟨k,rfl,hk⟩:=zdA (n:=l.length) hm;unfold cnt up;rw[List.map_set,kU,hx,zba hk];have:=@uT _ (l.map fun x=>x.Guests.length) k (by simpa using hk)
 simpa using this
theorem z4o {l l':List Mon}(h:cnt l'=cnt l):l'.length=l.length:=by
 have:=congrArg List.length h;simpa [cnt] using this
theorem z5Z {l l':List Mon}(h:cnt l'=cnt l)(m:Int):(ix l' m mZ).Guests.length=(ix l m mZ).Guests.length:=by
 have h2:(cnt l')[m.toNat]?=(cnt l)[m.toNat]?:=by rw[h]
 unfold cnt at h2;rw[qM,qM]at h2;unfold ix;simp only[j7];cases h3:l'[m.toNat]? <;> cases h4:l[m.toNat]? <;> rw [h3,h4]at h2<;>simp at h2 ⊢;exact h2
theorem z5m (h:Host)(m p:Int):(zcO h m p).Memory=h.Memory:=(zgE (zd2 h m p) m p noSlot).2
theorem z5l (h:Host):(zcS h).Memory=h.Memory:=by
 unfold zcS;cases ieq (ln (zby h)) 0
 .rfl
 .exact z5m _ _ _
theorem z5k (m:List (List Int))(p:Int)(c:List Int):(zgK m p c).length=m.length:=by
 unfold zgK;cases hasB p (ln m)
 .rfl
 .cases zb6 c
  .rfl
  .simp
theorem z5i (m:List (List Int))(p c v:Int):(zbx m p c v).length=m.length:=by
 unfold zbx;cases zha m p c
 .rfl
 .cases win v 0 99
  .rfl
  .simp
theorem zXr (h:Host)(m p:Int):(fetched h m p).Memory.length=h.Memory.length:=by
 unfold fetched zdZ;rw[(zgE _ _ _ _).2];unfold landing;rw[z5k,z5l]
theorem zSA (h:Host)(m p n:Int):(zky h m p n).Memory=h.Memory:=by
 unfold zky;cases ieq (wand .i64 n 2) 0
 .unfold opened;cases ieq (wand .i64 (ix (ix (zb2 h m p).Mons m mZ).Outer p sZ).Rights 2) 0
  .rfl
  .exact (zgE _ _ _ _).2
 .rfl
theorem zZG (h:Host)(m p n:Int):(mended h m p n).Memory.length=h.Memory.length:=by
 unfold mended;cases ieq (ix (ix h.Mons m mZ).Outer p sZ).Page (-1)
 .exact congrArg List.length (zSA _ _ _ _)
 .exact (congrArg List.length (zSA _ _ _ _)).trans (zXr _ _ _)
theorem zZH (h:Host)(m g p:Int)(io:Bool):(ztI h m g p io).Memory=h.Memory:=by cases io<;>rfl
theorem z1F (h:Host)(b:List Entry)(m g page need q:Int)(io:Bool):(zg8 h b m g page need q io).1.Memory.length=h.Memory.length:=by
 unfold zg8;cases zgR b m g page need
 .cases zeu h m g page need
  .exact congrArg List.length (zZH _ _ _ _ _)
  .exact (congrArg List.length (zZH _ _ _ _ _)).trans (zZG h m q need)
 .rfl
theorem z5j (h:Host)(b:List Entry)(m g page need:Int)(io:Bool):(lookOf h b m g page need io).1.Memory.length=h.Memory.length:=by
 unfold lookOf;cases zbS h m g page need
 .rfl
 .simp only [cT];rw[z1F];cases ieq need 2<;>rfl
structure Keep (h r:Host):Prop where
 shape:Shape r
 cnt:cnt r.Mons=cnt h.Mons
 mem:r.Memory.length=h.Memory.length
theorem Keep.has {h r:Host}(k:Keep h r){m:Int}(hm:hasB m (ln h.Mons)=true):hasB m (ln r.Mons)=true:=by
 rw[ln,z4o k.cnt];exact hm
theorem Keep.hg {h r:Host}(k:Keep h r){m g:Int}(hg:hasB g (ln (ix h.Mons m mZ).Guests)=true):hasB g (ln (ix r.Mons m mZ).Guests)=true:=by
 rw[ln,z5Z k.cnt];exact hg
theorem Keep.trans {a b c:Host}(h:Keep a b)(k:Keep b c):Keep a c:=⟨k.shape,k.cnt.trans h.cnt,k.mem.trans h.mem⟩
theorem Keep.rfl' {h:Host}(hs:Shape h):Keep h h:=⟨hs,rfl,rfl⟩
theorem zmu {h:Host}{m g:Int}{x:Guest}(hs:Shape h)(hm:hasB m (ln h.Mons)=true)(hx:SmG x):Keep h (zjV h m g x):=⟨zX0 hs hm hx,zQI hm (by simp),rfl⟩
theorem zAV {h:Host}{b:List Entry}{m g page need:Int}{io:Bool}(hs:SmH h)(hh:zbJ h m g=true):Keep h (lookOf h b m g page need io).1:=by
 have k:=zvQ (b:=b) (page:=page) (need:=need) (io:=io) hs hh;exact ⟨k.shape,z5Y k.gs,z5j _ _ _ _ _ _ _⟩
theorem zZr {h:Host}{p c v:Int}(hs:Shape h):Keep h { h with Memory:=zbx h.Memory p c v }:=⟨zOo hs (zx2 hs.1.1),rfl,z5i _ _ _ _⟩
theorem zXj {h:Host}{m:Int}(hs:Shape h)(hm:hasB m (ln h.Mons)=true):Keep h (owned h m):=by
 obtain ⟨g1,g2⟩:=zcJ hs hm;unfold owned;cases ilt (ix h.Mons m mZ).Own 1000000000
 .exact Keep.rfl' hs
 .exact ⟨ziH hs g1 g2,zQI hm rfl,rfl⟩
theorem zXi {h:Host}{m n:Int}(hs:Shape h)(hm:hasB m (ln h.Mons)=true):Keep h (zng h m n):=by
 obtain ⟨g1,g2⟩:=zcJ hs hm;unfold zng;cases h3:ilt (ln (ix h.Mons m mZ).Outs) 40
 .exact Keep.rfl' hs
 .have h4:=qE h3;simp only[ln]at h4;refine ⟨ziH hs ⟨g1.1,g1.2.1,g1.2.2.1,g1.2.2.2.1,?_,g1.2.2.2.2.2⟩ g2,zQI hm rfl,rfl⟩;simp[ap];omega
theorem zZt {h:Host}{m g:Int}{x:Guest}{w:Int}(hs:Shape h)(hm:hasB m (ln h.Mons)=true)(hx:SmG x):Keep h (zuF h m g x w):=by
 have k1:Keep h (zfK h m x w):=by
  unfold zfK;cases (cond (ine w 6) (ieq (zxD (ix h.Mons m mZ).Traps x.Ctl.Traps (zwM w)) 2) false)
  .exact Keep.rfl' hs
  .exact zXj hs hm
 have k2:Keep (zfK h m x w) (zfJ (zfK h m x w) m x w):=by
  unfold zfJ;cases (cond (zjt x.Ctl.Traps w) (ieq w 5) false)
  .exact Keep.rfl' k1.shape
  .exact zXi k1.shape (k1.has hm)
 have k3:=k1.trans k2;exact k3.trans (zmu k3.shape (k3.has hm) (zB5 _ _ hx))
theorem zZs {h:Host}{m g:Int}(hs:SmH h)(hh:zbJ h m g=true):Keep h (zbu h m g).1:=by
 obtain ⟨g1,g2,g3⟩:=zdb hh;have hx:=znZ hs g2 g3;have hS:=(zdS hs g1).1;rw[ziJ hh];unfold zTn;cases ieq (zS (gOf h m g)) 0
 .cases ieq (zS (gOf h m g)) 1
  .cases ieq (zS (gOf h m g)) 2
   .cases (cond (ieq (zS (gOf h m g)) 3) true (ieq (zS (gOf h m g)) 4))
    .exact zZt hS g2 hx
    .have k:=zAV (b:=h.Buffer) (page:=zbe (address (gOf h m g))) (need:=zbX (ieq (zS (gOf h m g)) 4)) (io:=false) hs hh
     show Keep h (ziL (zlK h m g (gOf h m g) (ieq (zS (gOf h m g)) 4)) m g (gOf h m g) (ieq (zS (gOf h m g)) 4))
     unfold ziL;cases (zlK h m g (gOf h m g) (ieq (zS (gOf h m g)) 4)).2.2
     .exact k.trans (zmu k.shape (k.has g2) hx)
     .cases ieq (zS (gOf h m g)) 4
      .have k:=zAV (b:=h.Buffer) (page:=zbe (address (gOf h m g))) (need:=zbX false) (io:=false) hs hh;exact k.trans (zmu k.shape (k.has g2) (zJ1 _ hx))
      .have k:=zAV (b:=h.Buffer) (page:=zbe (address (gOf h m g))) (need:=zbX true) (io:=false) hs hh;have k2:=zZr (p:=(zlK h m g (gOf h m g) true).2.1) (c:=zcU (address (gOf h m g))) (v:=(gOf h m g).A) k.shape;have k3:=k.trans k2;exact k3.trans (zmu k3.shape (k3.has g2) (zkc hx))
   .exact zmu hS g2 (zE6 hx)
  .exact zmu hS g2 (zWb hx)
 .exact Keep.rfl' hS
structure Same (h r:Host):Prop where
 sm:SmH r
 cnt:cnt r.Mons=cnt h.Mons
 mem:r.Memory.length=h.Memory.length
 st:r=h\/Shape r
theorem Same.rfl' {h:Host}(hs:SmH h):Same h h:=⟨hs,rfl,rfl,.inl rfl⟩
theorem Same.trans {a b c:Host}(h:Same a b)(k:Same b c):Same a c:=⟨k.sm,k.cnt.trans h.cnt,k.mem.trans h.mem,by
 rcases k.st with e|e
 .rw [e];exact h.st
 .exact .inr e⟩
theorem zZ9 {h:Host}(m g:Int)(hs:SmH h):Same h (zbu h m g).1:=by
 cases hh:zbJ h m g
 .rw [zkY hh];exact Same.rfl' hs
 .have k:=zZs hs hh;exact ⟨k.shape.1,k.cnt,k.mem,.inr k.shape⟩
def z3y:zO:=[(125,zqF)]++zWI
theorem zrZ:zF z3y:=zh ztA zrX
theorem zQD {a b:Bool}(h:(a=true)↔(b=true)):a=b:=by cases a<;>cases b<;>simp_all
@[simp] theorem z6L (x:Int):win x 0 3=hasB x 4:=zQD (by rw[zfQ];unfold hasB;rw[decide_eq_true_iff];omega)
@[simp] theorem z0y (x:Int):win x 0 7=hasB x 8:=zQD (by rw[zfQ];unfold hasB;rw[decide_eq_true_iff];omega)
def zdO (t:List Slot)(p:Int)(s:Slot):List Slot:=bif hasB p (ln t) then up t p s else t
@[simp] theorem z6M (t:List Slot)(p:Int)(s:Slot):(zdO t p s).length=t.length:=by
 unfold zdO;cases hasB p (ln t)<;>simp
@[simp] abbrev znT (t:List Slot)(p:Int)(s:Slot):Bool:=pc (t.length<=1048576)
@[simp] abbrev zkT (t:List Slot)(p:Int)(s:Slot):List Slot:=zdO t p s
def zwy:Run:=rF3 (dS .slot) dI (dT .slot) fun b c d=>(znT b c d,[aS .slot (zkT b c d)])
def zz4 (N:Nat)(a0:lS)(a1:Int)(a2:Slot):OA:=
 (oN (few (ln (ap [] a0))) (oN (zI a1 0 (wsub .i64 (ln a0) 1)) (cond (zL a1 0 (wsub .i64 (ln a0) 1)) (oN (inb a1 (ln (ap [] a0))) (share (up (ap [] a0) a1 a2) (fun x4=>(some [(aS .slot x4)])))) (some [(aS .slot (ap [] a0))]))))
theorem zMb (a0:List Slot)(a1:Int)(a2:Slot)(hc:znT a0 a1 a2=true):∃N,zz4 N a0 a1 a2=some [aS .slot (zkT a0 a1 a2)]:=by
 have hs:=zD.1 hc;refine ⟨0,?_⟩;unfold zz4 oN;refine mu (must rfl (br (fun _=>mu (shr ?_)) (fun _=>?_)))
 all_goals first|rfl|(simp only [*,zkT,zdO,cT,cF]<;>rfl)|simp_all[Ty.cells,zkT,zdO]
theorem zGa:vB 195 zwy:=kF3 zrZ zq zl zn (zo []) zMb
def zfA (p n:Int):Bool:=bif zcK p then win n 0 7 else false
def zri (p n:Int):Int:=bif zfA p n then wor .i64 p (zn2 .i64 1 n) else p
theorem cv7 {n:Int}(h:hasB n 8=true):wcv .u64 n=n/\ile 0 n=true:=by
 have:=qE h;exact ⟨zWr (by omega) (by omega),qI (by omega)⟩
@[simp] abbrev zje (p n:Int):Bool:=true
@[simp] abbrev zgc (p n:Int):Int:=zri p n
@[simp] abbrev zlw (p n:Int):Bool:=zfA p n
def zyW:Run:=rF2 dI dI fun b c=>(zje b c,[aI (zgc b c),aB (zlw b c)])
def zD5 (N:Nat)(a0 a1:Int):OA:=
 (oN (zeU a0) (cond (nB (zeT a0)) (some [(aI a0),(aB false)]) (oN (zI a1 0 7) (cond (nB (zL a1 0 7)) (some [(aI a0),(aB false)]) (oN (ile 0 (wcv .u64 a1)) (some [(aI (wor .i64 a0 (zn2 .i64 1 (wcv .u64 a1)))),(aB true)]))))))
theorem zPs (a0 a1:Int)(hc:zje a0 a1=true):∃N,zD5 N a0 a1=some [aI (zgc a0 a1),aB (zlw a0 a1)]:=by
 have hw:=@cv7 a1;refine ⟨0,?_⟩;unfold zD5 oN nB;refine must rfl (brN (fun _=>?_) (fun _=>must rfl (brN (fun _=>?_) (fun _=>mu ?_))))
 all_goals first|rfl|(simp only [*,zgc,zlw,zri,zfA,cT,cF]<;>rfl)|simp_all[Ty.cells,zgc,zlw,zri,zfA]
theorem zIB:vB 198 zyW:=kF2 zrZ zq zl zn (zo []) zPs
def posts (c:Ctl)(n:Int):Bool:=bif zgL c then (cond (win n 0 7) (ieq (wand .i64 (zCf .i64 c.Post n) 1) 1) false) else false
@[simp] abbrev zB0 (c:Ctl)(n:Int):Bool:=true
@[simp] abbrev zwG (c:Ctl)(n:Int):Bool:=posts c n
def zEV:Run:=rF2 dC dI fun b c=>(zB0 b c,[aB (zwG b c)])
def zNl (N:Nat)(a0:Ctl)(a1:Int):OA:=
 (oN (zp8 a0) (cond (zoK a0) (oN (zI a1 0 7) (cond (zL a1 0 7) (oN (ile 0 (wcv .u64 a1)) (some [(aB (ieq (wand .i64 (zCf .i64 a0.Post (wcv .u64 a1)) 1) 1))])) oF)) oF))
theorem zUz (a0:Ctl)(a1:Int)(hc:zB0 a0 a1=true):∃N,zNl N a0 a1=some [aB (zwG a0 a1)]:=by
 have hw:=@cv7 a1;refine ⟨0,?_⟩;unfold zNl oN;refine must rfl (br (fun _=>must rfl (br (fun _=>mu ?_) (fun _=>?_))) (fun _=>?_))
 all_goals first|rfl|(simp only [*,zwG,posts,cT,cF]<;>rfl)|simp_all[Ty.cells,zwG,posts]
theorem zOS:vB 224 zEV:=kF2 zrZ zq zl zn (zo []) zUz
def zbZ (b:Bare)(g:Int):Bool:=bif zbV b then hasB g (ln b.Guests) else false
theorem zdf {b:Bare}{g:Int}:(zbZ b g=true)↔zbV b=true/\hasB g (ln b.Guests)=true:=by
 unfold zbZ;cases zbV b<;>simp
@[simp] abbrev zic (b:Bare)(g:Int):Bool:=pc (SmB b)
@[simp] abbrev zjj (b:Bare)(g:Int):Bool:=zbZ b g
def zEY:Run:=rF2 (dT .bare) dI fun b c=>(zic b c,[aB (zjj b c)])
def zNo (N:Nat)(a0:Bare)(a1:Int):OA:=
 (oN (znv a0) (cond (zeo a0) (oN (zI a1 0 (wsub .i64 (ln a0.Guests) 1)) (some [(aB (zL a1 0 (wsub .i64 (ln a0.Guests) 1)))])) oF))
theorem zUC (a0:Bare)(a1:Int)(hc:zic a0 a1=true):∃N,zNo N a0 a1=some [aB (zjj a0 a1)]:=by
 have hs:=zD.1 hc;have hl:a0.Guests.length<=1048576:=hs.2.1.1
 refine ⟨0,?_⟩;unfold zNo oN;refine must rfl (br (fun _=>must rfl ?_) (fun _=>?_))
 all_goals first|rfl|(simp only [*,zjj,zbZ,cT,cF]<;>rfl)|simp_all[Ty.cells,zjj,zbZ]
theorem zOV:vB 193 zEY:=kF2 zrZ zq zl zn (zo []) zUC
def z3z:zO:=[(195,zwy),(198,zyW),(224,zEV),(193,zEY)]++z3y
theorem zjD:zF z3z:=zh zGa (zh zIB (zh zOS (zh zOV zrZ)))
theorem z2p {α:Type}{l:List α}{i:Int}{d:α}(h:hasB i (ln l)=true):up l i (ix l i d)=l:=by
 obtain ⟨k,rfl,hk⟩:=zdA (n:=l.length) h;unfold up;rw[zba hk,kU];exact uT hk
theorem zr3 {b:Bare}{g:Int}(h:hasB g (ln b.Guests)=true):gAt b g=ix b.Guests g zx:=by
 unfold gAt;rw[h];rfl
theorem z0a {b:Bare}{g:Int}(h:hasB g (ln b.Guests)=true):zdW b g (gAt b g)=b:=by
 unfold zdW;rw[zr3 h,z2p h]
def chg (b:Bare)(g:Int)(c:Bool)(x:Guest):Bare:=bif (cond (zbZ b g) c false) then zdW b g x else b
def zbM (b:Bare)(g:Int)(c:Bool):Bool:=bif zbZ b g then c else false
def zqS (p:Int)(s:Slot):Bool:=bif hasB p 4 then zde s 8 else false
def zx0 (x:Guest)(p:Int)(s:Slot):Guest:={ x with Written:=zdO x.Written p s }
def zdo (x:Guest)(p:Int):Guest:={ x with Live:=zdO x.Live p (zbl x.Written p) }
def zjR:GExit:=⟨0,0,false,0⟩
def zqm (x:Guest)(v:Int):Bool:=bif win v 0 99 then (cond (ieq x.Exit.Kind 2) true (ieq x.Exit.Kind 3)) else false
def zuJ (x:Guest)(v:Int):Guest:=zbW (stopped (cond (ieq x.Exit.Kind 2) { x with A:=v } x) zjR)
def zuT (x:Guest):Bool:=bif ieq x.Exit.Kind 1 then true else ieq x.Exit.Kind 4
def zuU (x:Guest):Guest:=bif ieq x.Exit.Kind 1 then stopped x zjR else held (stopped x zjR)
def zl2 (x:Guest)(n:Int):Guest:={ x with Pending:=zri x.Pending n }
def zFo (x:Guest)(c:Ctl):Guest:={ x with Ctl:=c }
theorem z5c {x:Guest}{n:Int}(h:zfA x.Pending n=false):zl2 x n=x:=by
 unfold zl2 zri;rw[h];rfl
theorem z2c {x:Guest}(p:Int)(s:Slot)(h:SmG x):SmG (zx0 x p s):=⟨h.1,by simpa [zx0] using h.2.1,h.2.2.1,h.2.2.2⟩
theorem zJ0 {x:Guest}(p:Int)(h:SmG x):SmG (zdo x p):=⟨h.1,h.2.1,by simpa [zdo] using h.2.2.1,h.2.2.2⟩
theorem z19 {x:Guest}(v:Int)(h:SmG x):SmG (zuJ x v):=by
 unfold zuJ;cases ieq x.Exit.Kind 2<;>exact zkc h
theorem z2a {x:Guest}(h:SmG x):SmG (zuU x):=by
 unfold zuU;cases ieq x.Exit.Kind 1
 .exact zTh (g:=stopped x zjR) h
 .exact h
theorem zoU {b:Bare}{g:Int}{c:Bool}{x:Guest}(h:SmB b)(hx:SmG x):SmB (chg b g c x):=by
 unfold chg;cases (cond (zbZ b g) c false)
 .exact h
 .exact zmi h hx
@[simp] abbrev zpo (b:Bare)(g p:Int)(s:Slot):Bool:=pc (SmB b)
@[simp] abbrev zhz (b:Bare)(g p:Int)(s:Slot):Bare:=chg b g (zqS p s) (zx0 (gAt b g) p s)
@[simp] abbrev zjd (b:Bare)(g p:Int)(s:Slot):Bool:=zbM b g (zqS p s)
def zqE:Run:=rF4 (dT .bare) dI dI (dT .slot) fun b c d e=>(zpo b c d e,[aT .bare (zhz b c d e),aB (zjd b c d e)])
def zDQ (N:Nat)(a0:Bare)(a1 a2:Int)(a3:Slot):OA:=
 let y0:=(zb8 a0);let y1:=(ix y0.Guests a1 zx); (oN (zeB a0) (oN (zic y0 a1) (cond (nB (zjj y0 a1)) (some [(aT .bare y0),(aB false)]) (oN (zI a2 0 3) (cond (nB (zL a2 0 3)) (some [(aT .bare y0),(aB false)]) (oN (zrr a3 8) (cond (nB (zoO a3 8)) (some [(aT .bare y0),(aB false)]) (oN (inb a1 (ln y0.Guests)) (oN (znT y1.Written a2 a3) (oN (inb a1 (ln y0.Guests)) (share (up y0.Guests a1 ({ y1 with Written:=(zkT y1.Written a2 a3) }:Guest)) (fun x5=>(some [(aT .bare ({ y0 with Guests:=x5 }:Bare)),(aB true)])))))))))))))
theorem zPc (a0:Bare)(a1 a2:Int)(a3:Slot)(hc:zpo a0 a1 a2 a3=true):∃N,zDQ N a0 a1 a2 a3=some [aT .bare (zhz a0 a1 a2 a3),aB (zjd a0 a1 a2 a3)]:=by
 have hs:=zD.1 hc;have hx:=zi0 a1 hs;have hz:zbZ a0 a1=true->hasB a1 (ln a0.Guests)=true:=fun h=>(zdf.1 h).2;have hz2:zbZ a0 a1=true->gAt a0 a1=ix a0.Guests a1 zx:=fun h=>zr3 (zdf.1 h).2;have hw:=hx.2.1
 refine ⟨0,?_⟩;unfold zDQ oN nB
 conv=>zeta
 refine mu (mu (brN (fun _=>?_) (fun _=>must rfl (brN (fun _=>?_) (fun _=>must rfl (brN (fun _=>?_) (fun _=>mu (mu (mu (shr ?_))))))))))
 all_goals first|rfl|(simp only [*,zhz,zjd,chg,zbM,zqS,zx0,zdW,cT,cF]<;>rfl)|simp_all[Ty.cells,zhz,zjd,chg,zbM,zqS,zx0,zdW]
theorem ztz:vB 142 zqE:=kF4 zjD zq zl zn (zo []) zPc
@[simp] abbrev zqM (b:Bare)(g p:Int):Bool:=pc (SmB b)
@[simp] abbrev zei (b:Bare)(g p:Int):Bare:=chg b g (hasB p 4) (zdo (gAt b g) p)
@[simp] abbrev zgU (b:Bare)(g p:Int):Bool:=zbM b g (hasB p 4)
def znm:Run:=rF3 (dT .bare) dI dI fun b c d=>(zqM b c d,[aT .bare (zei b c d),aB (zgU b c d)])
def zyj (N:Nat)(a0:Bare)(a1 a2:Int):OA:=
 let y1:=(zb8 a0);let y2:=(inb a1 (ln y1.Guests));let y0:=(ix y1.Guests a1 zx); (oN (zeB a0) (oN (zic y1 a1) (cond (nB (zjj y1 a1)) (some [(aT .bare y1),(aB false)]) (oN (zI a2 0 3) (cond (nB (zL a2 0 3)) (some [(aT .bare y1),(aB false)]) (oN y2 (oN y2 (oN (ziC y0.Written a2) (oN (znT y0.Live a2 (zgJ y0.Written a2)) (oN y2 (share (up y1.Guests a1 ({ y0 with Live:=(zkT y0.Live a2 (zgJ y0.Written a2)) }:Guest)) (fun x4=>(some [(aT .bare ({ y1 with Guests:=x4 }:Bare)),(aB true)])))))))))))))
theorem zJe (a0:Bare)(a1 a2:Int)(hc:zqM a0 a1 a2=true):∃N,zyj N a0 a1 a2=some [aT .bare (zei a0 a1 a2),aB (zgU a0 a1 a2)]:=by
 have hs:=zD.1 hc;have hx:=zi0 a1 hs;have hz:zbZ a0 a1=true->hasB a1 (ln a0.Guests)=true:=fun h=>(zdf.1 h).2;have hz2:zbZ a0 a1=true->gAt a0 a1=ix a0.Guests a1 zx:=fun h=>zr3 (zdf.1 h).2;have hw:=hx.2.2.1
 refine ⟨0,?_⟩;unfold zyj oN nB
 conv=>zeta
 refine mu (mu (brN (fun _=>?_) (fun _=>must rfl (brN (fun _=>?_) (fun _=>mu (mu (must rfl (mu (mu (shr ?_))))))))))
 all_goals first|rfl|(simp only [*,zei,zgU,chg,zbM,zdo,zdW,cT,cF]<;>rfl)|simp_all[Ty.cells,zei,zgU,chg,zbM,zdo,zdW]
theorem zqZ:vB 145 znm:=kF3 zjD zq zl zn (zo []) zJe
@[simp] abbrev zkD (b:Bare)(g v:Int):Bool:=pc (SmB b)
@[simp] abbrev zfg (b:Bare)(g v:Int):Bare:=chg b g (zqm (gAt b g) v) (zuJ (gAt b g) v)
@[simp] abbrev zgt (b:Bare)(g v:Int):Bool:=zbM b g (zqm (gAt b g) v)
def zl5:Run:=rF3 (dT .bare) dI dI fun b c d=>(zkD b c d,[aT .bare (zfg b c d),aB (zgt b c d)])
def zvn (N:Nat)(a0:Bare)(a1 a2:Int):OA:=
 let y2:=(zb8 a0);let y4:=(inb a1 (ln y2.Guests));let y1:=(⟨0,0,false,0⟩:GExit);let y0:=(ix y2.Guests a1 zx);let y3:=({ y0 with A:=a2 }:Guest); (oN (zeB a0) (oN (zic y2 a1) (cond (nB (zjj y2 a1)) (some [(aT .bare y2),(aB false)]) (oN (zI a2 0 99) (cond (nB (zL a2 0 99)) (some [(aT .bare y2),(aB false)]) (oN y4 (cond (ieq y0.Exit.Kind 2) (oN (zdQ y3 y1) (oN (zdL (zdh y3 y1)) (oN y4 (share (up y2.Guests a1 (zfH (zdh y3 y1))) (fun x4=>(some [(aT .bare ({ y2 with Guests:=x4 }:Bare)),(aB true)])))))) (cond (ieq y0.Exit.Kind 3) (oN (zdQ y0 y1) (oN (zdL (zdh y0 y1)) (oN y4 (share (up y2.Guests a1 (zfH (zdh y0 y1))) (fun x4=>(some [(aT .bare ({ y2 with Guests:=x4 }:Bare)),(aB true)])))))) (some [(aT .bare y2),(aB false)])))))))))
theorem zGm (a0:Bare)(a1 a2:Int)(hc:zkD a0 a1 a2=true):∃N,zvn N a0 a1 a2=some [aT .bare (zfg a0 a1 a2),aB (zgt a0 a1 a2)]:=by
 have hs:=zD.1 hc;have hx:=zi0 a1 hs;have hz:zbZ a0 a1=true->hasB a1 (ln a0.Guests)=true:=fun h=>(zdf.1 h).2;have hz2:zbZ a0 a1=true->gAt a0 a1=ix a0.Guests a1 zx:=fun h=>zr3 (zdf.1 h).2;have ho:_/\_/\_/\_:=hx
 refine ⟨0,?_⟩;unfold zvn oN nB
 conv=>zeta
 refine mu (mu (brN (fun _=>?_) (fun _=>must rfl (brN (fun _=>?_) (fun _=>mu (br (fun _=>mu (mu (mu (shr ?_)))) (fun _=>br (fun _=>mu (mu (mu (shr ?_)))) (fun _=>?_))))))))
 all_goals first|rfl|(simp only [*,zfg,zgt,chg,zbM,zqm,zuJ,zjR,zdW,SmG,stopped,cT,cF]<;>rfl)|simp_all[Ty.cells,zfg,zgt,chg,zbM,zqm,zuJ,zjR,zdW,SmG,stopped]
theorem zpZ:vB 149 zl5:=kF3 zjD zq zl zn (zo []) zGm
@[simp] abbrev zkF (b:Bare)(g:Int):Bool:=pc (SmB b)
@[simp] abbrev zfi (b:Bare)(g:Int):Bare:=chg b g (zuT (gAt b g)) (zuU (gAt b g))
@[simp] abbrev zgv (b:Bare)(g:Int):Bool:=zbM b g (zuT (gAt b g))
def zl7:Run:=rF2 (dT .bare) dI fun b c=>(zkF b c,[aT .bare (zfi b c),aB (zgv b c)])
def zvp (N:Nat)(a0:Bare)(a1:Int):OA:=
 let y2:=(zb8 a0);let y3:=(inb a1 (ln y2.Guests));let y1:=(⟨0,0,false,0⟩:GExit);let y0:=(ix y2.Guests a1 zx); (oN (zeB a0) (oN (zic y2 a1) (cond (nB (zjj y2 a1)) (some [(aT .bare y2),(aB false)]) (oN y3 (cond (ieq y0.Exit.Kind 1) (oN (zdQ y0 y1) (oN y3 (share (up y2.Guests a1 (zdh y0 y1)) (fun x3=>(some [(aT .bare ({ y2 with Guests:=x3 }:Bare)),(aB true)]))))) (cond (ieq y0.Exit.Kind 4) (oN (zdQ y0 y1) (oN (zl9 (zdh y0 y1)) (oN y3 (share (up y2.Guests a1 (zwE (zdh y0 y1))) (fun x3=>(some [(aT .bare ({ y2 with Guests:=x3 }:Bare)),(aB true)])))))) (some [(aT .bare y2),(aB false)])))))))
theorem zGo (a0:Bare)(a1:Int)(hc:zkF a0 a1=true):∃N,zvp N a0 a1=some [aT .bare (zfi a0 a1),aB (zgv a0 a1)]:=by
 have hs:=zD.1 hc;have hx:=zi0 a1 hs;have hz:zbZ a0 a1=true->hasB a1 (ln a0.Guests)=true:=fun h=>(zdf.1 h).2;have hz2:zbZ a0 a1=true->gAt a0 a1=ix a0.Guests a1 zx:=fun h=>zr3 (zdf.1 h).2;have ho:_/\_/\_/\_:=hx
 refine ⟨0,?_⟩;unfold zvp oN nB
 conv=>zeta
 refine mu (mu (brN (fun _=>?_) (fun _=>mu (br (fun _=>mu (mu (shr ?_))) (fun _=>br (fun _=>mu (mu (mu (shr ?_)))) (fun _=>?_))))))
 all_goals first|rfl|(simp only [*,zfi,zgv,chg,zbM,zuT,zuU,zjR,zdW,SmG,stopped,cT,cF]<;>rfl)|simp_all[Ty.cells,zfi,zgv,chg,zbM,zuT,zuU,zjR,zdW,SmG,stopped]
theorem zp1:vB 150 zl7:=kF2 zjD zq zl zn (zo []) zGo
theorem z5V {b:Bare}{g:Int}{c:Bool}{x:Guest}(h:zbZ b g=false):chg b g c x=b:=by
 unfold chg;rw[h];rfl
theorem z4m {b:Bare}{g n:Int}(h:zbZ b g=true):chg b g (zfA (gAt b g).Pending n) (zl2 (gAt b g) n)=zdW b g (zl2 (gAt b g) n):=by
 unfold chg;rw[h];cases hp:zfA (gAt b g).Pending n
 .rw [z5c hp,z0a (zdf.1 h).2];rfl
 .rfl
@[simp] abbrev zkE (b:Bare)(g n:Int):Bool:=pc (SmB b)
@[simp] abbrev zfh (b:Bare)(g n:Int):Bare:=chg b g (zfA (gAt b g).Pending n) (zl2 (gAt b g) n)
@[simp] abbrev zgu (b:Bare)(g n:Int):Bool:=zbM b g (zfA (gAt b g).Pending n)
def zl6:Run:=rF3 (dT .bare) dI dI fun b c d=>(zkE b c d,[aT .bare (zfh b c d),aB (zgu b c d)])
def zvo (N:Nat)(a0:Bare)(a1 a2:Int):OA:=
 let y1:=(zb8 a0);let y0:=(ix y1.Guests a1 zx); (oN (zeB a0) (oN (zic y1 a1) (cond (nB (zjj y1 a1)) (some [(aT .bare y1),(aB false)]) (oN (inb a1 (ln y1.Guests)) (oN (zje y0.Pending a2) (oN (inb a1 (ln y1.Guests)) (share (up y1.Guests a1 ({ y0 with Pending:=(zgc y0.Pending a2) }:Guest)) (fun x4=>(some [(aT .bare ({ y1 with Guests:=x4 }:Bare)),(aB (zlw y0.Pending a2))])))))))))
theorem zGn (a0:Bare)(a1 a2:Int)(hc:zkE a0 a1 a2=true):∃N,zvo N a0 a1 a2=some [aT .bare (zfh a0 a1 a2),aB (zgu a0 a1 a2)]:=by
 have hs:=zD.1 hc;have hz:zbZ a0 a1=true->hasB a1 (ln a0.Guests)=true:=fun h=>(zdf.1 h).2;have hz2:zbZ a0 a1=true->gAt a0 a1=ix a0.Guests a1 zx:=fun h=>zr3 (zdf.1 h).2;have hj:=@z4m a0 a1 a2;have hj0:=@z5V a0 a1 (zfA (gAt a0 a1).Pending a2) (zl2 (gAt a0 a1) a2)
 refine ⟨0,?_⟩;unfold zvo oN nB
 conv=>zeta
 refine mu (mu (brN (fun _=>?_) (fun _=>mu (must rfl (mu (shr ?_))))))
 all_goals first|rfl|(simp only [*,zfh,zgu,zbM,zdW,zl2,cT,cF]<;>rfl)|simp_all[Ty.cells,zfh,zgu,zbM,zdW,zl2]
theorem zp0:vB 151 zl6:=kF3 zjD zq zl zn (zo []) zGn
@[simp] abbrev zpn (b:Bare)(g:Int)(c:Ctl):Bool:=pc (SmB b)
@[simp] abbrev zhy (b:Bare)(g:Int)(c:Ctl):Bare:=chg b g (zgL c) (zFo (gAt b g) c)
@[simp] abbrev zjc (b:Bare)(g:Int)(c:Ctl):Bool:=zbM b g (zgL c)
def zqD:Run:=rF3 (dT .bare) dI dC fun b c d=>(zpn b c d,[aT .bare (zhy b c d),aB (zjc b c d)])
def zDP (N:Nat)(a0:Bare)(a1:Int)(a2:Ctl):OA:=
 let y0:=(zb8 a0); (oN (zeB a0) (oN (zic y0 a1) (cond (nB (zjj y0 a1)) (some [(aT .bare y0),(aB false)]) (oN (zp8 a2) (cond (nB (zoK a2)) (some [(aT .bare y0),(aB false)]) (oN (inb a1 (ln y0.Guests)) (share (up y0.Guests a1 ({ (ix y0.Guests a1 zx) with Ctl:=a2 }:Guest)) (fun x4=>(some [(aT .bare ({ y0 with Guests:=x4 }:Bare)),(aB true)])))))))))
theorem zPb (a0:Bare)(a1:Int)(a2:Ctl)(hc:zpn a0 a1 a2=true):∃N,zDP N a0 a1 a2=some [aT .bare (zhy a0 a1 a2),aB (zjc a0 a1 a2)]:=by
 have hs:=zD.1 hc;have hz:zbZ a0 a1=true->hasB a1 (ln a0.Guests)=true:=fun h=>(zdf.1 h).2;have hz2:zbZ a0 a1=true->gAt a0 a1=ix a0.Guests a1 zx:=fun h=>zr3 (zdf.1 h).2
 refine ⟨0,?_⟩;unfold zDP oN nB
 conv=>zeta
 refine mu (mu (brN (fun _=>?_) (fun _=>must rfl (brN (fun _=>?_) (fun _=>mu (shr ?_))))))
 all_goals first|rfl|(simp only [*,zhy,zjc,chg,zbM,zFo,zdW,cT,cF]<;>rfl)|simp_all[Ty.cells,zhy,zjc,chg,zbM,zFo,zdW]
theorem zty:vB 152 zqD:=kF3 zjD zq zl zn (zo []) zPb
def z3R (p c v:Int):Bool:=bif hasB p 8 then (cond (hasB c 4) (win v 0 99) false) else false
def zvX (b:Bare)(p c v:Int):Bool:=bif zbV b then z3R p c v else false
def zQf (b:Bare)(p c v:Int):Bare:=bif zvX b p c v then { b with Memory:=zbx b.Memory p c v } else b
def zk0 (b:Bare):Bare:=bif zbV b then { b with Pending:=zi6 b.Pending } else b
def zql (b:Bare):Int:=bif zbV b then zsh b.Pending else -1
def zkg (b:Bare):Bool:=bif zbV b then !ilt (zdq b.Pending) 0 else false
def zmX (b:Bare)(g a n:Int):Bool:=bif zbZ b g then (cond (win a 0 15) (ze0 (gAt b g).Live (zbe a) n) false) else false
def zCn (b:Bare)(g a n:Int):Int:=zck (gAt b g).Live (zbe a) n
def zw5 (b:Bare)(g a v:Int):Bool:=bif zmX b g a 2 then win v 0 99 else false
def zWV (b:Bare)(g a v:Int):Bare:=bif zw5 b g a v then { b with Memory:=zbx b.Memory (zCn b g a 2) (zcU a) v } else b
def zQj (b:Bare)(g a:Int):Int:=bif zmX b g a 1 then cellAt b.Memory (zCn b g a 1) (zcU a) else 0
@[simp] abbrev zpm (b:Bare):Bool:=pc (SmB b)
@[simp] abbrev zhx (b:Bare):Bare:=zk0 b
@[simp] abbrev zja (b:Bare):Int:=zql b
@[simp] abbrev zjb (b:Bare):Bool:=zkg b
def zqC:Run:=rF1 (dT .bare) fun b=>(zpm b,[aT .bare (zhx b),aI (zja b),aB (zjb b)])
def zDO (N:Nat)(a0:Bare):OA:=
 let y0:=(zb8 a0); (oN (zeB a0) (oN (znv y0) (cond (nB (zeo y0)) (some [(aT .bare y0),(aI (-1)),(aB false)]) (oN (zpF y0.Pending) (some [(aT .bare ({ y0 with Pending:=(zjg y0.Pending) }:Bare)),(aI (zjh y0.Pending)),(aB (zlz y0.Pending))])))))
theorem zPa (a0:Bare)(hc:zpm a0=true):∃N,zDO N a0=some [aT .bare (zhx a0),aI (zja a0),aB (zjb a0)]:=by
 have hs:=zD.1 hc;refine ⟨0,?_⟩;unfold zDO oN nB
 conv=>zeta
 refine mu (must rfl (brN (fun _=>?_) (fun _=>must rfl ?_)))
 all_goals first|rfl|(simp only [*,zhx,zja,zjb,zk0,zql,zkg,zi6,zsh,cT,cF]<;>rfl)|simp_all[Ty.cells,zhx,zja,zjb,zk0,zql,zkg,zi6,zsh]
theorem ztx:vB 157 zqC:=kF1 zjD zq zl zn (zo []) zPa
def z3A:zO:=z3z
theorem zQW:zF z3A:=zjD
def zdK (l:List Guest)(n:Int):List Int:=idxs (fun (x:Guest)=>posts x.Ctl n) l 0
theorem zRu {α:Type}(p:α->Bool):∀(l:List α) (i:Nat),∀k∈idxs p l i,(i:Int)<=k/\k<(i:Int)+l.length
 | [],_,k,hk=>by cases hk
 | x :: l,i,k,hk=>by
  have hr:=zRu p l (i+1);simp only[qU];unfold idxs at hk;cases hp:p x
  .rw [hp]at hk;have:=hr k hk;omega
  .rw [hp]at hk;rcases qH.1 hk with rfl|hk
   .omega
   .have:=hr k hk;omega
@[simp] abbrev zsQ (b:Bare)(n:Int):Bool:=pc (SmB b)
@[simp] abbrev zkR (b:Bare)(n:Int):List Int:=zdK b.Guests n
def zwn:Run:=rF2 (dT .bare) dI fun b c=>(zsQ b c,[aS .int (zkR b c)])
def zzV (N:Nat)(a0:Bare)(a1:Int):OA:=
 (iter (σ:=(Int×(Int×(Int×((List Int)×(lM×(lG×((List Int)×Unit)))))))) N (fun r3 s4=>let y0:=s4.2.2.2.2.2.1;let y1:=(ix y0 s4.2.1 zx).Ctl; (cond (ilt s4.2.1 (ln y0)) (oN (inb s4.2.1 (ln y0)) (oN (zB0 y1 s4.1) (cond (zwG y1 s4.1) (oN (few (ln (ap s4.2.2.2.1 [s4.2.1]))) (r3 (s4.1,((zG .i64 s4.2.1 1),(s4.2.2.1,((ap s4.2.2.2.1 [s4.2.1]),(s4.2.2.2.2.1,(y0,(s4.2.2.2.2.2.2.1,()))))))))) (r3 (s4.1,((zG .i64 s4.2.1 1),(s4.2.2.1,(s4.2.2.2.1,(s4.2.2.2.2.1,(y0,(s4.2.2.2.2.2.2.1,()))))))))))) (some [(aS .int s4.2.2.2.1)]))) (a1,(0,(a0.Pending,([],(a0.Memory,(a0.Guests,(a0.Outs,()))))))))
def zMU:FuncId->Nat->Option Tmpl:=zo [(202,0,{ n:=28,tm:=[(1,ti),(2,.lp 0 0),(5,.sl 0 []),(6,ti)],lo:=[(0,[.sl 1 [],.sl 2 [],.sl 3 [],ti])],ro:=[(0,.int,true),(1,(.sl .int),false),(2,.guest,false),(3,.int,false)] })]
theorem zL0 (a0:Bare)(a1:Int)(hc:zsQ a0 a1=true):∃N,zzV N a0 a1=some [aS .int (zkR a0 a1)]:=by
 have hs:=zD.1 hc;have hl:=zcb hs.2.1.1;refine zbP fun N hNN=>?_;unfold zzV oN
 conv=>zeta
 refine (zbc a0.Guests (fun i (t:(List Int))=>(a1,(i:Int),a0.Pending,t,a0.Memory,a0.Guests,a0.Outs,())) _ (fun i (x:Guest) (t:List Int) κ=>bif posts x.Ctl a1 then (cond (few (ln (ap t [(i:Int)]))) (κ (ap t [(i:Int)])) none) else κ t) (fun (t:(List Int))=>(some [(.one (.s .int t))])) (fun i hi t rec=>?_) (fun t rec=>?_) _ ([]) (hNN hl.1)).trans ?_
 .simp only [zbf hi,zN hi,zba hi,zT hi hl.1,cT]
 .simp only [zbd,cF]
 exact zjF (fun (x:Guest)=>posts x.Ctl a1) _ a0.Guests 0 [] (by simpa using hl.2)
theorem zF0:vB 202 zwn:=kF2 zQW zq zl zn zMU zL0
def z3B:zO:=[(202,zwn)]++z3A
theorem zQX:zF z3B:=zh zF0 zQW
def zCC (n:Int)(l:List Guest)(k:Int):List Guest:=up l k (zl2 (ix l k zx) n)
def zkB (n:Int)(ks:List Int)(l:List Guest):List Guest:=ks.foldl (zCC n) l
theorem zA5 (n:Int)(l:List Guest)(k:Int):(zCC n l k).length=l.length:=zfE _ _ _
theorem zX4 {n:Int}{l:List Guest}{k:Int}(hk:hasB k (ln l)=true)(h:zlT l):zlT (zCC n l k):=zCI h (z0h h hk _)
theorem zB6 {n:Int}:∀(ks:List Int) {l:List Guest},(∀k∈ks,hasB k (ln l)=true)->zlT l->zlT (zkB n ks l)/\(zkB n ks l).length=l.length
 | [],_,_,h=>⟨h,rfl⟩
 | k :: ks,l,hk,h=>by
  have h1:=zX4 (n:=n) (hk k (by simp)) h
  obtain ⟨g1,g2⟩:=zB6 (n:=n) ks (l:=zCC n l k) (fun j hj=>by rw[ln,zA5];exact hk j (by simp[hj])) h1
  exact ⟨g1,g2.trans (zA5 _ _ _)⟩
theorem zRi {ρ:Type}(n:Int)(K:List Guest->Option ρ):∀(ks:List Int) (i:Nat) (l:List Guest),(∀k∈ks,hasB k (ln l)=true) ->
 goL (fun _ k (t:List Guest) κ=>bif inb k (ln t) then (cond (inb k (ln t)) (κ (up t k (zl2 (ix t k zx) n))) none) else none) K ks i l=K (zkB n ks l)
 | [],_,_,_=>rfl
 | k :: ks,i,l,h=>by
  have hk:inb k (ln l)=true:=h k (by simp)
  simp only[goL,hk,cT];exact zRi n K ks (i+1) (zCC n l k) (fun j hj=>by rw[ln,zA5];exact h j (by simp[hj]))
def zCD (b:Bare)(n:Int):Bare:=bif ieq (ln (zdK b.Guests n)) 0 then { b with Pending:=zri b.Pending n } else { b with Guests:=zkB n (zdK b.Guests n) b.Guests }
def zes (b:Bare)(n:Int):Bool:=bif zbV b then hasB n 8 else false
def ziz (b:Bare)(n:Int):Bare:=bif zes b n then zCD b n else b
theorem zJG {b:Bare}{n:Int}:∀k∈zdK b.Guests n,hasB k (ln b.Guests)=true:=fun k hk=>by
 have:=zRu _ _ _ k hk;exact qI (by simp only[ln];omega)
theorem zXM {b:Bare}{n:Int}(h:ieq (ln (zdK b.Guests n)) 0=true):zkB n (zdK b.Guests n) b.Guests=b.Guests:=by
 have h1:((zdK b.Guests n).length:Int)=0:=qE h;have:zdK b.Guests n=[]:=List.length_eq_zero_iff.1 (by omega)
 rw[this];rfl
theorem zXL {b:Bare}{n:Int}:(cond (ieq (ln (zdK b.Guests n)) 0) (some [AV.agg (Ty.cells .bare ⟨b.Memory,zkB n (zdK b.Guests n) b.Guests,b.Outs,zri b.Pending n⟩),AV.one (.b true)]) (some [AV.agg (Ty.cells .bare ⟨b.Memory,zkB n (zdK b.Guests n) b.Guests,b.Outs,b.Pending⟩),AV.one (.b true)]))=some [AV.agg (Ty.cells .bare (zCD b n)),AV.one (.b true)]:=by
 unfold zCD;cases h:ieq (ln (zdK b.Guests n)) 0
 .rfl
 .simp only [cT,zXM h]
@[simp] abbrev znw (b:Bare)(n:Int):Bool:=pc (SmB b)
@[simp] abbrev zhZ (b:Bare)(n:Int):Bare:=ziz b n
@[simp] abbrev zjX (b:Bare)(n:Int):Bool:=zes b n
def zoD:Run:=rF2 (dT .bare) dI fun b c=>(znw b c,[aT .bare (zhZ b c),aB (zjX b c)])
def zzM (N:Nat)(a0:Bare)(a1:Int):OA:=
 let y2:=(zb8 a0); (oN (zeB a0) (oN (znv y2) (cond (nB (zeo y2)) (some [(aT .bare y2),(aB false)]) (oN (zI a1 0 7) (cond (nB (zL a1 0 7)) (some [(aT .bare y2),(aB false)]) (oN (zsQ y2 a1) (iter (σ:=(Int×(Int×(Int×(Int×((List Int)×(lM×(lG×((List Int)×(lM×(lG×((List Int)×Unit)))))))))))) N (fun r3 s4=>let y5:=s4.2.2.2.2.2.2.2.1;let y3:=s4.2.2.2.2.1;let y1:=s4.2.2.2.2.2.2.1;let y0:=(ix y3 s4.2.1 0);let y4:=(ix y1 y0 zx); (cond (ilt s4.2.1 (ln y3)) (oN (inb s4.2.1 (ln y3)) (oN (inb s4.2.1 (ln y3)) (oN (inb y0 (ln y1)) (oN (zje y4.Pending s4.1) (oN (inb y0 (ln y1)) (r3 (s4.1,((zG .i64 s4.2.1 1),(s4.2.2.1,(s4.2.2.2.1,(y3,(s4.2.2.2.2.2.1,((up y1 y0 ({ y4 with Pending:=(zgc y4.Pending s4.1) }:Guest)),(y5,(s4.2.2.2.2.2.2.2.2.1,(s4.2.2.2.2.2.2.2.2.2.1,(s4.2.2.2.2.2.2.2.2.2.2.1,()))))))))))))))))) (cond (ieq (ln y3) 0) (oN (zje s4.2.2.1 s4.1) (some [(aT .bare (⟨s4.2.2.2.2.2.1,y1,y5,(zgc s4.2.2.1 s4.1)⟩:Bare)),(aB true)])) (some [(aT .bare (⟨s4.2.2.2.2.2.1,y1,y5,s4.2.2.1⟩:Bare)),(aB true)])))) (a1,(0,(y2.Pending,(0,((zkR y2 a1),(y2.Memory,(y2.Guests,(y2.Outs,([],([],([],()))))))))))))))))))
def zMP:FuncId->Nat->Option Tmpl:=zo [(156,0,{ n:=62,tm:=[(1,ti),(2,.lp 0 0),(4,.lp 1 0),(6,.sl 0 []),(7,ti)],lo:=[(0,[.sl 1 [],.sl 2 [],.sl 3 [],ti]),(1,[.sl 4 [],.sl 5 [],.sl 6 [],ti])],ro:=[(0,.int,true),(1,(.sl .int),true),(2,.guest,true),(3,.int,true),(4,(.sl .int),true),(5,.guest,true),(6,.int,true)] })]
theorem zLQ (a0:Bare)(a1:Int)(hc:znw a0 a1=true):∃N,zzM N a0 a1=some [aT .bare (zhZ a0 a1),aB (zjX a0 a1)]:=by
 have hs:=zD.1 hc;have hk:(zdK a0.Guests a1).length<=big:=jB (zxt _ _ _) (zcb hs.2.1.1).1;refine zbP fun N hNN=>?_;unfold zzM zhZ zjX ziz zes oN nB
 conv=>zeta
 refine must (zW hs) (must rfl (brN (fun h1=>?_) (fun h1=>must rfl (brN (fun h2=>?_) (fun h2=>must (zW hs) ?_)))))
 .simp only [show zbV a0=false from h1,cF]
 .simp only [show zbV a0=true from h1,show hasB a1 8=false from by first|exact h2|exact (z0y a1).symm.trans h2,cT,cF]
 simp only[show zbV a0=true from h1,show hasB a1 8=true from by first|exact h2|exact (z0y a1).symm.trans h2,cT]
 refine (zbc (zkR (zb8 a0) a1) (fun i (t:lG)=>(a1,(i:Int),(zb8 a0).Pending,0,(zkR (zb8 a0) a1),(zb8 a0).Memory,t,(zb8 a0).Outs,[],[],[],())) _ (fun _ k (t:List Guest) κ=>bif inb k (ln t) then (cond (inb k (ln t)) (κ (up t k (zl2 (ix t k zx) a1))) none) else none) (fun (t:lG)=>(cond (ieq (ln (zkR (zb8 a0) a1)) 0) (cond (zje (zb8 a0).Pending a1) (some [(.agg (Ty.cells .bare (⟨(zb8 a0).Memory,t,(zb8 a0).Outs,(zgc (zb8 a0).Pending a1)⟩:Bare))),(.one (.b true))]) none) (some [(.agg (Ty.cells .bare (⟨(zb8 a0).Memory,t,(zb8 a0).Outs,(zb8 a0).Pending⟩:Bare))),(.one (.b true))]))) (fun i hi t rec=>?_) (fun t rec=>?_) _ ((zb8 a0).Guests) (hNN hk)).trans ?_
 .simp only [zbf hi,zN hi,zba hi,zT hi hk,cT];rfl
 .simp only [zbd,cF];rfl
 exact (zRi a1 _ _ 0 _ zJG).trans zXL
theorem zr7:vB 156 zoD:=kF2 zQX zq zl zn zMP zLQ
def zYs:zO:=[(142,zqE),(145,znm),(149,zl5),(150,zl7),(151,zl6),(152,zqD),(157,zqC),(156,zoD)]++z3B
theorem zAi:zF zYs:=zh ztz (zh zqZ (zh zpZ (zh zp1 (zh zp0 (zh zty (zh ztx (zh zr7 zQX)))))))
theorem z0p {n:Int}(h:(ieq n 4||ieq n 8)=true):n=4\/n=8:=by
 rcases kI _ _ ▸ h with h|h
 .exact .inl (qE h)
 .exact .inr (qE h)
theorem zZE {n:Int}(h:(ieq n 8||ieq n 12)=true):n=8\/n=12:=by
 rcases kI _ _ ▸ h with h|h
 .exact .inl (qE h)
 .exact .inr (qE h)
@[simp] abbrev zh2 (n:Int):Bool:=ieq n 4||ieq n 8
@[simp] abbrev zf1 (n:Int):List Slot:=List.replicate n.toNat ⟨-1,0⟩
def zoG:Run:=rF1 dI fun b=>(zh2 b,[aS .slot (zf1 b)])
def zQu (N:Nat)(a0:Int):OA:=
 (oN (zpp a0 0 24) (iter (σ:=(Int×(lS×Unit))) N (fun r2 s3=>(cond (igt s3.1 0) (oN zcj (oN (few (ln (ap s3.2.1 [zbr]))) (r2 ((wsub .i64 s3.1 1),((ap s3.2.1 [zbr]),()))))) (some [(aS .slot s3.2.1)]))) ((zp7 a0 0 24),([],()))))
def zMW:FuncId->Nat->Option Tmpl:=zo [(126,0,{ n:=17,tm:=[(3,.sl 0 []),(4,ti)],lo:=[],ro:=[(0,.slot,true)] })]
theorem zL7 (a0:Int)(hc:zh2 a0=true):∃N,zQu N a0=some [aS .slot (zf1 a0)]:=by
 refine ⟨30,?_⟩;have h:a0=4\/a0=8:=z0p hc;rcases h with rfl|rfl<;>(change _=_;kernel_rfl)
theorem zr9:vB 126 zoG:=kF1 zAi zq zl zn zMW zL7
@[simp] abbrev znK (n:Int):Bool:=ieq n 8||ieq n 12
@[simp] abbrev ziA (n:Int):List (List Int):=List.replicate n.toNat [0,0,0,0]
def zsC:Run:=rF1 dI fun b=>(znK b,[aS (.sl .int) (ziA b)])
def zWt (N:Nat)(a0:Int):OA:=
 (oN (zpp a0 0 24) (iter (σ:=(Int×(lM×Unit))) N (fun r2 s3=>(cond (igt s3.1 0) (oN (cond (few 4) (ieq 4 4) false) (oN (few (ln (ap s3.2.1 [(rp 4 0)]))) (r2 ((wsub .i64 s3.1 1),((ap s3.2.1 [(rp 4 0)]),()))))) (some [(aS (.sl .int) s3.2.1)]))) ((zp7 a0 0 24),([],()))))
def zTG:FuncId->Nat->Option Tmpl:=zo [(87,0,{ n:=17,tm:=[(3,.sl 0 []),(4,ti)],lo:=[],ro:=[(0,(.sl .int),true)] })]
theorem zR2 (a0:Int)(hc:znK a0=true):∃N,zWt N a0=some [aS (.sl .int) (ziA a0)]:=by
 refine ⟨30,?_⟩;have h:a0=8\/a0=12:=zZE hc;rcases h with rfl|rfl<;>(change _=_;kernel_rfl)
theorem zvJ:vB 87 zsC:=kF1 zAi zq zl zn zTG zR2
def zYt:zO:=[(126,zoG),(87,zsC)]++zYs
theorem zNw:zF zYt:=zh zr9 (zh zvJ zAi)
def zkb:List Slot:=List.replicate 4 ⟨-1,0⟩
def zel (p:List Ins):Guest:=⟨p,0,0,zkb,zkb,⟨0,0,false⟩,0,⟨0,0,false,0⟩,false,[]⟩
@[simp] abbrev znB (p:List Ins):Bool:=pc (p.length<=1048576)
@[simp] abbrev znA (p:List Ins):Guest:=zel p
def zoE:Run:=rF1 (dS .ins) fun b=>(znB b,[aT .guest (znA b)])
def zzP (N:Nat)(a0:lI):OA:=
 (oN (few (ln (ap [] a0))) (oN (zh2 4) (oN (zh2 4) (some [(aT .guest (⟨(ap [] a0),0,0,(zf1 4),(zf1 4),⟨0,0,false⟩,0,⟨0,0,false,0⟩,false,[]⟩:Guest))]))))
theorem zLU (a0:List Ins)(hc:znB a0=true):∃N,zzP N a0=some [aT .guest (znA a0)]:=by
 have hs:=zD.1 hc;refine ⟨0,?_⟩;unfold zzP oN;refine mu (must rfl (must rfl ?_))
 first|rfl|(simp only [*,znA,zel,zkb,cT,cF]<;>rfl)|simp_all[Ty.cells,znA,zel,zkb]
theorem zr8:vB 127 zoE:=kF1 zNw zq zl zn (zo []) zLU
def z6h:zO:=[(127,zoE)]++zYt
theorem zAj:zF z6h:=zh zr8 zNw
def zMp:List (List Int):=List.replicate 8 [0,0,0,0]
def z5R (ps:List (List Ins)):Prop:=ps.length<=1048576/\∀p∈ps,p.length<=1048576
theorem zN4 {α β ρ:Type}(m:Nat)(f:α->β)(K:List β->Option ρ):∀(l:List α) (i:Nat) (acc:List β),acc.length+l.length<=2147483648 ->
 goL (fun (i:Nat) x acc k=>bif ilt (i:Int) (m:Int) then (cond (few (ln (ap acc [f x]))) (k (ap acc [f x])) none) else K acc) K l i acc=K (acc++(l.take (m-i)).map f)
 | [],i,acc,_=>by simp[goL]
 | x :: l,i,acc,hn=>by
  simp only[qU]at hn;have hf:few (ln (ap acc [f x]))=true:=zfT (by simp[ap];omega)
  by_cases h:i<m
  .have hi:ilt (i:Int) (m:Int)=true:=qI (by omega)
   simp only[goL,hi,hf,cT];rw[zN4 m f K l (i+1) (ap acc [f x]) (by simp[ap];omega)]
   rw[show m-i=m-(i+1)+1 by omega]
   simp[ap]
  .have hi:ilt (i:Int) (m:Int)=false:=qJ (by omega)
   simp only[goL,hi,cF];rw[show m-i=0 by omega]
   simp
@[simp] abbrev zBQ (a:GAct):Bool:=true
@[simp] abbrev zwB (a:GAct):Bool:=win a.Kind 1 17
def zEM:Run:=rF1 (dT .act) fun b=>(zBQ b,[aB (zwB b)])
def zNb (N:Nat)(a0:GAct):OA:=
 (oN (zI a0.Kind 1 17) (some [(aB (zL a0.Kind 1 17))]))
theorem zUp (a0:GAct)(hc:zBQ a0=true):∃N,zNb N a0=some [aB (zwB a0)]:=by
 refine ⟨0,?_⟩;unfold zNb oN;refine must rfl ?_
 first|rfl|(simp only [*,zwB,cT,cF]<;>rfl)|simp_all[Ty.cells,zwB]
theorem zOJ:vB 89 zEM:=kF1 zAj zq zl zn (zo []) zUp
@[simp] abbrev zu4 (k:Int):Bool:=true
@[simp] abbrev zp9 (k:Int):Bool:=win k 13 17
def zyQ:Run:=rF1 dI fun b=>(zu4 b,[aB (zp9 b)])
def zD0 (N:Nat)(a0:Int):OA:=
 (oN (zI a0 13 17) (some [(aB (zL a0 13 17))]))
theorem zPm (a0:Int)(hc:zu4 a0=true):∃N,zD0 N a0=some [aB (zp9 a0)]:=by
 refine ⟨0,?_⟩;unfold zD0 oN;refine must rfl ?_
 first|rfl|(simp only [*,zp9,cT,cF]<;>rfl)|simp_all[Ty.cells,zp9]
theorem zIv:vB 91 zyQ:=kF1 zAj zq zl zn (zo []) zPm
@[simp] abbrev zBR (a:GAct):Bool:=true
@[simp] abbrev zoJ (a:GAct):Ctl:=⟨a.X,a.Y,ieq a.Z 1⟩
def zEN:Run:=rF1 (dT .act) fun b=>(zBR b,[.agg (zAh (zoJ b))])
def zNc (N:Nat)(a0:GAct):OA:=
 (some [(.agg [(.i .i64 a0.X),(.i .i64 a0.Y),(.b (ieq a0.Z 1))])])
theorem zUq (a0:GAct)(hc:zBR a0=true):∃N,zNc N a0=some [.agg (zAh (zoJ a0))]:=by
 refine ⟨0,?_⟩;unfold zNc
 first|rfl|(simp only [*,zoJ,cT,cF]<;>rfl)|simp_all[Ty.cells,zoJ]
theorem zOK:vB 100 zEN:=kF1 zAj zq zl zn (zo []) zUq
def zQT:zO:=[(142,zqE),(145,znm),(149,zl5),(150,zl7),(151,zl6),(152,zqD),(157,zqC),(156,zoD),(87,zsC)]++z3x
theorem zAl:zF zQT:=zh ztz (zh zqZ (zh zpZ (zh zp1 (zh zp0 (zh zty (zh ztx (zh zr7 (zh zvJ z1d))))))))
def zcz (x:Mon):Bare:=⟨zMp,x.Guests,x.Outs,x.Pending⟩
def ztl (x:Mon)(b:Bare):Mon:={ x with Guests:=b.Guests,Pending:=b.Pending }
def zcL (h:Host)(m:Int)(b:Bare):Host:={ h with Mons:=up h.Mons m (ztl (ix h.Mons m mZ) b) }
@[simp] abbrev zee (x:Mon):Bool:=pc (zeF x)
@[simp] abbrev zbA (x:Mon):Bare:=zcz x
def zy7:Run:=rF1 (dT .mon) fun b=>(zee b,[aT .bare (zbA b)])
def zEh (N:Nat)(a0:Mon):OA:=
 (oN (znK 8) (oN (zfb a0.Guests) (oN (few (ln (ap [] a0.Outs))) (some [(aT .bare (⟨(ziA 8),(zfs a0.Guests),(ap [] a0.Outs),a0.Pending⟩:Bare))]))))
theorem zPM (a0:Mon)(hc:zee a0=true):∃N,zEh N a0=some [aT .bare (zbA a0)]:=by
 have hs:=zD.1 hc;refine ⟨0,?_⟩;unfold zEh oN;exact must rfl (must (zW ((ztp _).2 hs.2.2.2.1)) (must (zmq hs.2.2.2.2.1) rfl))
theorem zIU:vB 143 zy7:=kF1 zAl zq zb0 zh7 (zo []) zPM
@[simp] abbrev zed (h:Host)(m:Int)(b:Bare):Bool:=pc (hasB m (ln h.Mons)=true/\zlT b.Guests)
@[simp] abbrev zgh (h:Host)(m:Int)(b:Bare):Host:=zcL h m b
theorem z6K {l:List Mon}{m:Int}(hm:hasB m (ln l)=true)(b:Bare):inb m (ln (up l m { ix l m mZ with Guests:=b.Guests }))=true /\
 up (up l m { ix l m mZ with Guests:=b.Guests }) m { ix (up l m { ix l m mZ with Guests:=b.Guests }) m mZ with Pending:=b.Pending }=up l m (ztl (ix l m mZ) b):=by
 obtain ⟨k,rfl,hk⟩:=zdA (n:=l.length) hm;refine ⟨zB (by rw[ln,zfE];exact hm),?_⟩
 rw[zpO,zdx hk];rfl
def zqK:List AV->Option (Bool×List AV)
 | [.agg [.s (.sl .int) b,.s .mon c,.s .entry d,.s .entry e],.one (.i .i64 f),.agg [.s (.sl .int) g,.s .guest h,.s .int j,.i .i64 k]]=>some ((zed (⟨b,c,d,e⟩:Host) f (⟨g,h,j,k⟩:Bare)),[aH (zgh (⟨b,c,d,e⟩:Host) f (⟨g,h,j,k⟩:Bare))])
 | _=>none
def zuI (N:Nat)(a0:Host)(a1:Int)(a2:Bare):OA:=
 (oN (zfb a2.Guests) (oN (inb a1 (ln a0.Mons)) (share (up a0.Mons a1 ({ (ix a0.Mons a1 zf) with Guests:=(zfs a2.Guests) }:Mon)) (fun x4=>(oN (inb a1 (ln x4)) (share (up x4 a1 ({ (ix x4 a1 zf) with Pending:=a2.Pending }:Mon)) (fun x5=>(some [(aH ({ a0 with Mons:=x5 }:Host))]))))))))
theorem zSJ (N:Nat)(a0:Host)(a1:Int)(a2:Bare):zWX (cQ zQT zqu zXK z2o) (zo []) N 12 144 [true,true,true,true,false,false,false,false,false] [aH a0,aI a1,aT .bare a2]=zuI N a0 a1 a2:=by kernel_rfl
theorem zPL (a0:Host)(a1:Int)(a2:Bare)(hb:zbG big [aH a0,aI a1,aT .bare a2])(hc:zed a0 a1 a2=true):∃N,zuI N a0 a1 a2=some [aH (zgh a0 a1 a2)]:=by
 obtain ⟨hm,hg⟩:=zD.1 hc;obtain ⟨h1,h2⟩:=z6K hm a2;refine ⟨0,?_⟩;unfold zuI oN;refine must (zW ((ztp _).2 hg)) (must (zB hm) (shr (must h1 (shr ?_))));have e:zfs a2.Guests=a2.Guests:=rfl;rw[e]
 show some [AV.agg (zbh { a0 with Mons:=_ })]=some [AV.agg (zbh { a0 with Mons:=_ })]
 rw[show zf=mZ from rfl,h2]
theorem zIT:zdG Tryz.prog 144 [true,true,true,true,false,false,false,false,false] none zqK:=by
 refine zKH (zc4 zAl zq zb0 zh7) (zex (by kernel_rfl)) (by kernel_rfl) ?_
 intro avs rs hl hr h;have hb:=zhJ hr;unfold zqK at h;split at h
 .obtain ⟨hc,rfl⟩:=zdM h;obtain ⟨N,hN⟩:=zPL _ _ _ (by exact hb) hc
  exact ⟨_,N,12,(zSJ N _ _ _ ).trans hN⟩
 .cases h
def zYz:zO:=[(143,zy7)]++zQT
theorem zh9:zF zYz:=zh zIU zAl
def z7m:zfd:=[(144,([true,true,true,true,false,false,false,false,false],none,zqK))]++z2o
theorem zcF:zd8 z7m:=zoV zh7 (by
 intro x hx;simp only[qH,qV,or_false]at hx;rcases hx with rfl
 .exact zIT)
def z3Y (h:Host)(m:Int)(cB:Bool)(B:Bare)(o0 o1:Host->Ans):OA:=
 bif zbE h then (cond (zeZ h m) (cond (cond (zeY h m) false true) (some (o0 h)) (cond (inb m (ln h.Mons)) (cond (zee (ix h.Mons m mZ)) (cond cB (cond (zed h m B) (some (o1 (zcL h m B))) none) none) none) none)) none) else none
theorem zci {h:Host}{m:Int}:(zcf h m=true)↔zbK h=true/\hasB m (ln h.Mons)=true:=by
 unfold zcf;cases zbK h<;>simp
theorem zmm {h:Host}{m:Int}{cB:Bool}{B:Bare}{o0 o1:Host->Ans}(hs:SmH h)(hc:zcf h m=true->cB=true)(hB:zcf h m=true->SmB B):z3Y h m cB B o0 o1=some (cond (zcf h m) (o1 (zcL h m B)) (o0 h)):=by
 unfold z3Y;refine must (zW ((zJ h).2 hs)) (must rfl ?_);rw[show zeY h m=zcf h m from rfl]
 cases h0:zcf h m
 .rfl
 .have h2:=(zci.1 h0).2;exact zcT rfl (must (zB h2) (must (zW (hs.2.1.2 _ (zbq h2 _))) (must (hc h0) (must (zW ⟨h2,(hB h0).2.1⟩) rfl))))
structure SameB (b c:Bare):Prop where
 g:b.Guests=c.Guests
 p:b.Pending=c.Pending
 o:zbV b=zbV c
theorem SameB.at {b c:Bare}(h:SameB b c)(g:Int):gAt b g=gAt c g:=by unfold gAt;rw[h.g]
theorem SameB.has {b c:Bare}(h:SameB b c)(g:Int):zbZ b g=zbZ c g:=by unfold zbZ;rw[h.g,h.o]
theorem back_eq {h:Host}{m:Int}{b c:Bare}(hg:b.Guests=c.Guests)(hp:b.Pending=c.Pending):zcL h m b=zcL h m c:=by
 unfold zcL ztl;rw[hg,hp]
theorem zoc {b c:Bare}(hS:SameB b c)(h:Host)(m g:Int)(k:Bool)(x:Guest):zcL h m (chg b g k x)=zcL h m (chg c g k x):=by
 unfold chg;rw[hS.has];cases (cond (zbZ c g) k false)
 .exact back_eq hS.g hS.p
 .exact back_eq (by simp only[cT,zdW,hS.g]) hS.p
theorem zkj {b c:Bare}(hS:SameB b c)(g:Int)(k:Bool):zbM b g k=zbM c g k:=by
 unfold zbM;rw[hS.has]
theorem zie {h:Host}{m:Int}(h0:zcf h m=true)(hv:zbV (zcz (ix h.Mons m mZ))=true):SameB (zcz (ix h.Mons m mZ)) (zA h m):=by
 obtain ⟨h1,h2⟩:=zci.1 h0;refine ⟨?_,?_,hv.trans (zEj h1 h2).symm⟩<;>unfold zA zcz<;>rw [h2]<;>rfl
theorem z5h:zgN zMp 8=true:=by decide
theorem zmI {h:Host}{m:Int}(h0:zcf h m=true):zbV (zcz (ix h.Mons m mZ))=true:=by
 obtain ⟨h1,h2⟩:=zci.1 h0;have:=zEj h1 h2;unfold zA at this;rw[h2,cT] at this;unfold zbV at this ⊢;simp only[zcz,z5h] at *
 simp_all
theorem zep {x:Mon}(h:zeF x):SmB (zcz x):=⟨show SmM zMp from ⟨by decide,by decide⟩,h.2.2.2.1,h.2.2.2.2.1⟩
def zeh (h:Host)(m:Int)(b:Bare):Host:=bif zcf h m then zcL h m b else h
def zdF (h:Host)(m:Int)(ok:Bool):Bool:=bif zcf h m then ok else false
@[simp] abbrev zi9 (b:Bare)(g p:Int)(s:Slot):Bare:=chg b g (zqS p s) (zx0 (gAt b g) p s)
@[simp] abbrev zln (b:Bare)(g p:Int)(s:Slot):Bool:=zbM b g (zqS p s)
@[simp] abbrev zgq (b:Bare)(g v:Int):Bare:=chg b g (zqm (gAt b g) v) (zuJ (gAt b g) v)
@[simp] abbrev zhT (b:Bare)(g v:Int):Bool:=zbM b g (zqm (gAt b g) v)
@[simp] abbrev zgs (b:Bare)(g:Int):Bare:=chg b g (zuT (gAt b g)) (zuU (gAt b g))
@[simp] abbrev zhV (b:Bare)(g:Int):Bool:=zbM b g (zuT (gAt b g))
@[simp] abbrev zgr (b:Bare)(g n:Int):Bare:=chg b g (zfA (gAt b g).Pending n) (zl2 (gAt b g) n)
@[simp] abbrev zhU (b:Bare)(g n:Int):Bool:=zbM b g (zfA (gAt b g).Pending n)
@[simp] abbrev zi8 (b:Bare)(g:Int)(c:Ctl):Bare:=chg b g (zgL c) (zFo (gAt b g) c)
@[simp] abbrev zlm (b:Bare)(g:Int)(c:Ctl):Bool:=zbM b g (zgL c)
@[simp] abbrev zll (b:Bare):Bare:=zk0 b
@[simp] abbrev zpd (b:Bare):Int:=zql b
@[simp] abbrev zpe (b:Bare):Bool:=zkg b
@[simp] abbrev zjQ (b:Bare)(n:Int):Bare:=ziz b n
@[simp] abbrev znc (b:Bare)(n:Int):Bool:=zes b n
@[simp] abbrev zUL (h:Host)(m:Int)(g p:Int)(s:Slot):Host:=zeh h m (zi9 (zA h m) g p s)
@[simp] abbrev zUM (h:Host)(m:Int)(g p:Int)(s:Slot):Bool:=zdF h m (zln (zA h m) g p s)
@[simp] abbrev zMi (h:Host)(m:Int)(g v:Int):Host:=zeh h m (zgq (zA h m) g v)
@[simp] abbrev zMj (h:Host)(m:Int)(g v:Int):Bool:=zdF h m (zhT (zA h m) g v)
@[simp] abbrev zMm (h:Host)(m:Int)(g:Int):Host:=zeh h m (zgs (zA h m) g)
@[simp] abbrev zMn (h:Host)(m:Int)(g:Int):Bool:=zdF h m (zhV (zA h m) g)
@[simp] abbrev zMk (h:Host)(m:Int)(g n:Int):Host:=zeh h m (zgr (zA h m) g n)
@[simp] abbrev zMl (h:Host)(m:Int)(g n:Int):Bool:=zdF h m (zhU (zA h m) g n)
@[simp] abbrev zUJ (h:Host)(m:Int)(g:Int)(x:Ctl):Host:=zeh h m (zi8 (zA h m) g x)
@[simp] abbrev zUK (h:Host)(m:Int)(g:Int)(x:Ctl):Bool:=zdF h m (zlm (zA h m) g x)
@[simp] abbrev zSw (h:Host)(m:Int)(n:Int):Host:=zeh h m (zjQ (zA h m) n)
@[simp] abbrev zSx (h:Host)(m:Int)(n:Int):Bool:=zdF h m (znc (zA h m) n)
@[simp] abbrev zUG (h:Host)(m:Int):Host:=zeh h m (zll (zA h m))
@[simp] abbrev zUH (h:Host)(m:Int):Int:=bif zcf h m then zpd (zA h m) else -1
@[simp] abbrev zUI (h:Host)(m:Int):Bool:=zdF h m (zpe (zA h m))
@[simp] abbrev zPO (h:Host)(m g p:Int):Bool:=zdF h m (zbM (zA h m) g (hasB p 4))
theorem zZW {b c:Bare}(hS:SameB b c)(n:Int):(ziz b n).Guests=(ziz c n).Guests/\(ziz b n).Pending=(ziz c n).Pending/\zes b n=zes c n:=by
 have e:zes b n=zes c n:=by unfold zes;rw[hS.o]
 unfold ziz;rw[e];cases zes c n
 .exact ⟨hS.g,hS.p,rfl⟩
 .unfold zCD;rw[hS.g];cases ieq (ln (zdK c.Guests n)) 0
  .exact ⟨by simp only[cT,cF],by simp only[cT,cF,hS.p],rfl⟩
  .exact ⟨by simp only[cT,hS.g],by simp only[cT,hS.p],rfl⟩
theorem z0B {b c:Bare}(hS:SameB b c):(zk0 b).Guests=(zk0 c).Guests/\(zk0 b).Pending=(zk0 c).Pending/\zql b=zql c/\zkg b=zkg c:=by
 unfold zk0 zql zkg;rw[hS.o,hS.p];cases zbV c
 .exact ⟨hS.g,hS.p,rfl,rfl⟩
 .exact ⟨hS.g,rfl,rfl,rfl⟩
theorem z0g {b:Bare}{n:Int}(h:SmB b):SmB (ziz b n):=by
 unfold ziz;cases zes b n
 .exact h
 .unfold zCD;cases ieq (ln (zdK b.Guests n)) 0
  .exact ⟨h.1,(zB6 _ zJG h.2.1).1,h.2.2⟩
  .exact h
theorem z18 {b:Bare}(h:SmB b):SmB (zk0 b):=by
 unfold zk0;cases zbV b
 .exact h
 .exact h
theorem zrD {H H':Host}{x y:Bool}(h1:H=H')(h2:x=y):some [AV.agg (zbh H),AV.one (.b x)]=some [AV.agg (zbh H'),AV.one (.b y)]:=by rw[h1,h2]
theorem z4p {H H':Host}{n k:Int}{x y:Bool}(h1:H=H')(h2:n=k)(h3:x=y):some [AV.agg (zbh H),AV.one (.i .i64 n),AV.one (.b x)]=some [AV.agg (zbh H'),AV.one (.i .i64 k),AV.one (.b y)]:=by rw[h1,h2,h3]
theorem zV9 {b:Bare}(g p:Int)(s:Slot)(hb:SmB b):SmB (zi9 b g p s):=zoU hb (z2c _ _ (zi0 _ hb))
theorem z1Z {b c:Bare}(hS:SameB b c)(h:Host)(m:Int)(g p:Int)(s:Slot):zcL h m (zi9 b g p s)=zcL h m (zi9 c g p s)/\zln b g p s=zln c g p s:=by
 have e:=hS.at g;simp only[zi9,zln,e];exact ⟨zoc hS _ _ _ _ _,zkj hS _ _⟩
@[simp] abbrev zu3 (h:Host)(m:Int)(g p:Int)(s:Slot):Bool:=pc (zbz h)
@[simp] abbrev zpz (h:Host)(m:Int)(g p:Int)(s:Slot):Host:=zeh h m (zi9 (zA h m) g p s)
@[simp] abbrev zpA (h:Host)(m:Int)(g p:Int)(s:Slot):Bool:=zdF h m (zln (zA h m) g p s)
def zyP:Run:=rF5 dH dI dI dI (dT .slot) fun b c d e f=>(zu3 b c d e f,[aH (zpz b c d e f),aB (zpA b c d e f)])
def zDZ (N:Nat)(a0:Host)(a1 a2 a3:Int)(a4:Slot):OA:=
 let y1:=(zk a0);let y0:=(ix y1.Mons a1 zf); (oN (zbE a0) (oN (zeZ y1 a1) (cond (nB (zeY y1 a1)) (some [(aH y1),(aB false)]) (oN (inb a1 (ln y1.Mons)) (oN (zee y0) (oN (zpo (zbA y0) a2 a3 a4) (oN (zed y1 a1 (zhz (zbA y0) a2 a3 a4)) (some [(aH (zgh y1 a1 (zhz (zbA y0) a2 a3 a4))),(aB (zjd (zbA y0) a2 a3 a4))]))))))))
theorem zPl (a0:Host)(a1 a2 a3:Int)(a4:Slot)(hc:zu3 a0 a1 a2 a3 a4=true):∃N,zDZ N a0 a1 a2 a3 a4=some [aH (zpz a0 a1 a2 a3 a4),aB (zpA a0 a1 a2 a3 a4)]:=by
 have hs:=(zJ a0).1 (zD.1 hc);refine ⟨0,?_⟩;have key:=zmm (h:=a0) (m:=a1) (cB:=zpo (zcz (ix a0.Mons a1 mZ)) a2 a3 a4) (B:=zhz (zcz (ix a0.Mons a1 mZ)) a2 a3 a4) (o0:=fun H=>[.agg (zbh H),.one (.b false)]) (o1:=fun H=>[.agg (zbh H),.one (.b (zjd (zcz (ix a0.Mons a1 mZ)) a2 a3 a4))]) hs
  (fun h0=>zW (zep (hs.2.1.2 _ (zbq (zci.1 h0).2 _)))) (fun h0=>zV9 _ _ _ (zep (hs.2.1.2 _ (zbq (zci.1 h0).2 _))))
 refine (show zDZ 0 a0 a1 a2 a3 a4=_ from key).trans ?_
 unfold zpz zpA zeh zdF;cases h0:zcf a0 a1
 .rfl
 .obtain ⟨e1,e2⟩:=z1Z (zie h0 (zmI h0)) a0 a1 a2 a3 a4;simp only[cT];exact zrD e1 e2
theorem zIu:vB 94 zyP:=kF5 zh9 zq zb0 zcF (zo []) zPl
theorem zJX {b:Bare}(g v:Int)(hb:SmB b):SmB (zgq b g v):=zoU hb (z19 _ (zi0 _ hb))
theorem zU7 {b c:Bare}(hS:SameB b c)(h:Host)(m:Int)(g v:Int):zcL h m (zgq b g v)=zcL h m (zgq c g v)/\zhT b g v=zhT c g v:=by
 have e:=hS.at g;simp only[zgq,zhT,e];exact ⟨zoc hS _ _ _ _ _,zkj hS _ _⟩
@[simp] abbrev zoL (h:Host)(m:Int)(g v:Int):Bool:=pc (zbz h)
@[simp] abbrev zkK (h:Host)(m:Int)(g v:Int):Host:=zeh h m (zgq (zA h m) g v)
@[simp] abbrev zkL (h:Host)(m:Int)(g v:Int):Bool:=zdF h m (zhT (zA h m) g v)
def zsz:Run:=rF4 dH dI dI dI fun b c d e=>(zoL b c d e,[aH (zkK b c d e),aB (zkL b c d e)])
def zvs (N:Nat)(a0:Host)(a1 a2 a3:Int):OA:=
 let y1:=(zk a0);let y0:=(ix y1.Mons a1 zf); (oN (zbE a0) (oN (zeZ y1 a1) (cond (nB (zeY y1 a1)) (some [(aH y1),(aB false)]) (oN (inb a1 (ln y1.Mons)) (oN (zee y0) (oN (zkD (zbA y0) a2 a3) (oN (zed y1 a1 (zfg (zbA y0) a2 a3)) (some [(aH (zgh y1 a1 (zfg (zbA y0) a2 a3))),(aB (zgt (zbA y0) a2 a3))]))))))))
theorem zGs (a0:Host)(a1 a2 a3:Int)(hc:zoL a0 a1 a2 a3=true):∃N,zvs N a0 a1 a2 a3=some [aH (zkK a0 a1 a2 a3),aB (zkL a0 a1 a2 a3)]:=by
 have hs:=(zJ a0).1 (zD.1 hc);refine ⟨0,?_⟩;have key:=zmm (h:=a0) (m:=a1) (cB:=zkD (zcz (ix a0.Mons a1 mZ)) a2 a3) (B:=zfg (zcz (ix a0.Mons a1 mZ)) a2 a3) (o0:=fun H=>[.agg (zbh H),.one (.b false)]) (o1:=fun H=>[.agg (zbh H),.one (.b (zgt (zcz (ix a0.Mons a1 mZ)) a2 a3))]) hs
  (fun h0=>zW (zep (hs.2.1.2 _ (zbq (zci.1 h0).2 _)))) (fun h0=>zJX _ _ (zep (hs.2.1.2 _ (zbq (zci.1 h0).2 _))))
 refine (show zvs 0 a0 a1 a2 a3=_ from key).trans ?_
 unfold zkK zkL zeh zdF;cases h0:zcf a0 a1
 .rfl
 .obtain ⟨e1,e2⟩:=zU7 (zie h0 (zmI h0)) a0 a1 a2 a3;simp only[cT];exact zrD e1 e2
theorem zAF:vB 96 zsz:=kF4 zh9 zq zb0 zcF (zo []) zGs
theorem zJZ {b:Bare}(g:Int)(hb:SmB b):SmB (zgs b g):=zoU hb (z2a (zi0 _ hb))
theorem zU9 {b c:Bare}(hS:SameB b c)(h:Host)(m:Int)(g:Int):zcL h m (zgs b g)=zcL h m (zgs c g)/\zhV b g=zhV c g:=by
 have e:=hS.at g;simp only[zgs,zhV,e];exact ⟨zoc hS _ _ _ _ _,zkj hS _ _⟩
@[simp] abbrev zoN (h:Host)(m:Int)(g:Int):Bool:=pc (zbz h)
@[simp] abbrev zkO (h:Host)(m:Int)(g:Int):Host:=zeh h m (zgs (zA h m) g)
@[simp] abbrev zkP (h:Host)(m:Int)(g:Int):Bool:=zdF h m (zhV (zA h m) g)
def zsB:Run:=rF3 dH dI dI fun b c d=>(zoN b c d,[aH (zkO b c d),aB (zkP b c d)])
def zvu (N:Nat)(a0:Host)(a1 a2:Int):OA:=
 let y1:=(zk a0);let y0:=(ix y1.Mons a1 zf); (oN (zbE a0) (oN (zeZ y1 a1) (cond (nB (zeY y1 a1)) (some [(aH y1),(aB false)]) (oN (inb a1 (ln y1.Mons)) (oN (zee y0) (oN (zkF (zbA y0) a2) (oN (zed y1 a1 (zfi (zbA y0) a2)) (some [(aH (zgh y1 a1 (zfi (zbA y0) a2))),(aB (zgv (zbA y0) a2))]))))))))
theorem zGu (a0:Host)(a1 a2:Int)(hc:zoN a0 a1 a2=true):∃N,zvu N a0 a1 a2=some [aH (zkO a0 a1 a2),aB (zkP a0 a1 a2)]:=by
 have hs:=(zJ a0).1 (zD.1 hc);refine ⟨0,?_⟩;have key:=zmm (h:=a0) (m:=a1) (cB:=zkF (zcz (ix a0.Mons a1 mZ)) a2) (B:=zfi (zcz (ix a0.Mons a1 mZ)) a2) (o0:=fun H=>[.agg (zbh H),.one (.b false)]) (o1:=fun H=>[.agg (zbh H),.one (.b (zgv (zcz (ix a0.Mons a1 mZ)) a2))]) hs
  (fun h0=>zW (zep (hs.2.1.2 _ (zbq (zci.1 h0).2 _)))) (fun h0=>zJZ _ (zep (hs.2.1.2 _ (zbq (zci.1 h0).2 _))))
 refine (show zvu 0 a0 a1 a2=_ from key).trans ?_
 unfold zkO zkP zeh zdF;cases h0:zcf a0 a1
 .rfl
 .obtain ⟨e1,e2⟩:=zU9 (zie h0 (zmI h0)) a0 a1 a2;simp only[cT];exact zrD e1 e2
theorem zAH:vB 97 zsB:=kF3 zh9 zq zb0 zcF (zo []) zGu
theorem zJY {b:Bare}(g n:Int)(hb:SmB b):SmB (zgr b g n):=zoU hb (zi0 (b:=b) _ hb)
theorem zU8 {b c:Bare}(hS:SameB b c)(h:Host)(m:Int)(g n:Int):zcL h m (zgr b g n)=zcL h m (zgr c g n)/\zhU b g n=zhU c g n:=by
 have e:=hS.at g;simp only[zgr,zhU,e];exact ⟨zoc hS _ _ _ _ _,zkj hS _ _⟩
@[simp] abbrev zoM (h:Host)(m:Int)(g n:Int):Bool:=pc (zbz h)
@[simp] abbrev zkM (h:Host)(m:Int)(g n:Int):Host:=zeh h m (zgr (zA h m) g n)
@[simp] abbrev zkN (h:Host)(m:Int)(g n:Int):Bool:=zdF h m (zhU (zA h m) g n)
def zsA:Run:=rF4 dH dI dI dI fun b c d e=>(zoM b c d e,[aH (zkM b c d e),aB (zkN b c d e)])
def zvt (N:Nat)(a0:Host)(a1 a2 a3:Int):OA:=
 let y1:=(zk a0);let y0:=(ix y1.Mons a1 zf); (oN (zbE a0) (oN (zeZ y1 a1) (cond (nB (zeY y1 a1)) (some [(aH y1),(aB false)]) (oN (inb a1 (ln y1.Mons)) (oN (zee y0) (oN (zkE (zbA y0) a2 a3) (oN (zed y1 a1 (zfh (zbA y0) a2 a3)) (some [(aH (zgh y1 a1 (zfh (zbA y0) a2 a3))),(aB (zgu (zbA y0) a2 a3))]))))))))
theorem zGt (a0:Host)(a1 a2 a3:Int)(hc:zoM a0 a1 a2 a3=true):∃N,zvt N a0 a1 a2 a3=some [aH (zkM a0 a1 a2 a3),aB (zkN a0 a1 a2 a3)]:=by
 have hs:=(zJ a0).1 (zD.1 hc);refine ⟨0,?_⟩;have key:=zmm (h:=a0) (m:=a1) (cB:=zkE (zcz (ix a0.Mons a1 mZ)) a2 a3) (B:=zfh (zcz (ix a0.Mons a1 mZ)) a2 a3) (o0:=fun H=>[.agg (zbh H),.one (.b false)]) (o1:=fun H=>[.agg (zbh H),.one (.b (zgu (zcz (ix a0.Mons a1 mZ)) a2 a3))]) hs
  (fun h0=>zW (zep (hs.2.1.2 _ (zbq (zci.1 h0).2 _)))) (fun h0=>zJY _ _ (zep (hs.2.1.2 _ (zbq (zci.1 h0).2 _))))
 refine (show zvt 0 a0 a1 a2 a3=_ from key).trans ?_
 unfold zkM zkN zeh zdF;cases h0:zcf a0 a1
 .rfl
 .obtain ⟨e1,e2⟩:=zU8 (zie h0 (zmI h0)) a0 a1 a2 a3;simp only[cT];exact zrD e1 e2
theorem zAG:vB 98 zsA:=kF4 zh9 zq zb0 zcF (zo []) zGt
theorem zV8 {b:Bare}(g:Int)(x:Ctl)(hb:SmB b):SmB (zi8 b g x):=zoU hb (zi0 (b:=b) _ hb)
theorem z1Y {b c:Bare}(hS:SameB b c)(h:Host)(m:Int)(g:Int)(x:Ctl):zcL h m (zi8 b g x)=zcL h m (zi8 c g x)/\zlm b g x=zlm c g x:=by
 have e:=hS.at g;simp only[zi8,zlm,e];exact ⟨zoc hS _ _ _ _ _,zkj hS _ _⟩
@[simp] abbrev zuZ (h:Host)(m:Int)(g:Int)(x:Ctl):Bool:=pc (zbz h)
@[simp] abbrev zpv (h:Host)(m:Int)(g:Int)(x:Ctl):Host:=zeh h m (zi8 (zA h m) g x)
@[simp] abbrev zpw (h:Host)(m:Int)(g:Int)(x:Ctl):Bool:=zdF h m (zlm (zA h m) g x)
def zyM:Run:=rF4 dH dI dI dC fun b c d e=>(zuZ b c d e,[aH (zpv b c d e),aB (zpw b c d e)])
def zDW (N:Nat)(a0:Host)(a1 a2:Int)(a3:Ctl):OA:=
 let y1:=(zk a0);let y0:=(ix y1.Mons a1 zf); (oN (zbE a0) (oN (zeZ y1 a1) (cond (nB (zeY y1 a1)) (some [(aH y1),(aB false)]) (oN (inb a1 (ln y1.Mons)) (oN (zee y0) (oN (zpn (zbA y0) a2 a3) (oN (zed y1 a1 (zhy (zbA y0) a2 a3)) (some [(aH (zgh y1 a1 (zhy (zbA y0) a2 a3))),(aB (zjc (zbA y0) a2 a3))]))))))))
theorem zPi (a0:Host)(a1 a2:Int)(a3:Ctl)(hc:zuZ a0 a1 a2 a3=true):∃N,zDW N a0 a1 a2 a3=some [aH (zpv a0 a1 a2 a3),aB (zpw a0 a1 a2 a3)]:=by
 have hs:=(zJ a0).1 (zD.1 hc);refine ⟨0,?_⟩;have key:=zmm (h:=a0) (m:=a1) (cB:=zpn (zcz (ix a0.Mons a1 mZ)) a2 a3) (B:=zhy (zcz (ix a0.Mons a1 mZ)) a2 a3) (o0:=fun H=>[.agg (zbh H),.one (.b false)]) (o1:=fun H=>[.agg (zbh H),.one (.b (zjc (zcz (ix a0.Mons a1 mZ)) a2 a3))]) hs
  (fun h0=>zW (zep (hs.2.1.2 _ (zbq (zci.1 h0).2 _)))) (fun h0=>zV8 _ _ (zep (hs.2.1.2 _ (zbq (zci.1 h0).2 _))))
 refine (show zDW 0 a0 a1 a2 a3=_ from key).trans ?_
 unfold zpv zpw zeh zdF;cases h0:zcf a0 a1
 .rfl
 .obtain ⟨e1,e2⟩:=z1Y (zie h0 (zmI h0)) a0 a1 a2 a3;simp only[cT];exact zrD e1 e2
theorem zIr:vB 99 zyM:=kF4 zh9 zq zb0 zcF (zo []) zPi
theorem zTf {b:Bare}(n:Int)(hb:SmB b):SmB (zjQ b n):=z0g hb
theorem zZ8 {b c:Bare}(hS:SameB b c)(h:Host)(m n:Int):zcL h m (zjQ b n)=zcL h m (zjQ c n)/\znc b n=znc c n:=by
 obtain ⟨e1,e2,e3⟩:=zZW hS n;exact ⟨back_eq e1 e2,e3⟩
@[simp] abbrev zsM (h:Host)(m:Int)(n:Int):Bool:=pc (zbz h)
@[simp] abbrev znE (h:Host)(m:Int)(n:Int):Host:=zeh h m (zjQ (zA h m) n)
@[simp] abbrev znF (h:Host)(m:Int)(n:Int):Bool:=zdF h m (znc (zA h m) n)
def zwk:Run:=rF3 dH dI dI fun b c d=>(zsM b c d,[aH (znE b c d),aB (znF b c d)])
def zzS (N:Nat)(a0:Host)(a1 a2:Int):OA:=
 let y1:=(zk a0);let y0:=(ix y1.Mons a1 zf); (oN (zbE a0) (oN (zeZ y1 a1) (cond (nB (zeY y1 a1)) (some [(aH y1),(aB false)]) (oN (inb a1 (ln y1.Mons)) (oN (zee y0) (oN (znw (zbA y0) a2) (oN (zed y1 a1 (zhZ (zbA y0) a2)) (some [(aH (zgh y1 a1 (zhZ (zbA y0) a2))),(aB (zjX (zbA y0) a2))]))))))))
theorem zLX (a0:Host)(a1 a2:Int)(hc:zsM a0 a1 a2=true):∃N,zzS N a0 a1 a2=some [aH (znE a0 a1 a2),aB (znF a0 a1 a2)]:=by
 have hs:=(zJ a0).1 (zD.1 hc);refine ⟨0,?_⟩;have key:=zmm (h:=a0) (m:=a1) (cB:=znw (zcz (ix a0.Mons a1 mZ)) a2) (B:=zhZ (zcz (ix a0.Mons a1 mZ)) a2) (o0:=fun H=>[.agg (zbh H),.one (.b false)]) (o1:=fun H=>[.agg (zbh H),.one (.b (zjX (zcz (ix a0.Mons a1 mZ)) a2))]) hs
  (fun h0=>zW (zep (hs.2.1.2 _ (zbq (zci.1 h0).2 _)))) (fun h0=>zTf _ (zep (hs.2.1.2 _ (zbq (zci.1 h0).2 _))))
 refine (show zzS 0 a0 a1 a2=_ from key).trans ?_
 unfold znE znF zeh zdF;cases h0:zcf a0 a1
 .rfl
 .obtain ⟨e1,e2⟩:=zZ8 (zie h0 (zmI h0)) a0 a1 a2;simp only[cT];exact zrD e1 e2
theorem zFW:vB 102 zwk:=kF3 zh9 zq zb0 zcF (zo []) zLX
theorem zV7 {b:Bare}(hb:SmB b):SmB (zll b):=z18 hb
theorem z1X {b c:Bare}(hS:SameB b c)(h:Host)(m:Int):zcL h m (zll b)=zcL h m (zll c)/\zpd b=zpd c/\zpe b=zpe c:=by
 obtain ⟨e1,e2,e3,e4⟩:=z0B hS;exact ⟨back_eq e1 e2,e3,e4⟩
@[simp] abbrev zuY (h:Host)(m:Int):Bool:=pc (zbz h)
@[simp] abbrev zpr (h:Host)(m:Int):Host:=zeh h m (zll (zA h m))
@[simp] abbrev zps (h:Host)(m:Int):Int:=bif zcf h m then zpd (zA h m) else -1
@[simp] abbrev zpt (h:Host)(m:Int):Bool:=zdF h m (zpe (zA h m))
def zyK:Run:=rF2 dH dI fun b c=>(zuY b c,[aH (zpr b c),aI (zps b c),aB (zpt b c)])
def zDU (N:Nat)(a0:Host)(a1:Int):OA:=
 let y1:=(zk a0);let y0:=(ix y1.Mons a1 zf); (oN (zbE a0) (oN (zeZ y1 a1) (cond (nB (zeY y1 a1)) (some [(aH y1),(aI (-1)),(aB false)]) (oN (inb a1 (ln y1.Mons)) (oN (zee y0) (oN (zpm (zbA y0)) (oN (zed y1 a1 (zhx (zbA y0))) (some [(aH (zgh y1 a1 (zhx (zbA y0)))),(aI (zja (zbA y0))),(aB (zjb (zbA y0)))]))))))))
theorem zPg (a0:Host)(a1:Int)(hc:zuY a0 a1=true):∃N,zDU N a0 a1=some [aH (zpr a0 a1),aI (zps a0 a1),aB (zpt a0 a1)]:=by
 have hs:=(zJ a0).1 (zD.1 hc);refine ⟨0,?_⟩;have key:=zmm (h:=a0) (m:=a1) (cB:=zpm (zcz (ix a0.Mons a1 mZ))) (B:=zhx (zcz (ix a0.Mons a1 mZ))) (o0:=fun H=>[.agg (zbh H),.one (.i .i64 (-1)),.one (.b false)]) (o1:=fun H=>[.agg (zbh H),.one (.i .i64 (zja (zcz (ix a0.Mons a1 mZ)))),.one (.b (zjb (zcz (ix a0.Mons a1 mZ))))]) hs
  (fun h0=>zW (zep (hs.2.1.2 _ (zbq (zci.1 h0).2 _)))) (fun h0=>zV7 (zep (hs.2.1.2 _ (zbq (zci.1 h0).2 _))))
 refine (show zDU 0 a0 a1=_ from key).trans ?_
 unfold zpr zps zpt zeh zdF;cases h0:zcf a0 a1
 .rfl
 .obtain ⟨e1,e2,e3⟩:=z1X (zie h0 (zmI h0)) a0 a1;simp only[cT];exact z4p e1 e2 e3
theorem zIp:vB 103 zyK:=kF2 zh9 zq zb0 zcF (zo []) zPg
def zYA:zO:=[(94,zyP),(96,zsz),(97,zsB),(98,zsA),(99,zyM),(102,zwk),(103,zyK)]++zYz
theorem zmp:zF zYA:=zh zIu (zh zAF (zh zAH (zh zAG (zh zIr (zh zFW (zh zIp zh9))))))
def ziG (h:Host)(m t:Int):Host:=bif zbK h then (cond (hasB m (ln h.Mons)) (cond (win t 0 3) { h with Mons:=up h.Mons m { ix h.Mons m mZ with Traps:=t } } h) h) else h
def zxZ (h:Host)(m t:Int):Bool:=bif zbK h then (cond (hasB m (ln h.Mons)) (win t 0 3) false) else false
@[simp] abbrev zsS (h:Host)(m t:Int):Bool:=pc (zbz h)
@[simp] abbrev znQ (h:Host)(m t:Int):Host:=ziG h m t
@[simp] abbrev znR (h:Host)(m t:Int):Bool:=zxZ h m t
def zwu:Run:=rF3 dH dI dI fun b c d=>(zsS b c d,[aH (znQ b c d),aB (znR b c d)])
def zz0 (N:Nat)(a0:Host)(a1 a2:Int):OA:=
 let y0:=(zk a0); (oN (zbE a0) (oN (zeQ y0) (cond (nB (zeP y0)) (some [(aH y0),(aB false)]) (oN (zI a1 0 (wsub .i64 (ln y0.Mons) 1)) (cond (nB (zL a1 0 (wsub .i64 (ln y0.Mons) 1))) (some [(aH y0),(aB false)]) (oN (zI a2 0 3) (cond (nB (zL a2 0 3)) (some [(aH y0),(aB false)]) (oN (inb a1 (ln y0.Mons)) (share (up y0.Mons a1 ({ (ix y0.Mons a1 zf) with Traps:=a2 }:Mon)) (fun x4=>(some [(aH ({ y0 with Mons:=x4 }:Host)),(aB true)])))))))))))
theorem zL6 (a0:Host)(a1 a2:Int)(hc:zsS a0 a1 a2=true):∃N,zz0 N a0 a1 a2=some [aH (znQ a0 a1 a2),aB (znR a0 a1 a2)]:=by
 have hs:=(zJ a0).1 (zD.1 hc);refine ⟨0,?_⟩;unfold zz0 znQ znR ziG zxZ oN nB
 conv=>zeta
 refine must hc (must rfl ?_);rw[show zeP (zk a0)=zbK a0 from rfl]
 cases hh:zbK a0
 .rfl
 .refine zcT rfl (must rfl ?_);rw[show zL a1 0 (wsub .i64 (ln (zk a0).Mons) 1)=hasB a1 (ln a0.Mons) from zM4 hh a1]
  cases hm:hasB a1 (ln a0.Mons)
  .rfl
  .refine zcT rfl (must rfl ?_);rw[show zL a2 0 3=win a2 0 3 from rfl]
   cases ht:win a2 0 3
   .rfl
   .exact zcT rfl (must (zB hm) rfl)
theorem zF6:vB 133 zwu:=kF3 zmp zq zb0 zcF (zo []) zL6
theorem zf9 {h:Host}{m p:Int}:(zbC h m p=true)↔zbK h=true/\hasB m (ln h.Mons)=true/\hasB p 8=true:=by
 unfold zbC;cases zbK h<;>cases hasB m (ln h.Mons)<;>simp
def zfn (h:Host)(m p:Int):Bool:=ieq (ix (ix h.Mons m mZ).Outer p sZ).Page (-1)
def zbL (h:Host)(m p:Int):Host:=bif zbC h m p then (cond (zfn h m p) h (zcO h m p)) else h
def ze8 (h:Host)(m p:Int):Bool:=bif zbC h m p then !zfn h m p else false
def zcH (h:Host)(m p:Int):Host:=bif zbC h m p then (cond (zfn h m p) (fetched h m p) h) else h
def zfe (h:Host)(m p:Int):Bool:=bif zbC h m p then zfn h m p else false
@[simp] abbrev zu7 (h:Host)(m p:Int):Bool:=pc (zbz h)
@[simp] abbrev zpC (h:Host)(m p:Int):Host:=zbL h m p
@[simp] abbrev zpD (h:Host)(m p:Int):Bool:=ze8 h m p
@[simp] abbrev zxO (h:Host)(m p:Int):Bool:=pc (zbz h)
@[simp] abbrev zrn (h:Host)(m p:Int):Host:=zcH h m p
@[simp] abbrev zro (h:Host)(m p:Int):Bool:=zfe h m p
@[simp] abbrev zo8 (h:Host)(m p:Int):Bool:=pc (zbz h)
@[simp] abbrev zi5 (h:Host)(m p:Int):Host:=zbL h m p
@[simp] abbrev zle (h:Host)(m p:Int):Bool:=ze8 h m p
@[simp] abbrev zxn (h:Host)(m p:Int):Bool:=pc (zbz h)
@[simp] abbrev zkp (h:Host)(m p:Int):Host:=zcH h m p
@[simp] abbrev zkq (h:Host)(m p:Int):Bool:=zfe h m p
theorem zJw {h:Host}(hs:SmH h)(hh:zbK h=true){m p:Int}(hm:hasB m (ln h.Mons)=true)(hp:hasB p 8=true) :
 (cond (ieq (ix (ix h.Mons m mZ).Outer p sZ).Page (-1)) (ieq (ix (ix h.Mons m mZ).Outer p sZ).Rights 0) false)=zfn h m p:=by
 have hf:=(zrg (zf5 hh _ (zbq hm mZ)) hp).no;unfold zcy at hf;unfold zfn;rw[<- hf];cases h1:ieq (ix (ix h.Mons m mZ).Outer p sZ).Page (-1)<;>simp [noSlot,h1]
theorem ztG {h:Host}(hs:SmH h)(hh:zbK h=true){m p:Int}(hm:hasB m (ln h.Mons)=true)(hp:hasB p 8=true):inb p (ln (ix h.Mons m mZ).Outer)=true :=
 zB (by rw[ln,((zdS hs hh).1.2 _ (zbq hm mZ)).1];exact hp)
def zyU:Run:=rF3 dH dI dI fun b c d=>(zu7 b c d,[aH (zpC b c d),aB (zpD b c d)])
def zD3 (N:Nat)(a0:Host)(a1 a2:Int):OA:=
 let y1:=(zk a0);let y0:=(ix y1.Mons a1 zf).Outer; (oN (zbE a0) (oN (zmC y1 a1 a2) (cond (nB (zgW y1 a1 a2)) (some [(aH y1),(aB false)]) (oN (inb a1 (ln y1.Mons)) (oN (inb a2 (ln y0)) (oN zcj (cond (cond (ieq (ix y0 a2 zK).Page zbr.Page) (ieq (ix y0 a2 zK).Rights zbr.Rights) false) (some [(aH y1),(aB false)]) (oN (zrz y1 a1 a2) (some [(aH (zxY y1 a1 a2)),(aB true)])))))))))
theorem zPq (a0:Host)(a1 a2:Int)(hc:zu7 a0 a1 a2=true):∃N,zD3 N a0 a1 a2=some [aH (zpC a0 a1 a2),aB (zpD a0 a1 a2)]:=by
 have hs:=(zJ a0).1 (zD.1 hc);refine ⟨0,?_⟩;unfold zD3 zpC zpD zbL ze8 oN nB
 conv=>zeta
 refine must hc (must rfl ?_);rw[show zgW (zk a0) a1 a2=zbC a0 a1 a2 from rfl]
 cases h0:zbC a0 a1 a2
 .rfl
 .obtain ⟨hh,hm,hp⟩:=zf9.1 h0;refine zcT rfl (must (zB hm) (must (ztG hs hh hm hp) (must rfl ?_)));rw[show (cond (ieq (ix (ix (zk a0).Mons a1 zf).Outer a2 zK).Page zbr.Page) (ieq (ix (ix (zk a0).Mons a1 zf).Outer a2 zK).Rights zbr.Rights) false)=zfn a0 a1 a2 from zJw hs hh hm hp]
  cases h1:zfn a0 a1 a2
  .exact zcT rfl (must (zW ⟨(zdS hs hh).1,hm,hp⟩) rfl)
  .rfl
theorem zIz:vB 130 zyU:=kF3 zmp zq zb0 zcF (zo []) zPq
def zqB:Run:=rF3 dH dI dI fun b c d=>(zo8 b c d,[aH (zi5 b c d),aB (zle b c d)])
def zDH (N:Nat)(a0:Host)(a1 a2:Int):OA:=
 let y0:=(ix a0.Mons a1 zf).Outer; (oN (zhQ a0) (oN (zlh a0 a1 a2) (cond (nB (zg6 a0 a1 a2)) (some [(aH (zcZ a0)),(aB false)]) (oN (inb a1 (ln a0.Mons)) (oN (inb a2 (ln y0)) (cond (ieq (ix y0 a2 zK).Page (-1)) (some [(aH (zcZ a0)),(aB false)]) (oN (zxr (zcZ a0) a1 a2) (some [(aH (zxs (zcZ a0) a1 a2)),(aB true)]))))))))
theorem zO3 (a0:Host)(a1 a2:Int)(hc:zo8 a0 a1 a2=true):∃N,zDH N a0 a1 a2=some [aH (zi5 a0 a1 a2),aB (zle a0 a1 a2)]:=by
 have hs:=(zJ a0).1 (zD.1 hc);refine ⟨0,?_⟩;unfold zDH zi5 zle zbL ze8 oN nB
 conv=>zeta
 refine must hc (must rfl ?_);rw[show zg6 a0 a1 a2=zbC a0 a1 a2 from rfl]
 cases h0:zbC a0 a1 a2
 .rfl
 .obtain ⟨hh,hm,hp⟩:=zf9.1 h0;refine zcT rfl (must (zB hm) (must (ztG hs hh hm hp) ?_));rw[show ieq (ix (ix a0.Mons a1 zf).Outer a2 zK).Page (-1)=zfn a0 a1 a2 from rfl]
  cases h1:zfn a0 a1 a2
  .exact zcT rfl (must (zW ⟨(zdS hs hh).1,hm,hp⟩) rfl)
  .rfl
theorem ztw:vB 17 zqB:=kF3 zmp zq zb0 zcF (zo []) zO3
def zBB:Run:=rF3 dH dI dI fun b c d=>(zxO b c d,[aH (zrn b c d),aB (zro b c d)])
def zHp (N:Nat)(a0:Host)(a1 a2:Int):OA:=
 let y1:=(zk a0);let y0:=(ix y1.Mons a1 zf).Outer; (oN (zbE a0) (oN (zmC y1 a1 a2) (cond (nB (zgW y1 a1 a2)) (some [(aH y1),(aB false)]) (oN (inb a1 (ln y1.Mons)) (oN (inb a2 (ln y0)) (oN zcj (cond (nB (cond (ieq (ix y0 a2 zK).Page zbr.Page) (ieq (ix y0 a2 zK).Rights zbr.Rights) false)) (some [(aH y1),(aB false)]) (oN (zuA y1 a1 a2) (some [(aH (zwH y1 a1 a2)),(aB true)])))))))))
theorem zR7 (a0:Host)(a1 a2:Int)(hc:zxO a0 a1 a2=true):∃N,zHp N a0 a1 a2=some [aH (zrn a0 a1 a2),aB (zro a0 a1 a2)]:=by
 have hs:=(zJ a0).1 (zD.1 hc);refine ⟨0,?_⟩;unfold zHp zrn zro zcH zfe oN nB
 conv=>zeta
 refine must hc (must rfl ?_);rw[show zgW (zk a0) a1 a2=zbC a0 a1 a2 from rfl]
 cases h0:zbC a0 a1 a2
 .rfl
 .obtain ⟨hh,hm,hp⟩:=zf9.1 h0;refine zcT rfl (must (zB hm) (must (ztG hs hh hm hp) (must rfl ?_)));rw[show (cond (ieq (ix (ix (zk a0).Mons a1 zf).Outer a2 zK).Page zbr.Page) (ieq (ix (ix (zk a0).Mons a1 zf).Outer a2 zK).Rights zbr.Rights) false)=zfn a0 a1 a2 from zJw hs hh hm hp]
  cases h1:zfn a0 a1 a2
  .rfl
  .exact zcT rfl (must (zW ⟨zdS hs hh,hm,hp⟩) rfl)
theorem zLc:vB 131 zBB:=kF3 zmp zq zb0 zcF (zo []) zR7
def zss:Run:=rF3 dH dI dI fun b c d=>(zxn b c d,[aH (zkp b c d),aB (zkq b c d)])
def zG4 (N:Nat)(a0:Host)(a1 a2:Int):OA:=
 let y0:=(ix a0.Mons a1 zf).Outer; (oN (zhQ a0) (oN (zlh a0 a1 a2) (cond (nB (zg6 a0 a1 a2)) (some [(aH (zcZ a0)),(aB false)]) (oN (inb a1 (ln a0.Mons)) (oN (inb a2 (ln y0)) (cond (ine (ix y0 a2 zK).Page (-1)) (some [(aH (zcZ a0)),(aB false)]) (oN (zAP (zcZ a0) a1 a2) (some [(aH (ztD (zcZ a0) a1 a2)),(aB true)]))))))))
theorem zRK (a0:Host)(a1 a2:Int)(hc:zxn a0 a1 a2=true):∃N,zG4 N a0 a1 a2=some [aH (zkp a0 a1 a2),aB (zkq a0 a1 a2)]:=by
 have hs:=(zJ a0).1 (zD.1 hc);refine ⟨0,?_⟩;unfold zG4 zkp zkq zcH zfe oN nB
 conv=>zeta
 refine must hc (must rfl ?_);rw[show zg6 a0 a1 a2=zbC a0 a1 a2 from rfl]
 cases h0:zbC a0 a1 a2
 .rfl
 .obtain ⟨hh,hm,hp⟩:=zf9.1 h0;refine zcT rfl (must (zB hm) (must (ztG hs hh hm hp) ?_));rw[show ine (ix (ix a0.Mons a1 zf).Outer a2 zK).Page (-1) = !zfn a0 a1 a2 from zku _ _]
  cases h1:zfn a0 a1 a2
  .rfl
  .exact zcT rfl (must (zW ⟨zdS hs hh,hm,hp⟩) rfl)
theorem zvI:vB 16 zss:=kF3 zmp zq zb0 zcF (zo []) zRK
def zYB:zO:=[(133,zwu),(130,zyU),(17,zqB),(131,zBB),(16,zss)]++zYA
theorem zNx:zF zYB:=zh zF6 (zh zIz (zh ztw (zh zLc (zh zvI zmp))))
theorem zX6 {x:Mon}{b:Bare}(h:zeF x)(hb:zlT b.Guests):zeF (ztl x b):=⟨h.1,h.2.1,h.2.2.1,hb,h.2.2.2.2⟩
theorem zGJ {h:Host}{m:Int}{b:Bare}(hs:SmH h)(hm:hasB m (ln h.Mons)=true)(hb:zlT b.Guests):SmH (zcL h m b) :=
 ⟨hs.1,zif hs.2.1 (zX6 (hs.2.1.2 _ (zbq hm _)) hb),hs.2.2⟩
theorem zQC {h:Host}{m:Int}(b:Bare)(hm:hasB m (ln h.Mons)=true):hasB m (ln (zcL h m b).Mons)=true:=by
 show hasB m (ln (up h.Mons m _))=true
 rw[ln,zfE];exact hm
theorem z4g {h:Host}{m:Int}(b:Bare)(hm:hasB m (ln h.Mons)=true):ix (zcL h m b).Mons m mZ=ztl (ix h.Mons m mZ) b:=by
 obtain ⟨k,rfl,hk⟩:=zdA (n:=h.Mons.length) hm;exact zdx hk _ _
def zAs (h:Host)(m g p:Int):Host:=⟨h.Memory,up h.Mons m { ix h.Mons m mZ with Tables:=up (ix h.Mons m mZ).Tables g (zbI (ix (ix h.Mons m mZ).Tables g kZ) p) },zcn h.Buffer (zek m g) p,zcn h.IoBuffer (zek m g) p⟩
def zY8 (H:Host)(m g p:Int)(o:Host->Ans):OA:=
 bif inb m (ln H.Mons) then (bif inb m (ln H.Mons) then (bif inb g (ln (ix H.Mons m mZ).Tables) then (bif zkI (ix (ix H.Mons m mZ).Tables g kZ) p then (bif inb g (ln (ix H.Mons m mZ).Tables) then (share (up H.Mons m { ix H.Mons m mZ with Tables:=up (ix H.Mons m mZ).Tables g (zbI (ix (ix H.Mons m mZ).Tables g kZ) p) }) fun x =>
  (cond (zj0 m g) (cond (zfP H.Buffer (zek m g) p) (cond (zj0 m g) (cond (zfP H.IoBuffer (zek m g) p) (some (o ⟨H.Memory,x,zcn H.Buffer (zek m g) p,zcn H.IoBuffer (zek m g) p⟩)) none) none) none) none)) else none) else none) else none) else none) else none
theorem zY9 {H:Host}{m g p:Int}{o:Host->Ans}(hs:SmH H)(hm:hasB m (ln H.Mons)=true)(hg:hasB g (ln (ix H.Mons m mZ).Tables)=true):zY8 H m g p o=some (o (zAs H m g p)):=by
 have hx:=hs.2.1.2 _ (zbq hm mZ);unfold zY8;exact must (zB hm) (must (zB hm) (must (zB hg) (must (zW (hx.2.2.2.2.2.2 _ (zbq hg _))) (must (zB hg) (shr (must rfl (must (zW hs.2.2.1) (must rfl (must (zW hs.2.2.2) rfl)))))))))
def zjH (h:Host)(m g p:Int):Host:=bif zcf h m then (cond (zbM (zA h m) g (hasB p 4)) (zAs (zcL h m (chg (zA h m) g (hasB p 4) (zdo (gAt (zA h m) g) p))) m g p) h) else h
@[simp] abbrev zqP (h:Host)(m g p:Int):Bool:=pc (zbz h)
@[simp] abbrev zlP (h:Host)(m g p:Int):Host:=zjH h m g p
@[simp] abbrev zlQ (h:Host)(m g p:Int):Bool:=zdF h m (zbM (zA h m) g (hasB p 4))
theorem zVa {h:Host}{m:Int}(hm:hasB m (ln h.Mons)=true):(zA h m).Guests=(ix h.Mons m mZ).Guests:=by unfold zA;rw[hm];rfl
theorem zNN {h:Host}{m g:Int}{k:Bool}(hs:SmH h)(h0:zcf h m=true)(b:Bare)(hk:zbM (zA h m) g k=true):hasB g (ln (ix (zcL h m b).Mons m mZ).Tables)=true:=by
 obtain ⟨hh,hm⟩:=zci.1 h0;rw[z4g b hm]
 show hasB g (ln (ix h.Mons m mZ).Tables)=true
 rw[ln,((zdS hs hh).1.2 _ (zbq hm mZ)).2.2.2,<- zVa hm];unfold zbM at hk;cases hb:zbZ (zA h m) g
 .rw [hb]at hk;cases hk
 .exact (zdf.1 hb).2
def zt1:Run:=rF4 dH dI dI dI fun b c d e=>(zqP b c d e,[aH (zlP b c d e),aB (zlQ b c d e)])
def zyq (N:Nat)(a0:Host)(a1 a2 a3:Int):OA:=
 let y5:=(zrO a1 a2);let y3:=(zk a0);let y2:=(ix y3.Mons a1 zf);let y0:=(zgh y3 a1 (zei (zbA y2) a2 a3));let y1:=(ix y0.Mons a1 zf);let y4:=(ix y1.Tables a2 zef); (oN (zbE a0) (oN (zeZ y3 a1) (cond (nB (zeY y3 a1)) (some [(aH y3),(aB false)]) (oN (inb a1 (ln y3.Mons)) (oN (zee y2) (oN (zqM (zbA y2) a2 a3) (cond (nB (zgU (zbA y2) a2 a3)) (some [(aH y3),(aB false)]) (oN (zed y3 a1 (zei (zbA y2) a2 a3)) (oN (inb a1 (ln y0.Mons)) (oN (inb a1 (ln y0.Mons)) (oN (inb a2 (ln y1.Tables)) (oN (zkI y4 a3) (oN (inb a2 (ln y1.Tables)) (share (up y0.Mons a1 ({ y1 with Tables:=(up y1.Tables a2 (zjY y4 a3)) }:Mon)) (fun x5=>(oN (zj0 a1 a2) (oN (zfP y0.Buffer y5 a3) (oN (zj0 a1 a2) (oN (zfP y0.IoBuffer y5 a3) (some [(aH (⟨y0.Memory,x5,(zls y0.Buffer y5 a3),(zls y0.IoBuffer y5 a3)⟩:Host)),(aB true)]))))))))))))))))))))
theorem zJl (a0:Host)(a1 a2 a3:Int)(hb:zbG big [aH a0,aI a1,aI a2,aI a3])(hc:zqP a0 a1 a2 a3=true):∃N,zyq N a0 a1 a2 a3=some [aH (zlP a0 a1 a2 a3),aB (zlQ a0 a1 a2 a3)]:=by
 have hs:=(zJ a0).1 (zD.1 hc);refine ⟨0,?_⟩;unfold zyq zlP zlQ zjH zdF oN nB
 conv=>zeta
 refine must hc (must rfl ?_);rw[show zeY (zk a0) a1=zcf a0 a1 from rfl]
 cases h0:zcf a0 a1
 .rfl
 .obtain ⟨hh,hm⟩:=zci.1 h0;have hx:=hs.2.1.2 _ (zbq hm mZ);have hv:=zep hx;have hS:=zie h0 (zmI h0);have hk:zbM (zcz (ix a0.Mons a1 mZ)) a2 (hasB a3 4)=zbM (zA a0 a1) a2 (hasB a3 4):=zkj hS _ _;have hB:zcL a0 a1 (zei (zcz (ix a0.Mons a1 mZ)) a2 a3)=zcL a0 a1 (chg (zA a0 a1) a2 (hasB a3 4) (zdo (gAt (zA a0 a1) a2) a3)):=by
   rw[<- hS.at];exact zoc hS _ _ _ _ _
  refine zcT rfl (must (zB hm) (must (zW hx) (must (zW hv) ?_)));rw[show zgU (zbA (ix (zk a0).Mons a1 zf)) a2 a3=zbM (zA a0 a1) a2 (hasB a3 4) from hk]
  cases hf:zbM (zA a0 a1) a2 (hasB a3 4)
  .rfl
  .have hb:SmB (zei (zcz (ix a0.Mons a1 mZ)) a2 a3):=zoU hv (zJ0 _ (zi0 _ hv));refine zcT rfl (must (zW ⟨hm,hb.2.1⟩) ?_);have key:=zY9 (H:=zcL a0 a1 (zei (zcz (ix a0.Mons a1 mZ)) a2 a3)) (m:=a1) (g:=a2) (p:=a3) (o:=fun H=>[.agg (zbh H),.one (.b true)]) (zGJ hs hm hb.2.1) (zQC _ hm) (zNN hs h0 _ hf);refine (show _=_ from key).trans ?_
   rw[hB];rfl
theorem zC6:vB 95 zt1:=hF4 zNx zq zb0 zcF (zo []) zJl
def zYC:zO:=[(95,zt1)]++zYB
theorem zNy:zF zYC:=zh zC6 zNx
def zS1 (h:Host)(m p c v:Int):Host:={ mended h m p 2 with Memory:=zbx (mended h m p 2).Memory (ix (ix (mended h m p 2).Mons m mZ).Outer p sZ).Page c v }
def zeJ (h:Host)(m p c v:Int):Bool:=bif zbC h m p then (cond (hasB c 4) (win v 0 99) false) else false
def zlY (h:Host)(m p c v:Int):Host:=bif zeJ h m p c v then zS1 h m p c v else h
@[simp] abbrev zsL (h:Host)(m p c v:Int):Bool:=pc (zbz h)
@[simp] abbrev znC (h:Host)(m p c v:Int):Host:=zlY h m p c v
@[simp] abbrev znD (h:Host)(m p c v:Int):Bool:=zeJ h m p c v
def z3S (H:Host)(m p c v:Int)(o:Host->Ans):OA:=
 bif zlE H m p 2 then (cond (inb m (ln (mended H m p 2).Mons)) (cond (inb p (ln (ix (mended H m p 2).Mons m mZ).Outer)) (cond (zh3 (mended H m p 2).Memory (ix (ix (mended H m p 2).Mons m mZ).Outer p sZ).Page c v) (some (o (zS1 H m p c v))) none) none) none) else none
theorem z1P {h:Host}{m p c v:Int}{o:Host->Ans}(hs:SmH h)(h0:zbC h m p=true):z3S h m p c v o=some (o (zS1 h m p c v)):=by
 obtain ⟨hh,hm,hp⟩:=zf9.1 h0;have hf:=zdS hs hh;obtain ⟨h1,h2⟩:=zsZ (n:=2) hf hm hp;unfold z3S;refine must (zW ⟨hf,hm,hp,.inr rfl,zrg (zf5 hh _ (zbq hm mZ)) hp⟩) (must (zB h2) (must (zB ?_) (must (zW h1.1.1) rfl)));rw[ln,(h1.2 _ (zbq h2 mZ)).1];exact hp
def zwj:Run:=rF5 dH dI dI dI dI fun b c d e f=>(zsL b c d e f,[aH (znC b c d e f),aB (znD b c d e f)])
def zzR (N:Nat)(a0:Host)(a1 a2:Int)(a3 a4:Int):OA:=
 let y2:=(zk a0);let y0:=(zmD y2 a1 a2 2);let y1:=(ix y0.Mons a1 zf).Outer;let y3:=(ix y1 a2 zK).Page; (oN (zbE a0) (oN (zmC y2 a1 a2) (cond (nB (zgW y2 a1 a2)) (some [(aH y2),(aB false)]) (oN (zI a3 0 3) (cond (nB (zL a3 0 3)) (some [(aH y2),(aB false)]) (oN (zI a4 0 99) (cond (nB (zL a4 0 99)) (some [(aH y2),(aB false)]) (oN (zlE y2 a1 a2 2) (oN (inb a1 (ln y0.Mons)) (oN (inb a2 (ln y1)) (oN (zh3 y0.Memory y3 a3 a4) (some [(aH ({ y0 with Memory:=(ziD y0.Memory y3 a3 a4) }:Host)),(aB true)]))))))))))))
theorem zLW (a0:Host)(a1 a2:Int)(a3 a4:Int)(hc:zsL a0 a1 a2 a3 a4=true):∃N,zzR N a0 a1 a2 a3 a4=some [aH (znC a0 a1 a2 a3 a4),aB (znD a0 a1 a2 a3 a4)]:=by
 have hs:=(zJ a0).1 (zD.1 hc);refine ⟨0,?_⟩;unfold zzR znC znD zlY zeJ oN nB
 conv=>zeta
 refine must hc (must rfl ?_);rw[show zgW (zk a0) a1 a2=zbC a0 a1 a2 from rfl]
 cases h0:zbC a0 a1 a2
 .rfl
 .refine zcT rfl (must rfl ?_);rw[show zL a3 0 3=hasB a3 4 from z6L a3]
  cases h1:hasB a3 4
  .rfl
  .refine zcT rfl (must rfl ?_);rw[show zL a4 0 99=win a4 0 99 from rfl]
   cases h2:win a4 0 99
   .rfl
   .have key:=z1P (c:=a3) (v:=a4) (o:=fun H=>[.agg (zbh H),.one (.b true)]) hs h0;exact zcT rfl (show _=_ from key)
theorem zFV:vB 101 zwj:=kF5 zNy zq zb0 zcF (zo []) zLW
def zYD:zO:=[(101,zwj)]++zYC
theorem zYE:zF zYD:=zh zFV zNy
def zYF:zO:=zYD
theorem zAm:zF zYF:=zYE
theorem zZB (h:Host)(b:List Entry)(m g page need:Int)(io:Bool):(lookOf h b m g page need io).2.2=zbS h m g page need:=by
 cases hl:zbS h m g page need
 .rw [zmv hl]
 .rw [zSv hl];unfold zg8 zg9;generalize zgR b m g page need=x;cases x
  .generalize zeu _ m g page need=y;cases y<;>rfl
  .rfl
theorem z5e {h:Host}{m g page need:Int}(b:List Entry)(io:Bool)(hs:SmH h)(hl:zbS h m g page need=true):SmM (lookOf h b m g page need io).1.Memory:=by
 have hg:zbJ h m g=true:=by
  unfold zbS at hl;cases h1:zbJ h m g
  .rw [h1]at hl;cases hl
  .rfl
 exact (zvQ hs hg).shape.1.1
def zAU (h:Host)(m g a n:Int):Host×Int×Bool:=lookOf h h.IoBuffer m g (zbe a) n true
def zf4 (h:Host)(m g a v:Int):Bool:=bif win a 0 15 then (cond (win v 0 99) (zbS h m g (zbe a) 2) false) else false
def zon (h:Host)(m g a v:Int):Host:=bif zf4 h m g a v then { (zAU h m g a 2).1 with Memory:=zbx (zAU h m g a 2).1.Memory (zAU h m g a 2).2.1 (zcU a) v } else h
def zfl (h:Host)(m g a:Int):Bool:=bif win a 0 15 then zbS h m g (zbe a) 1 else false
def zlZ (h:Host)(m g a:Int):Host:=bif zfl h m g a then (zAU h m g a 1).1 else h
def zp2 (h:Host)(m g a:Int):Int:=bif zfl h m g a then cellAt (zAU h m g a 1).1.Memory (zAU h m g a 1).2.1 (zcU a) else 0
@[simp] abbrev zu0 (h:Host)(m g a v:Int):Bool:=pc (zbz h)
@[simp] abbrev zpx (h:Host)(m g a v:Int):Host:=zon h m g a v
@[simp] abbrev zpy (h:Host)(m g a v:Int):Bool:=zf4 h m g a v
@[simp] abbrev zsN (h:Host)(m g a:Int):Bool:=pc (zbz h)
@[simp] abbrev znG (h:Host)(m g a:Int):Host:=zlZ h m g a
@[simp] abbrev znH (h:Host)(m g a:Int):Int:=zp2 h m g a
@[simp] abbrev znI (h:Host)(m g a:Int):Bool:=zfl h m g a
def zyN:Run:=rF5 dH dI dI dI dI fun b c d e f=>(zu0 b c d e f,[aH (zpx b c d e f),aB (zpy b c d e f)])
def zDX (N:Nat)(a0:Host)(a1 a2:Int)(a3 a4:Int):OA:=
 let y1:=(zk a0);let y2:=(zjk y1 y1.IoBuffer a1 a2 (zct a3) 2 true);let y0:=(zeD y1 y1.IoBuffer a1 a2 (zct a3) 2 true); (oN (zbE a0) (oN (zI a3 0 15) (cond (nB (zL a3 0 15)) (some [(aH y1),(aB false)]) (oN (zI a4 0 99) (cond (nB (zL a4 0 99)) (some [(aH y1),(aB false)]) (oN (zfC a3) (oN (zjl y1 y1.IoBuffer a1 a2 (zct a3) 2 true) (cond (nB (zgf y1 y1.IoBuffer a1 a2 (zct a3) 2 true)) (some [(aH y0),(aB false)]) (oN (zhY a3) (oN (zh3 y0.Memory y2 (zdU a3) a4) (some [(aH ({ y0 with Memory:=(ziD y0.Memory y2 (zdU a3) a4) }:Host)),(aB true)])))))))))))
theorem zPj (a0:Host)(a1 a2:Int)(a3 a4:Int)(hc:zu0 a0 a1 a2 a3 a4=true):∃N,zDX N a0 a1 a2 a3 a4=some [aH (zpx a0 a1 a2 a3 a4),aB (zpy a0 a1 a2 a3 a4)]:=by
 have hs:=(zJ a0).1 (zD.1 hc);refine ⟨0,?_⟩;unfold zDX zpx zpy zon zf4 oN nB
 conv=>zeta
 refine must hc (must rfl ?_);rw[show zL a3 0 15=win a3 0 15 from rfl]
 cases h1:win a3 0 15
 .rfl
 .refine zcT rfl (must rfl ?_);rw[show zL a4 0 99=win a4 0 99 from rfl]
  cases h2:win a4 0 99
  .rfl
  .refine zcT rfl (must rfl (must hc ?_));rw[show zgf (zk a0) (zk a0).IoBuffer a1 a2 (zct a3) 2 true=zbS a0 a1 a2 (zbe a3) 2 from zZB _ _ _ _ _ _ _]
   cases h3:zbS a0 a1 a2 (zbe a3) 2
   .rw [show zeD (zk a0) (zk a0).IoBuffer a1 a2 (zct a3) 2 true=a0 from congrArg Prod.fst (zmv h3)]
    rfl
   .exact zcT rfl (must rfl (must (zW (z5e a0.IoBuffer true hs h3)) rfl))
theorem zIs:vB 104 zyN:=kF5 zAm zq zb0 zcF (zo []) zPj
def zwl:Run:=rF4 dH dI dI dI fun b c d e=>(zsN b c d e,[aH (znG b c d e),aI (znH b c d e),aB (znI b c d e)])
def zzT (N:Nat)(a0:Host)(a1 a2 a3:Int):OA:=
 let y1:=(zk a0);let y2:=(zjk y1 y1.IoBuffer a1 a2 (zct a3) 1 true);let y0:=(zeD y1 y1.IoBuffer a1 a2 (zct a3) 1 true); (oN (zbE a0) (oN (zI a3 0 15) (cond (nB (zL a3 0 15)) (some [(aH y1),(aI 0),(aB false)]) (oN (zfC a3) (oN (zjl y1 y1.IoBuffer a1 a2 (zct a3) 1 true) (cond (nB (zgf y1 y1.IoBuffer a1 a2 (zct a3) 1 true)) (some [(aH y0),(aI 0),(aB false)]) (oN (zhY a3) (oN (zrk y0.Memory y2 (zdU a3)) (some [(aH y0),(aI (zl8 y0.Memory y2 (zdU a3))),(aB true)])))))))))
theorem zLY (a0:Host)(a1 a2 a3:Int)(hc:zsN a0 a1 a2 a3=true):∃N,zzT N a0 a1 a2 a3=some [aH (znG a0 a1 a2 a3),aI (znH a0 a1 a2 a3),aB (znI a0 a1 a2 a3)]:=by
 have hs:=(zJ a0).1 (zD.1 hc);refine ⟨0,?_⟩;unfold zzT znG znH znI zlZ zp2 zfl oN nB
 conv=>zeta
 refine must hc (must rfl ?_);rw[show zL a3 0 15=win a3 0 15 from rfl]
 cases h1:win a3 0 15
 .rfl
 .refine zcT rfl (must rfl (must hc ?_));rw[show zgf (zk a0) (zk a0).IoBuffer a1 a2 (zct a3) 1 true=zbS a0 a1 a2 (zbe a3) 1 from zZB _ _ _ _ _ _ _]
  cases h3:zbS a0 a1 a2 (zbe a3) 1
  .rw [show zeD (zk a0) (zk a0).IoBuffer a1 a2 (zct a3) 1 true=a0 from congrArg Prod.fst (zmv h3)]
   rfl
  .exact zcT rfl (must rfl (must rfl rfl))
theorem zFX:vB 105 zwl:=kF4 zAm zq zb0 zcF (zo []) zLY
def zYG:zO:=[(104,zyN),(105,zwl)]++zYF
theorem zYH:zF zYG:=zh zIs (zh zFX zAm)
def zYI:zO:=[(126,zoG),(127,zoE)]++zYG
theorem zNz:zF zYI:=zh zr9 (zh zr8 zYH)
def zi7:Kept:=⟨rp 4 false,zkb⟩
@[simp] abbrev zu5 (n:Int):Bool:=ieq n 4
@[simp] abbrev zuz (n:Int):Kept:=zi7
def zyR:Run:=rF1 dI fun b=>(zu5 b,[aT .kept (zuz b)])
def zTY (N:Nat)(a0:Int):OA:=
 let y0:=(ln (zf1 a0)); (oN (zh2 a0) (oN (cond (few y0) (ieq y0 y0) false) (some [(aT .kept (⟨(rp y0 false),(zf1 a0)⟩:Kept))])))
theorem zPn (a0:Int)(hc:zu5 a0=true):∃N,zTY N a0=some [aT .kept (zuz a0)]:=by
 refine ⟨0,?_⟩;have h:a0=4:=qE hc;subst h
 change _=_
 kernel_rfl
theorem zIw:vB 128 zyR:=kF1 zNz zq zb0 zcF (zo []) zPn
def zYJ:zO:=[(128,zyR)]++zYI
theorem zNA:zF zYJ:=zh zIw zNz
def zs4:List Slot:=List.replicate 8 ⟨-1,0⟩
def zfU (ps:List (List Ins)):Mon:=⟨zs4,zMp,rp 8 false,(ps.take 2).map zel,[],0,0,(ps.take 2).map (fun _=>zi7),0⟩
theorem zJq {α β γ ρ:Type}(m:Nat)(f:α->β)(g:α->γ)(K:List β×List γ->Option ρ):∀(l:List α) (i:Nat) (u:List β×List γ),u.1.length+l.length<=2147483648->u.2.length+l.length<=2147483648 ->
 goL (fun (i:Nat) x (u:List β×List γ) k=>bif ilt (i:Int) (m:Int) then (cond (few (ln (ap u.1 [f x]))) (cond (few (ln (ap u.2 [g x]))) (k (ap u.1 [f x],ap u.2 [g x])) none) none) else K u) K l i u=K (u.1++(l.take (m-i)).map f,u.2++(l.take (m-i)).map g)
 | [],i,u,_,_=>by simp[goL]
 | x :: l,i,u,h1,h2=>by
  simp only[qU]at h1 h2;have e1:few (ln (ap u.1 [f x]))=true:=zfT (by simp[ap];omega)
  have e2:few (ln (ap u.2 [g x]))=true:=zfT (by simp[ap];omega)
  by_cases h:i<m
  .have hi:ilt (i:Int) (m:Int)=true:=qI (by omega)
   simp only[goL,hi,e1,e2,cT];rw[zJq m f g K l (i+1) _ (by simp[ap];omega) (by simp[ap];omega)]
   rw[show m-i=m-(i+1)+1 by omega]
   simp[ap]
  .have hi:ilt (i:Int) (m:Int)=false:=qJ (by omega)
   simp only[goL,hi,cF];rw[show m-i=0 by omega]
   simp
def zZI (u:List Guest×List Kept):OA:=some [AV.agg (Ty.cells .mon (⟨zs4,zMp,rp 8 false,u.1,[],0,0,u.2,0⟩:Mon))]
@[simp] abbrev zrl (ps:List (List Ins)):Bool:=pc (z5R ps)
@[simp] abbrev zGG (ps:List (List Ins)):Mon:=zfU ps
def zBx:Run:=rF1 (dS (.sl .ins)) fun b=>(zrl b,[aT .mon (zGG b)])
def zHm (N:Nat)(a0:lP):OA:=
 (oN (zh2 8) (oN (znK 8) (oN (cond (few 8) (ieq 8 8) false) (iter (σ:=(Int×(Int×(Int×(Int×(Int×(Int×(Int×(lP×(lS×(lM×(lB×(lG×((List Int)×(lK×(lS×(lM×(lB×(lG×((List Int)×(lK×Unit))))))))))))))))))))) N (fun r2 s3=>let y8:=s3.2.2.2.2.2.2.2.2.2.2.2.2.2.2.1;let y7:=s3.2.2.2.2.2.2.2.2.2.2.2.2.2.2.2.1;let y6:=s3.2.2.2.2.2.2.2.2.2.2.2.2.2.2.2.2.1;let y5:=s3.2.2.2.2.2.2.2.2.2.2.2.2.2.2.2.2.2.1;let y4:=s3.2.2.2.2.2.2.2.2.2.2.2.2.2.2.2.2.2.2.1;let y3:=s3.2.2.2.2.2.2.2.1;let y2:=s3.2.2.2.2.2.2.2.2.2.2.2.2.2.2.2.2.2.2.2.1;let y1:=(ap y5 [(znA (ix y3 s3.1 []))]);let y0:=(aT .mon (⟨y8,y7,y6,y5,y4,s3.2.2.2.2.1,s3.2.2.2.2.2.1,y2,s3.2.2.2.2.2.2.1⟩:Mon)); (cond (ilt s3.1 (ln y3)) (cond (ilt s3.1 2) (oN (inb s3.1 (ln y3)) (oN (znB (ix y3 s3.1 [])) (oN (few (ln y1)) (oN (zu5 4) (oN (few (ln (ap y2 [(zuz 4)]))) (r2 ((zG .i64 s3.1 1),(s3.2.1,(s3.2.2.1,(s3.2.2.2.1,(s3.2.2.2.2.1,(s3.2.2.2.2.2.1,(s3.2.2.2.2.2.2.1,(y3,(s3.2.2.2.2.2.2.2.2.1,(s3.2.2.2.2.2.2.2.2.2.1,(s3.2.2.2.2.2.2.2.2.2.2.1,(s3.2.2.2.2.2.2.2.2.2.2.2.1,(s3.2.2.2.2.2.2.2.2.2.2.2.2.1,(s3.2.2.2.2.2.2.2.2.2.2.2.2.2.1,(y8,(y7,(y6,(y1,(y4,((ap y2 [(zuz 4)]),())))))))))))))))))))))))))) (some [y0])) (some [y0]))) (0,(0,(0,(0,(0,(0,(0,(a0,([],([],([],([],([],([],((zf1 8),((ziA 8),((rp 8 false),([],([],([],()))))))))))))))))))))))))
def zTH:FuncId->Nat->Option Tmpl:=zo [(88,0,{ n:=36,tm:=[(0,.sl 0 []),(2,.lp 0 0),(3,.lp 1 0),(4,ti)],lo:=[(0,[.sl 1 [],.sl 2 [],.sl 3 [],.sl 4 [],.sl 5 [],ti,ti,.sl 6 [],ti]),(1,[.sl 7 [],.sl 8 [],.sl 9 [],.sl 10 [],.sl 11 [],ti,ti,.sl 12 [],ti])],ro:=[(0,(.sl .ins),false),(1,.slot,true),(2,(.sl .int),true),(3,.bool,true),(4,.guest,true),(5,.int,true),(6,.kept,true),(7,.slot,true),(8,(.sl .int),true),(9,.bool,true),(10,.guest,true),(11,.int,true),(12,.kept,true)] })]
theorem zR3 (a0:List lI)(hc:zrl a0=true):∃N,zHm N a0=some [aT .mon (zGG a0)]:=by
 have hs:=zD.1 hc;have hl:=zcb hs.1;refine zbP fun N hNN=>?_;unfold zHm oN
 conv=>zeta
 refine must rfl (must rfl (must rfl ?_));refine (zbc a0 (fun i (t:lG×lK)=>((i:Int),0,0,0,0,0,0,a0,[],[],[],[],[],[],(zf1 8),(ziA 8),(rp 8 false),t.1,[],t.2,())) _ (fun i (x:List Ins) (u:List Guest×List Kept) κ=>bif ilt (i:Int) ((2:Nat):Int) then (cond (few (ln (ap u.1 [zel x]))) (cond (few (ln (ap u.2 [zi7]))) (κ (ap u.1 [zel x],ap u.2 [zi7])) none) none) else zZI u) (fun (t:lG×lK)=>(some [(.agg (Ty.cells .mon (⟨(zf1 8),(ziA 8),(rp 8 false),t.1,[],0,0,t.2,0⟩:Mon)))])) (fun i hi t rec=>?_) (fun t rec=>?_) _ ([],[]) (hNN hl.1)).trans ?_
 .simp only [zbf hi,zN hi,zba hi,zT hi hl.1,cT];have hx:znB a0[i]=true:=zW (hs.2 _ (jE hi));simp only[hx,cT];rfl
 .simp only [zbd,cF]
 exact zJq 2 zel (fun _=>zi7) zZI a0 0 ([],[]) (by simpa using hl.2) (by simpa using hl.2)
theorem zK8:vB 88 zBx:=kF1 zNA zq zb0 zcF zTH zR3
def zYK:zO:=[(88,zBx)]++zYJ
theorem zNB:zF zYK:=zh zK8 zNA
def zXq:List (List Int):=List.replicate 12 [0,0,0,0]
def ze2 (ps:List (List (List Ins))):Host:=⟨zXq,(ps.take 3).map zfU,[],[]⟩
def zHG (ps:List (List (List Ins))):Prop:=ps.length<=1048576/\∀p∈ps,z5R p
@[simp] abbrev zu1 (ps:List (List (List Ins))):Bool:=pc (zHG ps)
@[simp] abbrev zgb (ps:List (List (List Ins))):Host:=ze2 ps
def zVN (t:List Mon):OA:=some [AV.agg (zbh ⟨zXq,t,[],[]⟩)]
def zyO:Run:=rF1 (dS (.sl (.sl .ins))) fun b=>(zu1 b,[aH (zgb b)])
def zDY (N:Nat)(a0:lQ):OA:=
 (oN (znK 12) (iter (σ:=(Int×(lQ×(lM×(lN×(lE×(lE×(lM×(lN×(lE×(lE×Unit))))))))))) N (fun r2 s3=>let y1:=(ap s3.2.2.2.2.2.2.2.1 [(zGG (ix s3.2.1 s3.1 []))]);let y0:=(aH (⟨s3.2.2.2.2.2.2.1,s3.2.2.2.2.2.2.2.1,s3.2.2.2.2.2.2.2.2.1,s3.2.2.2.2.2.2.2.2.2.1⟩:Host)); (cond (ilt s3.1 (ln s3.2.1)) (cond (ilt s3.1 3) (oN (inb s3.1 (ln s3.2.1)) (oN (zrl (ix s3.2.1 s3.1 [])) (oN (few (ln y1)) (r2 ((zG .i64 s3.1 1),(s3.2.1,(s3.2.2.1,(s3.2.2.2.1,(s3.2.2.2.2.1,(s3.2.2.2.2.2.1,(s3.2.2.2.2.2.2.1,(y1,(s3.2.2.2.2.2.2.2.2.1,(s3.2.2.2.2.2.2.2.2.2.1,())))))))))))))) (some [y0])) (some [y0]))) (0,(a0,([],([],([],([],((ziA 12),([],([],([],()))))))))))))
def zPY:FuncId->Nat->Option Tmpl:=zo [(62,0,{ n:=28,tm:=[(0,.sl 0 []),(2,.lp 0 0),(3,.lp 1 0),(4,ti)],lo:=[(0,[.sl 1 [],.sl 2 [],.sl 3 [],.sl 4 []]),(1,[.sl 5 [],.sl 6 [],.sl 7 [],.sl 8 []])],ro:=[(0,(.sl (.sl .ins)),false),(1,(.sl .int),true),(2,.mon,true),(3,.entry,true),(4,.entry,true),(5,(.sl .int),true),(6,.mon,true),(7,.entry,true),(8,.entry,true)] })]
theorem zPk (a0:List lP)(hc:zu1 a0=true):∃N,zDY N a0=some [aH (zgb a0)]:=by
 have hs:=zD.1 hc;have hl:=zcb hs.1;refine zbP fun N hNN=>?_;unfold zDY oN
 conv=>zeta
 refine must rfl ?_;refine (zbc a0 (fun i (t:lN)=>((i:Int),a0,[],[],[],[],(ziA 12),t,[],[],())) _ (fun i (x:List lI) (t:List Mon) κ=>bif ilt (i:Int) ((3:Nat):Int) then (cond (few (ln (ap t [zfU x]))) (κ (ap t [zfU x])) none) else zVN t) (fun (t:lN)=>(some [(.agg (zbh (⟨(ziA 12),t,[],[]⟩:Host)))])) (fun i hi t rec=>?_) (fun t rec=>?_) _ ([]) (hNN hl.1)).trans ?_
 .simp only [zbf hi,zN hi,zba hi,zT hi hl.1,cT];have hx:zrl a0[i]=true:=zW (hs.2 _ (jE hi));simp only[hx,cT];rfl
 .simp only [zbd,cF]
 exact zN4 3 zfU zVN a0 0 [] (by simpa using hl.2)
theorem zIt:vB 62 zyO:=kF1 zNB zq zb0 zcF zPY zPk
def zYL:zO:=[(62,zyO)]++zYK
theorem zNC:zF zYL:=zh zIt zNB
def zhN:Nat->Nat->Kept->Kept
 | 0,_,k=>k
 | n+1,i,k=>zhN n (i+1) (zbI k (i:Int))
def zim (k:Kept):Kept:=zhN k.Known.length 0 k
theorem zW4 (k:Kept)(p:Int):(zbI k p).Known.length=k.Known.length:=by
 unfold zbI;cases zdc k p
 .rfl
 .exact zfE _ _ _
theorem zvd:∀(n i:Nat) (k:Kept),SmK k->SmK (zhN n i k)
 | 0,_,_,h=>h
 | n+1,i,k,h=>zvd n (i+1) _ (zn0 h)
@[simp] abbrev zqO (k:Kept):Bool:=pc (SmK k)
@[simp] abbrev zuX (k:Kept):Kept:=zim k
def zt0:Run:=rF1 (dT .kept) fun b=>(zqO b,[aT .kept (zuX b)])
def zyp (N:Nat)(a0:Kept):OA:=
 (oN (zfq a0) (iter (σ:=(Int×(lB×(lS×(lB×(lS×Unit)))))) N (fun r2 s3=>let y0:=(⟨s3.2.1,s3.2.2.1⟩:Kept); (cond (ilt s3.1 (ln s3.2.1)) (oN (zkI y0 s3.1) (r2 ((zG .i64 s3.1 1),((zjY y0 s3.1).Known,((zjY y0 s3.1).Slots,(s3.2.2.2.1,(s3.2.2.2.2.1,()))))))) (some [(aT .kept y0)]))) (0,((zc9 a0).Known,((zc9 a0).Slots,([],([],())))))))
def zKo:FuncId->Nat->Option Tmpl:=zo [(176,0,{ n:=17,tm:=[(1,.lp 0 0),(2,.lp 1 0),(3,ti)],lo:=[(0,[.sl 0 [],.sl 1 []]),(1,[.sl 2 [],.sl 3 []])],ro:=[(0,.bool,true),(1,.slot,true),(2,.bool,true),(3,.slot,true)] })]
theorem zJk (a0:Kept)(hc:zqO a0=true):∃N,zyp N a0=some [aT .kept (zuX a0)]:=by
 have hs:=zD.1 hc;have hl:=zcb hs.1;refine zbP fun N hNN=>?_;unfold zyp oN
 conv=>zeta
 refine must (zbs ((zvv _).2 hs)) ?_;refine (zvP a0.Known.length (fun i (k:Kept)=>((i:Int),(k.Known,(k.Slots,([],([],())))))) _ (fun i k=>SmK k/\k.Known.length=a0.Known.length) (fun i k=>some [AV.agg (Ty.cells .kept (zhN (a0.Known.length-i) i k))]) (fun i k rec hi hI hr=>?_) (fun k rec hI=>?_) N 0 a0 ⟨hs,rfl⟩ (jU _) (hNN hl.1)).trans rfl
 .refine must (zbf (by rw[hI.2];exact hi)) (must (zW hI.1) ?_)
  have q:=hr (zbI k (i:Int)) ⟨zn0 hI.1,by rw[zW4];exact hI.2⟩
  rw[show a0.Known.length-i=a0.Known.length-(i+1)+1 by omega]
  rw[zT hi hl.1];exact q
 .refine zcT (by show ilt (a0.Known.length:Int) (ln k.Known)=false;rw[ln,hI.2];exact qJ (by omega)) ?_
  rw[kY];rfl
theorem zC5:vB 176 zt0:=kF1 zNC zq zb0 zcF zKo zJk
def zYM:zO:=[(176,zt0)]++zYL
theorem zND:zF zYM:=zh zC5 zNC
def ztm:Nat->Nat->List Kept->List Kept
 | 0,_,l=>l
 | n+1,j,l=>ztm n (j+1) (up l (j:Int) (zim (ix l (j:Int) kZ)))
def ztn (x:Mon)(n j:Nat):Mon:={ x with Tables:=ztm n j x.Tables }
def zmU:Nat->Nat->List Mon->List Mon
 | 0,_,t=>t
 | n+1,i,t=>zmU n (i+1) (up t (i:Int) (ztn (ix t (i:Int) mZ) (ix t (i:Int) mZ).Tables.length 0))
def cold (h:Host):Host:=⟨h.Memory,zmU h.Mons.length 0 h.Mons,[],[]⟩
theorem zJ2:∀(n j:Nat) (l:List Kept),j+n<=l.length->zz7 l->zz7 (ztm n j l)
 | 0,_,_,_,h=>h
 | n+1,j,l,hn,h=>by
  have hj:j<l.length:=by omega
  refine zJ2 n (j+1) _ (by rw[zfE];omega) (zwJ h (zvd _ _ _ ?_))
  rw[zba hj];exact h.2 _ (jE hj)
theorem zJ4 {x:Mon}(h:zeF x){n j:Nat}(hn:j+n<=x.Tables.length):zeF (ztn x n j):=⟨h.1,h.2.1,h.2.2.1,h.2.2.2.1,h.2.2.2.2.1,zJ2 n j _ hn h.2.2.2.2.2⟩
@[simp] abbrev zGE (h:Host):Bool:=pc (zbz h)
@[simp] abbrev zS5 (h:Host):Host:=cold h
def zJN:Run:=rF1 dH fun b=>(zGE b,[aH (zS5 b)])
def zQq (N:Nat)(a0:Host):OA:=
 (oN (zbE a0) (iter (σ:=(Int×(lM×(lN×(lE×(lE×(lM×(lN×(lE×(lE×Unit)))))))))) N (fun r2 s3=>(cond (ilt s3.1 (ln s3.2.2.1)) (iter (σ:=(Int×(Int×(lM×(lN×(lE×(lE×(lM×(lN×(lE×(lE×Unit))))))))))) N (fun r4 s5=>let y1:=(inb s5.1 (ln s5.2.2.2.1));let y0:=(ix s5.2.2.2.1 s5.1 zf);let y2:=(ix y0.Tables s5.2.1 zef); (oN y1 (cond (ilt s5.2.1 (ln y0.Tables)) (oN y1 (oN y1 (oN (inb s5.2.1 (ln y0.Tables)) (oN (zqO y2) (oN (inb s5.2.1 (ln y0.Tables)) (share (up s5.2.2.2.1 s5.1 ({ y0 with Tables:=(up y0.Tables s5.2.1 (zuX y2)) }:Mon)) (fun x6=>(r4 (s5.1,((zG .i64 s5.2.1 1),(s5.2.2.1,(x6,(s5.2.2.2.2.1,(s5.2.2.2.2.2.1,(s5.2.2.2.2.2.2.1,(s5.2.2.2.2.2.2.2.1,(s5.2.2.2.2.2.2.2.2.1,(s5.2.2.2.2.2.2.2.2.2.1,())))))))))))))))))) (r2 ((zG .i64 s5.1 1),(s5.2.2.1,(s5.2.2.2.1,(s5.2.2.2.2.1,(s5.2.2.2.2.2.1,(s5.2.2.2.2.2.2.1,(s5.2.2.2.2.2.2.2.1,(s5.2.2.2.2.2.2.2.2.1,(s5.2.2.2.2.2.2.2.2.2.1,()))))))))))))) (s3.1,(0,(s3.2.1,(s3.2.2.1,(s3.2.2.2.1,(s3.2.2.2.2.1,(s3.2.2.2.2.2.1,(s3.2.2.2.2.2.2.1,(s3.2.2.2.2.2.2.2.1,(s3.2.2.2.2.2.2.2.2.1,()))))))))))) (some [(aH (⟨s3.2.1,s3.2.2.1,[],[]⟩:Host))]))) (0,((zk a0).Memory,((zk a0).Mons,((zk a0).Buffer,((zk a0).IoBuffer,([],([],([],([],())))))))))))
def zYd:FuncId->Nat->Option Tmpl:=zo [(134,0,{ n:=48,tm:=[(1,.lp 0 0),(2,.lp 1 0),(3,ti)],lo:=[(0,[.sl 0 [],.sl 1 [],.sl 2 [],.sl 3 []]),(1,[.sl 4 [],.sl 5 [],.sl 6 [],.sl 7 []])],ro:=[(0,(.sl .int),true),(1,.mon,true),(2,.entry,true),(3,.entry,true),(4,(.sl .int),true),(5,.mon,true),(6,.entry,true),(7,.entry,true)] }),(134,2,{ n:=48,tm:=[(1,.lp 0 0),(2,.lp 1 0),(3,ti),(4,ti)],lo:=[(0,[.sl 0 [],.sl 1 [],.sl 2 [],.sl 3 []]),(1,[.sl 4 [],.sl 5 [],.sl 6 [],.sl 7 []])],ro:=[(0,(.sl .int),true),(1,.mon,true),(2,.entry,true),(3,.entry,true),(4,(.sl .int),true),(5,.mon,true),(6,.entry,true),(7,.entry,true)] })]
theorem zXn (a0:Host)(hc:zGE a0=true):∃N,zQq N a0=some [aH (zS5 a0)]:=by
 have hs:=(zJ a0).1 (zD.1 hc);have hl:=zcb hs.2.1.1;refine zbP fun N hNN=>?_;unfold zQq oN
 conv=>zeta
 refine must hc ?_;refine (zvP a0.Mons.length (fun i (t:List Mon)=>((i:Int),(a0.Memory,(t,(a0.Buffer,(a0.IoBuffer,([],([],([],([],())))))))))) _ (fun i t=>zpP t/\t.length=a0.Mons.length) (fun i t=>some [AV.agg (zbh ⟨a0.Memory,zmU (a0.Mons.length-i) i t,[],[]⟩)]) (fun i t rec hi hI hr=>?_) (fun t rec hI=>?_) N 0 a0.Mons ⟨hs.2.1,rfl⟩ (jU _) (hNN hl.1)).trans rfl
 .have hit:i<t.length:=by rw[hI.2];exact hi
  have hx:zeF (ix t (i:Int) mZ):=by rw[zba hit];exact hI.1.2 _ (jE hit)
  have hk:=zcb hx.2.2.2.2.2.1;refine must (zbf hit) ?_;refine (zvP (ix t (i:Int) mZ).Tables.length (fun j (u:List Mon)=>((i:Int),((j:Int),(a0.Memory,(u,(a0.Buffer,(a0.IoBuffer,([],([],([],([],())))))))))))
   _ (fun j u=>u.length=t.length/\zeF (ix u (i:Int) mZ)/\(ix u (i:Int) mZ).Tables.length=(ix t (i:Int) mZ).Tables.length)
   (fun j u=>rec (((i+1:Nat):Int),(a0.Memory,(up u (i:Int) (ztn (ix u (i:Int) mZ) ((ix t (i:Int) mZ).Tables.length-j) j),(a0.Buffer,(a0.IoBuffer,([],([],([],([],()))))))))))
   (fun j u rec1 hj hJ hr1=>?_) (fun u rec1 hJ=>?_) N 0 t ⟨rfl,hx,rfl⟩ (jU _) (hNN hk.1)).trans ?_
  .have hiu:i<u.length:=by rw[hJ.1];exact hit
   have hju:j<(ix u (i:Int) mZ).Tables.length:=by rw[hJ.2.2];exact hj
   have hkj:SmK (ix (ix u (i:Int) mZ).Tables (j:Int) kZ):=by rw[zba hju];exact hJ.2.1.2.2.2.2.2.2 _ (jE hju)
   refine must (zN hiu) (must (zbf hju) (must (zN hiu) (must (zN hiu) (must (zN hju) (must (zW hkj) (must (zN hju) (shr ?_)))))));have hn:zeF { ix u (i:Int) mZ with Tables:=up (ix u (i:Int) mZ).Tables (j:Int) (zim (ix (ix u (i:Int) mZ).Tables (j:Int) kZ)) } :=
    ⟨hJ.2.1.1,hJ.2.1.2.1,hJ.2.1.2.2.1,hJ.2.1.2.2.2.1,hJ.2.1.2.2.2.2.1,zwJ hJ.2.1.2.2.2.2.2 (zvd _ _ _ hkj)⟩
   have q:=hr1 (up u (i:Int) { ix u (i:Int) mZ with Tables:=up (ix u (i:Int) mZ).Tables (j:Int) (zim (ix (ix u (i:Int) mZ).Tables (j:Int) kZ)) }) ⟨by rw[zfE];exact hJ.1,by rw[zdx hiu];exact hn,by rw[zdx hiu];simp only[zfE];exact hJ.2.2⟩
   rw[zT hj hk.1];refine q.trans ?_;rw[zdx hiu,zpO,show (ix t (i:Int) mZ).Tables.length-j=(ix t (i:Int) mZ).Tables.length-(j+1)+1 by omega]
   rfl
  .have hiu:i<u.length:=by rw[hJ.1];exact hit
   refine must (zN hiu) (zcT (by show ilt ((ix t (i:Int) mZ).Tables.length:Int) (ln (ix u (i:Int) mZ).Tables)=false;rw[ln,hJ.2.2];exact qJ (by omega)) ?_)
   rw[zT hi hl.1,kY]
   show rec (_,(a0.Memory,(u,_)))=rec (_,(a0.Memory,(up u (i:Int) (ix u (i:Int) mZ),_)))
   rw[zM0 hiu]
  .have q:=hr (up t (i:Int) (ztn (ix t (i:Int) mZ) (ix t (i:Int) mZ).Tables.length 0)) ⟨zif hI.1 (zJ4 hx (by omega)),by rw[zfE];exact hI.2⟩
   refine q.trans ?_;rw[show a0.Mons.length-i=a0.Mons.length-(i+1)+1 by omega]
   rfl
 .refine zcT (by show ilt (a0.Mons.length:Int) (ln t)=false;rw[ln,hI.2];exact qJ (by omega)) ?_
  rw[kY];rfl
theorem zRo:vB 134 zJN:=kF1 zND zq zb0 zcF zYd zXn
def zYN:zO:=[(134,zJN)]++zYM
theorem zYO:zF zYN:=zh zRo zND
def zYP:zO:=zYN
theorem zNE:zF zYP:=zYO
theorem zzg:∀(n i:Nat) (t:List Mon),i+n<=t.length->zpP t->zpP (zmU n i t)
 | 0,_,_,_,h=>h
 | n+1,i,t,hn,h=>by
  have hi:i<t.length:=by omega
  refine zzg n (i+1) _ (by rw[zfE];omega) (zif h (zJ4 ?_ (by omega)))
  rw[zba hi];exact h.2 _ (jE hi)
theorem z2d {h:Host}(hs:SmH h):SmH (cold h):=⟨hs.1,zzg _ _ _ (by omega) hs.2.1,by simp[cold],by simp[cold]⟩
theorem zmj {h:Host}{m:Int}{b:Bare}(hs:SmH h)(hb:zcf h m=true->SmB b):SmH (zeh h m b):=by
 unfold zeh;cases h0:zcf h m
 .exact hs
 .exact zGJ hs (zci.1 h0).2 (hb h0).2.1
theorem z0i {h:Host}{m g p:Int}(hs:SmH h):SmH (zjH h m g p):=by
 unfold zjH;cases h0:zcf h m
 .exact hs
 .cases hk:zbM (zA h m) g (hasB p 4)
  .exact hs
  .have hm:=(zci.1 h0).2;have hv:=zTg hs hm;have hb:SmB (chg (zA h m) g (hasB p 4) (zdo (gAt (zA h m) g) p)):=zoU hv (zJ0 _ (zi0 _ hv));have h1:=zGJ hs hm hb.2.1;have h2:=zQC (chg (zA h m) g (hasB p 4) (zdo (gAt (zA h m) g) p)) hm;have h3:=zNN hs h0 (chg (zA h m) g (hasB p 4) (zdo (gAt (zA h m) g) p)) hk;have hx:=h1.2.1.2 _ (zbq h2 mZ);simp only[cT];exact ⟨h1.1,zif h1.2.1 ⟨hx.1,hx.2.1,hx.2.2.1,hx.2.2.2.1,hx.2.2.2.2.1,zwJ hx.2.2.2.2.2 (zn0 (hx.2.2.2.2.2.2 _ (zbq h3 _)))⟩,jB (zw7 _ _ _) h1.2.2.1,jB (zw7 _ _ _) h1.2.2.2⟩
theorem z2e {h:Host}{m p c v:Int}(hs:SmH h):SmH (zlY h m p c v):=by
 unfold zlY;cases hf:zeJ h m p c v
 .exact hs
 .have h0:zbC h m p=true:=by
   unfold zeJ at hf;cases hp:zbC h m p
   .rw [hp]at hf;cases hf
   .rfl
  obtain ⟨hh,hm,hp⟩:=zf9.1 h0;have h1:=(zsZ (n:=2) (zdS hs hh) hm hp).1.1;exact ⟨zx2 h1.1,h1.2⟩
theorem zSu {h:Host}{m g page need:Int}(b:List Entry)(io:Bool)(hs:SmH h)(hl:zbS h m g page need=true):SmH (lookOf h b m g page need io).1:=by
 have hg:zbJ h m g=true:=by
  unfold zbS at hl;cases h1:zbJ h m g
  .rw [h1]at hl;cases hl
  .rfl
 exact (zvQ hs hg).shape.1
theorem z5G {h:Host}{m g a v:Int}(hs:SmH h):SmH (zon h m g a v):=by
 unfold zon;cases hf:zf4 h m g a v
 .exact hs
 .have hl:zbS h m g (zbe a) 2=true:=by
   unfold zf4 at hf;cases h1:win a 0 15
   .rw [h1]at hf;cases hf
   .cases h2:win v 0 99
    .rw [h1,h2]at hf;cases hf
    .rw [h1,h2]at hf;exact hf
  have h1:=zSu h.IoBuffer true hs hl;exact ⟨zx2 h1.1,h1.2⟩
theorem z2f {h:Host}{m g a:Int}(hs:SmH h):SmH (zlZ h m g a):=by
 unfold zlZ;cases hf:zfl h m g a
 .exact hs
 .have hl:zbS h m g (zbe a) 1=true:=by
   unfold zfl at hf;cases h1:win a 0 15
   .rw [h1]at hf;cases hf
   .rw [h1]at hf;exact hf
  exact zSu h.IoBuffer true hs hl
theorem zMB {h:Host}{m p:Int}(hs:SmH h):SmH (zbL h m p):=by
 unfold zbL;cases h0:zbC h m p
 .exact hs
 .obtain ⟨hh,hm,hp⟩:=zf9.1 h0;cases zfn h m p
  .exact (zJV (zdS hs hh).1 hm).1
  .exact hs
theorem z0j {h:Host}{m p:Int}(hs:SmH h):SmH (zcH h m p):=by
 unfold zcH;cases h0:zbC h m p
 .exact hs
 .obtain ⟨hh,hm,hp⟩:=zf9.1 h0;cases zfn h m p
  .exact hs
  .exact (zlS (zdS hs hh) hm hp).1.1
theorem z0m {h:Host}{m t:Int}(hs:SmH h):SmH (ziG h m t):=by
 unfold ziG;cases zbK h
 .exact hs
 .cases hm:hasB m (ln h.Mons)
  .exact hs
  .cases win t 0 3
   .exact hs
   .have hx:zeF (ix h.Mons m mZ):=hs.2.1.2 _ (zbq hm mZ);exact ⟨hs.1,zif hs.2.1 ⟨hx.1,hx.2.1,hx.2.2.1,hx.2.2.2.1,hx.2.2.2.2.1,hx.2.2.2.2.2⟩,hs.2.2⟩
def zsg (h:Host)(a:GAct):Host:=bif ieq a.Kind 1 then (zbu h a.M a.G).1 else (cond (ieq a.Kind 2) (zUL h a.M a.G a.X ⟨a.Y,a.Z⟩) (cond (ieq a.Kind 3) (zjH h a.M a.G a.X) (cond (ieq a.Kind 4) (zMi h a.M a.G a.X) (cond (ieq a.Kind 5) (zMm h a.M a.G) (cond (ieq a.Kind 6) (zMk h a.M a.G a.X) (cond (ieq a.Kind 7) (zUJ h a.M a.G ⟨a.X,a.Y,ieq a.Z 1⟩) (cond (ieq a.Kind 8) (zlY h a.M a.X a.Y a.Z) (cond (ieq a.Kind 9) (zSw h a.M a.X) (cond (ieq a.Kind 10) (zUG h a.M) (cond (ieq a.Kind 11) (zon h a.M a.G a.X a.Y) (zlZ h a.M a.G a.X)))))))))))
def zAS (h:Host)(a:GAct):Told:=bif ieq a.Kind 1 then ⟨(zbu h a.M a.G).2,0⟩ else (cond (ieq a.Kind 2) ⟨zUM h a.M a.G a.X ⟨a.Y,a.Z⟩,0⟩ (cond (ieq a.Kind 3) ⟨zPO h a.M a.G a.X,0⟩ (cond (ieq a.Kind 4) ⟨zMj h a.M a.G a.X,0⟩ (cond (ieq a.Kind 5) ⟨zMn h a.M a.G,0⟩ (cond (ieq a.Kind 6) ⟨zMl h a.M a.G a.X,0⟩ (cond (ieq a.Kind 7) ⟨zUK h a.M a.G ⟨a.X,a.Y,ieq a.Z 1⟩,0⟩ (cond (ieq a.Kind 8) ⟨zeJ h a.M a.X a.Y a.Z,0⟩ (cond (ieq a.Kind 9) ⟨zSx h a.M a.X,0⟩ (cond (ieq a.Kind 10) ⟨zUI h a.M,zUH h a.M⟩ (cond (ieq a.Kind 11) ⟨zf4 h a.M a.G a.X a.Y,0⟩ (⟨zfl h a.M a.G a.X,zp2 h a.M a.G a.X⟩)))))))))))
def zlp (h:Host)(a:GAct):Host:=bif ieq a.Kind 13 then zbL h a.M a.X else (cond (ieq a.Kind 14) (zcH h a.M a.X) (cond (ieq a.Kind 15) (zeI h a.M a.X) (cond (ieq a.Kind 16) (ziG h a.M a.X) (cold h))))
def zJA (h:Host)(a:GAct):Told:=bif ieq a.Kind 13 then ⟨ze8 h a.M a.X,0⟩ else (cond (ieq a.Kind 14) ⟨zfe h a.M a.X,0⟩ (cond (ieq a.Kind 15) ⟨zbC h a.M a.X,0⟩ (cond (ieq a.Kind 16) ⟨zxZ h a.M a.X,0⟩ (⟨true,0⟩))))
def zd1 (h:Host)(a:GAct):Host:=bif win a.Kind 1 17 then (cond (win a.Kind 13 17) (zlp h a) (zsg h a)) else h
def ziq (h:Host)(a:GAct):Told:=bif win a.Kind 1 17 then (cond (win a.Kind 13 17) (zJA h a) (zAS h a)) else ⟨false,0⟩
theorem z0l {h:Host}{a:GAct}(hs:SmH h):SmH (zlp h a):=by
 unfold zlp;cases ieq a.Kind 13
 .cases ieq a.Kind 14
  .cases ieq a.Kind 15
   .cases ieq a.Kind 16
    .exact z2d hs
    .exact z0m hs
   .exact zOs hs
  .exact z0j hs
 .exact zMB hs
theorem z0k {h:Host}{a:GAct}(hs:SmH h):SmH (zsg h a):=by
 have hv:zcf h a.M=true->SmB (zA h a.M):=fun h0=>zTg hs (zci.1 h0).2;unfold zsg;cases ieq a.Kind 1
 .cases ieq a.Kind 2
  .cases ieq a.Kind 3
   .cases ieq a.Kind 4
    .cases ieq a.Kind 5
     .cases ieq a.Kind 6
      .cases ieq a.Kind 7
       .cases ieq a.Kind 8
        .cases ieq a.Kind 9
         .cases ieq a.Kind 10
          .cases ieq a.Kind 11
           .exact z2f hs
           .exact z5G hs
          .exact zmj hs (fun h0=>zV7 (hv h0))
         .exact zmj hs (fun h0=>zTf _ (hv h0))
        .exact z2e hs
       .exact zmj hs (fun h0=>zV8 _ _ (hv h0))
      .exact zmj hs (fun h0=>zJY _ _ (hv h0))
     .exact zmj hs (fun h0=>zJZ _ (hv h0))
    .exact zmj hs (fun h0=>zJX _ _ (hv h0))
   .exact z0i hs
  .exact zmj hs (fun h0=>zV9 _ _ _ (hv h0))
 .exact (zZ9 a.M a.G hs).sm
theorem zWc {h:Host}{a:GAct}(hs:SmH h):SmH (zd1 h a):=by
 unfold zd1;cases win a.Kind 1 17
 .exact hs
 .cases win a.Kind 13 17
  .exact z0k hs
  .exact z0l hs
@[simp] abbrev zsX (h:Host)(a:GAct):Bool:=pc (zbz h)
@[simp] abbrev zj9 (h:Host)(a:GAct):Host:=zlp h a
@[simp] abbrev zh6 (h:Host)(a:GAct):Told:=zJA h a
def zwA:Run:=rF2 dH (dT .act) fun b c=>(zsX b c,[aH (zj9 b c),aT .told (zh6 b c)])
def zz6 (N:Nat)(a0:Host)(a1:GAct):OA:=
 (cond (ieq a1.Kind 13) (oN (zu7 a0 a1.M a1.X) (some [(aH (zpC a0 a1.M a1.X)),(.agg [(.b (zpD a0 a1.M a1.X)),(.i .i64 0)])])) (cond (ieq a1.Kind 14) (oN (zxO a0 a1.M a1.X) (some [(aH (zrn a0 a1.M a1.X)),(.agg [(.b (zro a0 a1.M a1.X)),(.i .i64 0)])])) (cond (ieq a1.Kind 15) (oN (zBU a0 a1.M a1.X) (some [(aH (zt6 a0 a1.M a1.X)),(.agg [(.b (zt7 a0 a1.M a1.X)),(.i .i64 0)])])) (cond (ieq a1.Kind 16) (oN (zsS a0 a1.M a1.X) (some [(aH (znQ a0 a1.M a1.X)),(.agg [(.b (znR a0 a1.M a1.X)),(.i .i64 0)])])) (oN (zGE a0) (some [(aH (zS5 a0)),(.agg [(.b true),(.i .i64 0)])]))))))
theorem zMf (a0:Host)(a1:GAct)(hc:zsX a0 a1=true):∃N,zz6 N a0 a1=some [aH (zj9 a0 a1),aT .told (zh6 a0 a1)]:=by
 have hs:=zD.1 hc;refine ⟨0,?_⟩;unfold zz6 oN;refine br (fun _=>mu ?_) (fun _=>br (fun _=>mu ?_) (fun _=>br (fun _=>mu ?_) (fun _=>br (fun _=>mu ?_) (fun _=>mu ?_))))
 all_goals first|rfl|(simp only [*,zj9,zh6,zlp,zJA,cT,cF]<;>rfl)|simp_all[Ty.cells,zj9,zh6,zlp,zJA]
theorem zGe:vB 92 zwA:=kF2 zNE zq zb0 zcF (zo []) zMf
def zYQ:zO:=[(92,zwA),(89,zEM),(91,zyQ),(100,zEN)]++zYP
theorem zNF:zF zYQ:=zh zGe (zh zOJ (zh zIv (zh zOK zNE)))
@[simp] abbrev zpu (h:Host)(a:GAct):Bool:=pc (zbz h)
@[simp] abbrev zlu (h:Host)(a:GAct):Host:=zd1 h a
@[simp] abbrev zlv (h:Host)(a:GAct):Told:=ziq h a
def zyL:Run:=rF2 dH (dT .act) fun b c=>(zpu b c,[aH (zlu b c),aT .told (zlv b c)])
def zDV (N:Nat)(a0:Host)(a1:GAct):OA:=
 let y0:=(⟨a1.Y,a1.Z⟩:Slot); (oN (zBQ a1) (cond (nB (zwB a1)) (oN (zbE a0) (some [(aH (zk a0)),(.agg [(.b false),(.i .i64 0)])])) (oN (zu4 a1.Kind) (cond (zp9 a1.Kind) (oN (zsX a0 a1) (some [(aH (zj9 a0 a1)),(.agg [(.b (zh6 a0 a1).Ok),(.i .i64 (zh6 a0 a1).N)])])) (cond (ieq a1.Kind 1) (oN (zd9 a0 a1.M a1.G) (some [(aH (zBW a0 a1.M a1.G)),(.agg [(.b (zBX a0 a1.M a1.G)),(.i .i64 0)])])) (cond (ieq a1.Kind 2) (oN (zu3 a0 a1.M a1.G a1.X y0) (some [(aH (zpz a0 a1.M a1.G a1.X y0)),(.agg [(.b (zpA a0 a1.M a1.G a1.X y0)),(.i .i64 0)])])) (cond (ieq a1.Kind 3) (oN (zqP a0 a1.M a1.G a1.X) (some [(aH (zlP a0 a1.M a1.G a1.X)),(.agg [(.b (zlQ a0 a1.M a1.G a1.X)),(.i .i64 0)])])) (cond (ieq a1.Kind 4) (oN (zoL a0 a1.M a1.G a1.X) (some [(aH (zkK a0 a1.M a1.G a1.X)),(.agg [(.b (zkL a0 a1.M a1.G a1.X)),(.i .i64 0)])])) (cond (ieq a1.Kind 5) (oN (zoN a0 a1.M a1.G) (some [(aH (zkO a0 a1.M a1.G)),(.agg [(.b (zkP a0 a1.M a1.G)),(.i .i64 0)])])) (cond (ieq a1.Kind 6) (oN (zoM a0 a1.M a1.G a1.X) (some [(aH (zkM a0 a1.M a1.G a1.X)),(.agg [(.b (zkN a0 a1.M a1.G a1.X)),(.i .i64 0)])])) (cond (ieq a1.Kind 7) (oN (zBR a1) (oN (zuZ a0 a1.M a1.G (zoJ a1)) (some [(aH (zpv a0 a1.M a1.G (zoJ a1))),(.agg [(.b (zpw a0 a1.M a1.G (zoJ a1))),(.i .i64 0)])]))) (cond (ieq a1.Kind 8) (oN (zsL a0 a1.M a1.X a1.Y a1.Z) (some [(aH (znC a0 a1.M a1.X a1.Y a1.Z)),(.agg [(.b (znD a0 a1.M a1.X a1.Y a1.Z)),(.i .i64 0)])])) (cond (ieq a1.Kind 9) (oN (zsM a0 a1.M a1.X) (some [(aH (znE a0 a1.M a1.X)),(.agg [(.b (znF a0 a1.M a1.X)),(.i .i64 0)])])) (cond (ieq a1.Kind 10) (oN (zuY a0 a1.M) (some [(aH (zpr a0 a1.M)),(.agg [(.b (zpt a0 a1.M)),(.i .i64 (zps a0 a1.M))])])) (cond (ieq a1.Kind 11) (oN (zu0 a0 a1.M a1.G a1.X a1.Y) (some [(aH (zpx a0 a1.M a1.G a1.X a1.Y)),(.agg [(.b (zpy a0 a1.M a1.G a1.X a1.Y)),(.i .i64 0)])])) (oN (zsN a0 a1.M a1.G a1.X) (some [(aH (znG a0 a1.M a1.G a1.X)),(.agg [(.b (znI a0 a1.M a1.G a1.X)),(.i .i64 (znH a0 a1.M a1.G a1.X))])])))))))))))))))))
theorem zPh (a0:Host)(a1:GAct)(hc:zpu a0 a1=true):∃N,zDV N a0 a1=some [aH (zlu a0 a1),aT .told (zlv a0 a1)]:=by
 have hs:=zD.1 hc;refine ⟨0,?_⟩;unfold zDV oN nB
 conv=>zeta
 refine must rfl (brN (fun _=>mu ?_) (fun _=>must rfl (br (fun _=>mu ?_) (fun _=>br (fun _=>mu ?_) (fun _=>br (fun _=>mu ?_) (fun _=>br (fun _=>mu ?_) (fun _=>br (fun _=>mu ?_) (fun _=>br (fun _=>mu ?_) (fun _=>br (fun _=>mu ?_) (fun _=>br (fun _=>must rfl (mu ?_)) (fun _=>br (fun _=>mu ?_) (fun _=>br (fun _=>mu ?_) (fun _=>br (fun _=>mu ?_) (fun _=>br (fun _=>mu ?_) (fun _=>mu ?_)))))))))))))))
 all_goals first|rfl|(simp only [*,zlu,zlv,zd1,ziq,zsg,zAS,cT,cF]<;>rfl)|simp_all[Ty.cells,zlu,zlv,zd1,ziq,zsg,zAS]
theorem zIq:vB 63 zyL:=kF2 zNF zq zb0 zcF (zo []) zPh
def zYR:zO:=[(63,zyL)]++zYQ
theorem zNG:zF zYR:=zh zIq zNF
def zA7:List GAct->Host×List Told->Host×List Told
 | [],u=>u
 | a :: l,u=>zA7 l (zd1 u.1 a,ap u.2 [ziq u.1 a])
def zxk (ps:List (List (List Ins)))(l:List GAct):Host×List Told:=zA7 (l.take 80) (ze2 ps,[])
abbrev HSt:Type:=(List Told)×(List (List Int))×(List Mon)×(List Entry)×(List Entry)
def hOf (t:HSt):Host:=⟨t.2.1,t.2.2.1,t.2.2.2.1,t.2.2.2.2⟩
def tOf (u:Host×List Told):HSt:=(u.2,u.1.Memory,u.1.Mons,u.1.Buffer,u.1.IoBuffer)
def zxz (t:HSt):OA:=some [AV.agg (zbh (hOf t)),AV.one (.s .told t.1)]
theorem zWd {ps:List (List (List Ins))}(h:zHG ps):SmH (ze2 ps):=by
 refine ⟨show SmM zXq from ⟨by decide,by decide⟩,⟨?_,?_⟩,by simp[ze2],by simp[ze2]⟩
 .simp only [ze2,uD,vA];omega
 .intro x hx;simp only[ze2,jA]at hx;obtain ⟨p,hp,rfl⟩:=hx;have hps:=h.2 p (jZ hp);refine ⟨show zs4.length<=1048576 by decide,show SmM zMp from ⟨by decide,by decide⟩,show (rp 8 false).length<=1048576 by decide,⟨?_,?_⟩,by simp[zfU],⟨?_,?_⟩⟩
  .simp only [zfU,uD,vA];omega
  .intro y hy;simp only[zfU,jA]at hy;obtain ⟨q,hq,rfl⟩:=hy;exact ⟨hps.2 q (jZ hq),show zkb.length<=1048576 by decide,show zkb.length<=1048576 by decide,by simp[zel]⟩
  .simp only [zfU,uD,vA];omega
  .intro y hy;simp only[zfU,jA]at hy;obtain ⟨q,hq,rfl⟩:=hy;exact ⟨show (rp 4 false).length<=1048576 by decide,show zkb.length<=1048576 by decide⟩
theorem zEv {c:Host->GAct->Bool}(hc:∀h a,SmH h->c h a=true)(m:Nat):∀(l:List GAct) (i:Nat) (u:Host×List Told),SmH u.1->u.2.length+l.length<=2147483648 ->
 goL (fun (i:Nat) x (t:HSt) κ=>bif ilt (i:Int) (m:Int) then (cond (c (hOf t) x) (cond (few (ln (ap t.1 [ziq (hOf t) x]))) (κ (ap t.1 [ziq (hOf t) x],(zd1 (hOf t) x).Memory,(zd1 (hOf t) x).Mons,(zd1 (hOf t) x).Buffer,(zd1 (hOf t) x).IoBuffer)) none) none) else zxz t) zxz l i (tOf u)=zxz (tOf (zA7 (l.take (m-i)) u))
 | [],i,u,_,_=>by simp[goL,zA7]
 | a :: l,i,u,hs,hn=>by
  simp only[qU]at hn;have hf:few (ln (ap u.2 [ziq u.1 a]))=true:=zfT (by simp[ap];omega)
  have hh:hOf (tOf u)=u.1:=rfl;have h2:(tOf u).1=u.2:=rfl
  by_cases h:i<m
  .have hi:ilt (i:Int) (m:Int)=true:=qI (by omega)
   simp only[goL,hi,hh,h2,hf,hc _ _ hs,cT];refine (zEv hc m l (i+1) (zd1 u.1 a,ap u.2 [ziq u.1 a]) (zWc hs) (by simp[ap];omega)).trans ?_
   rw[show m-i=m-(i+1)+1 by omega]
   rfl
  .have hi:ilt (i:Int) (m:Int)=false:=qJ (by omega)
   simp only[goL,hi,cF];rw[show m-i=0 by omega]
   rfl
@[simp] abbrev zsK (ps:List (List (List Ins)))(l:List GAct):Bool:=pc (zHG ps/\l.length<=1048576)
@[simp] abbrev zsJ (ps:List (List (List Ins)))(l:List GAct):Host:=(zxk ps l).1
@[simp] abbrev zBV (ps:List (List (List Ins)))(l:List GAct):List Told:=(zxk ps l).2
def zwi:Run:=rF2 (dS (.sl (.sl .ins))) (dS .act) fun b c=>(zsK b c,[aH (zsJ b c),aS .told (zBV b c)])
def zzQ (N:Nat)(a0:lQ)(a1:lA):OA:=
 (oN (zu1 a0) (iter (σ:=(Int×(lA×(lT×(lM×(lN×(lE×(lE×(lM×(lN×(lE×(lE×Unit)))))))))))) N (fun r3 s4=>let y1:=(ix s4.2.1 s4.1 z7r);let y0:=(⟨s4.2.2.2.2.2.2.2.1,s4.2.2.2.2.2.2.2.2.1,s4.2.2.2.2.2.2.2.2.2.1,s4.2.2.2.2.2.2.2.2.2.2.1⟩:Host);let y3:=(ap s4.2.2.1 [(zlv y0 y1)]);let y2:=(zlu y0 y1); (cond (ilt s4.1 (ln s4.2.1)) (cond (ilt s4.1 80) (oN (inb s4.1 (ln s4.2.1)) (oN (zpu y0 y1) (oN (few (ln y3)) (r3 ((zG .i64 s4.1 1),(s4.2.1,(y3,(s4.2.2.2.1,(s4.2.2.2.2.1,(s4.2.2.2.2.2.1,(s4.2.2.2.2.2.2.1,(y2.Memory,(y2.Mons,(y2.Buffer,(y2.IoBuffer,()))))))))))))))) (some [(aH y0),(aS .told s4.2.2.1)])) (some [(aH y0),(aS .told s4.2.2.1)]))) (0,(a1,([],([],([],([],([],((zgb a0).Memory,((zgb a0).Mons,((zgb a0).Buffer,((zgb a0).IoBuffer,())))))))))))))
def zMS:FuncId->Nat->Option Tmpl:=zo [(41,0,{ n:=39,tm:=[(1,.sl 0 []),(4,.lp 0 0),(6,.lp 1 0),(7,.sl 1 []),(8,ti)],lo:=[(0,[.sl 2 [],.sl 3 [],.sl 4 [],.sl 5 []]),(1,[.sl 6 [],.sl 7 [],.sl 8 [],.sl 9 []])],ro:=[(0,.act,false),(1,.told,true),(2,(.sl .int),true),(3,.mon,true),(4,.entry,true),(5,.entry,true),(6,(.sl .int),true),(7,.mon,true),(8,.entry,true),(9,.entry,true)] })]
theorem zLV (a0:List lP)(a1:List GAct)(hc:zsK a0 a1=true):∃N,zzQ N a0 a1=some [aH (zsJ a0 a1),aS .told (zBV a0 a1)]:=by
 obtain ⟨hs,hl1⟩:=zD.1 hc;have hl:=zcb hl1;refine zbP fun N hNN=>?_;unfold zzQ oN
 conv=>zeta
 refine must (zW hs) ?_;refine (zbc a1 (fun i (t:lT×lM×lN×lE×lE)=>((i:Int),a1,t.1,[],[],[],[],t.2.1,t.2.2.1,t.2.2.2.1,t.2.2.2.2,())) _ (fun i (x:GAct) (t:HSt) κ=>bif ilt (i:Int) ((80:Nat):Int) then (cond (zpu (hOf t) x) (cond (few (ln (ap t.1 [ziq (hOf t) x]))) (κ (ap t.1 [ziq (hOf t) x],(zd1 (hOf t) x).Memory,(zd1 (hOf t) x).Mons,(zd1 (hOf t) x).Buffer,(zd1 (hOf t) x).IoBuffer)) none) none) else zxz t) (fun (t:lT×lM×lN×lE×lE)=>(some [(.agg (zbh (⟨t.2.1,t.2.2.1,t.2.2.2.1,t.2.2.2.2⟩:Host))),(.one (.s .told t.1))])) (fun i hi t rec=>?_) (fun t rec=>?_) _ ([],(zgb a0).Memory,(zgb a0).Mons,(zgb a0).Buffer,(zgb a0).IoBuffer) (hNN hl.1)).trans ?_
 .simp only [zbf hi,zN hi,zba hi,zT hi hl.1,cT];rfl
 .simp only [zbd,cF]
 exact zEv (fun h a hh=>zW ((zJ h).2 hh)) 80 a1 0 (ze2 a0,[]) (zWd hs) (by simpa using hl.2)
theorem zFU:vB 41 zwi:=kF2 zNG zq zb0 zcF zMS zLV
def zFs:zO:=[(41,zwi)]++zYR
theorem zuN:zF zFs:=zh zFU zNG
def zHI (b:Bare)(a:GAct):Bare:=bif ieq a.Kind 1 then zhq b a.G else (cond (ieq a.Kind 2) (chg b a.G (zqS a.X ⟨a.Y,a.Z⟩) (zx0 (gAt b a.G) a.X ⟨a.Y,a.Z⟩)) (cond (ieq a.Kind 3) (chg b a.G (hasB a.X 4) (zdo (gAt b a.G) a.X)) (cond (ieq a.Kind 4) (chg b a.G (zqm (gAt b a.G) a.X) (zuJ (gAt b a.G) a.X)) (cond (ieq a.Kind 5) (chg b a.G (zuT (gAt b a.G)) (zuU (gAt b a.G))) (cond (ieq a.Kind 6) (chg b a.G (zfA (gAt b a.G).Pending a.X) (zl2 (gAt b a.G) a.X)) (cond (ieq a.Kind 7) (chg b a.G (zgL ⟨a.X,a.Y,ieq a.Z 1⟩) (zFo (gAt b a.G) ⟨a.X,a.Y,ieq a.Z 1⟩)) (cond (ieq a.Kind 8) (zQf b a.X a.Y a.Z) (cond (ieq a.Kind 9) (ziz b a.X) (cond (ieq a.Kind 10) (zk0 b) (cond (ieq a.Kind 11) (zWV b a.G a.X a.Y) (b)))))))))))
def zHJ (b:Bare)(a:GAct):Told:=bif ieq a.Kind 1 then ⟨zki b a.G,0⟩ else (cond (ieq a.Kind 2) ⟨zbM b a.G (zqS a.X ⟨a.Y,a.Z⟩),0⟩ (cond (ieq a.Kind 3) ⟨zbM b a.G (hasB a.X 4),0⟩ (cond (ieq a.Kind 4) ⟨zbM b a.G (zqm (gAt b a.G) a.X),0⟩ (cond (ieq a.Kind 5) ⟨zbM b a.G (zuT (gAt b a.G)),0⟩ (cond (ieq a.Kind 6) ⟨zbM b a.G (zfA (gAt b a.G).Pending a.X),0⟩ (cond (ieq a.Kind 7) ⟨zbM b a.G (zgL ⟨a.X,a.Y,ieq a.Z 1⟩),0⟩ (cond (ieq a.Kind 8) ⟨zvX b a.X a.Y a.Z,0⟩ (cond (ieq a.Kind 9) ⟨zes b a.X,0⟩ (cond (ieq a.Kind 10) ⟨zkg b,zql b⟩ (cond (ieq a.Kind 11) ⟨zw5 b a.G a.X a.Y,0⟩ (⟨zmX b a.G a.X 1,zQj b a.G a.X⟩)))))))))))
def zHK (l:List Bare)(a:GAct):List Bare:=bif win a.Kind 1 17 then (cond (win a.Kind 13 17) l (cond (hasB a.M (ln l)) (up l a.M (zHI (ix l a.M zKt) a)) l)) else l
def zWy (l:List Bare)(a:GAct):Told:=bif win a.Kind 1 17 then (cond (win a.Kind 13 17) ⟨false,0⟩ (cond (hasB a.M (ln l)) (zHJ (ix l a.M zKt) a) (cond (ieq a.Kind 10) ⟨false,-1⟩ ⟨false,0⟩))) else ⟨false,0⟩
theorem zu {i n:Int}:hasB i n=true↔0<=i/\i<n:=by unfold hasB;exact decide_eq_true_iff
theorem zcm {x a b:Int}:win x a b=true↔a<=x/\x<=b:=by simp[win,ige,ile]
theorem zbg {x y:Int}:ieq x y=true↔x=y:=by simp[ieq]
theorem zos {x y:Int}:ine x y=true↔x≠y:=by simp[ine]
theorem zbF {x y:Int}:ieq x y=false↔x≠y:=by simp[ieq]
theorem zbU {a b:Bool}:(cond a b false)=true↔a=true/\b=true:=by cases a<;>simp
theorem zbB {α:Type}(l:List α)(i:Int)(x:α):(up l i x).length=l.length:=by simp[up]
theorem zdg {α:Type}(l:List α)(i:Int)(x:α):ln (up l i x)=ln l:=by simp[up,ln]
theorem zxv {α:Type}{l:List α}{i:Int}(h:hasB i (ln l)=true)(d:α):∃k:Nat,∃hk:k<l.length,i=(k:Int)/\ix l i d=l[k]:=by
 rw[zu]at h;unfold ln at h;refine ⟨i.toNat,by omega,by omega,?_⟩
 simp[ix,List.getD,qB (show i.toNat<l.length by omega)]
theorem zli {α:Type}{l:List α}{k:Nat}(h:k<l.length)(d:α):ix l (k:Int) d=l[k]:=by
 simp[ix,List.getD,qB h]
theorem zkv {α:Type}{l:List α}{i:Int}(h:hasB i (ln l)=true)(d:α):ix l i d∈l:=by
 obtain ⟨k,hk,_,e⟩:=zxv h d;rw[e];exact jE hk
theorem zSz {α:Type}{l:List α}{x:α}(h:x∈l)(d:α):∃i,hasB i (ln l)=true/\ix l i d=x:=by
 obtain ⟨k,hk,e⟩:=List.mem_iff_getElem.1 h;exact ⟨(k:Int),zu.2 (by unfold ln;omega),(zli hk d).trans e⟩
theorem zY {α:Type}{l:List α}{i:Int}(h:hasB i (ln l)=true)(x d:α):ix (up l i x) i d=x:=by
 rw[zu]at h;unfold ln at h;simp[ix,up,List.getD,show i.toNat<l.length by omega]
theorem zbk {α:Type}{l:List α}{i j:Int}(hi:0<=i)(hj:0<=j)(h:i≠j)(x d:α):ix (up l i x) j d=ix l j d:=by
 have:i.toNat≠j.toNat:=by omega
 simp[ix,up,List.getD,jC,this]
theorem z0v {α:Type}(l:List α)(i:Int)(x y:α):up (up l i x) i y=up l i y:=by simp[up]
theorem zMg {α:Type}{l m:List α}(d:α)(h:l.length=m.length)(e:∀i,hasB i (ln l)=true->ix l i d=ix m i d):l=m:=by
 refine List.ext_getElem h fun k h1 h2=>?_;have:=e (k:Int) (zu.2 (by unfold ln;omega))
 rwa [zli h1,zli h2] at this
theorem zGT {α:Type}{l:List α}{i:Int}(h:hasB i (ln l)=true)(d:α):up l i (ix l i d)=l:=by
 obtain ⟨k,hk,rfl,e⟩:=zxv h d;rw[e];simp[up]
def cPg (x:Mon)(q:Int):Nat:=x.Outer.countP fun s=>ieq s.Page q
def zdH (l:List Mon)(q:Int):Nat:=(l.map fun x=>cPg x q).sum
theorem zAg {α:Type}(P:α->Bool){l:List α}{i:Int}(h:hasB i (ln l)=true)(x d:α):(up l i x).countP P+(if P (ix l i d) then 1 else 0)=l.countP P+(if P x then 1 else 0):=by
 obtain ⟨k,hk,rfl,e⟩:=zxv h d;rw[e];simp only[up,kU,List.countP_set hk];have:(if P l[k]=true then 1 else 0)<=l.countP P:=by
  split
  .rename_i hp;exact List.countP_pos_iff.2 ⟨l[k],jE hk,hp⟩
  .omega
 omega
theorem zwK {l:List Mon}{m:Int}(h:hasB m (ln l)=true)(x:Mon)(q:Int):zdH (up l m x) q+cPg (ix l m mZ) q=zdH l q+cPg x q:=by
 obtain ⟨k,hk,rfl,e⟩:=zxv h mZ;rw[e]
 clear h e
 unfold up;simp only[kU]
 induction l generalizing k with
 | nil=>simp at hk
 | cons y l ih =>
  cases k with
  | zero=>simp[zdH];omega
  | succ k =>
   have:=ih k (by simpa using hk)
   simp[zdH] at this ⊢;omega
theorem zFk {l:List Mon}{m p:Int}(hm:hasB m (ln l)=true)(hp:hasB p (ln (ix l m mZ).Outer)=true):1<=zdH l (ix (ix l m mZ).Outer p sZ).Page:=by
 have h1:1<=cPg (ix l m mZ) (ix (ix l m mZ).Outer p sZ).Page:=List.countP_pos_iff.2 ⟨_,zkv hp sZ,by simp[ieq]⟩
 have:=zwK hm (⟨[],[],[],[],[],0,0,[],0⟩:Mon) (ix (ix l m mZ).Outer p sZ).Page;have e0:cPg (⟨[],[],[],[],[],0,0,[],0⟩:Mon) (ix (ix l m mZ).Outer p sZ).Page=0:=rfl;omega
theorem z0H {l:List Mon}{m p n k:Int}{q:Int}(hm:hasB m (ln l)=true)(hp:hasB p (ln (ix l m mZ).Outer)=true)(hn:hasB n (ln l)=true)(hk:hasB k (ln (ix l n mZ).Outer)=true)(e1:(ix (ix l m mZ).Outer p sZ).Page=q)(e2:(ix (ix l n mZ).Outer k sZ).Page=q)(h:zdH l q<=1):m=n/\p=k:=by
 have hm':=zu.1 hm;have hn':=zu.1 hn;have hp':=zu.1 hp;have hk':=zu.1 hk;have hne:¬ ieq q (q+1)=true:=by simp[ieq];omega
 obtain ⟨y,hy⟩:∃y:Mon,y.Outer=up (ix l m mZ).Outer p ⟨q+1,0⟩:=⟨{ ix l m mZ with Outer:=up (ix l m mZ).Outer p ⟨q+1,0⟩ },rfl⟩;have c1:=zAg (fun s=>ieq s.Page q) hp (⟨q+1,0⟩:Slot) sZ;simp only[e1,show ieq q q=true by simp[ieq],show ieq (q+1) q=false by simp[ieq];omega,if_true,j9,if_false] at c1
 have s1:=zwK hm y q;simp only[cPg,hy] at s1;have hz:zdH (up l m y) q=0:=by omega
 apply Classical.byContradiction;intro hc;have hpos:1<=zdH (up l m y) q:=by
  by_cases hmn:m=n
  .subst hmn;have hpk:p≠k:=fun e=>hc ⟨rfl,e⟩;have:=zFk (l:=up l m y) (m:=m) (p:=k) (by rw[zdg];exact hm) (by rw[zY hm,hy,zdg];exact hk)
   rw[zY hm,hy,zbk hp'.1 hk'.1 hpk,e2] at this;exact this
  .have:=zFk (l:=up l m y) (m:=n) (p:=k) (by rw[zdg];exact hn) (by rw[zbk hm'.1 hn'.1 hmn];exact hk)
   rw[zbk hm'.1 hn'.1 hmn,e2] at this;exact this
 omega
theorem zrS {a b c:Bool}:(cond a b c)=true↔(a=true/\b=true)\/(a=false/\c=true):=by cases a<;>simp
def SOk (s:Slot):Prop:=s=noSlot\/(0<=s.Page/\s.Page<=11/\1<=s.Rights/\s.Rights<=3)
theorem zTe {a b:Slot}(h1:a.Page=b.Page)(h2:a.Rights=b.Rights):a=b:=by
 cases a;cases b;simp_all
theorem znY {a b:Slot}:zcy a b=true↔a=b:=by
 simp only[zcy,qD,zbg];exact ⟨fun h=>zTe h.1 h.2,fun h=>by rw[h];exact ⟨rfl,rfl⟩⟩
theorem zqf {a b:Slot}:zcy a b=false↔a≠b:=by
 rw[<- Bool.not_eq_true,znY]
theorem zV5 {s:Slot}:zde s 12=true↔SOk s:=by
 unfold zde SOk;rw[zrS,znY,zqf];have:wsub .i64 12 1=11:=by decide
 simp only[this,zrS,zcm];simp[igt];constructor
 .rintro (h|⟨h,⟨h1,h2⟩,h3⟩)
  .exact .inl h
  .exact .inr ⟨h1,h2,h3⟩
 .intro h
  by_cases hs:s=noSlot
  .exact .inl hs
  .rcases h with h|⟨h1,h2,h3⟩
   .exact .inl h
   .exact .inr ⟨hs,⟨h1,h2⟩,h3⟩
theorem SOk.none {s:Slot}(h:SOk s)(hp:s.Page = -1):s=noSlot:=by
 rcases h with h|h
 .exact h
 .omega
theorem SOk.pos {s:Slot}(h:SOk s)(hp:s.Page≠-1):0<=s.Page/\s.Page<=11/\1<=s.Rights/\s.Rights<=3:=by
 rcases h with h|h
 .rw [h]at hp;exact absurd rfl hp
 .exact h
structure MOk (x:Mon):Prop where
 g1:1<=x.Guests.length
 g2:x.Guests.length<=2
 gt:x.Tables.length=x.Guests.length
 o8:x.Outer.length=8
 sl:∀s∈x.Outer,SOk s
 u8:x.Out.length=8
 d8:x.Dirty.length=8
 outs:x.Outs.length<=40
 pend:zcK x.Pending=true
 tr:win x.Traps 0 3=true
 own:win x.Own 0 1000000000=true
 gs:∀g∈x.Guests,zcW g=true
 fit:∀p,hasB p 8=true->zkA (ix x.Outer p sZ) (ix x.Out p [])=true
theorem zQy {P:Nat->Bool}:∀{n i:Nat},zmR P n i=true↔∀j,i<=j->j<i+n->P j=true
 | 0,i=>by simp[zmR];intro j h1 h2;omega
 | n+1,i=>by
  rw[zmR,qD,zQy];constructor
  .rintro ⟨h1,h2⟩ j hj1 hj2
   by_cases e:j=i
   .rw [e];exact h1
   .exact h2 j (by omega) (by omega)
  .intro h;exact ⟨h i (by omega) (by omega),fun j h1 h2=>h j (by omega) (by omega)⟩
theorem zpN {t:List Slot}{n p:Int}:zcv t n p=true↔(∀s∈t,zde s p=true)/\ln t=n:=by
 unfold zcv;rw[zbU,qO,zbg]
theorem z5f {x:Mon}:zdE x=true↔MOk x:=by
 unfold zdE;simp only[zbU,zcm,zbg,zpN,zQy,qO,ile,qW];constructor
 .rintro ⟨⟨h1,h2⟩,h3,⟨h4,h5⟩,h6,h7,h8,h9,h10,h11,h12,h13⟩
  unfold ln at *;refine ⟨by omega,by omega,by omega,by omega,fun s hs=>zV5.1 (h4 s hs),by omega,by omega,by omega,h9,zcm.2 h10,zcm.2 h11,h12,fun p hp=>?_⟩
  have hp':=zu.1 hp;have:=h13 p.toNat (by omega) (by omega)
  unfold fits at this
  rwa [show ((p.toNat:Nat):Int)=p by omega] at this
 .intro h;obtain ⟨h1,h2,h3,h4,h5,h6,h7,h8,h9,h10,h11,h12,h13⟩:=h;unfold ln;exact ⟨⟨by omega,by omega⟩,by omega,⟨fun s hs=>zV5.2 (h5 s hs),by omega⟩,by omega,by omega,by omega,h9,zcm.1 h10,zcm.1 h11,h12,fun j h1 h2=>h13 (j:Int) (zu.2 (by omega))⟩
theorem zrU (o:List Slot)(s:Slot)(q:Int):(s :: o).countP (fun s=>ieq s.Page q)=o.countP (fun s=>ieq s.Page q)+if s.Page=q then 1 else 0:=by
 rw[uS];simp[ieq]
theorem zx5:∀{o:List Slot} {u:List Bool},(∀s∈o,s.Page<u.length) ->
 (∀u',zfV o u=some u'↔(∀q,0<=q->o.countP (fun s=>ieq s.Page q)+(if ix u q false then 1 else 0)<=1) /\
  u'=(o.foldl (fun u s=>bif ilt s.Page 0 then u else up u s.Page true) u))
 | [],u,h,u'=>by
  simp[zfV];exact ⟨fun h=>⟨fun q _=>by split<;>omega,h.symm⟩,fun h=>h.2.symm⟩
 | s :: o,u,h,u'=>by
  unfold zfV
  by_cases hs:s.Page<0
  .have hl:ilt s.Page 0=true:=qI hs;rw[hl,cond_true,zx5 (fun y hy=>h y (qY _ hy))];simp only[uC,hl,cond_true];refine and_congr (forall_congr' fun q=>forall_congr' fun hq=>?_) Iff.rfl;have e:(if s.Page=q then 1 else 0)=0:=if_neg (by omega)
   rw[zrU,e,kD]
  .have hl:ilt s.Page 0=false:=qJ hs;have hlt:=h s jP;have hb:hasB s.Page (ln u)=true:=zu.2 ⟨by omega,by unfold ln;omega⟩
   rw[hl,cond_false];cases hu:ix u s.Page false with
   | true =>
    rw[cond_true];constructor
    .intro h;cases h
    .rintro ⟨h,_⟩
     have:=h s.Page (by omega)
     rw[zrU,if_pos rfl,hu] at this;simp at this
   | false =>
    rw[cond_false,zx5 (fun y hy=>by rw[zbB];exact h y (qY _ hy))]
    simp only[uC,hl,cond_false];refine and_congr (forall_congr' fun q=>forall_congr' fun hq=>?_) Iff.rfl;rw[zrU]
    by_cases hq2:s.Page=q
    .subst hq2;rw[zY hb,hu];simp
    .rw [zbk (by omega) hq hq2,if_neg hq2,kD]
theorem zGU:∀(o:List Slot) (u:List Bool),(o.foldl (fun u s=>bif ilt s.Page 0 then u else up u s.Page true) u).length=u.length
 | [],u=>rfl
 | s :: o,u=>by
  rw[uC,zGU];cases ilt s.Page 0<;>simp [zbB]
theorem zM1:∀(o:List Slot) (u:List Bool) (q:Int),0<=q->(∀s∈o,s.Page<u.length)->(ix (o.foldl (fun u s=>bif ilt s.Page 0 then u else up u s.Page true) u) q false=true↔ix u q false=true\/1<=o.countP (fun s=>ieq s.Page q))
 | [],u,q,hq,h=>by simp
 | s :: o,u,q,hq,h=>by
  rw[uC,zM1 _ _ q hq (fun y hy=>by have:=h y (qY _ hy);cases ilt s.Page 0<;>simpa [zbB] using this),zrU]
  by_cases hs:s.Page<0
  .rw [show ilt s.Page 0=true from qI hs,cond_true,if_neg (by omega),kD]
  .rw [show ilt s.Page 0=false from qJ hs,cond_false]
   have hlt:=h s jP;have hb:hasB s.Page (ln u)=true:=zu.2 ⟨by omega,by unfold ln;omega⟩
   by_cases hq2:s.Page=q
   .subst hq2;rw[zY hb];simp
   .rw [zbk (by omega) hq hq2,if_neg hq2,kD]
theorem zxj:∀{l:List Mon} {u:List Bool},u.length=12->(zhO l u=true↔(∀x∈l,MOk x)/\∀q,0<=q->zdH l q+(if l≠[]/\ix u q false then 1 else 0)<=1)
 | [],u,hu=>by simp[zhO,zdH]
 | x :: l,u,hu=>by
  unfold zhO;rw[zbU,z5f];constructor
  .rintro ⟨h1,h2⟩
   have hp:∀s∈x.Outer,s.Page<u.length:=fun s hs=>by
    rcases h1.sl s hs with h|h
    .rw [h,hu];decide
    .rw [hu];omega
   split at h2
   .rename_i u' hu';obtain ⟨h3,rfl⟩:=(zx5 hp u').1 hu';rw[zxj (by rw[zGU,hu])]at h2
    obtain ⟨h4,h5⟩:=h2;refine ⟨by simpa using ⟨h1,h4⟩,fun q hq=>?_⟩
    have h6:=h3 q hq;have h7:=h5 q hq;have h8:=zM1 x.Outer u q hq hp;simp only[zdH,q0,kW]at h7 ⊢;unfold cPg at h7 ⊢;simp only[ne_eq,reduceCtorEq,not_false_eq_true,true_and]
    by_cases hl:l=[]
    .subst hl;simpa using h6
    .simp only [hl,ne_eq,not_false_eq_true,true_and]at h7
     by_cases hc:ix (x.Outer.foldl (fun u s=>bif ilt s.Page 0 then u else up u s.Page true) u) q false=true
     .rw [if_pos hc]at h7;omega
     .rw [if_neg hc]at h7;have h9:¬ (ix u q false=true\/1<=x.Outer.countP (fun s=>ieq s.Page q)):=fun e=>hc (h8.2 e);rw[not_or]at h9;rw[if_neg h9.1];omega
   .cases h2
  .rintro ⟨h1,h2⟩
   have hx:MOk x:=h1 x jP;refine ⟨hx,?_⟩;have hp:∀s∈x.Outer,s.Page<u.length:=fun s hs=>by
    rcases hx.sl s hs with h|h
    .rw [h,hu];decide
    .rw [hu];omega
   have hu':=(zx5 hp _).2 ⟨fun q hq=>by
    have:=h2 q hq;simp only[zdH,q0,kW,ne_eq,reduceCtorEq,not_false_eq_true,true_and] at this;unfold cPg at this;omega,rfl⟩
   rw[hu'];simp only;rw[zxj (by rw[zGU,hu])]
   refine ⟨fun y hy=>h1 y (qY _ hy),fun q hq=>?_⟩;have h3:=h2 q hq;have h8:=zM1 x.Outer u q hq hp;simp only[zdH,q0,kW,ne_eq,reduceCtorEq,not_false_eq_true,true_and]at h3 ⊢;unfold cPg at h3 ⊢;split
   .rename_i hc;rcases h8.1 hc.2 with h|h
    .rw [if_pos h]at h3;omega
    .omega
   .omega
structure HOk (h:Host):Prop where
 m12:h.Memory.length=12
 pgs:∀c∈h.Memory,zb6 c=true
 n1:1<=h.Mons.length
 n3:h.Mons.length<=3
 b1:zew h.Buffer=true
 b2:zew h.IoBuffer=true
 mons:∀x∈h.Mons,MOk x
 uq:∀q,0<=q->zdH h.Mons q<=1
theorem zi4 {h:Host}:zbK h=true↔HOk h:=by
 unfold zbK zgN;simp only[zbU,zcm,zbg,qO];rw[zxj (by simp[rp])]
 have h0:∀q,ix (rp 12 false) q false=false:=fun q=>by
  unfold ix rp;rw[j7,kA];split<;>rfl
 simp only[h0,j9,and_false,if_false,kD];unfold ln;constructor
 .rintro ⟨⟨h1,h2⟩,⟨h3,h4⟩,h5,h6,h7,h8⟩
  exact ⟨by omega,h1,by omega,by omega,h5,h6,h7,h8⟩
 .rintro ⟨h1,h2,h3,h4,h5,h6,h7,h8⟩
  exact ⟨⟨h2,by omega⟩,⟨by omega,by omega⟩,h5,h6,h7,h8⟩
theorem HOk.mon {h:Host}(H:HOk h){m:Int}(hm:hasB m (ln h.Mons)=true):MOk (ix h.Mons m mZ):=H.mons _ (zkv hm _)
theorem MOk.hasO {x:Mon}(H:MOk x){p:Int}(hp:hasB p 8=true):hasB p (ln x.Outer)=true:=by rw[ln,H.o8];exact hp
theorem MOk.hasU {x:Mon}(H:MOk x){p:Int}(hp:hasB p 8=true):hasB p (ln x.Out)=true:=by rw[ln,H.u8];exact hp
theorem MOk.hasD {x:Mon}(H:MOk x){p:Int}(hp:hasB p 8=true):hasB p (ln x.Dirty)=true:=by rw[ln,H.d8];exact hp
theorem MOk.slot {x:Mon}(H:MOk x){p:Int}(hp:hasB p 8=true):SOk (ix x.Outer p sZ):=H.sl _ (zkv (H.hasO hp) _)
theorem HOk.uniq {h:Host}(H:HOk h){m p n k q:Int}(hm:hasB m (ln h.Mons)=true)(hp:hasB p 8=true)(hn:hasB n (ln h.Mons)=true)(hk:hasB k 8=true)(e1:(ix (ix h.Mons m mZ).Outer p sZ).Page=q)(e2:(ix (ix h.Mons n mZ).Outer k sZ).Page=q)(hq:0<=q):m=n/\p=k :=
 z0H hm ((H.mon hm).hasO hp) hn ((H.mon hn).hasO hk) e1 e2 (H.uq q hq)
theorem HOk.up {h:Host}(H:HOk h){m:Int}(hm:hasB m (ln h.Mons)=true){x:Mon}(hx:MOk x){h':Host}(e:h'.Mons=up h.Mons m x)(m12:h'.Memory.length=12)(pgs:∀c∈h'.Memory,zb6 c=true)(b1:zew h'.Buffer=true)(b2:zew h'.IoBuffer=true)(uq:∀q,0<=q->cPg x q<=cPg (ix h.Mons m mZ) q\/zdH h.Mons q=0/\cPg x q<=1):HOk h':=by
 refine ⟨m12,pgs,by rw[e,zbB];exact H.n1,by rw[e,zbB];exact H.n3,b1,b2,fun y hy=>?_,fun q hq=>?_⟩
 .rw [e]at hy;unfold E.up at hy;rcases qZ hy with h|h
  .exact H.mons y h
  .rw [h];exact hx
 .rw [e];have h1:=zwK hm x q;have h2:=H.uq q hq;have h3:=uq q hq;omega
structure KOk (k:Kept) (inner outer:List Slot):Prop where
 l1:k.Known.length=inner.length
 l2:k.Slots.length=inner.length
 at':∀i,hasB i (ln inner)=true->ix k.Slots i sZ=bif ix k.Known i false then zbm (ix inner i sZ) outer else noSlot
def TOk (x:Mon):Prop:=∀g,hasB g (ln x.Guests)=true->KOk (ix x.Tables g kZ) (ix x.Guests g gZ).Live x.Outer
structure Rt (h:Host):Prop where
 t:∀m,hasB m (ln h.Mons)=true->TOk (ix h.Mons m mZ)
 e1:∀e∈h.Buffer,zcB h e=true
 e2:∀e∈h.IoBuffer,zcB h e=true
structure Safe (h:Host):Prop where
 ok:HOk h
 rt:Rt h
theorem zpR {a b:Slot}:below' a b=true↔a=noSlot\/(a.Page=b.Page/\enough b.Rights a.Rights=true):=by
 unfold below';rw[zrS,znY,zqf,zbU,zbg]
 by_cases h:a=noSlot<;>simp [h]
theorem z0x (x:Int):wand .i64 0 x=0:=by
 unfold wand;have:(BitVec.ofInt 64 0 &&& BitVec.ofInt 64 x)=0#64:=by
  rw[show BitVec.ofInt 64 0=0#64 from rfl,BitVec.zero_and]
 show IntKind.wrap .i64 ((BitVec.ofInt 64 0 &&& BitVec.ofInt 64 x).toNat:Int)=0
 rw[this];rfl
theorem z0G {a:Slot}(h:below' a noSlot=true):a=noSlot:=by
 rcases zpR.1 h with h|⟨h1,h2⟩
 .exact h
 .refine zTe h1 ?_;unfold enough at h2;rw[show noSlot.Rights=0 from rfl,z0x]at h2
  simp only[zbU,zbg]at h2;exact h2.2.2.symm
theorem ze5 {h:Host}{e:Entry}:zcB h e=true↔hasB (zc6 e.Tag) (ln h.Mons)=true/\hasB (zdN e.Tag) (ln (ix h.Mons (zc6 e.Tag) mZ).Guests)=true /\
 below' ⟨e.Host,e.Rights⟩ (zbm (zbl (ix (ix h.Mons (zc6 e.Tag) mZ).Guests (zdN e.Tag) gZ).Live e.Page) (ix h.Mons (zc6 e.Tag) mZ).Outer)=true:=by
 unfold zcB;rw[zbU,zbU]
theorem zOp {o:List Slot}{p q:Int}{s:Slot}(hp:0<=p)(h:q≠p):zbl (up o p s) q=zbl o q:=by
 unfold zbl;rw[zdg];cases hq:hasB q (ln o) with
 | false=>rfl
 | true=>rw[cond_true,cond_true,zbk hp (zu.1 hq).1 (Ne.symm h)]
theorem zHS {s:Slot}{o:List Slot}{p:Int}{t:Slot}(hp:0<=p)(h:s.Page≠p):zbm s (up o p t)=zbm s o:=by
 unfold zbm;rw[zOp hp h]
theorem zWD {s:Slot}{o:List Slot}:zbm s o=noSlot\/(zbm s o).Page=(zbl o s.Page).Page:=by
 unfold zbm;cases ieq s.Page (-1)<;>cases ieq (zbl o s.Page).Page (-1)<;>cases ieq (zdw s.Rights (zbl o s.Page).Rights) 0<;>simp
theorem zjE (k:Kept)(q:Int):(zbI k q).Known.length=k.Known.length/\(zbI k q).Slots.length=k.Slots.length:=by
 unfold zbI;cases zdc k q<;>simp [zbB]
theorem zyw:∀(l:List Int) (k:Kept),(zd0 k l).Known.length=k.Known.length/\(zd0 k l).Slots.length=k.Slots.length
 | [],k=>⟨rfl,rfl⟩
 | q :: l,k=>by
  have h1:=zyw l (zbI k q);have h2:=zjE k q;exact ⟨h1.1.trans h2.1,h1.2.trans h2.2⟩
theorem zuO {k:Kept}{q i:Int}(hl:k.Known.length=k.Slots.length)(hi:hasB i (ln k.Known)=true) :
 ix (zbI k q).Known i false=(cond (ieq q i) false (ix k.Known i false))/\ix (zbI k q).Slots i sZ=(cond (ieq q i) noSlot (ix k.Slots i sZ)):=by
 have hi':hasB i (ln k.Slots)=true:=by unfold ln at hi ⊢;rwa [<- hl]
 unfold zbI zdc
 by_cases e:q=i
 .subst e;simp only[hi,hi',cond_true,ieq,beq_self_eq_true];exact ⟨zY hi _ _,zY hi' _ _⟩
 .rw [show ieq q i=false from zbF.2 e]
  by_cases hq:hasB q (ln k.Known)=true
  .have hq':hasB q (ln k.Slots)=true:=by unfold ln at hq ⊢;rwa [<- hl]
   simp only[hq,hq',cond_true,cond_false];exact ⟨zbk (zu.1 hq).1 (zu.1 hi).1 e _ _,zbk (zu.1 hq).1 (zu.1 hi).1 e _ _⟩
  .rw [Bool.not_eq_true]at hq;simp[hq]
theorem zAu:∀(l:List Int) {k:Kept} {i:Int},k.Known.length=k.Slots.length->hasB i (ln k.Known)=true ->
 (i∈l->ix (zd0 k l).Known i false=false/\ix (zd0 k l).Slots i sZ=noSlot) /\
 (i∉l->ix (zd0 k l).Known i false=ix k.Known i false/\ix (zd0 k l).Slots i sZ=ix k.Slots i sZ)
 | [],k,i,hl,hi=>⟨fun h=>by simp at h,fun _=>⟨rfl,rfl⟩⟩
 | q :: l,k,i,hl,hi=>by
  have h2:=zjE k q;have h3:=zuO (q:=q) hl hi;have ih:=zAu l (k:=zbI k q) (i:=i) (by rw[h2.1,h2.2,hl]) (by unfold ln at hi ⊢;rwa [h2.1])
  show (_->ix (zd0 (zbI k q) l).Known i false=_/\ix (zd0 (zbI k q) l).Slots i sZ=_)/\(_->ix (zd0 (zbI k q) l).Known i false=_/\ix (zd0 (zbI k q) l).Slots i sZ=_)
  by_cases hm:i∈l
  .refine ⟨fun _=>ih.1 hm,fun h=>absurd (qY _ hm) h⟩
  .rw [(ih.2 hm).1,(ih.2 hm).2,h3.1,h3.2]
   by_cases e:q=i
   .subst e;simp[ieq]
   .rw [zbF.2 e];simp[hm,Ne.symm e]
theorem zGg {α:Type}{P:α->Bool}{d:α}:∀{l:List α} {n:Nat} {i:Int},i∈idxs P l n↔∃k:Nat,∃h:k<l.length,i=((n+k:Nat):Int)/\P l[k]=true
 | [],n,i=>by simp[idxs]
 | x :: l,n,i=>by
  have ih:=@zGg α P d l (n+1) i;unfold idxs;constructor
  .intro h;cases hx:P x with
   | true =>
    rw[hx,cond_true,qH]at h;rcases h with h|h
    .exact ⟨0,by simp,by simpa using h,hx⟩
    .obtain ⟨k,h1,h2,h3⟩:=ih.1 h;exact ⟨k+1,by simpa using h1,by rw[h2];congr 1;omega,by simpa using h3⟩
   | false =>
    rw[hx,cond_false]at h;obtain ⟨k,h1,h2,h3⟩:=ih.1 h;exact ⟨k+1,by simpa using h1,by rw[h2];congr 1;omega,by simpa using h3⟩
  .rintro ⟨k,h1,h2,h3⟩
   cases k with
   | zero =>
    simp only[List.getElem_cons_zero]at h3;rw[h3,cond_true,h2];exact jP
   | succ k =>
    have:=ih.2 ⟨k,by simpa using h1,by rw[h2];congr 1;omega,by simpa using h3⟩
    cases P x
    .exact this
    .exact qY _ this
theorem zTU {l:List Slot}{p i:Int}:i∈zCe l p↔hasB i (ln l)=true/\(ix l i sZ).Page=p:=by
 unfold zCe;rw[zGg (d:=sZ)];constructor
 .rintro ⟨k,h1,rfl,h3⟩
  rw[jW,zli h1];exact ⟨zu.2 (by unfold ln;omega),zbg.1 h3⟩
 .rintro ⟨h1,h2⟩
  obtain ⟨k,hk,rfl,e⟩:=zxv h1 sZ;exact ⟨k,hk,by simp,by rw[e]at h2;exact zbg.2 h2⟩
theorem zXh {k:Kept}{inner outer:List Slot}(h:KOk k inner outer){p:Int}(hp:0<=p)(s:Slot):KOk (zg2 k inner p) inner (up outer p s):=by
 have hl:=zyw (zCe inner p) k;refine ⟨hl.1.trans h.l1,hl.2.trans h.l2,fun i hi=>?_⟩;have hi':hasB i (ln k.Known)=true:=by unfold ln at hi ⊢;rwa [h.l1]
 have ha:=zAu (zCe inner p) (by rw[h.l1,h.l2]) hi'
 unfold zg2
 by_cases hc:(ix inner i sZ).Page=p
 .have:=ha.1 (zTU.2 ⟨hi,hc⟩);rw[this.1,this.2];rfl
 .have:=ha.2 (fun h=>hc (zTU.1 h).2);rw[this.1,this.2,h.at' i hi,zHS hp hc]
theorem zB9 (gs:List Guest)(p:Int):∀(n:Nat) (ts:List Kept),(ziK gs p n ts).length=ts.length
 | 0,ts=>rfl
 | n+1,ts=>by rw[ziK,zbB,zB9 gs p n]
theorem zMF (gs:List Guest)(p:Int):∀(n:Nat) (ts:List Kept),n<=ts.length->∀i,0<=i->ix (ziK gs p n ts) i kZ=if i<n then zg2 (ix ts i kZ) (ix gs i gZ).Live p else ix ts i kZ
 | 0,ts,_,i,hi=>by rw[if_neg (by omega)];rfl
 | n+1,ts,hn,i,hi=>by
  rw[ziK]
  by_cases e:i=n
  .subst e;rw[zY (by rw[ln,zB9];exact zu.2 (by omega)),if_pos (by omega),zMF gs p n ts (by omega) _ hi,if_neg (by omega)]
  .rw [zbk (by omega) hi (Ne.symm e),zMF gs p n ts (by omega) i hi]
   by_cases h:i<n
   .rw [if_pos h,if_pos (by omega)]
   .rw [if_neg h,if_neg (by omega)]
def zhm (x:Mon)(p:Int)(s:Slot):Mon:={ zgQ x p x.Tables.length with Outer:=up x.Outer p s }
theorem z0f {x:Mon}(h:TOk x)(ht:x.Tables.length=x.Guests.length){p:Int}(hp:0<=p)(s:Slot):TOk (zhm x p s):=by
 intro g hg;have hg':hasB g (ln x.Guests)=true:=hg
 show KOk (ix (ziK x.Guests p x.Tables.length x.Tables) g kZ) (ix x.Guests g gZ).Live (up x.Outer p s)
 rw[zMF _ _ _ _ (qX _) _ (zu.1 hg').1,if_pos (by have:=zu.1 hg';unfold ln at this;omega)]
 exact zXh (h g hg') hp s
theorem zqW (h:Host)(m p:Int)(s:Slot):(zbQ h m p s).Mons=up h.Mons m (zhm (ix h.Mons m mZ) p s):=by
 unfold zbQ;cases ine (ix (ix h.Mons m zf).Outer p zK).Page (-1)<;>rfl
theorem zvc (h:Host)(m p:Int)(s:Slot):(zbQ h m p s).Memory=h.Memory:=by
 unfold zbQ;cases ine (ix (ix h.Mons m zf).Outer p zK).Page (-1)<;>rfl
theorem zOr (h:Host)(m p:Int)(s:Slot):(zbQ h m p s).Buffer=(cond (ieq (ix (ix h.Mons m mZ).Outer p sZ).Page (-1)) h.Buffer (flushed h.Buffer (ix (ix h.Mons m mZ).Outer p sZ).Page)) /\
 (zbQ h m p s).IoBuffer=(cond (ieq (ix (ix h.Mons m mZ).Outer p sZ).Page (-1)) h.IoBuffer (flushed h.IoBuffer (ix (ix h.Mons m mZ).Outer p sZ).Page)):=by
 unfold zbQ
 by_cases e:(ix (ix h.Mons m zf).Outer p zK).Page = -1
 .rw [show ine (ix (ix h.Mons m zf).Outer p zK).Page (-1)=false by simp[ine,e],show ieq (ix (ix h.Mons m mZ).Outer p sZ).Page (-1)=true from zbg.2 e]
  exact ⟨rfl,rfl⟩
 .rw [show ine (ix (ix h.Mons m zf).Outer p zK).Page (-1)=true from zos.2 e,show ieq (ix (ix h.Mons m mZ).Outer p sZ).Page (-1)=false from zbF.2 e]
  exact ⟨rfl,rfl⟩
theorem zHZ {h h':Host}{m p:Int}{s:Slot}(hm:hasB m (ln h.Mons)=true)(hp:hasB p (ln (ix h.Mons m mZ).Outer)=true){x:Mon}(hM:h'.Mons=up h.Mons m x)(hG:x.Guests=(ix h.Mons m mZ).Guests)(hO:x.Outer=up (ix h.Mons m mZ).Outer p s){e:Entry}(he:zcB h e=true)(hn:(ix (ix h.Mons m mZ).Outer p sZ).Page = -1\/e.Host≠(ix (ix h.Mons m mZ).Outer p sZ).Page):zcB h' e=true:=by
 obtain ⟨h1,h2,h3⟩:=ze5.1 he;rw[ze5,hM,zdg];refine ⟨h1,?_⟩
 by_cases hc:m=zc6 e.Tag
 .rw [<- hc]at h1 h2 h3 ⊢;rw[zY hm,hG,hO];refine ⟨h2,?_⟩
  by_cases hq:(zbl (ix (ix h.Mons m mZ).Guests (zdN e.Tag) gZ).Live e.Page).Page=p
  .have key:zbm (zbl (ix (ix h.Mons m mZ).Guests (zdN e.Tag) gZ).Live e.Page) (ix h.Mons m mZ).Outer=noSlot\/e.Host≠(zbm (zbl (ix (ix h.Mons m mZ).Guests (zdN e.Tag) gZ).Live e.Page) (ix h.Mons m mZ).Outer).Page:=by
    rcases zWD (s:=zbl (ix (ix h.Mons m mZ).Guests (zdN e.Tag) gZ).Live e.Page) (o:=(ix h.Mons m mZ).Outer) with hz|hz
    .exact .inl hz
    .rw [hq]at hz;have hs:zbl (ix h.Mons m mZ).Outer p=ix (ix h.Mons m mZ).Outer p sZ:=by unfold zbl;rw[hp];rfl
     rw[hs]at hz;rcases hn with hn|hn
     .left
      unfold zbm;rw[hq,hs,hn,show ieq (-1) (-1)=true from rfl]
      cases ieq p (-1)<;>rfl
     .exact .inr (by rw[hz];exact hn)
   have hno:(⟨e.Host,e.Rights⟩:Slot)=noSlot:=by
    rcases key with key|key
    .rw [key]at h3;exact z0G h3
    .rcases zpR.1 h3 with h|h
     .exact h
     .exact absurd h.1 key
   rw[hno];exact zpR.2 (.inl rfl)
  .rw [zHS (zu.1 hp).1 hq];exact h3
 .rw [zbk (zu.1 hm).1 (zu.1 h1).1 hc];exact ⟨h2,h3⟩
theorem zxJ {h:Host}(H:Rt h){m p:Int}(hm:hasB m (ln h.Mons)=true)(hp:hasB p (ln (ix h.Mons m mZ).Outer)=true)(ht:(ix h.Mons m mZ).Tables.length=(ix h.Mons m mZ).Guests.length)(s:Slot):Rt (zbQ h m p s):=by
 have hb:=zOr h m p s;have hM:=zqW h m p s;have key:∀(b:List Entry),(∀e∈b,zcB h e=true)->∀e∈(cond (ieq (ix (ix h.Mons m mZ).Outer p sZ).Page (-1)) b (flushed b (ix (ix h.Mons m mZ).Outer p sZ).Page)),zcB (zbQ h m p s) e=true:=by
  intro b hb e he
  by_cases ho:(ix (ix h.Mons m mZ).Outer p sZ).Page = -1
  .rw [zbg.2 ho,cond_true]at he;exact zHZ hm hp hM rfl rfl (hb e he) (.inl ho)
  .rw [zbF.2 ho,cond_false]at he;obtain ⟨he1,he2⟩:=List.mem_filter.1 he;exact zHZ hm hp hM rfl rfl (hb e he1) (.inr (by simpa [ieq] using he2))
 refine ⟨fun k hk=>?_,fun e he=>key _ H.e1 e (by rwa [hb.1]at he),fun e he=>key _ H.e2 e (by rwa [hb.2]at he)⟩
 rw[hM]at hk ⊢;rw[zdg]at hk
 by_cases hc:m=k
 .subst hc;rw[zY hm];exact z0f (H.t m hm) ht (zu.1 hp).1 s
 .rw [zbk (zu.1 hm).1 (zu.1 hk).1 hc];exact H.t k hk
theorem zNs:∀(l pre:List Entry),allI (alone (pre++l)) l pre.length=true↔(∀x∈l,∀y∈pre,sameKey x y=false)/\l.Pairwise (fun y x=>sameKey x y=false)
 | [],pre=>by simp[allI]
 | x :: l,pre=>by
  have ih:=zNs l (pre++[x]);rw[kB,List.singleton_append,kN,uU] at ih;rw[allI,qD,ih,List.pairwise_cons];have h1:alone (pre++x :: l) pre.length x=true↔∀y∈pre,sameKey x y=false:=by
   unfold alone;rw[kQ rfl,qO];simp
  rw[h1];constructor
  .rintro ⟨h2,h3,h4⟩
   refine ⟨fun z hz y hy=>?_,fun z hz=>h3 z hz x (by simp),h4⟩
   rcases qH.1 hz with rfl|hz
   .exact h2 y hy
   .exact h3 z hz y (by simp[hy])
  .rintro ⟨h2,h3,h4⟩
   refine ⟨fun y hy=>h2 x (by simp) y hy,fun z hz y hy=>?_,h4⟩
   rcases jJ.1 hy with hy|hy
   .exact h2 z (by simp[hz]) y hy
   .rw [qF.1 hy];exact h3 z hz
theorem zCj {l:List Entry}:zew l=true↔l.Pairwise (fun y x=>sameKey x y=false)/\l.length<=6:=by
 unfold zew;have:=zNs l [];simp only[jR,List.length_nil] at this;have h0:ile (ln l) 6=true↔l.length<=6:=by
  rw[ile,qW,ln];omega
 rw[zbU,this,h0];simp
theorem zwT {l:List Entry}(h:zew l=true)(P:Entry->Bool):zew (l.filter P)=true:=by
 rw[zCj]at h ⊢;exact ⟨h.1.sublist List.filter_sublist,jB (k5 _ _) h.2⟩
theorem zEk {l:List Entry}(h:zew l=true)(p:Int):zew (flushed l p)=true:=zwT h _
theorem zQF {x x':Mon}{p:Int}(hp:hasB p (ln x.Outer)=true){s:Slot}(h:x'.Outer=up x.Outer p s)(q:Int):cPg x' q+(if (ix x.Outer p sZ).Page=q then 1 else 0)=cPg x q+(if s.Page=q then 1 else 0):=by
 have:=zAg (fun s=>ieq s.Page q) hp s sZ;simp only[zbg] at this;unfold cPg;rw[h];exact this
theorem zol {s:Slot}(hs:SOk s){c:List Int}:zkA s c=true↔(s.Page = -1->zb6 c=true)/\(s.Page≠-1->enough s.Rights 1=true/\c=[]):=by
 unfold zkA
 by_cases e:s=noSlot
 .rw [znY.2 e,cond_true,e];simp[noSlot]
 .rw [zqf.2 e,cond_false,zbU];have:s.Page≠-1:=fun h=>e (hs.none h);have h0:ile (ln c) 0=true↔c=[]:=by
   rw[ile,qW,ln,<- List.length_eq_zero_iff];omega
  rw[h0];exact ⟨fun h=>⟨fun h'=>absurd h' this,fun _=>h⟩,fun h=>h.2 this⟩
structure Chg (x x':Mon) (p:Int) (s:Slot) (c:List Int):Prop where
 o:x'.Outer=up x.Outer p s
 u:x'.Out=up x.Out p c
 g:x'.Guests=x.Guests
 t:x'.Tables.length=x.Tables.length
 d:x'.Dirty.length=x.Dirty.length
 a1:x'.Outs=x.Outs
 a2:x'.Pending=x.Pending
 a3:x'.Traps=x.Traps
 a4:x'.Own=x.Own
theorem MOk.chg {x x':Mon}(H:MOk x){p:Int}(hp:hasB p 8=true){s:Slot}{c:List Int}(k:Chg x x' p s c)(hs:SOk s)(hf:zkA s c=true):MOk x':=by
 refine ⟨by rw[k.g];exact H.g1,by rw[k.g];exact H.g2,by rw[k.t,k.g];exact H.gt,by rw[k.o,zbB];exact H.o8,fun y hy=>?_,by rw[k.u,zbB];exact H.u8,by rw[k.d];exact H.d8,by rw[k.a1];exact H.outs,by rw[k.a2];exact H.pend,by rw[k.a3];exact H.tr,by rw[k.a4];exact H.own,by rw[k.g];exact H.gs,fun q hq=>?_⟩
 .rw [k.o]at hy;rcases qZ hy with h|h
  .exact H.sl y h
  .rw [h];exact hs
 .rw [k.o,k.u]
  by_cases e:p=q
  .subst e;rw[zY (H.hasO hp),zY (H.hasU hp)];exact hf
  .rw [zbk (zu.1 hp).1 (zu.1 hq).1 e,zbk (zu.1 hp).1 (zu.1 hq).1 e];exact H.fit q hq
structure Like (h r:Host):Prop where
 len:r.Mons.length=h.Mons.length
 g:∀i,hasB i (ln h.Mons)=true->(ix r.Mons i mZ).Guests=(ix h.Mons i mZ).Guests
 o:∀i,hasB i (ln h.Mons)=true->(ix r.Mons i mZ).Outs=(ix h.Mons i mZ).Outs
 p:∀i,hasB i (ln h.Mons)=true->(ix r.Mons i mZ).Pending=(ix h.Mons i mZ).Pending
 tr:∀i,hasB i (ln h.Mons)=true->(ix r.Mons i mZ).Traps=(ix h.Mons i mZ).Traps
 ow:∀i,hasB i (ln h.Mons)=true->(ix r.Mons i mZ).Own=(ix h.Mons i mZ).Own
 pg:∀i k,hasB i (ln h.Mons)=true->hasB k 8=true->zbY r i k=zbY h i k
theorem Like.refl (h:Host):Like h h:=⟨rfl,fun _ _=>rfl,fun _ _=>rfl,fun _ _=>rfl,fun _ _=>rfl,fun _ _=>rfl,fun _ _ _ _=>rfl⟩
theorem Like.trans {a b c:Host}(x:Like a b)(y:Like b c):Like a c:=by
 have k:∀i,hasB i (ln a.Mons)=true->hasB i (ln b.Mons)=true:=fun i hi=>by unfold ln at hi ⊢;rwa [x.len]
 exact ⟨y.len.trans x.len,fun i h=>(y.g i (k i h)).trans (x.g i h),fun i h=>(y.o i (k i h)).trans (x.o i h),fun i h=>(y.p i (k i h)).trans (x.p i h),fun i h=>(y.tr i (k i h)).trans (x.tr i h),fun i h=>(y.ow i (k i h)).trans (x.ow i h),fun i q h hq=>(y.pg i q (k i h) hq).trans (x.pg i q h hq)⟩
theorem Like.has {h r:Host}(k:Like h r){i:Int}:hasB i (ln r.Mons)=hasB i (ln h.Mons):=by unfold ln;rw[k.len]
theorem zpi {h r:Host}{m:Int}:∀(n i:Nat),(∀k:Nat,i<=k->k<i+n->zbY r m (k:Int)=zbY h m (k:Int))->zca r m n i=zca h m n i
 | 0,i,_=>rfl
 | n+1,i,h=>by
  rw[zca,zca,h i (by omega) (by omega),zpi n (i+1) (fun k h1 h2=>h k (by omega) (by omega))]
theorem Like.seen {h r:Host}(k:Like h r)(m:Int):zA r m=zA h m:=by
 unfold zA;rw[k.has];cases hm:hasB m (ln h.Mons) with
 | false=>rfl
 | true =>
  simp only[cond_true];rw[k.g m hm,k.o m hm,k.p m hm,zpi 8 0 (fun j h1 h2=>k.pg m j hm (zu.2 (by omega)))]
theorem zmx {h:Host}{m p:Int}(hm:hasB m (ln h.Mons)=true)(hp:hasB p 8=true)(ho:hasB p (ln (ix h.Mons m mZ).Outer)=true) :
 zbY h m p=bif ieq (ix (ix h.Mons m mZ).Outer p sZ).Page (-1) then zb5 (ix h.Mons m mZ).Out p else zb5 h.Memory (ix (ix h.Mons m mZ).Outer p sZ).Page:=by
 unfold zbY;have:zbl (ix h.Mons m mZ).Outer p=ix (ix h.Mons m mZ).Outer p sZ:=by unfold zbl;rw[ho];rfl
 rw[hm,hp,cond_true,cond_true,this]
 by_cases e:(ix (ix h.Mons m mZ).Outer p sZ).Page = -1
 .rw [zbg.2 e,show ine (ix (ix h.Mons m mZ).Outer p sZ).Page (-1)=false by simp[ine,e]];rfl
 .rw [zbF.2 e,show ine (ix (ix h.Mons m mZ).Outer p sZ).Page (-1)=true from zos.2 e];rfl
theorem zjT {m:List (List Int)}{p:Int}(h:hasB p (ln m)=true):zb5 m p=ix m p []:=by unfold zb5;rw[h];rfl
theorem zOb {m:List (List Int)}(h:∀c∈m,zb6 c=true)(p:Int):zb6 (zb5 m p)=true:=by
 unfold zb5;cases hp:hasB p (ln m) with
 | false=>rfl
 | true=>exact h _ (zkv hp _)
theorem zuE {h r:Host}(H:HOk h){m p:Int}(hm:hasB m (ln h.Mons)=true)(hp:hasB p 8=true){x:Mon}{s:Slot}{c:List Int}(hM:r.Mons=up h.Mons m x)(k:Chg (ix h.Mons m mZ) x p s c)(hs:SOk s)(hf:zkA s c=true)(m12:r.Memory.length=12)(pgs:∀c∈r.Memory,zb6 c=true)(b1:zew r.Buffer=true)(b2:zew r.IoBuffer=true)(uq:0<=s.Page->s.Page=(ix (ix h.Mons m mZ).Outer p sZ).Page\/zdH h.Mons s.Page=0):HOk r:=by
 refine H.up hm ((H.mon hm).chg hp k hs hf) hM m12 pgs b1 b2 fun q hq=>?_;have h1:=zQF ((H.mon hm).hasO hp) k.o q
 by_cases e:s.Page=q
 .have e2:=uq (by omega)
  rw[if_pos e]at h1;rcases e2 with e2|e2
  .rw [if_pos (by omega)]at h1;left;omega
  .right
   rw[e] at e2;refine ⟨e2,?_⟩;have:=zwK hm x q;have h4:cPg (ix h.Mons m mZ) q<=zdH h.Mons q:=by
    have:=zwK hm (⟨[],[],[],[],[],0,0,[],0⟩:Mon) q;have e0:cPg (⟨[],[],[],[],[],0,0,[],0⟩:Mon) q=0:=rfl;omega
   omega
 .rw [if_neg e]at h1
  left
  split at h1<;>omega
theorem ztE {h r:Host}(H:HOk h){m p:Int}(hm:hasB m (ln h.Mons)=true)(hp:hasB p 8=true){x:Mon}{s:Slot}{c:List Int}(hM:r.Mons=up h.Mons m x)(k:Chg (ix h.Mons m mZ) x p s c)(hpg:(cond (ieq s.Page (-1)) c (zb5 r.Memory s.Page))=zbY h m p)(hmem:∀i q,hasB i (ln h.Mons)=true->hasB q 8=true->¬ (i=m/\q=p)->(ix (ix h.Mons i mZ).Outer q sZ).Page≠-1->zb5 r.Memory (ix (ix h.Mons i mZ).Outer q sZ).Page=zb5 h.Memory (ix (ix h.Mons i mZ).Outer q sZ).Page):Like h r:=by
 have hm0:=(zu.1 hm).1;have hp0:=(zu.1 hp).1;have e:∀{α:Type} (F:Mon->α),F x=F (ix h.Mons m mZ)->∀i,hasB i (ln h.Mons)=true->F (ix r.Mons i mZ)=F (ix h.Mons i mZ):=by
  intro α F hF i hi;rw[hM]
  by_cases e:m=i
  .subst e;rw[zY hm];exact hF
  .rw [zbk hm0 (zu.1 hi).1 e]
 refine ⟨by rw[hM,zbB],e Mon.Guests k.g,e Mon.Outs k.a1,e Mon.Pending k.a2,e Mon.Traps k.a3,e Mon.Own k.a4,fun i q hi hq=>?_⟩
 have hi':hasB i (ln r.Mons)=true:=by rw[hM,zdg];exact hi
 have hO:=(H.mon hi).hasO hq;have hO':hasB q (ln (ix r.Mons i mZ).Outer)=true:=by
  rw[hM]
  by_cases e:m=i
  .subst e;rw[zY hm,k.o,zdg];exact hO
  .rw [zbk hm0 (zu.1 hi).1 e];exact hO
 rw[zmx hi' hq hO']
 by_cases e:m=i
 .subst e;rw[hM,zY hm,k.o,k.u]
  by_cases e2:p=q
  .subst e2;rw[zY ((H.mon hm).hasO hp),<- hpg];cases ieq s.Page (-1)
   .rfl
   .rw [cond_true,cond_true,zjT (by rw[zdg];exact (H.mon hm).hasU hp),zY ((H.mon hm).hasU hp)]
  .rw [zbk hp0 (zu.1 hq).1 e2,zmx hm hq hO]
   by_cases e3:(ix (ix h.Mons m mZ).Outer q sZ).Page = -1
   .rw [zbg.2 e3,cond_true,cond_true,zjT (by rw[zdg];exact (H.mon hm).hasU hq),zjT ((H.mon hm).hasU hq),zbk hp0 (zu.1 hq).1 e2]
   .rw [zbF.2 e3,cond_false,cond_false,hmem m q hm hq (fun h=>e2 h.2.symm) e3]
 .rw [hM,zbk hm0 (zu.1 hi).1 e,zmx hi hq hO]
  by_cases e3:(ix (ix h.Mons i mZ).Outer q sZ).Page = -1
  .rw [zbg.2 e3,cond_true,cond_true]
  .rw [zbF.2 e3,cond_false,cond_false,hmem i q hi hq (fun h=>e h.1.symm) e3]
structure Op (h r:Host):Prop where
 ok:HOk r
 like:Like h r
 rt:Rt h->Rt r
theorem Op.refl {h:Host}(H:HOk h):Op h h:=⟨H,Like.refl h,id⟩
theorem Op.trans {a b c:Host}(x:Op a b)(y:Op b c):Op a c:=⟨y.ok,x.like.trans y.like,fun h=>y.rt (x.rt h)⟩
theorem Op.safe {h r:Host}(k:Op h r)(s:Safe h):Safe r:=⟨k.ok,k.rt s.rt⟩
theorem zJK {h r:Host}(H:Rt h){m:Int}(hm:hasB m (ln h.Mons)=true){x:Mon}(hM:r.Mons=up h.Mons m x)(hb1:r.Buffer=h.Buffer)(hb2:r.IoBuffer=h.IoBuffer)(hl:x.Guests.length=(ix h.Mons m mZ).Guests.length)(hv:∀g,hasB g (ln (ix h.Mons m mZ).Guests)=true->(ix x.Guests g gZ).Live=(ix (ix h.Mons m mZ).Guests g gZ).Live)(ht:x.Tables=(ix h.Mons m mZ).Tables)(ho:x.Outer=(ix h.Mons m mZ).Outer):Rt r:=by
 have hm0:=(zu.1 hm).1;have hg:∀g,hasB g (ln x.Guests)=hasB g (ln (ix h.Mons m mZ).Guests):=fun g=>by unfold ln;rw[hl]
 have key:∀e,zcB h e=true->zcB r e=true:=by
  intro e he;obtain ⟨h1,h2,h3⟩:=ze5.1 he;rw[ze5,hM,zdg];refine ⟨h1,?_⟩
  by_cases hc:m=zc6 e.Tag
  .rw [<- hc]at h1 h2 h3 ⊢;rw[zY hm,hg,hv _ h2,ho];exact ⟨h2,h3⟩
  .rw [zbk hm0 (zu.1 h1).1 hc];exact ⟨h2,h3⟩
 refine ⟨fun k hk=>?_,fun e he=>key e (H.e1 e (by rwa [hb1]at he)),fun e he=>key e (H.e2 e (by rwa [hb2]at he))⟩
 rw[hM]at hk ⊢;rw[zdg]at hk
 by_cases hc:m=k
 .subst hc;rw[zY hm];intro g hgg;rw[hg]at hgg;rw[ht,hv g hgg,ho];exact H.t m hm g hgg
 .rw [zbk hm0 (zu.1 hk).1 hc];exact H.t k hk
theorem ziI {h h1:Host}{m p:Int}{s:Slot}{x:Mon}(hm:hasB m (ln h.Mons)=true)(e:h1.Mons=up h.Mons m x):(zbQ h1 m p s).Mons=up h.Mons m (zhm x p s):=by
 rw[zqW,e,zY hm,z0v]
theorem zAd {x x1:Mon}{p:Int}{s:Slot}{c:List Int}(ho:x1.Outer=x.Outer)(hu:x1.Out=up x.Out p c)(hg:x1.Guests=x.Guests)(ht:x1.Tables=x.Tables)(hd:x1.Dirty.length=x.Dirty.length)(h1:x1.Outs=x.Outs)(h2:x1.Pending=x.Pending)(h3:x1.Traps=x.Traps)(h4:x1.Own=x.Own):Chg x (zhm x1 p s) p s c :=
 ⟨by show up x1.Outer p s=_;rw[ho],hu,hg,by show (ziK x1.Guests p x1.Tables.length x1.Tables).length=_;rw[zB9,ht],hd,h1,h2,h3,h4⟩
theorem zs5 {h:Host}{m p:Int}{s:Slot}(h1:zew h.Buffer=true)(h2:zew h.IoBuffer=true):zew (zbQ h m p s).Buffer=true/\zew (zbQ h m p s).IoBuffer=true:=by
 have:=zOr h m p s;rw[this.1,this.2];cases ieq (ix (ix h.Mons m mZ).Outer p sZ).Page (-1)
 .exact ⟨zEk h1 _,zEk h2 _⟩
 .exact ⟨h1,h2⟩
theorem z7z {h:Host}(H:HOk h){s:Slot}(hs:SOk s)(hp:s.Page≠-1):hasB s.Page (ln h.Memory)=true:=by
 have:=hs.pos hp;exact zu.2 ⟨this.1,by unfold ln;rw[H.m12];omega⟩
theorem zVW {h:Host}(H:HOk h){m p:Int}(hm:hasB m (ln h.Mons)=true)(hp:hasB p 8=true)(hn:(ix (ix h.Mons m mZ).Outer p sZ).Page≠-1):Op h (zcO h m p):=by
 have X:=H.mon hm;have hM:(zcO h m p).Mons=up h.Mons m (zhm { ix h.Mons m mZ with Out:=up (ix h.Mons m mZ).Out p (zb5 h.Memory (ix (ix h.Mons m mZ).Outer p sZ).Page) } p noSlot):=ziI hm rfl;have k:Chg (ix h.Mons m mZ) (zhm { ix h.Mons m mZ with Out:=up (ix h.Mons m mZ).Out p (zb5 h.Memory (ix (ix h.Mons m mZ).Outer p sZ).Page) } p noSlot) p noSlot (zb5 h.Memory (ix (ix h.Mons m mZ).Outer p sZ).Page):=zAd rfl rfl rfl rfl rfl rfl rfl rfl rfl;have hmem:(zcO h m p).Memory=h.Memory:=zvc _ _ _ _;have hb:=zs5 (h:=zd2 h m p) (m:=m) (p:=p) (s:=noSlot) H.b1 H.b2;refine ⟨zuE H hm hp hM k (.inl rfl) ((zol (.inl rfl)).2 ⟨fun _=>zOb H.pgs _,fun h=>absurd rfl h⟩) (by rw[hmem];exact H.m12) (by rw[hmem];exact H.pgs) hb.1 hb.2 (fun h=>absurd h (by decide)),
  ztE H hm hp hM k ?_ (fun i q _ _ _ _=>by rw[hmem]),fun R=>?_⟩
 .rw [zmx hm hp (X.hasO hp),zbF.2 hn];rfl
 .have R1:Rt (zd2 h m p):=zJK (x:={ ix h.Mons m mZ with Out:=up (ix h.Mons m mZ).Out p (zb5 h.Memory (ix (ix h.Mons m mZ).Outer p sZ).Page) }) R hm rfl rfl rfl rfl (fun _ _=>rfl) rfl rfl;have hm1:hasB m (ln (zd2 h m p).Mons)=true:=by show hasB m (ln (up h.Mons m _))=true;rw[zdg];exact hm
  have e1:ix (zd2 h m p).Mons m mZ={ ix h.Mons m mZ with Out:=up (ix h.Mons m mZ).Out p (zb5 h.Memory (ix (ix h.Mons m mZ).Outer p sZ).Page) }:=zY hm _ _;exact zxJ R1 hm1 (by rw[e1];exact X.hasO hp) (by rw[e1];exact X.gt) noSlot
theorem zEp {o:List Slot}{q:Int}:zmY o q=none↔o.countP (fun s=>ieq s.Page q)=0:=by
 unfold zmY;rw[List.findIdx?_eq_none_iff,uX];simp
theorem zUa {o:List Slot}{q:Int}{k:Nat}(h:zmY o q=some k):∃hk:k<o.length,o[k].Page=q:=by
 unfold zmY at h;rw[uO]at h;obtain ⟨hk,h1,_⟩:=h;exact ⟨hk,zbg.1 h1⟩
theorem zxC {q:Int}:∀(l:List Mon) (i:Nat),((zhb q l i).1<0↔zdH l q=0)/\(¬ (zhb q l i).1<0->∃a b:Nat,∃ha:a<l.length,∃hb:b<l[a].Outer.length,zhb q l i=(((i+a:Nat):Int),(b:Int))/\l[a].Outer[b].Page=q)
 | [],i=>⟨by simp[zhb,zdH],fun h=>absurd (show (-1:Int)<0 by decide) h⟩
 | x :: l,i=>by
  have ih:=zxC (q:=q) l (i+1);unfold zhb;split
  .rename_i k hk;obtain ⟨h1,h2⟩:=zUa hk;refine ⟨⟨fun h=>by simp at h;omega,fun h=>?_⟩,fun _=>⟨0,k,by simp,h1,by simp,h2⟩⟩
   exfalso;simp only[zdH,q0,kW]at h;have h3:x.Outer.countP (fun s=>ieq s.Page q)=0:=by unfold cPg at h;omega
   rw[zEp.2 h3]at hk;cases hk
  .rename_i hk;have h3:=zEp.1 hk;refine ⟨?_,fun h=>?_⟩
   .rw [ih.1];simp only[zdH,q0,kW];unfold cPg;omega
   .obtain ⟨a,b,ha,hb,e,hp⟩:=ih.2 h;exact ⟨a+1,b,by simpa using ha,by simpa using hb,by rw[e];simp;omega,by simpa using hp⟩
theorem zsl {h:Host}{q:Int}(hq:0<=q):(zbo h q).1<0↔zdH h.Mons q=0:=by
 unfold zbo;rw[show ilt q 0=false from qJ (by omega),cond_false]
 exact (zxC h.Mons 0).1
theorem zSO {h:Host}(H:HOk h){q:Int}(hq:0<=q)(hn:¬ (zbo h q).1<0):hasB (zbo h q).1 (ln h.Mons)=true/\hasB (zbo h q).2 8=true/\(ix (ix h.Mons (zbo h q).1 mZ).Outer (zbo h q).2 sZ).Page=q:=by
 unfold zbo at hn ⊢;rw[show ilt q 0=false from qJ (by omega),cond_false]at hn ⊢
 obtain ⟨a,b,ha,hb,e,hp⟩:=(zxC h.Mons 0).2 hn;rw[e,jW];have h8:=(H.mons _ (jE ha)).o8;exact ⟨zu.2 (by unfold ln;simp;omega),zu.2 (by simp;omega),by rw[zli ha,zli hb];exact hp⟩
theorem zRt {P:Nat->Bool}:∀{n i:Nat} {q:Int},q∈zor P n i↔∃k:Nat,q=(k:Int)/\i<=k/\k<i+n/\P k=true
 | 0,i,q=>by simp[zor];intro k _ _ _;omega
 | n+1,i,q=>by
  have ih:=@zRt P n (i+1) q;unfold zor;constructor
  .intro h;cases hx:P i with
   | true =>
    rw[hx,cond_true,qH]at h;rcases h with h|h
    .exact ⟨i,h,by omega,by omega,hx⟩
    .obtain ⟨k,h1,h2,h3,h4⟩:=ih.1 h;exact ⟨k,h1,by omega,by omega,h4⟩
   | false =>
    rw[hx,cond_false]at h;obtain ⟨k,h1,h2,h3,h4⟩:=ih.1 h;exact ⟨k,h1,by omega,by omega,h4⟩
  .rintro ⟨k,h1,h2,h3,h4⟩
   by_cases e:k=i
   .subst e;rw[h4,cond_true,h1];exact jP
   .have:=ih.2 ⟨k,h1,by omega,by omega,h4⟩
    cases P i
    .exact this
    .exact qY _ this
theorem zxc {h:Host}{q:Int}:q∈zby h↔hasB q (ln h.Memory)=true/\zdH h.Mons q=0:=by
 unfold zby;rw[zRt];constructor
 .rintro ⟨k,rfl,h1,h2,h3⟩
  exact ⟨zu.2 (by unfold ln;omega),(zsl (by omega)).1 (qE h3)⟩
 .rintro ⟨h1,h2⟩
  have h1':=zu.1 h1;unfold ln at h1';refine ⟨q.toNat,by omega,by omega,by omega,?_⟩
  rw[show ((q.toNat:Nat):Int)=q by omega]
  exact qI ((zsl h1'.1).2 h2)
theorem zW6 {h:Host}(hn:zby h≠[]):hasB (ix (zby h) 0 0) (ln h.Memory)=true/\zdH h.Mons (ix (zby h) 0 0)=0:=by
 refine zxc.1 (zkv (zu.2 ⟨by omega,?_⟩) 0)
 unfold ln;have:=kK.2 hn;omega
structure But (h r:Host) (m p:Int):Prop where
 ne:∀i k,hasB i (ln h.Mons)=true->hasB k 8=true->¬ (i=m/\k=p)->ix (ix r.Mons i mZ).Outer k sZ=ix (ix h.Mons i mZ).Outer k sZ
theorem zFj {h r:Host}{m p:Int}(hm:hasB m (ln h.Mons)=true)(hp:hasB p 8=true){x:Mon}{s:Slot}(hM:r.Mons=up h.Mons m x)(ho:x.Outer=up (ix h.Mons m mZ).Outer p s):But h r m p:=by
 refine ⟨fun i k hi hk hc=>?_⟩;rw[hM]
 by_cases e:m=i
 .subst e;rw[zY hm,ho,zbk (zu.1 hp).1 (zu.1 hk).1 (fun e=>hc ⟨rfl,e.symm⟩)]
 .rw [zbk (zu.1 hm).1 (zu.1 hi).1 e]
theorem zOm {h:Host}(H:HOk h){m p:Int}(hm:hasB m (ln h.Mons)=true)(hp:hasB p 8=true):But h (zcO h m p) m p/\ix (ix (zcO h m p).Mons m mZ).Outer p sZ=noSlot:=by
 have hM:(zcO h m p).Mons=up h.Mons m (zhm { ix h.Mons m mZ with Out:=up (ix h.Mons m mZ).Out p (zb5 h.Memory (ix (ix h.Mons m mZ).Outer p sZ).Page) } p noSlot):=ziI hm rfl;refine ⟨zFj hm hp hM rfl,?_⟩;rw[hM,zY hm];exact zY ((H.mon hm).hasO hp) _ _
structure Roomy (h r:Host):Prop where
 op:Op h r
 free:zby r≠[]
 sl:∀i k,hasB i (ln h.Mons)=true->hasB k 8=true->ix (ix r.Mons i mZ).Outer k sZ=ix (ix h.Mons i mZ).Outer k sZ\/ix (ix r.Mons i mZ).Outer k sZ=noSlot
 dirt:∀i,(ix r.Mons i mZ).Dirty=(ix h.Mons i mZ).Dirty
theorem zKA {h r:Host}{m:Int}(hm:hasB m (ln h.Mons)=true){x:Mon}(hM:r.Mons=up h.Mons m x)(hd:x.Dirty=(ix h.Mons m mZ).Dirty)(i:Int):(ix r.Mons i mZ).Dirty=(ix h.Mons i mZ).Dirty:=by
 rw[hM]
 by_cases e:i.toNat=m.toNat
 .have:∀l:List Mon,ix l i mZ=ix l m mZ:=fun l=>by unfold ix;rw[e]
  rw[this,this,zY hm,hd]
 .unfold ix up;simp[List.getD,jC,Ne.symm e]
theorem roomy {h:Host}(H:HOk h):Roomy h (zcS h):=by
 unfold zcS
 by_cases hf:zby h=[]
 .rw [show ieq (ln (zby h)) 0=true by rw[hf];rfl,cond_true]
  have hn:¬ (zbo h 0).1<0:=fun hc=>by
   have:(0:Int)∈zby h:=zxc.2 ⟨zu.2 (by unfold ln;rw[H.m12];omega),(zsl (by omega)).1 hc⟩
   rw[hf] at this;cases this
  obtain ⟨h1,h2,h3⟩:=zSO H (by omega) hn
  have k:=zVW H h1 h2 (by rw[h3];decide)
  have hs:=zOm H h1 h2;refine ⟨k,fun hc=>?_,fun i q hi hq=>?_,fun i=>zKA (x:=zhm { ix h.Mons (zbo h 0).1 mZ with Out:=up (ix h.Mons (zbo h 0).1 mZ).Out (zbo h 0).2 (zb5 h.Memory (ix (ix h.Mons (zbo h 0).1 mZ).Outer (zbo h 0).2 sZ).Page) } (zbo h 0).2 noSlot) h1 (ziI h1 rfl) rfl i⟩
  .have:(0:Int)∈zby (zcO h (zbo h 0).1 (zbo h 0).2):=by
    refine zxc.2 ⟨zu.2 (by unfold ln;rw[k.ok.m12];omega),?_⟩
    have hM:(zcO h (zbo h 0).1 (zbo h 0).2).Mons=up h.Mons (zbo h 0).1 (zhm { ix h.Mons (zbo h 0).1 mZ with Out:=up (ix h.Mons (zbo h 0).1 mZ).Out (zbo h 0).2 (zb5 h.Memory (ix (ix h.Mons (zbo h 0).1 mZ).Outer (zbo h 0).2 sZ).Page) } (zbo h 0).2 noSlot):=ziI h1 rfl;have c1:=zwK h1 (zhm { ix h.Mons (zbo h 0).1 mZ with Out:=up (ix h.Mons (zbo h 0).1 mZ).Out (zbo h 0).2 (zb5 h.Memory (ix (ix h.Mons (zbo h 0).1 mZ).Outer (zbo h 0).2 sZ).Page) } (zbo h 0).2 noSlot) 0;rw[<- hM] at c1;have c2:=zQF (x':=zhm { ix h.Mons (zbo h 0).1 mZ with Out:=up (ix h.Mons (zbo h 0).1 mZ).Out (zbo h 0).2 (zb5 h.Memory (ix (ix h.Mons (zbo h 0).1 mZ).Outer (zbo h 0).2 sZ).Page) } (zbo h 0).2 noSlot) ((H.mon h1).hasO h2) (s:=noSlot) rfl 0;rw[if_pos h3,if_neg (by decide)] at c2
    have c3:=H.uq 0 (by omega)
    omega
   rw[hc] at this;cases this
  .by_cases e:i=(zbo h 0).1/\q=(zbo h 0).2
   .rw [e.1,e.2];exact .inr hs.2
   .exact .inl (hs.1.ne i q hi hq e)
 .have:ieq (ln (zby h)) 0=false:=zbF.2 (by unfold ln;have:=kK.2 hf;omega)
  rw[this,cond_false];exact ⟨Op.refl H,hf,fun i k hi hk=>.inl rfl,fun _=>rfl⟩
theorem zVm {m:List (List Int)}{p:Int}{c:List Int}(hp:hasB p (ln m)=true)(hc:zb6 c=true):zgK m p c=up m p c:=by unfold zgK;rw[hp,hc];rfl
theorem zA4 {m:List (List Int)}{p q:Int}{c:List Int}(hp:0<=p)(h:q≠p):zb5 (up m p c) q=zb5 m q:=by
 unfold zb5;rw[zdg];cases hq:hasB q (ln m) with
 | false=>rfl
 | true=>rw[cond_true,cond_true,zbk hp (zu.1 hq).1 (Ne.symm h)]
theorem zA3 {m:List (List Int)}{p:Int}{c:List Int}(hp:hasB p (ln m)=true):zb5 (up m p c) p=c:=by rw[zjT (by rw[zdg];exact hp),zY hp]
theorem zXw {h:Host}(H:HOk h){m p to:Int}(hm:hasB m (ln h.Mons)=true)(hp:hasB p 8=true)(hn:(ix (ix h.Mons m mZ).Outer p sZ).Page = -1)(ht:hasB to (ln h.Memory)=true)(hf:zdH h.Mons to=0) :
 Op h (zdZ h m p to)/\But h (zdZ h m p to) m p/\ix (ix (zdZ h m p to).Mons m mZ).Outer p sZ=⟨to,3⟩/\∀i,(ix (zdZ h m p to).Mons i mZ).Dirty=(ix h.Mons i mZ).Dirty:=by
 have X:=H.mon hm;have ht':=zu.1 ht;unfold ln at ht';rw[H.m12]at ht';have hM:(zdZ h m p to).Mons=up h.Mons m (zhm { ix h.Mons m mZ with Out:=up (ix h.Mons m mZ).Out p [] } p ⟨to,3⟩):=ziI hm rfl;have k:Chg (ix h.Mons m mZ) (zhm { ix h.Mons m mZ with Out:=up (ix h.Mons m mZ).Out p [] } p ⟨to,3⟩) p ⟨to,3⟩ []:=zAd rfl rfl rfl rfl rfl rfl rfl rfl rfl;have hfit:=((zol (X.slot hp)).1 (X.fit p hp)).1 hn;have hmem:(zdZ h m p to).Memory=up h.Memory to (ix (ix h.Mons m mZ).Out p []):=by
  show (zbQ (landing h m p to) m p ⟨to,3⟩).Memory=_
  rw[zvc];exact zVm ht hfit
 have hs:SOk ⟨to,3⟩:=.inr ⟨ht'.1,by show to<=11;omega,by show (1:Int)<=3;omega,by show (3:Int)<=3;omega⟩
 have hb:=zs5 (h:=landing h m p to) (m:=m) (p:=p) (s:=⟨to,3⟩) H.b1 H.b2;refine ⟨⟨zuE H hm hp hM k hs ((zol hs).2 ⟨fun h=>absurd h (by show to≠-1;omega),fun _=>⟨show enough 3 1=true by decide,rfl⟩⟩) (by rw[hmem,zbB];exact H.m12) (fun c hc=>?_) hb.1 hb.2 (fun _=>.inr hf),
  ztE H hm hp hM k ?_ (fun i q hi hq hc hne=>?_),fun R=>?_⟩,zFj hm hp hM rfl,?_,fun i=>zKA (x:=zhm { ix h.Mons m mZ with Out:=up (ix h.Mons m mZ).Out p [] } p ⟨to,3⟩) hm hM rfl i⟩
 .rw [hmem]at hc;rcases qZ hc with h1|h1
  .exact H.pgs c h1
  .rw [h1];exact hfit
 .rw [zmx hm hp (X.hasO hp),zbg.2 hn,cond_true,zjT (X.hasU hp)];rw[show ieq (⟨to,3⟩:Slot).Page (-1)=false from zbF.2 (by show to≠-1;omega),cond_false,hmem]
  exact zA3 ht
 .rw [hmem];refine zA4 ht'.1 (fun e=>?_);have:=zFk hi ((H.mon hi).hasO hq);rw[e] at this;omega
 .have R1:Rt (landing h m p to):=zJK (x:={ ix h.Mons m mZ with Out:=up (ix h.Mons m mZ).Out p [] }) R hm rfl rfl rfl rfl (fun _ _=>rfl) rfl rfl;have hm1:hasB m (ln (landing h m p to).Mons)=true:=by show hasB m (ln (up h.Mons m _))=true;rw[zdg];exact hm
  have e1:ix (landing h m p to).Mons m mZ={ ix h.Mons m mZ with Out:=up (ix h.Mons m mZ).Out p [] }:=zY hm _ _;exact zxJ R1 hm1 (by rw[e1];exact X.hasO hp) (by rw[e1];exact X.gt) _
 .rw [hM,zY hm];exact zY (X.hasO hp) _ _
theorem zxB {h:Host}(H:HOk h){m p:Int}(hm:hasB m (ln h.Mons)=true)(hp:hasB p 8=true)(hn:(ix (ix h.Mons m mZ).Outer p sZ).Page = -1) :
 Op h (fetched h m p)/\(∃to,0<=to/\to<=11/\ix (ix (fetched h m p).Mons m mZ).Outer p sZ=⟨to,3⟩)/\∀i,(ix (fetched h m p).Mons i mZ).Dirty=(ix h.Mons i mZ).Dirty:=by
 have R:=roomy H;have hm1:hasB m (ln (zcS h).Mons)=true:=by rw[R.op.like.has];exact hm
 have hn1:(ix (ix (zcS h).Mons m mZ).Outer p sZ).Page = -1:=by
  rcases R.sl m p hm hp with h1|h1<;>rw [h1]
  .exact hn
  .rfl
 obtain ⟨h1,h2⟩:=zW6 R.free;obtain ⟨k1,k2,k3,k4⟩:=zXw R.op.ok hm1 hp hn1 h1 h2;have h1':=zu.1 h1;unfold ln at h1';rw[R.op.ok.m12]at h1';exact ⟨R.op.trans k1,⟨_,h1'.1,by omega,k3⟩,fun i=>(k4 i).trans (R.dirt i)⟩
theorem zmF {o:List Slot}{p:Int}(h:hasB p (ln o)=true):zbl o p=ix o p sZ:=by unfold zbl;rw[h];rfl
theorem zjU {h:Host}(H:HOk h){m p:Int}(hm:hasB m (ln h.Mons)=true)(hp:hasB p 8=true) :
 (cond (ieq (ix (ix h.Mons m mZ).Outer p sZ).Page (-1)) (ix (ix h.Mons m mZ).Out p []) (zb5 h.Memory (ix (ix h.Mons m mZ).Outer p sZ).Page))=zbY h m p:=by
 rw[zmx hm hp ((H.mon hm).hasO hp),zjT ((H.mon hm).hasU hp)]
structure Mark (x y:Mon):Prop where
 o:y.Outer=x.Outer
 u:y.Out=x.Out
 g:y.Guests=x.Guests
 t:y.Tables=x.Tables
 d:y.Dirty.length=x.Dirty.length
 a1:y.Outs=x.Outs
 a2:y.Pending=x.Pending
 a3:y.Traps=x.Traps
 a4:y.Own=x.Own
theorem zVV {h:Host}(H:HOk h){m:Int}(hm:hasB m (ln h.Mons)=true){y:Mon}(k:Mark (ix h.Mons m mZ) y):Op h { h with Mons:=up h.Mons m y }/\∀i q,ix (ix (up h.Mons m y) i mZ).Outer q sZ=ix (ix h.Mons i mZ).Outer q sZ:=by
 have X:=H.mon hm;have h0:hasB 0 8=true:=by decide
 have c:Chg (ix h.Mons m mZ) y 0 (ix (ix h.Mons m mZ).Outer 0 sZ) (ix (ix h.Mons m mZ).Out 0 []):=⟨by rw[zGT (X.hasO h0),k.o],by rw[zGT (X.hasU h0),k.u],k.g,by rw[k.t],k.d,k.a1,k.a2,k.a3,k.a4⟩
 refine ⟨⟨zuE H hm h0 rfl c (X.slot h0) (X.fit 0 h0) H.m12 H.pgs H.b1 H.b2 (fun _=>.inl rfl),ztE H hm h0 rfl c (zjU H hm h0) (fun _ _ _ _ _ _=>rfl),
  fun R=>zJK R hm rfl rfl rfl (by rw[k.g]) (fun g _=>by rw[k.g]) k.t k.o⟩,fun i q=>?_⟩
 by_cases e:i.toNat=m.toNat
 .have:∀l:List Mon,ix l i mZ=ix l m mZ:=fun l=>by unfold ix;rw[e]
  rw[this,this,zY hm,k.o]
 .have:ix (up h.Mons m y) i mZ=ix h.Mons i mZ:=by
   unfold ix up;simp[List.getD,jC,Ne.symm e]
  rw[this]
theorem zJy {h:Host}(H:HOk h){m:Int}(hm:hasB m (ln h.Mons)=true)(p:Int):Op h (zb2 h m p)/\∀i q,ix (ix (zb2 h m p).Mons i mZ).Outer q sZ=ix (ix h.Mons i mZ).Outer q sZ :=
 zVV H hm ⟨rfl,rfl,rfl,rfl,zbB _ _ _,rfl,rfl,rfl,rfl⟩
theorem zZP {h:Host}(H:HOk h){m:Int}(hm:hasB m (ln h.Mons)=true)(p:Int):Op h (zkZ h m p)/\∀i q,ix (ix (zkZ h m p).Mons i mZ).Outer q sZ=ix (ix h.Mons i mZ).Outer q sZ :=
 zVV H hm ⟨rfl,rfl,rfl,rfl,zbB _ _ _,rfl,rfl,rfl,rfl⟩
theorem rights {r:Int}(h0:1<=r)(h3:r<=3):r=1\/r=2\/r=3:=by omega
theorem MOk.enough1 {x:Mon}(X:MOk x){p:Int}(hp:hasB p 8=true)(hn:(ix x.Outer p sZ).Page≠-1):(ix x.Outer p sZ).Rights=1\/(ix x.Outer p sZ).Rights=3:=by
 have h1:=(((zol (X.slot hp)).1 (X.fit p hp)).2 hn).1;have h2:=(X.slot hp).pos hn;rcases rights h2.2.2.1 h2.2.2.2 with e|e|e
 .exact .inl e
 .rw [e]at h1;exact absurd h1 (by decide)
 .exact .inr e
theorem zN9 {h:Host}(H:HOk h){m p:Int}(hm:hasB m (ln h.Mons)=true)(hp:hasB p 8=true)(hn:(ix (ix h.Mons m mZ).Outer p sZ).Page≠-1){r:Int}(hr:r=1\/r=3) :
 Op h (zbQ h m p ⟨(ix (ix h.Mons m mZ).Outer p sZ).Page,r⟩)/\But h (zbQ h m p ⟨(ix (ix h.Mons m mZ).Outer p sZ).Page,r⟩) m p /\
  ix (ix (zbQ h m p ⟨(ix (ix h.Mons m mZ).Outer p sZ).Page,r⟩).Mons m mZ).Outer p sZ=⟨(ix (ix h.Mons m mZ).Outer p sZ).Page,r⟩/\∀i,(ix (zbQ h m p ⟨(ix (ix h.Mons m mZ).Outer p sZ).Page,r⟩).Mons i mZ).Dirty=(ix h.Mons i mZ).Dirty:=by
 have X:=H.mon hm;have hpos:=(X.slot hp).pos hn;have hM:=zqW h m p ⟨(ix (ix h.Mons m mZ).Outer p sZ).Page,r⟩;have k:Chg (ix h.Mons m mZ) (zhm (ix h.Mons m mZ) p ⟨(ix (ix h.Mons m mZ).Outer p sZ).Page,r⟩) p ⟨(ix (ix h.Mons m mZ).Outer p sZ).Page,r⟩ (ix (ix h.Mons m mZ).Out p []) :=
  zAd rfl (zGT (X.hasU hp) _).symm rfl rfl rfl rfl rfl rfl rfl
 have hs:SOk ⟨(ix (ix h.Mons m mZ).Outer p sZ).Page,r⟩:=.inr ⟨hpos.1,hpos.2.1,by show 1<=r;omega,by show r<=3;omega⟩
 have hfit:=((zol (X.slot hp)).1 (X.fit p hp)).2 hn;have hb:=zs5 (h:=h) (m:=m) (p:=p) (s:=⟨(ix (ix h.Mons m mZ).Outer p sZ).Page,r⟩) H.b1 H.b2;have hmem:=zvc h m p ⟨(ix (ix h.Mons m mZ).Outer p sZ).Page,r⟩;refine ⟨⟨zuE H hm hp hM k hs ((zol hs).2 ⟨fun h=>absurd h hn,fun _=>⟨?_,hfit.2⟩⟩) (by rw[hmem];exact H.m12) (by rw[hmem];exact H.pgs) hb.1 hb.2 (fun _=>.inl rfl),
  ztE H hm hp hM k (by rw[hmem];exact zjU H hm hp) (fun i q _ _ _ _=>by rw[hmem]),fun R=>zxJ R hm (X.hasO hp) X.gt _⟩,zFj hm hp hM rfl,?_,fun i=>zKA hm hM rfl i⟩
 .show enough r 1=true
  rcases hr with rfl|rfl<;>decide
 .rw [hM,zY hm];exact zY (X.hasO hp) _ _
structure Mended (h r:Host) (m p n:Int):Prop where
 op:Op h r
 inn:(ix (ix r.Mons m mZ).Outer p sZ).Page≠-1
 ri:ieq (wand .i64 n 2) 0=false->(ix (ix r.Mons m mZ).Outer p sZ).Rights=3
 dt:ieq (wand .i64 n 2) 0=false->ix (ix r.Mons m mZ).Dirty p false=true
 d0:ieq (wand .i64 n 2) 0=true->(ix r.Mons m mZ).Dirty=(ix h.Mons m mZ).Dirty
 dk:∀k,hasB k 8=true->k≠p->ix (ix r.Mons m mZ).Dirty k false=ix (ix h.Mons m mZ).Dirty k false
 dm:∀i,hasB i (ln h.Mons)=true->i≠m->(ix r.Mons i mZ).Dirty=(ix h.Mons i mZ).Dirty
theorem zSM {h:Host}(H:HOk h){m p:Int}(n:Int)(hm:hasB m (ln h.Mons)=true)(hp:hasB p 8=true)(hn:(ix (ix h.Mons m mZ).Outer p sZ).Page≠-1):Mended h (zky h m p n) m p n:=by
 unfold zky;cases hw:ieq (wand .i64 n 2) 0 with
 | true=>exact ⟨Op.refl H,hn,fun e=>(Bool.noConfusion (hw.symm.trans e)),fun e=>(Bool.noConfusion (hw.symm.trans e)),fun _=>rfl,fun _ _ _=>rfl,fun _ _ _=>rfl⟩
 | false =>
  rw[cond_false];obtain ⟨k1,k2⟩:=zJy H hm p;have hm1:hasB m (ln (zb2 h m p).Mons)=true:=by rw[k1.like.has];exact hm
  have hn1:(ix (ix (zb2 h m p).Mons m mZ).Outer p sZ).Page≠-1:=by rw[k2];exact hn
  have hd:(ix (zb2 h m p).Mons m mZ).Dirty=up (ix h.Mons m mZ).Dirty p true:=by
   show (ix (up h.Mons m _) m mZ).Dirty=_
   rw[zY hm]
  have hd2:∀i,hasB i (ln h.Mons)=true->i≠m->(ix (zb2 h m p).Mons i mZ).Dirty=(ix h.Mons i mZ).Dirty:=fun i hi hc=>by
   show (ix (up h.Mons m _) i mZ).Dirty=_
   rw[zbk (zu.1 hm).1 (zu.1 hi).1 (Ne.symm hc)]
  have he:=(k1.ok.mon hm1).enough1 hp hn1;have hD:∀r:Host,(∀i,(ix r.Mons i mZ).Dirty=(ix (zb2 h m p).Mons i mZ).Dirty)->Op (zb2 h m p) r->(ix (ix r.Mons m mZ).Outer p sZ).Page≠-1->(ix (ix r.Mons m mZ).Outer p sZ).Rights=3->Mended h r m p n:=by
   intro r h1 h2 h3 h4;refine ⟨k1.trans h2,h3,fun _=>h4,fun _=>?_,fun e=>(Bool.noConfusion (hw.symm.trans e)),fun k hk hc=>?_,fun i hi hc=>by rw[h1,hd2 i hi hc]⟩
   .rw [h1,hd,zY ((H.mon hm).hasD hp)]
   .rw [h1,hd,zbk (zu.1 hp).1 (zu.1 hk).1 (Ne.symm hc)]
  unfold opened;rcases he with e|e
  .rw [e,show ieq (wand .i64 1 2) 0=true by decide,cond_true]
   obtain ⟨o1,o2,o3,o4⟩:=zN9 k1.ok hm1 hp hn1 (r:=3) (.inr rfl);exact hD _ o4 o1 (by rw[o3];exact hn1) (by rw[o3])
  .rw [e,show ieq (wand .i64 3 2) 0=false by decide,cond_false]
   exact hD _ (fun _=>rfl) (Op.refl k1.ok) hn1 e
theorem zN7 {h:Host}(H:HOk h){m p:Int}(n:Int)(hm:hasB m (ln h.Mons)=true)(hp:hasB p 8=true):Mended h (mended h m p n) m p n:=by
 unfold mended
 by_cases e:(ix (ix h.Mons m mZ).Outer p sZ).Page = -1
 .rw [zbg.2 e,cond_true];obtain ⟨k1,⟨to,t1,t2,t3⟩,k3⟩:=zxB H hm hp e;have K:=zSM k1.ok n (by rw[k1.like.has];exact hm) hp (by rw[t3];show to≠-1;omega)
  exact ⟨k1.trans K.op,K.inn,K.ri,K.dt,fun e=>by rw[K.d0 e,k3],fun k hk hc=>by rw[K.dk k hk hc,k3],fun i hi hc=>by rw[K.dm i (by rw[k1.like.has];exact hi) hc,k3]⟩
 .rw [zbF.2 e,cond_false];exact zSM H n hm hp e
theorem zgF {h:Host}{m p:Int}:zbC h m p=true↔HOk h/\hasB m (ln h.Mons)=true/\hasB p 8=true:=by
 unfold zbC;rw[zbU,zbU,zi4]
theorem zJz {h:Host}(H:HOk h)(m p:Int):Op h (zbL h m p):=by
 unfold zbL;cases hh:zbC h m p with
 | false=>exact Op.refl H
 | true =>
  obtain ⟨_,hm,hp⟩:=zgF.1 hh;rw[cond_true];unfold zfn
  by_cases e:(ix (ix h.Mons m mZ).Outer p sZ).Page = -1
  .rw [zbg.2 e];exact Op.refl H
  .rw [zbF.2 e];exact zVW H hm hp e
theorem zN8 {h:Host}(H:HOk h)(m p:Int):Op h (zcH h m p):=by
 unfold zcH;cases hh:zbC h m p with
 | false=>exact Op.refl H
 | true =>
  obtain ⟨_,hm,hp⟩:=zgF.1 hh;rw[cond_true];unfold zfn
  by_cases e:(ix (ix h.Mons m mZ).Outer p sZ).Page = -1
  .rw [zbg.2 e];exact (zxB H hm hp e).1
  .rw [zbF.2 e];exact Op.refl H
theorem zZO {h:Host}(H:HOk h)(m p:Int):Op h (zeI h m p):=by
 unfold zeI;cases hh:zbC h m p with
 | false=>exact Op.refl H
 | true =>
  obtain ⟨_,hm,hp⟩:=zgF.1 hh;rw[cond_true];obtain ⟨k1,k2⟩:=zZP H hm p;cases e:zcy (ix (ix h.Mons m zf).Outer p zK) noSlot with
  | true=>exact k1
  | false =>
   rw[cond_false];have hn:(ix (ix h.Mons m mZ).Outer p sZ).Page≠-1:=fun h1=>zqf.1 e (((H.mon hm).slot hp).none h1);have:=zN9 k1.ok (m:=m) (p:=p) (by rw[k1.like.has];exact hm) hp (by rw[k2];exact hn) (r:=1) (.inl rfl)
   rw[k2 m p] at this;exact k1.trans this.1
end
end Go.Proofs.YtbihnofoichpmaaGreat.E
