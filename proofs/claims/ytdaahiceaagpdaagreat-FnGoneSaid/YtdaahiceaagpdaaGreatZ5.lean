/- What is proved here: a part of the proof that the statement of this claim holds (several texts of wip/, laid together). -/
import Derived.Test.YtdaahiceaagpdaaGreatZ4
namespace Go.Proofs.YtdaahiceaagpdaaGreat.E
open Go
set_option linter.unusedVariables false
set_option maxRecDepth 100000
set_option linter.unusedSimpArgs false
set_option linter.unusedSectionVars false
noncomputable section
def zdG (l:List Mon):List (List Guest):=l.map fun x=>x.Guests
theorem zwC {l:List Mon}{m:Int}{x:Mon}(hm:hasB m (ln l)=true)(hx:x.Guests=(ix l m mZ).Guests):zdG (up l m x)=zdG l:=by
 obtain ⟨k,rfl,hk⟩:=zdj (n:=l.length) hm;unfold zdG up;rw[List.map_set,kV,hx,zbe hk];have:=@uS _ (l.map fun x=>x.Guests) k (by simpa using hk)
 simpa using this
theorem zHf {l l':List Mon}(h:zdG l'=zdG l)(m:Int):(ix l' m mZ).Guests=(ix l m mZ).Guests:=by
 unfold zdG at h;have h2:(l'.map fun x=>x.Guests)[m.toNat]?=(l.map fun x=>x.Guests)[m.toNat]?:=by rw[h]
 rw[qM,qM]at h2;unfold ix;simp only[j8];cases h3:l'[m.toNat]? <;> cases h4:l[m.toNat]? <;> rw [h3,h4]at h2<;>simp at h2 ⊢;exact h2
theorem zwB {h:Host}{m p:Int}{s:Slot}(hm:hasB m (ln h.Mons)=true):zdG (zbU h m p s).Mons=zdG h.Mons:=by
 rw[(zfw h m p s).1];exact zwC hm rfl
theorem z3O {h:Host}{m p:Int}(hm:hasB m (ln h.Mons)=true):zdG (zcC h m p).Mons=zdG h.Mons:=(zwB (h:=zd3 h m p) (zd8 hm)).trans (zwC hm rfl)
theorem z3N {h:Host}(hf:Fit h):zdG (zcu h).Mons=zdG h.Mons:=by
 unfold zcu;cases h0:ieq (ln (zbR h)) 0
 .rfl
 .exact z3O (zBD hf h0).1
theorem zVz {h:Host}{m p:Int}(hf:Fit h)(hm:hasB m (ln h.Mons)=true):zdG (fetched h m p).Mons=zdG h.Mons:=by
 have hr:=zog hf hm;exact ((zwB (h:=landing (zcu h) m p (ix (zbR (zcu h)) 0 0)) (zd8 hr)).trans (zwC hr rfl)).trans (z3N hf)
theorem zPM {h:Host}{m p n:Int}(hm:hasB m (ln h.Mons)=true):zdG (zg4 h m p n).Mons=zdG h.Mons:=by
 have hd:zdG (zbp h m p).Mons=zdG h.Mons:=zwC hm rfl;unfold zg4;cases ieq (wand .i64 n 2) 0
 .unfold opened;cases ieq (wand .i64 (ix (ix (zbp h m p).Mons m mZ).Outer p sZ).Rights 2) 0
  .exact hd
  .exact (zwB (h:=zbp h m p) (zd8 hm)).trans hd
 .rfl
theorem zXO {h:Host}{m p n:Int}(hf:Fit h)(hm:hasB m (ln h.Mons)=true)(hp:hasB p 8=true):zdG (mended h m p n).Mons=zdG h.Mons:=by
 unfold mended;cases ieq (ix (ix h.Mons m mZ).Outer p sZ).Page (-1)
 .exact zPM hm
 .exact (zPM (ziP hf hm hp).2).trans (zVz hf hm)
theorem z5v {l l':List Mon}(h:zdG l'=zdG l):l'.length=l.length:=by
 have:=congrArg List.length h;simpa [zdG] using this
abbrev kZ:Kept:=Ty.dflt .kept
theorem z6q {x:Guest}(hk:zcX x=true){p n:Int}(hw:zeT x.Live p n=true):hasB (zcm x.Live p n) 8=true:=by
 have ht:zco x.Live 4 8=true:=by
  unfold zcX at hk;simp only[qD]at hk;exact hk.2.2.2.2.1
 unfold zcm;rw[hw];simp only[cT];unfold zeT at hw;cases h1:ieq (zbf x.Live p).Page (-1)
 .unfold zbf at h1 ⊢;cases h2:hasB p (ln x.Live)
  .rw [h2]at h1;cases h1
  .rw [h2]at h1;simp only[cT]at h1 ⊢;unfold zco at ht;simp only[zcw]at ht;have hs:=qJ.1 ht.1 _ (zbq h2 sZ);unfold zc6 at hs;cases h3:zcd (ix x.Live p sZ) noSlot
   .rw [h3]at hs;simp only[cF,zcw]at hs;have:=zfg.1 hs.2.1;rw[show wsub .i64 8 1=7 from rfl] at this
    show hasB (ix x.Live p sZ).Page 8=true
    exact qL (by omega)
   .unfold zcd at h3;rw[qD]at h3;have:(ix x.Live p sZ).Page = -1:=qE h3.1;rw[show ieq (ix x.Live p zI).Page (-1)=true from qL this]at h1
    cases h1
 .rw [h1]at hw;cases hw
def zcz (h:Host)(m g:Int):List Slot:=(ix (ix h.Mons m mZ).Guests g gZ).Live
def zcc (h:Host)(m g:Int):Kept:=ix (ix h.Mons m mZ).Tables g kZ
def zpA (b:List Entry)(m g page:Int):Option Entry:=zBq b (zel m g) page
def zge (b:List Entry)(m g page need:Int):Bool:=bif (zpA b m g page).isSome then enough ((zpA b m g page).getD ⟨0,0,0,0⟩).Rights need else false
def zef (h:Host)(m g page need:Int):Bool:=bif zfv (zcc h m g) page then (cond (ieq (zdF (zcc h m g) page).Page (-1)) true (!enough (zdF (zcc h m g) page).Rights need)) else true
def zdf (h:Host)(m g page:Int):Host:={ h with Mons:=up h.Mons m { ix h.Mons m mZ with Tables:=up (ix h.Mons m mZ).Tables g (filled (zcc h m g) (zcz h m g) (ix h.Mons m mZ).Outer page) } }
def zBn (h:Host)(m g page:Int):Entry:=⟨zel m g,page,(zdF (zcc h m g) page).Page,(zdF (zcc h m g) page).Rights⟩
def zoZ (h:Host)(m g page:Int)(io:Bool):Host:=bif io then { h with IoBuffer:=zod h.IoBuffer (zBn h m g page) } else { h with Buffer:=zod h.Buffer (zBn h m g page) }
def zg2 (h:Host)(m g page:Int)(io:Bool):Host×Int×Bool:=(zoZ h m g page io,(zdF (zcc h m g) page).Page,true)
def zfI (h:Host)(b:List Entry)(m g page need q:Int)(io:Bool):Host×Int×Bool :=
 bif zge b m g page need then (h,((zpA b m g page).getD ⟨0,0,0,0⟩).Host,true)
 else (cond (zef h m g page need) (zg2 (zdf (mended h m q need) m g page) m g page io) (zg2 h m g page io))
def ziF (need:Int):Bool:=bif ieq need 1 then true else ieq need 2
def zbP (h:Host)(m g page need:Int):Bool:=bif zbH h m g then (cond (ziF need) (zeT (zcz h m g) page need) false) else false
def lookOf (h:Host)(b:List Entry)(m g page need:Int)(io:Bool):Host×Int×Bool :=
 bif zbP h m g page need then zfI (cond (ieq need 2) (zbp h m (zcm (zcz h m g) page need)) h) b m g page need (zcm (zcz h m g) page need) io else (h,-1,false)
structure Kp (h r:Host):Prop where
 shape:Shape r
 gs:zdG r.Mons=zdG h.Mons
theorem Kp.has {h r:Host}(k:Kp h r){m:Int}(hm:hasB m (ln h.Mons)=true):hasB m (ln r.Mons)=true:=by
 rw[ln,z5v k.gs];exact hm
theorem zWq {h:Host}{m g page:Int}(hs:Shape h)(hm:hasB m (ln h.Mons)=true)(hg:hasB g (ln (ix h.Mons m mZ).Guests)=true):Shape (zdf h m g page):=by
 obtain ⟨g1,g2⟩:=zcf hs hm;have ht:hasB g (ln (ix h.Mons m mZ).Tables)=true:=by rw[ln,g2.2.2.2];exact hg
 exact zhz hs ⟨g1.1,g1.2.1,g1.2.2.1,g1.2.2.2.1,g1.2.2.2.2.1,zv6 g1.2.2.2.2.2 (zWx (g1.2.2.2.2.2.2 _ (zbq ht _)))⟩ ⟨g2.1,g2.2.1,g2.2.2.1,by simpa using g2.2.2.2⟩
theorem zXZ {h r:Host}{m g page:Int}{io:Bool}(k:Kp h r):Kp h (zoZ r m g page io):=by
 obtain ⟨⟨h1,h2,h3,h4⟩,h5⟩:=k.shape;unfold zoZ;cases io
 .exact ⟨⟨⟨h1,h2,(zFG _ h3).1,h4⟩,h5⟩,k.gs⟩
 .exact ⟨⟨⟨h1,h2,h3,(zFG _ h4).1⟩,h5⟩,k.gs⟩
structure LookAt (h:Host) (m g q need:Int):Prop where
 fit:Fit h
 hm:hasB m (ln h.Mons)=true
 hg:hasB g (ln (ix h.Mons m mZ).Guests)=true
 hq:hasB q 8=true
 hn:need=1\/need=2
 hs:SlotFit (ix (ix h.Mons m mZ).Outer q sZ)
theorem LookAt.mend {h:Host}{m g q need:Int}(A:LookAt h m g q need):zO2 h m q need:=⟨A.fit,A.hm,A.hq,A.hn,A.hs⟩
theorem LookAt.kp {h:Host}{m g q need:Int}(A:LookAt h m g q need):Kp h (mended h m q need):=⟨(zst A.fit A.hm A.hq).1,zXO A.fit A.hm A.hq⟩
theorem LookAt.fill {h:Host}{m g q need:Int}(A:LookAt h m g q need)(page:Int):Kp h (zdf (mended h m q need) m g page):=by
 have k:=A.kp;have hg:hasB g (ln (ix (mended h m q need).Mons m mZ).Guests)=true:=by rw[zHf k.gs];exact A.hg
 have e:zdG (zdf (mended h m q need) m g page).Mons=zdG (mended h m q need).Mons:=zwC (k.has A.hm) rfl;exact ⟨zWq k.shape (k.has A.hm) hg,e.trans k.gs⟩
theorem zP1 {h:Host}{b:List Entry}{m g page need q:Int}{io:Bool}(A:LookAt h m g q need):Kp h (zfI h b m g page need q io).1:=by
 unfold zfI;cases zge b m g page need
 .cases zef h m g page need
  .exact zXZ ⟨A.fit.1,rfl⟩
  .exact zXZ (A.fill page)
 .exact ⟨A.fit.1,rfl⟩
theorem zda {h:Host}{m g:Int}(hh:zbH h m g=true):zbB h=true/\hasB m (ln h.Mons)=true/\hasB g (ln (ix h.Mons m mZ).Guests)=true:=by
 unfold zbH at hh;simp only[zcw]at hh;exact hh
theorem zVA {h:Host}{m g:Int}(hh:zbH h m g=true):zcX (ix (ix h.Mons m mZ).Guests g gZ)=true:=by
 obtain ⟨h1,h2,h3⟩:=zda hh;have hk:=zf2 h1 _ (zbq h2 mZ);unfold zdg at hk;simp only[zcw]at hk;exact qJ.1 hk.2.2.2.2.2.2.2.2.2.1 _ (zbq h3 _)
theorem zIo {n:Int}(h:ziF n=true):n=1\/n=2:=by
 unfold ziF at h;cases h1:ieq n 1
 .rw [h1]at h;exact .inr (qE h)
 .exact .inl (qE h1)
theorem zMF {h:Host}{m g page need:Int}(hs:SmH h)(hh:zbP h m g page need=true) :
 LookAt h m g (zcm (zcz h m g) page need) need/\LookAt (zbp h m (zcm (zcz h m g) page need)) m g (zcm (zcz h m g) page need) need:=by
 unfold zbP at hh;simp only[zcw]at hh;obtain ⟨h1,h2,h3⟩:=hh;obtain ⟨g1,g2,g3⟩:=zda h1;have hq:hasB (zcm (zcz h m g) page need) 8=true:=z6q (zVA h1) h3;have hsl:=zqO (zf2 g1 _ (zbq g2 mZ)) hq;have hf:=zeg hs g1;refine ⟨⟨hf,g2,g3,hq,zIo h2,hsl⟩,⟨zSv hf g2,zd8 g2,?_,hq,zIo h2,?_⟩⟩
 .have e:zdG (zbp h m (zcm (zcz h m g) page need)).Mons=zdG h.Mons:=zwC g2 rfl;rw[zHf e];exact g3
 .obtain ⟨k,rfl,hk⟩:=zdj (n:=h.Mons.length) g2;unfold zbp;rw[zdv hk];exact hsl
theorem zvk {h:Host}{b:List Entry}{m g page need:Int}{io:Bool}(hs:SmH h)(hh:zbH h m g=true):Kp h (lookOf h b m g page need io).1:=by
 have hf:=zeg hs (zda hh).1;unfold lookOf;cases h1:zbP h m g page need
 .exact ⟨hf.1,rfl⟩
 .obtain ⟨A,B⟩:=zMF hs h1;simp only[cT];cases ieq need 2
  .exact zP1 A
  .have k:=zP1 (b:=b) (page:=page) (io:=io) B;have e:zdG (zbp h m (zcm (zcz h m g) page need)).Mons=zdG h.Mons:=zwC A.hm rfl;exact ⟨k.shape,k.gs.trans e⟩
def zLn (x:Host×Int×Bool):List AV:=[.agg (zbc x.1),.one (.i .i64 x.2.1),.one (.b x.2.2)]
theorem zmf {h:Host}{b:List Entry}{m g page need:Int}{io:Bool}(hh:zbP h m g page need=false):lookOf h b m g page need io=(h,-1,false):=by
 unfold lookOf;rw[hh];rfl
theorem zzU {h:Host}{m g page need:Int}(hh:zbH h m g=false):zbP h m g page need=false:=by
 unfold zbP;rw[hh];rfl
theorem z3P {h:Host}{m g:Int}(hh:zbB h=false):zbH h m g=false:=by
 unfold zbH;rw[hh];rfl
theorem z3Q {h:Host}{m g:Int}(hh:hasB m (ln h.Mons)=false):zbH h m g=false:=by
 unfold zbH;rw[hh];cases zbB h<;>rfl
theorem z3R {h:Host}{m g:Int}(hh:hasB g (ln (ix h.Mons m mZ).Guests)=false):zbH h m g=false:=by
 unfold zbH;rw[hh];cases zbB h<;>cases hasB m (ln h.Mons)<;>rfl
theorem z3S {h:Host}{m g:Int}(h1:zbB h=true)(h2:hasB m (ln h.Mons)=true)(h3:hasB g (ln (ix h.Mons m mZ).Guests)=true):zbH h m g=true:=by
 unfold zbH;rw[h1,h2,h3];rfl
structure LookF (r:Host) (m g:Int):Prop where
 hm:hasB m (ln r.Mons)=true
 hg:hasB g (ln (ix r.Mons m mZ).Guests)=true
 ht:hasB g (ln (ix r.Mons m mZ).Tables)=true
 hk:SmK (zcc r m g)
 hb:r.Buffer.length<=1048576
 hi:r.IoBuffer.length<=1048576
theorem zBA {h r:Host}{m g:Int}(k:Kp h r)(hm:hasB m (ln h.Mons)=true)(hg:hasB g (ln (ix h.Mons m mZ).Guests)=true):LookF r m g:=by
 obtain ⟨g1,g2⟩:=zcf k.shape (k.has hm);have hg':hasB g (ln (ix r.Mons m mZ).Guests)=true:=by rw[zHf k.gs];exact hg
 have ht:hasB g (ln (ix r.Mons m mZ).Tables)=true:=by rw[ln,g2.2.2.2];exact hg'
 exact ⟨k.has hm,hg',ht,g1.2.2.2.2.2.2 _ (zbq ht _),k.shape.1.2.2.1,k.shape.1.2.2.2⟩
@[simp] abbrev zjb (h:Host)(b:List Entry)(m g page need:Int)(io:Bool):Bool:=pc (zbI h)
@[simp] abbrev zeB (h:Host)(b:List Entry)(m g page need:Int)(io:Bool):Host:=(lookOf h b m g page need io).1
@[simp] abbrev zja (h:Host)(b:List Entry)(m g page need:Int)(io:Bool):Int:=(lookOf h b m g page need io).2.1
@[simp] abbrev zf9 (h:Host)(b:List Entry)(m g page need:Int)(io:Bool):Bool:=(lookOf h b m g page need io).2.2
def zqj:List AV->Option (Bool×List AV)
 | [.agg [.s (.sl .int) c,.s .mon d,.s .entry e,.s .entry f],.one (.s .entry g),.one (.i .i64 h),.one (.i .i64 j),.one (.i .i64 k),.one (.i .i64 l),.one (.b m)]=>some ((zjb (⟨c,d,e,f⟩:Host) g h j k l m),[aH (zeB (⟨c,d,e,f⟩:Host) g h j k l m),aI (zja (⟨c,d,e,f⟩:Host) g h j k l m),aB (zf9 (⟨c,d,e,f⟩:Host) g h j k l m)])
 | _=>none
abbrev zM9 (u9_11:lM)(u9_12:lN)(u9_13:lE)(u9_14:lE)(u9_0:Int)(u9_5:Int)(u9_3:Int):Mon :=
 (ix (zmm (⟨u9_11,u9_12,u9_13,u9_14⟩:Host) u9_0 u9_5 u9_3).Mons u9_0 zf)
abbrev zNa (a0:Host)(a2 a3:Int)(a4 a5:Int):Int :=
 (ziK (ix (ix a0.Mons a2 zf).Guests a3 zA).Live a4 a5)
def zJn (N:Nat)(u11_0:Int)(u11_2:lM)(u11_3:lN)(u11_4:lE)(u11_5:lE):OA:=
 (some [(aH (⟨u11_2,u11_3,u11_4,u11_5⟩:Host)),(aI u11_0),(aB true)])
def znM (N:Nat)(u10_0:Int)(u10_1:Bool)(u10_2:Int)(u10_7:Int)(u10_8:Int)(u10_9:lM)(u10_10:lN)(u10_11:lE)(u10_12:lE)(u10_13:lM)(u10_14:lN)(u10_15:lE)(u10_16:lE):OA:=
 let y0:=(⟨u10_2,u10_0,u10_7,u10_8⟩:Entry); (share (fun (s11:(Int×(Int×(lM×(lN×(lE×(lE×(lM×(lN×(lE×(lE×Unit)))))))))))=>(zJn N s11.1 s11.2.2.1 s11.2.2.2.1 s11.2.2.2.2.1 s11.2.2.2.2.2.1)) (fun r11=>(cond u10_1 (oN (znr u10_12 y0) (r11 (u10_7,(u10_8,(u10_9,(u10_10,(u10_11,((znq u10_12 y0),(u10_13,(u10_14,(u10_15,(u10_16,())))))))))))) (oN (znr u10_11 y0) (r11 (u10_7,(u10_8,(u10_9,(u10_10,((znq u10_11 y0),(u10_12,(u10_13,(u10_14,(u10_15,(u10_16,())))))))))))))))
def zpW (N:Nat)(u9_11:lM)(u9_12:lN)(u9_13:lE)(u9_14:lE)(u9_0:Int)(u9_5:Int)(u9_3:Int)(u9_1:Int)(u9_2:Int)(r10:((Int×(Bool×(Int×(Int×(Int×(Int×(Int×(Int×(Int×(lM×(lN×(lE×(lE×(lM×(lN×(lE×(lE×Unit))))))))))))))))))->OA)(u9_4:Bool)(u9_6:Int)(u9_7:Int)(u9_8:Int)(u9_9:Int)(u9_10:Int)(u9_15:lM)(u9_16:lN)(u9_17:lE)(u9_18:lE):OA:=
 let y7:=(⟨u9_11,u9_12,u9_13,u9_14⟩:Host);let y1:=(zmm y7 u9_0 u9_5 u9_3);let y3:=(inb u9_0 (ln y1.Mons));let y0:=(zM9 u9_11 u9_12 u9_13 u9_14 u9_0 u9_5 u9_3);let y6:=(ix y0.Tables u9_1 zdd);let y4:=(ix y0.Guests u9_1 zA).Live; (oN (zls y7 u9_0 u9_5 u9_3) (oN y3 (oN y3 (oN (inb u9_1 (ln y0.Tables)) (oN y3 (oN (inb u9_1 (ln y0.Guests)) (oN y3 (oN (zFJ y6 y4 y0.Outer u9_2) (oN (inb u9_1 (ln y0.Tables)) (share (up y1.Mons u9_0 ({ y0 with Tables:=(up y0.Tables u9_1 (zIO y6 y4 y0.Outer u9_2)) }:Mon)) (fun x11=>let y5:=(ix x11 u9_0 zf).Tables;let y2:=(ix y5 u9_1 zdd); (oN (inb u9_0 (ln x11)) (oN (inb u9_1 (ln y5)) (oN (zBI y2 u9_2) (r10 (u9_2,(u9_4,(u9_6,(u9_7,(u9_8,(u9_9,(u9_10,((zrj y2 u9_2).Page,((zrj y2 u9_2).Rights,(y1.Memory,(x11,(y1.Buffer,(y1.IoBuffer,(u9_15,(u9_16,(u9_17,(u9_18,()))))))))))))))))))))))))))))))))
def zj9 (N:Nat)(u9_0:Int)(u9_1:Int)(u9_2:Int)(u9_3:Int)(u9_4:Bool)(u9_5:Int)(u9_6:Int)(u9_7:Int)(u9_8:Int)(u9_9:Int)(u9_10:Int)(u9_11:lM)(u9_12:lN)(u9_13:lE)(u9_14:lE)(u9_15:lM)(u9_16:lN)(u9_17:lE)(u9_18:lE):OA:=
 let y3:=(ix u9_12 u9_0 zf).Tables;let y0:=(ix y3 u9_1 zdd);let y2:=(zrj y0 u9_2); (oN (inb u9_0 (ln u9_12)) (oN (inb u9_1 (ln y3)) (oN (zBI y0 u9_2) (share (fun (s10:(Int×(Bool×(Int×(Int×(Int×(Int×(Int×(Int×(Int×(lM×(lN×(lE×(lE×(lM×(lN×(lE×(lE×Unit))))))))))))))))))=>(znM N s10.1 s10.2.1 s10.2.2.1 s10.2.2.2.2.2.2.2.1 s10.2.2.2.2.2.2.2.2.1 s10.2.2.2.2.2.2.2.2.2.1 s10.2.2.2.2.2.2.2.2.2.2.1 s10.2.2.2.2.2.2.2.2.2.2.2.1 s10.2.2.2.2.2.2.2.2.2.2.2.2.1 s10.2.2.2.2.2.2.2.2.2.2.2.2.2.1 s10.2.2.2.2.2.2.2.2.2.2.2.2.2.2.1 s10.2.2.2.2.2.2.2.2.2.2.2.2.2.2.2.1 s10.2.2.2.2.2.2.2.2.2.2.2.2.2.2.2.2.1)) (fun r10=>let y1:=(zpW N u9_11 u9_12 u9_13 u9_14 u9_0 u9_5 u9_3 u9_1 u9_2 r10 u9_4 u9_6 u9_7 u9_8 u9_9 u9_10 u9_15 u9_16 u9_17 u9_18); (cond (nB (zBH y0 u9_2)) y1 (cond (ieq y2.Page (-1)) y1 (oN (zfY y2.Rights u9_3) (cond (nB (zgB y2.Rights u9_3)) y1 (r10 (u9_2,(u9_4,(u9_6,(u9_7,(u9_8,(u9_9,(u9_10,(y2.Page,(y2.Rights,(u9_11,(u9_12,(u9_13,(u9_14,(u9_15,(u9_16,(u9_17,(u9_18,())))))))))))))))))))))))))))
def zpX (N:Nat)(a2:Int)(a0:Host)(a3 a4 a5:Int)(a1:lE)(a6:Bool):OA:=
 let y3:=(zrl a2 a3);let y2:=(zNa a0 a2 a3 a4 a5);let y1:=(ix a0.Mons a2 zf);let y5:=(ix y1.Guests a3 zA).Live;let y0:=(zlB a1 y3 a4);let y4:=y0.Rights; (oN (inb a2 (ln a0.Mons)) (oN (inb a3 (ln y1.Guests)) (oN (zqp y5 a4 a5) (cond (nB (ziL y5 a4 a5)) (some [(aH a0),(aI (-1)),(aB false)]) (oN (zjT a2 a3) (cond (ieq a5 2) (oN (inb a2 (ln a0.Mons)) (oN (inb y2 (ln y1.Dirty)) (share (up a0.Mons a2 ({ y1 with Dirty:=(up y1.Dirty y2 true) }:Mon)) (fun x8=>(oN (zlC a1 y3 a4) (share (fun (s9:(Int×(Int×(Int×(Int×(Bool×(Int×(Int×(Int×(Int×(Int×(Int×(lM×(lN×(lE×(lE×(lM×(lN×(lE×(lE×Unit))))))))))))))))))))=>(zj9 N s9.1 s9.2.1 s9.2.2.1 s9.2.2.2.1 s9.2.2.2.2.1 s9.2.2.2.2.2.1 s9.2.2.2.2.2.2.1 s9.2.2.2.2.2.2.2.1 s9.2.2.2.2.2.2.2.2.1 s9.2.2.2.2.2.2.2.2.2.1 s9.2.2.2.2.2.2.2.2.2.2.1 s9.2.2.2.2.2.2.2.2.2.2.2.1 s9.2.2.2.2.2.2.2.2.2.2.2.2.1 s9.2.2.2.2.2.2.2.2.2.2.2.2.2.1 s9.2.2.2.2.2.2.2.2.2.2.2.2.2.2.1 s9.2.2.2.2.2.2.2.2.2.2.2.2.2.2.2.1 s9.2.2.2.2.2.2.2.2.2.2.2.2.2.2.2.2.1 s9.2.2.2.2.2.2.2.2.2.2.2.2.2.2.2.2.2.1 s9.2.2.2.2.2.2.2.2.2.2.2.2.2.2.2.2.2.2.1)) (fun r9=>(cond (ziI a1 y3 a4) (oN (zfY y4 a5) (cond (zgB y4 a5) (some [(aH ({ a0 with Mons:=x8 }:Host)),(aI y0.Host),(aB true)]) (r9 (a2,(a3,(a4,(a5,(a6,(y2,(y3,(y0.Tag,(y0.Page,(y0.Host,(y4,(a0.Memory,(x8,(a0.Buffer,(a0.IoBuffer,([],([],([],([],())))))))))))))))))))))) (r9 (a2,(a3,(a4,(a5,(a6,(y2,(y3,(y0.Tag,(y0.Page,(y0.Host,(y4,(a0.Memory,(x8,(a0.Buffer,(a0.IoBuffer,([],([],([],([],())))))))))))))))))))))))))))) (oN (zlC a1 y3 a4) (share (fun (s8:(Int×(Int×(Int×(Int×(Bool×(Int×(Int×(Int×(Int×(Int×(Int×(lM×(lN×(lE×(lE×(lM×(lN×(lE×(lE×Unit))))))))))))))))))))=>(zj9 N s8.1 s8.2.1 s8.2.2.1 s8.2.2.2.1 s8.2.2.2.2.1 s8.2.2.2.2.2.1 s8.2.2.2.2.2.2.1 s8.2.2.2.2.2.2.2.1 s8.2.2.2.2.2.2.2.2.1 s8.2.2.2.2.2.2.2.2.2.1 s8.2.2.2.2.2.2.2.2.2.2.1 s8.2.2.2.2.2.2.2.2.2.2.2.1 s8.2.2.2.2.2.2.2.2.2.2.2.2.1 s8.2.2.2.2.2.2.2.2.2.2.2.2.2.1 s8.2.2.2.2.2.2.2.2.2.2.2.2.2.2.1 s8.2.2.2.2.2.2.2.2.2.2.2.2.2.2.2.1 s8.2.2.2.2.2.2.2.2.2.2.2.2.2.2.2.2.1 s8.2.2.2.2.2.2.2.2.2.2.2.2.2.2.2.2.2.1 s8.2.2.2.2.2.2.2.2.2.2.2.2.2.2.2.2.2.2.1)) (fun r8=>(cond (ziI a1 y3 a4) (oN (zfY y4 a5) (cond (zgB y4 a5) (some [(aH a0),(aI y0.Host),(aB true)]) (r8 (a2,(a3,(a4,(a5,(a6,(y2,(y3,(y0.Tag,(y0.Page,(y0.Host,(y4,(a0.Memory,(a0.Mons,(a0.Buffer,(a0.IoBuffer,([],([],([],([],())))))))))))))))))))))) (r8 (a2,(a3,(a4,(a5,(a6,(y2,(y3,(y0.Tag,(y0.Page,(y0.Host,(y4,(a0.Memory,(a0.Mons,(a0.Buffer,(a0.IoBuffer,([],([],([],([],()))))))))))))))))))))))))))))))
def zoE (N:Nat)(a0:Host)(a1:lE)(a2 a3:Int)(a4 a5:Int)(a6:Bool):OA:=
 let y1:=(zpX N a2 a0 a3 a4 a5 a1 a6);let y0:=(wsub .i64 (ln (ix a0.Mons a2 zf).Guests) 1); (oN (zeJ a0) (cond (nB (zeI a0)) (some [(aH a0),(aI (-1)),(aB false)]) (oN (zJ a2 0 (wsub .i64 (ln a0.Mons) 1)) (cond (nB (zL a2 0 (wsub .i64 (ln a0.Mons) 1))) (some [(aH a0),(aI (-1)),(aB false)]) (oN (inb a2 (ln a0.Mons)) (oN (zJ a3 0 y0) (cond (nB (zL a3 0 y0)) (some [(aH a0),(aI (-1)),(aB false)]) (cond (ine a5 1) (cond (ine a5 2) (some [(aH a0),(aI (-1)),(aB false)]) y1) y1))))))))
def zqw:FuncId->Nat->Option Tmpl:=zx [(36,999999,{ n:=0,tm:=[],lo:=[],ro:=[] }),(36,1007023,{ n:=210,tm:=[(2,ti),(3,ti),(4,ti),(5,ti),(6,.b),(7,.lp 0 0),(14,.lp 1 0),(17,ti),(19,ti),(20,.lp 2 0)],lo:=[(0,[.sl 0 [],.sl 1 [],.sl 2 [],.sl 3 []]),(1,[.sl 4 [],.sl 5 [],.sl 6 [],.sl 7 []]),(2,[ti,ti,ti,ti])],ro:=[(0,(.sl .int),true),(1,.mon,true),(2,.entry,true),(3,.entry,true),(4,(.sl .int),true),(5,.mon,true),(6,.entry,true),(7,.entry,true)],kr:=1 }),(36,1009011,{ n:=210,tm:=[(4,ti),(6,.b),(7,.lp 0 0),(14,.lp 1 0),(19,ti),(20,.lp 2 0),(22,.lp 3 0)],lo:=[(0,[.sl 0 [],.sl 1 [],.sl 2 [],.sl 3 []]),(1,[.sl 4 [],.sl 5 [],.sl 6 [],.sl 7 []]),(2,[ti,ti,ti,ti]),(3,[ti,ti])],ro:=[(0,(.sl .int),true),(1,.mon,true),(2,.entry,true),(3,.entry,true),(4,(.sl .int),true),(5,.mon,true),(6,.entry,true),(7,.entry,true)],kr:=1 }),(36,1005003,{ n:=210,tm:=[(7,.lp 0 0),(14,.lp 1 0),(22,.lp 2 0)],lo:=[(0,[.sl 0 [],.sl 1 [],.sl 2 [],.sl 3 []]),(1,[.sl 4 [],.sl 5 [],.sl 6 [],.sl 7 []]),(2,[ti,ti])],ro:=[(0,(.sl .int),true),(1,.mon,true),(2,.entry,true),(3,.entry,true),(4,(.sl .int),true),(5,.mon,true),(6,.entry,true),(7,.entry,true)],kr:=1 })]
theorem zLe (N:Nat)(a0:Host)(a2 a3:Int)(a4 a5:Int)(a6:Bool):zOG (cQ zlw zn6 zWa zWE) zqw N 12 36 [true,true,true,true,false,false,false,false,false,false] [(4,2)] 1 1 [[0],[1],[2],[4],[7]] .mon [aH a0,aS .entry a0.Buffer,aI a2,aI a3,aI a4,aI a5,aB a6]=zoE N a0 a0.Buffer a2 a3 a4 a5 a6:=by kernel_rfl
theorem zLf (N:Nat)(a0:Host)(a2 a3:Int)(a4 a5:Int)(a6:Bool):zOG (cQ zlw zn6 zWa zWE) zqw N 12 36 [true,true,true,true,false,false,false,false,false,false] [(4,3)] 1 1 [[0],[1],[2],[4],[7]] .mon [aH a0,aS .entry a0.IoBuffer,aI a2,aI a3,aI a4,aI a5,aB a6]=zoE N a0 a0.IoBuffer a2 a3 a4 a5 a6:=by kernel_rfl
theorem zBr {N:Nat}{r:Host}{m g page:Int}{io:Bool}{z1 z2 z3 z4}(hb:r.Buffer.length<=1048576)(hi:r.IoBuffer.length<=1048576) :
 znM N page io (zel m g) (zdF (zcc r m g) page).Page (zdF (zcc r m g) page).Rights r.Memory r.Mons r.Buffer r.IoBuffer z1 z2 z3 z4=some (zLn (zg2 r m g page io)):=by
 unfold znM oN
 conv=>zeta
 refine shr ?_;cases io
 .exact zdB rfl (must (zby hb) rfl)
 .exact must rfl (must (zby hi) rfl)
theorem zPD {N:Nat}{r:Host}{m g page need q:Int}{io:Bool}{R:OA}{r11}{u6 u7 u8 u9 u10 z1 z2 z3 z4}(A:LookAt r m g q need)(hr:r11 (page,(io,(u6,(u7,(u8,(u9,(u10,((zdF (zcc (zdf (mended r m q need) m g page) m g) page).Page,((zdF (zcc (zdf (mended r m q need) m g page) m g) page).Rights,((zdf (mended r m q need) m g page).Memory,((zdf (mended r m q need) m g page).Mons,((zdf (mended r m q need) m g page).Buffer,((zdf (mended r m q need) m g page).IoBuffer,(z1,(z2,(z3,(z4,())))))))))))))))))=R) :
 zpW N r.Memory r.Mons r.Buffer r.IoBuffer m q need g page r11 io u6 u7 u8 u9 u10 z1 z2 z3 z4=R:=by
 have M:=zBA A.kp A.hm A.hg;have F:=zBA (A.fill page) A.hm A.hg;unfold zpW oN
 conv=>zeta
 exact must (zby A.mend) (must (zu M.hm) (must (zu M.hm) (must (zu M.ht) (must (zu M.hm) (must (zu M.hg) (must (zu M.hm) (must (zby M.hk) (must (zu M.ht) (shr (must (zu F.hm) (must (zu F.ht) (must (zby F.hk) hr))))))))))))
theorem z4G {r:Host}{m g page need:Int}(h:zfv (zcc r m g) page=false):zef r m g page need=true:=by
 unfold zef;rw[h];rfl
theorem z4H {r:Host}{m g page need:Int}(h:ieq (zdF (zcc r m g) page).Page (-1)=true):zef r m g page need=true:=by
 unfold zef;rw[h];cases zfv (zcc r m g) page<;>rfl
theorem z4I {r:Host}{m g page need:Int}(h:enough (zdF (zcc r m g) page).Rights need=false):zef r m g page need=true:=by
 unfold zef;rw[h];cases zfv (zcc r m g) page<;>cases ieq (zdF (zcc r m g) page).Page (-1)<;>rfl
theorem z4J {r:Host}{m g page need:Int}(h1:zfv (zcc r m g) page=true)(h2:ieq (zdF (zcc r m g) page).Page (-1)=false)(h3:enough (zdF (zcc r m g) page).Rights need=true):zef r m g page need=false:=by
 unfold zef;rw[h1,h2,h3];rfl
theorem zK4 {r:Host}{m g page need q:Int}{io:Bool}(h:zef r m g page need=true):(cond (zef r m g page need) (zg2 (zdf (mended r m q need) m g page) m g page io) (zg2 r m g page io))=zg2 (zdf (mended r m q need) m g page) m g page io:=by
 rw[h];rfl
theorem z3Y {r:Host}{m g page need q:Int}{io:Bool}(h:zef r m g page need=false):(cond (zef r m g page need) (zg2 (zdf (mended r m q need) m g page) m g page io) (zg2 r m g page io))=zg2 r m g page io:=by
 rw[h];rfl
theorem zBs {N:Nat}{r:Host}{m g page need q:Int}{io:Bool}{u7 u8 u9 u10 z1 z2 z3 z4}(A:LookAt r m g q need) :
 zj9 N m g page need io q (zel m g) u7 u8 u9 u10 r.Memory r.Mons r.Buffer r.IoBuffer z1 z2 z3 z4=some (zLn (cond (zef r m g page need) (zg2 (zdf (mended r m q need) m g page) m g page io) (zg2 r m g page io))):=by
 have M:=zBA ⟨A.fit.1,rfl⟩ A.hm A.hg;have F:=zBA (A.fill page) A.hm A.hg;unfold zj9 oN nB
 conv=>zeta
 refine must (zu M.hm) (must (zu M.ht) (must (zby M.hk) (shr (brN (fun h1=>?_) (fun h1=>br (fun h2=>?_) (fun h2=>must rfl (brN (fun h3=>?_) (fun h3=>?_))))))))
 .rw [zK4 (z4G h1)];exact zPD A (zBr (r:=zdf (mended r m q need) m g page) (m:=m) (g:=g) F.hb F.hi)
 .rw [zK4 (z4H h2)];exact zPD A (zBr (r:=zdf (mended r m q need) m g page) (m:=m) (g:=g) F.hb F.hi)
 .rw [zK4 (z4I h3)];exact zPD A (zBr (r:=zdf (mended r m q need) m g page) (m:=m) (g:=g) F.hb F.hi)
 .rw [z3Y (z4J h1 h2 h3)];exact zBr (r:=r) (m:=m) (g:=g) M.hb M.hi
theorem zTZ {b:List Entry}{m g page need:Int}(h:(zpA b m g page).isSome=false):zge b m g page need=false:=by
 unfold zge;rw[h];rfl
theorem zBv {b:List Entry}{m g page need:Int}{x:Bool}(h1:(zpA b m g page).isSome=true)(h:enough ((zpA b m g page).getD ⟨0,0,0,0⟩).Rights need=x):zge b m g page need=x:=by
 unfold zge;rw[h1,h];rfl
theorem zBz {r:Host}{b:List Entry}{m g page need q:Int}{io:Bool}(h:zge b m g page need=false):zfI r b m g page need q io=bif zef r m g page need then zg2 (zdf (mended r m q need) m g page) m g page io else zg2 r m g page io:=by
 unfold zfI;rw[h];rfl
theorem zUd {r:Host}{b:List Entry}{m g page need q:Int}{io:Bool}(h:zge b m g page need=true):zfI r b m g page need q io=(r,((zpA b m g page).getD ⟨0,0,0,0⟩).Host,true):=by
 unfold zfI;rw[h];rfl
theorem zQS {h:Host}{b:List Entry}{m g page need:Int}{io:Bool}(hh:zbP h m g page need=true):lookOf h b m g page need io=zfI (cond (ieq need 2) (zbp h m (zcm (zcz h m g) page need)) h) b m g page need (zcm (zcz h m g) page need) io:=by
 unfold lookOf;rw[hh];rfl
theorem zXC {N:Nat}{r:Host}{b:List Entry}{m g page need:Int}{io:Bool}(hs:SmH r)(hg:zbH r m g=true)(hn:ziF need=true) :
 zpX N m r g page need b io=some (zLn (lookOf r b m g page need io)):=by
 obtain ⟨g1,g2,g3⟩:=zda hg;unfold zpX oN nB
 conv=>zeta
 refine must (zu g2) (must (zu g3) (must rfl (brN (fun hw=>?_) (fun hw=>must rfl ?_))))
 .have:zbP r m g page need=false:=by
   unfold zbP;rw[hg,hn,show zeT (zcz r m g) page need=false from hw]
   rfl
  rw[zmf this];rfl
 .have hl:zbP r m g page need=true:=by
   unfold zbP;rw[hg,hn,show zeT (zcz r m g) page need=true from hw]
   rfl
  obtain ⟨A,B⟩:=zMF hs hl;rw[zQS hl];have hd:hasB (zcm (zcz r m g) page need) (ln (ix r.Mons m mZ).Dirty)=true:=zdb (zcf A.fit.1 g2).2.2.2.1 A.hq;refine br (fun h2=>?_) (fun h2=>?_)
  .rw [h2]
   show _=some (zLn (zfI (zbp r m (zcm (zcz r m g) page need)) b m g page need (zcm (zcz r m g) page need) io))
   refine must (zu g2) (must (zu hd) (shr (must rfl (shr (br (fun f1=>must rfl (br (fun f2=>?_) (fun f2=>?_))) (fun f1=>?_))))))
   .rw [zUd (zBv f1 f2)];rfl
   .rw [zBz (zBv f1 f2)];exact zBs (r:=zbp r m (zcm (zcz r m g) page need)) B
   .rw [zBz (zTZ f1)];exact zBs (r:=zbp r m (zcm (zcz r m g) page need)) B
  .rw [h2]
   show _=some (zLn (zfI r b m g page need (zcm (zcz r m g) page need) io))
   refine must rfl (shr (br (fun f1=>must rfl (br (fun f2=>?_) (fun f2=>?_))) (fun f1=>?_)))
   .rw [zUd (zBv f1 f2)];rfl
   .rw [zBz (zBv f1 f2)];exact zBs A
   .rw [zBz (zTZ f1)];exact zBs A
theorem zOi (a0:Host)(a1:List Entry)(a2 a3:Int)(a4 a5:Int)(a6:Bool)(hb:zbQ big [aH a0,aS .entry a1,aI a2,aI a3,aI a4,aI a5,aB a6])(hc:zjb a0 a1 a2 a3 a4 a5 a6=true):∃N,zoE N a0 a1 a2 a3 a4 a5 a6=some [aH (zeB a0 a1 a2 a3 a4 a5 a6),aI (zja a0 a1 a2 a3 a4 a5 a6),aB (zf9 a0 a1 a2 a3 a4 a5 a6)]:=by
 have hs:=(zN a0).1 (zF.1 hc);refine ⟨0,?_⟩
 show _=some (zLn (lookOf a0 a1 a2 a3 a4 a5 a6))
 unfold zoE oN nB
 conv=>zeta
 refine must rfl (brN (fun h1=>?_) (fun h1=>must rfl ?_))
 .rw [zmf (zzU (z3P h1))];rfl
 rw[show zL a2 0 (wsub .i64 (ln a0.Mons) 1)=hasB a2 (ln a0.Mons) from zoD hs.2.1.1 a2]
 refine brN (fun h2=>?_) (fun h2=>must (zu h2) (must rfl ?_))
 .rw [zmf (zzU (z3Q h2))];rfl
 have hl:(ix a0.Mons a2 mZ).Guests.length<=1048576:=(hs.2.1.2 _ (zbq h2 _)).2.2.2.1.1;rw[show zL a3 0 (wsub .i64 (ln (ix a0.Mons a2 zf).Guests) 1)=hasB a3 (ln (ix a0.Mons a2 mZ).Guests) from zoD hl a3]
 refine brN (fun h3=>?_) (fun h3=>?_)
 .rw [zmf (zzU (z3R h3))];rfl
 have hg:=z3S h1 h2 h3;have hno:∀{n:Int},ziF n=false->zbP a0 a2 a3 a4 n=false:=fun {n} h=>by
  unfold zbP;rw[hg,h];rfl
 rw[zBx,zBx];cases h4:ieq a5 1
 .cases h5:ieq a5 2
  .have:ziF a5=false:=by unfold ziF;rw[h4,h5];rfl
   rw[zmf (hno this)];rfl
  .exact zXC hs hg (by unfold ziF;rw[h4,h5];rfl)
 .exact zXC hs hg (by unfold ziF;rw[h4];rfl)
theorem zHS:zdp Tryz.prog 36 [true,true,true,true,false,false,false,false,false,false] (some (1,1,[[0],[1],[2],[4],[7]])) zqj:=by
 refine zJC (kt:=.mon) (zcW zhk zl zb6 zLx) (zdN (by kernel_rfl)) ?_
 intro al avs rs hal heq hl hr h;have hb:=zhE hr;have hal':al=[(4,2)]\/al=[(4,3)]:=by
  rw[show zgS 36=[[(4,2)],[(4,3)]] from by kernel_rfl]at hal
  simpa using hal
 unfold zqj at h;split at h
 .rename_i a0_0 a0_1 a0_2 a0_3 a1 a2 a3 a4 a5 a6;obtain ⟨hc,rfl⟩:=zdJ h;obtain ⟨N,hN⟩:=zOi (⟨a0_0,a0_1,a0_2,a0_3⟩:Host) a1 a2 a3 a4 a5 a6 hb hc;refine ⟨⟨_,rfl⟩,rfl,zqw,N,12,?_⟩;rcases hal' with rfl|rfl
  .have e:=heq 4 2 (by simp)
   simp only[zo,kB,AV.cvs] at e;cases e;exact (zLe N (⟨a0_0,a0_1,a0_2,a0_3⟩:Host) a2 a3 a4 a5 a6).trans hN
  .have e:=heq 4 3 (by simp)
   simp only[zo,kB,AV.cvs] at e;cases e;exact (zLf N (⟨a0_0,a0_1,a0_2,a0_3⟩:Host) a2 a3 a4 a5 a6).trans hN
 .cases h
def z1e:ze3:=[(36,([true,true,true,true,false,false,false,false,false,false],(some (1,1,[[0],[1],[2],[4],[7]])),zqj))]++zWE
theorem zhZ:zdY z1e:=zl5 zLx (by
 intro x hx;simp only[qG,qY,or_false]at hx;rcases hx with rfl
 .exact zHS)
def gOf (h:Host)(m g:Int):Guest:=ix (ix h.Mons m mZ).Guests g gZ
def zjc (h:Host)(m g:Int)(x:Guest):Host:={ h with Mons:=up h.Mons m { ix h.Mons m mZ with Guests:=up (ix h.Mons m mZ).Guests g x } }
def zly (h:Host)(m g:Int)(x:Guest)(w:Bool):Host×Int×Bool:=lookOf h h.Buffer m g (zbb (address x)) (zbZ w) false
def zgD (L:Host×Int×Bool)(m g:Int)(x:Guest)(w:Bool):Host :=
 bif L.2.2 then (cond w (zjc { L.1 with Memory:=zbw L.1.Memory L.2.1 (zcV (address x)) x.A } m g (zbY x)) (zjc L.1 m g (loaded x (cellAt L.1.Memory L.2.1 (zcV (address x))))))
 else zjc L.1 m g (stopped x (zpz (zbb (address x)) w))
def owned (h:Host)(m:Int):Host:=bif ilt (ix h.Mons m mZ).Own 1000000000 then { h with Mons:=up h.Mons m { ix h.Mons m mZ with Own:=zG .i64 (ix h.Mons m mZ).Own 1 } } else h
def zjG (h:Host)(m n:Int):Host:=bif ilt (ln (ix h.Mons m mZ).Outs) 40 then { h with Mons:=up h.Mons m { ix h.Mons m mZ with Outs:=ap (ix h.Mons m mZ).Outs [n] } } else h
def zew (h:Host)(m:Int)(x:Guest)(w:Int):Host:=bif (cond (ine w 6) (ieq (zuj (ix h.Mons m mZ).Traps x.Ctl.Traps (zsx w)) 2) false) then owned h m else h
def zfq (h:Host)(m:Int)(x:Guest)(w:Int):Host:=bif (cond (ziz x.Ctl.Traps w) (ieq w 5) false) then zjG h m (zcb x.Prog x.Pc).X else h
def zpr (h:Host)(m g:Int)(x:Guest)(w:Int):Host:=zjc (zfq (zew h m x w) m x w) m g (ziy x x.Ctl.Traps w)
def zI6 (h:Host)(m g:Int)(x:Guest)(w:Int):Host×Bool :=
 bif ieq w 0 then (h,false) else (bif ieq w 1 then (zjc h m g (interrupted x),true) else (bif ieq w 2 then (zjc h m g (plainly x),true) else
  (cond (cond (ieq w 3) true (ieq w 4)) (zgD (zly h m g x (ieq w 4)) m g x (ieq w 4),true) (zpr h m g x w,true))))
def zbn (h:Host)(m g:Int):Host×Bool:=bif zbH h m g then zI6 h m g (gOf h m g) (zM (gOf h m g)) else (h,false)
def zfa (x:Host×Bool):List AV:=[.agg (zbc x.1),.one (.b x.2)]
theorem znE {h:Host}{m g:Int}(hs:SmH h)(hm:hasB m (ln h.Mons)=true)(hg:hasB g (ln (ix h.Mons m mZ).Guests)=true):SmG (gOf h m g):=(hs.2.1.2 _ (zbq hm _)).2.2.2.1.2 _ (zbq hg _)
theorem zWr {h:Host}{m g:Int}{x:Guest}(hs:Shape h)(hm:hasB m (ln h.Mons)=true)(hx:SmG x):Shape (zjc h m g x):=by
 obtain ⟨g1,g2⟩:=zcf hs hm;exact zhz hs ⟨g1.1,g1.2.1,g1.2.2.1,zBM g1.2.2.2.1 hx,g1.2.2.2.2⟩ ⟨g2.1,g2.2.1,g2.2.2.1,by simpa using g2.2.2.2⟩
theorem zIm {h:Host}{m:Int}(hm:hasB m (ln h.Mons)=true)(x:Mon):ix (up h.Mons m x) m mZ=x:=by
 obtain ⟨k,rfl,hk⟩:=zdj (n:=h.Mons.length) hm;exact zdv hk _ _
@[simp] abbrev zd9 (h:Host)(m g:Int):Bool:=pc (zbI h)
@[simp] abbrev zAT (h:Host)(m g:Int):Host:=(zbn h m g).1
@[simp] abbrev zAU (h:Host)(m g:Int):Bool:=(zbn h m g).2
theorem z2s {α:Type}{l:List α}{x:α}(h:ilt (ln l) 40=true):few (ln (ap l [x]))=true:=by
 have:=qE h;simp only[ln] at this;exact zgs (by simp[ap];omega)
theorem zUC {h:Host}{m:Int}{x:Guest}{w:Int}(hh:(cond (ziz x.Ctl.Traps w) (ieq w 5) false)=false):zfq h m x w=h:=by
 unfold zfq;rw[hh];rfl
theorem zM6 {h:Host}{m:Int}{x:Guest}{w:Int}(hh:ilt (ln (ix h.Mons m mZ).Outs) 40=false):zfq h m x w=h:=by
 unfold zfq zjG;rw[hh];cases (cond (ziz x.Ctl.Traps w) (ieq w 5) false)<;>rfl
theorem zRQ {h:Host}{m:Int}{x:Guest}{w:Int}(h1:ziz x.Ctl.Traps w=true)(h2:ieq w 5=true)(hh:ilt (ln (ix h.Mons m mZ).Outs) 40=true):zfq h m x w={ h with Mons:=up h.Mons m { ix h.Mons m mZ with Outs:=ap (ix h.Mons m mZ).Outs [(zcb x.Prog x.Pc).X] } }:=by
 unfold zfq zjG;rw[h1,h2,hh];rfl
theorem zY7 {h:Host}{m:Int}{x:Guest}{w:Int}(h1:ziz x.Ctl.Traps w=false):zfq h m x w=h:=zUC (by rw[h1];rfl)
theorem zJc {h:Host}{m:Int}{x:Guest}{w:Int}(h1:ieq w 5=false):zfq h m x w=h:=zUC (by rw[h1];cases ziz x.Ctl.Traps w<;>rfl)
theorem zXS (a:Int):(cond (ieq a a) true false)=true:=by rw[zFf];rfl
theorem zkS {h:Host}{m g:Int}(hh:zbH h m g=false):zbn h m g=(h,false):=by
 unfold zbn;rw[hh];rfl
theorem zix {h:Host}{m g:Int}(hh:zbH h m g=true):zbn h m g=zI6 h m g (gOf h m g) (zM (gOf h m g)):=by
 unfold zbn;rw[hh];rfl
theorem zkV {a b:Bool}(h:(cond a b false)=true):a=true/\b=true:=by
 cases a
 .cases h
 .exact ⟨rfl,h⟩
theorem zhB {a b:Bool}(ha:a=true)(hb:b=true):(cond a b false)=true:=by
 rw[ha];exact hb
theorem zUF {h:Host}{m:Int}{x:Guest}{w:Int}(h6:ine w 6=true)(h0:ieq (zuj (ix h.Mons m mZ).Traps x.Ctl.Traps (zsx w)) 2=true)(h9:ilt (ix h.Mons m mZ).Own 1000000000=true):zew h m x w={ h with Mons:=up h.Mons m { ix h.Mons m mZ with Own:=zG .i64 (ix h.Mons m mZ).Own 1 } }:=by
 unfold zew owned;rw[h6,h0,h9];rfl
theorem zUD {h:Host}{m:Int}{x:Guest}{w:Int}(h0:ieq (zuj (ix h.Mons m mZ).Traps x.Ctl.Traps (zsx w)) 2=false):zew h m x w=h:=by
 unfold zew;rw[h0];cases ine w 6<;>rfl
theorem zUE {h:Host}{m:Int}{x:Guest}{w:Int}(h9:ilt (ix h.Mons m mZ).Own 1000000000=false):zew h m x w=h:=by
 unfold zew owned;rw[h9];cases (cond (ine w 6) (ieq (zuj (ix h.Mons m mZ).Traps x.Ctl.Traps (zsx w)) 2) false)<;>rfl
theorem z4K {h:Host}{m:Int}{x:Guest}:zew h m x 6=h:=rfl
theorem zl6 {h h':Host}{m g:Int}{x:Guest}{w:Int}(e:zew h m x w=h'):zpr h m g x w=zjc (zfq h' m x w) m g (ziy x x.Ctl.Traps w):=by
 unfold zpr;rw[e]
theorem z1h (x:Guest):ieq (zM x) 0=true\/ieq (zM x) 1=true\/ieq (zM x) 2=true\/ieq (zM x) 3=true\/ieq (zM x) 4=true\/ieq (zM x) 5=true\/ieq (zM x) 6=true\/ieq (zM x) 7=true:=by
 cases h0:ieq (zM x) 0
 .cases h1:ieq (zM x) 1
  .cases h2:ieq (zM x) 2
   .cases h3:ieq (zM x) 3
    .cases h4:ieq (zM x) 4
     .cases h5:ieq (zM x) 5
      .cases h6:ieq (zM x) 6
       .exact .inr (.inr (.inr (.inr (.inr (.inr (.inr (z6r x h0 h1 h2 h3 h4 h5 h6)))))))
       .exact .inr (.inr (.inr (.inr (.inr (.inr (.inl rfl))))))
      .exact .inr (.inr (.inr (.inr (.inr (.inl rfl)))))
     .exact .inr (.inr (.inr (.inr (.inl rfl))))
    .exact .inr (.inr (.inr (.inl rfl)))
   .exact .inr (.inr (.inl rfl))
  .exact .inr (.inl rfl)
 .exact .inl rfl
abbrev zyf (x:Guest):Bool:=bif zek x then ieq (zM x) 0 else false
def zm3:List AV->Option (Bool×List AV)
 | [.agg [.s .ins c,.i .i64 d,.i .i64 e,.s .slot f,.s .slot g,.i .i64 h,.i .i64 j,.b k,.i .i64 l,.i .i64 m,.i .i64 n,.b o,.i .i64 p,.b q,.s .int r]]=>some ((zyf (⟨c,d,e,f,g,⟨h,j,k⟩,l,⟨m,n,o,p⟩,q,r⟩:Guest)),[.one (.i .i64 0)])
 | _=>none
theorem zB5:vH 252 zm3:=by
 refine ⟨zb4.1,fun w avs xs rs hrep h=>?_⟩;unfold zm3 at h;split at h
 .obtain ⟨hc,rfl⟩:=zdJ h;obtain ⟨h1,h2⟩:=zkV hc;exact zb4.2 w _ xs _ hrep (congr (congrArg (fun c v=>some (c,[AV.one (CV.i .i64 v)])) h1) (qE h2))
 .cases h
def z3o:zU:=[(252,zm3)]++zlw
theorem zU7:zD z3o:=zh zB5 zhk
@[simp] abbrev ztz (h:Host)(m g:Int):Bool:=bif zd9 h m g then ieq (zM (gOf h m g)) 0 else false
@[simp] abbrev ztx (h:Host)(m g:Int):Host:=(zbn h m g).1
@[simp] abbrev zty (h:Host)(m g:Int):Bool:=(zbn h m g).2
def zCs:Run:=rF3 dH dI dI fun b c d=>(ztz b c d,[aH (ztx b c d),aB (zty b c d)])
def zsD (N:Nat)(a0:Host)(a1 a2:Int):OA:=
 let y1:=(zk a0);let y0:=(ix y1.Mons a1 zf).Guests; (oN (zbD a0) (oN (zga y1 a1 a2) (cond (nB (zhW y1 a1 a2)) (some [(aH y1),(aB false)]) (oN (inb a1 (ln y1.Mons)) (oN (inb a2 (ln y0)) (oN (zyf (ix y0 a2 zA)) (some [(aH y1),(aB false)])))))))
abbrev zyg (x:Guest):Bool:=bif zek x then ieq (zM x) 1 else false
def zm4:List AV->Option (Bool×List AV)
 | [.agg [.s .ins c,.i .i64 d,.i .i64 e,.s .slot f,.s .slot g,.i .i64 h,.i .i64 j,.b k,.i .i64 l,.i .i64 m,.i .i64 n,.b o,.i .i64 p,.b q,.s .int r]]=>some ((zyg (⟨c,d,e,f,g,⟨h,j,k⟩,l,⟨m,n,o,p⟩,q,r⟩:Guest)),[.one (.i .i64 1)])
 | _=>none
theorem zB6:vH 252 zm4:=by
 refine ⟨zb4.1,fun w avs xs rs hrep h=>?_⟩;unfold zm4 at h;split at h
 .obtain ⟨hc,rfl⟩:=zdJ h;obtain ⟨h1,h2⟩:=zkV hc;exact zb4.2 w _ xs _ hrep (congr (congrArg (fun c v=>some (c,[AV.one (CV.i .i64 v)])) h1) (qE h2))
 .cases h
def z3p:zU:=[(252,zm4)]++zlw
theorem zU8:zD z3p:=zh zB6 zhk
@[simp] abbrev ztC (h:Host)(m g:Int):Bool:=bif zd9 h m g then ieq (zM (gOf h m g)) 1 else false
@[simp] abbrev ztA (h:Host)(m g:Int):Host:=(zbn h m g).1
@[simp] abbrev ztB (h:Host)(m g:Int):Bool:=(zbn h m g).2
def zCt:Run:=rF3 dH dI dI fun b c d=>(ztC b c d,[aH (ztA b c d),aB (ztB b c d)])
def zsE (N:Nat)(a0:Host)(a1 a2:Int):OA:=
 let y2:=(zk a0);let y0:=(ix y2.Mons a1 zf);let y1:=(ix y0.Guests a2 zA); (oN (zbD a0) (oN (zga y2 a1 a2) (cond (nB (zhW y2 a1 a2)) (some [(aH y2),(aB false)]) (oN (inb a1 (ln y2.Mons)) (oN (inb a2 (ln y0.Guests)) (oN (zyg y1) (oN (inb a1 (ln y2.Mons)) (oN (zno y1) (oN (inb a2 (ln y0.Guests)) (share (up y2.Mons a1 ({ y0 with Guests:=(up y0.Guests a2 (ziJ y1)) }:Mon)) (fun x4=>(some [(aH ({ y2 with Mons:=x4 }:Host)),(aB true)]))))))))))))
abbrev zyh (x:Guest):Bool:=bif zek x then ieq (zM x) 2 else false
def zm5:List AV->Option (Bool×List AV)
 | [.agg [.s .ins c,.i .i64 d,.i .i64 e,.s .slot f,.s .slot g,.i .i64 h,.i .i64 j,.b k,.i .i64 l,.i .i64 m,.i .i64 n,.b o,.i .i64 p,.b q,.s .int r]]=>some ((zyh (⟨c,d,e,f,g,⟨h,j,k⟩,l,⟨m,n,o,p⟩,q,r⟩:Guest)),[.one (.i .i64 2)])
 | _=>none
theorem zB7:vH 252 zm5:=by
 refine ⟨zb4.1,fun w avs xs rs hrep h=>?_⟩;unfold zm5 at h;split at h
 .obtain ⟨hc,rfl⟩:=zdJ h;obtain ⟨h1,h2⟩:=zkV hc;exact zb4.2 w _ xs _ hrep (congr (congrArg (fun c v=>some (c,[AV.one (CV.i .i64 v)])) h1) (qE h2))
 .cases h
def z3q:zU:=[(252,zm5)]++zlw
theorem zU9:zD z3q:=zh zB7 zhk
@[simp] abbrev ztF (h:Host)(m g:Int):Bool:=bif zd9 h m g then ieq (zM (gOf h m g)) 2 else false
@[simp] abbrev ztD (h:Host)(m g:Int):Host:=(zbn h m g).1
@[simp] abbrev ztE (h:Host)(m g:Int):Bool:=(zbn h m g).2
def zCu:Run:=rF3 dH dI dI fun b c d=>(ztF b c d,[aH (ztD b c d),aB (ztE b c d)])
def zsF (N:Nat)(a0:Host)(a1 a2:Int):OA:=
 let y2:=(zk a0);let y0:=(ix y2.Mons a1 zf);let y1:=(ix y0.Guests a2 zA); (oN (zbD a0) (oN (zga y2 a1 a2) (cond (nB (zhW y2 a1 a2)) (some [(aH y2),(aB false)]) (oN (inb a1 (ln y2.Mons)) (oN (inb a2 (ln y0.Guests)) (oN (zyh y1) (oN (inb a1 (ln y2.Mons)) (oN (zuC y1) (oN (inb a2 (ln y0.Guests)) (share (up y2.Mons a1 ({ y0 with Guests:=(up y0.Guests a2 (zpT y1)) }:Mon)) (fun x4=>(some [(aH ({ y2 with Mons:=x4 }:Host)),(aB true)]))))))))))))
abbrev zyi (x:Guest):Bool:=bif zek x then ieq (zM x) 3 else false
def zm6:List AV->Option (Bool×List AV)
 | [.agg [.s .ins c,.i .i64 d,.i .i64 e,.s .slot f,.s .slot g,.i .i64 h,.i .i64 j,.b k,.i .i64 l,.i .i64 m,.i .i64 n,.b o,.i .i64 p,.b q,.s .int r]]=>some ((zyi (⟨c,d,e,f,g,⟨h,j,k⟩,l,⟨m,n,o,p⟩,q,r⟩:Guest)),[.one (.i .i64 3)])
 | _=>none
theorem zB8:vH 252 zm6:=by
 refine ⟨zb4.1,fun w avs xs rs hrep h=>?_⟩;unfold zm6 at h;split at h
 .obtain ⟨hc,rfl⟩:=zdJ h;obtain ⟨h1,h2⟩:=zkV hc;exact zb4.2 w _ xs _ hrep (congr (congrArg (fun c v=>some (c,[AV.one (CV.i .i64 v)])) h1) (qE h2))
 .cases h
def z3r:zU:=[(252,zm6)]++zlw
theorem zVa:zD z3r:=zh zB8 zhk
@[simp] abbrev ztI (h:Host)(m g:Int):Bool:=bif zd9 h m g then ieq (zM (gOf h m g)) 3 else false
@[simp] abbrev ztG (h:Host)(m g:Int):Host:=(zbn h m g).1
@[simp] abbrev ztH (h:Host)(m g:Int):Bool:=(zbn h m g).2
def zCv:Run:=rF3 dH dI dI fun b c d=>(ztI b c d,[aH (ztG b c d),aB (ztH b c d)])
def zsG (N:Nat)(a0:Host)(a1 a2:Int):OA:=
 let y6:=(zk a0);let y9:=(ix y6.Mons a1 zf).Guests;let y1:=(ix y9 a2 zA);let y7:=(zh3 y1);let y8:=(zcB y7);let y4:=(zja y6 y6.Buffer a1 a2 y8 (zeK false) false);let y0:=(zeB y6 y6.Buffer a1 a2 y8 (zeK false) false);let y3:=(ix y0.Mons a1 zf);let y5:=(ix y3.Guests a2 zA);let y2:=({ y1 with Prog:=y5.Prog,Written:=y5.Written,Live:=y5.Live,Seen:=y5.Seen }:Guest); (oN (zbD a0) (oN (zga y6 a1 a2) (cond (nB (zhW y6 a1 a2)) (some [(aH y6),(aB false)]) (oN (inb a1 (ln y6.Mons)) (oN (inb a2 (ln y9)) (oN (zyi y1) (oN (zo0 y1) (oN (zfA y7) (oN (zqW false) (oN (zjb y6 y6.Buffer a1 a2 y8 (zeK false) false) (cond (nB (zf9 y6 y6.Buffer a1 a2 y8 (zeK false) false)) (oN (inb a1 (ln y0.Mons)) (oN (zfA y7) (oN (zlA y8 false) (oN (zdL y2 (zf5 y8 false)) (oN (inb a2 (ln y3.Guests)) (share (up y0.Mons a1 ({ y3 with Guests:=(up y3.Guests a2 (zdi y2 (zf5 y8 false))) }:Mon)) (fun x4=>(some [(aH ({ y0 with Mons:=x4 }:Host)),(aB true)])))))))) (oN (inb a1 (ln y0.Mons)) (oN (zhQ y7) (oN (zqU y0.Memory y4 (zdT y7)) (oN (zw7 y2 (zlW y0.Memory y4 (zdT y7))) (oN (inb a2 (ln y3.Guests)) (share (up y0.Mons a1 ({ y3 with Guests:=(up y3.Guests a2 (zsk y2 (zlW y0.Memory y4 (zdT y7)))) }:Mon)) (fun x4=>(some [(aH ({ y0 with Mons:=x4 }:Host)),(aB true)])))))))))))))))))))
abbrev zyj (x:Guest):Bool:=bif zek x then ieq (zM x) 4 else false
def zm7:List AV->Option (Bool×List AV)
 | [.agg [.s .ins c,.i .i64 d,.i .i64 e,.s .slot f,.s .slot g,.i .i64 h,.i .i64 j,.b k,.i .i64 l,.i .i64 m,.i .i64 n,.b o,.i .i64 p,.b q,.s .int r]]=>some ((zyj (⟨c,d,e,f,g,⟨h,j,k⟩,l,⟨m,n,o,p⟩,q,r⟩:Guest)),[.one (.i .i64 4)])
 | _=>none
theorem zB9:vH 252 zm7:=by
 refine ⟨zb4.1,fun w avs xs rs hrep h=>?_⟩;unfold zm7 at h;split at h
 .obtain ⟨hc,rfl⟩:=zdJ h;obtain ⟨h1,h2⟩:=zkV hc;exact zb4.2 w _ xs _ hrep (congr (congrArg (fun c v=>some (c,[AV.one (CV.i .i64 v)])) h1) (qE h2))
 .cases h
def z3s:zU:=[(252,zm7)]++zlw
theorem zVb:zD z3s:=zh zB9 zhk
@[simp] abbrev ztL (h:Host)(m g:Int):Bool:=bif zd9 h m g then ieq (zM (gOf h m g)) 4 else false
@[simp] abbrev ztJ (h:Host)(m g:Int):Host:=(zbn h m g).1
@[simp] abbrev ztK (h:Host)(m g:Int):Bool:=(zbn h m g).2
def zCw:Run:=rF3 dH dI dI fun b c d=>(ztL b c d,[aH (ztJ b c d),aB (ztK b c d)])
def zsH (N:Nat)(a0:Host)(a1 a2:Int):OA:=
 let y4:=(zk a0);let y8:=(ix y4.Mons a1 zf).Guests;let y1:=(ix y8 a2 zA);let y9:=(zh3 y1);let y5:=(zcB y9);let y7:=(zja y4 y4.Buffer a1 a2 y5 (zeK true) false);let y0:=(zeB y4 y4.Buffer a1 a2 y5 (zeK true) false);let y3:=(ix y0.Mons a1 zf);let y6:=(ix y3.Guests a2 zA);let y2:=({ y1 with Prog:=y6.Prog,Written:=y6.Written,Live:=y6.Live,Seen:=y6.Seen }:Guest); (oN (zbD a0) (oN (zga y4 a1 a2) (cond (nB (zhW y4 a1 a2)) (some [(aH y4),(aB false)]) (oN (inb a1 (ln y4.Mons)) (oN (inb a2 (ln y8)) (oN (zyj y1) (oN (zo0 y1) (oN (zfA y9) (oN (zqW true) (oN (zjb y4 y4.Buffer a1 a2 y5 (zeK true) false) (cond (nB (zf9 y4 y4.Buffer a1 a2 y5 (zeK true) false)) (oN (inb a1 (ln y0.Mons)) (oN (zfA y9) (oN (zlA y5 true) (oN (zdL y2 (zf5 y5 true)) (oN (inb a2 (ln y3.Guests)) (share (up y0.Mons a1 ({ y3 with Guests:=(up y3.Guests a2 (zdi y2 (zf5 y5 true))) }:Mon)) (fun x4=>(some [(aH ({ y0 with Mons:=x4 }:Host)),(aB true)])))))))) (oN (zhQ y9) (oN (zhV y0.Memory y7 (zdT y9) y1.A) (oN (inb a1 (ln y0.Mons)) (oN (zxd y2) (oN (inb a2 (ln y3.Guests)) (share (up y0.Mons a1 ({ y3 with Guests:=(up y3.Guests a2 (zsn y2)) }:Mon)) (fun x4=>(some [(aH ({ y0 with Memory:=(zit y0.Memory y7 (zdT y9) y1.A),Mons:=x4 }:Host)),(aB true)])))))))))))))))))))
abbrev zyk (x:Guest):Bool:=bif zek x then ieq (zM x) 5 else false
def zm8:List AV->Option (Bool×List AV)
 | [.agg [.s .ins c,.i .i64 d,.i .i64 e,.s .slot f,.s .slot g,.i .i64 h,.i .i64 j,.b k,.i .i64 l,.i .i64 m,.i .i64 n,.b o,.i .i64 p,.b q,.s .int r]]=>some ((zyk (⟨c,d,e,f,g,⟨h,j,k⟩,l,⟨m,n,o,p⟩,q,r⟩:Guest)),[.one (.i .i64 5)])
 | _=>none
theorem zCa:vH 252 zm8:=by
 refine ⟨zb4.1,fun w avs xs rs hrep h=>?_⟩;unfold zm8 at h;split at h
 .obtain ⟨hc,rfl⟩:=zdJ h;obtain ⟨h1,h2⟩:=zkV hc;exact zb4.2 w _ xs _ hrep (congr (congrArg (fun c v=>some (c,[AV.one (CV.i .i64 v)])) h1) (qE h2))
 .cases h
def z3t:zU:=[(252,zm8)]++zlw
theorem zVc:zD z3t:=zh zCa zhk
@[simp] abbrev ztO (h:Host)(m g:Int):Bool:=bif zd9 h m g then ieq (zM (gOf h m g)) 5 else false
@[simp] abbrev ztM (h:Host)(m g:Int):Host:=(zbn h m g).1
@[simp] abbrev ztN (h:Host)(m g:Int):Bool:=(zbn h m g).2
def zCx:Run:=rF3 dH dI dI fun b c d=>(ztO b c d,[aH (ztM b c d),aB (ztN b c d)])
def zsI (N:Nat)(a0:Host)(a1 a2:Int):OA:=
 let y8:=(zk a0);let y4:=(inb a1 (ln y8.Mons));let y2:=(ix y8.Mons a1 zf);let y10:=(inb a2 (ln y2.Guests));let y0:=(ix y2.Guests a2 zA);let y9:=(ap y2.Outs [(zfe y0.Prog y0.Pc).X]);let y16:=(up y8.Mons a1 ({ y2 with Outs:=y9 }:Mon));let y7:=y0.Ctl.Traps;let y5:=(up y8.Mons a1 ({ y2 with Guests:=(up y2.Guests a2 (zb2 y0 y7 5)) }:Mon)); (oN (zbD a0) (oN (zga y8 a1 a2) (cond (nB (zhW y8 a1 a2)) (some [(aH y8),(aB false)]) (oN y4 (oN y10 (oN (zyk y0) (oN y4 (oN (zpg y2.Traps y7 1) (cond (ieq (zmj y2.Traps y7 1) 2) (oN y4 (cond (ilt y2.Own 1000000000) (oN y4 (oN y4 (share (up y8.Mons a1 ({ y2 with Own:=(zG .i64 y2.Own 1) }:Mon)) (fun x4=>let y12:=(inb a1 (ln x4));let y3:=(ix x4 a1 zf);let y6:=(ix y3.Guests a2 zA);let y17:=(ap y3.Outs [(zfe y6.Prog y0.Pc).X]);let y1:=({ y0 with Prog:=y6.Prog,Written:=y6.Written,Live:=y6.Live,Seen:=y6.Seen }:Guest);let y11:=(up x4 a1 ({ y3 with Guests:=(up y3.Guests a2 (zb2 y1 y7 5)) }:Mon)); (oN (zdy y1 y7 5) (cond (zc3 y1 y7 5) (oN y12 (cond (ilt (ln y3.Outs) 40) (oN y12 (oN (ze0 y6.Prog y0.Pc) (oN (few (ln y17)) (oN y12 (oN (cond (ieq a1 a1) true false) (share (up x4 a1 ({ y3 with Outs:=y17 }:Mon)) (fun x5=>let y13:=(ix x5 a1 zf); (oN (inb a1 (ln x5)) (oN (inb a2 (ln y13.Guests)) (share (up x5 a1 ({ y13 with Guests:=(up y13.Guests a2 (zb2 y1 y7 5)) }:Mon)) (fun x6=>(some [(aH ({ y8 with Mons:=x6 }:Host)),(aB true)])))))))))))) (oN y12 (oN (inb a2 (ln y3.Guests)) (share y11 (fun x5=>(some [(aH ({ y8 with Mons:=x5 }:Host)),(aB true)]))))))) (oN y12 (oN (inb a2 (ln y3.Guests)) (share y11 (fun x5=>(some [(aH ({ y8 with Mons:=x5 }:Host)),(aB true)]))))))))))) (oN (zdy y0 y7 5) (cond (zc3 y0 y7 5) (oN y4 (cond (ilt (ln y2.Outs) 40) (oN y4 (oN (ze0 y0.Prog y0.Pc) (oN (few (ln y9)) (oN y4 (oN (cond (ieq a1 a1) true false) (share y16 (fun x4=>let y14:=(ix x4 a1 zf); (oN (inb a1 (ln x4)) (oN (inb a2 (ln y14.Guests)) (share (up x4 a1 ({ y14 with Guests:=(up y14.Guests a2 (zb2 y0 y7 5)) }:Mon)) (fun x5=>(some [(aH ({ y8 with Mons:=x5 }:Host)),(aB true)])))))))))))) (oN y4 (oN y10 (share y5 (fun x4=>(some [(aH ({ y8 with Mons:=x4 }:Host)),(aB true)]))))))) (oN y4 (oN y10 (share y5 (fun x4=>(some [(aH ({ y8 with Mons:=x4 }:Host)),(aB true)]))))))))) (oN (zdy y0 y7 5) (cond (zc3 y0 y7 5) (oN y4 (cond (ilt (ln y2.Outs) 40) (oN y4 (oN (ze0 y0.Prog y0.Pc) (oN (few (ln y9)) (oN y4 (oN (cond (ieq a1 a1) true false) (share y16 (fun x4=>let y15:=(ix x4 a1 zf); (oN (inb a1 (ln x4)) (oN (inb a2 (ln y15.Guests)) (share (up x4 a1 ({ y15 with Guests:=(up y15.Guests a2 (zb2 y0 y7 5)) }:Mon)) (fun x5=>(some [(aH ({ y8 with Mons:=x5 }:Host)),(aB true)])))))))))))) (oN y4 (oN y10 (share y5 (fun x4=>(some [(aH ({ y8 with Mons:=x4 }:Host)),(aB true)]))))))) (oN y4 (oN y10 (share y5 (fun x4=>(some [(aH ({ y8 with Mons:=x4 }:Host)),(aB true)]))))))))))))))))
abbrev zyl (x:Guest):Bool:=bif zek x then ieq (zM x) 6 else false
def zm9:List AV->Option (Bool×List AV)
 | [.agg [.s .ins c,.i .i64 d,.i .i64 e,.s .slot f,.s .slot g,.i .i64 h,.i .i64 j,.b k,.i .i64 l,.i .i64 m,.i .i64 n,.b o,.i .i64 p,.b q,.s .int r]]=>some ((zyl (⟨c,d,e,f,g,⟨h,j,k⟩,l,⟨m,n,o,p⟩,q,r⟩:Guest)),[.one (.i .i64 6)])
 | _=>none
theorem zCb:vH 252 zm9:=by
 refine ⟨zb4.1,fun w avs xs rs hrep h=>?_⟩;unfold zm9 at h;split at h
 .obtain ⟨hc,rfl⟩:=zdJ h;obtain ⟨h1,h2⟩:=zkV hc;exact zb4.2 w _ xs _ hrep (congr (congrArg (fun c v=>some (c,[AV.one (CV.i .i64 v)])) h1) (qE h2))
 .cases h
def z3u:zU:=[(252,zm9)]++zlw
theorem zVd:zD z3u:=zh zCb zhk
@[simp] abbrev ztR (h:Host)(m g:Int):Bool:=bif zd9 h m g then ieq (zM (gOf h m g)) 6 else false
@[simp] abbrev ztP (h:Host)(m g:Int):Host:=(zbn h m g).1
@[simp] abbrev ztQ (h:Host)(m g:Int):Bool:=(zbn h m g).2
def zCy:Run:=rF3 dH dI dI fun b c d=>(ztR b c d,[aH (ztP b c d),aB (ztQ b c d)])
def zsJ (N:Nat)(a0:Host)(a1 a2:Int):OA:=
 let y3:=(zk a0);let y4:=(inb a1 (ln y3.Mons));let y0:=(ix y3.Mons a1 zf);let y5:=(inb a2 (ln y0.Guests));let y1:=(ix y0.Guests a2 zA);let y2:=(up y3.Mons a1 ({ y0 with Guests:=(up y0.Guests a2 (zb2 y1 y1.Ctl.Traps 6)) }:Mon)); (oN (zbD a0) (oN (zga y3 a1 a2) (cond (nB (zhW y3 a1 a2)) (some [(aH y3),(aB false)]) (oN y4 (oN y5 (oN (zyl y1) (oN (zdy y1 y1.Ctl.Traps 6) (cond (zc3 y1 y1.Ctl.Traps 6) (oN y4 (oN y5 (share y2 (fun x4=>(some [(aH ({ y3 with Mons:=x4 }:Host)),(aB true)]))))) (oN y4 (oN y5 (share y2 (fun x4=>(some [(aH ({ y3 with Mons:=x4 }:Host)),(aB true)])))))))))))))
abbrev zym (x:Guest):Bool:=bif zek x then ieq (zM x) 7 else false
def zna:List AV->Option (Bool×List AV)
 | [.agg [.s .ins c,.i .i64 d,.i .i64 e,.s .slot f,.s .slot g,.i .i64 h,.i .i64 j,.b k,.i .i64 l,.i .i64 m,.i .i64 n,.b o,.i .i64 p,.b q,.s .int r]]=>some ((zym (⟨c,d,e,f,g,⟨h,j,k⟩,l,⟨m,n,o,p⟩,q,r⟩:Guest)),[.one (.i .i64 7)])
 | _=>none
theorem zCc:vH 252 zna:=by
 refine ⟨zb4.1,fun w avs xs rs hrep h=>?_⟩;unfold zna at h;split at h
 .obtain ⟨hc,rfl⟩:=zdJ h;obtain ⟨h1,h2⟩:=zkV hc;exact zb4.2 w _ xs _ hrep (congr (congrArg (fun c v=>some (c,[AV.one (CV.i .i64 v)])) h1) (qE h2))
 .cases h
def z3v:zU:=[(252,zna)]++zlw
theorem zVe:zD z3v:=zh zCc zhk
@[simp] abbrev ztU (h:Host)(m g:Int):Bool:=bif zd9 h m g then ieq (zM (gOf h m g)) 7 else false
@[simp] abbrev ztS (h:Host)(m g:Int):Host:=(zbn h m g).1
@[simp] abbrev ztT (h:Host)(m g:Int):Bool:=(zbn h m g).2
def zCz:Run:=rF3 dH dI dI fun b c d=>(ztU b c d,[aH (ztS b c d),aB (ztT b c d)])
def zsK (N:Nat)(a0:Host)(a1 a2:Int):OA:=
 let y9:=(zk a0);let y4:=(inb a1 (ln y9.Mons));let y2:=(ix y9.Mons a1 zf);let y8:=(inb a2 (ln y2.Guests));let y0:=(ix y2.Guests a2 zA);let y6:=y0.Ctl.Traps;let y3:=(up y9.Mons a1 ({ y2 with Guests:=(up y2.Guests a2 (zb2 y0 y6 7)) }:Mon)); (oN (zbD a0) (oN (zga y9 a1 a2) (cond (nB (zhW y9 a1 a2)) (some [(aH y9),(aB false)]) (oN y4 (oN y8 (oN (zym y0) (oN y4 (oN (zpg y2.Traps y6 2) (cond (ieq (zmj y2.Traps y6 2) 2) (oN y4 (cond (ilt y2.Own 1000000000) (oN y4 (oN y4 (share (up y9.Mons a1 ({ y2 with Own:=(zG .i64 y2.Own 1) }:Mon)) (fun x4=>let y5:=(ix x4 a1 zf);let y7:=(ix y5.Guests a2 zA);let y1:=({ y0 with Prog:=y7.Prog,Written:=y7.Written,Live:=y7.Live,Seen:=y7.Seen }:Guest);let y10:=(up x4 a1 ({ y5 with Guests:=(up y5.Guests a2 (zb2 y1 y6 7)) }:Mon)); (oN (zdy y1 y6 7) (cond (zc3 y1 y6 7) (oN (inb a1 (ln x4)) (oN (inb a2 (ln y5.Guests)) (share y10 (fun x5=>(some [(aH ({ y9 with Mons:=x5 }:Host)),(aB true)]))))) (oN (inb a1 (ln x4)) (oN (inb a2 (ln y5.Guests)) (share y10 (fun x5=>(some [(aH ({ y9 with Mons:=x5 }:Host)),(aB true)]))))))))))) (oN (zdy y0 y6 7) (cond (zc3 y0 y6 7) (oN y4 (oN y8 (share y3 (fun x4=>(some [(aH ({ y9 with Mons:=x4 }:Host)),(aB true)]))))) (oN y4 (oN y8 (share y3 (fun x4=>(some [(aH ({ y9 with Mons:=x4 }:Host)),(aB true)]))))))))) (oN (zdy y0 y6 7) (cond (zc3 y0 y6 7) (oN y4 (oN y8 (share y3 (fun x4=>(some [(aH ({ y9 with Mons:=x4 }:Host)),(aB true)]))))) (oN y4 (oN y8 (share y3 (fun x4=>(some [(aH ({ y9 with Mons:=x4 }:Host)),(aB true)]))))))))))))))))
theorem zCi (a0:Host)(a1 a2:Int)(hc:ztz a0 a1 a2=true):∃N,zsD N a0 a1 a2=some [aH (ztx a0 a1 a2),aB (zty a0 a1 a2)]:=by
 obtain ⟨hc,hw⟩:=zkV hc;have hs:=(zN a0).1 (zF.1 hc);refine ⟨0,?_⟩
 show _=some (zfa (zbn a0 a1 a2))
 unfold zsD oN nB
 conv=>zeta
 refine must (zby ((zN _).2 hs)) (must (zby ((zN _).2 hs)) (brN (fun hh=>?_) (fun hh=>?_)))
 .rw [zkS hh];rfl
 obtain ⟨g1,g2,g3⟩:=zda hh;have hx:=znE hs g2 g3;have hk:zM (gOf a0 a1 a2)=0:=qE hw;rw[zix hh,hk];refine must (zu g2) (must (zu g3) (must (zhB rfl hw) ?_));rfl
theorem znJ:vH 190 zCs:=kF3 zU7 zl zb6 zhZ (zx []) zCi
theorem zCj (a0:Host)(a1 a2:Int)(hc:ztC a0 a1 a2=true):∃N,zsE N a0 a1 a2=some [aH (ztA a0 a1 a2),aB (ztB a0 a1 a2)]:=by
 obtain ⟨hc,hw⟩:=zkV hc;have hs:=(zN a0).1 (zF.1 hc);refine ⟨0,?_⟩
 show _=some (zfa (zbn a0 a1 a2))
 unfold zsE oN nB
 conv=>zeta
 refine must (zby ((zN _).2 hs)) (must (zby ((zN _).2 hs)) (brN (fun hh=>?_) (fun hh=>?_)))
 .rw [zkS hh];rfl
 obtain ⟨g1,g2,g3⟩:=zda hh;have hx:=znE hs g2 g3;have hk:zM (gOf a0 a1 a2)=1:=qE hw;rw[zix hh,hk];refine must (zu g2) (must (zu g3) (must (zhB rfl hw) ?_))
 show _=some (zfa (zjc a0 a1 a2 (interrupted (gOf a0 a1 a2)),true))
 exact must (zu g2) (must (zby hx) (must (zu g3) rfl))
theorem zyt:vH 190 zCt:=kF3 zU8 zl zb6 zhZ (zx []) zCj
theorem zCk (a0:Host)(a1 a2:Int)(hc:ztF a0 a1 a2=true):∃N,zsF N a0 a1 a2=some [aH (ztD a0 a1 a2),aB (ztE a0 a1 a2)]:=by
 obtain ⟨hc,hw⟩:=zkV hc;have hs:=(zN a0).1 (zF.1 hc);refine ⟨0,?_⟩
 show _=some (zfa (zbn a0 a1 a2))
 unfold zsF oN nB
 conv=>zeta
 refine must (zby ((zN _).2 hs)) (must (zby ((zN _).2 hs)) (brN (fun hh=>?_) (fun hh=>?_)))
 .rw [zkS hh];rfl
 obtain ⟨g1,g2,g3⟩:=zda hh;have hx:=znE hs g2 g3;have hk:zM (gOf a0 a1 a2)=2:=qE hw;rw[zix hh,hk];refine must (zu g2) (must (zu g3) (must (zhB rfl hw) ?_))
 show _=some (zfa (zjc a0 a1 a2 (plainly (gOf a0 a1 a2)),true))
 exact must (zu g2) (must (zby hx) (must (zu g3) rfl))
theorem zyu:vH 190 zCu:=kF3 zU9 zl zb6 zhZ (zx []) zCk
theorem zCl (a0:Host)(a1 a2:Int)(hc:ztI a0 a1 a2=true):∃N,zsG N a0 a1 a2=some [aH (ztG a0 a1 a2),aB (ztH a0 a1 a2)]:=by
 obtain ⟨hc,hw⟩:=zkV hc;have hs:=(zN a0).1 (zF.1 hc);refine ⟨0,?_⟩
 show _=some (zfa (zbn a0 a1 a2))
 unfold zsG oN nB
 conv=>zeta
 refine must (zby ((zN _).2 hs)) (must (zby ((zN _).2 hs)) (brN (fun hh=>?_) (fun hh=>?_)))
 .rw [zkS hh];rfl
 obtain ⟨g1,g2,g3⟩:=zda hh;have hx:=znE hs g2 g3;have hk:zM (gOf a0 a1 a2)=3:=qE hw;rw[zix hh,hk];refine must (zu g2) (must (zu g3) (must (zhB rfl hw) ?_))
 show _=some (zfa (zgD (zly a0 a1 a2 (gOf a0 a1 a2) false) a1 a2 (gOf a0 a1 a2) false,true))
 have k:=zvk (b:=a0.Buffer) (page:=zbb (address (gOf a0 a1 a2))) (need:=zbZ false) (io:=false) hs hh;have F:=zBA k g2 g3;have e3:(ix (ix (zeB (zk a0) (zk a0).Buffer a1 a2 (zcB (zh3 (ix (ix (zk a0).Mons a1 zf).Guests a2 zA))) (zeK false) false).Mons a1 zf).Guests a2 zA)=(ix (ix (zk a0).Mons a1 zf).Guests a2 zA):=congrArg (fun l=>ix l a2 gZ) (zHf k.gs a1);rw[e3];unfold zgD;refine must rfl (must rfl (must rfl (must (zby ((zN _).2 hs)) (brN (fun h=>?_) (fun h=>?_)))))
 .rw [show (zly a0 a1 a2 (gOf a0 a1 a2) false).2.2=false from h]
  exact must (zu F.hm) (must rfl (must rfl (must (zby hx) (must (zu F.hg) rfl))))
 .rw [show (zly a0 a1 a2 (gOf a0 a1 a2) false).2.2=true from h]
  exact must (zu F.hm) (must rfl (must rfl (must (zby hx) (must (zu F.hg) rfl))))
theorem zyv:vH 190 zCv:=kF3 zVa zl zb6 zhZ (zx []) zCl
theorem zCm (a0:Host)(a1 a2:Int)(hc:ztL a0 a1 a2=true):∃N,zsH N a0 a1 a2=some [aH (ztJ a0 a1 a2),aB (ztK a0 a1 a2)]:=by
 obtain ⟨hc,hw⟩:=zkV hc;have hs:=(zN a0).1 (zF.1 hc);refine ⟨0,?_⟩
 show _=some (zfa (zbn a0 a1 a2))
 unfold zsH oN nB
 conv=>zeta
 refine must (zby ((zN _).2 hs)) (must (zby ((zN _).2 hs)) (brN (fun hh=>?_) (fun hh=>?_)))
 .rw [zkS hh];rfl
 obtain ⟨g1,g2,g3⟩:=zda hh;have hx:=znE hs g2 g3;have hk:zM (gOf a0 a1 a2)=4:=qE hw;rw[zix hh,hk];refine must (zu g2) (must (zu g3) (must (zhB rfl hw) ?_))
 show _=some (zfa (zgD (zly a0 a1 a2 (gOf a0 a1 a2) true) a1 a2 (gOf a0 a1 a2) true,true))
 have k:=zvk (b:=a0.Buffer) (page:=zbb (address (gOf a0 a1 a2))) (need:=zbZ true) (io:=false) hs hh;have F:=zBA k g2 g3;have e3:(ix (ix (zeB (zk a0) (zk a0).Buffer a1 a2 (zcB (zh3 (ix (ix (zk a0).Mons a1 zf).Guests a2 zA))) (zeK true) false).Mons a1 zf).Guests a2 zA)=(ix (ix (zk a0).Mons a1 zf).Guests a2 zA):=congrArg (fun l=>ix l a2 gZ) (zHf k.gs a1);rw[e3];unfold zgD;refine must rfl (must rfl (must rfl (must (zby ((zN _).2 hs)) (brN (fun h=>?_) (fun h=>?_)))))
 .rw [show (zly a0 a1 a2 (gOf a0 a1 a2) true).2.2=false from h]
  exact must (zu F.hm) (must rfl (must rfl (must (zby hx) (must (zu F.hg) rfl))))
 .rw [show (zly a0 a1 a2 (gOf a0 a1 a2) true).2.2=true from h]
  exact must rfl (must (zby k.shape.1.1) (must (zu F.hm) (must (zby hx) (must (zu F.hg) rfl))))
theorem zyw:vH 190 zCw:=kF3 zVb zl zb6 zhZ (zx []) zCm
theorem z2t {a0:Host}{a1 a2:Int}(hx:SmG (gOf a0 a1 a2))(g2:hasB a1 (ln a0.Mons)=true)(g3:hasB a2 (ln (ix a0.Mons a1 mZ).Guests)=true) :
 (cond (zdy (ix (ix (zk a0).Mons a1 zf).Guests a2 zA) (ix (ix (zk a0).Mons a1 zf).Guests a2 zA).Ctl.Traps 5) (cond (zc3 (ix (ix (zk a0).Mons a1 zf).Guests a2 zA) (ix (ix (zk a0).Mons a1 zf).Guests a2 zA).Ctl.Traps 5) (cond (inb a1 (ln (zk a0).Mons)) (cond (ilt (ln (ix (zk a0).Mons a1 zf).Outs) 40) (cond (inb a1 (ln (zk a0).Mons)) (cond (ze0 (ix (ix (zk a0).Mons a1 zf).Guests a2 zA).Prog (ix (ix (zk a0).Mons a1 zf).Guests a2 zA).Pc) (cond (few (ln (ap (ix (zk a0).Mons a1 zf).Outs [(zfe (ix (ix (zk a0).Mons a1 zf).Guests a2 zA).Prog (ix (ix (zk a0).Mons a1 zf).Guests a2 zA).Pc).X]))) (cond (inb a1 (ln (zk a0).Mons)) (cond (cond (ieq a1 a1) true false) (share (up (zk a0).Mons a1 ({ (ix (zk a0).Mons a1 zf) with Outs:=(ap (ix (zk a0).Mons a1 zf).Outs [(zfe (ix (ix (zk a0).Mons a1 zf).Guests a2 zA).Prog (ix (ix (zk a0).Mons a1 zf).Guests a2 zA).Pc).X]) }:Mon)) (fun x4=>(cond (inb a1 (ln x4)) (cond (inb a2 (ln (ix x4 a1 zf).Guests)) (share (up x4 a1 ({ (ix x4 a1 zf) with Guests:=(up (ix x4 a1 zf).Guests a2 (zb2 (ix (ix (zk a0).Mons a1 zf).Guests a2 zA) (ix (ix (zk a0).Mons a1 zf).Guests a2 zA).Ctl.Traps 5)) }:Mon)) (fun x5=>(some [(.agg (zbc ({ (zk a0) with Mons:=x5 }:Host))),(.one (.b true))]))) none) none))) none) none) none) none) none) (cond (inb a1 (ln (zk a0).Mons)) (cond (inb a2 (ln (ix (zk a0).Mons a1 zf).Guests)) (share (up (zk a0).Mons a1 ({ (ix (zk a0).Mons a1 zf) with Guests:=(up (ix (zk a0).Mons a1 zf).Guests a2 (zb2 (ix (ix (zk a0).Mons a1 zf).Guests a2 zA) (ix (ix (zk a0).Mons a1 zf).Guests a2 zA).Ctl.Traps 5)) }:Mon)) (fun x4=>(some [(.agg (zbc ({ (zk a0) with Mons:=x4 }:Host))),(.one (.b true))]))) none) none)) none) (cond (inb a1 (ln (zk a0).Mons)) (cond (inb a2 (ln (ix (zk a0).Mons a1 zf).Guests)) (share (up (zk a0).Mons a1 ({ (ix (zk a0).Mons a1 zf) with Guests:=(up (ix (zk a0).Mons a1 zf).Guests a2 (zb2 (ix (ix (zk a0).Mons a1 zf).Guests a2 zA) (ix (ix (zk a0).Mons a1 zf).Guests a2 zA).Ctl.Traps 5)) }:Mon)) (fun x4=>(some [(.agg (zbc ({ (zk a0) with Mons:=x4 }:Host))),(.one (.b true))]))) none) none)) none)=some (zfa (zjc (zfq a0 a1 (gOf a0 a1 a2) 5) a1 a2 (ziy (gOf a0 a1 a2) (gOf a0 a1 a2).Ctl.Traps 5),true)):=by
 refine must (zby hx) (br (fun h1=>must (zu g2) (br (fun h3=>?_) (fun h3=>?_))) (fun h1=>?_))
 .rw [zRQ (h:=a0) (m:=a1) (x:=gOf a0 a1 a2) (w:=5) h1 rfl h3];refine must (zu g2) (must rfl (must (z2s h3) (must (zu g2) (must (zXS _) (shr (must (zu (zd8 g2)) (must ?_ rfl)))))));rw[zIm g2];exact zu g3
 .rw [zM6 (h:=a0) (m:=a1) (x:=gOf a0 a1 a2) (w:=5) h3];exact must (zu g2) (must (zu g3) rfl)
 .rw [zY7 (h:=a0) (m:=a1) (x:=gOf a0 a1 a2) (w:=5) h1];exact must (zu g2) (must (zu g3) rfl)
theorem z5Y {a0:Host}{x4:List Mon}{a1 a2:Int}(hx:SmG (gOf a0 a1 a2))(g2:hasB a1 (ln x4)=true)(g3:hasB a2 (ln (ix x4 a1 mZ).Guests)=true)(e:(ix (ix x4 a1 zf).Guests a2 zA)=gOf a0 a1 a2) :
 (cond (zdy ({ (ix (ix (zk a0).Mons a1 zf).Guests a2 zA) with Prog:=(ix (ix x4 a1 zf).Guests a2 zA).Prog,Written:=(ix (ix x4 a1 zf).Guests a2 zA).Written,Live:=(ix (ix x4 a1 zf).Guests a2 zA).Live,Seen:=(ix (ix x4 a1 zf).Guests a2 zA).Seen }:Guest) (ix (ix (zk a0).Mons a1 zf).Guests a2 zA).Ctl.Traps 5) (cond (zc3 ({ (ix (ix (zk a0).Mons a1 zf).Guests a2 zA) with Prog:=(ix (ix x4 a1 zf).Guests a2 zA).Prog,Written:=(ix (ix x4 a1 zf).Guests a2 zA).Written,Live:=(ix (ix x4 a1 zf).Guests a2 zA).Live,Seen:=(ix (ix x4 a1 zf).Guests a2 zA).Seen }:Guest) (ix (ix (zk a0).Mons a1 zf).Guests a2 zA).Ctl.Traps 5) (cond (inb a1 (ln x4)) (cond (ilt (ln (ix x4 a1 zf).Outs) 40) (cond (inb a1 (ln x4)) (cond (ze0 (ix (ix x4 a1 zf).Guests a2 zA).Prog (ix (ix (zk a0).Mons a1 zf).Guests a2 zA).Pc) (cond (few (ln (ap (ix x4 a1 zf).Outs [(zfe (ix (ix x4 a1 zf).Guests a2 zA).Prog (ix (ix (zk a0).Mons a1 zf).Guests a2 zA).Pc).X]))) (cond (inb a1 (ln x4)) (cond (cond (ieq a1 a1) true false) (share (up x4 a1 ({ (ix x4 a1 zf) with Outs:=(ap (ix x4 a1 zf).Outs [(zfe (ix (ix x4 a1 zf).Guests a2 zA).Prog (ix (ix (zk a0).Mons a1 zf).Guests a2 zA).Pc).X]) }:Mon)) (fun x5=>(cond (inb a1 (ln x5)) (cond (inb a2 (ln (ix x5 a1 zf).Guests)) (share (up x5 a1 ({ (ix x5 a1 zf) with Guests:=(up (ix x5 a1 zf).Guests a2 (zb2 ({ (ix (ix (zk a0).Mons a1 zf).Guests a2 zA) with Prog:=(ix (ix x4 a1 zf).Guests a2 zA).Prog,Written:=(ix (ix x4 a1 zf).Guests a2 zA).Written,Live:=(ix (ix x4 a1 zf).Guests a2 zA).Live,Seen:=(ix (ix x4 a1 zf).Guests a2 zA).Seen }:Guest) (ix (ix (zk a0).Mons a1 zf).Guests a2 zA).Ctl.Traps 5)) }:Mon)) (fun x6=>(some [(.agg (zbc ({ (zk a0) with Mons:=x6 }:Host))),(.one (.b true))]))) none) none))) none) none) none) none) none) (cond (inb a1 (ln x4)) (cond (inb a2 (ln (ix x4 a1 zf).Guests)) (share (up x4 a1 ({ (ix x4 a1 zf) with Guests:=(up (ix x4 a1 zf).Guests a2 (zb2 ({ (ix (ix (zk a0).Mons a1 zf).Guests a2 zA) with Prog:=(ix (ix x4 a1 zf).Guests a2 zA).Prog,Written:=(ix (ix x4 a1 zf).Guests a2 zA).Written,Live:=(ix (ix x4 a1 zf).Guests a2 zA).Live,Seen:=(ix (ix x4 a1 zf).Guests a2 zA).Seen }:Guest) (ix (ix (zk a0).Mons a1 zf).Guests a2 zA).Ctl.Traps 5)) }:Mon)) (fun x5=>(some [(.agg (zbc ({ (zk a0) with Mons:=x5 }:Host))),(.one (.b true))]))) none) none)) none) (cond (inb a1 (ln x4)) (cond (inb a2 (ln (ix x4 a1 zf).Guests)) (share (up x4 a1 ({ (ix x4 a1 zf) with Guests:=(up (ix x4 a1 zf).Guests a2 (zb2 ({ (ix (ix (zk a0).Mons a1 zf).Guests a2 zA) with Prog:=(ix (ix x4 a1 zf).Guests a2 zA).Prog,Written:=(ix (ix x4 a1 zf).Guests a2 zA).Written,Live:=(ix (ix x4 a1 zf).Guests a2 zA).Live,Seen:=(ix (ix x4 a1 zf).Guests a2 zA).Seen }:Guest) (ix (ix (zk a0).Mons a1 zf).Guests a2 zA).Ctl.Traps 5)) }:Mon)) (fun x5=>(some [(.agg (zbc ({ (zk a0) with Mons:=x5 }:Host))),(.one (.b true))]))) none) none)) none)=some (zfa (zjc (zfq { a0 with Mons:=x4 } a1 (gOf a0 a1 a2) 5) a1 a2 (ziy (gOf a0 a1 a2) (gOf a0 a1 a2).Ctl.Traps 5),true)):=by
 rw[e];refine must (zby hx) (br (fun h1=>must (zu g2) (br (fun h3=>?_) (fun h3=>?_))) (fun h1=>?_))
 .rw [zRQ (h:={ a0 with Mons:=x4 }) (m:=a1) (x:=gOf a0 a1 a2) (w:=5) h1 rfl h3];refine must (zu g2) (must rfl (must (z2s h3) (must (zu g2) (must (zXS _) (shr (must (zu (zd8 (h:={ a0 with Mons:=x4 }) g2)) (must ?_ rfl)))))));rw[zIm (h:={ a0 with Mons:=x4 }) g2];exact zu g3
 .rw [zM6 (h:={ a0 with Mons:=x4 }) (m:=a1) (x:=gOf a0 a1 a2) (w:=5) h3];exact must (zu g2) (must (zu g3) rfl)
 .rw [zY7 (h:={ a0 with Mons:=x4 }) (m:=a1) (x:=gOf a0 a1 a2) (w:=5) h1];exact must (zu g2) (must (zu g3) rfl)
theorem zCn (a0:Host)(a1 a2:Int)(hc:ztO a0 a1 a2=true):∃N,zsI N a0 a1 a2=some [aH (ztM a0 a1 a2),aB (ztN a0 a1 a2)]:=by
 obtain ⟨hc,hw⟩:=zkV hc;have hs:=(zN a0).1 (zF.1 hc);refine ⟨0,?_⟩
 show _=some (zfa (zbn a0 a1 a2))
 unfold zsI oN nB
 conv=>zeta
 refine must (zby ((zN _).2 hs)) (must (zby ((zN _).2 hs)) (brN (fun hh=>?_) (fun hh=>?_)))
 .rw [zkS hh];rfl
 obtain ⟨g1,g2,g3⟩:=zda hh;have hx:=znE hs g2 g3;have hk:zM (gOf a0 a1 a2)=5:=qE hw;rw[zix hh,hk];refine must (zu g2) (must (zu g3) (must (zhB rfl hw) ?_))
 show _=some (zfa (zpr a0 a1 a2 (gOf a0 a1 a2) 5,true))
 refine must (zu g2) (must rfl (br (fun h0=>must (zu g2) (br (fun h9=>must (zu g2) (must (zu g2) (shr ?_))) (fun h9=>?_))) (fun h0=>?_)))
 .rw [zl6 (zUF (h:=a0) (m:=a1) (x:=gOf a0 a1 a2) (w:=5) rfl h0 h9)];have eM:=zIm g2 { ix a0.Mons a1 mZ with Own:=zG .i64 (ix a0.Mons a1 mZ).Own 1 };refine z5Y hx (zd8 g2) ?_ ?_
  .show hasB a2 (ln (ix (up a0.Mons a1 _) a1 mZ).Guests)=true
   rw[eM];exact g3
  .show ix (ix (up a0.Mons a1 _) a1 mZ).Guests a2 gZ=_
   rw[eM];rfl
 .rw [zl6 (zUE (h:=a0) (m:=a1) (x:=gOf a0 a1 a2) (w:=5) h9)];exact z2t hx g2 g3
 .rw [zl6 (zUD (h:=a0) (m:=a1) (x:=gOf a0 a1 a2) (w:=5) h0)];exact z2t hx g2 g3
theorem zyx:vH 190 zCx:=kF3 zVc zl zb6 zhZ (zx []) zCn
theorem zCo (a0:Host)(a1 a2:Int)(hc:ztR a0 a1 a2=true):∃N,zsJ N a0 a1 a2=some [aH (ztP a0 a1 a2),aB (ztQ a0 a1 a2)]:=by
 obtain ⟨hc,hw⟩:=zkV hc;have hs:=(zN a0).1 (zF.1 hc);refine ⟨0,?_⟩
 show _=some (zfa (zbn a0 a1 a2))
 unfold zsJ oN nB
 conv=>zeta
 refine must (zby ((zN _).2 hs)) (must (zby ((zN _).2 hs)) (brN (fun hh=>?_) (fun hh=>?_)))
 .rw [zkS hh];rfl
 obtain ⟨g1,g2,g3⟩:=zda hh;have hx:=znE hs g2 g3;have hk:zM (gOf a0 a1 a2)=6:=qE hw;rw[zix hh,hk];refine must (zu g2) (must (zu g3) (must (zhB rfl hw) ?_))
 show _=some (zfa (zpr a0 a1 a2 (gOf a0 a1 a2) 6,true))
 rw[zl6 (z4K (h:=a0) (m:=a1) (x:=gOf a0 a1 a2)),zJc (w:=6) rfl];exact must (zby hx) (br (fun h1=>must (zu g2) (must (zu g3) rfl)) (fun h1=>must (zu g2) (must (zu g3) rfl)))
theorem zyy:vH 190 zCy:=kF3 zVd zl zb6 zhZ (zx []) zCo
theorem z2u {a0:Host}{a1 a2:Int}(hx:SmG (gOf a0 a1 a2))(g2:hasB a1 (ln a0.Mons)=true)(g3:hasB a2 (ln (ix a0.Mons a1 mZ).Guests)=true) :
 (cond (zdy (ix (ix (zk a0).Mons a1 zf).Guests a2 zA) (ix (ix (zk a0).Mons a1 zf).Guests a2 zA).Ctl.Traps 7) (cond (zc3 (ix (ix (zk a0).Mons a1 zf).Guests a2 zA) (ix (ix (zk a0).Mons a1 zf).Guests a2 zA).Ctl.Traps 7) (cond (inb a1 (ln (zk a0).Mons)) (cond (inb a2 (ln (ix (zk a0).Mons a1 zf).Guests)) (share (up (zk a0).Mons a1 ({ (ix (zk a0).Mons a1 zf) with Guests:=(up (ix (zk a0).Mons a1 zf).Guests a2 (zb2 (ix (ix (zk a0).Mons a1 zf).Guests a2 zA) (ix (ix (zk a0).Mons a1 zf).Guests a2 zA).Ctl.Traps 7)) }:Mon)) (fun x4=>(some [(.agg (zbc ({ (zk a0) with Mons:=x4 }:Host))),(.one (.b true))]))) none) none) (cond (inb a1 (ln (zk a0).Mons)) (cond (inb a2 (ln (ix (zk a0).Mons a1 zf).Guests)) (share (up (zk a0).Mons a1 ({ (ix (zk a0).Mons a1 zf) with Guests:=(up (ix (zk a0).Mons a1 zf).Guests a2 (zb2 (ix (ix (zk a0).Mons a1 zf).Guests a2 zA) (ix (ix (zk a0).Mons a1 zf).Guests a2 zA).Ctl.Traps 7)) }:Mon)) (fun x4=>(some [(.agg (zbc ({ (zk a0) with Mons:=x4 }:Host))),(.one (.b true))]))) none) none)) none)=some (zfa (zjc a0 a1 a2 (ziy (gOf a0 a1 a2) (gOf a0 a1 a2).Ctl.Traps 7),true)) :=
 must (zby hx) (br (fun h1=>must (zu g2) (must (zu g3) rfl)) (fun h1=>must (zu g2) (must (zu g3) rfl)))
theorem z5Z {a0:Host}{x4:List Mon}{a1 a2:Int}(hx:SmG (gOf a0 a1 a2))(g2:hasB a1 (ln x4)=true)(g3:hasB a2 (ln (ix x4 a1 mZ).Guests)=true)(e:(ix (ix x4 a1 zf).Guests a2 zA)=gOf a0 a1 a2) :
 (cond (zdy ({ (ix (ix (zk a0).Mons a1 zf).Guests a2 zA) with Prog:=(ix (ix x4 a1 zf).Guests a2 zA).Prog,Written:=(ix (ix x4 a1 zf).Guests a2 zA).Written,Live:=(ix (ix x4 a1 zf).Guests a2 zA).Live,Seen:=(ix (ix x4 a1 zf).Guests a2 zA).Seen }:Guest) (ix (ix (zk a0).Mons a1 zf).Guests a2 zA).Ctl.Traps 7) (cond (zc3 ({ (ix (ix (zk a0).Mons a1 zf).Guests a2 zA) with Prog:=(ix (ix x4 a1 zf).Guests a2 zA).Prog,Written:=(ix (ix x4 a1 zf).Guests a2 zA).Written,Live:=(ix (ix x4 a1 zf).Guests a2 zA).Live,Seen:=(ix (ix x4 a1 zf).Guests a2 zA).Seen }:Guest) (ix (ix (zk a0).Mons a1 zf).Guests a2 zA).Ctl.Traps 7) (cond (inb a1 (ln x4)) (cond (inb a2 (ln (ix x4 a1 zf).Guests)) (share (up x4 a1 ({ (ix x4 a1 zf) with Guests:=(up (ix x4 a1 zf).Guests a2 (zb2 ({ (ix (ix (zk a0).Mons a1 zf).Guests a2 zA) with Prog:=(ix (ix x4 a1 zf).Guests a2 zA).Prog,Written:=(ix (ix x4 a1 zf).Guests a2 zA).Written,Live:=(ix (ix x4 a1 zf).Guests a2 zA).Live,Seen:=(ix (ix x4 a1 zf).Guests a2 zA).Seen }:Guest) (ix (ix (zk a0).Mons a1 zf).Guests a2 zA).Ctl.Traps 7)) }:Mon)) (fun x5=>(some [(.agg (zbc ({ (zk a0) with Mons:=x5 }:Host))),(.one (.b true))]))) none) none) (cond (inb a1 (ln x4)) (cond (inb a2 (ln (ix x4 a1 zf).Guests)) (share (up x4 a1 ({ (ix x4 a1 zf) with Guests:=(up (ix x4 a1 zf).Guests a2 (zb2 ({ (ix (ix (zk a0).Mons a1 zf).Guests a2 zA) with Prog:=(ix (ix x4 a1 zf).Guests a2 zA).Prog,Written:=(ix (ix x4 a1 zf).Guests a2 zA).Written,Live:=(ix (ix x4 a1 zf).Guests a2 zA).Live,Seen:=(ix (ix x4 a1 zf).Guests a2 zA).Seen }:Guest) (ix (ix (zk a0).Mons a1 zf).Guests a2 zA).Ctl.Traps 7)) }:Mon)) (fun x5=>(some [(.agg (zbc ({ (zk a0) with Mons:=x5 }:Host))),(.one (.b true))]))) none) none)) none)=some (zfa (zjc { a0 with Mons:=x4 } a1 a2 (ziy (gOf a0 a1 a2) (gOf a0 a1 a2).Ctl.Traps 7),true)):=by
 rw[e];exact must (zby hx) (br (fun h1=>must (zu g2) (must (zu g3) rfl)) (fun h1=>must (zu g2) (must (zu g3) rfl)))
theorem zCp (a0:Host)(a1 a2:Int)(hc:ztU a0 a1 a2=true):∃N,zsK N a0 a1 a2=some [aH (ztS a0 a1 a2),aB (ztT a0 a1 a2)]:=by
 obtain ⟨hc,hw⟩:=zkV hc;have hs:=(zN a0).1 (zF.1 hc);refine ⟨0,?_⟩
 show _=some (zfa (zbn a0 a1 a2))
 unfold zsK oN nB
 conv=>zeta
 refine must (zby ((zN _).2 hs)) (must (zby ((zN _).2 hs)) (brN (fun hh=>?_) (fun hh=>?_)))
 .rw [zkS hh];rfl
 obtain ⟨g1,g2,g3⟩:=zda hh;have hx:=znE hs g2 g3;have hk:zM (gOf a0 a1 a2)=7:=qE hw;rw[zix hh,hk];refine must (zu g2) (must (zu g3) (must (zhB rfl hw) ?_))
 show _=some (zfa (zpr a0 a1 a2 (gOf a0 a1 a2) 7,true))
 refine must (zu g2) (must rfl (br (fun h0=>must (zu g2) (br (fun h9=>must (zu g2) (must (zu g2) (shr ?_))) (fun h9=>?_))) (fun h0=>?_)))
 .rw [zl6 (zUF (h:=a0) (m:=a1) (x:=gOf a0 a1 a2) (w:=7) rfl h0 h9),zJc (w:=7) rfl];have eM:=zIm g2 { ix a0.Mons a1 mZ with Own:=zG .i64 (ix a0.Mons a1 mZ).Own 1 };refine z5Z hx (zd8 g2) ?_ ?_
  .show hasB a2 (ln (ix (up a0.Mons a1 _) a1 mZ).Guests)=true
   rw[eM];exact g3
  .show ix (ix (up a0.Mons a1 _) a1 mZ).Guests a2 gZ=_
   rw[eM];rfl
 .rw [zl6 (zUE (h:=a0) (m:=a1) (x:=gOf a0 a1 a2) (w:=7) h9),zJc (w:=7) rfl];exact z2u hx g2 g3
 .rw [zl6 (zUD (h:=a0) (m:=a1) (x:=gOf a0 a1 a2) (w:=7) h0),zJc (w:=7) rfl];exact z2u hx g2 g3
theorem zyz:vH 190 zCz:=kF3 zVe zl zb6 zhZ (zx []) zCp
def zoj:List AV->Option (Bool×List AV)
 | [.agg [.s (.sl .int) b,.s .mon c,.s .entry d,.s .entry e],.one (.i .i64 f),.one (.i .i64 g)]=>some ((zd9 (⟨b,c,d,e⟩:Host) f g),[aH (zAT (⟨b,c,d,e⟩:Host) f g),aB (zAU (⟨b,c,d,e⟩:Host) f g)])
 | _=>none
theorem zEZ:vH 190 zoj:=by
 refine ⟨znJ.1,fun w avs xs rs hrep h=>?_⟩;unfold zoj at h;split at h
 .rename_i a0_0 a0_1 a0_2 a0_3 a1 a2;obtain ⟨hc,rfl⟩:=zdJ h;rcases z1h (gOf (⟨a0_0,a0_1,a0_2,a0_3⟩:Host) a1 a2) with e|e|e|e|e|e|e|e
  .exact znJ.2 w _ xs _ hrep (congrArg (fun c=>some (c,zfa (zbn (⟨a0_0,a0_1,a0_2,a0_3⟩:Host) a1 a2))) (zhB hc e))
  .exact zyt.2 w _ xs _ hrep (congrArg (fun c=>some (c,zfa (zbn (⟨a0_0,a0_1,a0_2,a0_3⟩:Host) a1 a2))) (zhB hc e))
  .exact zyu.2 w _ xs _ hrep (congrArg (fun c=>some (c,zfa (zbn (⟨a0_0,a0_1,a0_2,a0_3⟩:Host) a1 a2))) (zhB hc e))
  .exact zyv.2 w _ xs _ hrep (congrArg (fun c=>some (c,zfa (zbn (⟨a0_0,a0_1,a0_2,a0_3⟩:Host) a1 a2))) (zhB hc e))
  .exact zyw.2 w _ xs _ hrep (congrArg (fun c=>some (c,zfa (zbn (⟨a0_0,a0_1,a0_2,a0_3⟩:Host) a1 a2))) (zhB hc e))
  .exact zyx.2 w _ xs _ hrep (congrArg (fun c=>some (c,zfa (zbn (⟨a0_0,a0_1,a0_2,a0_3⟩:Host) a1 a2))) (zhB hc e))
  .exact zyy.2 w _ xs _ hrep (congrArg (fun c=>some (c,zfa (zbn (⟨a0_0,a0_1,a0_2,a0_3⟩:Host) a1 a2))) (zhB hc e))
  .exact zyz.2 w _ xs _ hrep (congrArg (fun c=>some (c,zfa (zbn (⟨a0_0,a0_1,a0_2,a0_3⟩:Host) a1 a2))) (zhB hc e))
 .cases h
def z2i:zU:=[(190,zoj)]++zlw
theorem zZ1:zD z2i:=zh zEZ zhk
def z2j:zU:=z2i
theorem zZ2:zD z2j:=zZ1
def brought (n a b:Int):Int:=bif ilt n a then a else (cond (ilt b a) a (zKp n b))
@[simp] abbrev zo4 (_ _ _:Int):Bool:=true
@[simp] abbrev zpO (n a b:Int):Int:=brought n a b
def zqg:Run:=rF3 dI dI dI fun b c d=>(zo4 b c d,[aI (zpO b c d)])
def zCN (N:Nat)(a0 a1 a2:Int):OA:=
 (cond (ilt a2 a1) (some [(aI a1)]) (cond (ilt a0 a1) (some [(aI a1)]) (cond (igt a0 a2) (some [(aI a2)]) (some [(aI a0)]))))
theorem zNN (a0 a1 a2:Int)(hc:zo4 a0 a1 a2=true):∃N,zCN N a0 a1 a2=some [aI (zpO a0 a1 a2)]:=by
 refine ⟨0,?_⟩;unfold zCN;unfold zpO brought zKp;cases h1:ilt a2 a1<;>cases h2:ilt a0 a1<;>cases h3:igt a0 a2<;>simp [igt] at * <;> omega
theorem zs8:vH 242 zqg:=kF3 zrv zl zq zy (zx []) zNN
structure RI (a:List Bare) (i:Nat) (l:List Bare):Prop where
 len:l.length=a.length
 sm:zUO l
 eq:∀k,i<=k->l[k]?=a[k]?
theorem RI.up {a l:List Bare}{i:Nat}(h:RI a i l)(x:Bare)(hx:SmB x):RI a (i+1) (up l (i:Int) x) :=
 ⟨by rw[zfS];exact h.len,z4E h.sm hx,fun k hk=>by rw[z5u (by omega)];exact h.eq k (by omega)⟩
structure RJ (l:List Bare) (i:Nat) (l':List Bare):Prop where
 len:l'.length=l.length
 sm:SmB (ix l' (i:Int) zSf)
 up:∀x,E.up l' (i:Int) x=E.up l (i:Int) x
theorem RJ.next {l l':List Bare}{i:Nat}(h:RJ l i l')(hi:i<l.length)(x:Bare)(hx:SmB x):RJ l i (E.up l' (i:Int) x) :=
 ⟨by rw[zfS];exact h.len,by rw[zdv (by rw[h.len];exact hi)];exact hx,fun y=>by rw[zt2];exact h.up y⟩
def zXu:zU:=z2j
theorem zXv:zD zXu:=zZ2
theorem zRA {h:Host}{m:Int}(hs:SmH h)(hm:hasB m (ln h.Mons)=true):SmB (zB h m):=by
 have g1:=hs.2.1.2 _ (zbq hm mZ);have hP:∀(mm:List (List Int)) (q:Int),SmM mm->(zb8 mm q).length<=1048576:=fun mm q h=>zRC h;have hpg:∀p:Int,(zcN h m p).length<=1048576:=by
  intro p;unfold zcN;cases hasB m (ln h.Mons)
  .exact (by decide:zxq.length<=1048576)
  .cases hasB p 8
   .exact (by decide:zxq.length<=1048576)
   .simp only [cT];cases ine (zbf (ix h.Mons m zf).Outer p).Page (-1)
    .exact hP _ _ g1.2.1
    .exact hP _ _ hs.1
 have hN:∀(n i:Nat),∀x∈zcp h m n i,x.length<=1048576:=by
  intro n
  induction n with
  | zero=>intro i x hx;cases hx
  | succ n ih =>
   intro i x hx;rcases qG.1 hx with rfl|hx
   .exact hpg _
   .exact ih (i+1) x hx
 unfold zB;rw[hm];exact ⟨⟨by show (zcp h m 8 0).length<=1048576;rw[zwZ];decide,hN 8 0⟩,g1.2.2.2.1,g1.2.2.2.2.1⟩
def z2k:zU:=zXu
theorem zZ3:zD z2k:=zXv
def z2l:zU:=[(242,zqg)]++z2k
theorem zZ4:zD z2l:=zh zs8 zZ3
def cnt (l:List Mon):List Nat:=l.map fun x=>x.Guests.length
theorem z5a {l l':List Mon}(h:zdG l'=zdG l):cnt l'=cnt l:=by
 have e:∀l:List Mon,cnt l=(zdG l).map List.length:=fun l=>by simp[cnt,zdG]
 rw[e,e,h]
theorem zPg {l:List Mon}{m:Int}{x:Mon}(hm:hasB m (ln l)=true)(hx:x.Guests.length=(ix l m mZ).Guests.length):cnt (up l m x)=cnt l:=by
 obtain ⟨k,rfl,hk⟩:=zdj (n:=l.length) hm;unfold cnt up;rw[List.map_set,kV,hx,zbe hk];have:=@uS _ (l.map fun x=>x.Guests.length) k (by simpa using hk)
 simpa using this
theorem z3f {l l':List Mon}(h:cnt l'=cnt l):l'.length=l.length:=by
 have:=congrArg List.length h;simpa [cnt] using this
theorem z5b {l l':List Mon}(h:cnt l'=cnt l)(m:Int):(ix l' m mZ).Guests.length=(ix l m mZ).Guests.length:=by
 have h2:(cnt l')[m.toNat]?=(cnt l)[m.toNat]?:=by rw[h]
 unfold cnt at h2;rw[qM,qM]at h2;unfold ix;simp only[j8];cases h3:l'[m.toNat]? <;> cases h4:l[m.toNat]? <;> rw [h3,h4]at h2<;>simp at h2 ⊢;exact h2
theorem z4h (h:Host)(m p:Int):(zcC h m p).Memory=h.Memory:=(zfw (zd3 h m p) m p noSlot).2
theorem z4g (h:Host):(zcu h).Memory=h.Memory:=by
 unfold zcu;cases ieq (ln (zbR h)) 0
 .rfl
 .exact z4h _ _ _
theorem z4f (m:List (List Int))(p:Int)(c:List Int):(zgE m p c).length=m.length:=by
 unfold zgE;cases hasB p (ln m)
 .rfl
 .cases zb5 c
  .rfl
  .simp
theorem z4d (m:List (List Int))(p c v:Int):(zbw m p c v).length=m.length:=by
 unfold zbw;cases zg3 m p c
 .rfl
 .cases win v 0 99
  .rfl
  .simp
theorem zVO (h:Host)(m p:Int):(fetched h m p).Memory.length=h.Memory.length:=by
 unfold fetched zer;rw[(zfw _ _ _ _).2];unfold landing;rw[z4f,z4g]
theorem zQY (h:Host)(m p n:Int):(zg4 h m p n).Memory=h.Memory:=by
 unfold zg4;cases ieq (wand .i64 n 2) 0
 .unfold opened;cases ieq (wand .i64 (ix (ix (zbp h m p).Mons m mZ).Outer p sZ).Rights 2) 0
  .rfl
  .exact (zfw _ _ _ _).2
 .rfl
theorem zYc (h:Host)(m p n:Int):(mended h m p n).Memory.length=h.Memory.length:=by
 unfold mended;cases ieq (ix (ix h.Mons m mZ).Outer p sZ).Page (-1)
 .exact congrArg List.length (zQY _ _ _ _)
 .exact (congrArg List.length (zQY _ _ _ _)).trans (zVO _ _ _)
theorem zYd (h:Host)(m g p:Int)(io:Bool):(zoZ h m g p io).Memory=h.Memory:=by cases io<;>rfl
theorem z0x (h:Host)(b:List Entry)(m g page need q:Int)(io:Bool):(zfI h b m g page need q io).1.Memory.length=h.Memory.length:=by
 unfold zfI;cases zge b m g page need
 .cases zef h m g page need
  .exact congrArg List.length (zYd _ _ _ _ _)
  .exact (congrArg List.length (zYd _ _ _ _ _)).trans (zYc h m q need)
 .rfl
theorem z4e (h:Host)(b:List Entry)(m g page need:Int)(io:Bool):(lookOf h b m g page need io).1.Memory.length=h.Memory.length:=by
 unfold lookOf;cases zbP h m g page need
 .rfl
 .simp only [cT];rw[z0x];cases ieq need 2<;>rfl
structure Keep (h r:Host):Prop where
 shape:Shape r
 cnt:cnt r.Mons=cnt h.Mons
 mem:r.Memory.length=h.Memory.length
theorem Keep.has {h r:Host}(k:Keep h r){m:Int}(hm:hasB m (ln h.Mons)=true):hasB m (ln r.Mons)=true:=by
 rw[ln,z3f k.cnt];exact hm
theorem Keep.hg {h r:Host}(k:Keep h r){m g:Int}(hg:hasB g (ln (ix h.Mons m mZ).Guests)=true):hasB g (ln (ix r.Mons m mZ).Guests)=true:=by
 rw[ln,z5b k.cnt];exact hg
theorem Keep.trans {a b c:Host}(h:Keep a b)(k:Keep b c):Keep a c:=⟨k.shape,k.cnt.trans h.cnt,k.mem.trans h.mem⟩
theorem Keep.rfl' {h:Host}(hs:Shape h):Keep h h:=⟨hs,rfl,rfl⟩
theorem zme {h:Host}{m g:Int}{x:Guest}(hs:Shape h)(hm:hasB m (ln h.Mons)=true)(hx:SmG x):Keep h (zjc h m g x):=⟨zWr hs hm hx,zPg hm (by simp),rfl⟩
theorem zzQ {h:Host}{b:List Entry}{m g page need:Int}{io:Bool}(hs:SmH h)(hh:zbH h m g=true):Keep h (lookOf h b m g page need io).1:=by
 have k:=zvk (b:=b) (page:=page) (need:=need) (io:=io) hs hh;exact ⟨k.shape,z5a k.gs,z4e _ _ _ _ _ _ _⟩
theorem zXW {h:Host}{p c v:Int}(hs:Shape h):Keep h { h with Memory:=zbw h.Memory p c v }:=⟨zM2 hs (zxm hs.1.1),rfl,z4d _ _ _ _⟩
theorem zVG {h:Host}{m:Int}(hs:Shape h)(hm:hasB m (ln h.Mons)=true):Keep h (owned h m):=by
 obtain ⟨g1,g2⟩:=zcf hs hm;unfold owned;cases ilt (ix h.Mons m mZ).Own 1000000000
 .exact Keep.rfl' hs
 .exact ⟨zhz hs g1 g2,zPg hm rfl,rfl⟩
theorem zVF {h:Host}{m n:Int}(hs:Shape h)(hm:hasB m (ln h.Mons)=true):Keep h (zjG h m n):=by
 obtain ⟨g1,g2⟩:=zcf hs hm;unfold zjG;cases h3:ilt (ln (ix h.Mons m mZ).Outs) 40
 .exact Keep.rfl' hs
 .have h4:=qE h3;simp only[ln]at h4;refine ⟨zhz hs ⟨g1.1,g1.2.1,g1.2.2.1,g1.2.2.2.1,?_,g1.2.2.2.2.2⟩ g2,zPg hm rfl,rfl⟩;simp[ap];omega
theorem zXY {h:Host}{m g:Int}{x:Guest}{w:Int}(hs:Shape h)(hm:hasB m (ln h.Mons)=true)(hx:SmG x):Keep h (zpr h m g x w):=by
 have k1:Keep h (zew h m x w):=by
  unfold zew;cases (cond (ine w 6) (ieq (zuj (ix h.Mons m mZ).Traps x.Ctl.Traps (zsx w)) 2) false)
  .exact Keep.rfl' hs
  .exact zVG hs hm
 have k2:Keep (zew h m x w) (zfq (zew h m x w) m x w):=by
  unfold zfq;cases (cond (ziz x.Ctl.Traps w) (ieq w 5) false)
  .exact Keep.rfl' k1.shape
  .exact zVF k1.shape (k1.has hm)
 have k3:=k1.trans k2;exact k3.trans (zme k3.shape (k3.has hm) (zA1 _ _ hx))
theorem zXX {h:Host}{m g:Int}(hs:SmH h)(hh:zbH h m g=true):Keep h (zbn h m g).1:=by
 obtain ⟨g1,g2,g3⟩:=zda hh;have hx:=znE hs g2 g3;have hS:=(zeg hs g1).1;rw[zix hh];unfold zI6;cases ieq (zM (gOf h m g)) 0
 .cases ieq (zM (gOf h m g)) 1
  .cases ieq (zM (gOf h m g)) 2
   .cases (cond (ieq (zM (gOf h m g)) 3) true (ieq (zM (gOf h m g)) 4))
    .exact zXY hS g2 hx
    .have k:=zzQ (b:=h.Buffer) (page:=zbb (address (gOf h m g))) (need:=zbZ (ieq (zM (gOf h m g)) 4)) (io:=false) hs hh
     show Keep h (zgD (zly h m g (gOf h m g) (ieq (zM (gOf h m g)) 4)) m g (gOf h m g) (ieq (zM (gOf h m g)) 4))
     unfold zgD;cases (zly h m g (gOf h m g) (ieq (zM (gOf h m g)) 4)).2.2
     .exact k.trans (zme k.shape (k.has g2) hx)
     .cases ieq (zM (gOf h m g)) 4
      .have k:=zzQ (b:=h.Buffer) (page:=zbb (address (gOf h m g))) (need:=zbZ false) (io:=false) hs hh;exact k.trans (zme k.shape (k.has g2) (zI0 _ hx))
      .have k:=zzQ (b:=h.Buffer) (page:=zbb (address (gOf h m g))) (need:=zbZ true) (io:=false) hs hh;have k2:=zXW (p:=(zly h m g (gOf h m g) true).2.1) (c:=zcV (address (gOf h m g))) (v:=(gOf h m g).A) k.shape;have k3:=k.trans k2;exact k3.trans (zme k3.shape (k3.has g2) (zj5 hx))
   .exact zme hS g2 (zD4 hx)
  .exact zme hS g2 (zUs hx)
 .exact Keep.rfl' hS
structure Same (h r:Host):Prop where
 sm:SmH r
 cnt:cnt r.Mons=cnt h.Mons
 mem:r.Memory.length=h.Memory.length
 st:r=h\/Shape r
theorem Same.rfl' {h:Host}(hs:SmH h):Same h h:=⟨hs,rfl,rfl,.inl rfl⟩
theorem Same.trans {a b c:Host}(h:Same a b)(k:Same b c):Same a c:=⟨k.sm,k.cnt.trans h.cnt,k.mem.trans h.mem,by
 rcases k.st with e|e
 .rw [e];exact h.st
 .exact .inr e⟩
theorem zYL {h:Host}(m g:Int)(hs:SmH h):Same h (zbn h m g).1:=by
 cases hh:zbH h m g
 .rw [zkS hh];exact Same.rfl' hs
 .have k:=zXX hs hh;exact ⟨k.shape.1,k.cnt,k.mem,.inr k.shape⟩
def z2m:zU:=[(242,zqg)]++zU6
theorem zry:zD z2m:=zh zs8 zrv
theorem zPc {a b:Bool}(h:(a=true)↔(b=true)):a=b:=by cases a<;>cases b<;>simp_all
@[simp] theorem z5M (x:Int):win x 0 3=hasB x 4:=zPc (by rw[zfg];unfold hasB;rw[decide_eq_true_iff];omega)
@[simp] theorem zZe (x:Int):win x 0 7=hasB x 8:=zPc (by rw[zfg];unfold hasB;rw[decide_eq_true_iff];omega)
def zdK (t:List Slot)(p:Int)(s:Slot):List Slot:=bif hasB p (ln t) then up t p s else t
@[simp] theorem z5N (t:List Slot)(p:Int)(s:Slot):(zdK t p s).length=t.length:=by
 unfold zdK;cases hasB p (ln t)<;>simp
@[simp] abbrev znw (t:List Slot)(p:Int)(s:Slot):Bool:=pc (t.length<=1048576)
@[simp] abbrev zkN (t:List Slot)(p:Int)(s:Slot):List Slot:=zdK t p s
def zvV:Run:=rF3 (dS .slot) dI (dT .slot) fun b c d=>(znw b c d,[aS .slot (zkN b c d)])
def zy2 (N:Nat)(a0:lS)(a1:Int)(a2:Slot):OA:=
 (oN (few (ln (ap [] a0))) (oN (zJ a1 0 (wsub .i64 (ln a0) 1)) (cond (zL a1 0 (wsub .i64 (ln a0) 1)) (oN (inb a1 (ln (ap [] a0))) (share (up (ap [] a0) a1 a2) (fun x4=>(some [(aS .slot x4)])))) (some [(aS .slot (ap [] a0))]))))
theorem zKX (a0:List Slot)(a1:Int)(a2:Slot)(hc:znw a0 a1 a2=true):∃N,zy2 N a0 a1 a2=some [aS .slot (zkN a0 a1 a2)]:=by
 have hs:=zF.1 hc;refine ⟨0,?_⟩;unfold zy2 oN;refine mu (must rfl (br (fun _=>mu (shr ?_)) (fun _=>?_)))
 all_goals first|rfl|(simp only [*,zkN,zdK,cT,cF]<;>rfl)|simp_all[Ty.cells,zkN,zdK]
theorem zE7:vH 308 zvV:=kF3 zry zl zq zy (zx []) zKX
def zfy (p n:Int):Bool:=bif zcO p then win n 0 7 else false
def zqR (p n:Int):Int:=bif zfy p n then wor .i64 p (znH .i64 1 n) else p
theorem cv7 {n:Int}(h:hasB n 8=true):wcv .u64 n=n/\ile 0 n=true:=by
 have:=qE h;exact ⟨zUK (by omega) (by omega),qL (by omega)⟩
@[simp] abbrev zi5 (p n:Int):Bool:=true
@[simp] abbrev zf7 (p n:Int):Int:=zqR p n
@[simp] abbrev zll (p n:Int):Bool:=zfy p n
def zx4:Run:=rF2 dI dI fun b c=>(zi5 b c,[aI (zf7 b c),aB (zll b c)])
def zC1 (N:Nat)(a0 a1:Int):OA:=
 (oN (zeN a0) (cond (nB (zeM a0)) (some [(aI a0),(aB false)]) (oN (zJ a1 0 7) (cond (nB (zL a1 0 7)) (some [(aI a0),(aB false)]) (oN (ile 0 (wcv .u64 a1)) (some [(aI (wor .i64 a0 (znH .i64 1 (wcv .u64 a1)))),(aB true)]))))))
theorem zN2 (a0 a1:Int)(hc:zi5 a0 a1=true):∃N,zC1 N a0 a1=some [aI (zf7 a0 a1),aB (zll a0 a1)]:=by
 have hw:=@cv7 a1;refine ⟨0,?_⟩;unfold zC1 oN nB;refine must rfl (brN (fun _=>?_) (fun _=>must rfl (brN (fun _=>?_) (fun _=>mu ?_))))
 all_goals first|rfl|(simp only [*,zf7,zll,zqR,zfy,cT,cF]<;>rfl)|simp_all[Ty.cells,zf7,zll,zqR,zfy]
theorem zHC:vH 310 zx4:=kF2 zry zl zq zy (zx []) zN2
def posts (c:Ctl)(n:Int):Bool:=bif zgF c then (cond (win n 0 7) (ieq (wand .i64 (zBe .i64 c.Post n) 1) 1) false) else false
@[simp] abbrev zAW (c:Ctl)(n:Int):Bool:=true
@[simp] abbrev zv3 (c:Ctl)(n:Int):Bool:=posts c n
def zDU:Run:=rF2 dC dI fun b c=>(zAW b c,[aB (zv3 b c)])
def zL5 (N:Nat)(a0:Ctl)(a1:Int):OA:=
 (oN (zpP a0) (cond (zoo a0) (oN (zJ a1 0 7) (cond (zL a1 0 7) (oN (ile 0 (wcv .u64 a1)) (some [(aB (ieq (wand .i64 (zBe .i64 a0.Post (wcv .u64 a1)) 1) 1))])) oF)) oF))
theorem zSQ (a0:Ctl)(a1:Int)(hc:zAW a0 a1=true):∃N,zL5 N a0 a1=some [aB (zv3 a0 a1)]:=by
 have hw:=@cv7 a1;refine ⟨0,?_⟩;unfold zL5 oN;refine must rfl (br (fun _=>must rfl (br (fun _=>mu ?_) (fun _=>?_))) (fun _=>?_))
 all_goals first|rfl|(simp only [*,zv3,posts,cT,cF]<;>rfl)|simp_all[Ty.cells,zv3,posts]
theorem zNv:vH 321 zDU:=kF2 zry zl zq zy (zx []) zSQ
def zb1 (b:Bare)(g:Int):Bool:=bif zbW b then hasB g (ln b.Guests) else false
theorem zde {b:Bare}{g:Int}:(zb1 b g=true)↔zbW b=true/\hasB g (ln b.Guests)=true:=by
 unfold zb1;cases zbW b<;>simp
@[simp] abbrev zh4 (b:Bare)(g:Int):Bool:=pc (SmB b)
@[simp] abbrev zi9 (b:Bare)(g:Int):Bool:=zb1 b g
def zDW:Run:=rF2 (dT .bare) dI fun b c=>(zh4 b c,[aB (zi9 b c)])
def zL8 (N:Nat)(a0:Bare)(a1:Int):OA:=
 (oN (znb a0) (cond (zep a0) (oN (zJ a1 0 (wsub .i64 (ln a0.Guests) 1)) (some [(aB (zL a1 0 (wsub .i64 (ln a0.Guests) 1)))])) oF))
theorem zST (a0:Bare)(a1:Int)(hc:zh4 a0 a1=true):∃N,zL8 N a0 a1=some [aB (zi9 a0 a1)]:=by
 have hs:=zF.1 hc;have hl:a0.Guests.length<=1048576:=hs.2.1.1
 refine ⟨0,?_⟩;unfold zL8 oN;refine must rfl (br (fun _=>must rfl ?_) (fun _=>?_))
 all_goals first|rfl|(simp only [*,zi9,zb1,cT,cF]<;>rfl)|simp_all[Ty.cells,zi9,zb1]
theorem zNx:vH 307 zDW:=kF2 zry zl zq zy (zx []) zST
def z2o:zU:=[(308,zvV),(310,zx4),(321,zDU),(307,zDW)]++z2m
theorem zjr:zD z2o:=zh zE7 (zh zHC (zh zNv (zh zNx zry)))
theorem z1g {α:Type}{l:List α}{i:Int}{d:α}(h:hasB i (ln l)=true):up l i (ix l i d)=l:=by
 obtain ⟨k,rfl,hk⟩:=zdj (n:=l.length) h;unfold up;rw[zbe hk,kV];exact uS hk
theorem zrC {b:Bare}{g:Int}(h:hasB g (ln b.Guests)=true):gAt b g=ix b.Guests g zA:=by
 unfold gAt;rw[h];rfl
theorem zYM {b:Bare}{g:Int}(h:hasB g (ln b.Guests)=true):zdV b g (gAt b g)=b:=by
 unfold zdV;rw[zrC h,z1g h]
def chg (b:Bare)(g:Int)(c:Bool)(x:Guest):Bare:=bif (cond (zb1 b g) c false) then zdV b g x else b
def zbK (b:Bare)(g:Int)(c:Bool):Bool:=bif zb1 b g then c else false
def zqr (p:Int)(s:Slot):Bool:=bif hasB p 4 then zc6 s 8 else false
def zxj (x:Guest)(p:Int)(s:Slot):Guest:={ x with Written:=zdK x.Written p s }
def zdq (x:Guest)(p:Int):Guest:={ x with Live:=zdK x.Live p (zbf x.Written p) }
def zjF:GExit:=⟨0,0,false,0⟩
def zpZ (x:Guest)(v:Int):Bool:=bif win v 0 99 then (cond (ieq x.Exit.Kind 2) true (ieq x.Exit.Kind 3)) else false
def zt6 (x:Guest)(v:Int):Guest:=zbY (stopped (cond (ieq x.Exit.Kind 2) { x with A:=v } x) zjF)
def zuo (x:Guest):Bool:=bif ieq x.Exit.Kind 1 then true else ieq x.Exit.Kind 4
def zup (x:Guest):Guest:=bif ieq x.Exit.Kind 1 then stopped x zjF else held (stopped x zjF)
def zlO (x:Guest)(n:Int):Guest:={ x with Pending:=zqR x.Pending n }
def zEq (x:Guest)(c:Ctl):Guest:={ x with Ctl:=c }
theorem z3V {x:Guest}{n:Int}(h:zfy x.Pending n=false):zlO x n=x:=by
 unfold zlO zqR;rw[h];rfl
theorem z03 {x:Guest}(p:Int)(s:Slot)(h:SmG x):SmG (zxj x p s):=⟨h.1,by simpa [zxj] using h.2.1,h.2.2.1,h.2.2.2⟩
theorem zIZ {x:Guest}(p:Int)(h:SmG x):SmG (zdq x p):=⟨h.1,h.2.1,by simpa [zdq] using h.2.2.1,h.2.2.2⟩
theorem z01 {x:Guest}(v:Int)(h:SmG x):SmG (zt6 x v):=by
 unfold zt6;cases ieq x.Exit.Kind 2<;>exact zj5 h
theorem z02 {x:Guest}(h:SmG x):SmG (zup x):=by
 unfold zup;cases ieq x.Exit.Kind 1
 .exact zRB (g:=stopped x zjF) h
 .exact h
theorem zoz {b:Bare}{g:Int}{c:Bool}{x:Guest}(h:SmB b)(hx:SmG x):SmB (chg b g c x):=by
 unfold chg;cases (cond (zb1 b g) c false)
 .exact h
 .exact zl3 h hx
@[simp] abbrev zo3 (b:Bare)(g p:Int)(s:Slot):Bool:=pc (SmB b)
@[simp] abbrev zhv (b:Bare)(g p:Int)(s:Slot):Bare:=chg b g (zqr p s) (zxj (gAt b g) p s)
@[simp] abbrev zi4 (b:Bare)(g p:Int)(s:Slot):Bool:=zbK b g (zqr p s)
def zqf:Run:=rF4 (dT .bare) dI dI (dT .slot) fun b c d e=>(zo3 b c d e,[aT .bare (zhv b c d e),aB (zi4 b c d e)])
def zCM (N:Nat)(a0:Bare)(a1 a2:Int)(a3:Slot):OA:=
 let y0:=(zca a0);let y1:=(ix y0.Guests a1 zA); (oN (zez a0) (oN (zh4 y0 a1) (cond (nB (zi9 y0 a1)) (some [(aT .bare y0),(aB false)]) (oN (zJ a2 0 3) (cond (nB (zL a2 0 3)) (some [(aT .bare y0),(aB false)]) (oN (zqZ a3 8) (cond (nB (zos a3 8)) (some [(aT .bare y0),(aB false)]) (oN (inb a1 (ln y0.Guests)) (oN (znw y1.Written a2 a3) (oN (inb a1 (ln y0.Guests)) (share (up y0.Guests a1 ({ y1 with Written:=(zkN y1.Written a2 a3) }:Guest)) (fun x5=>(some [(aT .bare ({ y0 with Guests:=x5 }:Bare)),(aB true)])))))))))))))
theorem zNM (a0:Bare)(a1 a2:Int)(a3:Slot)(hc:zo3 a0 a1 a2 a3=true):∃N,zCM N a0 a1 a2 a3=some [aT .bare (zhv a0 a1 a2 a3),aB (zi4 a0 a1 a2 a3)]:=by
 have hs:=zF.1 hc;have hx:=ziQ a1 hs;have hz:zb1 a0 a1=true->hasB a1 (ln a0.Guests)=true:=fun h=>(zde.1 h).2;have hz2:zb1 a0 a1=true->gAt a0 a1=ix a0.Guests a1 zA:=fun h=>zrC (zde.1 h).2;have hw:=hx.2.1
 refine ⟨0,?_⟩;unfold zCM oN nB
 conv=>zeta
 refine mu (mu (brN (fun _=>?_) (fun _=>must rfl (brN (fun _=>?_) (fun _=>must rfl (brN (fun _=>?_) (fun _=>mu (mu (mu (shr ?_))))))))))
 all_goals first|rfl|(simp only [*,zhv,zi4,chg,zbK,zqr,zxj,zdV,cT,cF]<;>rfl)|simp_all[Ty.cells,zhv,zi4,chg,zbK,zqr,zxj,zdV]
theorem zs7:vH 258 zqf:=kF4 zjr zl zq zy (zx []) zNM
@[simp] abbrev zql (b:Bare)(g p:Int):Bool:=pc (SmB b)
@[simp] abbrev zej (b:Bare)(g p:Int):Bare:=chg b g (hasB p 4) (zdq (gAt b g) p)
@[simp] abbrev zgN (b:Bare)(g p:Int):Bool:=zbK b g (hasB p 4)
def zm2:Run:=rF3 (dT .bare) dI dI fun b c d=>(zql b c d,[aT .bare (zej b c d),aB (zgN b c d)])
def zxw (N:Nat)(a0:Bare)(a1 a2:Int):OA:=
 let y1:=(zca a0);let y2:=(inb a1 (ln y1.Guests));let y0:=(ix y1.Guests a1 zA); (oN (zez a0) (oN (zh4 y1 a1) (cond (nB (zi9 y1 a1)) (some [(aT .bare y1),(aB false)]) (oN (zJ a2 0 3) (cond (nB (zL a2 0 3)) (some [(aT .bare y1),(aB false)]) (oN y2 (oN y2 (oN (znu y0.Written a2) (oN (znw y0.Live a2 (zis y0.Written a2)) (oN y2 (share (up y1.Guests a1 ({ y0 with Live:=(zkN y0.Live a2 (zis y0.Written a2)) }:Guest)) (fun x4=>(some [(aT .bare ({ y1 with Guests:=x4 }:Bare)),(aB true)])))))))))))))
theorem zH9 (a0:Bare)(a1 a2:Int)(hc:zql a0 a1 a2=true):∃N,zxw N a0 a1 a2=some [aT .bare (zej a0 a1 a2),aB (zgN a0 a1 a2)]:=by
 have hs:=zF.1 hc;have hx:=ziQ a1 hs;have hz:zb1 a0 a1=true->hasB a1 (ln a0.Guests)=true:=fun h=>(zde.1 h).2;have hz2:zb1 a0 a1=true->gAt a0 a1=ix a0.Guests a1 zA:=fun h=>zrC (zde.1 h).2;have hw:=hx.2.2.1
 refine ⟨0,?_⟩;unfold zxw oN nB
 conv=>zeta
 refine mu (mu (brN (fun _=>?_) (fun _=>must rfl (brN (fun _=>?_) (fun _=>mu (mu (must rfl (mu (mu (shr ?_))))))))))
 all_goals first|rfl|(simp only [*,zej,zgN,chg,zbK,zdq,zdV,cT,cF]<;>rfl)|simp_all[Ty.cells,zej,zgN,chg,zbK,zdq,zdV]
theorem zqx:vH 261 zm2:=kF3 zjr zl zq zy (zx []) zH9
@[simp] abbrev zkx (b:Bare)(g v:Int):Bool:=pc (SmB b)
@[simp] abbrev zfb (b:Bare)(g v:Int):Bare:=chg b g (zpZ (gAt b g) v) (zt6 (gAt b g) v)
@[simp] abbrev zgk (b:Bare)(g v:Int):Bool:=zbK b g (zpZ (gAt b g) v)
def zlT:Run:=rF3 (dT .bare) dI dI fun b c d=>(zkx b c d,[aT .bare (zfb b c d),aB (zgk b c d)])
def zuQ (N:Nat)(a0:Bare)(a1 a2:Int):OA:=
 let y2:=(zca a0);let y4:=(inb a1 (ln y2.Guests));let y1:=(⟨0,0,false,0⟩:GExit);let y0:=(ix y2.Guests a1 zA);let y3:=({ y0 with A:=a2 }:Guest); (oN (zez a0) (oN (zh4 y2 a1) (cond (nB (zi9 y2 a1)) (some [(aT .bare y2),(aB false)]) (oN (zJ a2 0 99) (cond (nB (zL a2 0 99)) (some [(aT .bare y2),(aB false)]) (oN y4 (cond (ieq y0.Exit.Kind 2) (oN (zdL y3 y1) (oN (zdI (zdi y3 y1)) (oN y4 (share (up y2.Guests a1 (zfJ (zdi y3 y1))) (fun x4=>(some [(aT .bare ({ y2 with Guests:=x4 }:Bare)),(aB true)])))))) (cond (ieq y0.Exit.Kind 3) (oN (zdL y0 y1) (oN (zdI (zdi y0 y1)) (oN y4 (share (up y2.Guests a1 (zfJ (zdi y0 y1))) (fun x4=>(some [(aT .bare ({ y2 with Guests:=x4 }:Bare)),(aB true)])))))) (some [(aT .bare y2),(aB false)])))))))))
theorem zFm (a0:Bare)(a1 a2:Int)(hc:zkx a0 a1 a2=true):∃N,zuQ N a0 a1 a2=some [aT .bare (zfb a0 a1 a2),aB (zgk a0 a1 a2)]:=by
 have hs:=zF.1 hc;have hx:=ziQ a1 hs;have hz:zb1 a0 a1=true->hasB a1 (ln a0.Guests)=true:=fun h=>(zde.1 h).2;have hz2:zb1 a0 a1=true->gAt a0 a1=ix a0.Guests a1 zA:=fun h=>zrC (zde.1 h).2;have ho:_/\_/\_/\_:=hx
 refine ⟨0,?_⟩;unfold zuQ oN nB
 conv=>zeta
 refine mu (mu (brN (fun _=>?_) (fun _=>must rfl (brN (fun _=>?_) (fun _=>mu (br (fun _=>mu (mu (mu (shr ?_)))) (fun _=>br (fun _=>mu (mu (mu (shr ?_)))) (fun _=>?_))))))))
 all_goals first|rfl|(simp only [*,zfb,zgk,chg,zbK,zpZ,zt6,zjF,zdV,SmG,stopped,cT,cF]<;>rfl)|simp_all[Ty.cells,zfb,zgk,chg,zbK,zpZ,zt6,zjF,zdV,SmG,stopped]
theorem zpD:vH 263 zlT:=kF3 zjr zl zq zy (zx []) zFm
@[simp] abbrev zkz (b:Bare)(g:Int):Bool:=pc (SmB b)
@[simp] abbrev zfd (b:Bare)(g:Int):Bare:=chg b g (zuo (gAt b g)) (zup (gAt b g))
@[simp] abbrev zgm (b:Bare)(g:Int):Bool:=zbK b g (zuo (gAt b g))
def zlV:Run:=rF2 (dT .bare) dI fun b c=>(zkz b c,[aT .bare (zfd b c),aB (zgm b c)])
def zuS (N:Nat)(a0:Bare)(a1:Int):OA:=
 let y2:=(zca a0);let y3:=(inb a1 (ln y2.Guests));let y1:=(⟨0,0,false,0⟩:GExit);let y0:=(ix y2.Guests a1 zA); (oN (zez a0) (oN (zh4 y2 a1) (cond (nB (zi9 y2 a1)) (some [(aT .bare y2),(aB false)]) (oN y3 (cond (ieq y0.Exit.Kind 1) (oN (zdL y0 y1) (oN y3 (share (up y2.Guests a1 (zdi y0 y1)) (fun x3=>(some [(aT .bare ({ y2 with Guests:=x3 }:Bare)),(aB true)]))))) (cond (ieq y0.Exit.Kind 4) (oN (zdL y0 y1) (oN (zlX (zdi y0 y1)) (oN y3 (share (up y2.Guests a1 (zv1 (zdi y0 y1))) (fun x3=>(some [(aT .bare ({ y2 with Guests:=x3 }:Bare)),(aB true)])))))) (some [(aT .bare y2),(aB false)])))))))
theorem zFo (a0:Bare)(a1:Int)(hc:zkz a0 a1=true):∃N,zuS N a0 a1=some [aT .bare (zfd a0 a1),aB (zgm a0 a1)]:=by
 have hs:=zF.1 hc;have hx:=ziQ a1 hs;have hz:zb1 a0 a1=true->hasB a1 (ln a0.Guests)=true:=fun h=>(zde.1 h).2;have hz2:zb1 a0 a1=true->gAt a0 a1=ix a0.Guests a1 zA:=fun h=>zrC (zde.1 h).2;have ho:_/\_/\_/\_:=hx
 refine ⟨0,?_⟩;unfold zuS oN nB
 conv=>zeta
 refine mu (mu (brN (fun _=>?_) (fun _=>mu (br (fun _=>mu (mu (shr ?_))) (fun _=>br (fun _=>mu (mu (mu (shr ?_)))) (fun _=>?_))))))
 all_goals first|rfl|(simp only [*,zfd,zgm,chg,zbK,zuo,zup,zjF,zdV,SmG,stopped,cT,cF]<;>rfl)|simp_all[Ty.cells,zfd,zgm,chg,zbK,zuo,zup,zjF,zdV,SmG,stopped]
theorem zpF:vH 264 zlV:=kF2 zjr zl zq zy (zx []) zFo
theorem z4X {b:Bare}{g:Int}{c:Bool}{x:Guest}(h:zb1 b g=false):chg b g c x=b:=by
 unfold chg;rw[h];rfl
theorem z3d {b:Bare}{g n:Int}(h:zb1 b g=true):chg b g (zfy (gAt b g).Pending n) (zlO (gAt b g) n)=zdV b g (zlO (gAt b g) n):=by
 unfold chg;rw[h];cases hp:zfy (gAt b g).Pending n
 .rw [z3V hp,zYM (zde.1 h).2];rfl
 .rfl
@[simp] abbrev zky (b:Bare)(g n:Int):Bool:=pc (SmB b)
@[simp] abbrev zfc (b:Bare)(g n:Int):Bare:=chg b g (zfy (gAt b g).Pending n) (zlO (gAt b g) n)
@[simp] abbrev zgl (b:Bare)(g n:Int):Bool:=zbK b g (zfy (gAt b g).Pending n)
def zlU:Run:=rF3 (dT .bare) dI dI fun b c d=>(zky b c d,[aT .bare (zfc b c d),aB (zgl b c d)])
def zuR (N:Nat)(a0:Bare)(a1 a2:Int):OA:=
 let y1:=(zca a0);let y0:=(ix y1.Guests a1 zA); (oN (zez a0) (oN (zh4 y1 a1) (cond (nB (zi9 y1 a1)) (some [(aT .bare y1),(aB false)]) (oN (inb a1 (ln y1.Guests)) (oN (zi5 y0.Pending a2) (oN (inb a1 (ln y1.Guests)) (share (up y1.Guests a1 ({ y0 with Pending:=(zf7 y0.Pending a2) }:Guest)) (fun x4=>(some [(aT .bare ({ y1 with Guests:=x4 }:Bare)),(aB (zll y0.Pending a2))])))))))))
theorem zFn (a0:Bare)(a1 a2:Int)(hc:zky a0 a1 a2=true):∃N,zuR N a0 a1 a2=some [aT .bare (zfc a0 a1 a2),aB (zgl a0 a1 a2)]:=by
 have hs:=zF.1 hc;have hz:zb1 a0 a1=true->hasB a1 (ln a0.Guests)=true:=fun h=>(zde.1 h).2;have hz2:zb1 a0 a1=true->gAt a0 a1=ix a0.Guests a1 zA:=fun h=>zrC (zde.1 h).2;have hj:=@z3d a0 a1 a2;have hj0:=@z4X a0 a1 (zfy (gAt a0 a1).Pending a2) (zlO (gAt a0 a1) a2)
 refine ⟨0,?_⟩;unfold zuR oN nB
 conv=>zeta
 refine mu (mu (brN (fun _=>?_) (fun _=>mu (must rfl (mu (shr ?_))))))
 all_goals first|rfl|(simp only [*,zfc,zgl,zbK,zdV,zlO,cT,cF]<;>rfl)|simp_all[Ty.cells,zfc,zgl,zbK,zdV,zlO]
theorem zpE:vH 265 zlU:=kF3 zjr zl zq zy (zx []) zFn
@[simp] abbrev zo2 (b:Bare)(g:Int)(c:Ctl):Bool:=pc (SmB b)
@[simp] abbrev zhu (b:Bare)(g:Int)(c:Ctl):Bare:=chg b g (zgF c) (zEq (gAt b g) c)
@[simp] abbrev zi3 (b:Bare)(g:Int)(c:Ctl):Bool:=zbK b g (zgF c)
def zqe:Run:=rF3 (dT .bare) dI dC fun b c d=>(zo2 b c d,[aT .bare (zhu b c d),aB (zi3 b c d)])
def zCL (N:Nat)(a0:Bare)(a1:Int)(a2:Ctl):OA:=
 let y0:=(zca a0); (oN (zez a0) (oN (zh4 y0 a1) (cond (nB (zi9 y0 a1)) (some [(aT .bare y0),(aB false)]) (oN (zpP a2) (cond (nB (zoo a2)) (some [(aT .bare y0),(aB false)]) (oN (inb a1 (ln y0.Guests)) (share (up y0.Guests a1 ({ (ix y0.Guests a1 zA) with Ctl:=a2 }:Guest)) (fun x4=>(some [(aT .bare ({ y0 with Guests:=x4 }:Bare)),(aB true)])))))))))
theorem zNL (a0:Bare)(a1:Int)(a2:Ctl)(hc:zo2 a0 a1 a2=true):∃N,zCL N a0 a1 a2=some [aT .bare (zhu a0 a1 a2),aB (zi3 a0 a1 a2)]:=by
 have hs:=zF.1 hc;have hz:zb1 a0 a1=true->hasB a1 (ln a0.Guests)=true:=fun h=>(zde.1 h).2;have hz2:zb1 a0 a1=true->gAt a0 a1=ix a0.Guests a1 zA:=fun h=>zrC (zde.1 h).2
 refine ⟨0,?_⟩;unfold zCL oN nB
 conv=>zeta
 refine mu (mu (brN (fun _=>?_) (fun _=>must rfl (brN (fun _=>?_) (fun _=>mu (shr ?_))))))
 all_goals first|rfl|(simp only [*,zhu,zi3,chg,zbK,zEq,zdV,cT,cF]<;>rfl)|simp_all[Ty.cells,zhu,zi3,chg,zbK,zEq,zdV]
theorem zs6:vH 266 zqe:=kF3 zjr zl zq zy (zx []) zNL
def z2z (p c v:Int):Bool:=bif hasB p 8 then (cond (hasB c 4) (win v 0 99) false) else false
def zvt (b:Bare)(p c v:Int):Bool:=bif zbW b then z2z p c v else false
def zOL (b:Bare)(p c v:Int):Bare:=bif zvt b p c v then { b with Memory:=zbw b.Memory p c v } else b
def zkT (b:Bare):Bare:=bif zbW b then { b with Pending:=ziW b.Pending } else b
def zpY (b:Bare):Int:=bif zbW b then zrT b.Pending else -1
def zka (b:Bare):Bool:=bif zbW b then !ilt (zds b.Pending) 0 else false
def zmE (b:Bare)(g a n:Int):Bool:=bif zb1 b g then (cond (win a 0 15) (zeT (gAt b g).Live (zbb a) n) false) else false
def zBl (b:Bare)(g a n:Int):Int:=zcm (gAt b g).Live (zbb a) n
def zwp (b:Bare)(g a v:Int):Bool:=bif zmE b g a 2 then win v 0 99 else false
def zVj (b:Bare)(g a v:Int):Bare:=bif zwp b g a v then { b with Memory:=zbw b.Memory (zBl b g a 2) (zcV a) v } else b
def zOP (b:Bare)(g a:Int):Int:=bif zmE b g a 1 then cellAt b.Memory (zBl b g a 1) (zcV a) else 0
@[simp] abbrev zo1 (b:Bare):Bool:=pc (SmB b)
@[simp] abbrev zht (b:Bare):Bare:=zkT b
@[simp] abbrev zi1 (b:Bare):Int:=zpY b
@[simp] abbrev zi2 (b:Bare):Bool:=zka b
def zqd:Run:=rF1 (dT .bare) fun b=>(zo1 b,[aT .bare (zht b),aI (zi1 b),aB (zi2 b)])
def zCK (N:Nat)(a0:Bare):OA:=
 let y0:=(zca a0); (oN (zez a0) (oN (znb y0) (cond (nB (zep y0)) (some [(aT .bare y0),(aI (-1)),(aB false)]) (oN (zpj y0.Pending) (some [(aT .bare ({ y0 with Pending:=(zi6 y0.Pending) }:Bare)),(aI (zi7 y0.Pending)),(aB (zln y0.Pending))])))))
theorem zNK (a0:Bare)(hc:zo1 a0=true):∃N,zCK N a0=some [aT .bare (zht a0),aI (zi1 a0),aB (zi2 a0)]:=by
 have hs:=zF.1 hc;refine ⟨0,?_⟩;unfold zCK oN nB
 conv=>zeta
 refine mu (must rfl (brN (fun _=>?_) (fun _=>must rfl ?_)))
 all_goals first|rfl|(simp only [*,zht,zi1,zi2,zkT,zpY,zka,ziW,zrT,cT,cF]<;>rfl)|simp_all[Ty.cells,zht,zi1,zi2,zkT,zpY,zka,ziW,zrT]
theorem zs5:vH 270 zqd:=kF1 zjr zl zq zy (zx []) zNK
def z2p:zU:=z2o
theorem zPu:zD z2p:=zjr
def zdH (l:List Guest)(n:Int):List Int:=idxs (fun (x:Guest)=>posts x.Ctl n) l 0
theorem zPX {α:Type}(p:α->Bool):∀(l:List α) (i:Nat),∀k∈idxs p l i,(i:Int)<=k/\k<(i:Int)+l.length
 | [],_,k,hk=>by cases hk
 | x :: l,i,k,hk=>by
  have hr:=zPX p l (i+1);simp only[qV];unfold idxs at hk;cases hp:p x
  .rw [hp]at hk;have:=hr k hk;omega
  .rw [hp]at hk;rcases qG.1 hk with rfl|hk
   .omega
   .have:=hr k hk;omega
@[simp] abbrev zsl (b:Bare)(n:Int):Bool:=pc (SmB b)
@[simp] abbrev zkL (b:Bare)(n:Int):List Int:=zdH b.Guests n
def zvO:Run:=rF2 (dT .bare) dI fun b c=>(zsl b c,[aS .int (zkL b c)])
def zyW (N:Nat)(a0:Bare)(a1:Int):OA:=
 (iter (σ:=(Int×(Int×(Int×((List Int)×(lM×(lG×((List Int)×Unit)))))))) N (fun r3 s4=>let y0:=s4.2.2.2.2.2.1;let y1:=(ix y0 s4.2.1 zA).Ctl; (cond (ilt s4.2.1 (ln y0)) (oN (inb s4.2.1 (ln y0)) (oN (zAW y1 s4.1) (cond (zv3 y1 s4.1) (oN (few (ln (ap s4.2.2.2.1 [s4.2.1]))) (r3 (s4.1,((zG .i64 s4.2.1 1),(s4.2.2.1,((ap s4.2.2.2.1 [s4.2.1]),(s4.2.2.2.2.1,(y0,(s4.2.2.2.2.2.2.1,()))))))))) (r3 (s4.1,((zG .i64 s4.2.1 1),(s4.2.2.1,(s4.2.2.2.1,(s4.2.2.2.2.1,(y0,(s4.2.2.2.2.2.2.1,()))))))))))) (some [(aS .int s4.2.2.2.1)]))) (a1,(0,(a0.Pending,([],(a0.Memory,(a0.Guests,(a0.Outs,()))))))))
def zLF:FuncId->Nat->Option Tmpl:=zx [(313,0,{ n:=28,tm:=[(1,ti),(2,.lp 0 0),(5,.sl 0 []),(6,ti)],lo:=[(0,[.sl 1 [],.sl 2 [],.sl 3 [],ti])],ro:=[(0,.int,true),(1,(.sl .int),false),(2,.guest,false),(3,.int,false)] })]
theorem zKP (a0:Bare)(a1:Int)(hc:zsl a0 a1=true):∃N,zyW N a0 a1=some [aS .int (zkL a0 a1)]:=by
 have hs:=zF.1 hc;have hl:=zcF hs.2.1.1;refine zb9 fun N hNN=>?_;unfold zyW oN
 conv=>zeta
 refine (zX a0.Guests (fun i (t:(List Int))=>(a1,(i:Int),a0.Pending,t,a0.Memory,a0.Guests,a0.Outs,())) _ (fun i (x:Guest) (t:List Int) κ=>bif posts x.Ctl a1 then (cond (few (ln (ap t [(i:Int)]))) (κ (ap t [(i:Int)])) none) else κ t) (fun (t:(List Int))=>(some [(.one (.s .int t))])) (fun i hi t rec=>?_) (fun t rec=>?_) _ ([]) (hNN hl.1)).trans ?_
 .simp only [zbs hi,zV hi,zbe hi,zQ hi hl.1,cT]
 .simp only [zbl,cF]
 exact zrE (fun (x:Guest)=>posts x.Ctl a1) _ a0.Guests 0 [] (by simpa using hl.2)
theorem zE0:vH 313 zvO:=kF2 zPu zl zq zy zLF zKP
def z2q:zU:=[(313,zvO)]++z2p
theorem zPv:zD z2q:=zh zE0 zPu
def zBF (n:Int)(l:List Guest)(k:Int):List Guest:=up l k (zlO (ix l k zA) n)
def zkv (n:Int)(ks:List Int)(l:List Guest):List Guest:=ks.foldl (zBF n) l
theorem zz2 (n:Int)(l:List Guest)(k:Int):(zBF n l k).length=l.length:=zfS _ _ _
theorem zWw {n:Int}{l:List Guest}{k:Int}(hk:hasB k (ln l)=true)(h:zlG l):zlG (zBF n l k):=zBM h (zYT h hk _)
theorem zA2 {n:Int}:∀(ks:List Int) {l:List Guest},(∀k∈ks,hasB k (ln l)=true)->zlG l->zlG (zkv n ks l)/\(zkv n ks l).length=l.length
 | [],_,_,h=>⟨h,rfl⟩
 | k :: ks,l,hk,h=>by
  have h1:=zWw (n:=n) (hk k (by simp)) h
  obtain ⟨g1,g2⟩:=zA2 (n:=n) ks (l:=zBF n l k) (fun j hj=>by rw[ln,zz2];exact hk j (by simp[hj])) h1
  exact ⟨g1,g2.trans (zz2 _ _ _)⟩
theorem zPK {ρ:Type}(n:Int)(K:List Guest->Option ρ):∀(ks:List Int) (i:Nat) (l:List Guest),(∀k∈ks,hasB k (ln l)=true) ->
 goL (fun _ k (t:List Guest) κ=>bif inb k (ln t) then (cond (inb k (ln t)) (κ (up t k (zlO (ix t k zA) n))) none) else none) K ks i l=K (zkv n ks l)
 | [],_,_,_=>rfl
 | k :: ks,i,l,h=>by
  have hk:inb k (ln l)=true:=h k (by simp)
  simp only[goL,hk,cT];exact zPK n K ks (i+1) (zBF n l k) (fun j hj=>by rw[ln,zz2];exact h j (by simp[hj]))
def zBG (b:Bare)(n:Int):Bare:=bif ieq (ln (zdH b.Guests n)) 0 then { b with Pending:=zqR b.Pending n } else { b with Guests:=zkv n (zdH b.Guests n) b.Guests }
def zeu (b:Bare)(n:Int):Bool:=bif zbW b then hasB n 8 else false
def ziq (b:Bare)(n:Int):Bare:=bif zeu b n then zBG b n else b
theorem zIC {b:Bare}{n:Int}:∀k∈zdH b.Guests n,hasB k (ln b.Guests)=true:=fun k hk=>by
 have:=zPX _ _ _ k hk;exact qL (by simp only[ln];omega)
theorem zWc {b:Bare}{n:Int}(h:ieq (ln (zdH b.Guests n)) 0=true):zkv n (zdH b.Guests n) b.Guests=b.Guests:=by
 have h1:((zdH b.Guests n).length:Int)=0:=qE h;have:zdH b.Guests n=[]:=List.length_eq_zero_iff.1 (by omega)
 rw[this];rfl
theorem zWb {b:Bare}{n:Int}:(cond (ieq (ln (zdH b.Guests n)) 0) (some [AV.agg (Ty.cells .bare ⟨b.Memory,zkv n (zdH b.Guests n) b.Guests,b.Outs,zqR b.Pending n⟩),AV.one (.b true)]) (some [AV.agg (Ty.cells .bare ⟨b.Memory,zkv n (zdH b.Guests n) b.Guests,b.Outs,b.Pending⟩),AV.one (.b true)]))=some [AV.agg (Ty.cells .bare (zBG b n)),AV.one (.b true)]:=by
 unfold zBG;cases h:ieq (ln (zdH b.Guests n)) 0
 .rfl
 .simp only [cT,zWc h]
@[simp] abbrev znc (b:Bare)(n:Int):Bool:=pc (SmB b)
@[simp] abbrev zhR (b:Bare)(n:Int):Bare:=ziq b n
@[simp] abbrev zjP (b:Bare)(n:Int):Bool:=zeu b n
def zoh:Run:=rF2 (dT .bare) dI fun b c=>(znc b c,[aT .bare (zhR b c),aB (zjP b c)])
def zyO (N:Nat)(a0:Bare)(a1:Int):OA:=
 let y2:=(zca a0); (oN (zez a0) (oN (znb y2) (cond (nB (zep y2)) (some [(aT .bare y2),(aB false)]) (oN (zJ a1 0 7) (cond (nB (zL a1 0 7)) (some [(aT .bare y2),(aB false)]) (oN (zsl y2 a1) (iter (σ:=(Int×(Int×(Int×(Int×((List Int)×(lM×(lG×((List Int)×(lM×(lG×((List Int)×Unit)))))))))))) N (fun r3 s4=>let y5:=s4.2.2.2.2.2.2.2.1;let y3:=s4.2.2.2.2.1;let y1:=s4.2.2.2.2.2.2.1;let y0:=(ix y3 s4.2.1 0);let y4:=(ix y1 y0 zA); (cond (ilt s4.2.1 (ln y3)) (oN (inb s4.2.1 (ln y3)) (oN (inb s4.2.1 (ln y3)) (oN (inb y0 (ln y1)) (oN (zi5 y4.Pending s4.1) (oN (inb y0 (ln y1)) (r3 (s4.1,((zG .i64 s4.2.1 1),(s4.2.2.1,(s4.2.2.2.1,(y3,(s4.2.2.2.2.2.1,((up y1 y0 ({ y4 with Pending:=(zf7 y4.Pending s4.1) }:Guest)),(y5,(s4.2.2.2.2.2.2.2.2.1,(s4.2.2.2.2.2.2.2.2.2.1,(s4.2.2.2.2.2.2.2.2.2.2.1,()))))))))))))))))) (cond (ieq (ln y3) 0) (oN (zi5 s4.2.2.1 s4.1) (some [(aT .bare (⟨s4.2.2.2.2.2.1,y1,y5,(zf7 s4.2.2.1 s4.1)⟩:Bare)),(aB true)])) (some [(aT .bare (⟨s4.2.2.2.2.2.1,y1,y5,s4.2.2.1⟩:Bare)),(aB true)])))) (a1,(0,(y2.Pending,(0,((zkL y2 a1),(y2.Memory,(y2.Guests,(y2.Outs,([],([],([],()))))))))))))))))))
def zLB:FuncId->Nat->Option Tmpl:=zx [(269,0,{ n:=62,tm:=[(1,ti),(2,.lp 0 0),(4,.lp 1 0),(6,.sl 0 []),(7,ti)],lo:=[(0,[.sl 1 [],.sl 2 [],.sl 3 [],ti]),(1,[.sl 4 [],.sl 5 [],.sl 6 [],ti])],ro:=[(0,.int,true),(1,(.sl .int),true),(2,.guest,true),(3,.int,true),(4,(.sl .int),true),(5,.guest,true),(6,.int,true)] })]
theorem zKG (a0:Bare)(a1:Int)(hc:znc a0 a1=true):∃N,zyO N a0 a1=some [aT .bare (zhR a0 a1),aB (zjP a0 a1)]:=by
 have hs:=zF.1 hc;have hk:(zdH a0.Guests a1).length<=big:=jE (zwO _ _ _) (zcF hs.2.1.1).1;refine zb9 fun N hNN=>?_;unfold zyO zhR zjP ziq zeu oN nB
 conv=>zeta
 refine must (zbh hs) (must rfl (brN (fun h1=>?_) (fun h1=>must rfl (brN (fun h2=>?_) (fun h2=>must (zbh hs) ?_)))))
 .simp only [show zbW a0=false from h1,cF]
 .simp only [show zbW a0=true from h1,show hasB a1 8=false from by first|exact h2|exact (zZe a1).symm.trans h2,cT,cF]
 simp only[show zbW a0=true from h1,show hasB a1 8=true from by first|exact h2|exact (zZe a1).symm.trans h2,cT]
 refine (zX (zkL (zca a0) a1) (fun i (t:lG)=>(a1,(i:Int),(zca a0).Pending,0,(zkL (zca a0) a1),(zca a0).Memory,t,(zca a0).Outs,[],[],[],())) _ (fun _ k (t:List Guest) κ=>bif inb k (ln t) then (cond (inb k (ln t)) (κ (up t k (zlO (ix t k zA) a1))) none) else none) (fun (t:lG)=>(cond (ieq (ln (zkL (zca a0) a1)) 0) (cond (zi5 (zca a0).Pending a1) (some [(.agg (Ty.cells .bare (⟨(zca a0).Memory,t,(zca a0).Outs,(zf7 (zca a0).Pending a1)⟩:Bare))),(.one (.b true))]) none) (some [(.agg (Ty.cells .bare (⟨(zca a0).Memory,t,(zca a0).Outs,(zca a0).Pending⟩:Bare))),(.one (.b true))]))) (fun i hi t rec=>?_) (fun t rec=>?_) _ ((zca a0).Guests) (hNN hk)).trans ?_
 .simp only [zbs hi,zV hi,zbe hi,zQ hi hk,cT];rfl
 .simp only [zbl,cF];rfl
 exact (zPK a1 _ _ 0 _ zIC).trans zWb
theorem zrG:vH 269 zoh:=kF2 zPv zl zq zy zLB zKG
def zW1:zU:=[(258,zqf),(261,zm2),(263,zlT),(264,zlV),(265,zlU),(266,zqe),(270,zqd),(269,zoh)]++z2q
theorem zzg:zD zW1:=zh zs7 (zh zqx (zh zpD (zh zpF (zh zpE (zh zs6 (zh zs5 (zh zrG zPv)))))))
theorem zY5 {n:Int}(h:(ieq n 4||ieq n 8)=true):n=4\/n=8:=by
 rcases jW _ _ ▸ h with h|h
 .exact .inl (qE h)
 .exact .inr (qE h)
theorem zYa {n:Int}(h:(ieq n 8||ieq n 12)=true):n=8\/n=12:=by
 rcases jW _ _ ▸ h with h|h
 .exact .inl (qE h)
 .exact .inr (qE h)
@[simp] abbrev zhU (n:Int):Bool:=ieq n 4||ieq n 8
@[simp] abbrev zf0 (n:Int):List Slot:=List.replicate n.toNat ⟨-1,0⟩
def zok:Run:=rF1 dI fun b=>(zhU b,[aS .slot (zf0 b)])
def zO0 (N:Nat)(a0:Int):OA:=
 (oN (zo4 a0 0 24) (iter (σ:=(Int×(lS×Unit))) N (fun r2 s3=>(cond (igt s3.1 0) (oN zck (oN (few (ln (ap s3.2.1 [zbo]))) (r2 ((wsub .i64 s3.1 1),((ap s3.2.1 [zbo]),()))))) (some [(aS .slot s3.2.1)]))) ((zpO a0 0 24),([],()))))
def zLG:FuncId->Nat->Option Tmpl:=zx [(243,0,{ n:=17,tm:=[(3,.sl 0 []),(4,ti)],lo:=[],ro:=[(0,.slot,true)] })]
theorem zKT (a0:Int)(hc:zhU a0=true):∃N,zO0 N a0=some [aS .slot (zf0 a0)]:=by
 refine ⟨30,?_⟩;have h:a0=4\/a0=8:=zY5 hc;rcases h with rfl|rfl<;>(change _=_;kernel_rfl)
theorem zrI:vH 243 zok:=kF1 zzg zl zq zy zLG zKT
@[simp] abbrev znp (n:Int):Bool:=ieq n 8||ieq n 12
@[simp] abbrev zir (n:Int):List (List Int):=List.replicate n.toNat [0,0,0,0]
def zr8:Run:=rF1 dI fun b=>(znp b,[aS (.sl .int) (zir b)])
def zUM (N:Nat)(a0:Int):OA:=
 (oN (zo4 a0 0 24) (iter (σ:=(Int×(lM×Unit))) N (fun r2 s3=>(cond (igt s3.1 0) (oN (cond (few 4) (ieq 4 4) false) (oN (few (ln (ap s3.2.1 [(rp 4 0)]))) (r2 ((wsub .i64 s3.1 1),((ap s3.2.1 [(rp 4 0)]),()))))) (some [(aS (.sl .int) s3.2.1)]))) ((zpO a0 0 24),([],()))))
def zR0:FuncId->Nat->Option Tmpl:=zx [(185,0,{ n:=17,tm:=[(3,.sl 0 []),(4,ti)],lo:=[],ro:=[(0,(.sl .int),true)] })]
theorem zQr (a0:Int)(hc:znp a0=true):∃N,zUM N a0=some [aS (.sl .int) (zir a0)]:=by
 refine ⟨30,?_⟩;have h:a0=8\/a0=12:=zYa hc;rcases h with rfl|rfl<;>(change _=_;kernel_rfl)
theorem zvc:vH 185 zr8:=kF1 zzg zl zq zy zR0 zQr
def zW2:zU:=[(243,zok),(185,zr8)]++zW1
theorem zMk:zD zW2:=zh zrI (zh zvc zzg)
def zj4:List Slot:=List.replicate 4 ⟨-1,0⟩
def zem (p:List Ins):Guest:=⟨p,0,0,zj4,zj4,⟨0,0,false⟩,0,⟨0,0,false,0⟩,false,[]⟩
@[simp] abbrev zng (p:List Ins):Bool:=pc (p.length<=1048576)
@[simp] abbrev znf (p:List Ins):Guest:=zem p
def zoi:Run:=rF1 (dS .ins) fun b=>(zng b,[aT .guest (znf b)])
def zyR (N:Nat)(a0:lI):OA:=
 (oN (few (ln (ap [] a0))) (oN (zhU 4) (oN (zhU 4) (some [(aT .guest (⟨(ap [] a0),0,0,(zf0 4),(zf0 4),⟨0,0,false⟩,0,⟨0,0,false,0⟩,false,[]⟩:Guest))]))))
theorem zKK (a0:List Ins)(hc:zng a0=true):∃N,zyR N a0=some [aT .guest (znf a0)]:=by
 have hs:=zF.1 hc;refine ⟨0,?_⟩;unfold zyR oN;refine mu (must rfl (must rfl ?_))
 first|rfl|(simp only [*,znf,zem,zj4,cT,cF]<;>rfl)|simp_all[Ty.cells,znf,zem,zj4]
theorem zrH:vH 244 zoi:=kF1 zMk zl zq zy (zx []) zKK
def z5j:zU:=[(244,zoi)]++zW2
theorem zzh:zD z5j:=zh zrH zMk
def zLc:List (List Int):=List.replicate 8 [0,0,0,0]
def z4R (ps:List (List Ins)):Prop:=ps.length<=1048576/\∀p∈ps,p.length<=1048576
theorem zMJ {α β ρ:Type}(m:Nat)(f:α->β)(K:List β->Option ρ):∀(l:List α) (i:Nat) (acc:List β),acc.length+l.length<=2147483648 ->
 goL (fun (i:Nat) x acc k=>bif ilt (i:Int) (m:Int) then (cond (few (ln (ap acc [f x]))) (k (ap acc [f x])) none) else K acc) K l i acc=K (acc++(l.take (m-i)).map f)
 | [],i,acc,_=>by simp[goL]
 | x :: l,i,acc,hn=>by
  simp only[qV]at hn;have hf:few (ln (ap acc [f x]))=true:=zgs (by simp[ap];omega)
  by_cases h:i<m
  .have hi:ilt (i:Int) (m:Int)=true:=qL (by omega)
   simp only[goL,hi,hf,cT];rw[zMJ m f K l (i+1) (ap acc [f x]) (by simp[ap];omega)]
   rw[show m-i=m-(i+1)+1 by omega]
   simp[ap]
  .have hi:ilt (i:Int) (m:Int)=false:=qQ (by omega)
   simp only[goL,hi,cF];rw[show m-i=0 by omega]
   simp
@[simp] abbrev zAO (a:GAct):Bool:=true
@[simp] abbrev zvY (a:GAct):Bool:=win a.Kind 1 17
def zDL:Run:=rF1 (dT .act) fun b=>(zAO b,[aB (zvY b)])
def zLW (N:Nat)(a0:GAct):OA:=
 (oN (zJ a0.Kind 1 17) (some [(aB (zL a0.Kind 1 17))]))
theorem zSH (a0:GAct)(hc:zAO a0=true):∃N,zLW N a0=some [aB (zvY a0)]:=by
 refine ⟨0,?_⟩;unfold zLW oN;refine must rfl ?_
 first|rfl|(simp only [*,zvY,cT,cF]<;>rfl)|simp_all[Ty.cells,zvY]
theorem zNm:vH 187 zDL:=kF1 zzh zl zq zy (zx []) zSH
@[simp] abbrev zuy (k:Int):Bool:=true
@[simp] abbrev zpQ (k:Int):Bool:=win k 13 17
def zxY:Run:=rF1 dI fun b=>(zuy b,[aB (zpQ b)])
def zCW (N:Nat)(a0:Int):OA:=
 (oN (zJ a0 13 17) (some [(aB (zL a0 13 17))]))
theorem zNW (a0:Int)(hc:zuy a0=true):∃N,zCW N a0=some [aB (zpQ a0)]:=by
 refine ⟨0,?_⟩;unfold zCW oN;refine must rfl ?_
 first|rfl|(simp only [*,zpQ,cT,cF]<;>rfl)|simp_all[Ty.cells,zpQ]
theorem zHw:vH 188 zxY:=kF1 zzh zl zq zy (zx []) zNW
@[simp] abbrev zAP (a:GAct):Bool:=true
@[simp] abbrev zon (a:GAct):Ctl:=⟨a.X,a.Y,ieq a.Z 1⟩
def zDM:Run:=rF1 (dT .act) fun b=>(zAP b,[.agg (zzf (zon b))])
def zLX (N:Nat)(a0:GAct):OA:=
 (some [(.agg [(.i .i64 a0.X),(.i .i64 a0.Y),(.b (ieq a0.Z 1))])])
theorem zSI (a0:GAct)(hc:zAP a0=true):∃N,zLX N a0=some [.agg (zzf (zon a0))]:=by
 refine ⟨0,?_⟩;unfold zLX
 first|rfl|(simp only [*,zon,cT,cF]<;>rfl)|simp_all[Ty.cells,zon]
theorem zNn:vH 197 zDM:=kF1 zzh zl zq zy (zx []) zSI
def zPr:zU:=[(258,zqf),(261,zm2),(263,zlT),(264,zlV),(265,zlU),(266,zqe),(270,zqd),(269,zoh),(185,zr8)]++z2l
theorem zzj:zD zPr:=zh zs7 (zh zqx (zh zpD (zh zpF (zh zpE (zh zs6 (zh zs5 (zh zrG (zh zvc zZ4))))))))
def zcG (x:Mon):Bare:=⟨zLc,x.Guests,x.Outs,x.Pending⟩
def zsP (x:Mon)(b:Bare):Mon:={ x with Guests:=b.Guests,Pending:=b.Pending }
def zcQ (h:Host)(m:Int)(b:Bare):Host:={ h with Mons:=up h.Mons m (zsP (ix h.Mons m mZ) b) }
@[simp] abbrev zee (x:Mon):Bool:=pc (ze4 x)
@[simp] abbrev zbz (x:Mon):Bare:=zcG x
def zye:Run:=rF1 (dT .mon) fun b=>(zee b,[aT .bare (zbz b)])
def zDb (N:Nat)(a0:Mon):OA:=
 (oN (znp 8) (oN (ze2 a0.Guests) (oN (few (ln (ap [] a0.Outs))) (some [(aT .bare (⟨(zir 8),(zfm a0.Guests),(ap [] a0.Outs),a0.Pending⟩:Bare))]))))
theorem zOk (a0:Mon)(hc:zee a0=true):∃N,zDb N a0=some [aT .bare (zbz a0)]:=by
 have hs:=zF.1 hc;refine ⟨0,?_⟩;unfold zDb oN;exact must rfl (must (zbh ((zsS _).2 hs.2.2.2.1)) (must (zma hs.2.2.2.2.1) rfl))
theorem zHU:vH 259 zye:=kF1 zzj zl zb6 zhZ (zx []) zOk
@[simp] abbrev zed (h:Host)(m:Int)(b:Bare):Bool:=pc (hasB m (ln h.Mons)=true/\zlG b.Guests)
@[simp] abbrev zgb (h:Host)(m:Int)(b:Bare):Host:=zcQ h m b
theorem z5K {l:List Mon}{m:Int}(hm:hasB m (ln l)=true)(b:Bare):inb m (ln (up l m { ix l m mZ with Guests:=b.Guests }))=true /\
 up (up l m { ix l m mZ with Guests:=b.Guests }) m { ix (up l m { ix l m mZ with Guests:=b.Guests }) m mZ with Pending:=b.Pending }=up l m (zsP (ix l m mZ) b):=by
 obtain ⟨k,rfl,hk⟩:=zdj (n:=l.length) hm;refine ⟨zu (by rw[ln,zfS];exact hm),?_⟩
 rw[zt2,zdv hk];rfl
def zqk:List AV->Option (Bool×List AV)
 | [.agg [.s (.sl .int) b,.s .mon c,.s .entry d,.s .entry e],.one (.i .i64 f),.agg [.s (.sl .int) g,.s .guest h,.s .int j,.i .i64 k]]=>some ((zed (⟨b,c,d,e⟩:Host) f (⟨g,h,j,k⟩:Bare)),[aH (zgb (⟨b,c,d,e⟩:Host) f (⟨g,h,j,k⟩:Bare))])
 | _=>none
def zt5 (N:Nat)(a0:Host)(a1:Int)(a2:Bare):OA:=
 (oN (ze2 a2.Guests) (oN (inb a1 (ln a0.Mons)) (share (up a0.Mons a1 ({ (ix a0.Mons a1 zf) with Guests:=(zfm a2.Guests) }:Mon)) (fun x4=>(oN (inb a1 (ln x4)) (share (up x4 a1 ({ (ix x4 a1 zf) with Pending:=a2.Pending }:Mon)) (fun x5=>(some [(aH ({ a0 with Mons:=x5 }:Host))]))))))))
theorem zQ5 (N:Nat)(a0:Host)(a1:Int)(a2:Bare):zVm (cQ zPr zn6 zWa z1e) (zx []) N 12 260 [true,true,true,true,false,false,false,false,false] [aH a0,aI a1,aT .bare a2]=zt5 N a0 a1 a2:=by kernel_rfl
theorem zOj (a0:Host)(a1:Int)(a2:Bare)(hb:zbQ big [aH a0,aI a1,aT .bare a2])(hc:zed a0 a1 a2=true):∃N,zt5 N a0 a1 a2=some [aH (zgb a0 a1 a2)]:=by
 obtain ⟨hm,hg⟩:=zF.1 hc;obtain ⟨h1,h2⟩:=z5K hm a2;refine ⟨0,?_⟩;unfold zt5 oN;refine must (zbh ((zsS _).2 hg)) (must (zu hm) (shr (must h1 (shr ?_))));have e:zfm a2.Guests=a2.Guests:=rfl;rw[e]
 show some [AV.agg (zbc { a0 with Mons:=_ })]=some [AV.agg (zbc { a0 with Mons:=_ })]
 rw[show zf=mZ from rfl,h2]
theorem zHT:zdp Tryz.prog 260 [true,true,true,true,false,false,false,false,false] none zqk:=by
 refine zJD (zcW zzj zl zb6 zhZ) (zdN (by kernel_rfl)) (by kernel_rfl) ?_
 intro avs rs hl hr h;have hb:=zhE hr;unfold zqk at h;split at h
 .obtain ⟨hc,rfl⟩:=zdJ h;obtain ⟨N,hN⟩:=zOj _ _ _ (by exact hb) hc
  exact ⟨_,N,12,(zQ5 N _ _ _ ).trans hN⟩
 .cases h
def zW8:zU:=[(259,zye)]++zPr
theorem zh0:zD zW8:=zh zHU zzj
def z6o:ze3:=[(260,([true,true,true,true,false,false,false,false,false],none,zqk))]++z1e
theorem zcP:zdY z6o:=zl5 zhZ (by
 intro x hx;simp only[qG,qY,or_false]at hx;rcases hx with rfl
 .exact zHT)
def z2G (h:Host)(m:Int)(cB:Bool)(B:Bare)(o0 o1:Host->Ans):OA:=
 bif zbD h then (cond (zeS h m) (cond (cond (zeR h m) false true) (some (o0 h)) (cond (inb m (ln h.Mons)) (cond (zee (ix h.Mons m mZ)) (cond cB (cond (zed h m B) (some (o1 (zcQ h m B))) none) none) none) none)) none) else none
theorem zcj {h:Host}{m:Int}:(zcl h m=true)↔zbB h=true/\hasB m (ln h.Mons)=true:=by
 unfold zcl;cases zbB h<;>simp
theorem zl7 {h:Host}{m:Int}{cB:Bool}{B:Bare}{o0 o1:Host->Ans}(hs:SmH h)(hc:zcl h m=true->cB=true)(hB:zcl h m=true->SmB B):z2G h m cB B o0 o1=some (cond (zcl h m) (o1 (zcQ h m B)) (o0 h)):=by
 unfold z2G;refine must (zbh ((zN h).2 hs)) (must rfl ?_);rw[show zeR h m=zcl h m from rfl]
 cases h0:zcl h m
 .rfl
 .have h2:=(zcj.1 h0).2;exact zdB rfl (must (zu h2) (must (zbh (hs.2.1.2 _ (zbq h2 _))) (must (hc h0) (must (zbh ⟨h2,(hB h0).2.1⟩) rfl))))
structure SameB (b c:Bare):Prop where
 g:b.Guests=c.Guests
 p:b.Pending=c.Pending
 o:zbW b=zbW c
theorem SameB.at {b c:Bare}(h:SameB b c)(g:Int):gAt b g=gAt c g:=by unfold gAt;rw[h.g]
theorem SameB.has {b c:Bare}(h:SameB b c)(g:Int):zb1 b g=zb1 c g:=by unfold zb1;rw[h.g,h.o]
theorem back_eq {h:Host}{m:Int}{b c:Bare}(hg:b.Guests=c.Guests)(hp:b.Pending=c.Pending):zcQ h m b=zcQ h m c:=by
 unfold zcQ zsP;rw[hg,hp]
theorem znO {b c:Bare}(hS:SameB b c)(h:Host)(m g:Int)(k:Bool)(x:Guest):zcQ h m (chg b g k x)=zcQ h m (chg c g k x):=by
 unfold chg;rw[hS.has];cases (cond (zb1 c g) k false)
 .exact back_eq hS.g hS.p
 .exact back_eq (by simp only[cT,zdV,hS.g]) hS.p
theorem zke {b c:Bare}(hS:SameB b c)(g:Int)(k:Bool):zbK b g k=zbK c g k:=by
 unfold zbK;rw[hS.has]
theorem zh6 {h:Host}{m:Int}(h0:zcl h m=true)(hv:zbW (zcG (ix h.Mons m mZ))=true):SameB (zcG (ix h.Mons m mZ)) (zB h m):=by
 obtain ⟨h1,h2⟩:=zcj.1 h0;refine ⟨?_,?_,hv.trans (zDd h1 h2).symm⟩<;>unfold zB zcG<;>rw [h2]<;>rfl
theorem z4c:zgG zLc 8=true:=by decide
theorem zmt {h:Host}{m:Int}(h0:zcl h m=true):zbW (zcG (ix h.Mons m mZ))=true:=by
 obtain ⟨h1,h2⟩:=zcj.1 h0;have:=zDd h1 h2;unfold zB at this;rw[h2,cT] at this;unfold zbW at this ⊢;simp only[zcG,z4c] at *
 simp_all
theorem zeq {x:Mon}(h:ze4 x):SmB (zcG x):=⟨show SmM zLc from ⟨by decide,by decide⟩,h.2.2.2.1,h.2.2.2.2.1⟩
def zdS (h:Host)(m:Int)(b:Bare):Host:=bif zcl h m then zcQ h m b else h
def zdE (h:Host)(m:Int)(ok:Bool):Bool:=bif zcl h m then ok else false
@[simp] abbrev ziZ (b:Bare)(g p:Int)(s:Slot):Bare:=chg b g (zqr p s) (zxj (gAt b g) p s)
@[simp] abbrev zlc (b:Bare)(g p:Int)(s:Slot):Bool:=zbK b g (zqr p s)
@[simp] abbrev zgh (b:Bare)(g v:Int):Bare:=chg b g (zpZ (gAt b g) v) (zt6 (gAt b g) v)
@[simp] abbrev zhL (b:Bare)(g v:Int):Bool:=zbK b g (zpZ (gAt b g) v)
@[simp] abbrev zgj (b:Bare)(g:Int):Bare:=chg b g (zuo (gAt b g)) (zup (gAt b g))
@[simp] abbrev zhN (b:Bare)(g:Int):Bool:=zbK b g (zuo (gAt b g))
@[simp] abbrev zgi (b:Bare)(g n:Int):Bare:=chg b g (zfy (gAt b g).Pending n) (zlO (gAt b g) n)
@[simp] abbrev zhM (b:Bare)(g n:Int):Bool:=zbK b g (zfy (gAt b g).Pending n)
@[simp] abbrev ziY (b:Bare)(g:Int)(c:Ctl):Bare:=chg b g (zgF c) (zEq (gAt b g) c)
@[simp] abbrev zlb (b:Bare)(g:Int)(c:Ctl):Bool:=zbK b g (zgF c)
@[simp] abbrev zla (b:Bare):Bare:=zkT b
@[simp] abbrev zoS (b:Bare):Int:=zpY b
@[simp] abbrev zoT (b:Bare):Bool:=zka b
@[simp] abbrev zjE (b:Bare)(n:Int):Bare:=ziq b n
@[simp] abbrev zmT (b:Bare)(n:Int):Bool:=zeu b n
@[simp] abbrev zS3 (h:Host)(m:Int)(g p:Int)(s:Slot):Host:=zdS h m (ziZ (zB h m) g p s)
@[simp] abbrev zS4 (h:Host)(m:Int)(g p:Int)(s:Slot):Bool:=zdE h m (zlc (zB h m) g p s)
@[simp] abbrev zK5 (h:Host)(m:Int)(g v:Int):Host:=zdS h m (zgh (zB h m) g v)
@[simp] abbrev zK6 (h:Host)(m:Int)(g v:Int):Bool:=zdE h m (zhL (zB h m) g v)
@[simp] abbrev zK9 (h:Host)(m:Int)(g:Int):Host:=zdS h m (zgj (zB h m) g)
@[simp] abbrev zLa (h:Host)(m:Int)(g:Int):Bool:=zdE h m (zhN (zB h m) g)
@[simp] abbrev zK7 (h:Host)(m:Int)(g n:Int):Host:=zdS h m (zgi (zB h m) g n)
@[simp] abbrev zK8 (h:Host)(m:Int)(g n:Int):Bool:=zdE h m (zhM (zB h m) g n)
@[simp] abbrev zS1 (h:Host)(m:Int)(g:Int)(x:Ctl):Host:=zdS h m (ziY (zB h m) g x)
@[simp] abbrev zS2 (h:Host)(m:Int)(g:Int)(x:Ctl):Bool:=zdE h m (zlb (zB h m) g x)
@[simp] abbrev zQT (h:Host)(m:Int)(n:Int):Host:=zdS h m (zjE (zB h m) n)
@[simp] abbrev zQU (h:Host)(m:Int)(n:Int):Bool:=zdE h m (zmT (zB h m) n)
@[simp] abbrev zSY (h:Host)(m:Int):Host:=zdS h m (zla (zB h m))
@[simp] abbrev zSZ (h:Host)(m:Int):Int:=bif zcl h m then zoS (zB h m) else -1
@[simp] abbrev zS0 (h:Host)(m:Int):Bool:=zdE h m (zoT (zB h m))
@[simp] abbrev zOm (h:Host)(m g p:Int):Bool:=zdE h m (zbK (zB h m) g (hasB p 4))
theorem zYw {b c:Bare}(hS:SameB b c)(n:Int):(ziq b n).Guests=(ziq c n).Guests/\(ziq b n).Pending=(ziq c n).Pending/\zeu b n=zeu c n:=by
 have e:zeu b n=zeu c n:=by unfold zeu;rw[hS.o]
 unfold ziq;rw[e];cases zeu c n
 .exact ⟨hS.g,hS.p,rfl⟩
 .unfold zBG;rw[hS.g];cases ieq (ln (zdH c.Guests n)) 0
  .exact ⟨by simp only[cT,cF],by simp only[cT,cF,hS.p],rfl⟩
  .exact ⟨by simp only[cT,hS.g],by simp only[cT,hS.p],rfl⟩
theorem zZi {b c:Bare}(hS:SameB b c):(zkT b).Guests=(zkT c).Guests/\(zkT b).Pending=(zkT c).Pending/\zpY b=zpY c/\zka b=zka c:=by
 unfold zkT zpY zka;rw[hS.o,hS.p];cases zbW c
 .exact ⟨hS.g,hS.p,rfl,rfl⟩
 .exact ⟨hS.g,rfl,rfl,rfl⟩
theorem zYS {b:Bare}{n:Int}(h:SmB b):SmB (ziq b n):=by
 unfold ziq;cases zeu b n
 .exact h
 .unfold zBG;cases ieq (ln (zdH b.Guests n)) 0
  .exact ⟨h.1,(zA2 _ zIC h.2.1).1,h.2.2⟩
  .exact h
theorem z00 {b:Bare}(h:SmB b):SmB (zkT b):=by
 unfold zkT;cases zbW b
 .exact h
 .exact h
theorem zq8 {H H':Host}{x y:Bool}(h1:H=H')(h2:x=y):some [AV.agg (zbc H),AV.one (.b x)]=some [AV.agg (zbc H'),AV.one (.b y)]:=by rw[h1,h2]
theorem z3g {H H':Host}{n k:Int}{x y:Bool}(h1:H=H')(h2:n=k)(h3:x=y):some [AV.agg (zbc H),AV.one (.i .i64 n),AV.one (.b x)]=some [AV.agg (zbc H'),AV.one (.i .i64 k),AV.one (.b y)]:=by rw[h1,h2,h3]
theorem zUq {b:Bare}(g p:Int)(s:Slot)(hb:SmB b):SmB (ziZ b g p s):=zoz hb (z03 _ _ (ziQ _ hb))
theorem z0V {b c:Bare}(hS:SameB b c)(h:Host)(m:Int)(g p:Int)(s:Slot):zcQ h m (ziZ b g p s)=zcQ h m (ziZ c g p s)/\zlc b g p s=zlc c g p s:=by
 have e:=hS.at g;simp only[ziZ,zlc,e];exact ⟨znO hS _ _ _ _ _,zke hS _ _⟩
@[simp] abbrev zux (h:Host)(m:Int)(g p:Int)(s:Slot):Bool:=pc (zbI h)
@[simp] abbrev zpe (h:Host)(m:Int)(g p:Int)(s:Slot):Host:=zdS h m (ziZ (zB h m) g p s)
@[simp] abbrev zpf (h:Host)(m:Int)(g p:Int)(s:Slot):Bool:=zdE h m (zlc (zB h m) g p s)
def zxX:Run:=rF5 dH dI dI dI (dT .slot) fun b c d e f=>(zux b c d e f,[aH (zpe b c d e f),aB (zpf b c d e f)])
def zCV (N:Nat)(a0:Host)(a1 a2 a3:Int)(a4:Slot):OA:=
 let y1:=(zk a0);let y0:=(ix y1.Mons a1 zf); (oN (zbD a0) (oN (zeS y1 a1) (cond (nB (zeR y1 a1)) (some [(aH y1),(aB false)]) (oN (inb a1 (ln y1.Mons)) (oN (zee y0) (oN (zo3 (zbz y0) a2 a3 a4) (oN (zed y1 a1 (zhv (zbz y0) a2 a3 a4)) (some [(aH (zgb y1 a1 (zhv (zbz y0) a2 a3 a4))),(aB (zi4 (zbz y0) a2 a3 a4))]))))))))
theorem zNV (a0:Host)(a1 a2 a3:Int)(a4:Slot)(hc:zux a0 a1 a2 a3 a4=true):∃N,zCV N a0 a1 a2 a3 a4=some [aH (zpe a0 a1 a2 a3 a4),aB (zpf a0 a1 a2 a3 a4)]:=by
 have hs:=(zN a0).1 (zF.1 hc);refine ⟨0,?_⟩;have key:=zl7 (h:=a0) (m:=a1) (cB:=zo3 (zcG (ix a0.Mons a1 mZ)) a2 a3 a4) (B:=zhv (zcG (ix a0.Mons a1 mZ)) a2 a3 a4) (o0:=fun H=>[.agg (zbc H),.one (.b false)]) (o1:=fun H=>[.agg (zbc H),.one (.b (zi4 (zcG (ix a0.Mons a1 mZ)) a2 a3 a4))]) hs
  (fun h0=>zbh (zeq (hs.2.1.2 _ (zbq (zcj.1 h0).2 _)))) (fun h0=>zUq _ _ _ (zeq (hs.2.1.2 _ (zbq (zcj.1 h0).2 _))))
 refine (show zCV 0 a0 a1 a2 a3 a4=_ from key).trans ?_
 unfold zpe zpf zdS zdE;cases h0:zcl a0 a1
 .rfl
 .obtain ⟨e1,e2⟩:=z0V (zh6 h0 (zmt h0)) a0 a1 a2 a3 a4;simp only[cT];exact zq8 e1 e2
theorem zHv:vH 191 zxX:=kF5 zh0 zl zb6 zcP (zx []) zNV
theorem zIW {b:Bare}(g v:Int)(hb:SmB b):SmB (zgh b g v):=zoz hb (z01 _ (ziQ _ hb))
theorem zTp {b c:Bare}(hS:SameB b c)(h:Host)(m:Int)(g v:Int):zcQ h m (zgh b g v)=zcQ h m (zgh c g v)/\zhL b g v=zhL c g v:=by
 have e:=hS.at g;simp only[zgh,zhL,e];exact ⟨znO hS _ _ _ _ _,zke hS _ _⟩
@[simp] abbrev zop (h:Host)(m:Int)(g v:Int):Bool:=pc (zbI h)
@[simp] abbrev zkE (h:Host)(m:Int)(g v:Int):Host:=zdS h m (zgh (zB h m) g v)
@[simp] abbrev zkF (h:Host)(m:Int)(g v:Int):Bool:=zdE h m (zhL (zB h m) g v)
def zr5:Run:=rF4 dH dI dI dI fun b c d e=>(zop b c d e,[aH (zkE b c d e),aB (zkF b c d e)])
def zuV (N:Nat)(a0:Host)(a1 a2 a3:Int):OA:=
 let y1:=(zk a0);let y0:=(ix y1.Mons a1 zf); (oN (zbD a0) (oN (zeS y1 a1) (cond (nB (zeR y1 a1)) (some [(aH y1),(aB false)]) (oN (inb a1 (ln y1.Mons)) (oN (zee y0) (oN (zkx (zbz y0) a2 a3) (oN (zed y1 a1 (zfb (zbz y0) a2 a3)) (some [(aH (zgb y1 a1 (zfb (zbz y0) a2 a3))),(aB (zgk (zbz y0) a2 a3))]))))))))
theorem zFs (a0:Host)(a1 a2 a3:Int)(hc:zop a0 a1 a2 a3=true):∃N,zuV N a0 a1 a2 a3=some [aH (zkE a0 a1 a2 a3),aB (zkF a0 a1 a2 a3)]:=by
 have hs:=(zN a0).1 (zF.1 hc);refine ⟨0,?_⟩;have key:=zl7 (h:=a0) (m:=a1) (cB:=zkx (zcG (ix a0.Mons a1 mZ)) a2 a3) (B:=zfb (zcG (ix a0.Mons a1 mZ)) a2 a3) (o0:=fun H=>[.agg (zbc H),.one (.b false)]) (o1:=fun H=>[.agg (zbc H),.one (.b (zgk (zcG (ix a0.Mons a1 mZ)) a2 a3))]) hs
  (fun h0=>zbh (zeq (hs.2.1.2 _ (zbq (zcj.1 h0).2 _)))) (fun h0=>zIW _ _ (zeq (hs.2.1.2 _ (zbq (zcj.1 h0).2 _))))
 refine (show zuV 0 a0 a1 a2 a3=_ from key).trans ?_
 unfold zkE zkF zdS zdE;cases h0:zcl a0 a1
 .rfl
 .obtain ⟨e1,e2⟩:=zTp (zh6 h0 (zmt h0)) a0 a1 a2 a3;simp only[cT];exact zq8 e1 e2
theorem zzB:vH 193 zr5:=kF4 zh0 zl zb6 zcP (zx []) zFs
theorem zIY {b:Bare}(g:Int)(hb:SmB b):SmB (zgj b g):=zoz hb (z02 (ziQ _ hb))
theorem zTr {b c:Bare}(hS:SameB b c)(h:Host)(m:Int)(g:Int):zcQ h m (zgj b g)=zcQ h m (zgj c g)/\zhN b g=zhN c g:=by
 have e:=hS.at g;simp only[zgj,zhN,e];exact ⟨znO hS _ _ _ _ _,zke hS _ _⟩
@[simp] abbrev zor (h:Host)(m:Int)(g:Int):Bool:=pc (zbI h)
@[simp] abbrev zkI (h:Host)(m:Int)(g:Int):Host:=zdS h m (zgj (zB h m) g)
@[simp] abbrev zkJ (h:Host)(m:Int)(g:Int):Bool:=zdE h m (zhN (zB h m) g)
def zr7:Run:=rF3 dH dI dI fun b c d=>(zor b c d,[aH (zkI b c d),aB (zkJ b c d)])
def zuX (N:Nat)(a0:Host)(a1 a2:Int):OA:=
 let y1:=(zk a0);let y0:=(ix y1.Mons a1 zf); (oN (zbD a0) (oN (zeS y1 a1) (cond (nB (zeR y1 a1)) (some [(aH y1),(aB false)]) (oN (inb a1 (ln y1.Mons)) (oN (zee y0) (oN (zkz (zbz y0) a2) (oN (zed y1 a1 (zfd (zbz y0) a2)) (some [(aH (zgb y1 a1 (zfd (zbz y0) a2))),(aB (zgm (zbz y0) a2))]))))))))
theorem zFu (a0:Host)(a1 a2:Int)(hc:zor a0 a1 a2=true):∃N,zuX N a0 a1 a2=some [aH (zkI a0 a1 a2),aB (zkJ a0 a1 a2)]:=by
 have hs:=(zN a0).1 (zF.1 hc);refine ⟨0,?_⟩;have key:=zl7 (h:=a0) (m:=a1) (cB:=zkz (zcG (ix a0.Mons a1 mZ)) a2) (B:=zfd (zcG (ix a0.Mons a1 mZ)) a2) (o0:=fun H=>[.agg (zbc H),.one (.b false)]) (o1:=fun H=>[.agg (zbc H),.one (.b (zgm (zcG (ix a0.Mons a1 mZ)) a2))]) hs
  (fun h0=>zbh (zeq (hs.2.1.2 _ (zbq (zcj.1 h0).2 _)))) (fun h0=>zIY _ (zeq (hs.2.1.2 _ (zbq (zcj.1 h0).2 _))))
 refine (show zuX 0 a0 a1 a2=_ from key).trans ?_
 unfold zkI zkJ zdS zdE;cases h0:zcl a0 a1
 .rfl
 .obtain ⟨e1,e2⟩:=zTr (zh6 h0 (zmt h0)) a0 a1 a2;simp only[cT];exact zq8 e1 e2
theorem zzD:vH 194 zr7:=kF3 zh0 zl zb6 zcP (zx []) zFu
theorem zIX {b:Bare}(g n:Int)(hb:SmB b):SmB (zgi b g n):=zoz hb (ziQ (b:=b) _ hb)
theorem zTq {b c:Bare}(hS:SameB b c)(h:Host)(m:Int)(g n:Int):zcQ h m (zgi b g n)=zcQ h m (zgi c g n)/\zhM b g n=zhM c g n:=by
 have e:=hS.at g;simp only[zgi,zhM,e];exact ⟨znO hS _ _ _ _ _,zke hS _ _⟩
@[simp] abbrev zoq (h:Host)(m:Int)(g n:Int):Bool:=pc (zbI h)
@[simp] abbrev zkG (h:Host)(m:Int)(g n:Int):Host:=zdS h m (zgi (zB h m) g n)
@[simp] abbrev zkH (h:Host)(m:Int)(g n:Int):Bool:=zdE h m (zhM (zB h m) g n)
def zr6:Run:=rF4 dH dI dI dI fun b c d e=>(zoq b c d e,[aH (zkG b c d e),aB (zkH b c d e)])
def zuW (N:Nat)(a0:Host)(a1 a2 a3:Int):OA:=
 let y1:=(zk a0);let y0:=(ix y1.Mons a1 zf); (oN (zbD a0) (oN (zeS y1 a1) (cond (nB (zeR y1 a1)) (some [(aH y1),(aB false)]) (oN (inb a1 (ln y1.Mons)) (oN (zee y0) (oN (zky (zbz y0) a2 a3) (oN (zed y1 a1 (zfc (zbz y0) a2 a3)) (some [(aH (zgb y1 a1 (zfc (zbz y0) a2 a3))),(aB (zgl (zbz y0) a2 a3))]))))))))
theorem zFt (a0:Host)(a1 a2 a3:Int)(hc:zoq a0 a1 a2 a3=true):∃N,zuW N a0 a1 a2 a3=some [aH (zkG a0 a1 a2 a3),aB (zkH a0 a1 a2 a3)]:=by
 have hs:=(zN a0).1 (zF.1 hc);refine ⟨0,?_⟩;have key:=zl7 (h:=a0) (m:=a1) (cB:=zky (zcG (ix a0.Mons a1 mZ)) a2 a3) (B:=zfc (zcG (ix a0.Mons a1 mZ)) a2 a3) (o0:=fun H=>[.agg (zbc H),.one (.b false)]) (o1:=fun H=>[.agg (zbc H),.one (.b (zgl (zcG (ix a0.Mons a1 mZ)) a2 a3))]) hs
  (fun h0=>zbh (zeq (hs.2.1.2 _ (zbq (zcj.1 h0).2 _)))) (fun h0=>zIX _ _ (zeq (hs.2.1.2 _ (zbq (zcj.1 h0).2 _))))
 refine (show zuW 0 a0 a1 a2 a3=_ from key).trans ?_
 unfold zkG zkH zdS zdE;cases h0:zcl a0 a1
 .rfl
 .obtain ⟨e1,e2⟩:=zTq (zh6 h0 (zmt h0)) a0 a1 a2 a3;simp only[cT];exact zq8 e1 e2
theorem zzC:vH 195 zr6:=kF4 zh0 zl zb6 zcP (zx []) zFt
theorem zUp {b:Bare}(g:Int)(x:Ctl)(hb:SmB b):SmB (ziY b g x):=zoz hb (ziQ (b:=b) _ hb)
theorem z0U {b c:Bare}(hS:SameB b c)(h:Host)(m:Int)(g:Int)(x:Ctl):zcQ h m (ziY b g x)=zcQ h m (ziY c g x)/\zlb b g x=zlb c g x:=by
 have e:=hS.at g;simp only[ziY,zlb,e];exact ⟨znO hS _ _ _ _ _,zke hS _ _⟩
@[simp] abbrev zuu (h:Host)(m:Int)(g:Int)(x:Ctl):Bool:=pc (zbI h)
@[simp] abbrev zpa (h:Host)(m:Int)(g:Int)(x:Ctl):Host:=zdS h m (ziY (zB h m) g x)
@[simp] abbrev zpb (h:Host)(m:Int)(g:Int)(x:Ctl):Bool:=zdE h m (zlb (zB h m) g x)
def zxU:Run:=rF4 dH dI dI dC fun b c d e=>(zuu b c d e,[aH (zpa b c d e),aB (zpb b c d e)])
def zCS (N:Nat)(a0:Host)(a1 a2:Int)(a3:Ctl):OA:=
 let y1:=(zk a0);let y0:=(ix y1.Mons a1 zf); (oN (zbD a0) (oN (zeS y1 a1) (cond (nB (zeR y1 a1)) (some [(aH y1),(aB false)]) (oN (inb a1 (ln y1.Mons)) (oN (zee y0) (oN (zo2 (zbz y0) a2 a3) (oN (zed y1 a1 (zhu (zbz y0) a2 a3)) (some [(aH (zgb y1 a1 (zhu (zbz y0) a2 a3))),(aB (zi3 (zbz y0) a2 a3))]))))))))
theorem zNS (a0:Host)(a1 a2:Int)(a3:Ctl)(hc:zuu a0 a1 a2 a3=true):∃N,zCS N a0 a1 a2 a3=some [aH (zpa a0 a1 a2 a3),aB (zpb a0 a1 a2 a3)]:=by
 have hs:=(zN a0).1 (zF.1 hc);refine ⟨0,?_⟩;have key:=zl7 (h:=a0) (m:=a1) (cB:=zo2 (zcG (ix a0.Mons a1 mZ)) a2 a3) (B:=zhu (zcG (ix a0.Mons a1 mZ)) a2 a3) (o0:=fun H=>[.agg (zbc H),.one (.b false)]) (o1:=fun H=>[.agg (zbc H),.one (.b (zi3 (zcG (ix a0.Mons a1 mZ)) a2 a3))]) hs
  (fun h0=>zbh (zeq (hs.2.1.2 _ (zbq (zcj.1 h0).2 _)))) (fun h0=>zUp _ _ (zeq (hs.2.1.2 _ (zbq (zcj.1 h0).2 _))))
 refine (show zCS 0 a0 a1 a2 a3=_ from key).trans ?_
 unfold zpa zpb zdS zdE;cases h0:zcl a0 a1
 .rfl
 .obtain ⟨e1,e2⟩:=z0U (zh6 h0 (zmt h0)) a0 a1 a2 a3;simp only[cT];exact zq8 e1 e2
theorem zHs:vH 196 zxU:=kF4 zh0 zl zb6 zcP (zx []) zNS
theorem zRz {b:Bare}(n:Int)(hb:SmB b):SmB (zjE b n):=zYS hb
theorem zYK {b c:Bare}(hS:SameB b c)(h:Host)(m n:Int):zcQ h m (zjE b n)=zcQ h m (zjE c n)/\zmT b n=zmT c n:=by
 obtain ⟨e1,e2,e3⟩:=zYw hS n;exact ⟨back_eq e1 e2,e3⟩
@[simp] abbrev zsi (h:Host)(m:Int)(n:Int):Bool:=pc (zbI h)
@[simp] abbrev znj (h:Host)(m:Int)(n:Int):Host:=zdS h m (zjE (zB h m) n)
@[simp] abbrev znk (h:Host)(m:Int)(n:Int):Bool:=zdE h m (zmT (zB h m) n)
def zvM:Run:=rF3 dH dI dI fun b c d=>(zsi b c d,[aH (znj b c d),aB (znk b c d)])
def zyU (N:Nat)(a0:Host)(a1 a2:Int):OA:=
 let y1:=(zk a0);let y0:=(ix y1.Mons a1 zf); (oN (zbD a0) (oN (zeS y1 a1) (cond (nB (zeR y1 a1)) (some [(aH y1),(aB false)]) (oN (inb a1 (ln y1.Mons)) (oN (zee y0) (oN (znc (zbz y0) a2) (oN (zed y1 a1 (zhR (zbz y0) a2)) (some [(aH (zgb y1 a1 (zhR (zbz y0) a2))),(aB (zjP (zbz y0) a2))]))))))))
theorem zKN (a0:Host)(a1 a2:Int)(hc:zsi a0 a1 a2=true):∃N,zyU N a0 a1 a2=some [aH (znj a0 a1 a2),aB (znk a0 a1 a2)]:=by
 have hs:=(zN a0).1 (zF.1 hc);refine ⟨0,?_⟩;have key:=zl7 (h:=a0) (m:=a1) (cB:=znc (zcG (ix a0.Mons a1 mZ)) a2) (B:=zhR (zcG (ix a0.Mons a1 mZ)) a2) (o0:=fun H=>[.agg (zbc H),.one (.b false)]) (o1:=fun H=>[.agg (zbc H),.one (.b (zjP (zcG (ix a0.Mons a1 mZ)) a2))]) hs
  (fun h0=>zbh (zeq (hs.2.1.2 _ (zbq (zcj.1 h0).2 _)))) (fun h0=>zRz _ (zeq (hs.2.1.2 _ (zbq (zcj.1 h0).2 _))))
 refine (show zyU 0 a0 a1 a2=_ from key).trans ?_
 unfold znj znk zdS zdE;cases h0:zcl a0 a1
 .rfl
 .obtain ⟨e1,e2⟩:=zYK (zh6 h0 (zmt h0)) a0 a1 a2;simp only[cT];exact zq8 e1 e2
theorem zEX:vH 199 zvM:=kF3 zh0 zl zb6 zcP (zx []) zKN
theorem zUo {b:Bare}(hb:SmB b):SmB (zla b):=z00 hb
theorem z0T {b c:Bare}(hS:SameB b c)(h:Host)(m:Int):zcQ h m (zla b)=zcQ h m (zla c)/\zoS b=zoS c/\zoT b=zoT c:=by
 obtain ⟨e1,e2,e3,e4⟩:=zZi hS;exact ⟨back_eq e1 e2,e3,e4⟩
@[simp] abbrev zut (h:Host)(m:Int):Bool:=pc (zbI h)
@[simp] abbrev zo6 (h:Host)(m:Int):Host:=zdS h m (zla (zB h m))
@[simp] abbrev zo7 (h:Host)(m:Int):Int:=bif zcl h m then zoS (zB h m) else -1
@[simp] abbrev zo8 (h:Host)(m:Int):Bool:=zdE h m (zoT (zB h m))
def zxS:Run:=rF2 dH dI fun b c=>(zut b c,[aH (zo6 b c),aI (zo7 b c),aB (zo8 b c)])
def zCQ (N:Nat)(a0:Host)(a1:Int):OA:=
 let y1:=(zk a0);let y0:=(ix y1.Mons a1 zf); (oN (zbD a0) (oN (zeS y1 a1) (cond (nB (zeR y1 a1)) (some [(aH y1),(aI (-1)),(aB false)]) (oN (inb a1 (ln y1.Mons)) (oN (zee y0) (oN (zo1 (zbz y0)) (oN (zed y1 a1 (zht (zbz y0))) (some [(aH (zgb y1 a1 (zht (zbz y0)))),(aI (zi1 (zbz y0))),(aB (zi2 (zbz y0)))]))))))))
theorem zNQ (a0:Host)(a1:Int)(hc:zut a0 a1=true):∃N,zCQ N a0 a1=some [aH (zo6 a0 a1),aI (zo7 a0 a1),aB (zo8 a0 a1)]:=by
 have hs:=(zN a0).1 (zF.1 hc);refine ⟨0,?_⟩;have key:=zl7 (h:=a0) (m:=a1) (cB:=zo1 (zcG (ix a0.Mons a1 mZ))) (B:=zht (zcG (ix a0.Mons a1 mZ))) (o0:=fun H=>[.agg (zbc H),.one (.i .i64 (-1)),.one (.b false)]) (o1:=fun H=>[.agg (zbc H),.one (.i .i64 (zi1 (zcG (ix a0.Mons a1 mZ)))),.one (.b (zi2 (zcG (ix a0.Mons a1 mZ))))]) hs
  (fun h0=>zbh (zeq (hs.2.1.2 _ (zbq (zcj.1 h0).2 _)))) (fun h0=>zUo (zeq (hs.2.1.2 _ (zbq (zcj.1 h0).2 _))))
 refine (show zCQ 0 a0 a1=_ from key).trans ?_
 unfold zo6 zo7 zo8 zdS zdE;cases h0:zcl a0 a1
 .rfl
 .obtain ⟨e1,e2,e3⟩:=z0T (zh6 h0 (zmt h0)) a0 a1;simp only[cT];exact z3g e1 e2 e3
theorem zHq:vH 200 zxS:=kF2 zh0 zl zb6 zcP (zx []) zNQ
def zW9:zU:=[(191,zxX),(193,zr5),(194,zr7),(195,zr6),(196,zxU),(199,zvM),(200,zxS)]++zW8
theorem zpw:zD zW9:=zh zHv (zh zzB (zh zzD (zh zzC (zh zHs (zh zEX (zh zHq zh0))))))
def zgC (h:Host)(m t:Int):Host:=bif zbB h then (cond (hasB m (ln h.Mons)) (cond (win t 0 3) { h with Mons:=up h.Mons m { ix h.Mons m mZ with Traps:=t } } h) h) else h
def zxi (h:Host)(m t:Int):Bool:=bif zbB h then (cond (hasB m (ln h.Mons)) (win t 0 3) false) else false
@[simp] abbrev zsm (h:Host)(m t:Int):Bool:=pc (zbI h)
@[simp] abbrev zns (h:Host)(m t:Int):Host:=zgC h m t
@[simp] abbrev znt (h:Host)(m t:Int):Bool:=zxi h m t
def zvR:Run:=rF3 dH dI dI fun b c d=>(zsm b c d,[aH (zns b c d),aB (znt b c d)])
def zyY (N:Nat)(a0:Host)(a1 a2:Int):OA:=
 let y0:=(zk a0); (oN (zbD a0) (oN (zeJ y0) (cond (nB (zeI y0)) (some [(aH y0),(aB false)]) (oN (zJ a1 0 (wsub .i64 (ln y0.Mons) 1)) (cond (nB (zL a1 0 (wsub .i64 (ln y0.Mons) 1))) (some [(aH y0),(aB false)]) (oN (zJ a2 0 3) (cond (nB (zL a2 0 3)) (some [(aH y0),(aB false)]) (oN (inb a1 (ln y0.Mons)) (share (up y0.Mons a1 ({ (ix y0.Mons a1 zf) with Traps:=a2 }:Mon)) (fun x4=>(some [(aH ({ y0 with Mons:=x4 }:Host)),(aB true)])))))))))))
theorem zKS (a0:Host)(a1 a2:Int)(hc:zsm a0 a1 a2=true):∃N,zyY N a0 a1 a2=some [aH (zns a0 a1 a2),aB (znt a0 a1 a2)]:=by
 have hs:=(zN a0).1 (zF.1 hc);refine ⟨0,?_⟩;unfold zyY zns znt zgC zxi oN nB
 conv=>zeta
 refine must hc (must rfl ?_);rw[show zeI (zk a0)=zbB a0 from rfl]
 cases hh:zbB a0
 .rfl
 .refine zdB rfl (must rfl ?_);rw[show zL a1 0 (wsub .i64 (ln (zk a0).Mons) 1)=hasB a1 (ln a0.Mons) from zLO hh a1]
  cases hm:hasB a1 (ln a0.Mons)
  .rfl
  .refine zdB rfl (must rfl ?_);rw[show zL a2 0 3=win a2 0 3 from rfl]
   cases ht:win a2 0 3
   .rfl
   .exact zdB rfl (must (zu hm) rfl)
theorem zE3:vH 249 zvR:=kF3 zpw zl zb6 zcP (zx []) zKS
theorem zhs {h:Host}{m p:Int}:(zbJ h m p=true)↔zbB h=true/\hasB m (ln h.Mons)=true/\hasB p 8=true:=by
 unfold zbJ;cases zbB h<;>cases hasB m (ln h.Mons)<;>simp
def zfX (h:Host)(m p:Int):Bool:=ieq (ix (ix h.Mons m mZ).Outer p sZ).Page (-1)
def zbM (h:Host)(m p:Int):Host:=bif zbJ h m p then (cond (zfX h m p) h (zcC h m p)) else h
def zjL (h:Host)(m p:Int):Bool:=bif zbJ h m p then !zfX h m p else false
def zmV (h:Host)(m p:Int):Host:=bif zbJ h m p then (cond (zfX h m p) (fetched h m p) h) else h
def zFC (h:Host)(m p:Int):Bool:=bif zbJ h m p then zfX h m p else false
@[simp] abbrev zuB (h:Host)(m p:Int):Bool:=pc (zbI h)
@[simp] abbrev zph (h:Host)(m p:Int):Host:=zbM h m p
@[simp] abbrev zpi (h:Host)(m p:Int):Bool:=zjL h m p
@[simp] abbrev zxa (h:Host)(m p:Int):Bool:=pc (zbI h)
@[simp] abbrev zqX (h:Host)(m p:Int):Host:=zmV h m p
@[simp] abbrev zqY (h:Host)(m p:Int):Bool:=zFC h m p
@[simp] abbrev zuf (h:Host)(m p:Int):Bool:=pc (zbI h)
@[simp] abbrev zoO (h:Host)(m p:Int):Host:=zbM h m p
@[simp] abbrev zhn (h:Host)(m p:Int):Bool:=zjL h m p
theorem zIr {h:Host}(hs:SmH h)(hh:zbB h=true){m p:Int}(hm:hasB m (ln h.Mons)=true)(hp:hasB p 8=true) :
 (cond (ieq (ix (ix h.Mons m mZ).Outer p sZ).Page (-1)) (ieq (ix (ix h.Mons m mZ).Outer p sZ).Rights 0) false)=zfX h m p:=by
 have hf:=(zqO (zf2 hh _ (zbq hm mZ)) hp).no;unfold zcd at hf;unfold zfX;rw[<- hf];cases h1:ieq (ix (ix h.Mons m mZ).Outer p sZ).Page (-1)<;>simp [noSlot,h1]
theorem zzY {h:Host}(hs:SmH h)(hh:zbB h=true){m p:Int}(hm:hasB m (ln h.Mons)=true)(hp:hasB p 8=true):inb p (ln (ix h.Mons m mZ).Outer)=true :=
 zu (by rw[ln,((zeg hs hh).1.2 _ (zbq hm mZ)).1];exact hp)
def zx2:Run:=rF3 dH dI dI fun b c d=>(zuB b c d,[aH (zph b c d),aB (zpi b c d)])
def zCZ (N:Nat)(a0:Host)(a1 a2:Int):OA:=
 let y1:=(zk a0);let y0:=(ix y1.Mons a1 zf).Outer; (oN (zbD a0) (oN (zml y1 a1 a2) (cond (nB (zgP y1 a1 a2)) (some [(aH y1),(aB false)]) (oN (inb a1 (ln y1.Mons)) (oN (inb a2 (ln y0)) (oN zck (cond (cond (ieq (ix y0 a2 zI).Page zbo.Page) (ieq (ix y0 a2 zI).Rights zbo.Rights) false) (some [(aH y1),(aB false)]) (oN (zq5 y1 a1 a2) (some [(aH (zxh y1 a1 a2)),(aB true)])))))))))
theorem zN0 (a0:Host)(a1 a2:Int)(hc:zuB a0 a1 a2=true):∃N,zCZ N a0 a1 a2=some [aH (zph a0 a1 a2),aB (zpi a0 a1 a2)]:=by
 have hs:=(zN a0).1 (zF.1 hc);refine ⟨0,?_⟩;unfold zCZ zph zpi zbM zjL oN nB
 conv=>zeta
 refine must hc (must rfl ?_);rw[show zgP (zk a0) a1 a2=zbJ a0 a1 a2 from rfl]
 cases h0:zbJ a0 a1 a2
 .rfl
 .obtain ⟨hh,hm,hp⟩:=zhs.1 h0;refine zdB rfl (must (zu hm) (must (zzY hs hh hm hp) (must rfl ?_)));rw[show (cond (ieq (ix (ix (zk a0).Mons a1 zf).Outer a2 zI).Page zbo.Page) (ieq (ix (ix (zk a0).Mons a1 zf).Outer a2 zI).Rights zbo.Rights) false)=zfX a0 a1 a2 from zIr hs hh hm hp]
  cases h1:zfX a0 a1 a2
  .exact zdB rfl (must (zbh ⟨(zeg hs hh).1,hm,hp⟩) rfl)
  .rfl
theorem zHA:vH 246 zx2:=kF3 zpw zl zb6 zcP (zx []) zN0
def zqc:Run:=rF3 dH dI dI fun b c d=>(zuf b c d,[aH (zoO b c d),aB (zhn b c d)])
def zCE (N:Nat)(a0:Host)(a1 a2:Int):OA:=
 let y0:=(ix a0.Mons a1 zf).Outer; (oN (zrR a0) (oN (zug a0 a1 a2) (cond (nB (zpI a0 a1 a2)) (some [(aH (zkn a0)),(aB false)]) (oN (inb a1 (ln a0.Mons)) (oN (inb a2 (ln y0)) (cond (ieq (ix y0 a2 zI).Page (-1)) (some [(aH (zkn a0)),(aB false)]) (oN (zwM (zkn a0) a1 a2) (some [(aH (zwN (zkn a0) a1 a2)),(aB true)]))))))))
theorem zNE (a0:Host)(a1 a2:Int)(hc:zuf a0 a1 a2=true):∃N,zCE N a0 a1 a2=some [aH (zoO a0 a1 a2),aB (zhn a0 a1 a2)]:=by
 have hs:=(zN a0).1 (zF.1 hc);refine ⟨0,?_⟩;unfold zCE zoO zhn zbM zjL oN nB
 conv=>zeta
 refine must hc (must rfl ?_);rw[show zpI a0 a1 a2=zbJ a0 a1 a2 from rfl]
 cases h0:zbJ a0 a1 a2
 .rfl
 .obtain ⟨hh,hm,hp⟩:=zhs.1 h0;refine zdB rfl (must (zu hm) (must (zzY hs hh hm hp) ?_));rw[show ieq (ix (ix a0.Mons a1 zf).Outer a2 zI).Page (-1)=zfX a0 a1 a2 from rfl]
  cases h1:zfX a0 a1 a2
  .exact zdB rfl (must (zbh ⟨(zeg hs hh).1,hm,hp⟩) rfl)
  .rfl
theorem zs4:vH 28 zqc:=kF3 zpw zl zb6 zcP (zx []) zNE
def zAA:Run:=rF3 dH dI dI fun b c d=>(zxa b c d,[aH (zqX b c d),aB (zqY b c d)])
def zGo (N:Nat)(a0:Host)(a1 a2:Int):OA:=
 let y1:=(zk a0);let y0:=(ix y1.Mons a1 zf).Outer; (oN (zbD a0) (oN (zml y1 a1 a2) (cond (nB (zgP y1 a1 a2)) (some [(aH y1),(aB false)]) (oN (inb a1 (ln y1.Mons)) (oN (inb a2 (ln y0)) (oN zck (cond (nB (cond (ieq (ix y0 a2 zI).Page zbo.Page) (ieq (ix y0 a2 zI).Rights zbo.Rights) false)) (some [(aH y1),(aB false)]) (oN (ztW y1 a1 a2) (some [(aH (zv4 y1 a1 a2)),(aB true)])))))))))
theorem zQw (a0:Host)(a1 a2:Int)(hc:zxa a0 a1 a2=true):∃N,zGo N a0 a1 a2=some [aH (zqX a0 a1 a2),aB (zqY a0 a1 a2)]:=by
 have hs:=(zN a0).1 (zF.1 hc);refine ⟨0,?_⟩;unfold zGo zqX zqY zmV zFC oN nB
 conv=>zeta
 refine must hc (must rfl ?_);rw[show zgP (zk a0) a1 a2=zbJ a0 a1 a2 from rfl]
 cases h0:zbJ a0 a1 a2
 .rfl
 .obtain ⟨hh,hm,hp⟩:=zhs.1 h0;refine zdB rfl (must (zu hm) (must (zzY hs hh hm hp) (must rfl ?_)));rw[show (cond (ieq (ix (ix (zk a0).Mons a1 zf).Outer a2 zI).Page zbo.Page) (ieq (ix (ix (zk a0).Mons a1 zf).Outer a2 zI).Rights zbo.Rights) false)=zfX a0 a1 a2 from zIr hs hh hm hp]
  cases h1:zfX a0 a1 a2
  .rfl
  .exact zdB rfl (must (zbh ⟨zeg hs hh,hm,hp⟩) rfl)
theorem zJ6:vH 247 zAA:=kF3 zpw zl zb6 zcP (zx []) zQw
def zXa:zU:=[(249,zvR),(246,zx2),(28,zqc),(247,zAA)]++zW9
theorem zMl:zD zXa:=zh zE3 (zh zHA (zh zs4 (zh zJ6 zpw)))
theorem zWy {x:Mon}{b:Bare}(h:ze4 x)(hb:zlG b.Guests):ze4 (zsP x b):=⟨h.1,h.2.1,h.2.2.1,hb,h.2.2.2.2⟩
theorem zFN {h:Host}{m:Int}{b:Bare}(hs:SmH h)(hm:hasB m (ln h.Mons)=true)(hb:zlG b.Guests):SmH (zcQ h m b) :=
 ⟨hs.1,zh7 hs.2.1 (zWy (hs.2.1.2 _ (zbq hm _)) hb),hs.2.2⟩
theorem zO9 {h:Host}{m:Int}(b:Bare)(hm:hasB m (ln h.Mons)=true):hasB m (ln (zcQ h m b).Mons)=true:=by
 show hasB m (ln (up h.Mons m _))=true
 rw[ln,zfS];exact hm
theorem z2R {h:Host}{m:Int}(b:Bare)(hm:hasB m (ln h.Mons)=true):ix (zcQ h m b).Mons m mZ=zsP (ix h.Mons m mZ) b:=by
 obtain ⟨k,rfl,hk⟩:=zdj (n:=h.Mons.length) hm;exact zdv hk _ _
def zzn (h:Host)(m g p:Int):Host:=⟨h.Memory,up h.Mons m { ix h.Mons m mZ with Tables:=up (ix h.Mons m mZ).Tables g (zbG (ix (ix h.Mons m mZ).Tables g kZ) p) },zce h.Buffer (zel m g) p,zce h.IoBuffer (zel m g) p⟩
def zXD (H:Host)(m g p:Int)(o:Host->Ans):OA:=
 bif inb m (ln H.Mons) then (bif inb m (ln H.Mons) then (bif inb g (ln (ix H.Mons m mZ).Tables) then (bif zkC (ix (ix H.Mons m mZ).Tables g kZ) p then (bif inb g (ln (ix H.Mons m mZ).Tables) then (share (up H.Mons m { ix H.Mons m mZ with Tables:=up (ix H.Mons m mZ).Tables g (zbG (ix (ix H.Mons m mZ).Tables g kZ) p) }) fun x =>
  (cond (zjT m g) (cond (zfP H.Buffer (zel m g) p) (cond (zjT m g) (cond (zfP H.IoBuffer (zel m g) p) (some (o ⟨H.Memory,x,zce H.Buffer (zel m g) p,zce H.IoBuffer (zel m g) p⟩)) none) none) none) none)) else none) else none) else none) else none) else none
theorem zXE {H:Host}{m g p:Int}{o:Host->Ans}(hs:SmH H)(hm:hasB m (ln H.Mons)=true)(hg:hasB g (ln (ix H.Mons m mZ).Tables)=true):zXD H m g p o=some (o (zzn H m g p)):=by
 have hx:=hs.2.1.2 _ (zbq hm mZ);unfold zXD;exact must (zu hm) (must (zu hm) (must (zu hg) (must (zbh (hx.2.2.2.2.2.2 _ (zbq hg _))) (must (zu hg) (shr (must rfl (must (zbh hs.2.2.1) (must rfl (must (zbh hs.2.2.2) rfl)))))))))
def zgX (h:Host)(m g p:Int):Host:=bif zcl h m then (cond (zbK (zB h m) g (hasB p 4)) (zzn (zcQ h m (chg (zB h m) g (hasB p 4) (zdq (gAt (zB h m) g) p))) m g p) h) else h
@[simp] abbrev zqo (h:Host)(m g p:Int):Bool:=pc (zbI h)
@[simp] abbrev zlD (h:Host)(m g p:Int):Host:=zgX h m g p
@[simp] abbrev zlE (h:Host)(m g p:Int):Bool:=zdE h m (zbK (zB h m) g (hasB p 4))
theorem zTs {h:Host}{m:Int}(hm:hasB m (ln h.Mons)=true):(zB h m).Guests=(ix h.Mons m mZ).Guests:=by unfold zB;rw[hm];rfl
theorem zMy {h:Host}{m g:Int}{k:Bool}(hs:SmH h)(h0:zcl h m=true)(b:Bare)(hk:zbK (zB h m) g k=true):hasB g (ln (ix (zcQ h m b).Mons m mZ).Tables)=true:=by
 obtain ⟨hh,hm⟩:=zcj.1 h0;rw[z2R b hm]
 show hasB g (ln (ix h.Mons m mZ).Tables)=true
 rw[ln,((zeg hs hh).1.2 _ (zbq hm mZ)).2.2.2,<- zTs hm];unfold zbK at hk;cases hb:zb1 (zB h m) g
 .rw [hb]at hk;cases hk
 .exact (zde.1 hb).2
def zts:Run:=rF4 dH dI dI dI fun b c d e=>(zqo b c d e,[aH (zlD b c d e),aB (zlE b c d e)])
def zxD (N:Nat)(a0:Host)(a1 a2 a3:Int):OA:=
 let y5:=(zrl a1 a2);let y3:=(zk a0);let y2:=(ix y3.Mons a1 zf);let y0:=(zgb y3 a1 (zej (zbz y2) a2 a3));let y1:=(ix y0.Mons a1 zf);let y4:=(ix y1.Tables a2 zdd); (oN (zbD a0) (oN (zeS y3 a1) (cond (nB (zeR y3 a1)) (some [(aH y3),(aB false)]) (oN (inb a1 (ln y3.Mons)) (oN (zee y2) (oN (zql (zbz y2) a2 a3) (cond (nB (zgN (zbz y2) a2 a3)) (some [(aH y3),(aB false)]) (oN (zed y3 a1 (zej (zbz y2) a2 a3)) (oN (inb a1 (ln y0.Mons)) (oN (inb a1 (ln y0.Mons)) (oN (inb a2 (ln y1.Tables)) (oN (zkC y4 a3) (oN (inb a2 (ln y1.Tables)) (share (up y0.Mons a1 ({ y1 with Tables:=(up y1.Tables a2 (zjQ y4 a3)) }:Mon)) (fun x5=>(oN (zjT a1 a2) (oN (zfP y0.Buffer y5 a3) (oN (zjT a1 a2) (oN (zfP y0.IoBuffer y5 a3) (some [(aH (⟨y0.Memory,x5,(zlh y0.Buffer y5 a3),(zlh y0.IoBuffer y5 a3)⟩:Host)),(aB true)]))))))))))))))))))))
theorem zIg (a0:Host)(a1 a2 a3:Int)(hb:zbQ big [aH a0,aI a1,aI a2,aI a3])(hc:zqo a0 a1 a2 a3=true):∃N,zxD N a0 a1 a2 a3=some [aH (zlD a0 a1 a2 a3),aB (zlE a0 a1 a2 a3)]:=by
 have hs:=(zN a0).1 (zF.1 hc);refine ⟨0,?_⟩;unfold zxD zlD zlE zgX zdE oN nB
 conv=>zeta
 refine must hc (must rfl ?_);rw[show zeR (zk a0) a1=zcl a0 a1 from rfl]
 cases h0:zcl a0 a1
 .rfl
 .obtain ⟨hh,hm⟩:=zcj.1 h0;have hx:=hs.2.1.2 _ (zbq hm mZ);have hv:=zeq hx;have hS:=zh6 h0 (zmt h0);have hk:zbK (zcG (ix a0.Mons a1 mZ)) a2 (hasB a3 4)=zbK (zB a0 a1) a2 (hasB a3 4):=zke hS _ _;have hB:zcQ a0 a1 (zej (zcG (ix a0.Mons a1 mZ)) a2 a3)=zcQ a0 a1 (chg (zB a0 a1) a2 (hasB a3 4) (zdq (gAt (zB a0 a1) a2) a3)):=by
   rw[<- hS.at];exact znO hS _ _ _ _ _
  refine zdB rfl (must (zu hm) (must (zbh hx) (must (zbh hv) ?_)));rw[show zgN (zbz (ix (zk a0).Mons a1 zf)) a2 a3=zbK (zB a0 a1) a2 (hasB a3 4) from hk]
  cases hf:zbK (zB a0 a1) a2 (hasB a3 4)
  .rfl
  .have hb:SmB (zej (zcG (ix a0.Mons a1 mZ)) a2 a3):=zoz hv (zIZ _ (ziQ _ hv));refine zdB rfl (must (zbh ⟨hm,hb.2.1⟩) ?_);have key:=zXE (H:=zcQ a0 a1 (zej (zcG (ix a0.Mons a1 mZ)) a2 a3)) (m:=a1) (g:=a2) (p:=a3) (o:=fun H=>[.agg (zbc H),.one (.b true)]) (zFN hs hm hb.2.1) (zO9 _ hm) (zMy hs h0 _ hf);refine (show _=_ from key).trans ?_
   rw[hB];rfl
theorem zB3:vH 192 zts:=hF4 zMl zl zb6 zcP (zx []) zIg
def zXb:zU:=[(192,zts)]++zXa
theorem zMm:zD zXb:=zh zB3 zMl
def zRl (h:Host)(m p c v:Int):Host:={ mended h m p 2 with Memory:=zbw (mended h m p 2).Memory (ix (ix (mended h m p 2).Mons m mZ).Outer p sZ).Page c v }
def zeh (h:Host)(m p c v:Int):Bool:=bif zbJ h m p then (cond (hasB c 4) (win v 0 99) false) else false
def zii (h:Host)(m p c v:Int):Host:=bif zeh h m p c v then zRl h m p c v else h
@[simp] abbrev zsh (h:Host)(m p c v:Int):Bool:=pc (zbI h)
@[simp] abbrev znh (h:Host)(m p c v:Int):Host:=zii h m p c v
@[simp] abbrev zni (h:Host)(m p c v:Int):Bool:=zeh h m p c v
def z2A (H:Host)(m p c v:Int)(o:Host->Ans):OA:=
 bif zls H m p 2 then (cond (inb m (ln (mended H m p 2).Mons)) (cond (inb p (ln (ix (mended H m p 2).Mons m mZ).Outer)) (cond (zhV (mended H m p 2).Memory (ix (ix (mended H m p 2).Mons m mZ).Outer p sZ).Page c v) (some (o (zRl H m p c v))) none) none) none) else none
theorem z0J {h:Host}{m p c v:Int}{o:Host->Ans}(hs:SmH h)(h0:zbJ h m p=true):z2A h m p c v o=some (o (zRl h m p c v)):=by
 obtain ⟨hh,hm,hp⟩:=zhs.1 h0;have hf:=zeg hs hh;obtain ⟨h1,h2⟩:=zst (n:=2) hf hm hp;unfold z2A;refine must (zbh ⟨hf,hm,hp,.inr rfl,zqO (zf2 hh _ (zbq hm mZ)) hp⟩) (must (zu h2) (must (zu ?_) (must (zbh h1.1.1) rfl)));rw[ln,(h1.2 _ (zbq h2 mZ)).1];exact hp
def zvL:Run:=rF5 dH dI dI dI dI fun b c d e f=>(zsh b c d e f,[aH (znh b c d e f),aB (zni b c d e f)])
def zyT (N:Nat)(a0:Host)(a1 a2:Int)(a3 a4:Int):OA:=
 let y2:=(zk a0);let y0:=(zmm y2 a1 a2 2);let y1:=(ix y0.Mons a1 zf).Outer;let y3:=(ix y1 a2 zI).Page; (oN (zbD a0) (oN (zml y2 a1 a2) (cond (nB (zgP y2 a1 a2)) (some [(aH y2),(aB false)]) (oN (zJ a3 0 3) (cond (nB (zL a3 0 3)) (some [(aH y2),(aB false)]) (oN (zJ a4 0 99) (cond (nB (zL a4 0 99)) (some [(aH y2),(aB false)]) (oN (zls y2 a1 a2 2) (oN (inb a1 (ln y0.Mons)) (oN (inb a2 (ln y1)) (oN (zhV y0.Memory y3 a3 a4) (some [(aH ({ y0 with Memory:=(zit y0.Memory y3 a3 a4) }:Host)),(aB true)]))))))))))))
theorem zKM (a0:Host)(a1 a2:Int)(a3 a4:Int)(hc:zsh a0 a1 a2 a3 a4=true):∃N,zyT N a0 a1 a2 a3 a4=some [aH (znh a0 a1 a2 a3 a4),aB (zni a0 a1 a2 a3 a4)]:=by
 have hs:=(zN a0).1 (zF.1 hc);refine ⟨0,?_⟩;unfold zyT znh zni zii zeh oN nB
 conv=>zeta
 refine must hc (must rfl ?_);rw[show zgP (zk a0) a1 a2=zbJ a0 a1 a2 from rfl]
 cases h0:zbJ a0 a1 a2
 .rfl
 .refine zdB rfl (must rfl ?_);rw[show zL a3 0 3=hasB a3 4 from z5M a3]
  cases h1:hasB a3 4
  .rfl
  .refine zdB rfl (must rfl ?_);rw[show zL a4 0 99=win a4 0 99 from rfl]
   cases h2:win a4 0 99
   .rfl
   .have key:=z0J (c:=a3) (v:=a4) (o:=fun H=>[.agg (zbc H),.one (.b true)]) hs h0;exact zdB rfl (show _=_ from key)
theorem zEW:vH 198 zvL:=kF5 zMm zl zb6 zcP (zx []) zKM
def zXc:zU:=[(198,zvL)]++zXb
theorem zXd:zD zXc:=zh zEW zMm
def zXe:zU:=zXc
theorem zzk:zD zXe:=zXd
theorem zX7 (h:Host)(b:List Entry)(m g page need:Int)(io:Bool):(lookOf h b m g page need io).2.2=zbP h m g page need:=by
 cases hl:zbP h m g page need
 .rw [zmf hl]
 .rw [zQS hl];unfold zfI zg2;generalize zge b m g page need=x;cases x
  .generalize zef _ m g page need=y;cases y<;>rfl
  .rfl
theorem z3Z {h:Host}{m g page need:Int}(b:List Entry)(io:Bool)(hs:SmH h)(hl:zbP h m g page need=true):SmM (lookOf h b m g page need io).1.Memory:=by
 have hg:zbH h m g=true:=by
  unfold zbP at hl;cases h1:zbH h m g
  .rw [h1]at hl;cases hl
  .rfl
 exact (zvk hs hg).shape.1.1
def zzO (h:Host)(m g a n:Int):Host×Int×Bool:=lookOf h h.IoBuffer m g (zbb a) n true
def zfu (h:Host)(m g a v:Int):Bool:=bif win a 0 15 then (cond (win v 0 99) (zbP h m g (zbb a) 2) false) else false
def zkj (h:Host)(m g a v:Int):Host:=bif zfu h m g a v then { (zzO h m g a 2).1 with Memory:=zbw (zzO h m g a 2).1.Memory (zzO h m g a 2).2.1 (zcV a) v } else h
def zeF (h:Host)(m g a:Int):Bool:=bif win a 0 15 then zbP h m g (zbb a) 1 else false
def zij (h:Host)(m g a:Int):Host:=bif zeF h m g a then (zzO h m g a 1).1 else h
def zpG (h:Host)(m g a:Int):Int:=bif zeF h m g a then cellAt (zzO h m g a 1).1.Memory (zzO h m g a 1).2.1 (zcV a) else 0
@[simp] abbrev zuv (h:Host)(m g a v:Int):Bool:=pc (zbI h)
@[simp] abbrev zpc (h:Host)(m g a v:Int):Host:=zkj h m g a v
@[simp] abbrev zpd (h:Host)(m g a v:Int):Bool:=zfu h m g a v
@[simp] abbrev zsj (h:Host)(m g a:Int):Bool:=pc (zbI h)
@[simp] abbrev znl (h:Host)(m g a:Int):Host:=zij h m g a
@[simp] abbrev znm (h:Host)(m g a:Int):Int:=zpG h m g a
@[simp] abbrev znn (h:Host)(m g a:Int):Bool:=zeF h m g a
def zxV:Run:=rF5 dH dI dI dI dI fun b c d e f=>(zuv b c d e f,[aH (zpc b c d e f),aB (zpd b c d e f)])
def zCT (N:Nat)(a0:Host)(a1 a2:Int)(a3 a4:Int):OA:=
 let y1:=(zk a0);let y2:=(zja y1 y1.IoBuffer a1 a2 (zcB a3) 2 true);let y0:=(zeB y1 y1.IoBuffer a1 a2 (zcB a3) 2 true); (oN (zbD a0) (oN (zJ a3 0 15) (cond (nB (zL a3 0 15)) (some [(aH y1),(aB false)]) (oN (zJ a4 0 99) (cond (nB (zL a4 0 99)) (some [(aH y1),(aB false)]) (oN (zfA a3) (oN (zjb y1 y1.IoBuffer a1 a2 (zcB a3) 2 true) (cond (nB (zf9 y1 y1.IoBuffer a1 a2 (zcB a3) 2 true)) (some [(aH y0),(aB false)]) (oN (zhQ a3) (oN (zhV y0.Memory y2 (zdT a3) a4) (some [(aH ({ y0 with Memory:=(zit y0.Memory y2 (zdT a3) a4) }:Host)),(aB true)])))))))))))
theorem zNT (a0:Host)(a1 a2:Int)(a3 a4:Int)(hc:zuv a0 a1 a2 a3 a4=true):∃N,zCT N a0 a1 a2 a3 a4=some [aH (zpc a0 a1 a2 a3 a4),aB (zpd a0 a1 a2 a3 a4)]:=by
 have hs:=(zN a0).1 (zF.1 hc);refine ⟨0,?_⟩;unfold zCT zpc zpd zkj zfu oN nB
 conv=>zeta
 refine must hc (must rfl ?_);rw[show zL a3 0 15=win a3 0 15 from rfl]
 cases h1:win a3 0 15
 .rfl
 .refine zdB rfl (must rfl ?_);rw[show zL a4 0 99=win a4 0 99 from rfl]
  cases h2:win a4 0 99
  .rfl
  .refine zdB rfl (must rfl (must hc ?_));rw[show zf9 (zk a0) (zk a0).IoBuffer a1 a2 (zcB a3) 2 true=zbP a0 a1 a2 (zbb a3) 2 from zX7 _ _ _ _ _ _ _]
   cases h3:zbP a0 a1 a2 (zbb a3) 2
   .rw [show zeB (zk a0) (zk a0).IoBuffer a1 a2 (zcB a3) 2 true=a0 from congrArg Prod.fst (zmf h3)]
    rfl
   .exact zdB rfl (must rfl (must (zbh (z3Z a0.IoBuffer true hs h3)) rfl))
theorem zHt:vH 201 zxV:=kF5 zzk zl zb6 zcP (zx []) zNT
def zvN:Run:=rF4 dH dI dI dI fun b c d e=>(zsj b c d e,[aH (znl b c d e),aI (znm b c d e),aB (znn b c d e)])
def zyV (N:Nat)(a0:Host)(a1 a2 a3:Int):OA:=
 let y1:=(zk a0);let y2:=(zja y1 y1.IoBuffer a1 a2 (zcB a3) 1 true);let y0:=(zeB y1 y1.IoBuffer a1 a2 (zcB a3) 1 true); (oN (zbD a0) (oN (zJ a3 0 15) (cond (nB (zL a3 0 15)) (some [(aH y1),(aI 0),(aB false)]) (oN (zfA a3) (oN (zjb y1 y1.IoBuffer a1 a2 (zcB a3) 1 true) (cond (nB (zf9 y1 y1.IoBuffer a1 a2 (zcB a3) 1 true)) (some [(aH y0),(aI 0),(aB false)]) (oN (zhQ a3) (oN (zqU y0.Memory y2 (zdT a3)) (some [(aH y0),(aI (zlW y0.Memory y2 (zdT a3))),(aB true)])))))))))
theorem zKO (a0:Host)(a1 a2 a3:Int)(hc:zsj a0 a1 a2 a3=true):∃N,zyV N a0 a1 a2 a3=some [aH (znl a0 a1 a2 a3),aI (znm a0 a1 a2 a3),aB (znn a0 a1 a2 a3)]:=by
 have hs:=(zN a0).1 (zF.1 hc);refine ⟨0,?_⟩;unfold zyV znl znm znn zij zpG zeF oN nB
 conv=>zeta
 refine must hc (must rfl ?_);rw[show zL a3 0 15=win a3 0 15 from rfl]
 cases h1:win a3 0 15
 .rfl
 .refine zdB rfl (must rfl (must hc ?_));rw[show zf9 (zk a0) (zk a0).IoBuffer a1 a2 (zcB a3) 1 true=zbP a0 a1 a2 (zbb a3) 1 from zX7 _ _ _ _ _ _ _]
  cases h3:zbP a0 a1 a2 (zbb a3) 1
  .rw [show zeB (zk a0) (zk a0).IoBuffer a1 a2 (zcB a3) 1 true=a0 from congrArg Prod.fst (zmf h3)]
   rfl
  .exact zdB rfl (must rfl (must rfl rfl))
theorem zEY:vH 202 zvN:=kF4 zzk zl zb6 zcP (zx []) zKO
def zXf:zU:=[(201,zxV),(202,zvN)]++zXe
theorem zXg:zD zXf:=zh zHt (zh zEY zzk)
def zXh:zU:=[(243,zok),(244,zoi)]++zXf
theorem zMn:zD zXh:=zh zrI (zh zrH zXg)
def ziX:Kept:=⟨rp 4 false,zj4⟩
@[simp] abbrev zuz (n:Int):Bool:=ieq n 4
@[simp] abbrev ztV (n:Int):Kept:=ziX
def zxZ:Run:=rF1 dI fun b=>(zuz b,[aT .kept (ztV b)])
def zSi (N:Nat)(a0:Int):OA:=
 let y0:=(ln (zf0 a0)); (oN (zhU a0) (oN (cond (few y0) (ieq y0 y0) false) (some [(aT .kept (⟨(rp y0 false),(zf0 a0)⟩:Kept))])))
theorem zNX (a0:Int)(hc:zuz a0=true):∃N,zSi N a0=some [aT .kept (ztV a0)]:=by
 refine ⟨0,?_⟩;have h:a0=4:=qE hc;subst h
 change _=_
 kernel_rfl
theorem zHx:vH 245 zxZ:=kF1 zMn zl zb6 zcP (zx []) zNX
def zXi:zU:=[(245,zxZ)]++zXh
theorem zMo:zD zXi:=zh zHx zMn
def zsv:List Slot:=List.replicate 8 ⟨-1,0⟩
def zfR (ps:List (List Ins)):Mon:=⟨zsv,zLc,rp 8 false,(ps.take 2).map zem,[],0,0,(ps.take 2).map (fun _=>ziX),0⟩
theorem zIk {α β γ ρ:Type}(m:Nat)(f:α->β)(g:α->γ)(K:List β×List γ->Option ρ):∀(l:List α) (i:Nat) (u:List β×List γ),u.1.length+l.length<=2147483648->u.2.length+l.length<=2147483648 ->
 goL (fun (i:Nat) x (u:List β×List γ) k=>bif ilt (i:Int) (m:Int) then (cond (few (ln (ap u.1 [f x]))) (cond (few (ln (ap u.2 [g x]))) (k (ap u.1 [f x],ap u.2 [g x])) none) none) else K u) K l i u=K (u.1++(l.take (m-i)).map f,u.2++(l.take (m-i)).map g)
 | [],i,u,_,_=>by simp[goL]
 | x :: l,i,u,h1,h2=>by
  simp only[qV]at h1 h2;have e1:few (ln (ap u.1 [f x]))=true:=zgs (by simp[ap];omega)
  have e2:few (ln (ap u.2 [g x]))=true:=zgs (by simp[ap];omega)
  by_cases h:i<m
  .have hi:ilt (i:Int) (m:Int)=true:=qL (by omega)
   simp only[goL,hi,e1,e2,cT];rw[zIk m f g K l (i+1) _ (by simp[ap];omega) (by simp[ap];omega)]
   rw[show m-i=m-(i+1)+1 by omega]
   simp[ap]
  .have hi:ilt (i:Int) (m:Int)=false:=qQ (by omega)
   simp only[goL,hi,cF];rw[show m-i=0 by omega]
   simp
def zYe (u:List Guest×List Kept):OA:=some [AV.agg (Ty.cells .mon (⟨zsv,zLc,rp 8 false,u.1,[],0,0,u.2,0⟩:Mon))]
@[simp] abbrev zqV (ps:List (List Ins)):Bool:=pc (z4R ps)
@[simp] abbrev zFK (ps:List (List Ins)):Mon:=zfR ps
def zAw:Run:=rF1 (dS (.sl .ins)) fun b=>(zqV b,[aT .mon (zFK b)])
def zGl (N:Nat)(a0:lP):OA:=
 (oN (zhU 8) (oN (znp 8) (oN (cond (few 8) (ieq 8 8) false) (iter (σ:=(Int×(Int×(Int×(Int×(Int×(Int×(Int×(lP×(lS×(lM×(lB×(lG×((List Int)×(lK×(lS×(lM×(lB×(lG×((List Int)×(lK×Unit))))))))))))))))))))) N (fun r2 s3=>let y8:=s3.2.2.2.2.2.2.2.2.2.2.2.2.2.2.1;let y7:=s3.2.2.2.2.2.2.2.2.2.2.2.2.2.2.2.1;let y6:=s3.2.2.2.2.2.2.2.2.2.2.2.2.2.2.2.2.1;let y5:=s3.2.2.2.2.2.2.2.2.2.2.2.2.2.2.2.2.2.1;let y4:=s3.2.2.2.2.2.2.2.2.2.2.2.2.2.2.2.2.2.2.1;let y3:=s3.2.2.2.2.2.2.2.1;let y2:=s3.2.2.2.2.2.2.2.2.2.2.2.2.2.2.2.2.2.2.2.1;let y1:=(ap y5 [(znf (ix y3 s3.1 []))]);let y0:=(aT .mon (⟨y8,y7,y6,y5,y4,s3.2.2.2.2.1,s3.2.2.2.2.2.1,y2,s3.2.2.2.2.2.2.1⟩:Mon)); (cond (ilt s3.1 (ln y3)) (cond (ilt s3.1 2) (oN (inb s3.1 (ln y3)) (oN (zng (ix y3 s3.1 [])) (oN (few (ln y1)) (oN (zuz 4) (oN (few (ln (ap y2 [(ztV 4)]))) (r2 ((zG .i64 s3.1 1),(s3.2.1,(s3.2.2.1,(s3.2.2.2.1,(s3.2.2.2.2.1,(s3.2.2.2.2.2.1,(s3.2.2.2.2.2.2.1,(y3,(s3.2.2.2.2.2.2.2.2.1,(s3.2.2.2.2.2.2.2.2.2.1,(s3.2.2.2.2.2.2.2.2.2.2.1,(s3.2.2.2.2.2.2.2.2.2.2.2.1,(s3.2.2.2.2.2.2.2.2.2.2.2.2.1,(s3.2.2.2.2.2.2.2.2.2.2.2.2.2.1,(y8,(y7,(y6,(y1,(y4,((ap y2 [(ztV 4)]),())))))))))))))))))))))))))) (some [y0])) (some [y0]))) (0,(0,(0,(0,(0,(0,(0,(a0,([],([],([],([],([],([],((zf0 8),((zir 8),((rp 8 false),([],([],([],()))))))))))))))))))))))))
def zR1:FuncId->Nat->Option Tmpl:=zx [(186,0,{ n:=36,tm:=[(0,.sl 0 []),(2,.lp 0 0),(3,.lp 1 0),(4,ti)],lo:=[(0,[.sl 1 [],.sl 2 [],.sl 3 [],.sl 4 [],.sl 5 [],ti,ti,.sl 6 [],ti]),(1,[.sl 7 [],.sl 8 [],.sl 9 [],.sl 10 [],.sl 11 [],ti,ti,.sl 12 [],ti])],ro:=[(0,(.sl .ins),false),(1,.slot,true),(2,(.sl .int),true),(3,.bool,true),(4,.guest,true),(5,.int,true),(6,.kept,true),(7,.slot,true),(8,(.sl .int),true),(9,.bool,true),(10,.guest,true),(11,.int,true),(12,.kept,true)] })]
theorem zQs (a0:List lI)(hc:zqV a0=true):∃N,zGl N a0=some [aT .mon (zFK a0)]:=by
 have hs:=zF.1 hc;have hl:=zcF hs.1;refine zb9 fun N hNN=>?_;unfold zGl oN
 conv=>zeta
 refine must rfl (must rfl (must rfl ?_));refine (zX a0 (fun i (t:lG×lK)=>((i:Int),0,0,0,0,0,0,a0,[],[],[],[],[],[],(zf0 8),(zir 8),(rp 8 false),t.1,[],t.2,())) _ (fun i (x:List Ins) (u:List Guest×List Kept) κ=>bif ilt (i:Int) ((2:Nat):Int) then (cond (few (ln (ap u.1 [zem x]))) (cond (few (ln (ap u.2 [ziX]))) (κ (ap u.1 [zem x],ap u.2 [ziX])) none) none) else zYe u) (fun (t:lG×lK)=>(some [(.agg (Ty.cells .mon (⟨(zf0 8),(zir 8),(rp 8 false),t.1,[],0,0,t.2,0⟩:Mon)))])) (fun i hi t rec=>?_) (fun t rec=>?_) _ ([],[]) (hNN hl.1)).trans ?_
 .simp only [zbs hi,zV hi,zbe hi,zQ hi hl.1,cT];have hx:zng a0[i]=true:=zbh (hs.2 _ (jB hi));simp only[hx,cT];rfl
 .simp only [zbl,cF]
 exact zIk 2 zem (fun _=>ziX) zYe a0 0 ([],[]) (by simpa using hl.2) (by simpa using hl.2)
theorem zJ2:vH 186 zAw:=kF1 zMo zl zb6 zcP zR1 zQs
def zXj:zU:=[(186,zAw)]++zXi
theorem zMp:zD zXj:=zh zJ2 zMo
def zVN:List (List Int):=List.replicate 12 [0,0,0,0]
def zeV (ps:List (List (List Ins))):Host:=⟨zVN,(ps.take 3).map zfR,[],[]⟩
def zGD (ps:List (List (List Ins))):Prop:=ps.length<=1048576/\∀p∈ps,z4R p
@[simp] abbrev zuw (ps:List (List (List Ins))):Bool:=pc (zGD ps)
@[simp] abbrev zf6 (ps:List (List (List Ins))):Host:=zeV ps
def zT6 (t:List Mon):OA:=some [AV.agg (zbc ⟨zVN,t,[],[]⟩)]
def zxW:Run:=rF1 (dS (.sl (.sl .ins))) fun b=>(zuw b,[aH (zf6 b)])
def zCU (N:Nat)(a0:lQ):OA:=
 (oN (znp 12) (iter (σ:=(Int×(lQ×(lM×(lN×(lE×(lE×(lM×(lN×(lE×(lE×Unit))))))))))) N (fun r2 s3=>let y1:=(ap s3.2.2.2.2.2.2.2.1 [(zFK (ix s3.2.1 s3.1 []))]);let y0:=(aH (⟨s3.2.2.2.2.2.2.1,s3.2.2.2.2.2.2.2.1,s3.2.2.2.2.2.2.2.2.1,s3.2.2.2.2.2.2.2.2.2.1⟩:Host)); (cond (ilt s3.1 (ln s3.2.1)) (cond (ilt s3.1 3) (oN (inb s3.1 (ln s3.2.1)) (oN (zqV (ix s3.2.1 s3.1 [])) (oN (few (ln y1)) (r2 ((zG .i64 s3.1 1),(s3.2.1,(s3.2.2.1,(s3.2.2.2.1,(s3.2.2.2.2.1,(s3.2.2.2.2.2.1,(s3.2.2.2.2.2.2.1,(y1,(s3.2.2.2.2.2.2.2.2.1,(s3.2.2.2.2.2.2.2.2.2.1,())))))))))))))) (some [y0])) (some [y0]))) (0,(a0,([],([],([],([],((zir 12),([],([],([],()))))))))))))
def zOw:FuncId->Nat->Option Tmpl:=zx [(144,0,{ n:=28,tm:=[(0,.sl 0 []),(2,.lp 0 0),(3,.lp 1 0),(4,ti)],lo:=[(0,[.sl 1 [],.sl 2 [],.sl 3 [],.sl 4 []]),(1,[.sl 5 [],.sl 6 [],.sl 7 [],.sl 8 []])],ro:=[(0,(.sl (.sl .ins)),false),(1,(.sl .int),true),(2,.mon,true),(3,.entry,true),(4,.entry,true),(5,(.sl .int),true),(6,.mon,true),(7,.entry,true),(8,.entry,true)] })]
theorem zNU (a0:List lP)(hc:zuw a0=true):∃N,zCU N a0=some [aH (zf6 a0)]:=by
 have hs:=zF.1 hc;have hl:=zcF hs.1;refine zb9 fun N hNN=>?_;unfold zCU oN
 conv=>zeta
 refine must rfl ?_;refine (zX a0 (fun i (t:lN)=>((i:Int),a0,[],[],[],[],(zir 12),t,[],[],())) _ (fun i (x:List lI) (t:List Mon) κ=>bif ilt (i:Int) ((3:Nat):Int) then (cond (few (ln (ap t [zfR x]))) (κ (ap t [zfR x])) none) else zT6 t) (fun (t:lN)=>(some [(.agg (zbc (⟨(zir 12),t,[],[]⟩:Host)))])) (fun i hi t rec=>?_) (fun t rec=>?_) _ ([]) (hNN hl.1)).trans ?_
 .simp only [zbs hi,zV hi,zbe hi,zQ hi hl.1,cT];have hx:zqV a0[i]=true:=zbh (hs.2 _ (jB hi));simp only[hx,cT];rfl
 .simp only [zbl,cF]
 exact zMJ 3 zfR zT6 a0 0 [] (by simpa using hl.2)
theorem zHu:vH 144 zxW:=kF1 zMp zl zb6 zcP zOw zNU
def zXk:zU:=[(144,zxW)]++zXj
theorem zMq:zD zXk:=zh zHu zMp
def zhI:Nat->Nat->Kept->Kept
 | 0,_,k=>k
 | n+1,i,k=>zhI n (i+1) (zbG k (i:Int))
def zid (k:Kept):Kept:=zhI k.Known.length 0 k
theorem zVt (k:Kept)(p:Int):(zbG k p).Known.length=k.Known.length:=by
 unfold zbG;cases zcY k p
 .rfl
 .exact zfS _ _ _
theorem zuH:∀(n i:Nat) (k:Kept),SmK k->SmK (zhI n i k)
 | 0,_,_,h=>h
 | n+1,i,k,h=>zuH n (i+1) _ (znF h)
@[simp] abbrev zqn (k:Kept):Bool:=pc (SmK k)
@[simp] abbrev zus (k:Kept):Kept:=zid k
def ztr:Run:=rF1 (dT .kept) fun b=>(zqn b,[aT .kept (zus b)])
def zxC (N:Nat)(a0:Kept):OA:=
 (oN (zfk a0) (iter (σ:=(Int×(lB×(lS×(lB×(lS×Unit)))))) N (fun r2 s3=>let y0:=(⟨s3.2.1,s3.2.2.1⟩:Kept); (cond (ilt s3.1 (ln s3.2.1)) (oN (zkC y0 s3.1) (r2 ((zG .i64 s3.1 1),((zjQ y0 s3.1).Known,((zjQ y0 s3.1).Slots,(s3.2.2.2.1,(s3.2.2.2.2.1,()))))))) (some [(aT .kept y0)]))) (0,((zc7 a0).Known,((zc7 a0).Slots,([],([],())))))))
def zJh:FuncId->Nat->Option Tmpl:=zx [(291,0,{ n:=17,tm:=[(1,.lp 0 0),(2,.lp 1 0),(3,ti)],lo:=[(0,[.sl 0 [],.sl 1 []]),(1,[.sl 2 [],.sl 3 []])],ro:=[(0,.bool,true),(1,.slot,true),(2,.bool,true),(3,.slot,true)] })]
theorem zIf (a0:Kept)(hc:zqn a0=true):∃N,zxC N a0=some [aT .kept (zus a0)]:=by
 have hs:=zF.1 hc;have hl:=zcF hs.1;refine zb9 fun N hNN=>?_;unfold zxC oN
 conv=>zeta
 refine must (zby ((zuY _).2 hs)) ?_;refine (zBy a0.Known.length (fun i (k:Kept)=>((i:Int),(k.Known,(k.Slots,([],([],())))))) _ (fun i k=>SmK k/\k.Known.length=a0.Known.length) (fun i k=>some [AV.agg (Ty.cells .kept (zhI (a0.Known.length-i) i k))]) (fun i k rec hi hI hr=>?_) (fun k rec hI=>?_) N 0 a0 ⟨hs,rfl⟩ (jS _) (hNN hl.1)).trans rfl
 .refine must (zbs (by rw[hI.2];exact hi)) (must (zbh hI.1) ?_)
  have q:=hr (zbG k (i:Int)) ⟨znF hI.1,by rw[zVt];exact hI.2⟩
  rw[show a0.Known.length-i=a0.Known.length-(i+1)+1 by omega]
  rw[zQ hi hl.1];exact q
 .refine zdB (by show ilt (a0.Known.length:Int) (ln k.Known)=false;rw[ln,hI.2];exact qQ (by omega)) ?_
  rw[k7];rfl
theorem zB2:vH 291 ztr:=kF1 zMq zl zb6 zcP zJh zIf
def zXl:zU:=[(291,ztr)]++zXk
theorem zMr:zD zXl:=zh zB2 zMq
def zsQ:Nat->Nat->List Kept->List Kept
 | 0,_,l=>l
 | n+1,j,l=>zsQ n (j+1) (up l (j:Int) (zid (ix l (j:Int) kZ)))
def zsR (x:Mon)(n j:Nat):Mon:={ x with Tables:=zsQ n j x.Tables }
def zmC:Nat->Nat->List Mon->List Mon
 | 0,_,t=>t
 | n+1,i,t=>zmC n (i+1) (up t (i:Int) (zsR (ix t (i:Int) mZ) (ix t (i:Int) mZ).Tables.length 0))
def cold (h:Host):Host:=⟨h.Memory,zmC h.Mons.length 0 h.Mons,[],[]⟩
theorem zI1:∀(n j:Nat) (l:List Kept),j+n<=l.length->zy5 l->zy5 (zsQ n j l)
 | 0,_,_,_,h=>h
 | n+1,j,l,hn,h=>by
  have hj:j<l.length:=by omega
  refine zI1 n (j+1) _ (by rw[zfS];omega) (zv6 h (zuH _ _ _ ?_))
  rw[zbe hj];exact h.2 _ (jB hj)
theorem zI3 {x:Mon}(h:ze4 x){n j:Nat}(hn:j+n<=x.Tables.length):ze4 (zsR x n j):=⟨h.1,h.2.1,h.2.2.1,h.2.2.2.1,h.2.2.2.2.1,zI1 n j _ hn h.2.2.2.2.2⟩
@[simp] abbrev zFI (h:Host):Bool:=pc (zbI h)
@[simp] abbrev zRp (h:Host):Host:=cold h
def zIL:Run:=rF1 dH fun b=>(zFI b,[aH (zRp b)])
def zOW (N:Nat)(a0:Host):OA:=
 (oN (zbD a0) (iter (σ:=(Int×(lM×(lN×(lE×(lE×(lM×(lN×(lE×(lE×Unit)))))))))) N (fun r2 s3=>(cond (ilt s3.1 (ln s3.2.2.1)) (iter (σ:=(Int×(Int×(lM×(lN×(lE×(lE×(lM×(lN×(lE×(lE×Unit))))))))))) N (fun r4 s5=>let y1:=(inb s5.1 (ln s5.2.2.2.1));let y0:=(ix s5.2.2.2.1 s5.1 zf);let y2:=(ix y0.Tables s5.2.1 zdd); (oN y1 (cond (ilt s5.2.1 (ln y0.Tables)) (oN y1 (oN y1 (oN (inb s5.2.1 (ln y0.Tables)) (oN (zqn y2) (oN (inb s5.2.1 (ln y0.Tables)) (share (up s5.2.2.2.1 s5.1 ({ y0 with Tables:=(up y0.Tables s5.2.1 (zus y2)) }:Mon)) (fun x6=>(r4 (s5.1,((zG .i64 s5.2.1 1),(s5.2.2.1,(x6,(s5.2.2.2.2.1,(s5.2.2.2.2.2.1,(s5.2.2.2.2.2.2.1,(s5.2.2.2.2.2.2.2.1,(s5.2.2.2.2.2.2.2.2.1,(s5.2.2.2.2.2.2.2.2.2.1,())))))))))))))))))) (r2 ((zG .i64 s5.1 1),(s5.2.2.1,(s5.2.2.2.1,(s5.2.2.2.2.1,(s5.2.2.2.2.2.1,(s5.2.2.2.2.2.2.1,(s5.2.2.2.2.2.2.2.1,(s5.2.2.2.2.2.2.2.2.1,(s5.2.2.2.2.2.2.2.2.2.1,()))))))))))))) (s3.1,(0,(s3.2.1,(s3.2.2.1,(s3.2.2.2.1,(s3.2.2.2.2.1,(s3.2.2.2.2.2.1,(s3.2.2.2.2.2.2.1,(s3.2.2.2.2.2.2.2.1,(s3.2.2.2.2.2.2.2.2.1,()))))))))))) (some [(aH (⟨s3.2.1,s3.2.2.1,[],[]⟩:Host))]))) (0,((zk a0).Memory,((zk a0).Mons,((zk a0).Buffer,((zk a0).IoBuffer,([],([],([],([],())))))))))))
def zWF:FuncId->Nat->Option Tmpl:=zx [(250,0,{ n:=48,tm:=[(1,.lp 0 0),(2,.lp 1 0),(3,ti)],lo:=[(0,[.sl 0 [],.sl 1 [],.sl 2 [],.sl 3 []]),(1,[.sl 4 [],.sl 5 [],.sl 6 [],.sl 7 []])],ro:=[(0,(.sl .int),true),(1,.mon,true),(2,.entry,true),(3,.entry,true),(4,(.sl .int),true),(5,.mon,true),(6,.entry,true),(7,.entry,true)] }),(250,2,{ n:=48,tm:=[(1,.lp 0 0),(2,.lp 1 0),(3,ti),(4,ti)],lo:=[(0,[.sl 0 [],.sl 1 [],.sl 2 [],.sl 3 []]),(1,[.sl 4 [],.sl 5 [],.sl 6 [],.sl 7 []])],ro:=[(0,(.sl .int),true),(1,.mon,true),(2,.entry,true),(3,.entry,true),(4,(.sl .int),true),(5,.mon,true),(6,.entry,true),(7,.entry,true)] })]
theorem zVK (a0:Host)(hc:zFI a0=true):∃N,zOW N a0=some [aH (zRp a0)]:=by
 have hs:=(zN a0).1 (zF.1 hc);have hl:=zcF hs.2.1.1;refine zb9 fun N hNN=>?_;unfold zOW oN
 conv=>zeta
 refine must hc ?_;refine (zBy a0.Mons.length (fun i (t:List Mon)=>((i:Int),(a0.Memory,(t,(a0.Buffer,(a0.IoBuffer,([],([],([],([],())))))))))) _ (fun i t=>zpt t/\t.length=a0.Mons.length) (fun i t=>some [AV.agg (zbc ⟨a0.Memory,zmC (a0.Mons.length-i) i t,[],[]⟩)]) (fun i t rec hi hI hr=>?_) (fun t rec hI=>?_) N 0 a0.Mons ⟨hs.2.1,rfl⟩ (jS _) (hNN hl.1)).trans rfl
 .have hit:i<t.length:=by rw[hI.2];exact hi
  have hx:ze4 (ix t (i:Int) mZ):=by rw[zbe hit];exact hI.1.2 _ (jB hit)
  have hk:=zcF hx.2.2.2.2.2.1;refine must (zbs hit) ?_;refine (zBy (ix t (i:Int) mZ).Tables.length (fun j (u:List Mon)=>((i:Int),((j:Int),(a0.Memory,(u,(a0.Buffer,(a0.IoBuffer,([],([],([],([],())))))))))))
   _ (fun j u=>u.length=t.length/\ze4 (ix u (i:Int) mZ)/\(ix u (i:Int) mZ).Tables.length=(ix t (i:Int) mZ).Tables.length)
   (fun j u=>rec (((i+1:Nat):Int),(a0.Memory,(up u (i:Int) (zsR (ix u (i:Int) mZ) ((ix t (i:Int) mZ).Tables.length-j) j),(a0.Buffer,(a0.IoBuffer,([],([],([],([],()))))))))))
   (fun j u rec1 hj hJ hr1=>?_) (fun u rec1 hJ=>?_) N 0 t ⟨rfl,hx,rfl⟩ (jS _) (hNN hk.1)).trans ?_
  .have hiu:i<u.length:=by rw[hJ.1];exact hit
   have hju:j<(ix u (i:Int) mZ).Tables.length:=by rw[hJ.2.2];exact hj
   have hkj:SmK (ix (ix u (i:Int) mZ).Tables (j:Int) kZ):=by rw[zbe hju];exact hJ.2.1.2.2.2.2.2.2 _ (jB hju)
   refine must (zV hiu) (must (zbs hju) (must (zV hiu) (must (zV hiu) (must (zV hju) (must (zbh hkj) (must (zV hju) (shr ?_)))))));have hn:ze4 { ix u (i:Int) mZ with Tables:=up (ix u (i:Int) mZ).Tables (j:Int) (zid (ix (ix u (i:Int) mZ).Tables (j:Int) kZ)) } :=
    ⟨hJ.2.1.1,hJ.2.1.2.1,hJ.2.1.2.2.1,hJ.2.1.2.2.2.1,hJ.2.1.2.2.2.2.1,zv6 hJ.2.1.2.2.2.2.2 (zuH _ _ _ hkj)⟩
   have q:=hr1 (up u (i:Int) { ix u (i:Int) mZ with Tables:=up (ix u (i:Int) mZ).Tables (j:Int) (zid (ix (ix u (i:Int) mZ).Tables (j:Int) kZ)) }) ⟨by rw[zfS];exact hJ.1,by rw[zdv hiu];exact hn,by rw[zdv hiu];simp only[zfS];exact hJ.2.2⟩
   rw[zQ hj hk.1];refine q.trans ?_;rw[zdv hiu,zt2,show (ix t (i:Int) mZ).Tables.length-j=(ix t (i:Int) mZ).Tables.length-(j+1)+1 by omega]
   rfl
  .have hiu:i<u.length:=by rw[hJ.1];exact hit
   refine must (zV hiu) (zdB (by show ilt ((ix t (i:Int) mZ).Tables.length:Int) (ln (ix u (i:Int) mZ).Tables)=false;rw[ln,hJ.2.2];exact qQ (by omega)) ?_)
   rw[zQ hi hl.1,k7]
   show rec (_,(a0.Memory,(u,_)))=rec (_,(a0.Memory,(up u (i:Int) (ix u (i:Int) mZ),_)))
   rw[zLK hiu]
  .have q:=hr (up t (i:Int) (zsR (ix t (i:Int) mZ) (ix t (i:Int) mZ).Tables.length 0)) ⟨zh7 hI.1 (zI3 hx (by omega)),by rw[zfS];exact hI.2⟩
   refine q.trans ?_;rw[show a0.Mons.length-i=a0.Mons.length-(i+1)+1 by omega]
   rfl
 .refine zdB (by show ilt (a0.Mons.length:Int) (ln t)=false;rw[ln,hI.2];exact qQ (by omega)) ?_
  rw[k7];rfl
theorem zPR:vH 250 zIL:=kF1 zMr zl zb6 zcP zWF zVK
def zXm:zU:=[(250,zIL)]++zXl
theorem zXn:zD zXm:=zh zPR zMr
def zXo:zU:=zXm
theorem zMs:zD zXo:=zXn
theorem zyn:∀(n i:Nat) (t:List Mon),i+n<=t.length->zpt t->zpt (zmC n i t)
 | 0,_,_,_,h=>h
 | n+1,i,t,hn,h=>by
  have hi:i<t.length:=by omega
  refine zyn n (i+1) _ (by rw[zfS];omega) (zh7 h (zI3 ?_ (by omega)))
  rw[zbe hi];exact h.2 _ (jB hi)
theorem z04 {h:Host}(hs:SmH h):SmH (cold h):=⟨hs.1,zyn _ _ _ (by omega) hs.2.1,by simp[cold],by simp[cold]⟩
theorem zl4 {h:Host}{m:Int}{b:Bare}(hs:SmH h)(hb:zcl h m=true->SmB b):SmH (zdS h m b):=by
 unfold zdS;cases h0:zcl h m
 .exact hs
 .exact zFN hs (zcj.1 h0).2 (hb h0).2.1
theorem zYU {h:Host}{m g p:Int}(hs:SmH h):SmH (zgX h m g p):=by
 unfold zgX;cases h0:zcl h m
 .exact hs
 .cases hk:zbK (zB h m) g (hasB p 4)
  .exact hs
  .have hm:=(zcj.1 h0).2;have hv:=zRA hs hm;have hb:SmB (chg (zB h m) g (hasB p 4) (zdq (gAt (zB h m) g) p)):=zoz hv (zIZ _ (ziQ _ hv));have h1:=zFN hs hm hb.2.1;have h2:=zO9 (chg (zB h m) g (hasB p 4) (zdq (gAt (zB h m) g) p)) hm;have h3:=zMy hs h0 (chg (zB h m) g (hasB p 4) (zdq (gAt (zB h m) g) p)) hk;have hx:=h1.2.1.2 _ (zbq h2 mZ);simp only[cT];exact ⟨h1.1,zh7 h1.2.1 ⟨hx.1,hx.2.1,hx.2.2.1,hx.2.2.2.1,hx.2.2.2.2.1,zv6 hx.2.2.2.2.2 (znF (hx.2.2.2.2.2.2 _ (zbq h3 _)))⟩,jE (zwt _ _ _) h1.2.2.1,jE (zwt _ _ _) h1.2.2.2⟩
theorem z05 {h:Host}{m p c v:Int}(hs:SmH h):SmH (zii h m p c v):=by
 unfold zii;cases hf:zeh h m p c v
 .exact hs
 .have h0:zbJ h m p=true:=by
   unfold zeh at hf;cases hp:zbJ h m p
   .rw [hp]at hf;cases hf
   .rfl
  obtain ⟨hh,hm,hp⟩:=zhs.1 h0;have h1:=(zst (n:=2) (zeg hs hh) hm hp).1.1;exact ⟨zxm h1.1,h1.2⟩
theorem zQR {h:Host}{m g page need:Int}(b:List Entry)(io:Bool)(hs:SmH h)(hl:zbP h m g page need=true):SmH (lookOf h b m g page need io).1:=by
 have hg:zbH h m g=true:=by
  unfold zbP at hl;cases h1:zbH h m g
  .rw [h1]at hl;cases hl
  .rfl
 exact (zvk hs hg).shape.1
theorem z4F {h:Host}{m g a v:Int}(hs:SmH h):SmH (zkj h m g a v):=by
 unfold zkj;cases hf:zfu h m g a v
 .exact hs
 .have hl:zbP h m g (zbb a) 2=true:=by
   unfold zfu at hf;cases h1:win a 0 15
   .rw [h1]at hf;cases hf
   .cases h2:win v 0 99
    .rw [h1,h2]at hf;cases hf
    .rw [h1,h2]at hf;exact hf
  have h1:=zQR h.IoBuffer true hs hl;exact ⟨zxm h1.1,h1.2⟩
theorem z06 {h:Host}{m g a:Int}(hs:SmH h):SmH (zij h m g a):=by
 unfold zij;cases hf:zeF h m g a
 .exact hs
 .have hl:zbP h m g (zbb a) 1=true:=by
   unfold zeF at hf;cases h1:win a 0 15
   .rw [h1]at hf;cases hf
   .rw [h1]at hf;exact hf
  exact zQR h.IoBuffer true hs hl
theorem zUv {h:Host}{m p:Int}(hs:SmH h):SmH (zbM h m p):=by
 unfold zbM;cases h0:zbJ h m p
 .exact hs
 .obtain ⟨hh,hm,hp⟩:=zhs.1 h0;cases zfX h m p
  .exact (zIU (zeg hs hh).1 hm).1
  .exact hs
theorem z5H {h:Host}{m p:Int}(hs:SmH h):SmH (zmV h m p):=by
 unfold zmV;cases h0:zbJ h m p
 .exact hs
 .obtain ⟨hh,hm,hp⟩:=zhs.1 h0;cases zfX h m p
  .exact hs
  .exact (ziP (zeg hs hh) hm hp).1.1
theorem zYY {h:Host}{m t:Int}(hs:SmH h):SmH (zgC h m t):=by
 unfold zgC;cases zbB h
 .exact hs
 .cases hm:hasB m (ln h.Mons)
  .exact hs
  .cases win t 0 3
   .exact hs
   .have hx:ze4 (ix h.Mons m mZ):=hs.2.1.2 _ (zbq hm mZ);exact ⟨hs.1,zh7 hs.2.1 ⟨hx.1,hx.2.1,hx.2.2.1,hx.2.2.2.1,hx.2.2.2.2.1,hx.2.2.2.2.2⟩,hs.2.2⟩
def zpJ (h:Host)(a:GAct):Host:=bif ieq a.Kind 1 then (zbn h a.M a.G).1 else (cond (ieq a.Kind 2) (zS3 h a.M a.G a.X ⟨a.Y,a.Z⟩) (cond (ieq a.Kind 3) (zgX h a.M a.G a.X) (cond (ieq a.Kind 4) (zK5 h a.M a.G a.X) (cond (ieq a.Kind 5) (zK9 h a.M a.G) (cond (ieq a.Kind 6) (zK7 h a.M a.G a.X) (cond (ieq a.Kind 7) (zS1 h a.M a.G ⟨a.X,a.Y,ieq a.Z 1⟩) (cond (ieq a.Kind 8) (zii h a.M a.X a.Y a.Z) (cond (ieq a.Kind 9) (zQT h a.M a.X) (cond (ieq a.Kind 10) (zSY h a.M) (cond (ieq a.Kind 11) (zkj h a.M a.G a.X a.Y) (zij h a.M a.G a.X)))))))))))
def zzM (h:Host)(a:GAct):Told:=bif ieq a.Kind 1 then ⟨(zbn h a.M a.G).2,0⟩ else (cond (ieq a.Kind 2) ⟨zS4 h a.M a.G a.X ⟨a.Y,a.Z⟩,0⟩ (cond (ieq a.Kind 3) ⟨zOm h a.M a.G a.X,0⟩ (cond (ieq a.Kind 4) ⟨zK6 h a.M a.G a.X,0⟩ (cond (ieq a.Kind 5) ⟨zLa h a.M a.G,0⟩ (cond (ieq a.Kind 6) ⟨zK8 h a.M a.G a.X,0⟩ (cond (ieq a.Kind 7) ⟨zS2 h a.M a.G ⟨a.X,a.Y,ieq a.Z 1⟩,0⟩ (cond (ieq a.Kind 8) ⟨zeh h a.M a.X a.Y a.Z,0⟩ (cond (ieq a.Kind 9) ⟨zQU h a.M a.X,0⟩ (cond (ieq a.Kind 10) ⟨zS0 h a.M,zSZ h a.M⟩ (cond (ieq a.Kind 11) ⟨zfu h a.M a.G a.X a.Y,0⟩ (⟨zeF h a.M a.G a.X,zpG h a.M a.G a.X⟩)))))))))))
def zjH (h:Host)(a:GAct):Host:=bif ieq a.Kind 13 then zbM h a.M a.X else (cond (ieq a.Kind 14) (zmV h a.M a.X) (cond (ieq a.Kind 15) (zmJ h a.M a.X) (cond (ieq a.Kind 16) (zgC h a.M a.X) (cold h))))
def zIv (h:Host)(a:GAct):Told:=bif ieq a.Kind 13 then ⟨zjL h a.M a.X,0⟩ else (cond (ieq a.Kind 14) ⟨zFC h a.M a.X,0⟩ (cond (ieq a.Kind 15) ⟨zbJ h a.M a.X,0⟩ (cond (ieq a.Kind 16) ⟨zxi h a.M a.X,0⟩ (⟨true,0⟩))))
def zdA (h:Host)(a:GAct):Host:=bif win a.Kind 1 17 then (cond (win a.Kind 13 17) (zjH h a) (zpJ h a)) else h
def zhC (h:Host)(a:GAct):Told:=bif win a.Kind 1 17 then (cond (win a.Kind 13 17) (zIv h a) (zzM h a)) else ⟨false,0⟩
theorem zYX {h:Host}{a:GAct}(hs:SmH h):SmH (zjH h a):=by
 unfold zjH;cases ieq a.Kind 13
 .cases ieq a.Kind 14
  .cases ieq a.Kind 15
   .cases ieq a.Kind 16
    .exact z04 hs
    .exact zYY hs
   .exact zYV hs
  .exact z5H hs
 .exact zUv hs
theorem zYW {h:Host}{a:GAct}(hs:SmH h):SmH (zpJ h a):=by
 have hv:zcl h a.M=true->SmB (zB h a.M):=fun h0=>zRA hs (zcj.1 h0).2;unfold zpJ;cases ieq a.Kind 1
 .cases ieq a.Kind 2
  .cases ieq a.Kind 3
   .cases ieq a.Kind 4
    .cases ieq a.Kind 5
     .cases ieq a.Kind 6
      .cases ieq a.Kind 7
       .cases ieq a.Kind 8
        .cases ieq a.Kind 9
         .cases ieq a.Kind 10
          .cases ieq a.Kind 11
           .exact z06 hs
           .exact z4F hs
          .exact zl4 hs (fun h0=>zUo (hv h0))
         .exact zl4 hs (fun h0=>zRz _ (hv h0))
        .exact z05 hs
       .exact zl4 hs (fun h0=>zUp _ _ (hv h0))
      .exact zl4 hs (fun h0=>zIX _ _ (hv h0))
     .exact zl4 hs (fun h0=>zIY _ (hv h0))
    .exact zl4 hs (fun h0=>zIW _ _ (hv h0))
   .exact zYU hs
  .exact zl4 hs (fun h0=>zUq _ _ _ (hv h0))
 .exact (zYL a.M a.G hs).sm
theorem zUt {h:Host}{a:GAct}(hs:SmH h):SmH (zdA h a):=by
 unfold zdA;cases win a.Kind 1 17
 .exact hs
 .cases win a.Kind 13 17
  .exact zYW hs
  .exact zYX hs
@[simp] abbrev zsq (h:Host)(a:GAct):Bool:=pc (zbI h)
@[simp] abbrev zj2 (h:Host)(a:GAct):Host:=zjH h a
@[simp] abbrev zhY (h:Host)(a:GAct):Told:=zIv h a
def zvX:Run:=rF2 dH (dT .act) fun b c=>(zsq b c,[aH (zj2 b c),aT .told (zhY b c)])
def zy4 (N:Nat)(a0:Host)(a1:GAct):OA:=
 (cond (ieq a1.Kind 13) (oN (zuB a0 a1.M a1.X) (some [(aH (zph a0 a1.M a1.X)),(.agg [(.b (zpi a0 a1.M a1.X)),(.i .i64 0)])])) (cond (ieq a1.Kind 14) (oN (zxa a0 a1.M a1.X) (some [(aH (zqX a0 a1.M a1.X)),(.agg [(.b (zqY a0 a1.M a1.X)),(.i .i64 0)])])) (cond (ieq a1.Kind 15) (oN (zAR a0 a1.M a1.X) (some [(aH (ztv a0 a1.M a1.X)),(.agg [(.b (ztw a0 a1.M a1.X)),(.i .i64 0)])])) (cond (ieq a1.Kind 16) (oN (zsm a0 a1.M a1.X) (some [(aH (zns a0 a1.M a1.X)),(.agg [(.b (znt a0 a1.M a1.X)),(.i .i64 0)])])) (oN (zFI a0) (some [(aH (zRp a0)),(.agg [(.b true),(.i .i64 0)])]))))))
theorem zK2 (a0:Host)(a1:GAct)(hc:zsq a0 a1=true):∃N,zy4 N a0 a1=some [aH (zj2 a0 a1),aT .told (zhY a0 a1)]:=by
 have hs:=zF.1 hc;refine ⟨0,?_⟩;unfold zy4 oN;refine br (fun _=>mu ?_) (fun _=>br (fun _=>mu ?_) (fun _=>br (fun _=>mu ?_) (fun _=>br (fun _=>mu ?_) (fun _=>mu ?_))))
 all_goals first|rfl|(simp only [*,zj2,zhY,zjH,zIv,cT,cF]<;>rfl)|simp_all[Ty.cells,zj2,zhY,zjH,zIv]
theorem zFb:vH 189 zvX:=kF2 zMs zl zb6 zcP (zx []) zK2
def zXp:zU:=[(189,zvX),(187,zDL),(188,zxY),(197,zDM)]++zXo
theorem zMt:zD zXp:=zh zFb (zh zNm (zh zHw (zh zNn zMs)))
@[simp] abbrev zo9 (h:Host)(a:GAct):Bool:=pc (zbI h)
@[simp] abbrev zlj (h:Host)(a:GAct):Host:=zdA h a
@[simp] abbrev zlk (h:Host)(a:GAct):Told:=zhC h a
def zxT:Run:=rF2 dH (dT .act) fun b c=>(zo9 b c,[aH (zlj b c),aT .told (zlk b c)])
def zCR (N:Nat)(a0:Host)(a1:GAct):OA:=
 let y0:=(⟨a1.Y,a1.Z⟩:Slot); (oN (zAO a1) (cond (nB (zvY a1)) (oN (zbD a0) (some [(aH (zk a0)),(.agg [(.b false),(.i .i64 0)])])) (oN (zuy a1.Kind) (cond (zpQ a1.Kind) (oN (zsq a0 a1) (some [(aH (zj2 a0 a1)),(.agg [(.b (zhY a0 a1).Ok),(.i .i64 (zhY a0 a1).N)])])) (cond (ieq a1.Kind 1) (oN (zd9 a0 a1.M a1.G) (some [(aH (zAT a0 a1.M a1.G)),(.agg [(.b (zAU a0 a1.M a1.G)),(.i .i64 0)])])) (cond (ieq a1.Kind 2) (oN (zux a0 a1.M a1.G a1.X y0) (some [(aH (zpe a0 a1.M a1.G a1.X y0)),(.agg [(.b (zpf a0 a1.M a1.G a1.X y0)),(.i .i64 0)])])) (cond (ieq a1.Kind 3) (oN (zqo a0 a1.M a1.G a1.X) (some [(aH (zlD a0 a1.M a1.G a1.X)),(.agg [(.b (zlE a0 a1.M a1.G a1.X)),(.i .i64 0)])])) (cond (ieq a1.Kind 4) (oN (zop a0 a1.M a1.G a1.X) (some [(aH (zkE a0 a1.M a1.G a1.X)),(.agg [(.b (zkF a0 a1.M a1.G a1.X)),(.i .i64 0)])])) (cond (ieq a1.Kind 5) (oN (zor a0 a1.M a1.G) (some [(aH (zkI a0 a1.M a1.G)),(.agg [(.b (zkJ a0 a1.M a1.G)),(.i .i64 0)])])) (cond (ieq a1.Kind 6) (oN (zoq a0 a1.M a1.G a1.X) (some [(aH (zkG a0 a1.M a1.G a1.X)),(.agg [(.b (zkH a0 a1.M a1.G a1.X)),(.i .i64 0)])])) (cond (ieq a1.Kind 7) (oN (zAP a1) (oN (zuu a0 a1.M a1.G (zon a1)) (some [(aH (zpa a0 a1.M a1.G (zon a1))),(.agg [(.b (zpb a0 a1.M a1.G (zon a1))),(.i .i64 0)])]))) (cond (ieq a1.Kind 8) (oN (zsh a0 a1.M a1.X a1.Y a1.Z) (some [(aH (znh a0 a1.M a1.X a1.Y a1.Z)),(.agg [(.b (zni a0 a1.M a1.X a1.Y a1.Z)),(.i .i64 0)])])) (cond (ieq a1.Kind 9) (oN (zsi a0 a1.M a1.X) (some [(aH (znj a0 a1.M a1.X)),(.agg [(.b (znk a0 a1.M a1.X)),(.i .i64 0)])])) (cond (ieq a1.Kind 10) (oN (zut a0 a1.M) (some [(aH (zo6 a0 a1.M)),(.agg [(.b (zo8 a0 a1.M)),(.i .i64 (zo7 a0 a1.M))])])) (cond (ieq a1.Kind 11) (oN (zuv a0 a1.M a1.G a1.X a1.Y) (some [(aH (zpc a0 a1.M a1.G a1.X a1.Y)),(.agg [(.b (zpd a0 a1.M a1.G a1.X a1.Y)),(.i .i64 0)])])) (oN (zsj a0 a1.M a1.G a1.X) (some [(aH (znl a0 a1.M a1.G a1.X)),(.agg [(.b (znn a0 a1.M a1.G a1.X)),(.i .i64 (znm a0 a1.M a1.G a1.X))])])))))))))))))))))
theorem zNR (a0:Host)(a1:GAct)(hc:zo9 a0 a1=true):∃N,zCR N a0 a1=some [aH (zlj a0 a1),aT .told (zlk a0 a1)]:=by
 have hs:=zF.1 hc;refine ⟨0,?_⟩;unfold zCR oN nB
 conv=>zeta
 refine must rfl (brN (fun _=>mu ?_) (fun _=>must rfl (br (fun _=>mu ?_) (fun _=>br (fun _=>mu ?_) (fun _=>br (fun _=>mu ?_) (fun _=>br (fun _=>mu ?_) (fun _=>br (fun _=>mu ?_) (fun _=>br (fun _=>mu ?_) (fun _=>br (fun _=>mu ?_) (fun _=>br (fun _=>must rfl (mu ?_)) (fun _=>br (fun _=>mu ?_) (fun _=>br (fun _=>mu ?_) (fun _=>br (fun _=>mu ?_) (fun _=>br (fun _=>mu ?_) (fun _=>mu ?_)))))))))))))))
 all_goals first|rfl|(simp only [*,zlj,zlk,zdA,zhC,zpJ,zzM,cT,cF]<;>rfl)|simp_all[Ty.cells,zlj,zlk,zdA,zhC,zpJ,zzM]
theorem zHr:vH 145 zxT:=kF2 zMt zl zb6 zcP (zx []) zNR
def zXq:zU:=[(145,zxT)]++zXp
theorem zMu:zD zXq:=zh zHr zMt
def zw4:List GAct->Host×List Told->Host×List Told
 | [],u=>u
 | a :: l,u=>zw4 l (zdA u.1 a,ap u.2 [zhC u.1 a])
def zrJ (ps:List (List (List Ins)))(l:List GAct):Host×List Told:=zw4 (l.take 80) (zeV ps,[])
abbrev HSt:Type:=(List Told)×(List (List Int))×(List Mon)×(List Entry)×(List Entry)
def hOf (t:HSt):Host:=⟨t.2.1,t.2.2.1,t.2.2.2.1,t.2.2.2.2⟩
def tOf (u:Host×List Told):HSt:=(u.2,u.1.Memory,u.1.Mons,u.1.Buffer,u.1.IoBuffer)
def zwS (t:HSt):OA:=some [AV.agg (zbc (hOf t)),AV.one (.s .told t.1)]
theorem zUu {ps:List (List (List Ins))}(h:zGD ps):SmH (zeV ps):=by
 refine ⟨show SmM zVN from ⟨by decide,by decide⟩,⟨?_,?_⟩,by simp[zeV],by simp[zeV]⟩
 .simp only [zeV,uH,vF];omega
 .intro x hx;simp only[zeV,q9]at hx;obtain ⟨p,hp,rfl⟩:=hx;have hps:=h.2 p (jZ hp);refine ⟨show zsv.length<=1048576 by decide,show SmM zLc from ⟨by decide,by decide⟩,show (rp 8 false).length<=1048576 by decide,⟨?_,?_⟩,by simp[zfR],⟨?_,?_⟩⟩
  .simp only [zfR,uH,vF];omega
  .intro y hy;simp only[zfR,q9]at hy;obtain ⟨q,hq,rfl⟩:=hy;exact ⟨hps.2 q (jZ hq),show zj4.length<=1048576 by decide,show zj4.length<=1048576 by decide,by simp[zem]⟩
  .simp only [zfR,uH,vF];omega
  .intro y hy;simp only[zfR,q9]at hy;obtain ⟨q,hq,rfl⟩:=hy;exact ⟨show (rp 4 false).length<=1048576 by decide,show zj4.length<=1048576 by decide⟩
theorem zDq {c:Host->GAct->Bool}(hc:∀h a,SmH h->c h a=true)(m:Nat):∀(l:List GAct) (i:Nat) (u:Host×List Told),SmH u.1->u.2.length+l.length<=2147483648 ->
 goL (fun (i:Nat) x (t:HSt) κ=>bif ilt (i:Int) (m:Int) then (cond (c (hOf t) x) (cond (few (ln (ap t.1 [zhC (hOf t) x]))) (κ (ap t.1 [zhC (hOf t) x],(zdA (hOf t) x).Memory,(zdA (hOf t) x).Mons,(zdA (hOf t) x).Buffer,(zdA (hOf t) x).IoBuffer)) none) none) else zwS t) zwS l i (tOf u)=zwS (tOf (zw4 (l.take (m-i)) u))
 | [],i,u,_,_=>by simp[goL,zw4]
 | a :: l,i,u,hs,hn=>by
  simp only[qV]at hn;have hf:few (ln (ap u.2 [zhC u.1 a]))=true:=zgs (by simp[ap];omega)
  have hh:hOf (tOf u)=u.1:=rfl;have h2:(tOf u).1=u.2:=rfl
  by_cases h:i<m
  .have hi:ilt (i:Int) (m:Int)=true:=qL (by omega)
   simp only[goL,hi,hh,h2,hf,hc _ _ hs,cT];refine (zDq hc m l (i+1) (zdA u.1 a,ap u.2 [zhC u.1 a]) (zUt hs) (by simp[ap];omega)).trans ?_
   rw[show m-i=m-(i+1)+1 by omega]
   rfl
  .have hi:ilt (i:Int) (m:Int)=false:=qQ (by omega)
   simp only[goL,hi,cF];rw[show m-i=0 by omega]
   rfl
@[simp] abbrev zsg (ps:List (List (List Ins)))(l:List GAct):Bool:=pc (zGD ps/\l.length<=1048576)
@[simp] abbrev zsf (ps:List (List (List Ins)))(l:List GAct):Host:=(zrJ ps l).1
@[simp] abbrev zAS (ps:List (List (List Ins)))(l:List GAct):List Told:=(zrJ ps l).2
def zvK:Run:=rF2 (dS (.sl (.sl .ins))) (dS .act) fun b c=>(zsg b c,[aH (zsf b c),aS .told (zAS b c)])
def zyS (N:Nat)(a0:lQ)(a1:lA):OA:=
 (oN (zuw a0) (iter (σ:=(Int×(lA×(lT×(lM×(lN×(lE×(lE×(lM×(lN×(lE×(lE×Unit)))))))))))) N (fun r3 s4=>let y1:=(ix s4.2.1 s4.1 z6t);let y0:=(⟨s4.2.2.2.2.2.2.2.1,s4.2.2.2.2.2.2.2.2.1,s4.2.2.2.2.2.2.2.2.2.1,s4.2.2.2.2.2.2.2.2.2.2.1⟩:Host);let y3:=(ap s4.2.2.1 [(zlk y0 y1)]);let y2:=(zlj y0 y1); (cond (ilt s4.1 (ln s4.2.1)) (cond (ilt s4.1 80) (oN (inb s4.1 (ln s4.2.1)) (oN (zo9 y0 y1) (oN (few (ln y3)) (r3 ((zG .i64 s4.1 1),(s4.2.1,(y3,(s4.2.2.2.1,(s4.2.2.2.2.1,(s4.2.2.2.2.2.1,(s4.2.2.2.2.2.2.1,(y2.Memory,(y2.Mons,(y2.Buffer,(y2.IoBuffer,()))))))))))))))) (some [(aH y0),(aS .told s4.2.2.1)])) (some [(aH y0),(aS .told s4.2.2.1)]))) (0,(a1,([],([],([],([],([],((zf6 a0).Memory,((zf6 a0).Mons,((zf6 a0).Buffer,((zf6 a0).IoBuffer,())))))))))))))
def zLE:FuncId->Nat->Option Tmpl:=zx [(85,0,{ n:=39,tm:=[(1,.sl 0 []),(4,.lp 0 0),(6,.lp 1 0),(7,.sl 1 []),(8,ti)],lo:=[(0,[.sl 2 [],.sl 3 [],.sl 4 [],.sl 5 []]),(1,[.sl 6 [],.sl 7 [],.sl 8 [],.sl 9 []])],ro:=[(0,.act,false),(1,.told,true),(2,(.sl .int),true),(3,.mon,true),(4,.entry,true),(5,.entry,true),(6,(.sl .int),true),(7,.mon,true),(8,.entry,true),(9,.entry,true)] })]
theorem zKL (a0:List lP)(a1:List GAct)(hc:zsg a0 a1=true):∃N,zyS N a0 a1=some [aH (zsf a0 a1),aS .told (zAS a0 a1)]:=by
 obtain ⟨hs,hl1⟩:=zF.1 hc;have hl:=zcF hl1;refine zb9 fun N hNN=>?_;unfold zyS oN
 conv=>zeta
 refine must (zbh hs) ?_;refine (zX a1 (fun i (t:lT×lM×lN×lE×lE)=>((i:Int),a1,t.1,[],[],[],[],t.2.1,t.2.2.1,t.2.2.2.1,t.2.2.2.2,())) _ (fun i (x:GAct) (t:HSt) κ=>bif ilt (i:Int) ((80:Nat):Int) then (cond (zo9 (hOf t) x) (cond (few (ln (ap t.1 [zhC (hOf t) x]))) (κ (ap t.1 [zhC (hOf t) x],(zdA (hOf t) x).Memory,(zdA (hOf t) x).Mons,(zdA (hOf t) x).Buffer,(zdA (hOf t) x).IoBuffer)) none) none) else zwS t) (fun (t:lT×lM×lN×lE×lE)=>(some [(.agg (zbc (⟨t.2.1,t.2.2.1,t.2.2.2.1,t.2.2.2.2⟩:Host))),(.one (.s .told t.1))])) (fun i hi t rec=>?_) (fun t rec=>?_) _ ([],(zf6 a0).Memory,(zf6 a0).Mons,(zf6 a0).Buffer,(zf6 a0).IoBuffer) (hNN hl.1)).trans ?_
 .simp only [zbs hi,zV hi,zbe hi,zQ hi hl.1,cT];rfl
 .simp only [zbl,cF]
 exact zDq (fun h a hh=>zbh ((zN h).2 hh)) 80 a1 0 (zeV a0,[]) (zUu hs) (by simpa using hl.2)
theorem zEV:vH 85 zvK:=kF2 zMu zl zb6 zcP zLE zKL
def zEu:zU:=[(85,zvK)]++zXq
theorem zua:zD zEu:=zh zEV zMu
def zGG (b:Bare)(a:GAct):Bare:=bif ieq a.Kind 1 then zhi b a.G else (cond (ieq a.Kind 2) (chg b a.G (zqr a.X ⟨a.Y,a.Z⟩) (zxj (gAt b a.G) a.X ⟨a.Y,a.Z⟩)) (cond (ieq a.Kind 3) (chg b a.G (hasB a.X 4) (zdq (gAt b a.G) a.X)) (cond (ieq a.Kind 4) (chg b a.G (zpZ (gAt b a.G) a.X) (zt6 (gAt b a.G) a.X)) (cond (ieq a.Kind 5) (chg b a.G (zuo (gAt b a.G)) (zup (gAt b a.G))) (cond (ieq a.Kind 6) (chg b a.G (zfy (gAt b a.G).Pending a.X) (zlO (gAt b a.G) a.X)) (cond (ieq a.Kind 7) (chg b a.G (zgF ⟨a.X,a.Y,ieq a.Z 1⟩) (zEq (gAt b a.G) ⟨a.X,a.Y,ieq a.Z 1⟩)) (cond (ieq a.Kind 8) (zOL b a.X a.Y a.Z) (cond (ieq a.Kind 9) (ziq b a.X) (cond (ieq a.Kind 10) (zkT b) (cond (ieq a.Kind 11) (zVj b a.G a.X a.Y) (b)))))))))))
def zGH (b:Bare)(a:GAct):Told:=bif ieq a.Kind 1 then ⟨zkd b a.G,0⟩ else (cond (ieq a.Kind 2) ⟨zbK b a.G (zqr a.X ⟨a.Y,a.Z⟩),0⟩ (cond (ieq a.Kind 3) ⟨zbK b a.G (hasB a.X 4),0⟩ (cond (ieq a.Kind 4) ⟨zbK b a.G (zpZ (gAt b a.G) a.X),0⟩ (cond (ieq a.Kind 5) ⟨zbK b a.G (zuo (gAt b a.G)),0⟩ (cond (ieq a.Kind 6) ⟨zbK b a.G (zfy (gAt b a.G).Pending a.X),0⟩ (cond (ieq a.Kind 7) ⟨zbK b a.G (zgF ⟨a.X,a.Y,ieq a.Z 1⟩),0⟩ (cond (ieq a.Kind 8) ⟨zvt b a.X a.Y a.Z,0⟩ (cond (ieq a.Kind 9) ⟨zeu b a.X,0⟩ (cond (ieq a.Kind 10) ⟨zka b,zpY b⟩ (cond (ieq a.Kind 11) ⟨zwp b a.G a.X a.Y,0⟩ (⟨zmE b a.G a.X 1,zOP b a.G a.X⟩)))))))))))
def zGI (l:List Bare)(a:GAct):List Bare:=bif win a.Kind 1 17 then (cond (win a.Kind 13 17) l (cond (hasB a.M (ln l)) (up l a.M (zGG (ix l a.M zSf) a)) l)) else l
def zUS (l:List Bare)(a:GAct):Told:=bif win a.Kind 1 17 then (cond (win a.Kind 13 17) ⟨false,0⟩ (cond (hasB a.M (ln l)) (zGH (ix l a.M zSf) a) (cond (ieq a.Kind 10) ⟨false,-1⟩ ⟨false,0⟩))) else ⟨false,0⟩
theorem zn {i n:Int}:hasB i n=true↔0<=i/\i<n:=by unfold hasB;exact decide_eq_true_iff
theorem zcr {x a b:Int}:win x a b=true↔a<=x/\x<=b:=by simp[win,ige,ile]
theorem zbg {x y:Int}:ieq x y=true↔x=y:=by simp[ieq]
theorem zko {x y:Int}:ine x y=true↔x≠y:=by simp[ine]
theorem zbE {x y:Int}:ieq x y=false↔x≠y:=by simp[ieq]
theorem zbV {a b:Bool}:(cond a b false)=true↔a=true/\b=true:=by cases a<;>simp
theorem zbA {α:Type}(l:List α)(i:Int)(x:α):(up l i x).length=l.length:=by simp[up]
theorem zdh {α:Type}(l:List α)(i:Int)(x:α):ln (up l i x)=ln l:=by simp[up,ln]
theorem ztc {α:Type}{l:List α}{i:Int}(h:hasB i (ln l)=true)(d:α):∃k:Nat,∃hk:k<l.length,i=(k:Int)/\ix l i d=l[k]:=by
 rw[zn]at h;unfold ln at h;refine ⟨i.toNat,by omega,by omega,?_⟩
 simp[ix,List.getD,qB (show i.toNat<l.length by omega)]
theorem ziE {α:Type}{l:List α}{k:Nat}(h:k<l.length)(d:α):ix l (k:Int) d=l[k]:=by
 simp[ix,List.getD,qB h]
theorem zkp {α:Type}{l:List α}{i:Int}(h:hasB i (ln l)=true)(d:α):ix l i d∈l:=by
 obtain ⟨k,hk,_,e⟩:=ztc h d;rw[e];exact jB hk
theorem zvp {α:Type}{l:List α}{x:α}(h:x∈l)(d:α):∃i,hasB i (ln l)=true/\ix l i d=x:=by
 obtain ⟨k,hk,e⟩:=List.mem_iff_getElem.1 h;exact ⟨(k:Int),zn.2 (by unfold ln;omega),(ziE hk d).trans e⟩
theorem zY {α:Type}{l:List α}{i:Int}(h:hasB i (ln l)=true)(x d:α):ix (up l i x) i d=x:=by
 rw[zn]at h;unfold ln at h;simp[ix,up,List.getD,show i.toNat<l.length by omega]
theorem zbk {α:Type}{l:List α}{i j:Int}(hi:0<=i)(hj:0<=j)(h:i≠j)(x d:α):ix (up l i x) j d=ix l j d:=by
 have:i.toNat≠j.toNat:=by omega
 simp[ix,up,List.getD,jG,this]
theorem zZc {α:Type}(l:List α)(i:Int)(x y:α):up (up l i x) i y=up l i y:=by simp[up]
theorem zK3 {α:Type}{l m:List α}(d:α)(h:l.length=m.length)(e:∀i,hasB i (ln l)=true->ix l i d=ix m i d):l=m:=by
 refine List.ext_getElem h fun k h1 h2=>?_;have:=e (k:Int) (zn.2 (by unfold ln;omega))
 rwa [ziE h1,ziE h2] at this
theorem zFU {α:Type}{l:List α}{i:Int}(h:hasB i (ln l)=true)(d:α):up l i (ix l i d)=l:=by
 obtain ⟨k,hk,rfl,e⟩:=ztc h d;rw[e];simp[up]
def cPg (x:Mon)(q:Int):Nat:=x.Outer.countP fun s=>ieq s.Page q
def zd0 (l:List Mon)(q:Int):Nat:=(l.map fun x=>cPg x q).sum
theorem zMj {α:Type}(P:α->Bool){l:List α}{i:Int}(h:hasB i (ln l)=true)(x d:α):(up l i x).countP P+(if P (ix l i d) then 1 else 0)=l.countP P+(if P x then 1 else 0):=by
 obtain ⟨k,hk,rfl,e⟩:=ztc h d;rw[e];simp only[up,kV,List.countP_set hk];have:(if P l[k]=true then 1 else 0)<=l.countP P:=by
  split
  .rename_i hp;exact uY.2 ⟨l[k],jB hk,hp⟩
  .omega
 omega
theorem zv7 {l:List Mon}{m:Int}(h:hasB m (ln l)=true)(x:Mon)(q:Int):zd0 (up l m x) q+cPg (ix l m mZ) q=zd0 l q+cPg x q:=by
 obtain ⟨k,hk,rfl,e⟩:=ztc h mZ;rw[e]
 clear h e
 unfold up;simp only[kV]
 induction l generalizing k with
 | nil=>simp at hk
 | cons y l ih =>
  cases k with
  | zero=>simp[zd0];omega
  | succ k =>
   have:=ih k (by simpa using hk)
   simp[zd0] at this ⊢;omega
theorem zEm {l:List Mon}{m p:Int}(hm:hasB m (ln l)=true)(hp:hasB p (ln (ix l m mZ).Outer)=true):1<=zd0 l (ix (ix l m mZ).Outer p sZ).Page:=by
 have h1:1<=cPg (ix l m mZ) (ix (ix l m mZ).Outer p sZ).Page:=uY.2 ⟨_,zkp hp sZ,by simp[ieq]⟩
 have:=zv7 hm (⟨[],[],[],[],[],0,0,[],0⟩:Mon) (ix (ix l m mZ).Outer p sZ).Page;have e0:cPg (⟨[],[],[],[],[],0,0,[],0⟩:Mon) (ix (ix l m mZ).Outer p sZ).Page=0:=rfl;omega
theorem zZv {l:List Mon}{m p n k:Int}{q:Int}(hm:hasB m (ln l)=true)(hp:hasB p (ln (ix l m mZ).Outer)=true)(hn:hasB n (ln l)=true)(hk:hasB k (ln (ix l n mZ).Outer)=true)(e1:(ix (ix l m mZ).Outer p sZ).Page=q)(e2:(ix (ix l n mZ).Outer k sZ).Page=q)(h:zd0 l q<=1):m=n/\p=k:=by
 have hm':=zn.1 hm;have hn':=zn.1 hn;have hp':=zn.1 hp;have hk':=zn.1 hk;have hne:¬ ieq q (q+1)=true:=by simp[ieq];omega
 obtain ⟨y,hy⟩:∃y:Mon,y.Outer=up (ix l m mZ).Outer p ⟨q+1,0⟩:=⟨{ ix l m mZ with Outer:=up (ix l m mZ).Outer p ⟨q+1,0⟩ },rfl⟩;have c1:=zMj (fun s=>ieq s.Page q) hp (⟨q+1,0⟩:Slot) sZ;simp only[e1,show ieq q q=true by simp[ieq],show ieq (q+1) q=false by simp[ieq];omega,if_true,kE,if_false] at c1
 have s1:=zv7 hm y q;simp only[cPg,hy] at s1;have hz:zd0 (up l m y) q=0:=by omega
 apply Classical.byContradiction;intro hc;have hpos:1<=zd0 (up l m y) q:=by
  by_cases hmn:m=n
  .subst hmn;have hpk:p≠k:=fun e=>hc ⟨rfl,e⟩;have:=zEm (l:=up l m y) (m:=m) (p:=k) (by rw[zdh];exact hm) (by rw[zY hm,hy,zdh];exact hk)
   rw[zY hm,hy,zbk hp'.1 hk'.1 hpk,e2] at this;exact this
  .have:=zEm (l:=up l m y) (m:=n) (p:=k) (by rw[zdh];exact hn) (by rw[zbk hm'.1 hn'.1 hmn];exact hk)
   rw[zbk hm'.1 hn'.1 hmn,e2] at this;exact this
 omega
theorem zrp {a b c:Bool}:(cond a b c)=true↔(a=true/\b=true)\/(a=false/\c=true):=by cases a<;>simp
def SOk (s:Slot):Prop:=s=noSlot\/(0<=s.Page/\s.Page<=11/\1<=s.Rights/\s.Rights<=3)
theorem zRy {a b:Slot}(h1:a.Page=b.Page)(h2:a.Rights=b.Rights):a=b:=by
 cases a;cases b;simp_all
theorem ziv {a b:Slot}:zcd a b=true↔a=b:=by
 simp only[zcd,qD,zbg];exact ⟨fun h=>zRy h.1 h.2,fun h=>by rw[h];exact ⟨rfl,rfl⟩⟩
theorem zpU {a b:Slot}:zcd a b=false↔a≠b:=by
 rw[<- vG,ziv]
theorem zUn {s:Slot}:zc6 s 12=true↔SOk s:=by
 unfold zc6 SOk;rw[zrp,ziv,zpU];have:wsub .i64 12 1=11:=by decide
 simp only[this,zrp,zcr];simp[igt];constructor
 .rintro (h|⟨h,⟨h1,h2⟩,h3⟩)
  .exact .inl h
  .exact .inr ⟨h1,h2,h3⟩
 .intro h
  by_cases hs:s=noSlot
  .exact .inl hs
  .rcases h with h|⟨h1,h2,h3⟩
   .exact .inl h
   .exact .inr ⟨hs,⟨h1,h2⟩,h3⟩
theorem SOk.none {s:Slot}(h:SOk s)(hp:s.Page = -1):s=noSlot:=by
 rcases h with h|h
 .exact h
 .omega
theorem SOk.pos {s:Slot}(h:SOk s)(hp:s.Page≠-1):0<=s.Page/\s.Page<=11/\1<=s.Rights/\s.Rights<=3:=by
 rcases h with h|h
 .rw [h]at hp;exact absurd rfl hp
 .exact h
structure MOk (x:Mon):Prop where
 g1:1<=x.Guests.length
 g2:x.Guests.length<=2
 gt:x.Tables.length=x.Guests.length
 o8:x.Outer.length=8
 sl:∀s∈x.Outer,SOk s
 u8:x.Out.length=8
 d8:x.Dirty.length=8
 outs:x.Outs.length<=40
 pend:zcO x.Pending=true
 tr:win x.Traps 0 3=true
 own:win x.Own 0 1000000000=true
 gs:∀g∈x.Guests,zcX g=true
 fit:∀p,hasB p 8=true->zku (ix x.Outer p sZ) (ix x.Out p [])=true
theorem zEh {P:Nat->Bool}:∀{n i:Nat},zkU P n i=true↔∀j,i<=j->j<i+n->P j=true
 | 0,i=>by simp[zkU];intro j h1 h2;omega
 | n+1,i=>by
  rw[zkU,qD,zEh];constructor
  .rintro ⟨h1,h2⟩ j hj1 hj2
   by_cases e:j=i
   .rw [e];exact h1
   .exact h2 j (by omega) (by omega)
  .intro h;exact ⟨h i (by omega) (by omega),fun j h1 h2=>h j (by omega) (by omega)⟩
theorem zlu {t:List Slot}{n p:Int}:zco t n p=true↔(∀s∈t,zc6 s p=true)/\ln t=n:=by
 unfold zco;rw[zbV,qJ,zbg]
theorem z4a {x:Mon}:zdg x=true↔MOk x:=by
 unfold zdg;simp only[zbV,zcr,zbg,zlu,zEh,qJ,ile,qW];constructor
 .rintro ⟨⟨h1,h2⟩,h3,⟨h4,h5⟩,h6,h7,h8,h9,h10,h11,h12,h13⟩
  unfold ln at *;refine ⟨by omega,by omega,by omega,by omega,fun s hs=>zUn.1 (h4 s hs),by omega,by omega,by omega,h9,zcr.2 h10,zcr.2 h11,h12,fun p hp=>?_⟩
  have hp':=zn.1 hp;have:=h13 p.toNat (by omega) (by omega)
  unfold fits at this
  rwa [show ((p.toNat:Nat):Int)=p by omega] at this
 .intro h;obtain ⟨h1,h2,h3,h4,h5,h6,h7,h8,h9,h10,h11,h12,h13⟩:=h;unfold ln;exact ⟨⟨by omega,by omega⟩,by omega,⟨fun s hs=>zUn.2 (h5 s hs),by omega⟩,by omega,by omega,by omega,h9,zcr.1 h10,zcr.1 h11,h12,fun j h1 h2=>h13 (j:Int) (zn.2 (by omega))⟩
theorem zia (o:List Slot)(s:Slot)(q:Int):(s :: o).countP (fun s=>ieq s.Page q)=o.countP (fun s=>ieq s.Page q)+if s.Page=q then 1 else 0:=by
 rw[uR];simp[ieq]
theorem zxp:∀{o:List Slot} {u:List Bool},(∀s∈o,s.Page<u.length) ->
 (∀u',zfC o u=some u'↔(∀q,0<=q->o.countP (fun s=>ieq s.Page q)+(if ix u q false then 1 else 0)<=1) /\
  u'=(o.foldl (fun u s=>bif ilt s.Page 0 then u else up u s.Page true) u))
 | [],u,h,u'=>by
  simp[zfC];exact ⟨fun h=>⟨fun q _=>by split<;>omega,h.symm⟩,fun h=>h.2.symm⟩
 | s :: o,u,h,u'=>by
  unfold zfC
  by_cases hs:s.Page<0
  .have hl:ilt s.Page 0=true:=qL hs;rw[hl,cond_true,zxp (fun y hy=>h y (qU _ hy))];simp only[kY,hl,cond_true];refine and_congr (forall_congr' fun q=>forall_congr' fun hq=>?_) Iff.rfl;have e:(if s.Page=q then 1 else 0)=0:=if_neg (by omega)
   rw[zia,e,j7]
  .have hl:ilt s.Page 0=false:=qQ hs;have hlt:=h s jD;have hb:hasB s.Page (ln u)=true:=zn.2 ⟨by omega,by unfold ln;omega⟩
   rw[hl,cond_false];cases hu:ix u s.Page false with
   | true =>
    rw[cond_true];constructor
    .intro h;cases h
    .rintro ⟨h,_⟩
     have:=h s.Page (by omega)
     rw[zia,if_pos rfl,hu] at this;simp at this
   | false =>
    rw[cond_false,zxp (fun y hy=>by rw[zbA];exact h y (qU _ hy))]
    simp only[kY,hl,cond_false];refine and_congr (forall_congr' fun q=>forall_congr' fun hq=>?_) Iff.rfl;rw[zia]
    by_cases hq2:s.Page=q
    .subst hq2;rw[zY hb,hu];simp
    .rw [zbk (by omega) hq hq2,if_neg hq2,j7]
theorem zFV:∀(o:List Slot) (u:List Bool),(o.foldl (fun u s=>bif ilt s.Page 0 then u else up u s.Page true) u).length=u.length
 | [],u=>rfl
 | s :: o,u=>by
  rw[kY,zFV];cases ilt s.Page 0<;>simp [zbA]
theorem zLL:∀(o:List Slot) (u:List Bool) (q:Int),0<=q->(∀s∈o,s.Page<u.length)->(ix (o.foldl (fun u s=>bif ilt s.Page 0 then u else up u s.Page true) u) q false=true↔ix u q false=true\/1<=o.countP (fun s=>ieq s.Page q))
 | [],u,q,hq,h=>by simp
 | s :: o,u,q,hq,h=>by
  rw[kY,zLL _ _ q hq (fun y hy=>by have:=h y (qU _ hy);cases ilt s.Page 0<;>simpa [zbA] using this),zia]
  by_cases hs:s.Page<0
  .rw [show ilt s.Page 0=true from qL hs,cond_true,if_neg (by omega),j7]
  .rw [show ilt s.Page 0=false from qQ hs,cond_false]
   have hlt:=h s jD;have hb:hasB s.Page (ln u)=true:=zn.2 ⟨by omega,by unfold ln;omega⟩
   by_cases hq2:s.Page=q
   .subst hq2;rw[zY hb];simp
   .rw [zbk (by omega) hq hq2,if_neg hq2,j7]
theorem zwE:∀{l:List Mon} {u:List Bool},u.length=12->(zgu l u=true↔(∀x∈l,MOk x)/\∀q,0<=q->zd0 l q+(if l≠[]/\ix u q false then 1 else 0)<=1)
 | [],u,hu=>by simp[zgu,zd0]
 | x :: l,u,hu=>by
  unfold zgu;rw[zbV,z4a];constructor
  .rintro ⟨h1,h2⟩
   have hp:∀s∈x.Outer,s.Page<u.length:=fun s hs=>by
    rcases h1.sl s hs with h|h
    .rw [h,hu];decide
    .rw [hu];omega
   split at h2
   .rename_i u' hu';obtain ⟨h3,rfl⟩:=(zxp hp u').1 hu';rw[zwE (by rw[zFV,hu])]at h2
    obtain ⟨h4,h5⟩:=h2;refine ⟨by simpa using ⟨h1,h4⟩,fun q hq=>?_⟩
    have h6:=h3 q hq;have h7:=h5 q hq;have h8:=zLL x.Outer u q hq hp;simp only[zd0,jC,uF]at h7 ⊢;unfold cPg at h7 ⊢;simp only[ne_eq,reduceCtorEq,not_false_eq_true,true_and]
    by_cases hl:l=[]
    .subst hl;simpa using h6
    .simp only [hl,ne_eq,not_false_eq_true,true_and]at h7
     by_cases hc:ix (x.Outer.foldl (fun u s=>bif ilt s.Page 0 then u else up u s.Page true) u) q false=true
     .rw [if_pos hc]at h7;omega
     .rw [if_neg hc]at h7;have h9:¬ (ix u q false=true\/1<=x.Outer.countP (fun s=>ieq s.Page q)):=fun e=>hc (h8.2 e);rw[not_or]at h9;rw[if_neg h9.1];omega
   .cases h2
  .rintro ⟨h1,h2⟩
   have hx:MOk x:=h1 x jD;refine ⟨hx,?_⟩;have hp:∀s∈x.Outer,s.Page<u.length:=fun s hs=>by
    rcases hx.sl s hs with h|h
    .rw [h,hu];decide
    .rw [hu];omega
   have hu':=(zxp hp _).2 ⟨fun q hq=>by
    have:=h2 q hq;simp only[zd0,jC,uF,ne_eq,reduceCtorEq,not_false_eq_true,true_and] at this;unfold cPg at this;omega,rfl⟩
   rw[hu'];simp only;rw[zwE (by rw[zFV,hu])]
   refine ⟨fun y hy=>h1 y (qU _ hy),fun q hq=>?_⟩;have h3:=h2 q hq;have h8:=zLL x.Outer u q hq hp;simp only[zd0,jC,uF,ne_eq,reduceCtorEq,not_false_eq_true,true_and]at h3 ⊢;unfold cPg at h3 ⊢;split
   .rename_i hc;rcases h8.1 hc.2 with h|h
    .rw [if_pos h]at h3;omega
    .omega
   .omega
structure HOk (h:Host):Prop where
 m12:h.Memory.length=12
 pgs:∀c∈h.Memory,zb5 c=true
 n1:1<=h.Mons.length
 n3:h.Mons.length<=3
 b1:zev h.Buffer=true
 b2:zev h.IoBuffer=true
 mons:∀x∈h.Mons,MOk x
 uq:∀q,0<=q->zd0 h.Mons q<=1
theorem zhJ {h:Host}:zbB h=true↔HOk h:=by
 unfold zbB zgG;simp only[zbV,zcr,zbg,qJ];rw[zwE (by simp[rp])]
 have h0:∀q,ix (rp 12 false) q false=false:=fun q=>by
  unfold ix rp;rw[j8,kG];split<;>rfl
 simp only[h0,kE,and_false,if_false,j7];unfold ln;constructor
 .rintro ⟨⟨h1,h2⟩,⟨h3,h4⟩,h5,h6,h7,h8⟩
  exact ⟨by omega,h1,by omega,by omega,h5,h6,h7,h8⟩
 .rintro ⟨h1,h2,h3,h4,h5,h6,h7,h8⟩
  exact ⟨⟨h2,by omega⟩,⟨by omega,by omega⟩,h5,h6,h7,h8⟩
theorem HOk.mon {h:Host}(H:HOk h){m:Int}(hm:hasB m (ln h.Mons)=true):MOk (ix h.Mons m mZ):=H.mons _ (zkp hm _)
theorem MOk.hasO {x:Mon}(H:MOk x){p:Int}(hp:hasB p 8=true):hasB p (ln x.Outer)=true:=by rw[ln,H.o8];exact hp
theorem MOk.hasU {x:Mon}(H:MOk x){p:Int}(hp:hasB p 8=true):hasB p (ln x.Out)=true:=by rw[ln,H.u8];exact hp
theorem MOk.hasD {x:Mon}(H:MOk x){p:Int}(hp:hasB p 8=true):hasB p (ln x.Dirty)=true:=by rw[ln,H.d8];exact hp
theorem MOk.slot {x:Mon}(H:MOk x){p:Int}(hp:hasB p 8=true):SOk (ix x.Outer p sZ):=H.sl _ (zkp (H.hasO hp) _)
theorem HOk.uniq {h:Host}(H:HOk h){m p n k q:Int}(hm:hasB m (ln h.Mons)=true)(hp:hasB p 8=true)(hn:hasB n (ln h.Mons)=true)(hk:hasB k 8=true)(e1:(ix (ix h.Mons m mZ).Outer p sZ).Page=q)(e2:(ix (ix h.Mons n mZ).Outer k sZ).Page=q)(hq:0<=q):m=n/\p=k :=
 zZv hm ((H.mon hm).hasO hp) hn ((H.mon hn).hasO hk) e1 e2 (H.uq q hq)
theorem HOk.up {h:Host}(H:HOk h){m:Int}(hm:hasB m (ln h.Mons)=true){x:Mon}(hx:MOk x){h':Host}(e:h'.Mons=up h.Mons m x)(m12:h'.Memory.length=12)(pgs:∀c∈h'.Memory,zb5 c=true)(b1:zev h'.Buffer=true)(b2:zev h'.IoBuffer=true)(uq:∀q,0<=q->cPg x q<=cPg (ix h.Mons m mZ) q\/zd0 h.Mons q=0/\cPg x q<=1):HOk h':=by
 refine ⟨m12,pgs,by rw[e,zbA];exact H.n1,by rw[e,zbA];exact H.n3,b1,b2,fun y hy=>?_,fun q hq=>?_⟩
 .rw [e]at hy;unfold E.up at hy;rcases qZ hy with h|h
  .exact H.mons y h
  .rw [h];exact hx
 .rw [e];have h1:=zv7 hm x q;have h2:=H.uq q hq;have h3:=uq q hq;omega
structure KOk (k:Kept) (inner outer:List Slot):Prop where
 l1:k.Known.length=inner.length
 l2:k.Slots.length=inner.length
 at':∀i,hasB i (ln inner)=true->ix k.Slots i sZ=bif ix k.Known i false then zW (ix inner i sZ) outer else noSlot
theorem z3W {k:Kept}{inner outer:List Slot}:zjC k inner outer=true↔KOk k inner outer:=by
 unfold zjC;have hne:∀{a b:Int} {c:Bool},(cond (ine a b) false c)=true↔a=b/\c=true:=by
  intro a b c
  by_cases h:a=b
  .simp [ine,h]
  .simp [ine,h]
 rw[hne,hne,zEh];unfold ln zn4;constructor
 .rintro ⟨h1,h2,h3⟩
  refine ⟨by omega,by omega,fun i hi=>?_⟩
  have hi':=zn.1 hi;unfold ln at hi';have:=ziv.1 (h3 i.toNat (by omega) (by omega))
  rwa [show ((i.toNat:Nat):Int)=i by omega] at this
 .rintro ⟨h1,h2,h3⟩
  exact ⟨by omega,by omega,fun j h4 h5=>ziv.2 (h3 _ (zn.2 (by unfold ln;omega)))⟩
def TOk (x:Mon):Prop:=∀g,hasB g (ln x.Guests)=true->KOk (ix x.Tables g kZ) (ix x.Guests g gZ).Live x.Outer
structure Rt (h:Host):Prop where
 t:∀m,hasB m (ln h.Mons)=true->TOk (ix h.Mons m mZ)
 e1:∀e∈h.Buffer,zb0 h e=true
 e2:∀e∈h.IoBuffer,zb0 h e=true
structure Safe (h:Host):Prop where
 ok:HOk h
 rt:Rt h
theorem zl9 {a b:Slot}:below' a b=true↔a=noSlot\/(a.Page=b.Page/\enough b.Rights a.Rights=true):=by
 unfold below';rw[zrp,ziv,zpU,zbV,zbg]
 by_cases h:a=noSlot<;>simp [h]
theorem zZd (x:Int):wand .i64 0 x=0:=by
 unfold wand;have:(BitVec.ofInt 64 0 &&& BitVec.ofInt 64 x)=0#64:=by
  rw[show BitVec.ofInt 64 0=0#64 from rfl,BitVec.zero_and]
 show IntKind.wrap .i64 ((BitVec.ofInt 64 0 &&& BitVec.ofInt 64 x).toNat:Int)=0
 rw[this];rfl
theorem zZq {a:Slot}(h:below' a noSlot=true):a=noSlot:=by
 rcases zl9.1 h with h|⟨h1,h2⟩
 .exact h
 .refine zRy h1 ?_;unfold enough at h2;rw[show noSlot.Rights=0 from rfl,zZd]at h2
  simp only[zbV,zbg]at h2;exact h2.2.2.symm
theorem zes {h:Host}{e:Entry}:zb0 h e=true↔hasB (zcg e.Tag) (ln h.Mons)=true/\hasB (zc4 e.Tag) (ln (ix h.Mons (zcg e.Tag) mZ).Guests)=true /\
 below' ⟨e.Host,e.Rights⟩ (zW (zbf (ix (ix h.Mons (zcg e.Tag) mZ).Guests (zc4 e.Tag) gZ).Live e.Page) (ix h.Mons (zcg e.Tag) mZ).Outer)=true:=by
 unfold zb0;rw[zbV,zbV]
theorem zM3 {o:List Slot}{p q:Int}{s:Slot}(hp:0<=p)(h:q≠p):zbf (up o p s) q=zbf o q:=by
 unfold zbf;rw[zdh];cases hq:hasB q (ln o) with
 | false=>rfl
 | true=>rw[cond_true,cond_true,zbk hp (zn.1 hq).1 (Ne.symm h)]
theorem zGT {s:Slot}{o:List Slot}{p:Int}{t:Slot}(hp:0<=p)(h:s.Page≠p):zW s (up o p t)=zW s o:=by
 unfold zW;rw[zM3 hp h]
theorem zU0 {s:Slot}{o:List Slot}:zW s o=noSlot\/(zW s o).Page=(zbf o s.Page).Page:=by
 unfold zW;cases ieq s.Page (-1)<;>cases ieq (zbf o s.Page).Page (-1)<;>cases ieq (zcR s.Rights (zbf o s.Page).Rights) 0<;>simp
theorem zjv (k:Kept)(q:Int):(zbG k q).Known.length=k.Known.length/\(zbG k q).Slots.length=k.Slots.length:=by
 unfold zbG;cases zcY k q<;>simp [zbA]
theorem zxH:∀(l:List Int) (k:Kept),(zd2 k l).Known.length=k.Known.length/\(zd2 k l).Slots.length=k.Slots.length
 | [],k=>⟨rfl,rfl⟩
 | q :: l,k=>by
  have h1:=zxH l (zbG k q);have h2:=zjv k q;exact ⟨h1.1.trans h2.1,h1.2.trans h2.2⟩
theorem zue {k:Kept}{q i:Int}(hl:k.Known.length=k.Slots.length)(hi:hasB i (ln k.Known)=true) :
 ix (zbG k q).Known i false=(cond (ieq q i) false (ix k.Known i false))/\ix (zbG k q).Slots i sZ=(cond (ieq q i) noSlot (ix k.Slots i sZ)):=by
 have hi':hasB i (ln k.Slots)=true:=by unfold ln at hi ⊢;rwa [<- hl]
 unfold zbG zcY
 by_cases e:q=i
 .subst e;simp only[hi,hi',cond_true,ieq,beq_self_eq_true];exact ⟨zY hi _ _,zY hi' _ _⟩
 .rw [show ieq q i=false from zbE.2 e]
  by_cases hq:hasB q (ln k.Known)=true
  .have hq':hasB q (ln k.Slots)=true:=by unfold ln at hq ⊢;rwa [<- hl]
   simp only[hq,hq',cond_true,cond_false];exact ⟨zbk (zn.1 hq).1 (zn.1 hi).1 e _ _,zbk (zn.1 hq).1 (zn.1 hi).1 e _ _⟩
  .rw [vG]at hq;simp[hq]
theorem zzo:∀(l:List Int) {k:Kept} {i:Int},k.Known.length=k.Slots.length->hasB i (ln k.Known)=true ->
 (i∈l->ix (zd2 k l).Known i false=false/\ix (zd2 k l).Slots i sZ=noSlot) /\
 (i∉l->ix (zd2 k l).Known i false=ix k.Known i false/\ix (zd2 k l).Slots i sZ=ix k.Slots i sZ)
 | [],k,i,hl,hi=>⟨fun h=>by simp at h,fun _=>⟨rfl,rfl⟩⟩
 | q :: l,k,i,hl,hi=>by
  have h2:=zjv k q;have h3:=zue (q:=q) hl hi;have ih:=zzo l (k:=zbG k q) (i:=i) (by rw[h2.1,h2.2,hl]) (by unfold ln at hi ⊢;rwa [h2.1])
  show (_->ix (zd2 (zbG k q) l).Known i false=_/\ix (zd2 (zbG k q) l).Slots i sZ=_)/\(_->ix (zd2 (zbG k q) l).Known i false=_/\ix (zd2 (zbG k q) l).Slots i sZ=_)
  by_cases hm:i∈l
  .refine ⟨fun _=>ih.1 hm,fun h=>absurd (qU _ hm) h⟩
  .rw [(ih.2 hm).1,(ih.2 hm).2,h3.1,h3.2]
   by_cases e:q=i
   .subst e;simp[ieq]
   .rw [zbE.2 e];simp[hm,Ne.symm e]
theorem zFe {α:Type}{P:α->Bool}{d:α}:∀{l:List α} {n:Nat} {i:Int},i∈idxs P l n↔∃k:Nat,∃h:k<l.length,i=((n+k:Nat):Int)/\P l[k]=true
 | [],n,i=>by simp[idxs]
 | x :: l,n,i=>by
  have ih:=@zFe α P d l (n+1) i;unfold idxs;constructor
  .intro h;cases hx:P x with
   | true =>
    rw[hx,cond_true,qG]at h;rcases h with h|h
    .exact ⟨0,by simp,by simpa using h,hx⟩
    .obtain ⟨k,h1,h2,h3⟩:=ih.1 h;exact ⟨k+1,by simpa using h1,by rw[h2];congr 1;omega,by simpa using h3⟩
   | false =>
    rw[hx,cond_false]at h;obtain ⟨k,h1,h2,h3⟩:=ih.1 h;exact ⟨k+1,by simpa using h1,by rw[h2];congr 1;omega,by simpa using h3⟩
  .rintro ⟨k,h1,h2,h3⟩
   cases k with
   | zero =>
    simp only[List.getElem_cons_zero]at h3;rw[h3,cond_true,h2];exact jD
   | succ k =>
    have:=ih.2 ⟨k,by simpa using h1,by rw[h2];congr 1;omega,by simpa using h3⟩
    cases P x
    .exact this
    .exact qU _ this
theorem zSe {l:List Slot}{p i:Int}:i∈zBd l p↔hasB i (ln l)=true/\(ix l i sZ).Page=p:=by
 unfold zBd;rw[zFe (d:=sZ)];constructor
 .rintro ⟨k,h1,rfl,h3⟩
  rw[jX,ziE h1];exact ⟨zn.2 (by unfold ln;omega),zbg.1 h3⟩
 .rintro ⟨h1,h2⟩
  obtain ⟨k,hk,rfl,e⟩:=ztc h1 sZ;exact ⟨k,hk,by simp,by rw[e]at h2;exact zbg.2 h2⟩
theorem zVE {k:Kept}{inner outer:List Slot}(h:KOk k inner outer){p:Int}(hp:0<=p)(s:Slot):KOk (zgW k inner p) inner (up outer p s):=by
 have hl:=zxH (zBd inner p) k;refine ⟨hl.1.trans h.l1,hl.2.trans h.l2,fun i hi=>?_⟩;have hi':hasB i (ln k.Known)=true:=by unfold ln at hi ⊢;rwa [h.l1]
 have ha:=zzo (zBd inner p) (by rw[h.l1,h.l2]) hi'
 unfold zgW
 by_cases hc:(ix inner i sZ).Page=p
 .have:=ha.1 (zSe.2 ⟨hi,hc⟩);rw[this.1,this.2];rfl
 .have:=ha.2 (fun h=>hc (zSe.1 h).2);rw[this.1,this.2,h.at' i hi,zGT hp hc]
theorem zA4 (gs:List Guest)(p:Int):∀(n:Nat) (ts:List Kept),(zj6 gs p n ts).length=ts.length
 | 0,ts=>rfl
 | n+1,ts=>by rw[zj6,zbA,zA4 gs p n]
theorem zLu (gs:List Guest)(p:Int):∀(n:Nat) (ts:List Kept),n<=ts.length->∀i,0<=i->ix (zj6 gs p n ts) i kZ=if i<n then zgW (ix ts i kZ) (ix gs i gZ).Live p else ix ts i kZ
 | 0,ts,_,i,hi=>by rw[if_neg (by omega)];rfl
 | n+1,ts,hn,i,hi=>by
  rw[zj6]
  by_cases e:i=n
  .subst e;rw[zY (by rw[ln,zA4];exact zn.2 (by omega)),if_pos (by omega),zLu gs p n ts (by omega) _ hi,if_neg (by omega)]
  .rw [zbk (by omega) hi (Ne.symm e),zLu gs p n ts (by omega) i hi]
   by_cases h:i<n
   .rw [if_pos h,if_pos (by omega)]
   .rw [if_neg h,if_neg (by omega)]
def ziw (x:Mon)(p:Int)(s:Slot):Mon:={ zje x p x.Tables.length with Outer:=up x.Outer p s }
theorem zYR {x:Mon}(h:TOk x)(ht:x.Tables.length=x.Guests.length){p:Int}(hp:0<=p)(s:Slot):TOk (ziw x p s):=by
 intro g hg;have hg':hasB g (ln x.Guests)=true:=hg
 show KOk (ix (zj6 x.Guests p x.Tables.length x.Tables) g kZ) (ix x.Guests g gZ).Live (up x.Outer p s)
 rw[zLu _ _ _ _ (qX _) _ (zn.1 hg').1,if_pos (by have:=zn.1 hg';unfold ln at this;omega)]
 exact zVE (h g hg') hp s
theorem zqv (h:Host)(m p:Int)(s:Slot):(zbU h m p s).Mons=up h.Mons m (ziw (ix h.Mons m mZ) p s):=by
 unfold zbU;cases ine (ix (ix h.Mons m zf).Outer p zI).Page (-1)<;>rfl
theorem zuG (h:Host)(m p:Int)(s:Slot):(zbU h m p s).Memory=h.Memory:=by
 unfold zbU;cases ine (ix (ix h.Mons m zf).Outer p zI).Page (-1)<;>rfl
theorem zM5 (h:Host)(m p:Int)(s:Slot):(zbU h m p s).Buffer=(cond (ieq (ix (ix h.Mons m mZ).Outer p sZ).Page (-1)) h.Buffer (flushed h.Buffer (ix (ix h.Mons m mZ).Outer p sZ).Page)) /\
 (zbU h m p s).IoBuffer=(cond (ieq (ix (ix h.Mons m mZ).Outer p sZ).Page (-1)) h.IoBuffer (flushed h.IoBuffer (ix (ix h.Mons m mZ).Outer p sZ).Page)):=by
 unfold zbU
 by_cases e:(ix (ix h.Mons m zf).Outer p zI).Page = -1
 .rw [show ine (ix (ix h.Mons m zf).Outer p zI).Page (-1)=false by simp[ine,e],show ieq (ix (ix h.Mons m mZ).Outer p sZ).Page (-1)=true from zbg.2 e]
  exact ⟨rfl,rfl⟩
 .rw [show ine (ix (ix h.Mons m zf).Outer p zI).Page (-1)=true from zko.2 e,show ieq (ix (ix h.Mons m mZ).Outer p sZ).Page (-1)=false from zbE.2 e]
  exact ⟨rfl,rfl⟩
theorem zGZ {h h':Host}{m p:Int}{s:Slot}(hm:hasB m (ln h.Mons)=true)(hp:hasB p (ln (ix h.Mons m mZ).Outer)=true){x:Mon}(hM:h'.Mons=up h.Mons m x)(hG:x.Guests=(ix h.Mons m mZ).Guests)(hO:x.Outer=up (ix h.Mons m mZ).Outer p s){e:Entry}(he:zb0 h e=true)(hn:(ix (ix h.Mons m mZ).Outer p sZ).Page = -1\/e.Host≠(ix (ix h.Mons m mZ).Outer p sZ).Page):zb0 h' e=true:=by
 obtain ⟨h1,h2,h3⟩:=zes.1 he;rw[zes,hM,zdh];refine ⟨h1,?_⟩
 by_cases hc:m=zcg e.Tag
 .rw [<- hc]at h1 h2 h3 ⊢;rw[zY hm,hG,hO];refine ⟨h2,?_⟩
  by_cases hq:(zbf (ix (ix h.Mons m mZ).Guests (zc4 e.Tag) gZ).Live e.Page).Page=p
  .have key:zW (zbf (ix (ix h.Mons m mZ).Guests (zc4 e.Tag) gZ).Live e.Page) (ix h.Mons m mZ).Outer=noSlot\/e.Host≠(zW (zbf (ix (ix h.Mons m mZ).Guests (zc4 e.Tag) gZ).Live e.Page) (ix h.Mons m mZ).Outer).Page:=by
    rcases zU0 (s:=zbf (ix (ix h.Mons m mZ).Guests (zc4 e.Tag) gZ).Live e.Page) (o:=(ix h.Mons m mZ).Outer) with hz|hz
    .exact .inl hz
    .rw [hq]at hz;have hs:zbf (ix h.Mons m mZ).Outer p=ix (ix h.Mons m mZ).Outer p sZ:=by unfold zbf;rw[hp];rfl
     rw[hs]at hz;rcases hn with hn|hn
     .left
      unfold zW;rw[hq,hs,hn,show ieq (-1) (-1)=true from rfl]
      cases ieq p (-1)<;>rfl
     .exact .inr (by rw[hz];exact hn)
   have hno:(⟨e.Host,e.Rights⟩:Slot)=noSlot:=by
    rcases key with key|key
    .rw [key]at h3;exact zZq h3
    .rcases zl9.1 h3 with h|h
     .exact h
     .exact absurd h.1 key
   rw[hno];exact zl9.2 (.inl rfl)
  .rw [zGT (zn.1 hp).1 hq];exact h3
 .rw [zbk (zn.1 hm).1 (zn.1 h1).1 hc];exact ⟨h2,h3⟩
theorem zw3 {h:Host}(H:Rt h){m p:Int}(hm:hasB m (ln h.Mons)=true)(hp:hasB p (ln (ix h.Mons m mZ).Outer)=true)(ht:(ix h.Mons m mZ).Tables.length=(ix h.Mons m mZ).Guests.length)(s:Slot):Rt (zbU h m p s):=by
 have hb:=zM5 h m p s;have hM:=zqv h m p s;have key:∀(b:List Entry),(∀e∈b,zb0 h e=true)->∀e∈(cond (ieq (ix (ix h.Mons m mZ).Outer p sZ).Page (-1)) b (flushed b (ix (ix h.Mons m mZ).Outer p sZ).Page)),zb0 (zbU h m p s) e=true:=by
  intro b hb e he
  by_cases ho:(ix (ix h.Mons m mZ).Outer p sZ).Page = -1
  .rw [zbg.2 ho,cond_true]at he;exact zGZ hm hp hM rfl rfl (hb e he) (.inl ho)
  .rw [zbE.2 ho,cond_false]at he;obtain ⟨he1,he2⟩:=kT.1 he;exact zGZ hm hp hM rfl rfl (hb e he1) (.inr (by simpa [ieq] using he2))
 refine ⟨fun k hk=>?_,fun e he=>key _ H.e1 e (by rwa [hb.1]at he),fun e he=>key _ H.e2 e (by rwa [hb.2]at he)⟩
 rw[hM]at hk ⊢;rw[zdh]at hk
 by_cases hc:m=k
 .subst hc;rw[zY hm];exact zYR (H.t m hm) ht (zn.1 hp).1 s
 .rw [zbk (zn.1 hm).1 (zn.1 hk).1 hc];exact H.t k hk
theorem zMc:∀(l pre:List Entry),allI (alone (pre++l)) l pre.length=true↔(∀x∈l,∀y∈pre,sameKey x y=false)/\l.Pairwise (fun y x=>sameKey x y=false)
 | [],pre=>by simp[allI]
 | x :: l,pre=>by
  have ih:=zMc l (pre++[x]);rw[kA,List.singleton_append,jR,uT] at ih;rw[allI,qD,ih,kP];have h1:alone (pre++x :: l) pre.length x=true↔∀y∈pre,sameKey x y=false:=by
   unfold alone;rw[kS rfl,qJ];simp
  rw[h1];constructor
  .rintro ⟨h2,h3,h4⟩
   refine ⟨fun z hz y hy=>?_,fun z hz=>h3 z hz x (by simp),h4⟩
   rcases qG.1 hz with rfl|hz
   .exact h2 y hy
   .exact h3 z hz y (by simp[hy])
  .rintro ⟨h2,h3,h4⟩
   refine ⟨fun y hy=>h2 x (by simp) y hy,fun z hz y hy=>?_,h4⟩
   rcases jF.1 hy with hy|hy
   .exact h2 z (by simp[hz]) y hy
   .rw [qF.1 hy];exact h3 z hz
theorem zBi {l:List Entry}:zev l=true↔l.Pairwise (fun y x=>sameKey x y=false)/\l.length<=6:=by
 unfold zev;have:=zMc l [];simp only[jQ,uV] at this;have h0:ile (ln l) 6=true↔l.length<=6:=by
  rw[ile,qW,ln];omega
 rw[zbV,this,h0];simp
theorem zwg {l:List Entry}(h:zev l=true)(P:Entry->Bool):zev (l.filter P)=true:=by
 rw[zBi]at h ⊢;exact ⟨h.1.sublist List.filter_sublist,jE (k9 _ _) h.2⟩
theorem zDe {l:List Entry}(h:zev l=true)(p:Int):zev (flushed l p)=true:=zwg h _
theorem zPd {x x':Mon}{p:Int}(hp:hasB p (ln x.Outer)=true){s:Slot}(h:x'.Outer=up x.Outer p s)(q:Int):cPg x' q+(if (ix x.Outer p sZ).Page=q then 1 else 0)=cPg x q+(if s.Page=q then 1 else 0):=by
 have:=zMj (fun s=>ieq s.Page q) hp s sZ;simp only[zbg] at this;unfold cPg;rw[h];exact this
theorem znX {s:Slot}(hs:SOk s){c:List Int}:zku s c=true↔(s.Page = -1->zb5 c=true)/\(s.Page≠-1->enough s.Rights 1=true/\c=[]):=by
 unfold zku
 by_cases e:s=noSlot
 .rw [ziv.2 e,cond_true,e];simp[noSlot]
 .rw [zpU.2 e,cond_false,zbV];have:s.Page≠-1:=fun h=>e (hs.none h);have h0:ile (ln c) 0=true↔c=[]:=by
   rw[ile,qW,ln,<- List.length_eq_zero_iff];omega
  rw[h0];exact ⟨fun h=>⟨fun h'=>absurd h' this,fun _=>h⟩,fun h=>h.2 this⟩
structure Chg (x x':Mon) (p:Int) (s:Slot) (c:List Int):Prop where
 o:x'.Outer=up x.Outer p s
 u:x'.Out=up x.Out p c
 g:x'.Guests=x.Guests
 t:x'.Tables.length=x.Tables.length
 d:x'.Dirty.length=x.Dirty.length
 a1:x'.Outs=x.Outs
 a2:x'.Pending=x.Pending
 a3:x'.Traps=x.Traps
 a4:x'.Own=x.Own
theorem MOk.chg {x x':Mon}(H:MOk x){p:Int}(hp:hasB p 8=true){s:Slot}{c:List Int}(k:Chg x x' p s c)(hs:SOk s)(hf:zku s c=true):MOk x':=by
 refine ⟨by rw[k.g];exact H.g1,by rw[k.g];exact H.g2,by rw[k.t,k.g];exact H.gt,by rw[k.o,zbA];exact H.o8,fun y hy=>?_,by rw[k.u,zbA];exact H.u8,by rw[k.d];exact H.d8,by rw[k.a1];exact H.outs,by rw[k.a2];exact H.pend,by rw[k.a3];exact H.tr,by rw[k.a4];exact H.own,by rw[k.g];exact H.gs,fun q hq=>?_⟩
 .rw [k.o]at hy;rcases qZ hy with h|h
  .exact H.sl y h
  .rw [h];exact hs
 .rw [k.o,k.u]
  by_cases e:p=q
  .subst e;rw[zY (H.hasO hp),zY (H.hasU hp)];exact hf
  .rw [zbk (zn.1 hp).1 (zn.1 hq).1 e,zbk (zn.1 hp).1 (zn.1 hq).1 e];exact H.fit q hq
structure Like (h r:Host):Prop where
 len:r.Mons.length=h.Mons.length
 g:∀i,hasB i (ln h.Mons)=true->(ix r.Mons i mZ).Guests=(ix h.Mons i mZ).Guests
 o:∀i,hasB i (ln h.Mons)=true->(ix r.Mons i mZ).Outs=(ix h.Mons i mZ).Outs
 p:∀i,hasB i (ln h.Mons)=true->(ix r.Mons i mZ).Pending=(ix h.Mons i mZ).Pending
 tr:∀i,hasB i (ln h.Mons)=true->(ix r.Mons i mZ).Traps=(ix h.Mons i mZ).Traps
 ow:∀i,hasB i (ln h.Mons)=true->(ix r.Mons i mZ).Own=(ix h.Mons i mZ).Own
 pg:∀i k,hasB i (ln h.Mons)=true->hasB k 8=true->zcN r i k=zcN h i k
theorem Like.refl (h:Host):Like h h:=⟨rfl,fun _ _=>rfl,fun _ _=>rfl,fun _ _=>rfl,fun _ _=>rfl,fun _ _=>rfl,fun _ _ _ _=>rfl⟩
theorem Like.trans {a b c:Host}(x:Like a b)(y:Like b c):Like a c:=by
 have k:∀i,hasB i (ln a.Mons)=true->hasB i (ln b.Mons)=true:=fun i hi=>by unfold ln at hi ⊢;rwa [x.len]
 exact ⟨y.len.trans x.len,fun i h=>(y.g i (k i h)).trans (x.g i h),fun i h=>(y.o i (k i h)).trans (x.o i h),fun i h=>(y.p i (k i h)).trans (x.p i h),fun i h=>(y.tr i (k i h)).trans (x.tr i h),fun i h=>(y.ow i (k i h)).trans (x.ow i h),fun i q h hq=>(y.pg i q (k i h) hq).trans (x.pg i q h hq)⟩
theorem Like.has {h r:Host}(k:Like h r){i:Int}:hasB i (ln r.Mons)=hasB i (ln h.Mons):=by unfold ln;rw[k.len]
theorem zoX {h r:Host}{m:Int}:∀(n i:Nat),(∀k:Nat,i<=k->k<i+n->zcN r m (k:Int)=zcN h m (k:Int))->zcp r m n i=zcp h m n i
 | 0,i,_=>rfl
 | n+1,i,h=>by
  rw[zcp,zcp,h i (by omega) (by omega),zoX n (i+1) (fun k h1 h2=>h k (by omega) (by omega))]
theorem Like.seen {h r:Host}(k:Like h r)(m:Int):zB r m=zB h m:=by
 unfold zB;rw[k.has];cases hm:hasB m (ln h.Mons) with
 | false=>rfl
 | true =>
  simp only[cond_true];rw[k.g m hm,k.o m hm,k.p m hm,zoX 8 0 (fun j h1 h2=>k.pg m j hm (zn.2 (by omega)))]
theorem zmg {h:Host}{m p:Int}(hm:hasB m (ln h.Mons)=true)(hp:hasB p 8=true)(ho:hasB p (ln (ix h.Mons m mZ).Outer)=true) :
 zcN h m p=bif ieq (ix (ix h.Mons m mZ).Outer p sZ).Page (-1) then zb8 (ix h.Mons m mZ).Out p else zb8 h.Memory (ix (ix h.Mons m mZ).Outer p sZ).Page:=by
 unfold zcN;have:zbf (ix h.Mons m mZ).Outer p=ix (ix h.Mons m mZ).Outer p sZ:=by unfold zbf;rw[ho];rfl
 rw[hm,hp,cond_true,cond_true,this]
 by_cases e:(ix (ix h.Mons m mZ).Outer p sZ).Page = -1
 .rw [zbg.2 e,show ine (ix (ix h.Mons m mZ).Outer p sZ).Page (-1)=false by simp[ine,e]];rfl
 .rw [zbE.2 e,show ine (ix (ix h.Mons m mZ).Outer p sZ).Page (-1)=true from zko.2 e];rfl
theorem zjJ {m:List (List Int)}{p:Int}(h:hasB p (ln m)=true):zb8 m p=ix m p []:=by unfold zb8;rw[h];rfl
theorem zMQ {m:List (List Int)}(h:∀c∈m,zb5 c=true)(p:Int):zb5 (zb8 m p)=true:=by
 unfold zb8;cases hp:hasB p (ln m) with
 | false=>rfl
 | true=>exact h _ (zkp hp _)
theorem zt1 {h r:Host}(H:HOk h){m p:Int}(hm:hasB m (ln h.Mons)=true)(hp:hasB p 8=true){x:Mon}{s:Slot}{c:List Int}(hM:r.Mons=up h.Mons m x)(k:Chg (ix h.Mons m mZ) x p s c)(hs:SOk s)(hf:zku s c=true)(m12:r.Memory.length=12)(pgs:∀c∈r.Memory,zb5 c=true)(b1:zev r.Buffer=true)(b2:zev r.IoBuffer=true)(uq:0<=s.Page->s.Page=(ix (ix h.Mons m mZ).Outer p sZ).Page\/zd0 h.Mons s.Page=0):HOk r:=by
 refine H.up hm ((H.mon hm).chg hp k hs hf) hM m12 pgs b1 b2 fun q hq=>?_;have h1:=zPd ((H.mon hm).hasO hp) k.o q
 by_cases e:s.Page=q
 .have e2:=uq (by omega)
  rw[if_pos e]at h1;rcases e2 with e2|e2
  .rw [if_pos (by omega)]at h1;left;omega
  .right
   rw[e] at e2;refine ⟨e2,?_⟩;have:=zv7 hm x q;have h4:cPg (ix h.Mons m mZ) q<=zd0 h.Mons q:=by
    have:=zv7 hm (⟨[],[],[],[],[],0,0,[],0⟩:Mon) q;have e0:cPg (⟨[],[],[],[],[],0,0,[],0⟩:Mon) q=0:=rfl;omega
   omega
 .rw [if_neg e]at h1
  left
  split at h1<;>omega
theorem ztd {h r:Host}(H:HOk h){m p:Int}(hm:hasB m (ln h.Mons)=true)(hp:hasB p 8=true){x:Mon}{s:Slot}{c:List Int}(hM:r.Mons=up h.Mons m x)(k:Chg (ix h.Mons m mZ) x p s c)(hpg:(cond (ieq s.Page (-1)) c (zb8 r.Memory s.Page))=zcN h m p)(hmem:∀i q,hasB i (ln h.Mons)=true->hasB q 8=true->¬ (i=m/\q=p)->(ix (ix h.Mons i mZ).Outer q sZ).Page≠-1->zb8 r.Memory (ix (ix h.Mons i mZ).Outer q sZ).Page=zb8 h.Memory (ix (ix h.Mons i mZ).Outer q sZ).Page):Like h r:=by
 have hm0:=(zn.1 hm).1;have hp0:=(zn.1 hp).1;have e:∀{α:Type} (F:Mon->α),F x=F (ix h.Mons m mZ)->∀i,hasB i (ln h.Mons)=true->F (ix r.Mons i mZ)=F (ix h.Mons i mZ):=by
  intro α F hF i hi;rw[hM]
  by_cases e:m=i
  .subst e;rw[zY hm];exact hF
  .rw [zbk hm0 (zn.1 hi).1 e]
 refine ⟨by rw[hM,zbA],e Mon.Guests k.g,e Mon.Outs k.a1,e Mon.Pending k.a2,e Mon.Traps k.a3,e Mon.Own k.a4,fun i q hi hq=>?_⟩
 have hi':hasB i (ln r.Mons)=true:=by rw[hM,zdh];exact hi
 have hO:=(H.mon hi).hasO hq;have hO':hasB q (ln (ix r.Mons i mZ).Outer)=true:=by
  rw[hM]
  by_cases e:m=i
  .subst e;rw[zY hm,k.o,zdh];exact hO
  .rw [zbk hm0 (zn.1 hi).1 e];exact hO
 rw[zmg hi' hq hO']
 by_cases e:m=i
 .subst e;rw[hM,zY hm,k.o,k.u]
  by_cases e2:p=q
  .subst e2;rw[zY ((H.mon hm).hasO hp),<- hpg];cases ieq s.Page (-1)
   .rfl
   .rw [cond_true,cond_true,zjJ (by rw[zdh];exact (H.mon hm).hasU hp),zY ((H.mon hm).hasU hp)]
  .rw [zbk hp0 (zn.1 hq).1 e2,zmg hm hq hO]
   by_cases e3:(ix (ix h.Mons m mZ).Outer q sZ).Page = -1
   .rw [zbg.2 e3,cond_true,cond_true,zjJ (by rw[zdh];exact (H.mon hm).hasU hq),zjJ ((H.mon hm).hasU hq),zbk hp0 (zn.1 hq).1 e2]
   .rw [zbE.2 e3,cond_false,cond_false,hmem m q hm hq (fun h=>e2 h.2.symm) e3]
 .rw [hM,zbk hm0 (zn.1 hi).1 e,zmg hi hq hO]
  by_cases e3:(ix (ix h.Mons i mZ).Outer q sZ).Page = -1
  .rw [zbg.2 e3,cond_true,cond_true]
  .rw [zbE.2 e3,cond_false,cond_false,hmem i q hi hq (fun h=>e h.1.symm) e3]
structure Op (h r:Host):Prop where
 ok:HOk r
 like:Like h r
 rt:Rt h->Rt r
theorem Op.refl {h:Host}(H:HOk h):Op h h:=⟨H,Like.refl h,id⟩
theorem Op.trans {a b c:Host}(x:Op a b)(y:Op b c):Op a c:=⟨y.ok,x.like.trans y.like,fun h=>y.rt (x.rt h)⟩
theorem Op.safe {h r:Host}(k:Op h r)(s:Safe h):Safe r:=⟨k.ok,k.rt s.rt⟩
theorem zII {h r:Host}(H:Rt h){m:Int}(hm:hasB m (ln h.Mons)=true){x:Mon}(hM:r.Mons=up h.Mons m x)(hb1:r.Buffer=h.Buffer)(hb2:r.IoBuffer=h.IoBuffer)(hl:x.Guests.length=(ix h.Mons m mZ).Guests.length)(hv:∀g,hasB g (ln (ix h.Mons m mZ).Guests)=true->(ix x.Guests g gZ).Live=(ix (ix h.Mons m mZ).Guests g gZ).Live)(ht:x.Tables=(ix h.Mons m mZ).Tables)(ho:x.Outer=(ix h.Mons m mZ).Outer):Rt r:=by
 have hm0:=(zn.1 hm).1;have hg:∀g,hasB g (ln x.Guests)=hasB g (ln (ix h.Mons m mZ).Guests):=fun g=>by unfold ln;rw[hl]
 have key:∀e,zb0 h e=true->zb0 r e=true:=by
  intro e he;obtain ⟨h1,h2,h3⟩:=zes.1 he;rw[zes,hM,zdh];refine ⟨h1,?_⟩
  by_cases hc:m=zcg e.Tag
  .rw [<- hc]at h1 h2 h3 ⊢;rw[zY hm,hg,hv _ h2,ho];exact ⟨h2,h3⟩
  .rw [zbk hm0 (zn.1 h1).1 hc];exact ⟨h2,h3⟩
 refine ⟨fun k hk=>?_,fun e he=>key e (H.e1 e (by rwa [hb1]at he)),fun e he=>key e (H.e2 e (by rwa [hb2]at he))⟩
 rw[hM]at hk ⊢;rw[zdh]at hk
 by_cases hc:m=k
 .subst hc;rw[zY hm];intro g hgg;rw[hg]at hgg;rw[ht,hv g hgg,ho];exact H.t m hm g hgg
 .rw [zbk hm0 (zn.1 hk).1 hc];exact H.t k hk
theorem znD {h h1:Host}{m p:Int}{s:Slot}{x:Mon}(hm:hasB m (ln h.Mons)=true)(e:h1.Mons=up h.Mons m x):(zbU h1 m p s).Mons=up h.Mons m (ziw x p s):=by
 rw[zqv,e,zY hm,zZc]
theorem zzc {x x1:Mon}{p:Int}{s:Slot}{c:List Int}(ho:x1.Outer=x.Outer)(hu:x1.Out=up x.Out p c)(hg:x1.Guests=x.Guests)(ht:x1.Tables=x.Tables)(hd:x1.Dirty.length=x.Dirty.length)(h1:x1.Outs=x.Outs)(h2:x1.Pending=x.Pending)(h3:x1.Traps=x.Traps)(h4:x1.Own=x.Own):Chg x (ziw x1 p s) p s c :=
 ⟨by show up x1.Outer p s=_;rw[ho],hu,hg,by show (zj6 x1.Guests p x1.Tables.length x1.Tables).length=_;rw[zA4,ht],hd,h1,h2,h3,h4⟩
theorem zsw {h:Host}{m p:Int}{s:Slot}(h1:zev h.Buffer=true)(h2:zev h.IoBuffer=true):zev (zbU h m p s).Buffer=true/\zev (zbU h m p s).IoBuffer=true:=by
 have:=zM5 h m p s;rw[this.1,this.2];cases ieq (ix (ix h.Mons m mZ).Outer p sZ).Page (-1)
 .exact ⟨zDe h1 _,zDe h2 _⟩
 .exact ⟨h1,h2⟩
theorem z6A {h:Host}(H:HOk h){s:Slot}(hs:SOk s)(hp:s.Page≠-1):hasB s.Page (ln h.Memory)=true:=by
 have:=hs.pos hp;exact zn.2 ⟨this.1,by unfold ln;rw[H.m12];omega⟩
theorem zLg {h:Host}(H:HOk h){m p:Int}(hm:hasB m (ln h.Mons)=true)(hp:hasB p 8=true)(hn:(ix (ix h.Mons m mZ).Outer p sZ).Page≠-1):Op h (zcC h m p):=by
 have X:=H.mon hm;have hM:(zcC h m p).Mons=up h.Mons m (ziw { ix h.Mons m mZ with Out:=up (ix h.Mons m mZ).Out p (zb8 h.Memory (ix (ix h.Mons m mZ).Outer p sZ).Page) } p noSlot):=znD hm rfl;have k:Chg (ix h.Mons m mZ) (ziw { ix h.Mons m mZ with Out:=up (ix h.Mons m mZ).Out p (zb8 h.Memory (ix (ix h.Mons m mZ).Outer p sZ).Page) } p noSlot) p noSlot (zb8 h.Memory (ix (ix h.Mons m mZ).Outer p sZ).Page):=zzc rfl rfl rfl rfl rfl rfl rfl rfl rfl;have hmem:(zcC h m p).Memory=h.Memory:=zuG _ _ _ _;have hb:=zsw (h:=zd3 h m p) (m:=m) (p:=p) (s:=noSlot) H.b1 H.b2;refine ⟨zt1 H hm hp hM k (.inl rfl) ((znX (.inl rfl)).2 ⟨fun _=>zMQ H.pgs _,fun h=>absurd rfl h⟩) (by rw[hmem];exact H.m12) (by rw[hmem];exact H.pgs) hb.1 hb.2 (fun h=>absurd h (by decide)),
  ztd H hm hp hM k ?_ (fun i q _ _ _ _=>by rw[hmem]),fun R=>?_⟩
 .rw [zmg hm hp (X.hasO hp),zbE.2 hn];rfl
 .have R1:Rt (zd3 h m p):=zII (x:={ ix h.Mons m mZ with Out:=up (ix h.Mons m mZ).Out p (zb8 h.Memory (ix (ix h.Mons m mZ).Outer p sZ).Page) }) R hm rfl rfl rfl rfl (fun _ _=>rfl) rfl rfl;have hm1:hasB m (ln (zd3 h m p).Mons)=true:=by show hasB m (ln (up h.Mons m _))=true;rw[zdh];exact hm
  have e1:ix (zd3 h m p).Mons m mZ={ ix h.Mons m mZ with Out:=up (ix h.Mons m mZ).Out p (zb8 h.Memory (ix (ix h.Mons m mZ).Outer p sZ).Page) }:=zY hm _ _;exact zw3 R1 hm1 (by rw[e1];exact X.hasO hp) (by rw[e1];exact X.gt) noSlot
theorem zDk {o:List Slot}{q:Int}:zmG o q=none↔o.countP (fun s=>ieq s.Page q)=0:=by
 unfold zmG;rw[List.findIdx?_eq_none_iff,uX];simp
theorem zSu {o:List Slot}{q:Int}{k:Nat}(h:zmG o q=some k):∃hk:k<o.length,o[k].Page=q:=by
 unfold zmG at h;rw[uQ]at h;obtain ⟨hk,h1,_⟩:=h;exact ⟨hk,zbg.1 h1⟩
theorem zwX {q:Int}:∀(l:List Mon) (i:Nat),((zg5 q l i).1<0↔zd0 l q=0)/\(¬ (zg5 q l i).1<0->∃a b:Nat,∃ha:a<l.length,∃hb:b<l[a].Outer.length,zg5 q l i=(((i+a:Nat):Int),(b:Int))/\l[a].Outer[b].Page=q)
 | [],i=>⟨by simp[zg5,zd0],fun h=>absurd (show (-1:Int)<0 by decide) h⟩
 | x :: l,i=>by
  have ih:=zwX (q:=q) l (i+1);unfold zg5;split
  .rename_i k hk;obtain ⟨h1,h2⟩:=zSu hk;refine ⟨⟨fun h=>by simp at h;omega,fun h=>?_⟩,fun _=>⟨0,k,by simp,h1,by simp,h2⟩⟩
   exfalso;simp only[zd0,jC,uF]at h;have h3:x.Outer.countP (fun s=>ieq s.Page q)=0:=by unfold cPg at h;omega
   rw[zDk.2 h3]at hk;cases hk
  .rename_i hk;have h3:=zDk.1 hk;refine ⟨?_,fun h=>?_⟩
   .rw [ih.1];simp only[zd0,jC,uF];unfold cPg;omega
   .obtain ⟨a,b,ha,hb,e,hp⟩:=ih.2 h;exact ⟨a+1,b,by simpa using ha,by simpa using hb,by rw[e];simp;omega,by simpa using hp⟩
theorem zFB {h:Host}{q:Int}(hq:0<=q):(zbr h q).1<0↔zd0 h.Mons q=0:=by
 unfold zbr;rw[show ilt q 0=false from qQ (by omega),cond_false]
 exact (zwX h.Mons 0).1
theorem z0E {h:Host}(H:HOk h){q:Int}(hq:0<=q)(hn:¬ (zbr h q).1<0):hasB (zbr h q).1 (ln h.Mons)=true/\hasB (zbr h q).2 8=true/\(ix (ix h.Mons (zbr h q).1 mZ).Outer (zbr h q).2 sZ).Page=q:=by
 unfold zbr at hn ⊢;rw[show ilt q 0=false from qQ (by omega),cond_false]at hn ⊢
 obtain ⟨a,b,ha,hb,e,hp⟩:=(zwX h.Mons 0).2 hn;rw[e,jX];have h8:=(H.mons _ (jB ha)).o8;exact ⟨zn.2 (by unfold ln;simp;omega),zn.2 (by simp;omega),by rw[ziE ha,ziE hb];exact hp⟩
theorem zPW {P:Nat->Bool}:∀{n i:Nat} {q:Int},q∈zuh P n i↔∃k:Nat,q=(k:Int)/\i<=k/\k<i+n/\P k=true
 | 0,i,q=>by simp[zuh];intro k _ _ _;omega
 | n+1,i,q=>by
  have ih:=@zPW P n (i+1) q;unfold zuh;constructor
  .intro h;cases hx:P i with
   | true =>
    rw[hx,cond_true,qG]at h;rcases h with h|h
    .exact ⟨i,h,by omega,by omega,hx⟩
    .obtain ⟨k,h1,h2,h3,h4⟩:=ih.1 h;exact ⟨k,h1,by omega,by omega,h4⟩
   | false =>
    rw[hx,cond_false]at h;obtain ⟨k,h1,h2,h3,h4⟩:=ih.1 h;exact ⟨k,h1,by omega,by omega,h4⟩
  .rintro ⟨k,h1,h2,h3,h4⟩
   by_cases e:k=i
   .subst e;rw[h4,cond_true,h1];exact jD
   .have:=ih.2 ⟨k,h1,by omega,by omega,h4⟩
    cases P i
    .exact this
    .exact qU _ this
theorem zEC {h:Host}{q:Int}:q∈zbR h↔hasB q (ln h.Memory)=true/\zd0 h.Mons q=0:=by
 unfold zbR;rw[zPW];constructor
 .rintro ⟨k,rfl,h1,h2,h3⟩
  exact ⟨zn.2 (by unfold ln;omega),(zFB (by omega)).1 (qE h3)⟩
 .rintro ⟨h1,h2⟩
  have h1':=zn.1 h1;unfold ln at h1';refine ⟨q.toNat,by omega,by omega,by omega,?_⟩
  rw[show ((q.toNat:Nat):Int)=q by omega]
  exact qL ((zFB h1'.1).2 h2)
theorem zVv {h:Host}(hn:zbR h≠[]):hasB (ix (zbR h) 0 0) (ln h.Memory)=true/\zd0 h.Mons (ix (zbR h) 0 0)=0:=by
 refine zEC.1 (zkp (zn.2 ⟨by omega,?_⟩) 0)
 unfold ln;have:=kL.2 hn;omega
structure But (h r:Host) (m p:Int):Prop where
 ne:∀i k,hasB i (ln h.Mons)=true->hasB k 8=true->¬ (i=m/\k=p)->ix (ix r.Mons i mZ).Outer k sZ=ix (ix h.Mons i mZ).Outer k sZ
theorem zEl {h r:Host}{m p:Int}(hm:hasB m (ln h.Mons)=true)(hp:hasB p 8=true){x:Mon}{s:Slot}(hM:r.Mons=up h.Mons m x)(ho:x.Outer=up (ix h.Mons m mZ).Outer p s):But h r m p:=by
 refine ⟨fun i k hi hk hc=>?_⟩;rw[hM]
 by_cases e:m=i
 .subst e;rw[zY hm,ho,zbk (zn.1 hp).1 (zn.1 hk).1 (fun e=>hc ⟨rfl,e.symm⟩)]
 .rw [zbk (zn.1 hm).1 (zn.1 hi).1 e]
theorem zM1 {h:Host}(H:HOk h){m p:Int}(hm:hasB m (ln h.Mons)=true)(hp:hasB p 8=true):But h (zcC h m p) m p/\ix (ix (zcC h m p).Mons m mZ).Outer p sZ=noSlot:=by
 have hM:(zcC h m p).Mons=up h.Mons m (ziw { ix h.Mons m mZ with Out:=up (ix h.Mons m mZ).Out p (zb8 h.Memory (ix (ix h.Mons m mZ).Outer p sZ).Page) } p noSlot):=znD hm rfl;refine ⟨zEl hm hp hM rfl,?_⟩;rw[hM,zY hm];exact zY ((H.mon hm).hasO hp) _ _
structure Roomy (h r:Host):Prop where
 op:Op h r
 free:zbR r≠[]
 sl:∀i k,hasB i (ln h.Mons)=true->hasB k 8=true->ix (ix r.Mons i mZ).Outer k sZ=ix (ix h.Mons i mZ).Outer k sZ\/ix (ix r.Mons i mZ).Outer k sZ=noSlot
 dirt:∀i,(ix r.Mons i mZ).Dirty=(ix h.Mons i mZ).Dirty
theorem zJx {h r:Host}{m:Int}(hm:hasB m (ln h.Mons)=true){x:Mon}(hM:r.Mons=up h.Mons m x)(hd:x.Dirty=(ix h.Mons m mZ).Dirty)(i:Int):(ix r.Mons i mZ).Dirty=(ix h.Mons i mZ).Dirty:=by
 rw[hM]
 by_cases e:i.toNat=m.toNat
 .have:∀l:List Mon,ix l i mZ=ix l m mZ:=fun l=>by unfold ix;rw[e]
  rw[this,this,zY hm,hd]
 .unfold ix up;simp[List.getD,jG,Ne.symm e]
theorem roomy {h:Host}(H:HOk h):Roomy h (zcu h):=by
 unfold zcu
 by_cases hf:zbR h=[]
 .rw [show ieq (ln (zbR h)) 0=true by rw[hf];rfl,cond_true]
  have hn:¬ (zbr h 0).1<0:=fun hc=>by
   have:(0:Int)∈zbR h:=zEC.2 ⟨zn.2 (by unfold ln;rw[H.m12];omega),(zFB (by omega)).1 hc⟩
   rw[hf] at this;cases this
  obtain ⟨h1,h2,h3⟩:=z0E H (by omega) hn
  have k:=zLg H h1 h2 (by rw[h3];decide)
  have hs:=zM1 H h1 h2;refine ⟨k,fun hc=>?_,fun i q hi hq=>?_,fun i=>zJx (x:=ziw { ix h.Mons (zbr h 0).1 mZ with Out:=up (ix h.Mons (zbr h 0).1 mZ).Out (zbr h 0).2 (zb8 h.Memory (ix (ix h.Mons (zbr h 0).1 mZ).Outer (zbr h 0).2 sZ).Page) } (zbr h 0).2 noSlot) h1 (znD h1 rfl) rfl i⟩
  .have:(0:Int)∈zbR (zcC h (zbr h 0).1 (zbr h 0).2):=by
    refine zEC.2 ⟨zn.2 (by unfold ln;rw[k.ok.m12];omega),?_⟩
    have hM:(zcC h (zbr h 0).1 (zbr h 0).2).Mons=up h.Mons (zbr h 0).1 (ziw { ix h.Mons (zbr h 0).1 mZ with Out:=up (ix h.Mons (zbr h 0).1 mZ).Out (zbr h 0).2 (zb8 h.Memory (ix (ix h.Mons (zbr h 0).1 mZ).Outer (zbr h 0).2 sZ).Page) } (zbr h 0).2 noSlot):=znD h1 rfl;have c1:=zv7 h1 (ziw { ix h.Mons (zbr h 0).1 mZ with Out:=up (ix h.Mons (zbr h 0).1 mZ).Out (zbr h 0).2 (zb8 h.Memory (ix (ix h.Mons (zbr h 0).1 mZ).Outer (zbr h 0).2 sZ).Page) } (zbr h 0).2 noSlot) 0;rw[<- hM] at c1;have c2:=zPd (x':=ziw { ix h.Mons (zbr h 0).1 mZ with Out:=up (ix h.Mons (zbr h 0).1 mZ).Out (zbr h 0).2 (zb8 h.Memory (ix (ix h.Mons (zbr h 0).1 mZ).Outer (zbr h 0).2 sZ).Page) } (zbr h 0).2 noSlot) ((H.mon h1).hasO h2) (s:=noSlot) rfl 0;rw[if_pos h3,if_neg (by decide)] at c2
    have c3:=H.uq 0 (by omega)
    omega
   rw[hc] at this;cases this
  .by_cases e:i=(zbr h 0).1/\q=(zbr h 0).2
   .rw [e.1,e.2];exact .inr hs.2
   .exact .inl (hs.1.ne i q hi hq e)
 .have:ieq (ln (zbR h)) 0=false:=zbE.2 (by unfold ln;have:=kL.2 hf;omega)
  rw[this,cond_false];exact ⟨Op.refl H,hf,fun i k hi hk=>.inl rfl,fun _=>rfl⟩
theorem zTE {m:List (List Int)}{p:Int}{c:List Int}(hp:hasB p (ln m)=true)(hc:zb5 c=true):zgE m p c=up m p c:=by unfold zgE;rw[hp,hc];rfl
theorem zz0 {m:List (List Int)}{p q:Int}{c:List Int}(hp:0<=p)(h:q≠p):zb8 (up m p c) q=zb8 m q:=by
 unfold zb8;rw[zdh];cases hq:hasB q (ln m) with
 | false=>rfl
 | true=>rw[cond_true,cond_true,zbk hp (zn.1 hq).1 (Ne.symm h)]
theorem zzZ {m:List (List Int)}{p:Int}{c:List Int}(hp:hasB p (ln m)=true):zb8 (up m p c) p=c:=by rw[zjJ (by rw[zdh];exact hp),zY hp]
theorem zVT {h:Host}(H:HOk h){m p to:Int}(hm:hasB m (ln h.Mons)=true)(hp:hasB p 8=true)(hn:(ix (ix h.Mons m mZ).Outer p sZ).Page = -1)(ht:hasB to (ln h.Memory)=true)(hf:zd0 h.Mons to=0) :
 Op h (zer h m p to)/\But h (zer h m p to) m p/\ix (ix (zer h m p to).Mons m mZ).Outer p sZ=⟨to,3⟩/\∀i,(ix (zer h m p to).Mons i mZ).Dirty=(ix h.Mons i mZ).Dirty:=by
 have X:=H.mon hm;have ht':=zn.1 ht;unfold ln at ht';rw[H.m12]at ht';have hM:(zer h m p to).Mons=up h.Mons m (ziw { ix h.Mons m mZ with Out:=up (ix h.Mons m mZ).Out p [] } p ⟨to,3⟩):=znD hm rfl;have k:Chg (ix h.Mons m mZ) (ziw { ix h.Mons m mZ with Out:=up (ix h.Mons m mZ).Out p [] } p ⟨to,3⟩) p ⟨to,3⟩ []:=zzc rfl rfl rfl rfl rfl rfl rfl rfl rfl;have hfit:=((znX (X.slot hp)).1 (X.fit p hp)).1 hn;have hmem:(zer h m p to).Memory=up h.Memory to (ix (ix h.Mons m mZ).Out p []):=by
  show (zbU (landing h m p to) m p ⟨to,3⟩).Memory=_
  rw[zuG];exact zTE ht hfit
 have hs:SOk ⟨to,3⟩:=.inr ⟨ht'.1,by show to<=11;omega,by show (1:Int)<=3;omega,by show (3:Int)<=3;omega⟩
 have hb:=zsw (h:=landing h m p to) (m:=m) (p:=p) (s:=⟨to,3⟩) H.b1 H.b2;refine ⟨⟨zt1 H hm hp hM k hs ((znX hs).2 ⟨fun h=>absurd h (by show to≠-1;omega),fun _=>⟨show enough 3 1=true by decide,rfl⟩⟩) (by rw[hmem,zbA];exact H.m12) (fun c hc=>?_) hb.1 hb.2 (fun _=>.inr hf),
  ztd H hm hp hM k ?_ (fun i q hi hq hc hne=>?_),fun R=>?_⟩,zEl hm hp hM rfl,?_,fun i=>zJx (x:=ziw { ix h.Mons m mZ with Out:=up (ix h.Mons m mZ).Out p [] } p ⟨to,3⟩) hm hM rfl i⟩
 .rw [hmem]at hc;rcases qZ hc with h1|h1
  .exact H.pgs c h1
  .rw [h1];exact hfit
 .rw [zmg hm hp (X.hasO hp),zbg.2 hn,cond_true,zjJ (X.hasU hp)];rw[show ieq (⟨to,3⟩:Slot).Page (-1)=false from zbE.2 (by show to≠-1;omega),cond_false,hmem]
  exact zzZ ht
 .rw [hmem];refine zz0 ht'.1 (fun e=>?_);have:=zEm hi ((H.mon hi).hasO hq);rw[e] at this;omega
 .have R1:Rt (landing h m p to):=zII (x:={ ix h.Mons m mZ with Out:=up (ix h.Mons m mZ).Out p [] }) R hm rfl rfl rfl rfl (fun _ _=>rfl) rfl rfl;have hm1:hasB m (ln (landing h m p to).Mons)=true:=by show hasB m (ln (up h.Mons m _))=true;rw[zdh];exact hm
  have e1:ix (landing h m p to).Mons m mZ={ ix h.Mons m mZ with Out:=up (ix h.Mons m mZ).Out p [] }:=zY hm _ _;exact zw3 R1 hm1 (by rw[e1];exact X.hasO hp) (by rw[e1];exact X.gt) _
 .rw [hM,zY hm];exact zY (X.hasO hp) _ _
theorem zIu {h:Host}(H:HOk h){m p:Int}(hm:hasB m (ln h.Mons)=true)(hp:hasB p 8=true)(hn:(ix (ix h.Mons m mZ).Outer p sZ).Page = -1) :
 Op h (fetched h m p)/\(∃to,0<=to/\to<=11/\ix (ix (fetched h m p).Mons m mZ).Outer p sZ=⟨to,3⟩)/\∀i,(ix (fetched h m p).Mons i mZ).Dirty=(ix h.Mons i mZ).Dirty:=by
 have R:=roomy H;have hm1:hasB m (ln (zcu h).Mons)=true:=by rw[R.op.like.has];exact hm
 have hn1:(ix (ix (zcu h).Mons m mZ).Outer p sZ).Page = -1:=by
  rcases R.sl m p hm hp with h1|h1<;>rw [h1]
  .exact hn
  .rfl
 obtain ⟨h1,h2⟩:=zVv R.free;obtain ⟨k1,k2,k3,k4⟩:=zVT R.op.ok hm1 hp hn1 h1 h2;have h1':=zn.1 h1;unfold ln at h1';rw[R.op.ok.m12]at h1';exact ⟨R.op.trans k1,⟨_,h1'.1,by omega,k3⟩,fun i=>(k4 i).trans (R.dirt i)⟩
theorem zmo {o:List Slot}{p:Int}(h:hasB p (ln o)=true):zbf o p=ix o p sZ:=by unfold zbf;rw[h];rfl
theorem zjM {h:Host}(H:HOk h){m p:Int}(hm:hasB m (ln h.Mons)=true)(hp:hasB p 8=true) :
 (cond (ieq (ix (ix h.Mons m mZ).Outer p sZ).Page (-1)) (ix (ix h.Mons m mZ).Out p []) (zb8 h.Memory (ix (ix h.Mons m mZ).Outer p sZ).Page))=zcN h m p:=by
 rw[zmg hm hp ((H.mon hm).hasO hp),zjJ ((H.mon hm).hasU hp)]
structure Mark (x y:Mon):Prop where
 o:y.Outer=x.Outer
 u:y.Out=x.Out
 g:y.Guests=x.Guests
 t:y.Tables=x.Tables
 d:y.Dirty.length=x.Dirty.length
 a1:y.Outs=x.Outs
 a2:y.Pending=x.Pending
 a3:y.Traps=x.Traps
 a4:y.Own=x.Own
theorem zUg {h:Host}(H:HOk h){m:Int}(hm:hasB m (ln h.Mons)=true){y:Mon}(k:Mark (ix h.Mons m mZ) y):Op h { h with Mons:=up h.Mons m y }/\∀i q,ix (ix (up h.Mons m y) i mZ).Outer q sZ=ix (ix h.Mons i mZ).Outer q sZ:=by
 have X:=H.mon hm;have h0:hasB 0 8=true:=by decide
 have c:Chg (ix h.Mons m mZ) y 0 (ix (ix h.Mons m mZ).Outer 0 sZ) (ix (ix h.Mons m mZ).Out 0 []):=⟨by rw[zFU (X.hasO h0),k.o],by rw[zFU (X.hasU h0),k.u],k.g,by rw[k.t],k.d,k.a1,k.a2,k.a3,k.a4⟩
 refine ⟨⟨zt1 H hm h0 rfl c (X.slot h0) (X.fit 0 h0) H.m12 H.pgs H.b1 H.b2 (fun _=>.inl rfl),ztd H hm h0 rfl c (zjM H hm h0) (fun _ _ _ _ _ _=>rfl),
  fun R=>zII R hm rfl rfl rfl (by rw[k.g]) (fun g _=>by rw[k.g]) k.t k.o⟩,fun i q=>?_⟩
 by_cases e:i.toNat=m.toNat
 .have:∀l:List Mon,ix l i mZ=ix l m mZ:=fun l=>by unfold ix;rw[e]
  rw[this,this,zY hm,k.o]
 .have:ix (up h.Mons m y) i mZ=ix h.Mons i mZ:=by
   unfold ix up;simp[List.getD,jG,Ne.symm e]
  rw[this]
theorem zIt {h:Host}(H:HOk h){m:Int}(hm:hasB m (ln h.Mons)=true)(p:Int):Op h (zbp h m p)/\∀i q,ix (ix (zbp h m p).Mons i mZ).Outer q sZ=ix (ix h.Mons i mZ).Outer q sZ :=
 zUg H hm ⟨rfl,rfl,rfl,rfl,zbA _ _ _,rfl,rfl,rfl,rfl⟩
theorem zYo {h:Host}(H:HOk h){m:Int}(hm:hasB m (ln h.Mons)=true)(p:Int):Op h (zms h m p)/\∀i q,ix (ix (zms h m p).Mons i mZ).Outer q sZ=ix (ix h.Mons i mZ).Outer q sZ :=
 zUg H hm ⟨rfl,rfl,rfl,rfl,zbA _ _ _,rfl,rfl,rfl,rfl⟩
theorem rights {r:Int}(h0:1<=r)(h3:r<=3):r=1\/r=2\/r=3:=by omega
theorem MOk.enough1 {x:Mon}(X:MOk x){p:Int}(hp:hasB p 8=true)(hn:(ix x.Outer p sZ).Page≠-1):(ix x.Outer p sZ).Rights=1\/(ix x.Outer p sZ).Rights=3:=by
 have h1:=(((znX (X.slot hp)).1 (X.fit p hp)).2 hn).1;have h2:=(X.slot hp).pos hn;rcases rights h2.2.2.1 h2.2.2.2 with e|e|e
 .exact .inl e
 .rw [e]at h1;exact absurd h1 (by decide)
 .exact .inr e
theorem zMN {h:Host}(H:HOk h){m p:Int}(hm:hasB m (ln h.Mons)=true)(hp:hasB p 8=true)(hn:(ix (ix h.Mons m mZ).Outer p sZ).Page≠-1){r:Int}(hr:r=1\/r=3) :
 Op h (zbU h m p ⟨(ix (ix h.Mons m mZ).Outer p sZ).Page,r⟩)/\But h (zbU h m p ⟨(ix (ix h.Mons m mZ).Outer p sZ).Page,r⟩) m p /\
  ix (ix (zbU h m p ⟨(ix (ix h.Mons m mZ).Outer p sZ).Page,r⟩).Mons m mZ).Outer p sZ=⟨(ix (ix h.Mons m mZ).Outer p sZ).Page,r⟩/\∀i,(ix (zbU h m p ⟨(ix (ix h.Mons m mZ).Outer p sZ).Page,r⟩).Mons i mZ).Dirty=(ix h.Mons i mZ).Dirty:=by
 have X:=H.mon hm;have hpos:=(X.slot hp).pos hn;have hM:=zqv h m p ⟨(ix (ix h.Mons m mZ).Outer p sZ).Page,r⟩;have k:Chg (ix h.Mons m mZ) (ziw (ix h.Mons m mZ) p ⟨(ix (ix h.Mons m mZ).Outer p sZ).Page,r⟩) p ⟨(ix (ix h.Mons m mZ).Outer p sZ).Page,r⟩ (ix (ix h.Mons m mZ).Out p []) :=
  zzc rfl (zFU (X.hasU hp) _).symm rfl rfl rfl rfl rfl rfl rfl
 have hs:SOk ⟨(ix (ix h.Mons m mZ).Outer p sZ).Page,r⟩:=.inr ⟨hpos.1,hpos.2.1,by show 1<=r;omega,by show r<=3;omega⟩
 have hfit:=((znX (X.slot hp)).1 (X.fit p hp)).2 hn;have hb:=zsw (h:=h) (m:=m) (p:=p) (s:=⟨(ix (ix h.Mons m mZ).Outer p sZ).Page,r⟩) H.b1 H.b2;have hmem:=zuG h m p ⟨(ix (ix h.Mons m mZ).Outer p sZ).Page,r⟩;refine ⟨⟨zt1 H hm hp hM k hs ((znX hs).2 ⟨fun h=>absurd h hn,fun _=>⟨?_,hfit.2⟩⟩) (by rw[hmem];exact H.m12) (by rw[hmem];exact H.pgs) hb.1 hb.2 (fun _=>.inl rfl),
  ztd H hm hp hM k (by rw[hmem];exact zjM H hm hp) (fun i q _ _ _ _=>by rw[hmem]),fun R=>zw3 R hm (X.hasO hp) X.gt _⟩,zEl hm hp hM rfl,?_,fun i=>zJx hm hM rfl i⟩
 .show enough r 1=true
  rcases hr with rfl|rfl<;>decide
 .rw [hM,zY hm];exact zY (X.hasO hp) _ _
structure Mended (h r:Host) (m p n:Int):Prop where
 op:Op h r
 inn:(ix (ix r.Mons m mZ).Outer p sZ).Page≠-1
 ri:ieq (wand .i64 n 2) 0=false->(ix (ix r.Mons m mZ).Outer p sZ).Rights=3
 dt:ieq (wand .i64 n 2) 0=false->ix (ix r.Mons m mZ).Dirty p false=true
 d0:ieq (wand .i64 n 2) 0=true->(ix r.Mons m mZ).Dirty=(ix h.Mons m mZ).Dirty
 dk:∀k,hasB k 8=true->k≠p->ix (ix r.Mons m mZ).Dirty k false=ix (ix h.Mons m mZ).Dirty k false
 dm:∀i,hasB i (ln h.Mons)=true->i≠m->(ix r.Mons i mZ).Dirty=(ix h.Mons i mZ).Dirty
theorem zQ8 {h:Host}(H:HOk h){m p:Int}(n:Int)(hm:hasB m (ln h.Mons)=true)(hp:hasB p 8=true)(hn:(ix (ix h.Mons m mZ).Outer p sZ).Page≠-1):Mended h (zg4 h m p n) m p n:=by
 unfold zg4;cases hw:ieq (wand .i64 n 2) 0 with
 | true=>exact ⟨Op.refl H,hn,fun e=>(Bool.noConfusion (hw.symm.trans e)),fun e=>(Bool.noConfusion (hw.symm.trans e)),fun _=>rfl,fun _ _ _=>rfl,fun _ _ _=>rfl⟩
 | false =>
  rw[cond_false];obtain ⟨k1,k2⟩:=zIt H hm p;have hm1:hasB m (ln (zbp h m p).Mons)=true:=by rw[k1.like.has];exact hm
  have hn1:(ix (ix (zbp h m p).Mons m mZ).Outer p sZ).Page≠-1:=by rw[k2];exact hn
  have hd:(ix (zbp h m p).Mons m mZ).Dirty=up (ix h.Mons m mZ).Dirty p true:=by
   show (ix (up h.Mons m _) m mZ).Dirty=_
   rw[zY hm]
  have hd2:∀i,hasB i (ln h.Mons)=true->i≠m->(ix (zbp h m p).Mons i mZ).Dirty=(ix h.Mons i mZ).Dirty:=fun i hi hc=>by
   show (ix (up h.Mons m _) i mZ).Dirty=_
   rw[zbk (zn.1 hm).1 (zn.1 hi).1 (Ne.symm hc)]
  have he:=(k1.ok.mon hm1).enough1 hp hn1;have hD:∀r:Host,(∀i,(ix r.Mons i mZ).Dirty=(ix (zbp h m p).Mons i mZ).Dirty)->Op (zbp h m p) r->(ix (ix r.Mons m mZ).Outer p sZ).Page≠-1->(ix (ix r.Mons m mZ).Outer p sZ).Rights=3->Mended h r m p n:=by
   intro r h1 h2 h3 h4;refine ⟨k1.trans h2,h3,fun _=>h4,fun _=>?_,fun e=>(Bool.noConfusion (hw.symm.trans e)),fun k hk hc=>?_,fun i hi hc=>by rw[h1,hd2 i hi hc]⟩
   .rw [h1,hd,zY ((H.mon hm).hasD hp)]
   .rw [h1,hd,zbk (zn.1 hp).1 (zn.1 hk).1 (Ne.symm hc)]
  unfold opened;rcases he with e|e
  .rw [e,show ieq (wand .i64 1 2) 0=true by decide,cond_true]
   obtain ⟨o1,o2,o3,o4⟩:=zMN k1.ok hm1 hp hn1 (r:=3) (.inr rfl);exact hD _ o4 o1 (by rw[o3];exact hn1) (by rw[o3])
  .rw [e,show ieq (wand .i64 3 2) 0=false by decide,cond_false]
   exact hD _ (fun _=>rfl) (Op.refl k1.ok) hn1 e
theorem zMM {h:Host}(H:HOk h){m p:Int}(n:Int)(hm:hasB m (ln h.Mons)=true)(hp:hasB p 8=true):Mended h (mended h m p n) m p n:=by
 unfold mended
 by_cases e:(ix (ix h.Mons m mZ).Outer p sZ).Page = -1
 .rw [zbg.2 e,cond_true];obtain ⟨k1,⟨to,t1,t2,t3⟩,k3⟩:=zIu H hm hp e;have K:=zQ8 k1.ok n (by rw[k1.like.has];exact hm) hp (by rw[t3];show to≠-1;omega)
  exact ⟨k1.trans K.op,K.inn,K.ri,K.dt,fun e=>by rw[K.d0 e,k3],fun k hk hc=>by rw[K.dk k hk hc,k3],fun i hi hc=>by rw[K.dm i (by rw[k1.like.has];exact hi) hc,k3]⟩
 .rw [zbE.2 e,cond_false];exact zQ8 H n hm hp e
theorem zjK {h:Host}{m p:Int}:zbJ h m p=true↔HOk h/\hasB m (ln h.Mons)=true/\hasB p 8=true:=by
 unfold zbJ;rw[zbV,zbV,zhJ]
theorem zwW {h:Host}(H:HOk h)(m p:Int):Op h (zbM h m p):=by
 unfold zbM;cases hh:zbJ h m p with
 | false=>exact Op.refl H
 | true =>
  obtain ⟨_,hm,hp⟩:=zjK.1 hh;rw[cond_true];unfold zfX
  by_cases e:(ix (ix h.Mons m mZ).Outer p sZ).Page = -1
  .rw [zbg.2 e];exact Op.refl H
  .rw [zbE.2 e];exact zLg H hm hp e
theorem zYn {h:Host}(H:HOk h)(m p:Int):Op h (zmV h m p):=by
 unfold zmV;cases hh:zbJ h m p with
 | false=>exact Op.refl H
 | true =>
  obtain ⟨_,hm,hp⟩:=zjK.1 hh;rw[cond_true];unfold zfX
  by_cases e:(ix (ix h.Mons m mZ).Outer p sZ).Page = -1
  .rw [zbg.2 e];exact (zIu H hm hp e).1
  .rw [zbE.2 e];exact Op.refl H
theorem zYm {h:Host}(H:HOk h)(m p:Int):Op h (zmJ h m p):=by
 unfold zmJ;cases hh:zbJ h m p with
 | false=>exact Op.refl H
 | true =>
  obtain ⟨_,hm,hp⟩:=zjK.1 hh;rw[cond_true];obtain ⟨k1,k2⟩:=zYo H hm p;cases e:zcd (ix (ix h.Mons m zf).Outer p zI) noSlot with
  | true=>exact k1
  | false =>
   rw[cond_false];have hn:(ix (ix h.Mons m mZ).Outer p sZ).Page≠-1:=fun h1=>zpU.1 e (((H.mon hm).slot hp).none h1);have:=zMN k1.ok (m:=m) (p:=p) (by rw[k1.like.has];exact hm) hp (by rw[k2];exact hn) (r:=1) (.inl rfl)
   rw[k2 m p] at this;exact k1.trans this.1
end
end Go.Proofs.YtdaahiceaagpdaaGreat.E
