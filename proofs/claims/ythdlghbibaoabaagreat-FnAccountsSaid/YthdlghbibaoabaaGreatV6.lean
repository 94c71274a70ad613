/- What is proved here: a part of the proof that the statement of this claim holds (several texts of wip/, laid together). -/
import Derived.Test.YthdlghbibaoabaaGreatV5
import Derived.WalkKit
import Derived.Tactics2
import Derived.Deep.RegionWith
namespace Go.Proofs.YthdlghbibaoabaaGreat.E
open Go
set_option linter.unusedVariables false
set_option maxRecDepth 100000
set_option linter.unusedSimpArgs false
set_option linter.unusedSectionVars false
noncomputable section
instance:Inhabited Slot:=⟨⟨0,0⟩⟩
instance:Inhabited Entry:=⟨⟨0,0,0,0⟩⟩
instance:Inhabited GExit:=⟨⟨0,0,false,0⟩⟩
instance:Inhabited Guest:=⟨⟨[],0,0,[],[],⟨0,0,false⟩,0,⟨0,0,false,0⟩,false,[]⟩⟩
theorem ztO {c:Cur}(h:zbd c){n m:Int}(h0:0<n)(h1:n<=m):inb (zl c n) m=true:=by have:=zfb h h0;exact qL (by omega)
theorem zA9 {c:Cur}(h:zbd c){n m:Int}(h0:0<n)(h1:n<=m+1):inr 0 (zl c n) m=true:=by have:=zfb h h0;exact qL (by omega)
theorem zBP {α:Type}(l:List α)(n:Int):(tk l n).length<=l.length:=by simp[tk];omega
theorem zg8 {α:Type}(l:List α)(n:Int)(x:α):(up l n x).length=l.length:=by simp[up]
theorem z2U {α:Type}(l:List α)(n:Int):ln (tk l n)<=ln l:=by have:=zBP l n;unfold ln;omega
theorem z2V {α:Type}(l:List α)(n:Int)(x:α):ln (up l n x)=ln l:=by unfold ln;rw[zg8]
def I64 (x:Int):Prop:=-9223372036854775808<=x/\x<=9223372036854775807
theorem zSX {α:Type}{c:Cur}(h:zbd c){P:α->Prop}{m:Int}(h0:0<=m)(hm:m<=1000){fc:Cur->Bool}{fs:Cur->Cur}{fv:Cur->α}(hf:∀{c:Cur},zbd c->fc c=true)(hp:∀c,0<=(fs c).i)(hg:∀{c:Cur},zbd c->P (fv c)){G:Ans->Prop}{R:Cur->List α->Ans}(hG:∀s l,s.b=c.b->0<=s.i->ln l=m->(∀x∈l,P x)->G (R s l)){σ:Type}(S:Int->Int×Int×List α->σ){F:(σ->OA)->σ->OA}(hF:∀rec t i k l,F rec (S t (i,k,l))=bif ilt t m then (cond (fc ⟨c.b,i,k⟩) (cond (few (ln (ap l [fv ⟨c.b,i,k⟩]))) (rec (S (zK .i64 t 1) ((fs ⟨c.b,i,k⟩).i,(fs ⟨c.b,i,k⟩).h,ap l [fv ⟨c.b,i,k⟩]))) none) none) else some (R ⟨c.b,i,k⟩ l)):Ends G (iter 1002 F (S 0 (c.i,c.h,[]))):=by refine zjJ (fun n s=>∃t i k l,s=S t (i,k,l)/\t+(n:Int)=1000/\0<=t/\t<=m/\0<=i/\(∀x∈l,P x)/\ln l=t) ?_ 1002 1000 _ ⟨0,c.i,c.h,[],rfl,rfl,kL 0,h0,h.1,by simp,rfl⟩ (by omega);rintro n s rec ⟨t,i,k,l,rfl,h1,h2,h3,h4,h5,h6⟩ hrec;rw[hF];have hcur:zbd ⟨c.b,i,k⟩:=zbH h h4;refine zby (fun hc=>?_) (fun hc=>?_);{have hlt:t<m:=qE hc;have ht:=zgx (y:=1) h2 (by omega) (by omega) (by omega);refine zq (hf hcur) (zq (zjK (by rw[zgM];omega)) (hrec (n-1) _ (by omega) ⟨_,_,_,_,rfl,by omega,by omega,by omega,hp _,?_,by rw[zgM];omega⟩));intro x hx;rcases jI.1 hx with hx|hx;{exact h5 x hx};{rw [qG.1 hx];exact hg hcur}};{have hge:¬ t<m:=jS hc;exact zsy (hG _ l rfl h4 (by omega) h5)}
def zqz (N:Nat)(c:Cur)  : OA :=
 let y0:=(zX c [3,3,1,2,0,3,1,(-1),4,9223372036854775807]); (oN (zbp c [3,3,1,2,0,3,1,(-1),4,9223372036854775807]) (some [(.agg [(.s .u8 c.b),(.i .i64 y0.i),(.i .i64 y0.h)]),(aI (zbi c [3,3,1,2,0,3,1,(-1),4,9223372036854775807]))]))
def zkY (c:Cur)(s:Cur)(v0:Int):Prop:=(∃N,zqz N c=some (AV.agg (zbT s)::[aI v0]))/\(s.b=c.b/\0<=s.i)/\(True)
def ziU (c:Cur)  : Bool:=wC (zkY c)
def ziV (c:Cur)  : Cur:=wS (zkY c)
def zpR (c:Cur)  : Int:=wV (zkY c)
theorem zP7 {c:Cur}(h:ziU c=true):zkY c (ziV c) (zpR c):=wG h
theorem zP9 (c:Cur)  : 0<=(ziV c).i:=wP fun h=>h.2.1.2
theorem zP8 (c:Cur)(h:∃N,Ends (wE (fun v0=>aI v0) c.b fun v0=>True) (zqz N c)):ziU c=true:=wI (fun _ _ h=>h) h
def zsW:zdo:=rP0 fun c=>(ziU c,ziV c,[aI (zpR c)])
theorem zD9:zbM Tryz.prog 278 [false,true,true] zsW:=hP0 zeo zV zyI zx (zy []) (fun _ h=>(zP7 h).1)
theorem z3t {c:Cur}(h:zbd c):ziU c=true:=by
 refine zP8 c ⟨0,?_⟩;unfold zqz oN;conv=>zeta
 exact zq (zet h (by simp)) (zbG aI (zbX _ _) trivial)
def z5F:zcQ:=[(278,([false,true,true],zsW))]++z5E
theorem zTd:zb1 z5F:=zco zyI (by
 intro x hx;simp only[qF,qP,or_false]at hx;rcases hx with rfl
 .exact zD9)
def z4K:zZ:=[(75,zta),(293,znd),(318,zoM),(319,zqY)]++zRf
theorem zdD:zL z4K:=zi zwK (zi zrm (zi zsF (zi zue zeo)))
def zvs (N:Nat)(c:Cur)(a0:Int):OA:=
 let y1:=({ (zO c 5) with b:=c.b}:Cur);let y0:=({ (zf y1 a0) with b:=c.b}:Cur); (oN (zcO c 5) (cond (zcV c 5) (oN zcp (some [(.agg [(.s .u8 c.b),(.i .i64 (zO c 5).i),(.i .i64 (zO c 5).h)]),(.agg [(.i .i64 zbt.Page),(.i .i64 zbt.Rights)])])) (oN (zo y1 a0) (oN (zbp y0 [3,3,3,1,2]) (some [(.agg [(.s .u8 c.b),(.i .i64 (zX y0 [3,3,3,1,2]).i),(.i .i64 (zX y0 [3,3,3,1,2]).h)]),(.agg [(.i .i64 (zl y1 a0)),(.i .i64 (zbi y0 [3,3,3,1,2]))])])))))
def znP (c:Cur)(a0:Int)(s:Cur)(v0:Slot):Prop:=(∃N,zvs N c a0=some (AV.agg (zbT s)::[aT .slot v0]))/\(s.b=c.b/\0<=s.i)/\((0<a0->a0<=1000->I64 v0.Page))
def zht (c:Cur)(a0:Int):Bool:=wC (znP c a0)
def zfu (c:Cur)(a0:Int):Cur:=wS (znP c a0)
def ze5 (c:Cur)(a0:Int):Slot:=wV (znP c a0)
theorem zv7 {c:Cur}{a0:Int}(h:zht c a0=true):znP c a0 (zfu c a0) (ze5 c a0):=wG h
theorem zFQ (c:Cur)(a0:Int):0<=(zfu c a0).i:=wP fun h=>h.2.1.2
theorem zVF (c:Cur)(a0:Int)(h:∃N,Ends (wE (fun v0=>aT .slot v0) c.b fun v0=>(0<a0->a0<=1000->I64 v0.Page)) (zvs N c a0)):zht c a0=true:=wI (fun _ _ h=>h) h
def zwY:zdo:=rP1 dI fun c b=>(zht c b,zfu c b,[aT .slot (ze5 c b)])
theorem zJo:zbM Tryz.prog 277 [false,true,true] zwY:=hP1 zdD zV zTd zx (zy []) (fun _ _ h=>(zv7 h).1)
theorem zKH {c:Cur}(h:zbd c)(a:Int):zht c a=true:=by
 refine zVF c a ⟨0,?_⟩;unfold zvs oN;conv=>zeta
 have h1:zbd {zO c 5 with b:=c.b}:=zbH h (zce _ _);have h2:zbd {zf {zO c 5 with b:=c.b} a with b:=c.b}:=zbH h (zA _ _);refine zq (zhN h 5) (zby (fun _=>zq rfl (zbG (aT .slot) (v:=⟨_,_⟩) (zce _ _) (fun _ _=>?_))) (fun _=>zq (zbs h1 a) (zq (zet h2 (by simp)) (zbG (aT .slot) (v:=⟨_,_⟩) (zbX _ _) (fun h0 h1'=>?_)))));{exact⟨by decide,by decide⟩};{have:=zfb h1 h0;exact⟨Int.le_trans (by decide) this.1,Int.le_trans (vJ this.2) (by omega)⟩}
def z5G:zcQ:=[(277,([false,true,true],zwY))]++z5F
theorem zHs:zb1 z5G:=zco zTd (by
 intro x hx;simp only[qF,qP,or_false]at hx;rcases hx with rfl
 .exact zJo)
def zxK (N:Nat)(c:Cur)(a0:Int):OA:=
 let y1:=({ (zfu c a0) with b:=c.b}:Cur);let y0:=({ (zf y1 12) with b:=c.b}:Cur);let y2:=(zX y0 [(-1),(-2),a0,9223372036854775807,(-9223372036854775808)]); (oN (zht c a0) (oN (zo y1 12) (cond (ieq (zl y1 12) 0) (oN (zbp y0 [(-1),(-2),a0,9223372036854775807,(-9223372036854775808)]) (some [(.agg [(.s .u8 c.b),(.i .i64 y2.i),(.i .i64 y2.h)]),(.agg [(.i .i64 (zbi y0 [(-1),(-2),a0,9223372036854775807,(-9223372036854775808)])),(.i .i64 (ze5 c a0).Rights)])])) (cond (ieq (zl y1 12) 1) (oN (ziU y0) (some [(.agg [(.s .u8 c.b),(.i .i64 (ziV y0).i),(.i .i64 (ziV y0).h)]),(.agg [(.i .i64 (ze5 c a0).Page),(.i .i64 (zpR y0))])])) (some [(.agg [(.s .u8 c.b),(.i .i64 (zf y1 12).i),(.i .i64 (zf y1 12).h)]),(.agg [(.i .i64 (ze5 c a0).Page),(.i .i64 (ze5 c a0).Rights)])])))))
def zpS (c:Cur)(a0:Int)(s:Cur)(v0:Slot):Prop:=(∃N,zxK N c a0=some (AV.agg (zbT s)::[aT .slot v0]))/\(s.b=c.b/\0<=s.i)/\((0<a0->a0<=1000->I64 v0.Page))
def znM (c:Cur)(a0:Int):Bool:=wC (zpS c a0)
def znN (c:Cur)(a0:Int):Cur:=wS (zpS c a0)
def zHF (c:Cur)(a0:Int):Slot:=wV (zpS c a0)
theorem zKz {c:Cur}{a0:Int}(h:znM c a0=true):zpS c a0 (znN c a0) (zHF c a0):=wG h
theorem zYz (c:Cur)(a0:Int):0<=(znN c a0).i:=wP fun h=>h.2.1.2
theorem zYy (c:Cur)(a0:Int)(h:∃N,Ends (wE (fun v0=>aT .slot v0) c.b fun v0=>(0<a0->a0<=1000->I64 v0.Page)) (zxK N c a0)):znM c a0=true:=wI (fun _ _ h=>h) h
def zzC:zdo:=rP1 dI fun c b=>(znM c b,znN c b,[aT .slot (zHF c b)])
theorem zL2:zbM Tryz.prog 213 [false,true,true] zzC:=hP1 zdD zV zHs zx (zy []) (fun _ _ h=>(zKz h).1)
theorem zNX {c:Cur}(h:zbd c)(a:Int):znM c a=true:=by
 refine zYy c a ⟨0,?_⟩;unfold zxK oN;conv=>zeta
 have h1:zbd {zfu c a with b:=c.b}:=zbH h (zFQ _ _);have h2:zbd {zf {zfu c a with b:=c.b} 12 with b:=c.b}:=zbH h (zA _ _);have g:=(zv7 (zKH h a)).2.2;refine zq (zKH h a) (zq (zbs h1 12) (zby (fun _=>zq (zet h2 (by simp)) (zbG (aT .slot) (v:=⟨zbi _ _,(ze5 c a).Rights⟩) (zbX _ _) (fun h0 h1'=>?_))) (fun _=>zby (fun _=>zq (z3t h2) (zbG (aT .slot) (v:=⟨(ze5 c a).Page,zpR _⟩) (zP9 _) (fun h0 h1=>g h0 h1))) (fun _=>zbG (aT .slot) (v:=⟨(ze5 c a).Page,(ze5 c a).Rights⟩) (zA _ _) (fun h0 h1=>g h0 h1)))));have hm:=zWI h2 (l:=[-1,-2,a,9223372036854775807,-9223372036854775808]) (by simp);simp only[qF,qP,or_false]at hm;unfold I64;dsimp only;omega
def zsi (N:Nat)(c:Cur)(a0 a1:Int):OA:=
 (iter (σ:=(Int×(Int×(Int×(Int×(Int×(lS×((List Int)×Unit)))))))) N (fun r4 s5=>let y2:=s5.2.2.2.2.2.2.1;let y0:=(⟨y2,s5.2.2.2.1,s5.2.2.2.2.1⟩:Cur);let y1:=(ap s5.2.2.2.2.2.1 [(ze5 y0 s5.2.1)]); (cond (ilt s5.2.2.1 s5.1) (oN (zht y0 s5.2.1) (oN (few (ln y1)) (r4 (s5.1,(s5.2.1,((zK .i64 s5.2.2.1 1),((zfu y0 s5.2.1).i,((zfu y0 s5.2.1).h,(y1,(y2,())))))))))) (some [(.agg [(.s .u8 y2),(.i .i64 s5.2.2.2.1),(.i .i64 s5.2.2.2.2.1)]),(aS .slot s5.2.2.2.2.2.1)]))) (a0,(a1,(0,(c.i,(c.h,([],(c.b,()))))))))
def zNp:FuncId->Nat->Option Tmpl:=zy [(212,0,{n:=22,tm:=[(0,.lp 0 0),(1,ti),(2,ti),(7,.sl 0 []),(8,ti)],lo:=[(0,[.sl 1 [],ti,ti])],ro:=[(0,.slot,true),(1,.u8,false)]})]
def zlQ (c:Cur)(a0:Int)(a1:Int)(s:Cur)(v0:List Slot):Prop:=(∃N,zsi N c a0 a1=some (AV.agg (zbT s)::[aS .slot v0]))/\(s.b=c.b/\0<=s.i)/\((0<=a0->a0<=1000->ln v0=a0/\(0<a1->a1<=1000->∀s∈v0,I64 s.Page)))
def zgE (c:Cur)(a0:Int)(a1:Int):Bool:=wC (zlQ c a0 a1)
def zF (c:Cur)(a0:Int)(a1:Int):Cur:=wS (zlQ c a0 a1)
def zc9 (c:Cur)(a0:Int)(a1:Int):List Slot:=wV (zlQ c a0 a1)
theorem ztn {c:Cur}{a0:Int}{a1:Int}(h:zgE c a0 a1=true):zlQ c a0 a1 (zF c a0 a1) (zc9 c a0 a1):=wG h
theorem zgF (c:Cur)(a0:Int)(a1:Int):0<=(zF c a0 a1).i:=wP fun h=>h.2.1.2
theorem zTu (c:Cur)(a0:Int)(a1:Int)(h:∃N,Ends (wE (fun v0=>aS .slot v0) c.b fun v0=>(0<=a0->a0<=1000->ln v0=a0/\(0<a1->a1<=1000->∀s∈v0,I64 s.Page))) (zsi N c a0 a1)):zgE c a0 a1=true:=wI (fun _ _ h=>h) h
def zup:zdo:=rP2 dI dI fun c b d=>(zgE c b d,zF c b d,[aS .slot (zc9 c b d)])
theorem zGV:zbM Tryz.prog 212 [false,true,true] zup:=hP2 zdD zV zHs zx zNp (fun _ _ _ h=>(ztn h).1)
theorem zxD {c:Cur}(h:zbd c){a0:Int}(h0:0<=a0)(h1:a0<=1000)(a1:Int):zgE c a0 a1=true:=by
 refine zTu c a0 a1 ⟨1002,?_⟩;unfold zsi oN;conv=>zeta
 exact zSX h (P:=fun s=>0<a1->a1<=1000->I64 s.Page) h0 h1 (fc:=fun c=>zht c a1) (fs:=fun c=>zfu c a1) (fv:=fun c=>ze5 c a1) (R:=fun s l=>AV.agg (zbT s)::[aS .slot l]) (fun h=>zKH h a1) (fun c=>zFQ c a1) (fun h=>(zv7 (zKH h a1)).2.2) (fun s l hb hi hl hp=>⟨s,l,rfl,⟨hb,hi⟩,fun _ _=>⟨hl,fun g1 g2 s hs=>hp s hs g1 g2⟩⟩) ((fun i t=>(a0,a1,(i:Int),t.1,t.2.1,t.2.2,c.b,())):Int->Int×Int×List Slot->_) (fun rec t i k l=>rfl)
theorem z7O {c:Cur}(h:zbd c){n m:Int}(h0:0<=n)(h1:n<=1000)(h2:0<m)(h3:m<=1000):ln (zc9 c n m)=n/\∀s∈zc9 c n m,I64 s.Page:=by have g:=(ztn (zxD h h0 h1 m)).2.2 h0 h1;exact⟨g.1,g.2 h2 h3⟩
def z5H:zcQ:=[(213,([false,true,true],zzC)),(212,([false,true,true],zup))]++z5G
theorem zHt:zb1 z5H:=zco zHs (by
 intro x hx;simp only[qF,qP,or_false]at hx;rcases hx with rfl|rfl
 .exact zL2
 .exact zGV)
def zmK (N:Nat)(c:Cur)(a0 a1:Int):OA:=
 let y3:=(zc9 c a0 a1);let y1:=({ (zF c a0 a1) with b:=c.b}:Cur);let y0:=({ (zf y1 8) with b:=c.b}:Cur);let y4:=(zl y0 a0);let y2:=({ (zf y0 a0) with b:=c.b}:Cur); (oN (zgE c a0 a1) (oN (zo y1 8) (cond (ieq (zl y1 8) 0) (oN (zo y0 a0) (oN (znM y2 a1) (oN (inb y4 (ln y3)) (share (up y3 y4 (zHF y2 a1)) (fun x4=>(some [(.agg [(.s .u8 c.b),(.i .i64 (znN y2 a1).i),(.i .i64 (znN y2 a1).h)]),(aS .slot x4)])))))) (cond (ieq (zl y1 8) 1) (oN (zo y0 a0) (oN (inr 0 y4 (ln y3)) (some [(.agg [(.s .u8 c.b),(.i .i64 (zf y0 a0).i),(.i .i64 (zf y0 a0).h)]),(aS .slot (tk y3 y4))]))) (some [(.agg [(.s .u8 c.b),(.i .i64 (zf y1 8).i),(.i .i64 (zf y1 8).h)]),(aS .slot y3)])))))
def ziz (c:Cur)(a0:Int)(a1:Int)(s:Cur)(v0:List Slot):Prop:=(∃N,zmK N c a0 a1=some (AV.agg (zbT s)::[aS .slot v0]))/\(s.b=c.b/\0<=s.i)/\((0<a0->a0<=1000->ln v0<=a0/\(0<a1->a1<=1000->∀s∈v0,I64 s.Page)))
def zeX (c:Cur)(a0:Int)(a1:Int):Bool:=wC (ziz c a0 a1)
def zfQ (c:Cur)(a0:Int)(a1:Int):Cur:=wS (ziz c a0 a1)
def zef (c:Cur)(a0:Int)(a1:Int):List Slot:=wV (ziz c a0 a1)
theorem znK {c:Cur}{a0:Int}{a1:Int}(h:zeX c a0 a1=true):ziz c a0 a1 (zfQ c a0 a1) (zef c a0 a1):=wG h
theorem znL (c:Cur)(a0:Int)(a1:Int):0<=(zfQ c a0 a1).i:=wP fun h=>h.2.1.2
theorem zKx (c:Cur)(a0:Int)(a1:Int)(h:∃N,Ends (wE (fun v0=>aS .slot v0) c.b fun v0=>(0<a0->a0<=1000->ln v0<=a0/\(0<a1->a1<=1000->∀s∈v0,I64 s.Page))) (zmK N c a0 a1)):zeX c a0 a1=true:=wI (fun _ _ h=>h) h
def zqo:zdo:=rP2 dI dI fun c b d=>(zeX c b d,zfQ c b d,[aS .slot (zef c b d)])
theorem zAC:zbM Tryz.prog 137 [false,true,true] zqo:=hP2 zdD zV zHt zx (zy []) (fun _ _ _ h=>(znK h).1)
theorem zmM {c:Cur}(h:zbd c){n:Int}(h0:0<n)(h1:n<=1000)(m:Int):zeX c n m=true:=by
 refine zKx c n m ⟨0,?_⟩;unfold zmK oN;conv=>zeta
 have k1:zbd {zF c n m with b:=c.b}:=zbH h (zgF _ _ _);have k2:zbd {zf {zF c n m with b:=c.b} 8 with b:=c.b}:=zbH h (zA _ _);have k3:zbd {zf {zf {zF c n m with b:=c.b} 8 with b:=c.b} n with b:=c.b}:=zbH h (zA _ _);have g:=(ztn (zxD h (vJ h0) h1 m)).2.2 (vJ h0) h1;generalize zc9 c n m=T at g;refine zq (zxD h (vJ h0) h1 m) (zq (zbs k1 8) (zby (fun _=>zq (zbs k2 n) (zq (zNX k3 m) (zq (ztO k2 h0 (by omega)) (zkv (zbG (aS .slot) (zYz _ _) (fun _ _=>⟨by rw[z2V];omega,fun g1 g2 s hs=>?_⟩)))))) (fun _=>zby (fun _=>zq (zbs k2 n) (zq (zA9 k2 h0 (by omega)) (zbG (aS .slot) (zA _ _) (fun _ _=>⟨?_,fun g1 g2 s hs=>g.2 g1 g2 s (jR hs)⟩)))) (fun _=>zbG (aS .slot) (zA _ _) (fun _ _=>⟨by omega,g.2⟩)))));{rcases qZ hs with hs|rfl;{exact g.2 g1 g2 s hs};{exact(zKz (zNX k3 m)).2.2 g1 g2}};{have:=z2U T;exact Int.le_trans (this _) (by omega)}
def zvt (N:Nat)(c:Cur)  : OA :=
 (iter (σ:=(Int×(Int×(Int×((List Int)×((List Int)×Unit)))))) N (fun r2 s3=>let y0:=(⟨s3.2.2.2.2.1,s3.2.1,s3.2.2.1⟩:Cur);let y1:=(ap s3.2.2.2.1 [(zl y0 100)]); (cond (ilt s3.1 4) (oN (zo y0 100) (oN (few (ln y1)) (r2 ((zK .i64 s3.1 1),((zf y0 100).i,((zf y0 100).h,(y1,(s3.2.2.2.2.1,())))))))) (some [(.agg [(.s .u8 s3.2.2.2.2.1),(.i .i64 s3.2.1),(.i .i64 s3.2.2.1)]),(aS .int s3.2.2.2.1)]))) (0,(c.i,(c.h,([],(c.b,()))))))
def zQq:FuncId->Nat->Option Tmpl:=zy [(214,0,{n:=16,tm:=[(0,.lp 0 0),(3,.sl 0 []),(4,ti)],lo:=[(0,[.sl 1 [],ti,ti])],ro:=[(0,.int,true),(1,.u8,false)]})]
def znR (c:Cur)(s:Cur)(v0:List Int):Prop:=(∃N,zvt N c=some (AV.agg (zbT s)::[aS .int v0]))/\(s.b=c.b/\0<=s.i)/\(v0.length=4)
def zhu (c:Cur)  : Bool:=wC (znR c)
def zey (c:Cur)  : Cur:=wS (znR c)
def zmB (c:Cur)  : List Int:=wV (znR c)
theorem zv8 {c:Cur}(h:zhu c=true):znR c (zey c) (zmB c):=wG h
theorem zFR (c:Cur)  : 0<=(zey c).i:=wP fun h=>h.2.1.2
theorem zVG (c:Cur)(h:∃N,Ends (wE (fun v0=>aS .int v0) c.b fun v0=>v0.length=4) (zvt N c)):zhu c=true:=wI (fun _ _ h=>h) h
def zwZ:zdo:=rP0 fun c=>(zhu c,zey c,[aS .int (zmB c)])
theorem zJq:zbM Tryz.prog 214 [false,true,true] zwZ:=hP0 zdD zV zHt zx zQq (fun _ h=>(zv8 h).1)
theorem zKl {c:Cur}(h:zbd c):zhu c=true:=by
 refine zVG c ⟨1002,?_⟩;unfold zvt oN;conv=>zeta
 exact zSX h (P:=fun _=>True) (m:=4) (by omega) (by omega) (fc:=fun c=>zo c 100) (fs:=fun c=>zf c 100) (fv:=fun c=>zl c 100) (R:=fun s l=>AV.agg (zbT s)::[aS .int l]) (fun h=>zbs h _) (fun c=>zA c _) (fun _=>trivial) (fun s l hb hi hl hp=>⟨s,l,rfl,⟨hb,hi⟩,by unfold ln at hl;omega⟩) ((fun i t=>((i:Int),t.1,t.2.1,t.2.2,c.b,())):Int->Int×Int×List Int->_) (fun rec t i k l=>rfl)
def z5I:zcQ:=[(137,([false,true,true],zqo)),(214,([false,true,true],zwZ))]++z5H
theorem zHu:zb1 z5I:=zco zHt (by
 intro x hx;simp only[qF,qP,or_false]at hx;rcases hx with rfl|rfl
 .exact zAC
 .exact zJq)
def zxL (N:Nat)(c:Cur)(a0:Int):OA:=
 (iter (σ:=(Int×(Int×(Int×(Int×(lM×((List Int)×Unit))))))) N (fun r3 s4=>let y0:=(⟨s4.2.2.2.2.2.1,s4.2.2.1,s4.2.2.2.1⟩:Cur);let y1:=(ap s4.2.2.2.2.1 [(zmB y0)]); (cond (ilt s4.2.1 s4.1) (oN (zhu y0) (oN (few (ln y1)) (r3 (s4.1,((zK .i64 s4.2.1 1),((zey y0).i,((zey y0).h,(y1,(s4.2.2.2.2.2.1,()))))))))) (some [(.agg [(.s .u8 s4.2.2.2.2.2.1),(.i .i64 s4.2.2.1),(.i .i64 s4.2.2.2.1)]),(aS (.sl .int) s4.2.2.2.2.1)]))) (a0,(0,(c.i,(c.h,([],(c.b,())))))))
def zUi:FuncId->Nat->Option Tmpl:=zy [(222,0,{n:=19,tm:=[(0,.lp 0 0),(1,ti),(5,.sl 0 []),(6,ti)],lo:=[(0,[.sl 1 [],ti,ti])],ro:=[(0,(.sl .int),true),(1,.u8,false)]})]
def zpU (c:Cur)(a0:Int)(s:Cur)(v0:List (List Int)):Prop:=(∃N,zxL N c a0=some (AV.agg (zbT s)::[aS (.sl .int) v0]))/\(s.b=c.b/\0<=s.i)/\((0<=a0->a0<=1000->ln v0=a0/\∀r∈v0,r.length=4))
def zhh (c:Cur)(a0:Int):Bool:=wC (zpU c a0)
def zkZ (c:Cur)(a0:Int):Cur:=wS (zpU c a0)
def zto (c:Cur)(a0:Int):List (List Int):=wV (zpU c a0)
theorem zyX {c:Cur}{a0:Int}(h:zhh c a0=true):zpU c a0 (zkZ c a0) (zto c a0):=wG h
theorem zYD (c:Cur)(a0:Int):0<=(zkZ c a0).i:=wP fun h=>h.2.1.2
theorem zYC (c:Cur)(a0:Int)(h:∃N,Ends (wE (fun v0=>aS (.sl .int) v0) c.b fun v0=>(0<=a0->a0<=1000->ln v0=a0/\∀r∈v0,r.length=4)) (zxL N c a0)):zhh c a0=true:=wI (fun _ _ h=>h) h
def zzD:zdo:=rP1 dI fun c b=>(zhh c b,zkZ c b,[aS (.sl .int) (zto c b)])
theorem zwL:zbM Tryz.prog 222 [false,true,true] zzD:=hP1 zdD zV zHu zx zUi (fun _ _ h=>(zyX h).1)
theorem z9j {c:Cur}(h:zbd c){a0:Int}(h0:0<=a0)(h1:a0<=1000):zhh c a0=true:=by
 refine zYC c a0 ⟨1002,?_⟩;unfold zxL oN;conv=>zeta
 exact zSX h (P:=fun r=>r.length=4) h0 h1 (fc:=zhu) (fs:=zey) (fv:=zmB) (R:=fun s l=>AV.agg (zbT s)::[aS (.sl .int) l]) zKl zFR (fun h=>(zv8 (zKl h)).2.2) (fun s l hb hi hl hp=>⟨s,l,rfl,⟨hb,hi⟩,fun _ _=>⟨hl,hp⟩⟩) ((fun i t=>(a0,(i:Int),t.1,t.2.1,t.2.2,c.b,())):Int->Int×Int×List (List Int)->_) (fun rec t i k l=>rfl)
def zsj (N:Nat)(c:Cur)  : OA :=
 let y4:=(zmB c);let y1:=({ (zey c) with b:=c.b}:Cur);let y3:=(zf y1 6);let y0:=({y3 with b:=c.b}:Cur);let y2:=({ (zf y0 4) with b:=c.b}:Cur); (oN (zhu c) (oN (zo y1 6) (cond (ieq (zl y1 6) 0) (oN (zo y0 4) (oN (inr 0 (zl y0 4) (ln y4)) (some [(.agg [(.s .u8 c.b),(.i .i64 (zf y0 4).i),(.i .i64 (zf y0 4).h)]),(aS .int (tk y4 (zl y0 4)))]))) (cond (ieq (zl y1 6) 1) (oN (zo y0 4) (oN (zbp y2 [(-1),99,100]) (oN (inb (zl y0 4) (ln y4)) (share (up y4 (zl y0 4) (zbi y2 [(-1),99,100])) (fun x2=>(some [(.agg [(.s .u8 c.b),(.i .i64 (zX y2 [(-1),99,100]).i),(.i .i64 (zX y2 [(-1),99,100]).h)]),(aS .int x2)])))))) (cond (ieq (zl y1 6) 2) (oN (few (ln (ap y4 [1]))) (some [(.agg [(.s .u8 c.b),(.i .i64 y3.i),(.i .i64 y3.h)]),(aS .int (ap y4 [1]))])) (some [(.agg [(.s .u8 c.b),(.i .i64 y3.i),(.i .i64 y3.h)]),(aS .int y4)]))))))
def zlR (c:Cur)(s:Cur)(v0:List Int):Prop:=(∃N,zsj N c=some (AV.agg (zbT s)::[aS .int v0]))/\(s.b=c.b/\0<=s.i)/\(v0.length<=5)
def zkb (c:Cur)  : Bool:=wC (zlR c)
def zkc (c:Cur)  : Cur:=wS (zlR c)
def zrU (c:Cur)  : List Int:=wV (zlR c)
theorem zCP {c:Cur}(h:zkb c=true):zlR c (zkc c) (zrU c):=wG h
theorem zTw (c:Cur)  : 0<=(zkc c).i:=wP fun h=>h.2.1.2
theorem zTv (c:Cur)(h:∃N,Ends (wE (fun v0=>aS .int v0) c.b fun v0=>v0.length<=5) (zsj N c)):zkb c=true:=wI (fun _ _ h=>h) h
def zuq:zdo:=rP0 fun c=>(zkb c,zkc c,[aS .int (zrU c)])
theorem zGW:zbM Tryz.prog 138 [false,true,true] zuq:=hP0 zdD zV zHu zx (zy []) (fun _ h=>(zCP h).1)
theorem zWf {c:Cur}(h:zbd c):zkb c=true:=by
 refine zTv c ⟨0,?_⟩;unfold zsj oN;conv=>zeta
 have k1:zbd {zey c with b:=c.b}:=zbH h (zFR _);have k2:zbd {zf {zey c with b:=c.b} 6 with b:=c.b}:=zbH h (zA _ _);have k3:zbd {zf {zf {zey c with b:=c.b} 6 with b:=c.b} 4 with b:=c.b}:=zbH h (zA _ _);have g:=(zv8 (zKl h)).2.2;generalize zmB c=T at g;have hln:ln T=4:=(by unfold ln;omega);refine zq (zKl h) (zq (zbs k1 6) (zby (fun _=>zq (zbs k2 4) (zq (zA9 k2 (by omega) (by omega)) (zbG (aS .int) (zA _ _) (qT (zBP T _) (by omega))))) (fun _=>zby (fun _=>zq (zbs k2 4) (zq (zet k3 (by simp)) (zq (ztO k2 (by omega) (by omega)) (zkv (zbG (aS .int) (zbX _ _) (by rw[zg8];omega)))))) (fun _=>zby (fun _=>zq (zjK (by rw[zgM];omega)) (zbG (aS .int) (zA _ _) ?_)) (fun _=>zbG (aS .int) (zA _ _) (by omega))))));simp[ap];omega
def z5J:zcQ:=[(222,([false,true,true],zzD)),(138,([false,true,true],zuq))]++z5I
theorem zTe:zb1 z5J:=zco zHu (by
 intro x hx;simp only[qF,qP,or_false]at hx;rcases hx with rfl|rfl
 .exact zwL
 .exact zGW)
def zqB (N:Nat)(c:Cur)  : OA :=
 let y1:=({ (zfx c) with b:=c.b}:Cur);let y0:=({ (zf y1 10) with b:=c.b}:Cur);let y2:=(zX y0 [(-1),0,12,15,16,99,100,9223372036854775807]); (oN (ziA c) (oN (zo y1 10) (cond (ieq (zl y1 10) 0) (oN (zo y0 11) (some [(.agg [(.s .u8 c.b),(.i .i64 (zf y0 11).i),(.i .i64 (zf y0 11).h)]),(.agg [(.i .i64 (wsub .i64 (zl y0 11) 1)),(.i .i64 (zfn c).X)])])) (cond (ieq (zl y1 10) 1) (oN (zbp y0 [(-1),0,12,15,16,99,100,9223372036854775807]) (some [(.agg [(.s .u8 c.b),(.i .i64 y2.i),(.i .i64 y2.h)]),(.agg [(.i .i64 (zfn c).Op),(.i .i64 (zbi y0 [(-1),0,12,15,16,99,100,9223372036854775807]))])])) (some [(.agg [(.s .u8 c.b),(.i .i64 (zf y1 10).i),(.i .i64 (zf y1 10).h)]),(.agg [(.i .i64 (zfn c).Op),(.i .i64 (zfn c).X)])])))))
def zk2 (c:Cur)(s:Cur)(v0:Ins):Prop:=(∃N,zqB N c=some (AV.agg (zbT s)::[aT .ins v0]))/\(s.b=c.b/\0<=s.i)/\(True)
def ziY (c:Cur)  : Bool:=wC (zk2 c)
def ziZ (c:Cur)  : Cur:=wS (zk2 c)
def zv9 (c:Cur)  : Ins:=wV (zk2 c)
theorem zQc {c:Cur}(h:ziY c=true):zk2 c (ziZ c) (zv9 c):=wG h
theorem zQe (c:Cur)  : 0<=(ziZ c).i:=wP fun h=>h.2.1.2
theorem zQd (c:Cur)(h:∃N,Ends (wE (fun v0=>aT .ins v0) c.b fun v0=>True) (zqB N c)):ziY c=true:=wI (fun _ _ h=>h) h
def zsY:zdo:=rP0 fun c=>(ziY c,ziZ c,[aT .ins (zv9 c)])
theorem zEb:zbM Tryz.prog 280 [false,true,true] zsY:=hP0 zdD zV zTe zx (zy []) (fun _ h=>(zQc h).1)
theorem z1N {c:Cur}(h:zbd c):ziY c=true:=by
 refine zQd c ⟨0,?_⟩;unfold zqB oN;conv=>zeta
 have k1:zbd {zfx c with b:=c.b}:=zbH h (zyY _);have k2:zbd {zf {zfx c with b:=c.b} 10 with b:=c.b}:=zbH h (zA _ _);exact zq (zQB h) (zq (zbs k1 10) (zby (fun _=>zq (zbs k2 11) (zbG (aT .ins) (v:=⟨wsub .i64 _ 1,(zfn c).X⟩) (zA _ _) trivial)) (fun _=>zby (fun _=>zq (zet k2 (by simp)) (zbG (aT .ins) (v:=⟨(zfn c).Op,zbi _ _⟩) (zbX _ _) trivial)) (fun _=>zbG (aT .ins) (v:=zfn c) (zA _ _) trivial))))
def z5K:zcQ:=[(280,([false,true,true],zsY))]++z5J
theorem zyJ:zb1 z5K:=zco zTe (by
 intro x hx;simp only[qF,qP,or_false]at hx;rcases hx with rfl
 .exact zEb)
def zog (N:Nat)(c:Cur)  : OA :=
 let y5:=(zbY c);let y2:=({ (zW c) with b:=c.b}:Cur);let y4:=(zf y2 8);let y0:=({y4 with b:=c.b}:Cur); (oN (zgg c) (oN (zo y2 8) (cond (ieq (zl y2 8) 0) (oN (ziY y0) (oN (inb 0 (ln y5)) (share (up y5 0 (zv9 y0)) (fun x2=>(some [(.agg [(.s .u8 c.b),(.i .i64 (ziZ y0).i),(.i .i64 (ziZ y0).h)]),(aS .ins x2)]))))) (cond (ieq (zl y2 8) 1) (iter (σ:=(Int×(Int×(lI×((List Int)×Unit))))) N (fun r2 s3=>let y3:=(⟨s3.2.2.2.1,s3.1,s3.2.1⟩:Cur);let y1:=({ (zf y3 2) with b:=s3.2.2.2.1}:Cur); (oN (zo y3 2) (cond (ilt (ln s3.2.2.1) (zK .i64 12 (zl y3 2))) (oN (ziA y1) (oN (few (ln (ap s3.2.2.1 [(zfn y1)]))) (r2 ((zfx y1).i,((zfx y1).h,((ap s3.2.2.1 [(zfn y1)]),(s3.2.2.2.1,()))))))) (some [(.agg [(.s .u8 s3.2.2.2.1),(.i .i64 (zf y3 2).i),(.i .i64 (zf y3 2).h)]),(aS .ins s3.2.2.1)])))) (y4.i,(y4.h,(y5,(c.b,()))))) (cond (ieq (zl y2 8) 2) (oN (zo y0 2) (oN (inr 0 (zl y0 2) (ln y5)) (some [(.agg [(.s .u8 c.b),(.i .i64 (zf y0 2).i),(.i .i64 (zf y0 2).h)]),(aS .ins (tk y5 (zl y0 2)))]))) (some [(.agg [(.s .u8 c.b),(.i .i64 y4.i),(.i .i64 y4.h)]),(aS .ins y5)]))))))
def zHO:FuncId->Nat->Option Tmpl:=zy [(216,1,{n:=34,tm:=[(0,.lp 0 0),(3,.sl 0 [])],lo:=[(0,[.sl 1 [],ti,ti])],ro:=[(0,.ins,true),(1,.u8,false)]})]
def zjy (c:Cur)(s:Cur)(v0:List Ins):Prop:=(∃N,zog N c=some (AV.agg (zbT s)::[aS .ins v0]))/\(s.b=c.b/\0<=s.i)/\(v0.length<=13)
def zhV (c:Cur)  : Bool:=wC (zjy c)
def zhW (c:Cur)  : Cur:=wS (zjy c)
def znT (c:Cur)  : List Ins:=wV (zjy c)
theorem zxx {c:Cur}(h:zhV c=true):zjy c (zhW c) (znT c):=wG h
theorem zNa (c:Cur)  : 0<=(zhW c).i:=wP fun h=>h.2.1.2
theorem zM9 (c:Cur)(h:∃N,Ends (wE (fun v0=>aS .ins v0) c.b fun v0=>v0.length<=13) (zog N c)):zhV c=true:=wI (fun _ _ h=>h) h
def zrp:zdo:=rP0 fun c=>(zhV c,zhW c,[aS .ins (znT c)])
theorem zBB:zbM Tryz.prog 216 [false,true,true] zrp:=hP0 zdD zV zyJ zx zHO (fun _ h=>(zxx h).1)
theorem zNW {c:Cur}(h:zbd c):zhV c=true:=by
 refine zM9 c ⟨1002,?_⟩;unfold zog oN;conv=>zeta
 have k1:zbd {zW c with b:=c.b}:=zbH h (zhw _);have k2:zbd {zf {zW c with b:=c.b} 8 with b:=c.b}:=zbH h (zA _ _);have g:=(zpX (zBX h)).2.2;have hle:=zHy g;have hpos:1<=(zbY c).length:=(by unfold zdq at g;cases hc:(zbY c).all zd2 with|false=>rw[hc] at g;cases g|true=>rw[hc,cT] at g;have:=(zfp.1 g).1;unfold ln at this;omega);generalize zbY c=T at hle hpos;have hln:1<=ln T/\ln T<=12:=(by unfold ln;omega);have hln2:(2:Int)<=ln T+1:=(by omega);refine zq (zBX h) (zq (zbs k1 8) (zby (fun _=>zq (z1N k2) (zq (qL (by omega)) (zkv (zbG (aS .ins) (zQe _) (by rw[zg8];omega))))) (fun _=>zby (fun _=>?_) (fun _=>zby (fun _=>zq (zbs k2 2) (zq (zA9 k2 (n:=2) (by omega) hln2) (zbG (aS .ins) (zA _ _) (qT (zBP T _) (by omega))))) (fun _=>zbG (aS .ins) (zA _ _) (by omega))))));{refine zjJ (fun n s=>s.2.2.1.length+n=13/\0<=s.1/\s.2.2.2.1=c.b) ?_ 1002 (13-T.length) _ ⟨by dsimp only;omega,zA _ _,rfl⟩ (by omega);rintro n ⟨i,k,l,b,u⟩ rec ⟨h1,h2,h3⟩ hrec;dsimp only at h1 h2 h3 ⊢;subst h3;have hcur:zbd ⟨c.b,i,k⟩:=zbH h h2;have hx:=zfb hcur (n:=2) (by omega);have hw:=zgx (x:=12) (by omega) (by omega) hx.1 (by omega);have h7:zbd {zf ⟨c.b,i,k⟩ 2 with b:=c.b}:=zbH h (zA _ _);refine zq (zbs hcur 2) (zby (fun hc=>?_) (fun hc=>?_));{have hlt:ln l<zK .i64 12 (zl ⟨c.b,i,k⟩ 2):=qE hc;rw[hw]at hlt;unfold ln at hlt;exact zq (zQB h7) (zq (zjK (by rw[zgM];unfold ln;omega)) (hrec (n-1) _ (by omega) ⟨by simp[ap];omega,zyY _,rfl⟩))};{exact zbG (aS .ins) (zA _ _) (by omega)}}
def zxN (N:Nat)(c:Cur)  : OA :=
 let y2:=(zcq c);let y0:=({ (zca c) with b:=c.b}:Cur);let y4:=(zf y0 8);let y1:=({y4 with b:=c.b}:Cur);let y3:=(zX y1 [(-1),255,256,9223372036854775807]); (oN (ziB c) (oN (zo y0 8) (cond (ieq (zl y0 8) 0) (oN (zbp y1 [(-1),2,3,4]) (some [(.agg [(.s .u8 c.b),(.i .i64 (zX y1 [(-1),2,3,4]).i),(.i .i64 (zX y1 [(-1),2,3,4]).h)]),(.agg [(.i .i64 (zbi y1 [(-1),2,3,4])),(.i .i64 y2.Post),(.b y2.Open)])])) (cond (ieq (zl y0 8) 1) (oN (zbp y1 [(-1),255,256,9223372036854775807]) (some [(.agg [(.s .u8 c.b),(.i .i64 y3.i),(.i .i64 y3.h)]),(.agg [(.i .i64 y2.Traps),(.i .i64 (zbi y1 [(-1),255,256,9223372036854775807])),(.b y2.Open)])])) (cond (ieq (zl y0 8) 2) (some [(.agg [(.s .u8 c.b),(.i .i64 y4.i),(.i .i64 y4.h)]),(.agg [(.i .i64 y2.Traps),(.i .i64 y2.Post),(.b (nB y2.Open))])]) (some [(.agg [(.s .u8 c.b),(.i .i64 y4.i),(.i .i64 y4.h)]),(.agg [(.i .i64 y2.Traps),(.i .i64 y2.Post),(.b y2.Open)])]))))))
def zpY (c:Cur)(s:Cur)(v0:Ctl):Prop:=(∃N,zxN N c=some (AV.agg (zbT s)::[.agg (zmR v0)]))/\(s.b=c.b/\0<=s.i)/\(True)
def znV (c:Cur)  : Bool:=wC (zpY c)
def znW (c:Cur)  : Cur:=wS (zpY c)
def zyZ (c:Cur)  : Ctl:=wV (zpY c)
theorem zYF {c:Cur}(h:znV c=true):zpY c (znW c) (zyZ c):=wG h
theorem zYH (c:Cur)  : 0<=(znW c).i:=wP fun h=>h.2.1.2
theorem zYG (c:Cur)(h:∃N,Ends (wE (fun v0=>.agg (zmR v0)) c.b fun v0=>True) (zxN N c)):znV c=true:=wI (fun _ _ h=>h) h
def zzF:zdo:=rP0 fun c=>(znV c,znW c,[.agg (zmR (zyZ c))])
theorem zL7:zbM Tryz.prog 217 [false,true,true] zzF:=hP0 zdD zV zyJ zx (zy []) (fun _ h=>(zYF h).1)
theorem z1M {c:Cur}(h:zbd c):znV c=true:=by
 refine zYG c ⟨0,?_⟩;unfold zxN oN nB;conv=>zeta
 have k1:zbd {zca c with b:=c.b}:=zbH h (zy0 _);have k2:zbd {zf {zca c with b:=c.b} 8 with b:=c.b}:=zbH h (zA _ _);exact zq (zXq h) (zq (zbs k1 8) (zby (fun _=>zq (zet k2 (by simp)) (zbG (fun x=>AV.agg (zmR x)) (v:=⟨zbi _ _,(zcq c).Post,(zcq c).Open⟩) (zbX _ _) trivial)) (fun _=>zby (fun _=>zq (zet k2 (by simp)) (zbG (fun x=>AV.agg (zmR x)) (v:=⟨(zcq c).Traps,zbi _ _,(zcq c).Open⟩) (zbX _ _) trivial)) (fun _=>zby (fun _=>zbG (fun x=>AV.agg (zmR x)) (v:=⟨(zcq c).Traps,(zcq c).Post,bif (zcq c).Open then false else true⟩) (zA _ _) trivial) (fun _=>zbG (fun x=>AV.agg (zmR x)) (v:=(zcq c)) (zA _ _) trivial)))))
def zvv (N:Nat)(c:Cur)  : OA :=
 let y5:=(zf c 5);let y0:=({y5 with b:=c.b}:Cur);let y4:=(zf y0 100);let y2:=(zl y0 100);let y1:=({ (zf y0 4) with b:=c.b}:Cur);let y3:=(zex (zl y0 4) (zcV y1 2)); (oN (zo c 5) (cond (ieq (zl c 5) 0) (oN (zo y0 4) (oN (zcO y1 2) (oN (ziP (zl y0 4) (zcV y1 2)) (some [(.agg [(.s .u8 c.b),(.i .i64 (zO y1 2).i),(.i .i64 (zO y1 2).h)]),(.agg [(.i .i64 y3.Kind),(.i .i64 y3.Page),(.b y3.Write),(.i .i64 y3.N)])])))) (cond (ieq (zl c 5) 1) (oN (zo y0 100) (oN (zns y2) (some [(.agg [(.s .u8 c.b),(.i .i64 y4.i),(.i .i64 y4.h)]),(.agg [(.i .i64 (zeP y2).Kind),(.i .i64 (zeP y2).Page),(.b (zeP y2).Write),(.i .i64 (zeP y2).N)])]))) (cond (ieq (zl c 5) 2) (oN (zo y0 100) (oN (zpM y2) (some [(.agg [(.s .u8 c.b),(.i .i64 y4.i),(.i .i64 y4.h)]),(.agg [(.i .i64 (zfI y2).Kind),(.i .i64 (zfI y2).Page),(.b (zfI y2).Write),(.i .i64 (zfI y2).N)])]))) (cond (ieq (zl c 5) 3) (some [(.agg [(.s .u8 c.b),(.i .i64 y5.i),(.i .i64 y5.h)]),(.agg [(.i .i64 4),(.i .i64 0),(.b false),(.i .i64 0)])]) (some [(.agg [(.s .u8 c.b),(.i .i64 y5.i),(.i .i64 y5.h)]),(.agg [(.i .i64 0),(.i .i64 0),(.b false),(.i .i64 0)])]))))))
def znZ (c:Cur)(s:Cur)(v0:GExit):Prop:=(∃N,zvv N c=some (AV.agg (zbT s)::[.agg (zfa v0)]))/\(s.b=c.b/\0<=s.i)/\(True)
def zhx (c:Cur)  : Bool:=wC (znZ c)
def zez (c:Cur)  : Cur:=wS (znZ c)
def zb4 (c:Cur)  : GExit:=wV (znZ c)
theorem zVI {c:Cur}(h:zhx c=true):znZ c (zez c) (zb4 c):=wG h
theorem zwa (c:Cur)  : 0<=(zez c).i:=wP fun h=>h.2.1.2
theorem zVJ (c:Cur)(h:∃N,Ends (wE (fun v0=>.agg (zfa v0)) c.b fun v0=>True) (zvv N c)):zhx c=true:=wI (fun _ _ h=>h) h
def zw1:zdo:=rP0 fun c=>(zhx c,zez c,[.agg (zfa (zb4 c))])
theorem zJt:zbM Tryz.prog 279 [false,true,true] zw1:=hP0 zdD zV zyJ zx (zy []) (fun _ h=>(zVI h).1)
theorem zRB {c:Cur}(h:zbd c):zhx c=true:=by
 refine zVJ c ⟨0,?_⟩;unfold zvv oN;conv=>zeta
 have k1:zbd {zf c 5 with b:=c.b}:=zbH h (zA _ _);have k2:zbd {zf {zf c 5 with b:=c.b} 4 with b:=c.b}:=zbH h (zA _ _);exact zq (zbs h 5) (zby (fun _=>zq (zbs k1 4) (zq (zhN k2 2) (zq rfl (zbG (fun x=>AV.agg (zfa x)) (v:=zex _ _) (zce _ _) trivial)))) (fun _=>zby (fun _=>zq (zbs k1 100) (zq rfl (zbG (fun x=>AV.agg (zfa x)) (v:=zeP _) (zA _ _) trivial))) (fun _=>zby (fun _=>zq (zbs k1 100) (zq rfl (zbG (fun x=>AV.agg (zfa x)) (v:=zfI _) (zA _ _) trivial))) (fun _=>zby (fun _=>zbG (fun x=>AV.agg (zfa x)) (v:=⟨4,0,false,0⟩) (zA _ _) trivial) (fun _=>zbG (fun x=>AV.agg (zfa x)) (v:=⟨0,0,false,0⟩) (zA _ _) trivial)))))
def z5L:zcQ:=[(216,([false,true,true],zrp)),(217,([false,true,true],zzF)),(279,([false,true,true],zw1))]++z5K
theorem zl8:zb1 z5L:=zco zyJ (by
 intro x hx;simp only[qF,qP,or_false]at hx;rcases hx with rfl|rfl|rfl
 .exact zBB
 .exact zL7
 .exact zJt)
def zxP (N:Nat)(c:Cur)  : OA :=
 let y2:=(zb4 c);let y1:=({ (zez c) with b:=c.b}:Cur);let y0:=({ (zf y1 8) with b:=c.b}:Cur); (oN (zhx c) (oN (zo y1 8) (cond (ieq (zl y1 8) 0) (oN (zo y0 7) (some [(.agg [(.s .u8 c.b),(.i .i64 (zf y0 7).i),(.i .i64 (zf y0 7).h)]),(.agg [(.i .i64 (wsub .i64 (zl y0 7) 1)),(.i .i64 y2.Page),(.b y2.Write),(.i .i64 y2.N)])])) (cond (ieq (zl y1 8) 1) (oN (zbp y0 [(-1),3,4]) (some [(.agg [(.s .u8 c.b),(.i .i64 (zX y0 [(-1),3,4]).i),(.i .i64 (zX y0 [(-1),3,4]).h)]),(.agg [(.i .i64 y2.Kind),(.i .i64 (zbi y0 [(-1),3,4])),(.b y2.Write),(.i .i64 y2.N)])])) (cond (ieq (zl y1 8) 2) (oN (zbp y0 [(-1),99,100]) (some [(.agg [(.s .u8 c.b),(.i .i64 (zX y0 [(-1),99,100]).i),(.i .i64 (zX y0 [(-1),99,100]).h)]),(.agg [(.i .i64 y2.Kind),(.i .i64 y2.Page),(.b y2.Write),(.i .i64 (zbi y0 [(-1),99,100]))])])) (some [(.agg [(.s .u8 c.b),(.i .i64 (zf y1 8).i),(.i .i64 (zf y1 8).h)]),(.agg [(.i .i64 y2.Kind),(.i .i64 y2.Page),(.b y2.Write),(.i .i64 y2.N)])]))))))
def zp0 (c:Cur)(s:Cur)(v0:GExit):Prop:=(∃N,zxP N c=some (AV.agg (zbT s)::[.agg (zfa v0)]))/\(s.b=c.b/\0<=s.i)/\(True)
def znX (c:Cur)  : Bool:=wC (zp0 c)
def znY (c:Cur)  : Cur:=wS (zp0 c)
def zy1 (c:Cur)  : GExit:=wV (zp0 c)
theorem zYK {c:Cur}(h:znX c=true):zp0 c (znY c) (zy1 c):=wG h
theorem zYM (c:Cur)  : 0<=(znY c).i:=wP fun h=>h.2.1.2
theorem zYL (c:Cur)(h:∃N,Ends (wE (fun v0=>.agg (zfa v0)) c.b fun v0=>True) (zxP N c)):znX c=true:=wI (fun _ _ h=>h) h
def zzH:zdo:=rP0 fun c=>(znX c,znY c,[.agg (zfa (zy1 c))])
theorem zL9:zbM Tryz.prog 219 [false,true,true] zzH:=hP0 zdD zV zl8 zx (zy []) (fun _ h=>(zYK h).1)
theorem zZl {c:Cur}(h:zbd c):znX c=true:=by
 refine zYL c ⟨0,?_⟩;unfold zxP oN;conv=>zeta
 have k1:zbd {zez c with b:=c.b}:=zbH h (zwa _);have k2:zbd {zf {zez c with b:=c.b} 8 with b:=c.b}:=zbH h (zA _ _);exact zq (zRB h) (zq (zbs k1 8) (zby (fun _=>zq (zbs k2 7) (zbG (fun x=>AV.agg (zfa x)) (v:=⟨wsub .i64 _ 1,(zb4 c).Page,(zb4 c).Write,(zb4 c).N⟩) (zA _ _) trivial)) (fun _=>zby (fun _=>zq (zet k2 (by simp)) (zbG (fun x=>AV.agg (zfa x)) (v:=⟨(zb4 c).Kind,zbi _ _,(zb4 c).Write,(zb4 c).N⟩) (zbX _ _) trivial)) (fun _=>zby (fun _=>zq (zet k2 (by simp)) (zbG (fun x=>AV.agg (zfa x)) (v:=⟨(zb4 c).Kind,(zb4 c).Page,(zb4 c).Write,zbi _ _⟩) (zbX _ _) trivial)) (fun _=>zbG (fun x=>AV.agg (zfa x)) (v:=(zb4 c)) (zA _ _) trivial)))))
def zvw (N:Nat)(c:Cur)  : OA :=
 let y0:=({ (zf c 256) with b:=c.b}:Cur);let y2:=({ (zf y0 256) with b:=c.b}:Cur);let y1:=(zX y2 [0,1,128,255,(zl c 256),(zl y0 256),(-1),256,9223372036854775807]); (oN (zo c 256) (oN (zo y0 256) (oN (zbp y2 [0,1,128,255,(zl c 256),(zl y0 256),(-1),256,9223372036854775807]) (some [(.agg [(.s .u8 c.b),(.i .i64 y1.i),(.i .i64 y1.h)]),(aI (zbi y2 [0,1,128,255,(zl c 256),(zl y0 256),(-1),256,9223372036854775807]))]))))
def zn0 (c:Cur)(s:Cur)(v0:Int):Prop:=(∃N,zvw N c=some (AV.agg (zbT s)::[aI v0]))/\(s.b=c.b/\0<=s.i)/\(True)
def zlx (c:Cur)  : Bool:=wC (zn0 c)
def zly (c:Cur)  : Cur:=wS (zn0 c)
def zvg (c:Cur)  : Int:=wV (zn0 c)
theorem zVK {c:Cur}(h:zlx c=true):zn0 c (zly c) (zvg c):=wG h
theorem zVM (c:Cur)  : 0<=(zly c).i:=wP fun h=>h.2.1.2
theorem zVL (c:Cur)(h:∃N,Ends (wE (fun v0=>aI v0) c.b fun v0=>True) (zvw N c)):zlx c=true:=wI (fun _ _ h=>h) h
def zw2:zdo:=rP0 fun c=>(zlx c,zly c,[aI (zvg c)])
theorem zJu:zbM Tryz.prog 218 [false,true,true] zw2:=hP0 zdD zV zl8 zx (zy []) (fun _ h=>(zVK h).1)
theorem z8J {c:Cur}(h:zbd c):zlx c=true:=by
 refine zVL c ⟨0,?_⟩;unfold zvw oN;conv=>zeta
 have k1:zbd {zf c 256 with b:=c.b}:=zbH h (zA _ _);have k2:zbd {zf {zf c 256 with b:=c.b} 256 with b:=c.b}:=zbH h (zA _ _);exact zq (zbs h 256) (zq (zbs k1 256) (zq (zet k2 (by simp)) (zbG aI (zbX _ _) trivial)))
def zsl (N:Nat)(c:Cur)  : OA :=
 let y0:=(zX c [0,1,2,3,0,1,(-1),4,9223372036854775807]); (oN (zbp c [0,1,2,3,0,1,(-1),4,9223372036854775807]) (some [(.agg [(.s .u8 c.b),(.i .i64 y0.i),(.i .i64 y0.h)]),(aI (zbi c [0,1,2,3,0,1,(-1),4,9223372036854775807]))]))
def zlT (c:Cur)(s:Cur)(v0:Int):Prop:=(∃N,zsl N c=some (AV.agg (zbT s)::[aI v0]))/\(s.b=c.b/\0<=s.i)/\(True)
def zkd (c:Cur)  : Bool:=wC (zlT c)
def zke (c:Cur)  : Cur:=wS (zlT c)
def zrW (c:Cur)  : Int:=wV (zlT c)
theorem zTz {c:Cur}(h:zkd c=true):zlT c (zke c) (zrW c):=wG h
theorem zTB (c:Cur)  : 0<=(zke c).i:=wP fun h=>h.2.1.2
theorem zTA (c:Cur)(h:∃N,Ends (wE (fun v0=>aI v0) c.b fun v0=>True) (zsl N c)):zkd c=true:=wI (fun _ _ h=>h) h
def zus:zdo:=rP0 fun c=>(zkd c,zke c,[aI (zrW c)])
theorem zGY:zbM Tryz.prog 141 [false,true,true] zus:=hP0 zdD zV zl8 zx (zy []) (fun _ h=>(zTz h).1)
theorem z7Q {c:Cur}(h:zbd c):zkd c=true:=by
 refine zTA c ⟨0,?_⟩;unfold zsl oN;conv=>zeta
 exact zq (zet h (by simp)) (zbG aI (zbX _ _) trivial)
def zZj (N:Nat)(c:Cur)  : OA :=
 let y0:=(zX c [0,0,1,1,2,(-1),9223372036854775807]); (oN (zbp c [0,0,1,1,2,(-1),9223372036854775807]) (some [(.agg [(.s .u8 c.b),(.i .i64 y0.i),(.i .i64 y0.h)]),(aI (zbi c [0,0,1,1,2,(-1),9223372036854775807]))]))
def zrX (c:Cur)(s:Cur)(v0:Int):Prop:=(∃N,zZj N c=some (AV.agg (zbT s)::[aI v0]))/\(s.b=c.b/\0<=s.i)/\(True)
def zOM (c:Cur)  : Bool:=wC (zrX c)
def zON (c:Cur)  : Cur:=wS (zrX c)
def zWP (c:Cur)  : Int:=wV (zrX c)
theorem z09 {c:Cur}(h:zOM c=true):zrX c (zON c) (zWP c):=wG h
def zBY:zdo:=rP0 fun c=>(zOM c,zON c,[aI (zWP c)])
theorem zPh:zbM Tryz.prog 96 [false,true,true] zBY:=hP0 zdD zV zl8 zx (zy []) (fun _ h=>(z09 h).1)
def zUy (N:Nat)(c:Cur)  : OA :=
 let y0:=(zX c [0,1,2,3,3,4,7,8,(-1),9223372036854775807,(-9223372036854775808)]); (oN (zbp c [0,1,2,3,3,4,7,8,(-1),9223372036854775807,(-9223372036854775808)]) (some [(.agg [(.s .u8 c.b),(.i .i64 y0.i),(.i .i64 y0.h)]),(aI (zbi c [0,1,2,3,3,4,7,8,(-1),9223372036854775807,(-9223372036854775808)]))]))
def znO (c:Cur)(s:Cur)(v0:Int):Prop:=(∃N,zUy N c=some (AV.agg (zbT s)::[aI v0]))/\(s.b=c.b/\0<=s.i)/\(True)
def zFO (c:Cur)  : Bool:=wC (znO c)
def zFP (c:Cur)  : Cur:=wS (znO c)
def zOL (c:Cur)  : Int:=wV (znO c)
theorem zVE {c:Cur}(h:zFO c=true):znO c (zFP c) (zOL c):=wG h
def zwX:zdo:=rP0 fun c=>(zFO c,zFP c,[aI (zOL c)])
theorem zJn:zbM Tryz.prog 122 [false,true,true] zwX:=hP0 zdD zV zl8 zx (zy []) (fun _ h=>(zVE h).1)
def zsk (N:Nat)(c:Cur)  : OA :=
 let y2:=({ (zf c 3) with b:=c.b}:Cur);let y0:=({ (zf y2 4) with b:=c.b}:Cur);let y1:=({ (zf y0 6) with b:=c.b}:Cur); (oN (zo c 3) (oN (zo y2 4) (oN (zo y0 6) (oN (zo y1 3) (some [(.agg [(.s .u8 c.b),(.i .i64 (zf y1 3).i),(.i .i64 (zf y1 3).h)]),(.agg [(.i .i64 (zK .i64 1 (zl c 3))),(.i .i64 (zl y2 4)),(.i .i64 (zl y0 6)),(.i .i64 (zK .i64 1 (zl y1 3)))])])))))
def zlS (c:Cur)(s:Cur)(v0:Entry):Prop:=(∃N,zsk N c=some (AV.agg (zbT s)::[aT .entry v0]))/\(s.b=c.b/\0<=s.i)/\(True)
def zgG (c:Cur)  : Bool:=wC (zlS c)
def zfK (c:Cur)  : Cur:=wS (zlS c)
def zk1 (c:Cur)  : Entry:=wV (zlS c)
theorem zTx {c:Cur}(h:zgG c=true):zlS c (zfK c) (zk1 c):=wG h
theorem ztp (c:Cur)  : 0<=(zfK c).i:=wP fun h=>h.2.1.2
theorem zTy (c:Cur)(h:∃N,Ends (wE (fun v0=>aT .entry v0) c.b fun v0=>True) (zsk N c)):zgG c=true:=wI (fun _ _ h=>h) h
def zur:zdo:=rP0 fun c=>(zgG c,zfK c,[aT .entry (zk1 c)])
theorem zGX:zbM Tryz.prog 221 [false,true,true] zur:=hP0 zdD zV zl8 zx (zy []) (fun _ h=>(zTx h).1)
theorem zLo {c:Cur}(h:zbd c):zgG c=true:=by
 refine zTy c ⟨0,?_⟩;unfold zsk oN;conv=>zeta
 have k1:zbd {zf c 3 with b:=c.b}:=zbH h (zA _ _);have k2:zbd {zf {zf c 3 with b:=c.b} 4 with b:=c.b}:=zbH h (zA _ _);have k3:zbd {zf {zf {zf c 3 with b:=c.b} 4 with b:=c.b} 6 with b:=c.b}:=zbH h (zA _ _);exact zq (zbs h 3) (zq (zbs k1 4) (zq (zbs k2 6) (zq (zbs k3 3) (zbG (aT .entry) (v:=⟨_,_,_,_⟩) (zA _ _) trivial))))
def z5M:zcQ:=[(219,([false,true,true],zzH)),(218,([false,true,true],zw2)),(141,([false,true,true],zus)),(96,([false,true,true],zBY)),(122,([false,true,true],zwX)),(221,([false,true,true],zur))]++z5L
theorem z3m:zb1 z5M:=zco zl8 (by
 intro x hx;simp only[qF,qP,or_false]at hx;rcases hx with rfl|rfl|rfl|rfl|rfl|rfl
 .exact zL9
 .exact zJu
 .exact zGY
 .exact zPh
 .exact zJn
 .exact zGX)
section
open Go Go.RowKit
structure Cw (w0:World) (blk:Nat) (u:Value) (c:Cur) (w:World):Prop where
 os:w.os=w0.os
 tape:w.tape=w0.tape
 output:w.output=w0.output
 size:w0.heap.size<=w.heap.size
 keep:∀b,b<w0.heap.size->b≠blk->w.heap[b]?=w0.heap[b]?
 cur:∃e,w.heap[blk]?=some (.cells #[u,.int .i64 c.i,.int .i64 c.h] e (0,0))
theorem Cw.trans {w0 w1 w2:World}{blk:Nat}{u:Value}{c1 c2:Cur}(h1:Cw w0 blk u c1 w1)(h2:Cw w1 blk u c2 w2):Cw w0 blk u c2 w2 :=
 ⟨h2.os.trans h1.os,h2.tape.trans h1.tape,h2.output.trans h1.output,qT h1.size h2.size,fun b hb hn=>(h2.keep b (jA hb h1.size) hn).trans (h1.keep b hb hn),h2.cur⟩
theorem Cw.drew {w0 w:World}{blk:Nat}{u:Value}{c:Cur}(h:Cw w0 blk u c w):Cw w0 blk u c w.drew:=⟨h.os,h.tape,h.output,h.size,h.keep,h.cur⟩
theorem Cw.at (w:World)(blk:Nat)(u:Value)(c:Cur)(h:∃e,w.heap[blk]?=some (.cells #[u,.int .i64 c.i,.int .i64 c.h] e (0,0))):Cw w blk u c w:=⟨rfl,rfl,rfl,qY _,fun _ _ _=>rfl,h⟩
theorem Cw.alloc {w0 w:World}{blk:Nat}{u:Value}{c:Cur}(h:Cw w0 blk u c w)(hb:blk<w.heap.size)(o:Obj):Cw w0 blk u c (w.alloc o):=
 ⟨h.os,h.tape,h.output,qT h.size (by simp),fun b hb hn=>(heap_alloc_old w o (jA hb h.size)).trans (h.keep b hb hn),by obtain⟨e,he⟩:=h.cur;exact⟨e,(heap_alloc_old w o hb).trans he⟩⟩
theorem Cw.lt {w0 w:World}{blk:Nat}{u:Value}{c:Cur}(h:Cw w0 blk u c w):blk<w.heap.size:=by obtain⟨e,he⟩:=h.cur;exact(qK.1 he).1
theorem zGq {P:Program}{f:FuncId}{run:List CV->List AV->Option (Bool×List CV×List AV)}(hH:zbM P f [false,true,true] run){w:World}{blk:Nat}{u:Value}{c c2:Cur}{K0:zT}(hcur:∃e,w.heap[blk]?=some (.cells #[u,.int .i64 c.i,.int .i64 c.h] e (0,0)))(hu:Rep false w u (.s .u8 c.b) K0)(hK:∀x,K0 x->x<w.heap.size/\x≠blk){avs rs:List AV}{xs:List Value}{Ka:zT}(hx:zc7 false w (zu avs) xs (fun _=>Ka))(hKa:∀x,Ka x->x<w.heap.size/\x≠blk)(hr:run (zbT c) avs=some (true,zbT c2,rs)) :
 Calls P f (#[.pointer (some ⟨blk,0,none⟩)]++(zbQ avs xs).toArray) w fun e w'=>∃ys Kr,e = .returned (zit (zbQ rs ys))/\Cw w blk u c2 w'/\zr3 (zm5 f) w' (zu rs) ys Kr/\(∀i x,i<(zu rs).length->Kr i x->w.heap.size<=x/\x<w'.heap.size):=by
 obtain⟨e,he⟩:=hcur;refine(hH.2 w blk _ e (zbT c) (fun j x=>j=0/\K0 x) avs xs Ka (zbT c2) rs he rfl rfl ?_ ?_ ?_ hx ?_ hr).mono ?_
 .intro j cv v hc hv
  match j,hc,hv with
  | 0,hc,hv=>cases hc;cases hv;exact hu.weak (fun x hx=>⟨rfl,hx⟩)
  | 1,hc,hv=>cases hc;cases hv;exact .i _ _ _
  | 2,hc,hv=>cases hc;cases hv;exact .i _ _ _
  |j+3,hc,hv=>simp[zbT]at hc
 .intro j x _ hx;exact hK x hx.2
 .intro i j x hi hj ho hne hx hx2;have:i=0:=hx.1;subst this;simp[zY]at ho
 .intro x hx;refine⟨(hKa x hx).1,(hKa x hx).2,fun j hj ho hk=>?_⟩;have:j=0:=hk.1;subst this;simp[zY]at ho
 .intro e2 w' hp;cases e2 with
  |panicked _=>exact hp.elim
  |outgrown=>exact hp.elim
  |returned v=>
   obtain⟨h1,h2,h3,h4,h5,vals',e',K',ys,Kr,g1,g2,g3,g4,g5,g6,g7,g8,g9,g10,g11⟩:=hp;have noown:∀i x,i<(zbT c).length->zY [false,true,true] i->¬ ((fun (j:Nat) x=>j=0/\K0 x) i x):=by intro i x hi ho hk;have:i=0:=hk.1;subst this;simp[zY]at ho
   have hv:vals' = #[u,.int .i64 c2.i,.int .i64 c2.h]:=by
    have hs:vals'.size=3:=g2;have e0:=(g4 0 _ (vals'[0]'(by omega)) rfl (jG _)).2 (by simp[zY]);have e1:=g4 1 _ (vals'[1]'(by omega)) rfl (jG _);have e2:=g4 2 _ (vals'[2]'(by omega)) rfl (jG _);have e0:u=vals'[0]'(by omega):=(by simpa using e0);apply Array.ext;{exact hs}
    .intro i hi hi2
     match i,hi with
     | 0,_=>exact e0.symm
     | 1,_=>exact e1
     | 2,_=>exact e2
     |i+3,h=>omega
   subst hv;refine⟨ys,Kr,by rw[g6],⟨h1,h2,h3,h4,fun b hb hn=>h5 b hb hn (fun j hj ho hk=>noown j b hj ho hk),e',g1⟩,g5,fun i x hi hk=>?_⟩;obtain⟨k1,k2,k3⟩:=g8 i x hi hk;rcases k3 with⟨j,hj,ho,hk⟩|hk;{exact absurd hk (noown j x hj ho)};{exact⟨hk,k1⟩}
def zdZ (c:Cur):List (List Int):=zto c 3
def zyw (c:Cur):Cur:={zkZ c 3 with b:=c.b}
def zX9 (c:Cur):Int:=zl (zyw c) 8
def zgL (c:Cur):Cur:={zf (zyw c) 8 with b:=c.b}
def zX8 (c:Cur):Int:=zl (zgL c) 3
def zrF (c:Cur):Cur:={zf (zgL c) 3 with b:=c.b}
def z8E (c:Cur):Int:=zl (zrF c) 4
def zX6 (c:Cur):Cur:={zf (zrF c) 4 with b:=c.b}
def zsP (c:Cur):Int:=zbi (zgL c) [-1,100]
def zX7 (c:Cur):Cur:={zX (zgL c) [-1,100] with b:=c.b}
def zmL (_:Nat)(c:Cur):OA:=
 bif zhh c 3 then (bif zo (zyw c) 8 then (bif ieq (zX9 c) 0 then (cond (zo (zgL c) 3) (cond (zo (zrF c) 4) (some (AV.agg (zbT (zX6 c))::[aS (.sl .int) (up (zdZ c) (zX8 c) (tk (ix (zdZ c) 0 []) (z8E c)))])) none) none)
  else (bif ieq (zX9 c) 1 then (cond (zbp (zgL c) [-1,100]) (some (AV.agg (zbT (zX7 c))::[aS (.sl .int) (up (zdZ c) 1 (up (ix (zdZ c) 1 []) 2 (zsP c)))])) none)
  else (cond (ieq (zX9 c) 2) (cond (zo (zgL c) 3) (some (AV.agg (zbT (zrF c))::[aS (.sl .int) (tk (zdZ c) (zX8 c))])) none) (some (AV.agg (zbT (zgL c))::[aS (.sl .int) (zdZ c)]))))) else none) else none
def zpT (c:Cur)(s:Cur)(v0:List (List Int)):Prop:=(∃N,zmL N c=some (AV.agg (zbT s)::[aS (.sl .int) v0]))/\(s.b=c.b/\0<=s.i)/\(v0.length<=3/\∀r∈v0,r.length<=4)
def znQ (c:Cur)  : Bool:=wC (zpT c)
def zhg (c:Cur)  : Cur:=wS (zpT c)
def zo1 (c:Cur)  : List (List Int):=wV (zpT c)
theorem zKA {c:Cur}(h:znQ c=true):zpT c (zhg c) (zo1 c):=wG h
theorem zYB (c:Cur)  : 0<=(zhg c).i:=wP fun h=>h.2.1.2
theorem zYA (c:Cur)(h:∃N,Ends (wE (fun v0=>aS (.sl .int) v0) c.b fun v0=>v0.length<=3/\∀r∈v0,r.length<=4) (zmL N c)):znQ c=true:=wI (fun _ _ h=>h) h
def zqO:zdo:=rP0 fun c=>(znQ c,zhg c,[aS (.sl .int) (zo1 c)])
theorem z3c {w:World}{blk:Nat}{u:Value}{c:Cur}{K0:zT}{n:Int}(hcur:∃e,w.heap[blk]?=some (.cells #[u,.int .i64 c.i,.int .i64 c.h] e (0,0)))(hu:Rep false w u (.s .u8 c.b) K0)(hK:∀x,K0 x->x<w.heap.size/\x≠blk)(hc:zhh c n=true) :
 Calls Tryz.prog 222 #[.pointer (some ⟨blk,0,none⟩),.int .i64 n] w fun e w'=>∃v Kr,e = .returned v/\Cw w blk u {zkZ c n with b:=c.b} w'/\Rep true w' v (.s (.sl .int) (zto c n)) Kr/\(∀x,Kr x->w.heap.size<=x/\x<w'.heap.size):=by
 have:=zGq (c:=c) (c2:=zkZ c n) zwL hcur hu hK (avs:=[.one (.i .i64 n)]) (rs:=[aS (.sl .int) (zto c n)]) (xs:=[.int .i64 n]) (Ka:=fun _=>False) ⟨rfl,fun i cv x hcv hx=>by
  match i,hcv,hx with
  | 0,hcv,hx=>cases hcv;cases hx;exact .i _ _ _
  |i+1,hcv,hx=>simp at hx⟩ (fun x hx=>hx.elim) (by show some (zhh ⟨c.b,c.i,c.h⟩ n,_,_)=_;rw[show (⟨c.b,c.i,c.h⟩:Cur)=c from rfl,hc])
 refine Calls.mono this ?_
 rintro e w' ⟨ys,Kr,rfl,h2,h3,h4⟩
 match ys,h3.1 with
 |[y],_=>exact⟨y,Kr 0,rfl,⟨h2.os,h2.tape,h2.output,h2.size,h2.keep,h2.cur⟩,h3.2 0 _ y rfl rfl,fun x hx=>h4 0 x (by simp[zu,AV.cvs]) hx⟩
theorem zry {w:World}{blk:Nat}{u:Value}{c:Cur}{K0:zT}{n:Int}(hcur:∃e,w.heap[blk]?=some (.cells #[u,.int .i64 c.i,.int .i64 c.h] e (0,0)))(hu:Rep false w u (.s .u8 c.b) K0)(hK:∀x,K0 x->x<w.heap.size/\x≠blk)(hc:zo c n=true) :
 Calls Tryz.prog 54 #[.pointer (some ⟨blk,0,none⟩),.int .i64 n] w fun e w'=>e = .returned (.int .i64 (zl c n))/\Cw w blk u {zf c n with b:=c.b} w':=by
 have:=zGq (c:=c) (c2:=zf c n) zsI hcur hu hK (avs:=[.one (.i .i64 n)]) (rs:=[aI (zl c n)]) (xs:=[.int .i64 n]) (Ka:=fun _=>False) ⟨rfl,fun i cv x hcv hx=>by
  match i,hcv,hx with
  | 0,hcv,hx=>cases hcv;cases hx;exact .i _ _ _
  |i+1,hcv,hx=>simp at hx⟩ (fun x hx=>hx.elim) (by show some (zo ⟨c.b,c.i,c.h⟩ n,_,_)=_;rw[show (⟨c.b,c.i,c.h⟩:Cur)=c from rfl,hc])
 refine Calls.mono this ?_
 rintro e w' ⟨ys,Kr,rfl,h2,h3,h4⟩
 match ys,h3.1,h3.2 with
 |[y],_,h5=>have:=(h5 0 _ y rfl rfl).int_inv;subst this;exact⟨rfl,h2.os,h2.tape,h2.output,h2.size,h2.keep,h2.cur⟩
theorem z0X {w:World}{blk:Nat}{u:Value}{c:Cur}{K0:zT}{l:List Int}{v:Value}{Ka:zT}(hcur:∃e,w.heap[blk]?=some (.cells #[u,.int .i64 c.i,.int .i64 c.h] e (0,0)))(hu:Rep false w u (.s .u8 c.b) K0)(hK:∀x,K0 x->x<w.heap.size/\x≠blk)(hc:zbp c l=true)(hv:Rep false w v (.s .int l) Ka)(hKa:∀x,Ka x->x<w.heap.size/\x≠blk) :
 Calls Tryz.prog 83 #[.pointer (some ⟨blk,0,none⟩),v] w fun e w'=>e = .returned (.int .i64 (zbi c l))/\Cw w blk u {zX c l with b:=c.b} w':=by
 have:=zGq (c:=c) (c2:=zX c l) zqj hcur hu hK (avs:=[.one (.s .int l)]) (rs:=[aI (zbi c l)]) (xs:=[v]) (Ka:=Ka) ⟨rfl,fun i cv x hcv hx=>by
  match i,hcv,hx with
  | 0,hcv,hx=>cases hcv;cases hx;exact hv
  |i+1,hcv,hx=>simp at hx⟩ hKa (by show some (zbp ⟨c.b,c.i,c.h⟩ l,_,_)=_;rw[show (⟨c.b,c.i,c.h⟩:Cur)=c from rfl,hc])
 refine Calls.mono this ?_
 rintro e w' ⟨ys,Kr,rfl,h2,h3,h4⟩
 match ys,h3.1,h3.2 with
 |[y],_,h5=>have:=(h5 0 _ y rfl rfl).int_inv;subst this;exact⟨rfl,h2.os,h2.tape,h2.output,h2.size,h2.keep,h2.cur⟩
theorem z04 {w:World}{v:Value}{l:List (List Int)}{K:zT}(h:Rep true w v (.s (.sl .int) l) K)(h3:l.length=3):∃(b off cap:Nat) (arr:Array Value) (e:TypeId) (V:Nat->Value) (Kc:Nat->zT),v = .slice (some ⟨b,off,none⟩) 3 cap/\w.heap[b]?=some (.cells arr e (0,0))/\3<=cap/\off+cap<=arr.size/\K b/\
 (∀i x,i<3->Kc i x->K x/\x≠b)/\(∀i i' x,i<3->i'<3->Kc i x->Kc i' x->i=i')/\(∀i,i<3->arr[off+i]?=some (V i))/\∀i x,l[i]?=some x->Rep true w (V i) (.s .int x) (Kc i):=by
 cases h with
 |nil=>simp at h3
 |void _ _ _ ho=>cases ho
 |sl _ _ b off cap arr e fz V Kc _ hb hfz hlen hcap hsz hS hsub hdis hv hc=>have:=hfz rfl;subst this;have hw:Ty.width (.sl .int)=1:=rfl;rw[hw,uY]at hsz;refine⟨b,off,cap,arr,e,fun i=>V i 0,fun i=>Kc i 0,by rw[h3],hb,by omega,hsz,hS,fun i x hi hk=>⟨(hsub i 0 x (by omega) (by decide) hk).1,(hsub i 0 x (by omega) (by decide) hk).2 rfl⟩,fun i i' x hi hi' hk hk'=>(hdis rfl i 0 i' 0 x (by omega) (by decide) (by omega) (by decide) hk hk').1,fun i hi=>?_,fun i x hx=>hc i x hx 0 _ rfl⟩;have:=hv i 0 (by omega) (by decide);rwa [hw,uY,jY] at this
theorem zTo {w:World}{v:Value}{l:List Int}{K:zT}(h:Rep true w v (.s .int l) K)(h4:l.length=4):∃(b off cap:Nat) (arr:Array Value) (e:TypeId),v = .slice (some ⟨b,off,none⟩) 4 cap/\w.heap[b]?=some (.cells arr e (0,0))/\4<=cap/\off+cap<=arr.size/\K b/\
 ∀i x,l[i]?=some x->arr[off+i]?=some (.int .i64 x):=by
 cases h with
 |nil=>simp at h4
 |void _ _ _ ho=>cases ho
 |sl _ _ b off cap arr e fz V Kc _ hb hfz hlen hcap hsz hS hsub hdis hv hc=>have:=hfz rfl;subst this;have hw:Ty.width .int=1:=rfl;rw[hw,uY]at hsz;refine⟨b,off,cap,arr,e,by rw[h4],hb,by omega,hsz,hS,fun i x hx=>?_⟩;have hi:i<l.length:=(qA.1 hx).1;have:=hv i 0 hi (by decide);rw[hw,uY,jY] at this;rw[this,(hc i x hx 0 (.i .i64 x) rfl).int_inv]
theorem zHz {o:Bool}{w:World}{b off cap:Nat}{arr:Array Value}{e:TypeId}(hb:w.heap[b]?=some (.cells arr e (0,0))){l:List Int}(hl:l.length<=1000)(hcap:l.length<=cap)(hsz:off+cap<=arr.size)(hv:∀i x,l[i]?=some x->arr[off+i]?=some (.int .i64 x)):Rep o w (.slice (some ⟨b,off,none⟩) l.length cap) (.s .int l) (fun x=>x=b):=by
 refine .sl .int l b off cap arr e (0,0) (fun i j=>.int .i64 (l.getD i 0)) (fun _ _ _=>False) _ hb (fun _=>rfl) (by rw[zom];omega) hcap (by show off+cap*1<=arr.size;omega) rfl (fun i j x _ _ h=>h.elim) (fun _ i j i' j' x _ _ _ _ h=>h.elim) (fun i j hi hj=>?_) (fun i x hx j cv hcv=>?_);{have hj0:j=0:=(by have:j<1:=hj;omega);subst hj0;have:=hv i _ (qB hi);show arr[off+i*1+0]?=_;rw[uY,jY,this];simp[List.getD,qB hi]}
 .match j,hcv with
  | 0,hcv=>cases hcv;have:l.getD i 0=x:=(by simp[List.getD,hx]);show Rep o w (.int .i64 (l.getD i 0)) _ _;rw[this];exact .i _ _ _
  |j+1,hcv=>simp[Ty.cells]at hcv
theorem zHA {w:World}{b off cap:Nat}{arr:Array Value}{e:TypeId}(hb:w.heap[b]?=some (.cells arr e (0,0))){l:List (List Int)}(hl:l.length<=1000)(hcap:l.length<=cap)(hsz:off+cap<=arr.size)(V:Nat->Value){K:zT}(hKb:K b)(hv:∀i,i<l.length->arr[off+i]?=some (V i))(hr:∀i x,l[i]?=some x->∃Kr,Rep false w (V i) (.s .int x) Kr/\∀y,Kr y->K y):Rep false w (.slice (some ⟨b,off,none⟩) l.length cap) (.s (.sl .int) l) K:=by
 refine .sl (.sl .int) l b off cap arr e (0,0) (fun i _=>V i) (fun _ _=>K) _ hb (fun _=>rfl) (by rw[zom];omega) hcap (by show off+cap*1<=arr.size;omega) hKb (fun i j x _ _ h=>⟨h,fun h=>by cases h⟩) (fun h=>by cases h) (fun i j hi hj=>?_) (fun i x hx j cv hcv=>?_);{have hj0:j=0:=(by have:j<1:=hj;omega);subst hj0;show arr[off+i*1+0]?=_;rw[uY,jY];exact hv i hi}
 .match j,hcv with
  | 0,hcv=>cases hcv;obtain⟨Kr,h1,h2⟩:=hr i x hx;exact h1.weak h2
  |j+1,hcv=>simp[Ty.cells]at hcv
theorem zt0 {w:World}{b o:Nat}{arr:Array Value}{e:TypeId}(hb:w.heap[b]?=some (.cells arr e (0,0))):w.frozen? ⟨b,o,none⟩=false:=by simp[World.frozen?,hb]
set_option maxHeartbeats 3000000 in
theorem zUY {w:World}{blk:Nat}{u:Value}{c:Cur}{K0:zT}{r:Ans}(N:Nat)(hcur:∃e,w.heap[blk]?=some (.cells #[u,.int .i64 c.i,.int .i64 c.h] e (0,0)))(hu:Rep false w u (.s .u8 c.b) K0)(hK:∀x,K0 x->x<w.heap.size/\x≠blk)(hE:zmL N c=some r) :
 Calls Tryz.prog 142 #[.pointer (some ⟨blk,0,none⟩)] w fun e w'=>∃c2 l v Kr,r=AV.agg (zbT c2)::[aS (.sl .int) l]/\e = .returned v/\Cw w blk u c2 w'/\Rep false w' v (.s (.sl .int) l) Kr/\(∀x,Kr x->w.heap.size<=x/\x<w'.heap.size):=by
 unfold zmL at hE;cases hm:zhh c 3 with
 |false=>rw[hm]at hE;cases hE
 |true=>
 cases hb:zo (zyw c) 8 with
 |false=>rw[hm,hb]at hE;cases hE
 |true=>
 rw[hm,hb,cT,cT]at hE;have hku:∀{w':World} {c':Cur},Cw w blk u c' w'->c'.b=c.b->Rep false w' u (.s .u8 c'.b) K0/\∀x,K0 x->x<w'.heap.size/\x≠blk:=by intro w' c' h e;rw[e];exact⟨hu.frame (fun x hx=>h.keep x (hK x hx).1 (hK x hx).2),fun x hx=>⟨jA (hK x hx).1 h.size,(hK x hx).2⟩⟩
 have hM:=(zyX hm).2.2 (by omega) (by omega)
 have hlen:(zdZ c).length=3:=by have:=hM.1;unfold ln at this;unfold zdZ;omega
 have hk0:=(zgD hb).2.2 (by omega)
 obtain⟨k,hk⟩:∃k,zl (zyw c) 8=k:=⟨_,rfl⟩;have hk':zX9 c=k:=hk;rw[hk']at hE
 go_enter Tryz.func142,Tryz.ntmps142
 go_wp2_with fail
 refine(z3c hcur hu hK hm).mono ?_
 rintro e w1 ⟨v,K1,rfl,hC1,hR1,hK1⟩
 have hR1:Rep true w1 v (.s (.sl .int) (zdZ c)) K1:=hR1;have hC1:Cw w blk u (zyw c) w1:=hC1;obtain⟨b0,off,cap,arr,e0,V,Kc,rfl,hb0,hcap,hsz,hKb,hKc,hKd,hV,hVr⟩:=z04 hR1 hlen;have hltw:blk<w.heap.size:=by obtain⟨e,he⟩:=hcur;exact(qK.1 he).1
 have hbb:b0≠blk:=by have:=(hK1 b0 hKb).1;omega
 have cellAt:∀{w':World} {c':Cur},Cw w1 blk u c' w'->w'.heap[b0]?=some (.cells arr e0 (0,0)):=fun h=>(h.keep b0 (hK1 b0 hKb).2 hbb).trans hb0
 go_wp2_with fail
 obtain⟨hu1,hk1⟩:=hku hC1 rfl;refine(zry hC1.cur hu1 hk1 hb).mono ?_;rw[hk]
 rintro e w2 ⟨rfl,hC2⟩
 have hC2:Cw w1 blk u (zgL c) w2:=hC2;obtain⟨hu2,hk2⟩:=hku (hC1.trans hC2) rfl;have hsz12:=hC2.size;have hb0n:w.heap.size<=b0/\b0<w1.heap.size:=hK1 b0 hKb
 have rowR:∀{w':World} (i:Nat) (x:List Int),(∀b,Kc i b->b<w1.heap.size->b≠blk->b≠b0->w'.heap[b]?=w1.heap[b]?)->i<3->(zdZ c)[i]?=some x->Rep false w' (V i) (.s .int x) (Kc i)/\∀y,Kc i y->w.heap.size<=y/\y<w1.heap.size:=by intro w' i x hf hi hx;refine⟨((hVr i x hx).frame (fun y hy=>?_)).ro,fun y hy=>hK1 y (hKc i y hi hy).1⟩;have:=hK1 y (hKc i y hi hy).1;exact hf y hy this.2 (by omega) (hKc i y hi hy).2
 go_wp2_with fail
 .have h0:ieq k 0=true:=by assumption
  rw[h0,cT]at hE;cases hb3:zo (zgL c) 3 with
  |false=>rw[hb3]at hE;cases hE
  |true=>
  cases hb4:zo (zrF c) 4 with
  |false=>rw[hb3,hb4]at hE;cases hE
  |true=>
   rw[hb3,hb4,cT,cT]at hE;have hj:=(zgD hb3).2.2 (by omega);obtain⟨j,hj2⟩:=uT hj.1;have hji:zX8 c=(j:Int):=hj2;have hn:=(zgD hb4).2.2 (by omega);obtain⟨n,hn2⟩:=uT hn.1;have hni:z8E c=(n:Int):=hn2;rw[hji,hni]at hE;rw[hj2]at hj;rw[hn2]at hn;have hj3:j<3:=(by omega);have hn4:n<4:=(by omega);obtain⟨R0,hR0⟩:∃R0,(zdZ c)[0]?=some R0:=⟨_,qB (by omega)⟩;have hR04:R0.length=4:=hM.2 R0 (qH hR0);obtain⟨b1,off1,cap1,arr1,e1,hV0,hb1,hcap1,hsz1,hKb1,hnum⟩:=zTo (hVr 0 R0 hR0) hR04;have cell0:∀{w':World} {c':Cur},Cw w1 blk u c' w'->w'.cell? ⟨b0,off,none⟩=some (.slice (some ⟨b1,off1,none⟩) 4 cap1):=fun h=>(by have:=hV 0 (by omega);rw[jY,hV0] at this;rw[cell_of_block (cellAt h)];exact this);have cellj:∀{w':World} {c':Cur},Cw w1 blk u c' w'->w'.cell? ⟨b0,off+j,none⟩=some (V j)/\w'.frozen? ⟨b0,off+j,none⟩=false:=fun h=>by rw[cell_of_block (cellAt h)];exact⟨hV j hj3,zt0 (cellAt h)⟩
   have fin1:∀{w4:World},Cw w1 blk u (zX6 c) w4->∃c2 l v Kr,r=AV.agg (zbT c2)::[aS (.sl .int) l]/\Ending.returned (.slice (some ⟨b0,off,none⟩) 3 cap) = .returned v/\Cw w blk u c2 (w4.setCell ⟨b0,off+j,none⟩ (.slice (some ⟨b1,off1,none⟩) n cap1))/\Rep false (w4.setCell ⟨b0,off+j,none⟩ (.slice (some ⟨b1,off1,none⟩) n cap1)) v (.s (.sl .int) l) Kr/\
    (∀x,Kr x->w.heap.size<=x/\x<(w4.setCell ⟨b0,off+j,none⟩ (.slice (some ⟨b1,off1,none⟩) n cap1)).heap.size):=by
    intro w4 h4;have hz:=h4.size;have hb1n:=hK1 b1 (hKc 0 b1 (by omega) hKb1).1
    have hb1b:b1≠blk:=by omega
    have hb10:b1≠b0:=(hKc 0 b1 (by omega) hKb1).2
    have ho:∀b,b≠b0->(w4.setCell ⟨b0,off+j,none⟩ (.slice (some ⟨b1,off1,none⟩) n cap1)).heap[b]?=w4.heap[b]?:=fun b hb=>heap_setCell_other w4 _ b _ hb;have hs0:=heap_setCell_same w4 b0 (off+j) arr e0 (.slice (some ⟨b1,off1,none⟩) n cap1) (cellAt h4);have h41:=hC1.trans h4;refine⟨_,_,_,K1,(Option.some.inj hE).symm,rfl,⟨h41.os,h41.tape,h41.output,by rw[World.size_setCell];exact h41.size,fun b hb hn=>(ho b (by omega)).trans (h41.keep b hb hn),by obtain⟨e,he⟩:=h41.cur;exact⟨e,(ho blk (fun h=>hbb h.symm)).trans he⟩⟩,?_,fun x hx=>⟨(hK1 x hx).1,by rw[World.size_setCell];have:=hK1 x hx;omega⟩⟩
    have hix:ix (zdZ c) 0 []=R0:=by unfold ix;simp[List.getD,hR0]
    have hlu:(up (zdZ c) (j:Int) (tk (ix (zdZ c) 0 []) (n:Int))).length=3:=by rw[zg8];exact hlen
    have:=zHA hs0 (l:=up (zdZ c) (j:Int) (tk (ix (zdZ c) 0 []) (n:Int))) (by omega) (cap:=cap) (off:=off) (by omega) (by simpa using hsz) (fun i=>if i=j then .slice (some ⟨b1,off1,none⟩) n cap1 else V i) hKb (fun i hi=>by
     rw[hlu]at hi;rw[k9]
     by_cases hij:i=j
     .subst hij;rw[if_pos rfl,if_pos (by omega),if_pos rfl]
     .rw [if_neg (by omega),if_neg hij]
      exact hV i hi) (fun i x hx=>by
     have hi:i<3:=by rw[<- hlu];exact(qA.1 hx).1
     unfold up at hx;rw[q0]at hx
     by_cases hij:i=j
     .subst hij;rw[kD,if_pos rfl,if_pos (by omega),hix]at hx
      cases hx;refine⟨fun x=>x=b1,?_,fun y hy=>by rw[hy];exact(hKc 0 b1 (by omega) hKb1).1⟩
      have hl:(tk R0 (n:Int)).length=n:=by simp[tk];omega
      have:=zHz (o:=false) (w:=w4.setCell ⟨b0,off+i,none⟩ (.slice (some ⟨b1,off1,none⟩) n cap1)) (b:=b1) (off:=off1) (cap:=cap1) (arr:=arr1) (e:=e1) ((ho b1 hb10).trans ((h4.keep b1 hb1n.2 hb1b).trans hb1)) (l:=tk R0 (n:Int)) (by omega) (by omega) hsz1 (fun q z hq=>by
       unfold tk at hq;rw[jK]at hq;split at hq
       .exact hnum q z hq
       .cases hq)
      rw[hl] at this;rw[if_pos rfl];exact this
     .rw [kD,if_neg (by omega)]at hx
      rw[if_neg hij];exact⟨Kc i,(rowR i x (fun b _ hb hn hb0=>(ho b hb0).trans (h4.keep b hb hn)) hi hx).1,fun y hy=>(hKc i y hi hy).1⟩)
    rw[hlu] at this;exact this
   have hD2:Cw w1 blk u (zgL c) w2.drew:=hC2.drew;obtain⟨hu2',hk2'⟩:=hku (hC1.trans hD2) rfl;have d2:=cell0 hD2
   go_region_with (first
    |(go_at_call_of 54 (Value.int IntKind.i64 3);refine(zry (c:=zgL c) (n:=3) hD2.cur hu2' hk2' hb3).mono ?_;rw[hj2];rintro e w3 ⟨rfl,hC3⟩;have hC3:Cw w2.drew blk u (zrF c) w3:=hC3;have hE3:=hD2.trans hC3;have d3:=cell0 hE3;obtain⟨hu3,hk3⟩:=hku (hC1.trans hE3) rfl)
    |(go_at_call_of 54 (Value.int IntKind.i64 4);refine(zry (c:=zrF c) (n:=4) hE3.cur hu3 hk3 hb4).mono ?_;rw[hn2];rintro e w4 ⟨rfl,hC4⟩;have hC4:Cw w3 blk u (zX6 c) w4:=hC4;have hE4:=hE3.trans hC4;have d4:=cell0 hE4;obtain⟨d5,d6⟩:=cellj hE4))
   (all_goals go_wp2);(all_goals go_ret);all_goals exact fin1 hE4
 .have h0:ieq k 0=false:=by assumption
  have h1:ieq k 1=true:=by assumption
  rw[h0,h1,cF,cT]at hE;cases hbp:zbp (zgL c) [-1,100] with
  |false=>rw[hbp]at hE;cases hE
  |true=>
   rw[hbp,cT]at hE;obtain⟨R1,hR1x⟩:∃R1,(zdZ c)[1]?=some R1:=⟨_,qB (by omega)⟩;have hR14:R1.length=4:=hM.2 R1 (qH hR1x);obtain⟨b1,off1,cap1,arr1,e1,hV1,hb1,hcap1,hsz1,hKb1,hnum⟩:=zTo (hVr 1 R1 hR1x) hR14;have hb1n:=hK1 b1 (hKc 1 b1 (by omega) hKb1).1;have hb1b:b1≠blk:=(by omega);have hb10:b1≠b0:=(hKc 1 b1 (by omega) hKb1).2;have cell1:∀{w':World} {c':Cur},Cw w1 blk u c' w'->w'.cell? ⟨b0,off+1,none⟩=some (.slice (some ⟨b1,off1,none⟩) 4 cap1):=fun h=>(by have:=hV 1 (by omega);rw[hV1] at this;rw[cell_of_block (cellAt h)];exact this);have blk1:∀{w':World} {c':Cur},Cw w1 blk u c' w'->w'.heap[b1]?=some (.cells arr1 e1 (0,0)):=fun h=>(h.keep b1 hb1n.2 hb1b).trans hb1;have cell2:∀{w':World} {c':Cur},Cw w1 blk u c' w'->w'.cell? ⟨b1,off1+2,none⟩=some (.int .i64 R1[2])/\w'.frozen? ⟨b1,off1+2,none⟩=false:=fun h=>by rw[cell_of_block (blk1 h)];exact⟨hnum 2 _ (qB (by omega)),zt0 (blk1 h)⟩
   have hD2:Cw w1 blk u (zgL c) w2.drew:=hC2.drew;have d2:=cell1 hD2;have fin2:∀{w4:World},Cw w1 blk u (zX7 c) w4->∃c2 l v Kr,r=AV.agg (zbT c2)::[aS (.sl .int) l]/\Ending.returned (.slice (some ⟨b0,off,none⟩) 3 cap) = .returned v/\Cw w blk u c2 (w4.setCell ⟨b1,off1+2,none⟩ (.int .i64 (zsP c)))/\Rep false (w4.setCell ⟨b1,off1+2,none⟩ (.int .i64 (zsP c))) v (.s (.sl .int) l) Kr/\
    (∀x,Kr x->w.heap.size<=x/\x<(w4.setCell ⟨b1,off1+2,none⟩ (.int .i64 (zsP c))).heap.size):=by
    intro w4 h4;have hz:=h4.size;have ho:∀b,b≠b1->(w4.setCell ⟨b1,off1+2,none⟩ (.int .i64 (zsP c))).heap[b]?=w4.heap[b]?:=fun b hb=>heap_setCell_other w4 _ b _ hb;have hs0:=heap_setCell_same w4 b1 (off1+2) arr1 e1 (.int .i64 (zsP c)) (blk1 h4);have h41:=hC1.trans h4;refine⟨_,_,_,K1,(Option.some.inj hE).symm,rfl,⟨h41.os,h41.tape,h41.output,by rw[World.size_setCell];exact h41.size,fun b hb hn=>(ho b (by omega)).trans (h41.keep b hb hn),by obtain⟨e,he⟩:=h41.cur;exact⟨e,(ho blk (fun h=>hb1b h.symm)).trans he⟩⟩,?_,fun x hx=>⟨(hK1 x hx).1,by rw[World.size_setCell];have:=hK1 x hx;omega⟩⟩
    have hix:ix (zdZ c) 1 []=R1:=by unfold ix;show (zdZ c).getD 1 []=R1;simp[List.getD,hR1x]
    have hlu:(up (zdZ c) 1 (up (ix (zdZ c) 1 []) 2 (zsP c))).length=3:=by rw[zg8];exact hlen
    have:=zHA ((ho b0 (fun h=>hb10 h.symm)).trans (cellAt h4)) (l:=up (zdZ c) 1 (up (ix (zdZ c) 1 []) 2 (zsP c))) (by omega) (cap:=cap) (off:=off) (by omega) hsz V hKb (fun i hi=>hV i (by omega)) (fun i x hx=>by
     have hi:i<3:=by rw[<- hlu];exact(qA.1 hx).1
     unfold up at hx;rw[q0]at hx
     by_cases hij:i=1
     .subst hij;rw[show (1:Int).toNat=1 from rfl,if_pos rfl,if_pos (by omega),hix]at hx
      cases hx;refine⟨fun x=>x=b1,?_,fun y hy=>by rw[hy];exact(hKc 1 b1 (by omega) hKb1).1⟩
      have hl:(List.set R1 (2:Int).toNat (zsP c)).length=4:=by simp;omega
      have:=zHz (o:=false) (w:=w4.setCell ⟨b1,off1+2,none⟩ (.int .i64 (zsP c))) (b:=b1) (off:=off1) (cap:=cap1) hs0 (l:=List.set R1 (2:Int).toNat (zsP c)) (by omega) (by omega) (by simpa using hsz1) (fun q z hq=>by
       rw[q0]at hq;rw[k9]
       by_cases hq2:q=2
       .subst hq2;rw[show (2:Int).toNat=2 from rfl,if_pos rfl,if_pos (by omega)]at hq
        cases hq;rw[if_pos rfl,if_pos (by omega)]
       .rw [show (2:Int).toNat=2 from rfl,if_neg (by omega)]at hq
        rw[if_neg (by omega)]
        exact hnum q z hq)
      rw[hl] at this;rw[hV1];exact this
     .rw [show (1:Int).toNat=1 from rfl,if_neg (by omega)]at hx
      refine⟨Kc i,(rowR i x (fun b hkb hb hn hb0'=>?_) hi hx).1,fun y hy=>(hKc i y hi hy).1⟩;exact(ho b (fun e=>hij (hKd i 1 b hi (by omega) hkb (by rw[e];exact hKb1)))).trans (h4.keep b hb hn))
    rw[hlu] at this;exact this
   have hA:Cw w1 blk u (zgL c) (w2.alloc (Obj.cells #[Value.int .i64 (-1),Value.int .i64 100] 3)).drew:=(hC2.alloc hC2.lt _).drew;obtain⟨huA,hkA⟩:=hku (hC1.trans hA) rfl;have dA:=cell1 hA;have hvA:Rep false (w2.alloc (Obj.cells #[Value.int .i64 (-1),Value.int .i64 100] 3)).drew (.slice (some ⟨w2.heap.size,0,none⟩) 2 2) (.s .int [-1,100]) (fun x=>x=w2.heap.size):=by
    have hh:(w2.alloc (Obj.cells #[Value.int .i64 (-1),Value.int .i64 100] 3)).drew.heap[w2.heap.size]?=some (.cells #[Value.int .i64 (-1),Value.int .i64 100] 3 (0,0)):=heap_alloc_new w2 _;exact zHz (o:=false) hh (l:=[-1,100]) (cap:=2) (off:=0) (by decide) (by decide) (by decide) (fun i x hx=>by
     match i,hx with
     | 0,hx=>cases hx;rfl
     | 1,hx=>cases hx;rfl
     |i+2,hx=>simp at hx)
   go_region_with (first
    |(go_at_call_of 83 (Value.slice (some ⟨w2.heap.size,0,none⟩) 2 2);refine(z0X (c:=zgL c) (l:=[-1,100]) hA.cur huA hkA hbp hvA (fun x hx=>by rw[hx];exact⟨by simp,Nat.ne_of_gt hC2.lt⟩)).mono ?_;rintro e w3 ⟨rfl,hC3⟩;have hC3:Cw (w2.alloc (Obj.cells #[Value.int .i64 (-1),Value.int .i64 100] 3)).drew blk u (zX7 c) w3:=hC3;have hE3:=hA.trans hC3;have d3:=cell1 hE3;obtain⟨d4,d5⟩:=cell2 hE3))
   (all_goals go_wp2);(all_goals go_ret);all_goals exact fin2 hE3
 .have h0:ieq k 0=false:=by assumption
  have h1:ieq k 1=false:=by assumption
  have h2:ieq k 2=true:=by assumption
  rw[h0,h1,h2,cF,cF,cT]at hE;cases hb3:zo (zgL c) 3 with
  |false=>rw[hb3]at hE;cases hE
  |true=>
   rw[hb3,cT]at hE;have hj:=(zgD hb3).2.2 (by omega);obtain⟨j,hj2⟩:=uT hj.1;have hji:zX8 c=(j:Int):=hj2;rw[hji]at hE;refine(zry hC2.cur hu2 hk2 hb3).mono ?_;rw[hj2];rintro e w3 ⟨rfl,hC3⟩;have hC3:Cw w2 blk u (zrF c) w3:=hC3;go_wp2;go_ret;have hj3:j<3:=(by omega);have hlj:(tk (zdZ c) (j:Int)).length=j:=(by simp[tk];omega);have hE3:=hC2.trans hC3;refine⟨_,_,_,K1,(Option.some.inj hE).symm,rfl,hC1.trans hE3,?_,fun x hx=>⟨(hK1 x hx).1,by have:=hK1 x hx;have:=hE3.size;omega⟩⟩
   have:=zHA (cellAt hE3) (l:=tk (zdZ c) (j:Int)) (by omega) (cap:=cap) (off:=off) (by omega) hsz V hKb (fun i hi=>hV i (by omega)) (fun i x hx=>by
    have hi:i<(tk (zdZ c) (j:Int)).length:=(qA.1 hx).1;have hx2:(zdZ c)[i]?=some x:=by unfold tk at hx;rw[jK]at hx;split at hx;{exact hx};{cases hx}
    exact⟨Kc i,(rowR i x (fun b _ hb hn _=>hE3.keep b hb hn) (by omega) hx2).1,fun y hy=>(hKc i y (by omega) hy).1⟩)
   rw[hlj] at this;exact this
 .have h0:ieq k 0=false:=by assumption
  have h1:ieq k 1=false:=by assumption
  have h2:ieq k 2=false:=by assumption
  rw[h0,h1,h2,cF,cF,cF]at hE
  go_ret
  exact⟨_,_,_,K1,(Option.some.inj hE).symm,rfl,hC1.trans hC2,(hR1.frame (fun x hx=>hC2.keep x (hK1 x hx).2 (by have:=hK1 x hx;omega))).ro,fun x hx=>⟨(hK1 x hx).1,by have:=hK1 x hx;omega⟩⟩
theorem zR4 {c:Cur}(h:zbd c):znQ c=true:=by
 refine zYA c ⟨0,?_⟩;unfold zmL;have hm:=z9j h (a0:=3) (by omega) (by omega);have k1:zbd (zyw c):=zbH h (zYD _ _);have k2:zbd (zgL c):=zbH h (zA _ _);have k3:zbd (zrF c):=zbH h (zA _ _);have hM:=(zyX hm).2.2 (by omega) (by omega);have hl:(zdZ c).length=3:=(by have:=hM.1;unfold ln at this;unfold zdZ;omega);have hr:∀r∈zdZ c,r.length<=4:=fun r hr=>k5 (hM.2 r hr);have hx:∀n,(ix (zdZ c) n []).length<=4:=(by intro n;unfold ix List.getD;cases hq:(zdZ c)[n.toNat]? with|none=>simp|some r=>exact hr r (qH hq));have hup:∀(n:Int) (r:List Int),r.length<=4->∀q∈up (zdZ c) n r,q.length<=4:=by intro n r h4 q hq;rcases qZ hq with hq|rfl;{exact hr q hq};{exact h4}
 have fin:∀(s:Cur) (l:List (List Int)),s.b=c.b->0<=s.i->l.length<=3->(∀r∈l,r.length<=4)->Ends (fun a=>∃s v0,a=(AV.agg (zbT s)::[aS (.sl .int) v0])/\(s.b=c.b/\0<=s.i)/\(v0.length<=3/\∀r∈v0,r.length<=4)) (some (AV.agg (zbT s)::[aS (.sl .int) l])):=
  fun s l h1 h2 h3 h4=>⟨_,rfl,s,l,rfl,⟨h1,h2⟩,h3,h4⟩
 exact zq hm (zq (zbs k1 8) (zby (fun _=>zq (zbs k2 3) (zq (zbs k3 4) (fin _ _ rfl (zA _ _) (by rw[zg8];omega) (hup _ _ (qT (zBP _ _) (hx _))))))
  (fun _=>zby (fun _=>zq (zet k2 (by simp)) (fin _ _ rfl (zbX _ _) (by rw[zg8];omega) (hup _ _ (by rw[zg8];exact hx _)))) (fun _=>zby (fun _=>zq (zbs k2 3) (fin _ _ rfl (zA _ _) (qT (zBP _ _) (by omega)) (fun r hq=>hr r (jR hq)))) (fun _=>fin _ _ rfl (zA _ _) (by omega) hr)))))
theorem zL3:zbM Tryz.prog 142 [false,true,true] zqO:=by
 refine⟨zie (by kernel_rfl),?_⟩;intro w blk vals e cs K avs xs Ka cs' rs hb hvs hos hrep hKlt hKd hx hKa hrun;unfold zqO rP0 at hrun;obtain⟨⟨c0,c1,c2⟩,rfl,hrun⟩:=z0S hrun;obtain⟨rfl,hc,rfl,rfl⟩:=zum hrun;dsimp only at hc ⊢;have hs:vals.size=3:=hvs;have hlx:xs=[]:=List.eq_nil_of_length_eq_zero hx.1;subst hlx;obtain⟨N,hE⟩:=(zKA hc).1;have v1:=(hrep 1 _ (vals[1]'(by omega)) rfl (jG _)).int_inv;have v2:=(hrep 2 _ (vals[2]'(by omega)) rfl (jG _)).int_inv
 have hvals:vals = #[vals[0]'(by omega),.int .i64 c1,.int .i64 c2]:=by
  apply Array.ext;{exact hs}
  .intro i hi hi2
   match i,hi with
   | 0,_=>rfl
   | 1,_=>exact v1
   | 2,_=>exact v2
   |i+3,h=>omega
 have hu:=hrep 0 _ (vals[0]'(by omega)) rfl (jG _);have hu':Rep false w (vals[0]'(by omega)) (.s .u8 c0) (K 0):=hu;generalize vals[0]'(by omega)=u at hvals hu';subst hvals;refine(zUY (c:=⟨c0,c1,c2⟩) (u:=u) (K0:=K 0) N ⟨e,hb⟩ hu' (fun x hx=>hKlt 0 x (show 0<3 by decide) hx) hE).mono ?_;rintro e2 w' ⟨c3,l,v,Kr,hr,rfl,hC,hR,hKr⟩;have hcc:AV.agg (zbT (zhg ⟨c0,c1,c2⟩))::[aS (.sl .int) (zo1 ⟨c0,c1,c2⟩)]=AV.agg (zbT c3)::[aS (.sl .int) l]:=hr;simp only[List.cons.injEq,AV.agg.injEq,AV.one.injEq,and_true]at hcc;obtain⟨h3,h4⟩:=hcc;have h4:zo1 ⟨c0,c1,c2⟩=l:=(by cases h4;rfl);subst h4;have hs3:zhg ⟨c0,c1,c2⟩=c3:=(by have h3:=h3;simp only[zbT,List.cons.injEq,CV.s.injEq,CV.i.injEq,true_and,and_true,heq_eq_eq]at h3;obtain⟨g1,g2,g3⟩:=h3;generalize zhg ⟨c0,c1,c2⟩=s at g1 g2 g3;obtain⟨a1,a2,a3⟩:=s;obtain⟨b1,b2,b3⟩:=c3;simp only at g1 g2 g3;rw[g1,g2,g3]);rw[hs3];obtain⟨e3,he3⟩:=hC.cur;refine⟨hC.os,hC.tape,hC.output,hC.size,fun b hb hn _=>hC.keep b hb hn,#[u,.int .i64 c3.i,.int .i64 c3.h],e3,fun _ _=>False,[v],fun _=>Kr,he3,rfl,rfl,?_,⟨rfl,fun i cv x hcv hx=>?_⟩,rfl,fun j x _ h=>h.elim,fun i x hi hk=>⟨(hKr x hk).2,?_,.inr (hKr x hk).1⟩,fun i j x _ _ _ h=>h.elim,?_,fun i j x _ _ h=>h.elim⟩
 .intro j cv u' hcv hu'
  match j,hcv,hu' with
  | 0,hcv,hu'=>cases hcv;exact⟨fun h=>by simp[zY]at h,fun _=>hu'⟩
  | 1,hcv,hu'=>cases hcv;cases hu';rfl
  | 2,hcv,hu'=>cases hcv;cases hu';rfl
  |j+3,hcv,hu'=>simp[zbT]at hcv
 .match i,hcv,hx with
  | 0,hcv,hx=>cases hcv;cases hx;exact hR
  |i+1,hcv,hx=>simp at hx
 {have:=(qK.1 hb).1;have:=(hKr x hk).1;omega};{intro i j cv x hi ho hj hne _;have h1:i<1:=(qA.1 hi).1;have h2:j<1:=hj;omega}
def z5N:zcQ:=[(142,([false,true,true],zqO))]++z5M
theorem zTf:zb1 z5N:=zco z3m (by
 intro x hx;simp only[qF,qP,or_false]at hx;rcases hx with rfl
 .exact zL3)
end
def z9a:zZ:=[(145,zkG),(220,zoO)]++z4K
theorem zGl:zL z9a:=zi zl4 (zi zsG zdD)
theorem zDf {α:Type}{c c0:Cur}(h:zbd c)(hb0:0<=c0.i){P:α->Prop}{q:Int}(h0:0<q)(hm:q<=1000){fc:Cur->Bool}{fs:Cur->Cur}{fv:Cur->α}(hf:∀{c:Cur},zbd c->fc c=true)(hp:∀c,0<=(fs c).i)(hg:∀{c:Cur},zbd c->P (fv c)){G:Ans->Prop}{l0:List α}{z:Nat}(hz:l0.length<=z)(hz2:z<=1000)(hl0:∀x∈l0,P x){σ:Type}(S:Nat->Int×Int×Int×List α->σ){F:(σ->OA)->σ->OA}(hF:∀rec t i k l,∃r,F rec (S 0 (t,i,k,l))=(bif zo ⟨c.b,i,k⟩ q then (bif ilt t (zl ⟨c.b,i,k⟩ q) then (bif fc { zf ⟨c.b,i,k⟩ q with b:=c.b } then (bif few (ln (ap l [fv { zf ⟨c.b,i,k⟩ q with b:=c.b }])) then
        rec (S 0 (zK .i64 t 1,(fs {zf ⟨c.b,i,k⟩ q with b:=c.b}).i,(fs {zf ⟨c.b,i,k⟩ q with b:=c.b}).h,ap l [fv {zf ⟨c.b,i,k⟩ q with b:=c.b}])) else none) else none) else some r) else none)/\(ln l<=z+q->(∀x∈l,P x)->G r)):Ends G (iter 1002 F (S 0 (0,c0.i,c0.h,l0))):=by
 refine zjJ (fun n s=>∃t i k l,s=S 0 (t,i,k,l)/\t+(n:Int)=1000/\0<=t/\t<=q/\0<=i/\(∀x∈l,P x)/\ln l<=z+t) ?_ 1002 1000 _ ⟨0,c0.i,c0.h,l0,rfl,rfl,kL 0,by omega,hb0,hl0,by unfold ln;omega⟩ (by omega)
 rintro n s rec ⟨t,i,k,l,rfl,h1,h2,h3,h4,h5,h6⟩ hrec
 obtain⟨r,hF1,hF2⟩:=hF rec t i k l;rw[hF1];have hcur:zbd ⟨c.b,i,k⟩:=zbH h h4;have hx:=zfb hcur h0;have h7:zbd {zf ⟨c.b,i,k⟩ q with b:=c.b}:=zbH h (zA _ _);refine zq (zbs hcur _) (zby (fun hc=>?_) (fun hc=>?_))
 .have hlt:t<zl ⟨c.b,i,k⟩ q:=qE hc;have ht:=zgx (y:=1) h2 (by omega) (by omega) (by omega)
  refine zq (hf h7) (zq (zjK (by rw[zgM];omega)) (hrec (n-1) _ (by omega) ⟨_,_,_,_,rfl,by omega,by omega,by omega,hp _,?_,by rw[zgM];omega⟩))
  intro x hx;rcases jI.1 hx with hx|hx
  .exact h5 x hx
  .rw [qG.1 hx];exact hg h7
 .exact zsy (hF2 (by omega) h5)
theorem z8x {c c0:Cur}(h:zbd c)(hb0:0<=c0.i){m q x:Int}(h0:0<q)(hm0:0<=m)(hm:m+q<=1000){G:Ans->Prop}{l0:List Int}(hz:ln l0<=m+q){σ:Type}(S:Nat->Int×Int×List Int->σ){F:(σ->OA)->σ->OA}(hF:∀rec i k l,∃r,F rec (S 0 (i,k,l))=(bif zo ⟨c.b,i,k⟩ q then (bif ilt (ln l) (zK .i64 m (zl ⟨c.b,i,k⟩ q)) then (bif few (ln (ap l [x])) then
        rec (S 0 ((zf ⟨c.b,i,k⟩ q).i,(zf ⟨c.b,i,k⟩ q).h,ap l [x])) else none) else some r) else none)/\(ln l<=m+q->G r)):Ends G (iter 1002 F (S 0 (c0.i,c0.h,l0))):=by
 refine zjJ (fun n s=>∃i k l,s=S 0 (i,k,l)/\ln l+(n:Int)=1000/\0<=i/\ln l<=m+q) ?_ 1002 (1000-ln l0).toNat _ ⟨c0.i,c0.h,l0,rfl,by unfold ln at *;omega,hb0,hz⟩ (by unfold ln at *;omega)
 rintro n s rec ⟨i,k,l,rfl,h1,h2,h3⟩ hrec
 obtain⟨r,hF1,hF2⟩:=hF rec i k l;rw[hF1];have hcur:zbd ⟨c.b,i,k⟩:=zbH h h2;have hx:=zfb hcur h0;have hw:=zgx (x:=m) (y:=zl ⟨c.b,i,k⟩ q) hm0 (by omega) hx.1 (by omega)
 refine zq (zbs hcur _) (zby (fun hc=>?_) (fun hc=>?_))
 .have hlt:ln l<zK .i64 m (zl ⟨c.b,i,k⟩ q):=qE hc;rw[hw]at hlt;exact zq (zjK (by rw[zgM];omega)) (hrec (n-1) _ (by unfold ln at *;omega) ⟨_,_,_,rfl,by rw[zgM];omega,zA _ _,by rw[zgM];omega⟩)
 .exact zsy (hF2 h3)
def GuS (g:Guest):Prop:=g.Prog.length<=13/\g.Written.length<=4/\g.Live.length<=4/\g.Seen.length<=50
theorem zC0 {c:Cur}(h:zbd c):(zc9 c 4 8).length<=4:=by have:=(z7O h (n:=4) (m:=8) (by omega) (by omega) (by omega) (by omega)).1;unfold ln at this;omega
def zsm (N:Nat)(c:Cur)  : OA :=
 let y16:=({ (zW c) with b:=c.b}:Cur);let y78:=(zc9 y16 4 8);let y14:=(zcj (zbY c));let y9:=({ (zF y16 4 8) with b:=c.b}:Cur);let y84:=(zc9 y9 4 8);let y2:=({ (zF y9 4 8) with b:=c.b}:Cur);let y83:=(zl y2 100);let y15:=({ (zf y2 100) with b:=c.b}:Cur);let y89:=(zl y15 4);let y0:=({ (zf y15 4) with b:=c.b}:Cur);let y37:=({ (zca y0) with b:=c.b}:Cur);let y28:=(zcq y0);let y1:=({ (zO y37 3) with b:=c.b}:Cur);let y27:=({ (zf y1 256) with b:=c.b}:Cur);let y8:=({ (zO y1 4) with b:=c.b}:Cur);let y26:=({ (zez y8) with b:=c.b}:Cur);let y3:=({ (zO y27 4) with b:=c.b}:Cur);let y25:=({ (zez y3) with b:=c.b}:Cur); (oN (zgg c) (oN (zhR (zbY c)) (oN (zgE y16 4 8) (oN (zgE y9 4 8) (oN (zo y2 100) (oN (zo y15 4) (oN (ziB y0) (oN (zcO y37 3) (cond (zcV y37 3) (oN (zo y1 256) (oN (zcO y27 4) (cond (zcV y27 4) (oN (zhx y3) (oN (zcO y25 12) (iter (σ:=(Int×(Int×(Int×(Int×(Int×(Int×(Int×(Bool×(Int×(Int×(Int×(Bool×(Int×(Bool×(Int×(Int×(Int×(Int×(Bool×(Int×(Int×(Int×(Bool×(Int×(Bool×((List Int)×(lI×(lS×(lS×((List Int)×(lI×(lS×(lS×((List Int)×Unit))))))))))))))))))))))))))))))))))) N (fun r2 s3=>let y85:=s3.2.2.2.2.2.2.2.2.2.2.2.2.2.2.1;let y79:=s3.2.2.2.2.2.2.2.2.2.2.2.2.2.2.2.1;let y74:=s3.2.2.2.2.2.2.2.2.2.2.2.2.2.2.2.2.1;let y70:=s3.2.2.2.2.2.2.2.2.2.2.2.2.2.2.2.2.2.1;let y66:=s3.2.2.2.2.2.2.2.2.2.2.2.2.2.2.2.2.2.2.1;let y62:=s3.2.2.2.2.2.2.2.2.2.2.2.2.2.2.2.2.2.2.2.1;let y58:=s3.2.2.2.2.2.2.2.2.2.2.2.2.2.2.2.2.2.2.2.2.1;let y54:=s3.2.2.2.2.2.2.2.2.2.2.2.2.2.2.2.2.2.2.2.2.2.1;let y50:=s3.2.2.2.2.2.2.2.2.2.2.2.2.2.2.2.2.2.2.2.2.2.2.1;let y46:=s3.2.2.2.2.2.2.2.2.2.2.2.2.2.2.2.2.2.2.2.2.2.2.2.1;let y42:=s3.2.2.2.2.2.2.2.2.2.2.2.2.2.2.2.2.2.2.2.2.2.2.2.2.1;let y38:=s3.2.2.2.2.2.2.2.2.2.2.2.2.2.2.2.2.2.2.2.2.2.2.2.2.2.2.2.2.2.2.1;let y33:=s3.2.2.2.2.2.2.2.2.2.2.2.2.2.2.2.2.2.2.2.2.2.2.2.2.2.2.2.2.2.2.2.1;let y29:=s3.2.2.2.2.2.2.2.2.2.2.2.2.2.2.2.2.2.2.2.2.2.2.2.2.2.2.2.2.2.2.2.2.1;let y17:=s3.2.2.2.2.2.2.2.2.2.2.2.2.2.2.2.2.2.2.2.2.2.2.2.2.2.2.2.2.2.2.2.2.2.1;let y4:=s3.2.2.2.2.2.2.2.2.2.2.2.2.2.2.2.2.2.2.2.2.2.2.2.2.2.1;let y21:=(⟨y4,s3.2.1,s3.2.2.1⟩:Cur);let y10:=({ (zf y21 4) with b:=y4}:Cur); (oN (zo y21 4) (cond (ilt s3.1 (zl y21 4)) (oN (zo y10 100) (oN (few (ln (ap y17 [(zl y10 100)]))) (r2 ((zK .i64 s3.1 1),((zf y10 100).i,((zf y10 100).h,(s3.2.2.2.1,(s3.2.2.2.2.1,(s3.2.2.2.2.2.1,(s3.2.2.2.2.2.2.1,(s3.2.2.2.2.2.2.2.1,(s3.2.2.2.2.2.2.2.2.1,(s3.2.2.2.2.2.2.2.2.2.1,(s3.2.2.2.2.2.2.2.2.2.2.1,(s3.2.2.2.2.2.2.2.2.2.2.2.1,(s3.2.2.2.2.2.2.2.2.2.2.2.2.1,(s3.2.2.2.2.2.2.2.2.2.2.2.2.2.1,(y85,(y79,(y74,(y70,(y66,(y62,(y58,(y54,(y50,(y46,(y42,(y4,(s3.2.2.2.2.2.2.2.2.2.2.2.2.2.2.2.2.2.2.2.2.2.2.2.2.2.2.1,(s3.2.2.2.2.2.2.2.2.2.2.2.2.2.2.2.2.2.2.2.2.2.2.2.2.2.2.2.1,(s3.2.2.2.2.2.2.2.2.2.2.2.2.2.2.2.2.2.2.2.2.2.2.2.2.2.2.2.2.1,(s3.2.2.2.2.2.2.2.2.2.2.2.2.2.2.2.2.2.2.2.2.2.2.2.2.2.2.2.2.2.1,(y38,(y33,(y29,((ap y17 [(zl y10 100)]),()))))))))))))))))))))))))))))))))))))) (some [(.agg [(.s .u8 y4),(.i .i64 (zf y21 4).i),(.i .i64 (zf y21 4).h)]),(aT .guest (⟨y38,y85,y79,y33,y29,⟨y74,y70,y66⟩,y62,⟨y58,y54,y50,y46⟩,y42,y17⟩:Guest))])))) (0,((zO y25 12).i,((zO y25 12).h,(0,(0,(0,(0,(false,(0,(0,(0,(false,(0,(false,(y83,(y89,(y28.Traps,(y28.Post,(y28.Open,((zl y1 256),((zb4 y3).Kind,((zb4 y3).Page,((zb4 y3).Write,((zb4 y3).N,((zcV y25 12),(c.b,([],([],([],([],(y14.Prog,(y78,(y84,(y14.Seen,()))))))))))))))))))))))))))))))))))))) (oN (zcO y3 12) (iter (σ:=(Int×(Int×(Int×(Int×(Int×(Int×(Int×(Bool×(Int×(Int×(Int×(Bool×(Int×(Bool×(Int×(Int×(Int×(Int×(Bool×(Int×(Int×(Int×(Bool×(Int×(Bool×((List Int)×(lI×(lS×(lS×((List Int)×(lI×(lS×(lS×((List Int)×Unit))))))))))))))))))))))))))))))))))) N (fun r2 s3=>let y86:=s3.2.2.2.2.2.2.2.2.2.2.2.2.2.2.1;let y80:=s3.2.2.2.2.2.2.2.2.2.2.2.2.2.2.2.1;let y75:=s3.2.2.2.2.2.2.2.2.2.2.2.2.2.2.2.2.1;let y71:=s3.2.2.2.2.2.2.2.2.2.2.2.2.2.2.2.2.2.1;let y67:=s3.2.2.2.2.2.2.2.2.2.2.2.2.2.2.2.2.2.2.1;let y63:=s3.2.2.2.2.2.2.2.2.2.2.2.2.2.2.2.2.2.2.2.1;let y59:=s3.2.2.2.2.2.2.2.2.2.2.2.2.2.2.2.2.2.2.2.2.1;let y55:=s3.2.2.2.2.2.2.2.2.2.2.2.2.2.2.2.2.2.2.2.2.2.1;let y51:=s3.2.2.2.2.2.2.2.2.2.2.2.2.2.2.2.2.2.2.2.2.2.2.1;let y47:=s3.2.2.2.2.2.2.2.2.2.2.2.2.2.2.2.2.2.2.2.2.2.2.2.1;let y43:=s3.2.2.2.2.2.2.2.2.2.2.2.2.2.2.2.2.2.2.2.2.2.2.2.2.1;let y39:=s3.2.2.2.2.2.2.2.2.2.2.2.2.2.2.2.2.2.2.2.2.2.2.2.2.2.2.2.2.2.2.1;let y34:=s3.2.2.2.2.2.2.2.2.2.2.2.2.2.2.2.2.2.2.2.2.2.2.2.2.2.2.2.2.2.2.2.1;let y30:=s3.2.2.2.2.2.2.2.2.2.2.2.2.2.2.2.2.2.2.2.2.2.2.2.2.2.2.2.2.2.2.2.2.1;let y18:=s3.2.2.2.2.2.2.2.2.2.2.2.2.2.2.2.2.2.2.2.2.2.2.2.2.2.2.2.2.2.2.2.2.2.1;let y5:=s3.2.2.2.2.2.2.2.2.2.2.2.2.2.2.2.2.2.2.2.2.2.2.2.2.2.1;let y22:=(⟨y5,s3.2.1,s3.2.2.1⟩:Cur);let y11:=({ (zf y22 4) with b:=y5}:Cur); (oN (zo y22 4) (cond (ilt s3.1 (zl y22 4)) (oN (zo y11 100) (oN (few (ln (ap y18 [(zl y11 100)]))) (r2 ((zK .i64 s3.1 1),((zf y11 100).i,((zf y11 100).h,(s3.2.2.2.1,(s3.2.2.2.2.1,(s3.2.2.2.2.2.1,(s3.2.2.2.2.2.2.1,(s3.2.2.2.2.2.2.2.1,(s3.2.2.2.2.2.2.2.2.1,(s3.2.2.2.2.2.2.2.2.2.1,(s3.2.2.2.2.2.2.2.2.2.2.1,(s3.2.2.2.2.2.2.2.2.2.2.2.1,(s3.2.2.2.2.2.2.2.2.2.2.2.2.1,(s3.2.2.2.2.2.2.2.2.2.2.2.2.2.1,(y86,(y80,(y75,(y71,(y67,(y63,(y59,(y55,(y51,(y47,(y43,(y5,(s3.2.2.2.2.2.2.2.2.2.2.2.2.2.2.2.2.2.2.2.2.2.2.2.2.2.2.1,(s3.2.2.2.2.2.2.2.2.2.2.2.2.2.2.2.2.2.2.2.2.2.2.2.2.2.2.2.1,(s3.2.2.2.2.2.2.2.2.2.2.2.2.2.2.2.2.2.2.2.2.2.2.2.2.2.2.2.2.1,(s3.2.2.2.2.2.2.2.2.2.2.2.2.2.2.2.2.2.2.2.2.2.2.2.2.2.2.2.2.2.1,(y39,(y34,(y30,((ap y18 [(zl y11 100)]),()))))))))))))))))))))))))))))))))))))) (some [(.agg [(.s .u8 y5),(.i .i64 (zf y22 4).i),(.i .i64 (zf y22 4).h)]),(aT .guest (⟨y39,y86,y80,y34,y30,⟨y75,y71,y67⟩,y63,⟨y59,y55,y51,y47⟩,y43,y18⟩:Guest))])))) (0,((zO y3 12).i,((zO y3 12).h,(0,(0,(0,(0,(false,(0,(0,(0,(false,(0,(false,(y83,(y89,(y28.Traps,(y28.Post,(y28.Open,((zl y1 256),(y14.Exit.Kind,(y14.Exit.Page,(y14.Exit.Write,(y14.Exit.N,((zcV y3 12),(c.b,([],([],([],([],(y14.Prog,(y78,(y84,(y14.Seen,()))))))))))))))))))))))))))))))))))))))) (oN (zcO y1 4) (cond (zcV y1 4) (oN (zhx y8) (oN (zcO y26 12) (iter (σ:=(Int×(Int×(Int×(Int×(Int×(Int×(Int×(Bool×(Int×(Int×(Int×(Bool×(Int×(Bool×(Int×(Int×(Int×(Int×(Bool×(Int×(Int×(Int×(Bool×(Int×(Bool×((List Int)×(lI×(lS×(lS×((List Int)×(lI×(lS×(lS×((List Int)×Unit))))))))))))))))))))))))))))))))))) N (fun r2 s3=>let y87:=s3.2.2.2.2.2.2.2.2.2.2.2.2.2.2.1;let y81:=s3.2.2.2.2.2.2.2.2.2.2.2.2.2.2.2.1;let y76:=s3.2.2.2.2.2.2.2.2.2.2.2.2.2.2.2.2.1;let y72:=s3.2.2.2.2.2.2.2.2.2.2.2.2.2.2.2.2.2.1;let y68:=s3.2.2.2.2.2.2.2.2.2.2.2.2.2.2.2.2.2.2.1;let y64:=s3.2.2.2.2.2.2.2.2.2.2.2.2.2.2.2.2.2.2.2.1;let y60:=s3.2.2.2.2.2.2.2.2.2.2.2.2.2.2.2.2.2.2.2.2.1;let y56:=s3.2.2.2.2.2.2.2.2.2.2.2.2.2.2.2.2.2.2.2.2.2.1;let y52:=s3.2.2.2.2.2.2.2.2.2.2.2.2.2.2.2.2.2.2.2.2.2.2.1;let y48:=s3.2.2.2.2.2.2.2.2.2.2.2.2.2.2.2.2.2.2.2.2.2.2.2.1;let y44:=s3.2.2.2.2.2.2.2.2.2.2.2.2.2.2.2.2.2.2.2.2.2.2.2.2.1;let y40:=s3.2.2.2.2.2.2.2.2.2.2.2.2.2.2.2.2.2.2.2.2.2.2.2.2.2.2.2.2.2.2.1;let y35:=s3.2.2.2.2.2.2.2.2.2.2.2.2.2.2.2.2.2.2.2.2.2.2.2.2.2.2.2.2.2.2.2.1;let y31:=s3.2.2.2.2.2.2.2.2.2.2.2.2.2.2.2.2.2.2.2.2.2.2.2.2.2.2.2.2.2.2.2.2.1;let y19:=s3.2.2.2.2.2.2.2.2.2.2.2.2.2.2.2.2.2.2.2.2.2.2.2.2.2.2.2.2.2.2.2.2.2.1;let y6:=s3.2.2.2.2.2.2.2.2.2.2.2.2.2.2.2.2.2.2.2.2.2.2.2.2.2.1;let y23:=(⟨y6,s3.2.1,s3.2.2.1⟩:Cur);let y12:=({ (zf y23 4) with b:=y6}:Cur); (oN (zo y23 4) (cond (ilt s3.1 (zl y23 4)) (oN (zo y12 100) (oN (few (ln (ap y19 [(zl y12 100)]))) (r2 ((zK .i64 s3.1 1),((zf y12 100).i,((zf y12 100).h,(s3.2.2.2.1,(s3.2.2.2.2.1,(s3.2.2.2.2.2.1,(s3.2.2.2.2.2.2.1,(s3.2.2.2.2.2.2.2.1,(s3.2.2.2.2.2.2.2.2.1,(s3.2.2.2.2.2.2.2.2.2.1,(s3.2.2.2.2.2.2.2.2.2.2.1,(s3.2.2.2.2.2.2.2.2.2.2.2.1,(s3.2.2.2.2.2.2.2.2.2.2.2.2.1,(s3.2.2.2.2.2.2.2.2.2.2.2.2.2.1,(y87,(y81,(y76,(y72,(y68,(y64,(y60,(y56,(y52,(y48,(y44,(y6,(s3.2.2.2.2.2.2.2.2.2.2.2.2.2.2.2.2.2.2.2.2.2.2.2.2.2.2.1,(s3.2.2.2.2.2.2.2.2.2.2.2.2.2.2.2.2.2.2.2.2.2.2.2.2.2.2.2.1,(s3.2.2.2.2.2.2.2.2.2.2.2.2.2.2.2.2.2.2.2.2.2.2.2.2.2.2.2.2.1,(s3.2.2.2.2.2.2.2.2.2.2.2.2.2.2.2.2.2.2.2.2.2.2.2.2.2.2.2.2.2.1,(y40,(y35,(y31,((ap y19 [(zl y12 100)]),()))))))))))))))))))))))))))))))))))))) (some [(.agg [(.s .u8 y6),(.i .i64 (zf y23 4).i),(.i .i64 (zf y23 4).h)]),(aT .guest (⟨y40,y87,y81,y35,y31,⟨y76,y72,y68⟩,y64,⟨y60,y56,y52,y48⟩,y44,y19⟩:Guest))])))) (0,((zO y26 12).i,((zO y26 12).h,(0,(0,(0,(0,(false,(0,(0,(0,(false,(0,(false,(y83,(y89,(y28.Traps,(y28.Post,(y28.Open,(y14.Pending,((zb4 y8).Kind,((zb4 y8).Page,((zb4 y8).Write,((zb4 y8).N,((zcV y26 12),(c.b,([],([],([],([],(y14.Prog,(y78,(y84,(y14.Seen,()))))))))))))))))))))))))))))))))))))) (oN (zcO y8 12) (iter (σ:=(Int×(Int×(Int×(Int×(Int×(Int×(Int×(Bool×(Int×(Int×(Int×(Bool×(Int×(Bool×(Int×(Int×(Int×(Int×(Bool×(Int×(Int×(Int×(Bool×(Int×(Bool×((List Int)×(lI×(lS×(lS×((List Int)×(lI×(lS×(lS×((List Int)×Unit))))))))))))))))))))))))))))))))))) N (fun r2 s3=>let y88:=s3.2.2.2.2.2.2.2.2.2.2.2.2.2.2.1;let y82:=s3.2.2.2.2.2.2.2.2.2.2.2.2.2.2.2.1;let y77:=s3.2.2.2.2.2.2.2.2.2.2.2.2.2.2.2.2.1;let y73:=s3.2.2.2.2.2.2.2.2.2.2.2.2.2.2.2.2.2.1;let y69:=s3.2.2.2.2.2.2.2.2.2.2.2.2.2.2.2.2.2.2.1;let y65:=s3.2.2.2.2.2.2.2.2.2.2.2.2.2.2.2.2.2.2.2.1;let y61:=s3.2.2.2.2.2.2.2.2.2.2.2.2.2.2.2.2.2.2.2.2.1;let y57:=s3.2.2.2.2.2.2.2.2.2.2.2.2.2.2.2.2.2.2.2.2.2.1;let y53:=s3.2.2.2.2.2.2.2.2.2.2.2.2.2.2.2.2.2.2.2.2.2.2.1;let y49:=s3.2.2.2.2.2.2.2.2.2.2.2.2.2.2.2.2.2.2.2.2.2.2.2.1;let y45:=s3.2.2.2.2.2.2.2.2.2.2.2.2.2.2.2.2.2.2.2.2.2.2.2.2.1;let y41:=s3.2.2.2.2.2.2.2.2.2.2.2.2.2.2.2.2.2.2.2.2.2.2.2.2.2.2.2.2.2.2.1;let y36:=s3.2.2.2.2.2.2.2.2.2.2.2.2.2.2.2.2.2.2.2.2.2.2.2.2.2.2.2.2.2.2.2.1;let y32:=s3.2.2.2.2.2.2.2.2.2.2.2.2.2.2.2.2.2.2.2.2.2.2.2.2.2.2.2.2.2.2.2.2.1;let y20:=s3.2.2.2.2.2.2.2.2.2.2.2.2.2.2.2.2.2.2.2.2.2.2.2.2.2.2.2.2.2.2.2.2.2.1;let y7:=s3.2.2.2.2.2.2.2.2.2.2.2.2.2.2.2.2.2.2.2.2.2.2.2.2.2.1;let y24:=(⟨y7,s3.2.1,s3.2.2.1⟩:Cur);let y13:=({ (zf y24 4) with b:=y7}:Cur); (oN (zo y24 4) (cond (ilt s3.1 (zl y24 4)) (oN (zo y13 100) (oN (few (ln (ap y20 [(zl y13 100)]))) (r2 ((zK .i64 s3.1 1),((zf y13 100).i,((zf y13 100).h,(s3.2.2.2.1,(s3.2.2.2.2.1,(s3.2.2.2.2.2.1,(s3.2.2.2.2.2.2.1,(s3.2.2.2.2.2.2.2.1,(s3.2.2.2.2.2.2.2.2.1,(s3.2.2.2.2.2.2.2.2.2.1,(s3.2.2.2.2.2.2.2.2.2.2.1,(s3.2.2.2.2.2.2.2.2.2.2.2.1,(s3.2.2.2.2.2.2.2.2.2.2.2.2.1,(s3.2.2.2.2.2.2.2.2.2.2.2.2.2.1,(y88,(y82,(y77,(y73,(y69,(y65,(y61,(y57,(y53,(y49,(y45,(y7,(s3.2.2.2.2.2.2.2.2.2.2.2.2.2.2.2.2.2.2.2.2.2.2.2.2.2.2.1,(s3.2.2.2.2.2.2.2.2.2.2.2.2.2.2.2.2.2.2.2.2.2.2.2.2.2.2.2.1,(s3.2.2.2.2.2.2.2.2.2.2.2.2.2.2.2.2.2.2.2.2.2.2.2.2.2.2.2.2.1,(s3.2.2.2.2.2.2.2.2.2.2.2.2.2.2.2.2.2.2.2.2.2.2.2.2.2.2.2.2.2.1,(y41,(y36,(y32,((ap y20 [(zl y13 100)]),()))))))))))))))))))))))))))))))))))))) (some [(.agg [(.s .u8 y7),(.i .i64 (zf y24 4).i),(.i .i64 (zf y24 4).h)]),(aT .guest (⟨y41,y88,y82,y36,y32,⟨y77,y73,y69⟩,y65,⟨y61,y57,y53,y49⟩,y45,y20⟩:Guest))])))) (0,((zO y8 12).i,((zO y8 12).h,(0,(0,(0,(0,(false,(0,(0,(0,(false,(0,(false,(y83,(y89,(y28.Traps,(y28.Post,(y28.Open,(y14.Pending,(y14.Exit.Kind,(y14.Exit.Page,(y14.Exit.Write,(y14.Exit.N,((zcV y8 12),(c.b,([],([],([],([],(y14.Prog,(y78,(y84,(y14.Seen,())))))))))))))))))))))))))))))))))))))))))))))))
def zNq:FuncId->Nat->Option Tmpl:=zy [(215,0,{n:=50,tm:=[(0,.lp 0 0),(2,.lp 1 0),(3,.lp 2 0),(4,ti)],lo:=[(0,[.sl 0 [],ti,ti]),(1,[.sl 1 [],ti,ti,.sl 2 [],.sl 3 [],ti,ti,.b,ti,ti,ti,.b,ti,.b,.sl 4 []]),(2,[.sl 5 [],ti,ti,.sl 6 [],.sl 7 [],ti,ti,.b,ti,ti,ti,.b,ti,.b,.sl 8 []])],ro:=[(0,.u8,false),(1,.ins,true),(2,.slot,true),(3,.slot,true),(4,.int,true),(5,.ins,true),(6,.slot,true),(7,.slot,true),(8,.int,true)]})]
def zlU (c:Cur)(s:Cur)(v0:Guest):Prop:=(∃N,zsm N c=some (AV.agg (zbT s)::[aT .guest v0]))/\(s.b=c.b/\0<=s.i)/\(GuS v0/\v0.Seen.length<=4)
def zkf (c:Cur)  : Bool:=wC (zlU c)
def zhX (c:Cur)  : Cur:=wS (zlU c)
def zb0 (c:Cur)  : Guest:=wV (zlU c)
theorem zCQ {c:Cur}(h:zkf c=true):zlU c (zhX c) (zb0 c):=wG h
theorem zTD (c:Cur)  : 0<=(zhX c).i:=wP fun h=>h.2.1.2
theorem zTC (c:Cur)(h:∃N,Ends (wE (fun v0=>aT .guest v0) c.b fun v0=>GuS v0/\v0.Seen.length<=4) (zsm N c)):zkf c=true:=wI (fun _ _ h=>h) h
def zut:zdo:=rP0 fun c=>(zkf c,zhX c,[aT .guest (zb0 c)])
theorem zGZ:zbM Tryz.prog 215 [false,true,true] zut:=hP0 zGl zV zTf zx zNq (fun _ h=>(zCQ h).1)
theorem zRy {c:Cur}(h:zbd c):zkf c=true:=by
 refine zTC c ⟨1002,?_⟩;unfold zsm oN;conv=>zeta
 have hp:=zBX h;have hpl:=zHy (zpX hp).2.2;have hgn:zhR (zbY c)=true:=zbf (by omega);have q:∀{s:Cur},0<=s.i->zbd {s with b:=c.b}:=fun h0=>zbH h h0;have w4:GuS ⟨zbY c,0,0,[],[],⟨0,0,false⟩,0,⟨0,0,false,0⟩,false,[]⟩:=⟨by dsimp only;omega,by simp,by simp,by simp⟩
 refine zq hp (zq hgn (zq (zxD (q (zhw _)) (by omega) (by omega) _) (zq (zxD (q (zgF _ _ _)) (by omega) (by omega) _) (zq (zbs (q (zgF _ _ _)) _) (zq (zbs (q (zA _ _)) _) (zq (zXq (q (zA _ _))) (zq (zhN (q (zy0 _)) _)
  (zby (fun _=>zq (zbs (q (zce _ _)) _) (zq (zhN (q (zA _ _)) _) (zby (fun _=>zq (zRB (q (zce _ _))) (zq (zhN (q (zwa _)) _) ?_)) (fun _=>zq (zhN (q (zce _ _)) _) ?_))))
   (fun _=>zq (zhN (q (zce _ _)) _) (zby (fun _=>zq (zRB (q (zce _ _))) (zq (zhN (q (zwa _)) _) ?_)) (fun _=>zq (zhN (q (zce _ _)) _) ?_)))))))))))
 .exact zDf h (zce _ _) (P:=fun _=>True) (q:=4) (by omega) (by omega) (fc:=fun c=>zo c 100) (fs:=fun c=>zf c 100) (fv:=fun c=>zl c 100) (fun h=>zbs h _) (fun c=>zA c _) (fun _=>trivial) (z:=0) (l0:=(zcj (zbY c)).Seen) (qY 0) (by omega) (by simp) ((fun _ t=>(t.1,t.2.1,t.2.2.1,0,0,0,0,false,0,0,0,false,0,false,(zl ({ (zF ({ (zF ({ (zW c) with b:=c.b }:Cur) 4 8) with b:=c.b }:Cur) 4 8) with b:=c.b }:Cur) 100),(zl ({ (zf ({ (zF ({ (zF ({ (zW c) with b:=c.b }:Cur) 4 8) with b:=c.b }:Cur) 4 8) with b:=c.b }:Cur) 100) with b:=c.b }:Cur) 4),(zcq ({ (zf ({ (zf ({ (zF ({ (zF ({ (zW c) with b:=c.b }:Cur) 4 8) with b:=c.b }:Cur) 4 8) with b:=c.b }:Cur) 100) with b:=c.b }:Cur) 4) with b:=c.b }:Cur)).Traps,(zcq ({ (zf ({ (zf ({ (zF ({ (zF ({ (zW c) with b:=c.b }:Cur) 4 8) with b:=c.b }:Cur) 4 8) with b:=c.b }:Cur) 100) with b:=c.b }:Cur) 4) with b:=c.b }:Cur)).Post,(zcq ({ (zf ({ (zf ({ (zF ({ (zF ({ (zW c) with b:=c.b }:Cur) 4 8) with b:=c.b }:Cur) 4 8) with b:=c.b }:Cur) 100) with b:=c.b }:Cur) 4) with b:=c.b }:Cur)).Open,(zl ({ (zO ({ (zca ({ (zf ({ (zf ({ (zF ({ (zF ({ (zW c) with b:=c.b }:Cur) 4 8) with b:=c.b }:Cur) 4 8) with b:=c.b }:Cur) 100) with b:=c.b }:Cur) 4) with b:=c.b }:Cur)) with b:=c.b }:Cur) 3) with b:=c.b }:Cur) 256),(zb4 ({ (zO ({ (zf ({ (zO ({ (zca ({ (zf ({ (zf ({ (zF ({ (zF ({ (zW c) with b:=c.b }:Cur) 4 8) with b:=c.b }:Cur) 4 8) with b:=c.b }:Cur) 100) with b:=c.b }:Cur) 4) with b:=c.b }:Cur)) with b:=c.b }:Cur) 3) with b:=c.b }:Cur) 256) with b:=c.b }:Cur) 4) with b:=c.b }:Cur)).Kind,(zb4 ({ (zO ({ (zf ({ (zO ({ (zca ({ (zf ({ (zf ({ (zF ({ (zF ({ (zW c) with b:=c.b }:Cur) 4 8) with b:=c.b }:Cur) 4 8) with b:=c.b }:Cur) 100) with b:=c.b }:Cur) 4) with b:=c.b }:Cur)) with b:=c.b }:Cur) 3) with b:=c.b }:Cur) 256) with b:=c.b }:Cur) 4) with b:=c.b }:Cur)).Page,(zb4 ({ (zO ({ (zf ({ (zO ({ (zca ({ (zf ({ (zf ({ (zF ({ (zF ({ (zW c) with b:=c.b }:Cur) 4 8) with b:=c.b }:Cur) 4 8) with b:=c.b }:Cur) 100) with b:=c.b }:Cur) 4) with b:=c.b }:Cur)) with b:=c.b }:Cur) 3) with b:=c.b }:Cur) 256) with b:=c.b }:Cur) 4) with b:=c.b }:Cur)).Write,(zb4 ({ (zO ({ (zf ({ (zO ({ (zca ({ (zf ({ (zf ({ (zF ({ (zF ({ (zW c) with b:=c.b }:Cur) 4 8) with b:=c.b }:Cur) 4 8) with b:=c.b }:Cur) 100) with b:=c.b }:Cur) 4) with b:=c.b }:Cur)) with b:=c.b }:Cur) 3) with b:=c.b }:Cur) 256) with b:=c.b }:Cur) 4) with b:=c.b }:Cur)).N,(zcV ({ (zez ({ (zO ({ (zf ({ (zO ({ (zca ({ (zf ({ (zf ({ (zF ({ (zF ({ (zW c) with b:=c.b }:Cur) 4 8) with b:=c.b }:Cur) 4 8) with b:=c.b }:Cur) 100) with b:=c.b }:Cur) 4) with b:=c.b }:Cur)) with b:=c.b }:Cur) 3) with b:=c.b }:Cur) 256) with b:=c.b }:Cur) 4) with b:=c.b }:Cur)) with b:=c.b }:Cur) 12),c.b,[],[],[],[],(zcj (zbY c)).Prog,(zc9 ({ (zW c) with b:=c.b }:Cur) 4 8),(zc9 ({ (zF ({ (zW c) with b:=c.b }:Cur) 4 8) with b:=c.b }:Cur) 4 8),t.2.2.2,())):Nat->Int×Int×Int×List Int->_)
   (fun rec t i k l=>⟨_,rfl,fun hl _=>⟨⟨_,_,_⟩,_,rfl,⟨rfl,zA _ _⟩,⟨⟨w4.1,zC0 (q (zhw _)),zC0 (q (zgF _ _ _)),by unfold ln at hl;dsimp only;omega⟩,by unfold ln at hl;dsimp only;omega⟩⟩⟩)
 .exact zDf h (zce _ _) (P:=fun _=>True) (q:=4) (by omega) (by omega) (fc:=fun c=>zo c 100) (fs:=fun c=>zf c 100) (fv:=fun c=>zl c 100) (fun h=>zbs h _) (fun c=>zA c _) (fun _=>trivial) (z:=0) (l0:=(zcj (zbY c)).Seen) (qY 0) (by omega) (by simp) ((fun _ t=>(t.1,t.2.1,t.2.2.1,0,0,0,0,false,0,0,0,false,0,false,(zl ({ (zF ({ (zF ({ (zW c) with b:=c.b }:Cur) 4 8) with b:=c.b }:Cur) 4 8) with b:=c.b }:Cur) 100),(zl ({ (zf ({ (zF ({ (zF ({ (zW c) with b:=c.b }:Cur) 4 8) with b:=c.b }:Cur) 4 8) with b:=c.b }:Cur) 100) with b:=c.b }:Cur) 4),(zcq ({ (zf ({ (zf ({ (zF ({ (zF ({ (zW c) with b:=c.b }:Cur) 4 8) with b:=c.b }:Cur) 4 8) with b:=c.b }:Cur) 100) with b:=c.b }:Cur) 4) with b:=c.b }:Cur)).Traps,(zcq ({ (zf ({ (zf ({ (zF ({ (zF ({ (zW c) with b:=c.b }:Cur) 4 8) with b:=c.b }:Cur) 4 8) with b:=c.b }:Cur) 100) with b:=c.b }:Cur) 4) with b:=c.b }:Cur)).Post,(zcq ({ (zf ({ (zf ({ (zF ({ (zF ({ (zW c) with b:=c.b }:Cur) 4 8) with b:=c.b }:Cur) 4 8) with b:=c.b }:Cur) 100) with b:=c.b }:Cur) 4) with b:=c.b }:Cur)).Open,(zl ({ (zO ({ (zca ({ (zf ({ (zf ({ (zF ({ (zF ({ (zW c) with b:=c.b }:Cur) 4 8) with b:=c.b }:Cur) 4 8) with b:=c.b }:Cur) 100) with b:=c.b }:Cur) 4) with b:=c.b }:Cur)) with b:=c.b }:Cur) 3) with b:=c.b }:Cur) 256),(zcj (zbY c)).Exit.Kind,(zcj (zbY c)).Exit.Page,(zcj (zbY c)).Exit.Write,(zcj (zbY c)).Exit.N,(zcV ({ (zO ({ (zf ({ (zO ({ (zca ({ (zf ({ (zf ({ (zF ({ (zF ({ (zW c) with b:=c.b }:Cur) 4 8) with b:=c.b }:Cur) 4 8) with b:=c.b }:Cur) 100) with b:=c.b }:Cur) 4) with b:=c.b }:Cur)) with b:=c.b }:Cur) 3) with b:=c.b }:Cur) 256) with b:=c.b }:Cur) 4) with b:=c.b }:Cur) 12),c.b,[],[],[],[],(zcj (zbY c)).Prog,(zc9 ({ (zW c) with b:=c.b }:Cur) 4 8),(zc9 ({ (zF ({ (zW c) with b:=c.b }:Cur) 4 8) with b:=c.b }:Cur) 4 8),t.2.2.2,())):Nat->Int×Int×Int×List Int->_)
   (fun rec t i k l=>⟨_,rfl,fun hl _=>⟨⟨_,_,_⟩,_,rfl,⟨rfl,zA _ _⟩,⟨⟨w4.1,zC0 (q (zhw _)),zC0 (q (zgF _ _ _)),by unfold ln at hl;dsimp only;omega⟩,by unfold ln at hl;dsimp only;omega⟩⟩⟩)
 .exact zDf h (zce _ _) (P:=fun _=>True) (q:=4) (by omega) (by omega) (fc:=fun c=>zo c 100) (fs:=fun c=>zf c 100) (fv:=fun c=>zl c 100) (fun h=>zbs h _) (fun c=>zA c _) (fun _=>trivial) (z:=0) (l0:=(zcj (zbY c)).Seen) (qY 0) (by omega) (by simp) ((fun _ t=>(t.1,t.2.1,t.2.2.1,0,0,0,0,false,0,0,0,false,0,false,(zl ({ (zF ({ (zF ({ (zW c) with b:=c.b }:Cur) 4 8) with b:=c.b }:Cur) 4 8) with b:=c.b }:Cur) 100),(zl ({ (zf ({ (zF ({ (zF ({ (zW c) with b:=c.b }:Cur) 4 8) with b:=c.b }:Cur) 4 8) with b:=c.b }:Cur) 100) with b:=c.b }:Cur) 4),(zcq ({ (zf ({ (zf ({ (zF ({ (zF ({ (zW c) with b:=c.b }:Cur) 4 8) with b:=c.b }:Cur) 4 8) with b:=c.b }:Cur) 100) with b:=c.b }:Cur) 4) with b:=c.b }:Cur)).Traps,(zcq ({ (zf ({ (zf ({ (zF ({ (zF ({ (zW c) with b:=c.b }:Cur) 4 8) with b:=c.b }:Cur) 4 8) with b:=c.b }:Cur) 100) with b:=c.b }:Cur) 4) with b:=c.b }:Cur)).Post,(zcq ({ (zf ({ (zf ({ (zF ({ (zF ({ (zW c) with b:=c.b }:Cur) 4 8) with b:=c.b }:Cur) 4 8) with b:=c.b }:Cur) 100) with b:=c.b }:Cur) 4) with b:=c.b }:Cur)).Open,(zcj (zbY c)).Pending,(zb4 ({ (zO ({ (zO ({ (zca ({ (zf ({ (zf ({ (zF ({ (zF ({ (zW c) with b:=c.b }:Cur) 4 8) with b:=c.b }:Cur) 4 8) with b:=c.b }:Cur) 100) with b:=c.b }:Cur) 4) with b:=c.b }:Cur)) with b:=c.b }:Cur) 3) with b:=c.b }:Cur) 4) with b:=c.b }:Cur)).Kind,(zb4 ({ (zO ({ (zO ({ (zca ({ (zf ({ (zf ({ (zF ({ (zF ({ (zW c) with b:=c.b }:Cur) 4 8) with b:=c.b }:Cur) 4 8) with b:=c.b }:Cur) 100) with b:=c.b }:Cur) 4) with b:=c.b }:Cur)) with b:=c.b }:Cur) 3) with b:=c.b }:Cur) 4) with b:=c.b }:Cur)).Page,(zb4 ({ (zO ({ (zO ({ (zca ({ (zf ({ (zf ({ (zF ({ (zF ({ (zW c) with b:=c.b }:Cur) 4 8) with b:=c.b }:Cur) 4 8) with b:=c.b }:Cur) 100) with b:=c.b }:Cur) 4) with b:=c.b }:Cur)) with b:=c.b }:Cur) 3) with b:=c.b }:Cur) 4) with b:=c.b }:Cur)).Write,(zb4 ({ (zO ({ (zO ({ (zca ({ (zf ({ (zf ({ (zF ({ (zF ({ (zW c) with b:=c.b }:Cur) 4 8) with b:=c.b }:Cur) 4 8) with b:=c.b }:Cur) 100) with b:=c.b }:Cur) 4) with b:=c.b }:Cur)) with b:=c.b }:Cur) 3) with b:=c.b }:Cur) 4) with b:=c.b }:Cur)).N,(zcV ({ (zez ({ (zO ({ (zO ({ (zca ({ (zf ({ (zf ({ (zF ({ (zF ({ (zW c) with b:=c.b }:Cur) 4 8) with b:=c.b }:Cur) 4 8) with b:=c.b }:Cur) 100) with b:=c.b }:Cur) 4) with b:=c.b }:Cur)) with b:=c.b }:Cur) 3) with b:=c.b }:Cur) 4) with b:=c.b }:Cur)) with b:=c.b }:Cur) 12),c.b,[],[],[],[],(zcj (zbY c)).Prog,(zc9 ({ (zW c) with b:=c.b }:Cur) 4 8),(zc9 ({ (zF ({ (zW c) with b:=c.b }:Cur) 4 8) with b:=c.b }:Cur) 4 8),t.2.2.2,())):Nat->Int×Int×Int×List Int->_)
   (fun rec t i k l=>⟨_,rfl,fun hl _=>⟨⟨_,_,_⟩,_,rfl,⟨rfl,zA _ _⟩,⟨⟨w4.1,zC0 (q (zhw _)),zC0 (q (zgF _ _ _)),by unfold ln at hl;dsimp only;omega⟩,by unfold ln at hl;dsimp only;omega⟩⟩⟩)
 .exact zDf h (zce _ _) (P:=fun _=>True) (q:=4) (by omega) (by omega) (fc:=fun c=>zo c 100) (fs:=fun c=>zf c 100) (fv:=fun c=>zl c 100) (fun h=>zbs h _) (fun c=>zA c _) (fun _=>trivial) (z:=0) (l0:=(zcj (zbY c)).Seen) (qY 0) (by omega) (by simp) ((fun _ t=>(t.1,t.2.1,t.2.2.1,0,0,0,0,false,0,0,0,false,0,false,(zl ({ (zF ({ (zF ({ (zW c) with b:=c.b }:Cur) 4 8) with b:=c.b }:Cur) 4 8) with b:=c.b }:Cur) 100),(zl ({ (zf ({ (zF ({ (zF ({ (zW c) with b:=c.b }:Cur) 4 8) with b:=c.b }:Cur) 4 8) with b:=c.b }:Cur) 100) with b:=c.b }:Cur) 4),(zcq ({ (zf ({ (zf ({ (zF ({ (zF ({ (zW c) with b:=c.b }:Cur) 4 8) with b:=c.b }:Cur) 4 8) with b:=c.b }:Cur) 100) with b:=c.b }:Cur) 4) with b:=c.b }:Cur)).Traps,(zcq ({ (zf ({ (zf ({ (zF ({ (zF ({ (zW c) with b:=c.b }:Cur) 4 8) with b:=c.b }:Cur) 4 8) with b:=c.b }:Cur) 100) with b:=c.b }:Cur) 4) with b:=c.b }:Cur)).Post,(zcq ({ (zf ({ (zf ({ (zF ({ (zF ({ (zW c) with b:=c.b }:Cur) 4 8) with b:=c.b }:Cur) 4 8) with b:=c.b }:Cur) 100) with b:=c.b }:Cur) 4) with b:=c.b }:Cur)).Open,(zcj (zbY c)).Pending,(zcj (zbY c)).Exit.Kind,(zcj (zbY c)).Exit.Page,(zcj (zbY c)).Exit.Write,(zcj (zbY c)).Exit.N,(zcV ({ (zO ({ (zO ({ (zca ({ (zf ({ (zf ({ (zF ({ (zF ({ (zW c) with b:=c.b }:Cur) 4 8) with b:=c.b }:Cur) 4 8) with b:=c.b }:Cur) 100) with b:=c.b }:Cur) 4) with b:=c.b }:Cur)) with b:=c.b }:Cur) 3) with b:=c.b }:Cur) 4) with b:=c.b }:Cur) 12),c.b,[],[],[],[],(zcj (zbY c)).Prog,(zc9 ({ (zW c) with b:=c.b }:Cur) 4 8),(zc9 ({ (zF ({ (zW c) with b:=c.b }:Cur) 4 8) with b:=c.b }:Cur) 4 8),t.2.2.2,())):Nat->Int×Int×Int×List Int->_)
   (fun rec t i k l=>⟨_,rfl,fun hl _=>⟨⟨_,_,_⟩,_,rfl,⟨rfl,zA _ _⟩,⟨⟨w4.1,zC0 (q (zhw _)),zC0 (q (zgF _ _ _)),by unfold ln at hl;dsimp only;omega⟩,by unfold ln at hl;dsimp only;omega⟩⟩⟩)
def z5O:zcQ:=[(215,([false,true,true],zut))]++z5N
theorem zHv:zb1 z5O:=zco zTf (by
 intro x hx;simp only[qF,qP,or_false]at hx;rcases hx with rfl
 .exact zGZ)
def zxQ (N:Nat)(c:Cur)  : OA :=
 let y4:=(zb0 c);let y1:=({ (zhX c) with b:=c.b}:Cur);let y17:=(zf y1 14);let y6:=(zl y1 14);let y0:=({y17 with b:=c.b}:Cur);let y21:=(zfQ y0 4 8);let y13:=(zX y0 [(-1),12,13,9223372036854775807]); (oN (zkf c) (oN (zo y1 14) (cond (ieq y6 0) (oN (zhV y0) (some [(.agg [(.s .u8 c.b),(.i .i64 (zhW y0).i),(.i .i64 (zhW y0).h)]),(aT .guest ({y4 with Prog:=(znT y0)}:Guest))])) (cond (ieq y6 1) (oN (zbp y0 [(-1),100]) (some [(.agg [(.s .u8 c.b),(.i .i64 (zX y0 [(-1),100]).i),(.i .i64 (zX y0 [(-1),100]).h)]),(aT .guest ({y4 with A:=(zbi y0 [(-1),100])}:Guest))])) (cond (ieq y6 2) (oN (zbp y0 [(-1),12,13,9223372036854775807]) (some [(.agg [(.s .u8 c.b),(.i .i64 y13.i),(.i .i64 y13.h)]),(aT .guest ({y4 with Pc:=(zbi y0 [(-1),12,13,9223372036854775807])}:Guest))])) (cond (ieq y6 3) (oN (zeX y0 4 8) (some [(.agg [(.s .u8 c.b),(.i .i64 y21.i),(.i .i64 y21.h)]),(aT .guest ({y4 with Live:=(zef y0 4 8)}:Guest))])) (cond (ieq y6 4) (oN (znV y0) (some [(.agg [(.s .u8 c.b),(.i .i64 (znW y0).i),(.i .i64 (znW y0).h)]),(aT .guest ({y4 with Ctl:=(zyZ y0)}:Guest))])) (cond (ieq y6 5) (oN (zlx y0) (some [(.agg [(.s .u8 c.b),(.i .i64 (zly y0).i),(.i .i64 (zly y0).h)]),(aT .guest ({y4 with Pending:=(zvg y0)}:Guest))])) (cond (ieq y6 6) (oN (znX y0) (some [(.agg [(.s .u8 c.b),(.i .i64 (znY y0).i),(.i .i64 (znY y0).h)]),(aT .guest ({y4 with Exit:=(zy1 y0)}:Guest))])) (cond (ieq y6 7) (iter (σ:=(Int×(Int×(Int×(Int×(Int×(Int×(Bool×(Int×(Int×(Int×(Bool×(Int×(Bool×(Int×(Int×(Int×(Int×(Bool×(Int×(Int×(Int×(Bool×(Int×(Bool×((List Int)×(lI×(lS×(lS×((List Int)×(lI×(lS×(lS×((List Int)×Unit)))))))))))))))))))))))))))))))))) N (fun r2 s3=>let y23:=s3.2.2.2.2.2.2.2.2.2.2.2.2.2.1;let y22:=s3.2.2.2.2.2.2.2.2.2.2.2.2.2.2.1;let y20:=s3.2.2.2.2.2.2.2.2.2.2.2.2.2.2.2.1;let y19:=s3.2.2.2.2.2.2.2.2.2.2.2.2.2.2.2.2.1;let y18:=s3.2.2.2.2.2.2.2.2.2.2.2.2.2.2.2.2.2.1;let y16:=s3.2.2.2.2.2.2.2.2.2.2.2.2.2.2.2.2.2.2.1;let y15:=s3.2.2.2.2.2.2.2.2.2.2.2.2.2.2.2.2.2.2.2.1;let y14:=s3.2.2.2.2.2.2.2.2.2.2.2.2.2.2.2.2.2.2.2.2.1;let y12:=s3.2.2.2.2.2.2.2.2.2.2.2.2.2.2.2.2.2.2.2.2.2.1;let y11:=s3.2.2.2.2.2.2.2.2.2.2.2.2.2.2.2.2.2.2.2.2.2.2.1;let y10:=s3.2.2.2.2.2.2.2.2.2.2.2.2.2.2.2.2.2.2.2.2.2.2.2.1;let y9:=s3.2.2.2.2.2.2.2.2.2.2.2.2.2.2.2.2.2.2.2.2.2.2.2.2.2.2.2.2.2.1;let y8:=s3.2.2.2.2.2.2.2.2.2.2.2.2.2.2.2.2.2.2.2.2.2.2.2.2.2.2.2.2.2.2.1;let y7:=s3.2.2.2.2.2.2.2.2.2.2.2.2.2.2.2.2.2.2.2.2.2.2.2.2.2.2.2.2.2.2.2.1;let y5:=s3.2.2.2.2.2.2.2.2.2.2.2.2.2.2.2.2.2.2.2.2.2.2.2.2.1;let y3:=s3.2.2.2.2.2.2.2.2.2.2.2.2.2.2.2.2.2.2.2.2.2.2.2.2.2.2.2.2.2.2.2.2.1;let y2:=(⟨y5,s3.1,s3.2.1⟩:Cur); (oN (zo y2 3) (cond (ilt (ln y3) (zK .i64 39 (zl y2 3))) (oN (few (ln (ap y3 [1]))) (r2 ((zf y2 3).i,((zf y2 3).h,(s3.2.2.1,(s3.2.2.2.1,(s3.2.2.2.2.1,(s3.2.2.2.2.2.1,(s3.2.2.2.2.2.2.1,(s3.2.2.2.2.2.2.2.1,(s3.2.2.2.2.2.2.2.2.1,(s3.2.2.2.2.2.2.2.2.2.1,(s3.2.2.2.2.2.2.2.2.2.2.1,(s3.2.2.2.2.2.2.2.2.2.2.2.1,(s3.2.2.2.2.2.2.2.2.2.2.2.2.1,(y23,(y22,(y20,(y19,(y18,(y16,(y15,(y14,(y12,(y11,(y10,(y5,(s3.2.2.2.2.2.2.2.2.2.2.2.2.2.2.2.2.2.2.2.2.2.2.2.2.2.1,(s3.2.2.2.2.2.2.2.2.2.2.2.2.2.2.2.2.2.2.2.2.2.2.2.2.2.2.1,(s3.2.2.2.2.2.2.2.2.2.2.2.2.2.2.2.2.2.2.2.2.2.2.2.2.2.2.2.1,(s3.2.2.2.2.2.2.2.2.2.2.2.2.2.2.2.2.2.2.2.2.2.2.2.2.2.2.2.2.1,(y9,(y8,(y7,((ap y3 [1]),()))))))))))))))))))))))))))))))))))) (some [(.agg [(.s .u8 y5),(.i .i64 (zf y2 3).i),(.i .i64 (zf y2 3).h)]),(aT .guest (⟨y9,y23,y22,y8,y7,⟨y20,y19,y18⟩,y16,⟨y15,y14,y12,y11⟩,y10,y3⟩:Guest))])))) (y17.i,(y17.h,(0,(0,(0,(0,(false,(0,(0,(0,(false,(0,(false,(y4.A,(y4.Pc,(y4.Ctl.Traps,(y4.Ctl.Post,(y4.Ctl.Open,(y4.Pending,(y4.Exit.Kind,(y4.Exit.Page,(y4.Exit.Write,(y4.Exit.N,(y4.Halted,(c.b,([],([],([],([],(y4.Prog,(y4.Written,(y4.Live,(y4.Seen,())))))))))))))))))))))))))))))))))) (cond (ieq y6 8) (oN (zeX y0 4 8) (some [(.agg [(.s .u8 c.b),(.i .i64 y21.i),(.i .i64 y21.h)]),(aT .guest ({y4 with Written:=(zef y0 4 8)}:Guest))])) (some [(.agg [(.s .u8 c.b),(.i .i64 y17.i),(.i .i64 y17.h)]),(aT .guest y4)]))))))))))))
def zUj:FuncId->Nat->Option Tmpl:=zy [(139,1,{n:=65,tm:=[(0,.lp 0 0),(2,.lp 1 0),(3,.lp 2 0)],lo:=[(0,[.sl 0 [],ti,ti]),(1,[.sl 1 [],ti,ti,.sl 2 [],.sl 3 [],ti,ti,.b,ti,ti,ti,.b,ti,.b,.sl 4 []]),(2,[.sl 5 [],ti,ti,.sl 6 [],.sl 7 [],ti,ti,.b,ti,ti,ti,.b,ti,.b,.sl 8 []])],ro:=[(0,.u8,false),(1,.ins,true),(2,.slot,true),(3,.slot,true),(4,.int,true),(5,.ins,true),(6,.slot,true),(7,.slot,true),(8,.int,true)]})]
def zp1 (c:Cur)(s:Cur)(v0:Guest):Prop:=(∃N,zxQ N c=some (AV.agg (zbT s)::[aT .guest v0]))/\(s.b=c.b/\0<=s.i)/\(GuS v0)
def zn1 (c:Cur)  : Bool:=wC (zp1 c)
def zn2 (c:Cur)  : Cur:=wS (zp1 c)
def zy2 (c:Cur)  : Guest:=wV (zp1 c)
theorem zKC {c:Cur}(h:zn1 c=true):zp1 c (zn2 c) (zy2 c):=wG h
theorem zYO (c:Cur)  : 0<=(zn2 c).i:=wP fun h=>h.2.1.2
theorem zYN (c:Cur)(h:∃N,Ends (wE (fun v0=>aT .guest v0) c.b fun v0=>GuS v0) (zxQ N c)):zn1 c=true:=wI (fun _ _ h=>h) h
def zzI:zdo:=rP0 fun c=>(zn1 c,zn2 c,[aT .guest (zy2 c)])
theorem zMa:zbM Tryz.prog 139 [false,true,true] zzI:=hP0 zGl zV zHv zx zUj (fun _ h=>(zKC h).1)
theorem zIv {c:Cur}(h:zbd c):zn1 c=true:=by
 refine zYN c ⟨1002,?_⟩;unfold zxQ oN;conv=>zeta
 have q:∀{s:Cur},0<=s.i->zbd {s with b:=c.b}:=fun h0=>zbH h h0;have k2:zbd {zf {zhX c with b:=c.b} 14 with b:=c.b}:=q (zA _ _);obtain⟨⟨g1,g2,g3,g4⟩,g5⟩:=(zCQ (zRy h)).2.2;have at4:(zef {zf {zhX c with b:=c.b} 14 with b:=c.b} 4 8).length<=4:=by have:=((znK (zmM k2 (n:=4) (by omega) (by omega) 8)).2.2 (by omega) (by omega)).1;unfold ln at this;omega
 have ap13:=(zxx (zNW k2)).2.2;refine zq (zRy h) (zq (zbs (q (zTD _)) _) (zby (fun _=>zq (zNW k2) (zbG (aT .guest) (v:={zb0 c with Prog:=znT _}) (zNa _) ⟨ap13,g2,g3,g4⟩))
  (fun _=>zby (fun _=>zq (zet k2 (by simp)) (zbG (aT .guest) (v:={zb0 c with A:=zbi _ _}) (zbX _ _) ⟨g1,g2,g3,g4⟩))
  (fun _=>zby (fun _=>zq (zet k2 (by simp)) (zbG (aT .guest) (v:={zb0 c with Pc:=zbi _ _}) (zbX _ _) ⟨g1,g2,g3,g4⟩))
  (fun _=>zby (fun _=>zq (zmM k2 (by omega) (by omega) _) (zbG (aT .guest) (v:={zb0 c with Live:=zef _ _ _}) (znL _ _ _) ⟨g1,g2,at4,g4⟩))
  (fun _=>zby (fun _=>zq (z1M k2) (zbG (aT .guest) (v:={zb0 c with Ctl:=zyZ _}) (zYH _) ⟨g1,g2,g3,g4⟩))
  (fun _=>zby (fun _=>zq (z8J k2) (zbG (aT .guest) (v:={zb0 c with Pending:=zvg _}) (zVM _) ⟨g1,g2,g3,g4⟩))
  (fun _=>zby (fun _=>zq (zZl k2) (zbG (aT .guest) (v:={zb0 c with Exit:=zy1 _}) (zYM _) ⟨g1,g2,g3,g4⟩))
  (fun _=>zby (fun _=>?_)
  (fun _=>zby (fun _=>zq (zmM k2 (by omega) (by omega) _) (zbG (aT .guest) (v:={zb0 c with Written:=zef _ _ _}) (znL _ _ _) ⟨g1,at4,g3,g4⟩))
  (fun _=>zbG (aT .guest) (v:=zb0 c) (zA _ _) ⟨g1,g2,g3,g4⟩)))))))))))
 exact z8x h (zA _ _) (m:=39) (q:=3) (x:=1) (by omega) (by omega) (by omega) (l0:=(zb0 c).Seen) (by unfold ln;omega) ((fun _ t=>(t.1,t.2.1,0,0,0,0,false,0,0,0,false,0,false,(zb0 c).A,(zb0 c).Pc,(zb0 c).Ctl.Traps,(zb0 c).Ctl.Post,(zb0 c).Ctl.Open,(zb0 c).Pending,(zb0 c).Exit.Kind,(zb0 c).Exit.Page,(zb0 c).Exit.Write,(zb0 c).Exit.N,(zb0 c).Halted,c.b,[],[],[],[],(zb0 c).Prog,(zb0 c).Written,(zb0 c).Live,t.2.2,())):Nat->Int×Int×List Int->_)
  (fun rec i k l=>⟨_,rfl,fun hl=>⟨⟨_,_,_⟩,_,rfl,⟨rfl,zA _ _⟩,⟨g1,g2,g3,by unfold ln at hl;dsimp only;omega⟩⟩⟩)
theorem z7u (b:List Entry)(e:Entry)(h:b.length<=1048576):(zoG b e).length<=6:=by have hk:=(zyK e h).2;unfold zoG;generalize ap (zcz b e.Tag e.Page) [e]=l at hk;cases hc:igt (ln l) 6 with|false=>have:¬ ln l>6:=jS hc;rw[cF];unfold ln at this;omega|true=>rw[cT,zxJ (by unfold ln;omega) (by unfold ln;omega)];have:ln l>6:=qE hc;simp only[dp,vH];unfold ln at *;omega
def zqA (N:Nat)(c:Cur)  : OA :=
 (iter (σ:=(Int×(Int×(Int×(lE×((List Int)×Unit)))))) N (fun r2 s3=>let y3:=s3.2.2.2.2.1;let y4:=(⟨y3,s3.2.1,s3.2.2.1⟩:Cur);let y0:=({ (zf y4 9) with b:=y3}:Cur);let y2:=({ (zO y0 8) with b:=y3}:Cur);let y1:=({ (zfK y2) with b:=y3}:Cur);let y5:=(ap s3.2.2.2.1 [(zk1 y2),(zk1 y1)]); (oN (zo y4 9) (cond (ilt s3.1 (zl y4 9)) (oN (zgG y0) (oN (zj7 s3.2.2.2.1 (zk1 y0)) (r2 ((zK .i64 s3.1 1),((zfK y0).i,((zfK y0).h,((zkV s3.2.2.2.1 (zk1 y0)),(y3,())))))))) (oN (zcO y0 8) (cond (zcV y0 8) (oN (zgG y2) (oN (zgG y1) (oN (few (ln y5)) (some [(.agg [(.s .u8 y3),(.i .i64 (zfK y1).i),(.i .i64 (zfK y1).h)]),(aS .entry y5)])))) (some [(.agg [(.s .u8 y3),(.i .i64 (zO y0 8).i),(.i .i64 (zO y0 8).h)]),(aS .entry s3.2.2.2.1)])))))) (0,(c.i,(c.h,([],(c.b,()))))))
def zLa:FuncId->Nat->Option Tmpl:=zy [(140,0,{n:=26,tm:=[(0,.lp 0 0),(3,.sl 0 []),(4,ti)],lo:=[(0,[.sl 1 [],ti,ti])],ro:=[(0,.entry,true),(1,.u8,false)]})]
def zk0 (c:Cur)(s:Cur)(v0:List Entry):Prop:=(∃N,zqA N c=some (AV.agg (zbT s)::[aS .entry v0]))/\(s.b=c.b/\0<=s.i)/\(v0.length<=8)
def ziW (c:Cur)  : Bool:=wC (zk0 c)
def ziX (c:Cur)  : Cur:=wS (zk0 c)
def zpV (c:Cur)  : List Entry:=wV (zk0 c)
theorem zAn {c:Cur}(h:ziW c=true):zk0 c (ziX c) (zpV c):=wG h
theorem zQb (c:Cur)  : 0<=(ziX c).i:=wP fun h=>h.2.1.2
theorem zQa (c:Cur)(h:∃N,Ends (wE (fun v0=>aS .entry v0) c.b fun v0=>v0.length<=8) (zqA N c)):ziW c=true:=wI (fun _ _ h=>h) h
def zsX:zdo:=rP0 fun c=>(ziW c,ziX c,[aS .entry (zpV c)])
theorem zEa:zbM Tryz.prog 140 [false,true,true] zsX:=hP0 zGl zV zHv zx zLa (fun _ h=>(zAn h).1)
theorem zQ6 {c:Cur}(h:zbd c):ziW c=true:=by
 refine zQa c ⟨1002,?_⟩;unfold zqA oN;conv=>zeta
 refine zjJ (fun n s=>∃t i k l,s=(((fun _ t=>(t.1,t.2.1,t.2.2.1,t.2.2.2,c.b,())):Nat->Int×Int×Int×List Entry->_) 0 (t,i,k,l))/\t+(n:Int)=10/\0<=t/\0<=i/\l.length<=6) ?_ 1002 10 _ ⟨0,c.i,c.h,[],rfl,rfl,kL 0,h.1,by simp⟩ (by omega);rintro n s rec ⟨t,i,k,l,rfl,h1,h2,h3,h4⟩ hrec;dsimp only;have hcur:zbd ⟨c.b,i,k⟩:=zbH h h3;have hx:=zfb hcur (n:=9) (by omega);have q:∀{s:Cur},0<=s.i->zbd {s with b:=c.b}:=fun h0=>zbH h h0;refine zq (zbs hcur 9) (zby (fun hc=>?_) (fun hc=>?_));{have hlt:t<zl ⟨c.b,i,k⟩ 9:=qE hc;have ht:=zgx (y:=1) h2 (by omega) (by omega) (by omega);exact zq (zLo (q (zA _ _))) (zq (zbf (by omega)) (hrec (n-1) _ (by omega) ⟨zK .i64 t 1,_,_,_,rfl,by omega,by omega,ztp _,z7u _ _ (by omega)⟩))};{refine zq (zhN (q (zA _ _)) 8) (zby (fun _=>zq (zLo (q (zce _ _))) (zq (zLo (q (ztp _))) (zq (zjK ?_) (zbG (aS .entry) (ztp _) ?_)))) (fun _=>zbG (aS .entry) (zce _ _) (by omega)));{simp only [ln,ap,kB,qV,uJ];omega};{simp only [ap,kB,qV,uJ];omega}}
def z5P:zcQ:=[(139,([false,true,true],zzI)),(140,([false,true,true],zsX))]++z5O
theorem zTg:zb1 z5P:=zco zHv (by
 intro x hx;simp only[qF,qP,or_false]at hx;rcases hx with rfl|rfl
 .exact zMa
 .exact zEa)
def zIw (b:Bare)(a:GAct):Bare:=bif ieq a.Kind 1 then zhj b a.G else (cond (ieq a.Kind 2) (chg b a.G (zrf a.X ⟨a.Y,a.Z⟩) (zy6 (gAt b a.G) a.X ⟨a.Y,a.Z⟩)) (cond (ieq a.Kind 3) (chg b a.G (hasB a.X 4) (zdx (gAt b a.G) a.X)) (cond (ieq a.Kind 4) (chg b a.G (zqF (gAt b a.G) a.X) (zvC (gAt b a.G) a.X)) (cond (ieq a.Kind 5) (chg b a.G (zvO (gAt b a.G)) (zvP (gAt b a.G))) (cond (ieq a.Kind 6) (chg b a.G (zfF (gAt b a.G).Pending a.X) (zl7 (gAt b a.G) a.X)) (cond (ieq a.Kind 7) (chg b a.G (zid ⟨a.X,a.Y,ieq a.Z 1⟩) (zGh (gAt b a.G) ⟨a.X,a.Y,ieq a.Z 1⟩)) (cond (ieq a.Kind 8) (zQD b a.X a.Y a.Z) (cond (ieq a.Kind 9) (zis b a.X) (cond (ieq a.Kind 10) (zk8 b) (cond (ieq a.Kind 11) (zXG b a.G a.X a.Y) (b)))))))))))
def zIx (b:Bare)(a:GAct):Told:=bif ieq a.Kind 1 then ⟨zkr b a.G,0⟩ else (cond (ieq a.Kind 2) ⟨zbZ b a.G (zrf a.X ⟨a.Y,a.Z⟩),0⟩ (cond (ieq a.Kind 3) ⟨zbZ b a.G (hasB a.X 4),0⟩ (cond (ieq a.Kind 4) ⟨zbZ b a.G (zqF (gAt b a.G) a.X),0⟩ (cond (ieq a.Kind 5) ⟨zbZ b a.G (zvO (gAt b a.G)),0⟩ (cond (ieq a.Kind 6) ⟨zbZ b a.G (zfF (gAt b a.G).Pending a.X),0⟩ (cond (ieq a.Kind 7) ⟨zbZ b a.G (zid ⟨a.X,a.Y,ieq a.Z 1⟩),0⟩ (cond (ieq a.Kind 8) ⟨zwU b a.X a.Y a.Z,0⟩ (cond (ieq a.Kind 9) ⟨zeu b a.X,0⟩ (cond (ieq a.Kind 10) ⟨zkp b,zqE b⟩ (cond (ieq a.Kind 11) ⟨zx9 b a.G a.X a.Y,0⟩ (⟨zmU b a.G a.X 1,zQH b a.G a.X⟩)))))))))))
def zIy (l:List Bare)(a:GAct):List Bare:=bif win a.Kind 1 17 then (cond (win a.Kind 13 17) l (cond (hasB a.M (ln l)) (up l a.M (zIw (ix l a.M zUu) a)) l)) else l
def zXi (l:List Bare)(a:GAct):Told:=bif win a.Kind 1 17 then (cond (win a.Kind 13 17) ⟨false,0⟩ (cond (hasB a.M (ln l)) (zIx (ix l a.M zUu) a) (cond (ieq a.Kind 10) ⟨false,-1⟩ ⟨false,0⟩))) else ⟨false,0⟩
theorem zB {i n:Int}:hasB i n=true↔0<=i/\i<n:=by unfold hasB;exact decide_eq_true_iff
theorem zcE {x a b:Int}:win x a b=true↔a<=x/\x<=b:=by simp[win,ige,ile]
theorem zbl {x y:Int}:ieq x y=true↔x=y:=by simp[ieq]
theorem zoz {x y:Int}:ine x y=true↔x≠y:=by simp[ine]
theorem zbU {x y:Int}:ieq x y=false↔x≠y:=by simp[ieq]
theorem zb6 {a b:Bool}:(cond a b false)=true↔a=true/\b=true:=by cases a<;>simp
theorem zbL {α:Type}(l:List α)(i:Int)(x:α):(up l i x).length=l.length:=by simp[up]
theorem zdp {α:Type}(l:List α)(i:Int)(x:α):ln (up l i x)=ln l:=by simp[up,ln]
theorem zyv {α:Type}{l:List α}{i:Int}(h:hasB i (ln l)=true)(d:α):∃k:Nat,∃hk:k<l.length,i=(k:Int)/\ix l i d=l[k]:=by rw[zB]at h;unfold ln at h;refine⟨i.toNat,by omega,by omega,?_⟩;simp[ix,List.getD,qB (show i.toNat<l.length by omega)]
theorem zjR {α:Type}{l:List α}{k:Nat}(h:k<l.length)(d:α):ix l (k:Int) d=l[k]:=by simp[ix,List.getD,qB h]
theorem zkA {α:Type}{l:List α}{i:Int}(h:hasB i (ln l)=true)(d:α):ix l i d∈l:=by obtain⟨k,hk,_,e⟩:=zyv h d;rw[e];exact jL hk
theorem zSU {α:Type}{l:List α}{x:α}(h:x∈l)(d:α):∃i,hasB i (ln l)=true/\ix l i d=x:=by obtain⟨k,hk,e⟩:=List.mem_iff_getElem.1 h;exact⟨(k:Int),zB.2 (by unfold ln;omega),(zjR hk d).trans e⟩
theorem zbe {α:Type}{l:List α}{i:Int}(h:hasB i (ln l)=true)(x d:α):ix (up l i x) i d=x:=by rw[zB]at h;unfold ln at h;simp[ix,up,List.getD,show i.toNat<l.length by omega]
theorem zbr {α:Type}{l:List α}{i j:Int}(hi:0<=i)(hj:0<=j)(h:i≠j)(x d:α):ix (up l i x) j d=ix l j d:=by have:i.toNat≠j.toNat:=(by omega);simp[ix,up,List.getD,q0,this]
theorem z1E {α:Type}(l:List α)(i:Int)(x y:α):up (up l i x) i y=up l i y:=by simp[up]
theorem zMM {α:Type}{l m:List α}(d:α)(h:l.length=m.length)(e:∀i,hasB i (ln l)=true->ix l i d=ix m i d):l=m:=by refine vK h fun k h1 h2=>?_;have:=e (k:Int) (zB.2 (by unfold ln;omega));rwa [zjR h1,zjR h2] at this
theorem zHP {α:Type}{l:List α}{i:Int}(h:hasB i (ln l)=true)(d:α):up l i (ix l i d)=l:=by obtain⟨k,hk,rfl,e⟩:=zyv h d;rw[e];simp[up]
def cPg (x:Mon)(q:Int):Nat:=x.Outer.countP fun s=>ieq s.Page q
def zdH (l:List Mon)(q:Int):Nat:=(l.map fun x=>cPg x q).sum
theorem zN3 {α:Type}(P:α->Bool){l:List α}{i:Int}(h:hasB i (ln l)=true)(x d:α):(up l i x).countP P+(if P (ix l i d) then 1 else 0)=l.countP P+(if P x then 1 else 0):=by
 obtain⟨k,hk,rfl,e⟩:=zyv h d;rw[e];simp only[up,kD,List.countP_set hk];have:(if P l[k]=true then 1 else 0)<=l.countP P:=by
  split
  .rename_i hp;exact List.countP_pos_iff.2 ⟨l[k],jL hk,hp⟩
  .omega
 omega
theorem zxC {l:List Mon}{m:Int}(h:hasB m (ln l)=true)(x:Mon)(q:Int):zdH (up l m x) q+cPg (ix l m mZ) q=zdH l q+cPg x q:=by obtain⟨k,hk,rfl,e⟩:=zyv h mZ;rw[e];clear h e;unfold up;simp only[kD];induction l generalizing k with|nil=>simp at hk|cons y l ih=>(cases k with|zero=>simp[zdH];omega|succ k=>have:=ih k (by simpa using hk);simp[zdH] at this ⊢;omega)
theorem zGd {l:List Mon}{m p:Int}(hm:hasB m (ln l)=true)(hp:hasB p (ln (ix l m mZ).Outer)=true):1<=zdH l (ix (ix l m mZ).Outer p sZ).Page:=by have h1:1<=cPg (ix l m mZ) (ix (ix l m mZ).Outer p sZ).Page:=List.countP_pos_iff.2 ⟨_,zkA hp sZ,by simp[ieq]⟩;have:=zxC hm (⟨[],[],[],[],[],0,0,[],0⟩:Mon) (ix (ix l m mZ).Outer p sZ).Page;have e0:cPg (⟨[],[],[],[],[],0,0,[],0⟩:Mon) (ix (ix l m mZ).Outer p sZ).Page=0:=rfl;omega
theorem z1S {l:List Mon}{m p n k:Int}{q:Int}(hm:hasB m (ln l)=true)(hp:hasB p (ln (ix l m mZ).Outer)=true)(hn:hasB n (ln l)=true)(hk:hasB k (ln (ix l n mZ).Outer)=true)(e1:(ix (ix l m mZ).Outer p sZ).Page=q)(e2:(ix (ix l n mZ).Outer k sZ).Page=q)(h:zdH l q<=1):m=n/\p=k:=by have hm':=zB.1 hm;have hn':=zB.1 hn;have hp':=zB.1 hp;have hk':=zB.1 hk;have hne:¬ ieq q (q+1)=true:=(by simp[ieq];omega);obtain⟨y,hy⟩:∃y:Mon,y.Outer=up (ix l m mZ).Outer p ⟨q+1,0⟩:=⟨{ix l m mZ with Outer:=up (ix l m mZ).Outer p ⟨q+1,0⟩},rfl⟩;have c1:=zN3 (fun s=>ieq s.Page q) hp (⟨q+1,0⟩:Slot) sZ;simp only[e1,show ieq q q=true by simp[ieq],show ieq (q+1) q=false by simp[ieq];omega,if_true,kC,if_false] at c1;have s1:=zxC hm y q;simp only[cPg,hy] at s1;have hz:zdH (up l m y) q=0:=(by omega);apply Classical.byContradiction;intro hc;have hpos:1<=zdH (up l m y) q:=(by by_cases hmn:m=n;{subst hmn;have hpk:p≠k:=fun e=>hc ⟨rfl,e⟩;have:=zGd (l:=up l m y) (m:=m) (p:=k) (by rw[zdp];exact hm) (by rw[zbe hm,hy,zdp];exact hk);rw[zbe hm,hy,zbr hp'.1 hk'.1 hpk,e2] at this;exact this};{have:=zGd (l:=up l m y) (m:=n) (p:=k) (by rw[zdp];exact hn) (by rw[zbr hm'.1 hn'.1 hmn];exact hk);rw[zbr hm'.1 hn'.1 hmn,e2] at this;exact this});omega
theorem zsq {a b c:Bool}:(cond a b c)=true↔(a=true/\b=true)\/(a=false/\c=true):=by cases a<;>simp
def SOk (s:Slot):Prop:=s=noSlot\/(0<=s.Page/\s.Page<=11/\1<=s.Rights/\s.Rights<=3)
theorem zTK {a b:Slot}(h1:a.Page=b.Page)(h2:a.Rights=b.Rights):a=b:=by cases a;cases b;simp_all
theorem zn7 {a b:Slot}:zc3 a b=true↔a=b:=by simp only[zc3,qD,zbl];exact⟨fun h=>zTK h.1 h.2,fun h=>by rw[h];exact⟨rfl,rfl⟩⟩
theorem zqx {a b:Slot}:zc3 a b=false↔a≠b:=by rw[<- Bool.not_eq_true,zn7]
theorem zWO {s:Slot}:zdX s 12=true↔SOk s:=by unfold zdX SOk;rw[zsq,zn7,zqx];have:wsub .i64 12 1=11:=(by decide);simp only[this,zsq,zcE];simp[igt];constructor;{rintro (h|⟨h,⟨h1,h2⟩,h3⟩);{exact .inl h};{exact .inr ⟨h1,h2,h3⟩}};{intro h;by_cases hs:s=noSlot;{exact .inl hs};{rcases h with h|⟨h1,h2,h3⟩;{exact .inl h};{exact .inr ⟨hs,⟨h1,h2⟩,h3⟩}}}
theorem SOk.none {s:Slot}(h:SOk s)(hp:s.Page = -1):s=noSlot:=by rcases h with h|h;{exact h};{omega}
theorem SOk.pos {s:Slot}(h:SOk s)(hp:s.Page≠-1):0<=s.Page/\s.Page<=11/\1<=s.Rights/\s.Rights<=3:=by rcases h with h|h;{rw [h]at hp;exact absurd rfl hp};{exact h}
structure MOk (x:Mon):Prop where
 g1:1<=x.Guests.length
 g2:x.Guests.length<=2
 gt:x.Tables.length=x.Guests.length
 o8:x.Outer.length=8
 sl:∀s∈x.Outer,SOk s
 u8:x.Out.length=8
 d8:x.Dirty.length=8
 outs:x.Outs.length<=40
 pend:zde x.Pending=true
 tr:win x.Traps 0 3=true
 own:win x.Own 0 1000000000=true
 gs:∀g∈x.Guests,zd5 g=true
 fit:∀p,hasB p 8=true->zmw (ix x.Outer p sZ) (ix x.Out p [])=true
theorem zQY {P:Nat->Bool}:∀{n i:Nat},zoi P n i=true↔∀j,i<=j->j<i+n->P j=true
 | 0,i=>by simp[zoi];intro j h1 h2;omega
 |n+1,i=>by rw[zoi,qD,zQY];constructor;{rintro⟨h1,h2⟩ j hj1 hj2;by_cases e:j=i;{rw [e];exact h1};{exact h2 j (by omega) (by omega)}};{intro h;exact⟨h i (by omega) (by omega),fun j h1 h2=>h j (by omega) (by omega)⟩}
theorem zp6 {t:List Slot}{n p:Int}:zdd t n p=true↔(∀s∈t,zdX s p=true)/\ln t=n:=by unfold zdd;rw[zb6,qN,zbl]
theorem z7g {x:Mon}:zeO x=true↔MOk x:=by unfold zeO;simp only[zb6,zcE,zbl,zp6,zQY,qN,ile,q9];constructor;{rintro⟨⟨h1,h2⟩,h3,⟨h4,h5⟩,h6,h7,h8,h9,h10,h11,h12,h13⟩;unfold ln at *;refine⟨by omega,by omega,by omega,by omega,fun s hs=>zWO.1 (h4 s hs),by omega,by omega,by omega,h9,zcE.2 h10,zcE.2 h11,h12,fun p hp=>?_⟩;have hp':=zB.1 hp;have:=h13 p.toNat (by omega) (by omega);unfold fits at this;rwa [show ((p.toNat:Nat):Int)=p by omega] at this};{intro h;obtain⟨h1,h2,h3,h4,h5,h6,h7,h8,h9,h10,h11,h12,h13⟩:=h;unfold ln;exact⟨⟨by omega,by omega⟩,by omega,⟨fun s hs=>zWO.2 (h5 s hs),by omega⟩,by omega,by omega,by omega,h9,zcE.1 h10,zcE.1 h11,h12,fun j h1 h2=>h13 (j:Int) (zB.2 (by omega))⟩}
theorem zsr (o:List Slot)(s:Slot)(q:Int):(s::o).countP (fun s=>ieq s.Page q)=o.countP (fun s=>ieq s.Page q)+if s.Page=q then 1 else 0:=by rw[kG];simp[ieq]
theorem zzc:∀{o:List Slot} {u:List Bool},(∀s∈o,s.Page<u.length)->
 (∀u',zgH o u=some u'↔(∀q,0<=q->o.countP (fun s=>ieq s.Page q)+(if ix u q false then 1 else 0)<=1)/\
  u'=(o.foldl (fun u s=>bif ilt s.Page 0 then u else up u s.Page true) u))
 |[],u,h,u'=>by simp[zgH];exact⟨fun h=>⟨fun q _=>by split<;>omega,h.symm⟩,fun h=>h.2.symm⟩
 |s::o,u,h,u'=>by
  unfold zgH;by_cases hs:s.Page<0;{have hl:ilt s.Page 0=true:=qL hs;rw[hl,cond_true,zzc (fun y hy=>h y (qW _ hy))];simp only[uK,hl,cond_true];refine and_congr (forall_congr' fun q=>forall_congr' fun hq=>?_) Iff.rfl;have e:(if s.Page=q then 1 else 0)=0:=if_neg (by omega);rw[zsr,e,jY]};{have hl:ilt s.Page 0=false:=qS hs;have hlt:=h s jC;have hb:hasB s.Page (ln u)=true:=zB.2 ⟨by omega,by unfold ln;omega⟩;rw[hl,cond_false];cases hu:ix u s.Page false with|true=>rw[cond_true];constructor;{intro h;cases h};{rintro⟨h,_⟩;have:=h s.Page (by omega);rw[zsr,if_pos rfl,hu] at this;simp at this}|false=>rw[cond_false,zzc (fun y hy=>by rw[zbL];exact h y (qW _ hy))];simp only[uK,hl,cond_false];refine and_congr (forall_congr' fun q=>forall_congr' fun hq=>?_) Iff.rfl;rw[zsr];by_cases hq2:s.Page=q;{subst hq2;rw[zbe hb,hu];simp};{rw [zbr (by omega) hq hq2,if_neg hq2,jY]}}
theorem zHQ:∀(o:List Slot) (u:List Bool),(o.foldl (fun u s=>bif ilt s.Page 0 then u else up u s.Page true) u).length=u.length
 |[],u=>rfl
 |s::o,u=>by rw[uK,zHQ];cases ilt s.Page 0<;>simp [zbL]
theorem zNv:∀(o:List Slot) (u:List Bool) (q:Int),0<=q->(∀s∈o,s.Page<u.length)->(ix (o.foldl (fun u s=>bif ilt s.Page 0 then u else up u s.Page true) u) q false=true↔ix u q false=true\/1<=o.countP (fun s=>ieq s.Page q))
 |[],u,q,hq,h=>by simp
 |s::o,u,q,hq,h=>by
  rw[uK,zNv _ _ q hq (fun y hy=>by have:=h y (qW _ hy);cases ilt s.Page 0<;>simpa [zbL] using this),zsr];by_cases hs:s.Page<0;{rw [show ilt s.Page 0=true from qL hs,cond_true,if_neg (by omega),jY]};{rw [show ilt s.Page 0=false from qS hs,cond_false];have hlt:=h s jC;have hb:hasB s.Page (ln u)=true:=zB.2 ⟨by omega,by unfold ln;omega⟩;by_cases hq2:s.Page=q;{subst hq2;rw[zbe hb];simp};{rw [zbr (by omega) hq hq2,if_neg hq2,jY]}}
theorem zyl:∀{l:List Mon} {u:List Bool},u.length=12->(zjN l u=true↔(∀x∈l,MOk x)/\∀q,0<=q->zdH l q+(if l≠[]/\ix u q false then 1 else 0)<=1)
 |[],u,hu=>by simp[zjN,zdH]
 |x::l,u,hu=>by
  unfold zjN;rw[zb6,z7g];constructor;{rintro⟨h1,h2⟩;have hp:∀s∈x.Outer,s.Page<u.length:=fun s hs=>(by rcases h1.sl s hs with h|h;{rw [h,hu];decide};{rw [hu];omega});split at h2;{rename_i u' hu';obtain⟨h3,rfl⟩:=(zzc hp u').1 hu';rw[zyl (by rw[zHQ,hu])]at h2;obtain⟨h4,h5⟩:=h2;refine⟨by simpa using ⟨h1,h4⟩,fun q hq=>?_⟩;have h6:=h3 q hq;have h7:=h5 q hq;have h8:=zNv x.Outer u q hq hp;simp only[zdH,jB,kQ]at h7 ⊢;unfold cPg at h7 ⊢;simp only[ne_eq,reduceCtorEq,not_false_eq_true,true_and];by_cases hl:l=[];{subst hl;simpa using h6};{simp only [hl,ne_eq,not_false_eq_true,true_and]at h7;by_cases hc:ix (x.Outer.foldl (fun u s=>bif ilt s.Page 0 then u else up u s.Page true) u) q false=true;{rw [if_pos hc]at h7;omega};{rw [if_neg hc]at h7;have h9:¬ (ix u q false=true\/1<=x.Outer.countP (fun s=>ieq s.Page q)):=fun e=>hc (h8.2 e);rw[not_or]at h9;rw[if_neg h9.1];omega}}};{cases h2}}
  .rintro⟨h1,h2⟩;have hx:MOk x:=h1 x jC;refine⟨hx,?_⟩;have hp:∀s∈x.Outer,s.Page<u.length:=fun s hs=>by rcases hx.sl s hs with h|h;{rw [h,hu];decide};{rw [hu];omega}
   have hu':=(zzc hp _).2 ⟨fun q hq=>by
    have:=h2 q hq;simp only[zdH,jB,kQ,ne_eq,reduceCtorEq,not_false_eq_true,true_and] at this;unfold cPg at this;omega,rfl⟩
   rw[hu'];simp only;rw[zyl (by rw[zHQ,hu])];refine⟨fun y hy=>h1 y (qW _ hy),fun q hq=>?_⟩;have h3:=h2 q hq;have h8:=zNv x.Outer u q hq hp;simp only[zdH,jB,kQ,ne_eq,reduceCtorEq,not_false_eq_true,true_and]at h3 ⊢;unfold cPg at h3 ⊢;split;{rename_i hc;rcases h8.1 hc.2 with h|h;{rw [if_pos h]at h3;omega};{omega}};{omega}
structure HOk (h:Host):Prop where
 m12:h.Memory.length=12
 pgs:∀c∈h.Memory,zct c=true
 n1:1<=h.Mons.length
 n3:h.Mons.length<=3
 b1:ze9 h.Buffer=true
 b2:ze9 h.IoBuffer=true
 mons:∀x∈h.Mons,MOk x
 uq:∀q,0<=q->zdH h.Mons q<=1
theorem zi6 {h:Host}:zcc h=true↔HOk h:=by unfold zcc zkC;simp only[zb6,zcE,zbl,qN];rw[zyl (by simp[rp])];have h0:∀q,ix (rp 12 false) q false=false:=fun q=>(by unfold ix rp;rw[j7,j3];split<;>rfl);simp only[h0,kC,and_false,if_false,jY];unfold ln;constructor;{rintro⟨⟨h1,h2⟩,⟨h3,h4⟩,h5,h6,h7,h8⟩;exact⟨by omega,h1,by omega,by omega,h5,h6,h7,h8⟩};{rintro⟨h1,h2,h3,h4,h5,h6,h7,h8⟩;exact⟨⟨h2,by omega⟩,⟨by omega,by omega⟩,h5,h6,h7,h8⟩}
theorem HOk.mon {h:Host}(H:HOk h){m:Int}(hm:hasB m (ln h.Mons)=true):MOk (ix h.Mons m mZ):=H.mons _ (zkA hm _)
theorem MOk.hasO {x:Mon}(H:MOk x){p:Int}(hp:hasB p 8=true):hasB p (ln x.Outer)=true:=by rw[ln,H.o8];exact hp
theorem MOk.hasU {x:Mon}(H:MOk x){p:Int}(hp:hasB p 8=true):hasB p (ln x.Out)=true:=by rw[ln,H.u8];exact hp
theorem MOk.hasD {x:Mon}(H:MOk x){p:Int}(hp:hasB p 8=true):hasB p (ln x.Dirty)=true:=by rw[ln,H.d8];exact hp
theorem MOk.slot {x:Mon}(H:MOk x){p:Int}(hp:hasB p 8=true):SOk (ix x.Outer p sZ):=H.sl _ (zkA (H.hasO hp) _)
theorem HOk.uniq {h:Host}(H:HOk h){m p n k q:Int}(hm:hasB m (ln h.Mons)=true)(hp:hasB p 8=true)(hn:hasB n (ln h.Mons)=true)(hk:hasB k 8=true)(e1:(ix (ix h.Mons m mZ).Outer p sZ).Page=q)(e2:(ix (ix h.Mons n mZ).Outer k sZ).Page=q)(hq:0<=q):m=n/\p=k :=
 z1S hm ((H.mon hm).hasO hp) hn ((H.mon hn).hasO hk) e1 e2 (H.uq q hq)
theorem HOk.up {h:Host}(H:HOk h){m:Int}(hm:hasB m (ln h.Mons)=true){x:Mon}(hx:MOk x){h':Host}(e:h'.Mons=up h.Mons m x)(m12:h'.Memory.length=12)(pgs:∀c∈h'.Memory,zct c=true)(b1:ze9 h'.Buffer=true)(b2:ze9 h'.IoBuffer=true)(uq:∀q,0<=q->cPg x q<=cPg (ix h.Mons m mZ) q\/zdH h.Mons q=0/\cPg x q<=1):HOk h':=by refine⟨m12,pgs,by rw[e,zbL];exact H.n1,by rw[e,zbL];exact H.n3,b1,b2,fun y hy=>?_,fun q hq=>?_⟩;{rw [e]at hy;unfold E.up at hy;rcases qZ hy with h|h;{exact H.mons y h};{rw [h];exact hx}};{rw [e];have h1:=zxC hm x q;have h2:=H.uq q hq;have h3:=uq q hq;omega}
structure KOk (k:Kept) (inner outer:List Slot):Prop where
 l1:k.Known.length=inner.length
 l2:k.Slots.length=inner.length
 at':∀i,hasB i (ln inner)=true->ix k.Slots i sZ=bif ix k.Known i false then zbu (ix inner i sZ) outer else noSlot
def TOk (x:Mon):Prop:=∀g,hasB g (ln x.Guests)=true->KOk (ix x.Tables g kZ) (ix x.Guests g gZ).Live x.Outer
structure Rt (h:Host):Prop where
 t:∀m,hasB m (ln h.Mons)=true->TOk (ix h.Mons m mZ)
 e1:∀e∈h.Buffer,zcS h e=true
 e2:∀e∈h.IoBuffer,zcS h e=true
structure Safe (h:Host):Prop where
 ok:HOk h
 rt:Rt h
theorem zp9 {a b:Slot}:below' a b=true↔a=noSlot\/(a.Page=b.Page/\enough b.Rights a.Rights=true):=by unfold below';rw[zsq,zn7,zqx,zb6,zbl];by_cases h:a=noSlot<;>simp [h]
theorem z1F (x:Int):wand .i64 0 x=0:=by unfold wand;have:(BitVec.ofInt 64 0 &&& BitVec.ofInt 64 x)=0#64:=(by rw[show BitVec.ofInt 64 0=0#64 from rfl,BitVec.zero_and]);show IntKind.wrap .i64 ((BitVec.ofInt 64 0 &&& BitVec.ofInt 64 x).toNat:Int)=0;rw[this];rfl
theorem z1R {a:Slot}(h:below' a noSlot=true):a=noSlot:=by rcases zp9.1 h with h|⟨h1,h2⟩;{exact h};{refine zTK h1 ?_;unfold enough at h2;rw[show noSlot.Rights=0 from rfl,z1F]at h2;simp only[zb6,zbl]at h2;exact h2.2.2.symm}
theorem ze3 {h:Host}{e:Entry}:zcS h e=true↔hasB (zdf e.Tag) (ln h.Mons)=true/\hasB (zdM e.Tag) (ln (ix h.Mons (zdf e.Tag) mZ).Guests)=true/\
 below' ⟨e.Host,e.Rights⟩ (zbu (zbz (ix (ix h.Mons (zdf e.Tag) mZ).Guests (zdM e.Tag) gZ).Live e.Page) (ix h.Mons (zdf e.Tag) mZ).Outer)=true:=by
 unfold zcS;rw[zb6,zb6]
theorem zOQ {o:List Slot}{p q:Int}{s:Slot}(hp:0<=p)(h:q≠p):zbz (up o p s) q=zbz o q:=by unfold zbz;rw[zdp];cases hq:hasB q (ln o) with|false=>rfl|true=>rw[cond_true,cond_true,zbr hp (zB.1 hq).1 (Ne.symm h)]
theorem zII {s:Slot}{o:List Slot}{p:Int}{t:Slot}(hp:0<=p)(h:s.Page≠p):zbu s (up o p t)=zbu s o:=by unfold zbu;rw[zOQ hp h]
theorem zXm {s:Slot}{o:List Slot}:zbu s o=noSlot\/(zbu s o).Page=(zbz o s.Page).Page:=by unfold zbu;cases ieq s.Page (-1)<;>cases ieq (zbz o s.Page).Page (-1)<;>cases ieq (zdE s.Rights (zbz o s.Page).Rights) 0<;>simp
theorem zjL (k:Kept)(q:Int):(zbR k q).Known.length=k.Known.length/\(zbR k q).Slots.length=k.Slots.length:=by unfold zbR;cases zdl k q<;>simp [zbL]
theorem zzu:∀(l:List Int) (k:Kept),(zd0 k l).Known.length=k.Known.length/\(zd0 k l).Slots.length=k.Slots.length
 |[],k=>⟨rfl,rfl⟩
 |q::l,k=>by have h1:=zzu l (zbR k q);have h2:=zjL k q;exact⟨h1.1.trans h2.1,h1.2.trans h2.2⟩
theorem zvH {k:Kept}{q i:Int}(hl:k.Known.length=k.Slots.length)(hi:hasB i (ln k.Known)=true) :
 ix (zbR k q).Known i false=(cond (ieq q i) false (ix k.Known i false))/\ix (zbR k q).Slots i sZ=(cond (ieq q i) noSlot (ix k.Slots i sZ)):=by
 have hi':hasB i (ln k.Slots)=true:=by unfold ln at hi ⊢;rwa [<- hl]
 unfold zbR zdl
 by_cases e:q=i
 .subst e;simp only[hi,hi',cond_true,ieq,beq_self_eq_true];exact⟨zbe hi _ _,zbe hi' _ _⟩
 .rw [show ieq q i=false from zbU.2 e]
  by_cases hq:hasB q (ln k.Known)=true
  .have hq':hasB q (ln k.Slots)=true:=by unfold ln at hq ⊢;rwa [<- hl]
   simp only[hq,hq',cond_true,cond_false];exact⟨zbr (zB.1 hq).1 (zB.1 hi).1 e _ _,zbr (zB.1 hq).1 (zB.1 hi).1 e _ _⟩
  .rw [Bool.not_eq_true]at hq;simp[hq]
theorem zBp:∀(l:List Int) {k:Kept} {i:Int},k.Known.length=k.Slots.length->hasB i (ln k.Known)=true->
 (i∈l->ix (zd0 k l).Known i false=false/\ix (zd0 k l).Slots i sZ=noSlot)/\
 (i∉l->ix (zd0 k l).Known i false=ix k.Known i false/\ix (zd0 k l).Slots i sZ=ix k.Slots i sZ)
 |[],k,i,hl,hi=>⟨fun h=>by simp at h,fun _=>⟨rfl,rfl⟩⟩
 |q::l,k,i,hl,hi=>by have h2:=zjL k q;have h3:=zvH (q:=q) hl hi;have ih:=zBp l (k:=zbR k q) (i:=i) (by rw[h2.1,h2.2,hl]) (by unfold ln at hi ⊢;rwa [h2.1]);show (_->ix (zd0 (zbR k q) l).Known i false=_/\ix (zd0 (zbR k q) l).Slots i sZ=_)/\(_->ix (zd0 (zbR k q) l).Known i false=_/\ix (zd0 (zbR k q) l).Slots i sZ=_);by_cases hm:i∈l;{refine⟨fun _=>ih.1 hm,fun h=>absurd (qW _ hm) h⟩};{rw [(ih.2 hm).1,(ih.2 hm).2,h3.1,h3.2];by_cases e:q=i;{subst e;simp[ieq]};{rw [zbU.2 e];simp[hm,Ne.symm e]}}
theorem zG8 {α:Type}{P:α->Bool}{d:α}:∀{l:List α} {n:Nat} {i:Int},i∈idxs P l n↔∃k:Nat,∃h:k<l.length,i=((n+k:Nat):Int)/\P l[k]=true
 |[],n,i=>by simp[idxs]
 |x::l,n,i=>by
  have ih:=@zG8 α P d l (n+1) i;unfold idxs;constructor
  .intro h;cases hx:P x with
   |true=>rw[hx,cond_true,qF]at h;rcases h with h|h;{exact⟨0,by simp,by simpa using h,hx⟩};{obtain⟨k,h1,h2,h3⟩:=ih.1 h;exact⟨k+1,by simpa using h1,by rw[h2];congr 1;omega,by simpa using h3⟩}
   |false=>rw[hx,cond_false]at h;obtain⟨k,h1,h2,h3⟩:=ih.1 h;exact⟨k+1,by simpa using h1,by rw[h2];congr 1;omega,by simpa using h3⟩
  {rintro⟨k,h1,h2,h3⟩;cases k with|zero=>simp only[List.getElem_cons_zero]at h3;rw[h3,cond_true,h2];exact jC|succ k=>have:=ih.2 ⟨k,by simpa using h1,by rw[h2];congr 1;omega,by simpa using h3⟩;cases P x;{exact this};{exact qW _ this}}
theorem zUs {l:List Slot}{p i:Int}:i∈zC6 l p↔hasB i (ln l)=true/\(ix l i sZ).Page=p:=by unfold zC6;rw[zG8 (d:=sZ)];constructor;{rintro⟨k,h1,rfl,h3⟩;rw[jU,zjR h1];exact⟨zB.2 (by unfold ln;omega),zbl.1 h3⟩};{rintro⟨h1,h2⟩;obtain⟨k,hk,rfl,e⟩:=zyv h1 sZ;exact⟨k,hk,by simp,by rw[e]at h2;exact zbl.2 h2⟩}
theorem zX3 {k:Kept}{inner outer:List Slot}(h:KOk k inner outer){p:Int}(hp:0<=p)(s:Slot):KOk (zg5 k inner p) inner (up outer p s):=by have hl:=zzu (zC6 inner p) k;refine⟨hl.1.trans h.l1,hl.2.trans h.l2,fun i hi=>?_⟩;have hi':hasB i (ln k.Known)=true:=(by unfold ln at hi ⊢;rwa [h.l1]);have ha:=zBp (zC6 inner p) (by rw[h.l1,h.l2]) hi';unfold zg5;by_cases hc:(ix inner i sZ).Page=p;{have:=ha.1 (zUs.2 ⟨hi,hc⟩);rw[this.1,this.2];rfl};{have:=ha.2 (fun h=>hc (zUs.1 h).2);rw[this.1,this.2,h.at' i hi,zII hp hc]}
theorem zC1 (gs:List Guest)(p:Int):∀(n:Nat) (ts:List Kept),(zkl gs p n ts).length=ts.length
 | 0,ts=>rfl
 |n+1,ts=>by rw[zkl,zbL,zC1 gs p n]
theorem zNf (gs:List Guest)(p:Int):∀(n:Nat) (ts:List Kept),n<=ts.length->∀i,0<=i->ix (zkl gs p n ts) i kZ=if i<n then zg5 (ix ts i kZ) (ix gs i gZ).Live p else ix ts i kZ
 | 0,ts,_,i,hi=>by rw[if_neg (by omega)];rfl
 |n+1,ts,hn,i,hi=>by rw[zkl];by_cases e:i=n;{subst e;rw[zbe (by rw[ln,zC1];exact zB.2 (by omega)),if_pos (by omega),zNf gs p n ts (by omega) _ hi,if_neg (by omega)]};{rw [zbr (by omega) hi (Ne.symm e),zNf gs p n ts (by omega) i hi];by_cases h:i<n;{rw [if_pos h,if_pos (by omega)]};{rw [if_neg h,if_neg (by omega)]}}
def ziF (x:Mon)(p:Int)(s:Slot):Mon:={zjr x p x.Tables.length with Outer:=up x.Outer p s}
theorem z1o {x:Mon}(h:TOk x)(ht:x.Tables.length=x.Guests.length){p:Int}(hp:0<=p)(s:Slot):TOk (ziF x p s):=by intro g hg;have hg':hasB g (ln x.Guests)=true:=hg;show KOk (ix (zkl x.Guests p x.Tables.length x.Tables) g kZ) (ix x.Guests g gZ).Live (up x.Outer p s);rw[zNf _ _ _ _ (qY _) _ (zB.1 hg').1,if_pos (by have:=zB.1 hg';unfold ln at this;omega)];exact zX3 (h g hg') hp s
theorem zri (h:Host)(m p:Int)(s:Slot):(zci h m p s).Mons=up h.Mons m (ziF (ix h.Mons m mZ) p s):=by unfold zci;cases ine (ix (ix h.Mons m zh).Outer p zbc).Page (-1)<;>rfl
theorem zwe (h:Host)(m p:Int)(s:Slot):(zci h m p s).Memory=h.Memory:=by unfold zci;cases ine (ix (ix h.Mons m zh).Outer p zbc).Page (-1)<;>rfl
theorem zOS (h:Host)(m p:Int)(s:Slot):(zci h m p s).Buffer=(cond (ieq (ix (ix h.Mons m mZ).Outer p sZ).Page (-1)) h.Buffer (flushed h.Buffer (ix (ix h.Mons m mZ).Outer p sZ).Page))/\
 (zci h m p s).IoBuffer=(cond (ieq (ix (ix h.Mons m mZ).Outer p sZ).Page (-1)) h.IoBuffer (flushed h.IoBuffer (ix (ix h.Mons m mZ).Outer p sZ).Page)):=by
 unfold zci
 by_cases e:(ix (ix h.Mons m zh).Outer p zbc).Page = -1
 .rw [show ine (ix (ix h.Mons m zh).Outer p zbc).Page (-1)=false by simp[ine,e],show ieq (ix (ix h.Mons m mZ).Outer p sZ).Page (-1)=true from zbl.2 e]
  exact⟨rfl,rfl⟩
 .rw [show ine (ix (ix h.Mons m zh).Outer p zbc).Page (-1)=true from zoz.2 e,show ieq (ix (ix h.Mons m mZ).Outer p sZ).Page (-1)=false from zbU.2 e]
  exact⟨rfl,rfl⟩
theorem zIN {h h':Host}{m p:Int}{s:Slot}(hm:hasB m (ln h.Mons)=true)(hp:hasB p (ln (ix h.Mons m mZ).Outer)=true){x:Mon}(hM:h'.Mons=up h.Mons m x)(hG:x.Guests=(ix h.Mons m mZ).Guests)(hO:x.Outer=up (ix h.Mons m mZ).Outer p s){e:Entry}(he:zcS h e=true)(hn:(ix (ix h.Mons m mZ).Outer p sZ).Page = -1\/e.Host≠(ix (ix h.Mons m mZ).Outer p sZ).Page):zcS h' e=true:=by obtain⟨h1,h2,h3⟩:=ze3.1 he;rw[ze3,hM,zdp];refine⟨h1,?_⟩;by_cases hc:m=zdf e.Tag;{rw [<- hc]at h1 h2 h3 ⊢;rw[zbe hm,hG,hO];refine⟨h2,?_⟩;by_cases hq:(zbz (ix (ix h.Mons m mZ).Guests (zdM e.Tag) gZ).Live e.Page).Page=p;{have key:zbu (zbz (ix (ix h.Mons m mZ).Guests (zdM e.Tag) gZ).Live e.Page) (ix h.Mons m mZ).Outer=noSlot\/e.Host≠(zbu (zbz (ix (ix h.Mons m mZ).Guests (zdM e.Tag) gZ).Live e.Page) (ix h.Mons m mZ).Outer).Page:=(by rcases zXm (s:=zbz (ix (ix h.Mons m mZ).Guests (zdM e.Tag) gZ).Live e.Page) (o:=(ix h.Mons m mZ).Outer) with hz|hz;{exact .inl hz};{rw [hq]at hz;have hs:zbz (ix h.Mons m mZ).Outer p=ix (ix h.Mons m mZ).Outer p sZ:=(by unfold zbz;rw[hp];rfl);rw[hs]at hz;rcases hn with hn|hn;{left;unfold zbu;rw[hq,hs,hn,show ieq (-1) (-1)=true from rfl];cases ieq p (-1)<;>rfl};{exact .inr (by rw[hz];exact hn)}});have hno:(⟨e.Host,e.Rights⟩:Slot)=noSlot:=(by rcases key with key|key;{rw [key]at h3;exact z1R h3};{rcases zp9.1 h3 with h|h;{exact h};{exact absurd h.1 key}});rw[hno];exact zp9.2 (.inl rfl)};{rw [zII (zB.1 hp).1 hq];exact h3}};{rw [zbr (zB.1 hm).1 (zB.1 h1).1 hc];exact⟨h2,h3⟩}
theorem zyM {h:Host}(H:Rt h){m p:Int}(hm:hasB m (ln h.Mons)=true)(hp:hasB p (ln (ix h.Mons m mZ).Outer)=true)(ht:(ix h.Mons m mZ).Tables.length=(ix h.Mons m mZ).Guests.length)(s:Slot):Rt (zci h m p s):=by have hb:=zOS h m p s;have hM:=zri h m p s;have key:∀(b:List Entry),(∀e∈b,zcS h e=true)->∀e∈(cond (ieq (ix (ix h.Mons m mZ).Outer p sZ).Page (-1)) b (flushed b (ix (ix h.Mons m mZ).Outer p sZ).Page)),zcS (zci h m p s) e=true:=(by intro b hb e he;by_cases ho:(ix (ix h.Mons m mZ).Outer p sZ).Page = -1;{rw [zbl.2 ho,cond_true]at he;exact zIN hm hp hM rfl rfl (hb e he) (.inl ho)};{rw [zbU.2 ho,cond_false]at he;obtain⟨he1,he2⟩:=List.mem_filter.1 he;exact zIN hm hp hM rfl rfl (hb e he1) (.inr (by simpa [ieq] using he2))});refine⟨fun k hk=>?_,fun e he=>key _ H.e1 e (by rwa [hb.1]at he),fun e he=>key _ H.e2 e (by rwa [hb.2]at he)⟩;rw[hM]at hk ⊢;rw[zdp]at hk;by_cases hc:m=k;{subst hc;rw[zbe hm];exact z1o (H.t m hm) ht (zB.1 hp).1 s};{rw [zbr (zB.1 hm).1 (zB.1 hk).1 hc];exact H.t k hk}
theorem zNV:∀(l pre:List Entry),allI (alone (pre++l)) l pre.length=true↔(∀x∈l,∀y∈pre,sameKey x y=false)/\l.Pairwise (fun y x=>sameKey x y=false)
 |[],pre=>by simp[allI]
 |x::l,pre=>by have ih:=zNV l (pre++[x]);rw[j8,List.singleton_append,kB,uB] at ih;rw[allI,qD,ih,List.pairwise_cons];have h1:alone (pre++x::l) pre.length x=true↔∀y∈pre,sameKey x y=false:=(by unfold alone;rw[kN rfl,qN];simp);rw[h1];constructor;{rintro⟨h2,h3,h4⟩;refine⟨fun z hz y hy=>?_,fun z hz=>h3 z hz x (by simp),h4⟩;rcases qF.1 hz with rfl|hz;{exact h2 y hy};{exact h3 z hz y (by simp[hy])}};{rintro⟨h2,h3,h4⟩;refine⟨fun y hy=>h2 x (by simp) y hy,fun z hz y hy=>?_,h4⟩;rcases jI.1 hy with hy|hy;{exact h2 z (by simp[hz]) y hy};{rw [qG.1 hy];exact h3 z hz}}
theorem zDc {l:List Entry}:ze9 l=true↔l.Pairwise (fun y x=>sameKey x y=false)/\l.length<=6:=by unfold ze9;have:=zNV l [];simp only[jT,uJ] at this;have h0:ile (ln l) 6=true↔l.length<=6:=(by rw[ile,q9,ln];omega);rw[zb6,this,h0];simp
theorem zx0 {l:List Entry}(h:ze9 l=true)(P:Entry->Bool):ze9 (l.filter P)=true:=by rw[zDc]at h ⊢;exact⟨h.1.sublist List.filter_sublist,qT (uD _ _) h.2⟩
theorem zFa {l:List Entry}(h:ze9 l=true)(p:Int):ze9 (flushed l p)=true:=zx0 h _
theorem zQ7 {x x':Mon}{p:Int}(hp:hasB p (ln x.Outer)=true){s:Slot}(h:x'.Outer=up x.Outer p s)(q:Int):cPg x' q+(if (ix x.Outer p sZ).Page=q then 1 else 0)=cPg x q+(if s.Page=q then 1 else 0):=by have:=zN3 (fun s=>ieq s.Page q) hp s sZ;simp only[zbl] at this;unfold cPg;rw[h];exact this
theorem zos {s:Slot}(hs:SOk s){c:List Int}:zmw s c=true↔(s.Page = -1->zct c=true)/\(s.Page≠-1->enough s.Rights 1=true/\c=[]):=by unfold zmw;by_cases e:s=noSlot;{rw [zn7.2 e,cond_true,e];simp[noSlot]};{rw [zqx.2 e,cond_false,zb6];have:s.Page≠-1:=fun h=>e (hs.none h);have h0:ile (ln c) 0=true↔c=[]:=(by rw[ile,q9,ln,<- uR];omega);rw[h0];exact⟨fun h=>⟨fun h'=>absurd h' this,fun _=>h⟩,fun h=>h.2 this⟩}
structure Chg (x x':Mon) (p:Int) (s:Slot) (c:List Int):Prop where
 o:x'.Outer=up x.Outer p s
 u:x'.Out=up x.Out p c
 g:x'.Guests=x.Guests
 t:x'.Tables.length=x.Tables.length
 d:x'.Dirty.length=x.Dirty.length
 a1:x'.Outs=x.Outs
 a2:x'.Pending=x.Pending
 a3:x'.Traps=x.Traps
 a4:x'.Own=x.Own
theorem MOk.chg {x x':Mon}(H:MOk x){p:Int}(hp:hasB p 8=true){s:Slot}{c:List Int}(k:Chg x x' p s c)(hs:SOk s)(hf:zmw s c=true):MOk x':=by refine⟨by rw[k.g];exact H.g1,by rw[k.g];exact H.g2,by rw[k.t,k.g];exact H.gt,by rw[k.o,zbL];exact H.o8,fun y hy=>?_,by rw[k.u,zbL];exact H.u8,by rw[k.d];exact H.d8,by rw[k.a1];exact H.outs,by rw[k.a2];exact H.pend,by rw[k.a3];exact H.tr,by rw[k.a4];exact H.own,by rw[k.g];exact H.gs,fun q hq=>?_⟩;{rw [k.o]at hy;rcases qZ hy with h|h;{exact H.sl y h};{rw [h];exact hs}};{rw [k.o,k.u];by_cases e:p=q;{subst e;rw[zbe (H.hasO hp),zbe (H.hasU hp)];exact hf};{rw [zbr (zB.1 hp).1 (zB.1 hq).1 e,zbr (zB.1 hp).1 (zB.1 hq).1 e];exact H.fit q hq}}
structure Like (h r:Host):Prop where
 len:r.Mons.length=h.Mons.length
 g:∀i,hasB i (ln h.Mons)=true->(ix r.Mons i mZ).Guests=(ix h.Mons i mZ).Guests
 o:∀i,hasB i (ln h.Mons)=true->(ix r.Mons i mZ).Outs=(ix h.Mons i mZ).Outs
 p:∀i,hasB i (ln h.Mons)=true->(ix r.Mons i mZ).Pending=(ix h.Mons i mZ).Pending
 tr:∀i,hasB i (ln h.Mons)=true->(ix r.Mons i mZ).Traps=(ix h.Mons i mZ).Traps
 ow:∀i,hasB i (ln h.Mons)=true->(ix r.Mons i mZ).Own=(ix h.Mons i mZ).Own
 pg:∀i k,hasB i (ln h.Mons)=true->hasB k 8=true->zcX r i k=zcX h i k
theorem Like.refl (h:Host):Like h h:=⟨rfl,fun _ _=>rfl,fun _ _=>rfl,fun _ _=>rfl,fun _ _=>rfl,fun _ _=>rfl,fun _ _ _ _=>rfl⟩
theorem Like.trans {a b c:Host}(x:Like a b)(y:Like b c):Like a c:=by have k:∀i,hasB i (ln a.Mons)=true->hasB i (ln b.Mons)=true:=fun i hi=>(by unfold ln at hi ⊢;rwa [x.len]);exact⟨y.len.trans x.len,fun i h=>(y.g i (k i h)).trans (x.g i h),fun i h=>(y.o i (k i h)).trans (x.o i h),fun i h=>(y.p i (k i h)).trans (x.p i h),fun i h=>(y.tr i (k i h)).trans (x.tr i h),fun i h=>(y.ow i (k i h)).trans (x.ow i h),fun i q h hq=>(y.pg i q (k i h) hq).trans (x.pg i q h hq)⟩
theorem Like.has {h r:Host}(k:Like h r){i:Int}:hasB i (ln r.Mons)=hasB i (ln h.Mons):=by unfold ln;rw[k.len]
theorem zpt {h r:Host}{m:Int}:∀(n i:Nat),(∀k:Nat,i<=k->k<i+n->zcX r m (k:Int)=zcX h m (k:Int))->zcA r m n i=zcA h m n i
 | 0,i,_=>rfl
 |n+1,i,h=>by rw[zcA,zcA,h i (by omega) (by omega),zpt n (i+1) (fun k h1 h2=>h k (by omega) (by omega))]
theorem Like.seen {h r:Host}(k:Like h r)(m:Int):zI r m=zI h m:=by unfold zI;rw[k.has];cases hm:hasB m (ln h.Mons) with|false=>rfl|true=>simp only[cond_true];rw[k.g m hm,k.o m hm,k.p m hm,zpt 8 0 (fun j h1 h2=>k.pg m j hm (zB.2 (by omega)))]
theorem zmx {h:Host}{m p:Int}(hm:hasB m (ln h.Mons)=true)(hp:hasB p 8=true)(ho:hasB p (ln (ix h.Mons m mZ).Outer)=true) :
 zcX h m p=bif ieq (ix (ix h.Mons m mZ).Outer p sZ).Page (-1) then zck (ix h.Mons m mZ).Out p else zck h.Memory (ix (ix h.Mons m mZ).Outer p sZ).Page:=by
 unfold zcX;have:zbz (ix h.Mons m mZ).Outer p=ix (ix h.Mons m mZ).Outer p sZ:=by unfold zbz;rw[ho];rfl
 rw[hm,hp,cond_true,cond_true,this]
 by_cases e:(ix (ix h.Mons m mZ).Outer p sZ).Page = -1
 .rw [zbl.2 e,show ine (ix (ix h.Mons m mZ).Outer p sZ).Page (-1)=false by simp[ine,e]];rfl
 .rw [zbU.2 e,show ine (ix (ix h.Mons m mZ).Outer p sZ).Page (-1)=true from zoz.2 e];rfl
theorem zjZ {m:List (List Int)}{p:Int}(h:hasB p (ln m)=true):zck m p=ix m p []:=by unfold zck;rw[h];rfl
theorem zOA {m:List (List Int)}(h:∀c∈m,zct c=true)(p:Int):zct (zck m p)=true:=by unfold zck;cases hp:hasB p (ln m) with|false=>rfl|true=>exact h _ (zkA hp _)
theorem zvm {h r:Host}(H:HOk h){m p:Int}(hm:hasB m (ln h.Mons)=true)(hp:hasB p 8=true){x:Mon}{s:Slot}{c:List Int}(hM:r.Mons=up h.Mons m x)(k:Chg (ix h.Mons m mZ) x p s c)(hs:SOk s)(hf:zmw s c=true)(m12:r.Memory.length=12)(pgs:∀c∈r.Memory,zct c=true)(b1:ze9 r.Buffer=true)(b2:ze9 r.IoBuffer=true)(uq:0<=s.Page->s.Page=(ix (ix h.Mons m mZ).Outer p sZ).Page\/zdH h.Mons s.Page=0):HOk r:=by refine H.up hm ((H.mon hm).chg hp k hs hf) hM m12 pgs b1 b2 fun q hq=>?_;have h1:=zQ7 ((H.mon hm).hasO hp) k.o q;by_cases e:s.Page=q;{have e2:=uq (by omega);rw[if_pos e]at h1;rcases e2 with e2|e2;{rw [if_pos (by omega)]at h1;left;omega};{right;rw[e] at e2;refine⟨e2,?_⟩;have:=zxC hm x q;have h4:cPg (ix h.Mons m mZ) q<=zdH h.Mons q:=(by have:=zxC hm (⟨[],[],[],[],[],0,0,[],0⟩:Mon) q;have e0:cPg (⟨[],[],[],[],[],0,0,[],0⟩:Mon) q=0:=rfl;omega);omega}};{rw [if_neg e]at h1;left;split at h1<;>omega}
theorem zuk {h r:Host}(H:HOk h){m p:Int}(hm:hasB m (ln h.Mons)=true)(hp:hasB p 8=true){x:Mon}{s:Slot}{c:List Int}(hM:r.Mons=up h.Mons m x)(k:Chg (ix h.Mons m mZ) x p s c)(hpg:(cond (ieq s.Page (-1)) c (zck r.Memory s.Page))=zcX h m p)(hmem:∀i q,hasB i (ln h.Mons)=true->hasB q 8=true->¬ (i=m/\q=p)->(ix (ix h.Mons i mZ).Outer q sZ).Page≠-1->zck r.Memory (ix (ix h.Mons i mZ).Outer q sZ).Page=zck h.Memory (ix (ix h.Mons i mZ).Outer q sZ).Page):Like h r:=by have hm0:=(zB.1 hm).1;have hp0:=(zB.1 hp).1;have e:∀{α:Type} (F:Mon->α),F x=F (ix h.Mons m mZ)->∀i,hasB i (ln h.Mons)=true->F (ix r.Mons i mZ)=F (ix h.Mons i mZ):=(by intro α F hF i hi;rw[hM];by_cases e:m=i;{subst e;rw[zbe hm];exact hF};{rw [zbr hm0 (zB.1 hi).1 e]});refine⟨by rw[hM,zbL],e Mon.Guests k.g,e Mon.Outs k.a1,e Mon.Pending k.a2,e Mon.Traps k.a3,e Mon.Own k.a4,fun i q hi hq=>?_⟩;have hi':hasB i (ln r.Mons)=true:=(by rw[hM,zdp];exact hi);have hO:=(H.mon hi).hasO hq;have hO':hasB q (ln (ix r.Mons i mZ).Outer)=true:=(by rw[hM];by_cases e:m=i;{subst e;rw[zbe hm,k.o,zdp];exact hO};{rw [zbr hm0 (zB.1 hi).1 e];exact hO});rw[zmx hi' hq hO'];by_cases e:m=i;{subst e;rw[hM,zbe hm,k.o,k.u];by_cases e2:p=q;{subst e2;rw[zbe ((H.mon hm).hasO hp),<- hpg];cases ieq s.Page (-1);{rfl};{rw [cond_true,cond_true,zjZ (by rw[zdp];exact(H.mon hm).hasU hp),zbe ((H.mon hm).hasU hp)]}};{rw [zbr hp0 (zB.1 hq).1 e2,zmx hm hq hO];by_cases e3:(ix (ix h.Mons m mZ).Outer q sZ).Page = -1;{rw [zbl.2 e3,cond_true,cond_true,zjZ (by rw[zdp];exact(H.mon hm).hasU hq),zjZ ((H.mon hm).hasU hq),zbr hp0 (zB.1 hq).1 e2]};{rw [zbU.2 e3,cond_false,cond_false,hmem m q hm hq (fun h=>e2 h.2.symm) e3]}}};{rw [hM,zbr hm0 (zB.1 hi).1 e,zmx hi hq hO];by_cases e3:(ix (ix h.Mons i mZ).Outer q sZ).Page = -1;{rw [zbl.2 e3,cond_true,cond_true]};{rw [zbU.2 e3,cond_false,cond_false,hmem i q hi hq (fun h=>e h.1.symm) e3]}}
structure Op (h r:Host):Prop where
 ok:HOk r
 like:Like h r
 rt:Rt h->Rt r
theorem Op.refl {h:Host}(H:HOk h):Op h h:=⟨H,Like.refl h,id⟩
theorem Op.trans {a b c:Host}(x:Op a b)(y:Op b c):Op a c:=⟨y.ok,x.like.trans y.like,fun h=>y.rt (x.rt h)⟩
theorem Op.safe {h r:Host}(k:Op h r)(s:Safe h):Safe r:=⟨k.ok,k.rt s.rt⟩
theorem zKr {h r:Host}(H:Rt h){m:Int}(hm:hasB m (ln h.Mons)=true){x:Mon}(hM:r.Mons=up h.Mons m x)(hb1:r.Buffer=h.Buffer)(hb2:r.IoBuffer=h.IoBuffer)(hl:x.Guests.length=(ix h.Mons m mZ).Guests.length)(hv:∀g,hasB g (ln (ix h.Mons m mZ).Guests)=true->(ix x.Guests g gZ).Live=(ix (ix h.Mons m mZ).Guests g gZ).Live)(ht:x.Tables=(ix h.Mons m mZ).Tables)(ho:x.Outer=(ix h.Mons m mZ).Outer):Rt r:=by have hm0:=(zB.1 hm).1;have hg:∀g,hasB g (ln x.Guests)=hasB g (ln (ix h.Mons m mZ).Guests):=fun g=>(by unfold ln;rw[hl]);have key:∀e,zcS h e=true->zcS r e=true:=(by intro e he;obtain⟨h1,h2,h3⟩:=ze3.1 he;rw[ze3,hM,zdp];refine⟨h1,?_⟩;by_cases hc:m=zdf e.Tag;{rw [<- hc]at h1 h2 h3 ⊢;rw[zbe hm,hg,hv _ h2,ho];exact⟨h2,h3⟩};{rw [zbr hm0 (zB.1 h1).1 hc];exact⟨h2,h3⟩});refine⟨fun k hk=>?_,fun e he=>key e (H.e1 e (by rwa [hb1]at he)),fun e he=>key e (H.e2 e (by rwa [hb2]at he))⟩;rw[hM]at hk ⊢;rw[zdp]at hk;by_cases hc:m=k;{subst hc;rw[zbe hm];intro g hgg;rw[hg]at hgg;rw[ht,hv g hgg,ho];exact H.t m hm g hgg};{rw [zbr hm0 (zB.1 hk).1 hc];exact H.t k hk}
theorem zn8 {h h1:Host}{m p:Int}{s:Slot}{x:Mon}(hm:hasB m (ln h.Mons)=true)(e:h1.Mons=up h.Mons m x):(zci h1 m p s).Mons=up h.Mons m (ziF x p s):=by rw[zri,e,zbe hm,z1E]
theorem zBa {x x1:Mon}{p:Int}{s:Slot}{c:List Int}(ho:x1.Outer=x.Outer)(hu:x1.Out=up x.Out p c)(hg:x1.Guests=x.Guests)(ht:x1.Tables=x.Tables)(hd:x1.Dirty.length=x.Dirty.length)(h1:x1.Outs=x.Outs)(h2:x1.Pending=x.Pending)(h3:x1.Traps=x.Traps)(h4:x1.Own=x.Own):Chg x (ziF x1 p s) p s c :=
 ⟨by show up x1.Outer p s=_;rw[ho],hu,hg,by show (zkl x1.Guests p x1.Tables.length x1.Tables).length=_;rw[zC1,ht],hd,h1,h2,h3,h4⟩
theorem ztw {h:Host}{m p:Int}{s:Slot}(h1:ze9 h.Buffer=true)(h2:ze9 h.IoBuffer=true):ze9 (zci h m p s).Buffer=true/\ze9 (zci h m p s).IoBuffer=true:=by have:=zOS h m p s;rw[this.1,this.2];cases ieq (ix (ix h.Mons m mZ).Outer p sZ).Page (-1);{exact⟨zFa h1 _,zFa h2 _⟩};{exact⟨h1,h2⟩}
theorem z9H {h:Host}(H:HOk h){s:Slot}(hs:SOk s)(hp:s.Page≠-1):hasB s.Page (ln h.Memory)=true:=by have:=hs.pos hp;exact zB.2 ⟨this.1,by unfold ln;rw[H.m12];omega⟩
theorem zWE {h:Host}(H:HOk h){m p:Int}(hm:hasB m (ln h.Mons)=true)(hp:hasB p 8=true)(hn:(ix (ix h.Mons m mZ).Outer p sZ).Page≠-1):Op h (zdc h m p):=by
 have X:=H.mon hm;have hM:(zdc h m p).Mons=up h.Mons m (ziF {ix h.Mons m mZ with Out:=up (ix h.Mons m mZ).Out p (zck h.Memory (ix (ix h.Mons m mZ).Outer p sZ).Page)} p noSlot):=zn8 hm rfl;have k:Chg (ix h.Mons m mZ) (ziF {ix h.Mons m mZ with Out:=up (ix h.Mons m mZ).Out p (zck h.Memory (ix (ix h.Mons m mZ).Outer p sZ).Page)} p noSlot) p noSlot (zck h.Memory (ix (ix h.Mons m mZ).Outer p sZ).Page):=zBa rfl rfl rfl rfl rfl rfl rfl rfl rfl;have hmem:(zdc h m p).Memory=h.Memory:=zwe _ _ _ _;have hb:=ztw (h:=zeb h m p) (m:=m) (p:=p) (s:=noSlot) H.b1 H.b2;refine⟨zvm H hm hp hM k (.inl rfl) ((zos (.inl rfl)).2 ⟨fun _=>zOA H.pgs _,fun h=>absurd rfl h⟩) (by rw[hmem];exact H.m12) (by rw[hmem];exact H.pgs) hb.1 hb.2 (fun h=>absurd h (by decide)),
  zuk H hm hp hM k ?_ (fun i q _ _ _ _=>by rw[hmem]),fun R=>?_⟩
 {rw [zmx hm hp (X.hasO hp),zbU.2 hn];rfl};{have R1:Rt (zeb h m p):=zKr (x:={ix h.Mons m mZ with Out:=up (ix h.Mons m mZ).Out p (zck h.Memory (ix (ix h.Mons m mZ).Outer p sZ).Page)}) R hm rfl rfl rfl rfl (fun _ _=>rfl) rfl rfl;have hm1:hasB m (ln (zeb h m p).Mons)=true:=(by show hasB m (ln (up h.Mons m _))=true;rw[zdp];exact hm);have e1:ix (zeb h m p).Mons m mZ={ix h.Mons m mZ with Out:=up (ix h.Mons m mZ).Out p (zck h.Memory (ix (ix h.Mons m mZ).Outer p sZ).Page)}:=zbe hm _ _;exact zyM R1 hm1 (by rw[e1];exact X.hasO hp) (by rw[e1];exact X.gt) noSlot}
theorem zFg {o:List Slot}{q:Int}:zmW o q=none↔o.countP (fun s=>ieq s.Page q)=0:=by unfold zmW;rw[List.findIdx?_eq_none_iff,u5];simp
theorem zUO {o:List Slot}{q:Int}{k:Nat}(h:zmW o q=some k):∃hk:k<o.length,o[k].Page=q:=by unfold zmW at h;rw[uX]at h;obtain⟨hk,h1,_⟩:=h;exact⟨hk,zbl.1 h1⟩
theorem zyD {q:Int}:∀(l:List Mon) (i:Nat),((zhc q l i).1<0↔zdH l q=0)/\(¬ (zhc q l i).1<0->∃a b:Nat,∃ha:a<l.length,∃hb:b<l[a].Outer.length,zhc q l i=(((i+a:Nat):Int),(b:Int))/\l[a].Outer[b].Page=q)
 |[],i=>⟨by simp[zhc,zdH],fun h=>absurd (show (-1:Int)<0 by decide) h⟩
 |x::l,i=>by have ih:=zyD (q:=q) l (i+1);unfold zhc;split;{rename_i k hk;obtain⟨h1,h2⟩:=zUO hk;refine⟨⟨fun h=>by simp at h;omega,fun h=>?_⟩,fun _=>⟨0,k,by simp,h1,by simp,h2⟩⟩;exfalso;simp only[zdH,jB,kQ]at h;have h3:x.Outer.countP (fun s=>ieq s.Page q)=0:=(by unfold cPg at h;omega);rw[zFg.2 h3]at hk;cases hk};{rename_i hk;have h3:=zFg.1 hk;refine⟨?_,fun h=>?_⟩;{rw [ih.1];simp only[zdH,jB,kQ];unfold cPg;omega};{obtain⟨a,b,ha,hb,e,hp⟩:=ih.2 h;exact⟨a+1,b,by simpa using ha,by simpa using hb,by rw[e];simp;omega,by simpa using hp⟩}}
theorem zyF {h:Host}{q:Int}(hq:0<=q):(zbx h q).1<0↔zdH h.Mons q=0:=by unfold zbx;rw[show ilt q 0=false from qS (by omega),cond_false];exact(zyD h.Mons 0).1
theorem z3j {h:Host}(H:HOk h){q:Int}(hq:0<=q)(hn:¬ (zbx h q).1<0):hasB (zbx h q).1 (ln h.Mons)=true/\hasB (zbx h q).2 8=true/\(ix (ix h.Mons (zbx h q).1 mZ).Outer (zbx h q).2 sZ).Page=q:=by unfold zbx at hn ⊢;rw[show ilt q 0=false from qS (by omega),cond_false]at hn ⊢;obtain⟨a,b,ha,hb,e,hp⟩:=(zyD h.Mons 0).2 hn;rw[e,jU];have h8:=(H.mons _ (jL ha)).o8;exact⟨zB.2 (by unfold ln;simp;omega),zB.2 (by simp;omega),by rw[zjR ha,zjR hb];exact hp⟩
theorem zRY {P:Nat->Bool}:∀{n i:Nat} {q:Int},q∈zqM P n i↔∃k:Nat,q=(k:Int)/\i<=k/\k<i+n/\P k=true
 | 0,i,q=>by simp[zqM];intro k _ _ _;omega
 |n+1,i,q=>by
  have ih:=@zRY P n (i+1) q;unfold zqM;constructor
  .intro h;cases hx:P i with
   |true=>rw[hx,cond_true,qF]at h;rcases h with h|h;{exact⟨i,h,by omega,by omega,hx⟩};{obtain⟨k,h1,h2,h3,h4⟩:=ih.1 h;exact⟨k,h1,by omega,by omega,h4⟩}
   |false=>rw[hx,cond_false]at h;obtain⟨k,h1,h2,h3,h4⟩:=ih.1 h;exact⟨k,h1,by omega,by omega,h4⟩
  {rintro⟨k,h1,h2,h3,h4⟩;by_cases e:k=i;{subst e;rw[h4,cond_true,h1];exact jC};{have:=ih.2 ⟨k,h1,by omega,by omega,h4⟩;cases P i;{exact this};{exact qW _ this}}}
theorem zGv {h:Host}{q:Int}:q∈zb3 h↔hasB q (ln h.Memory)=true/\zdH h.Mons q=0:=by unfold zb3;rw[zRY];constructor;{rintro⟨k,rfl,h1,h2,h3⟩;exact⟨zB.2 (by unfold ln;omega),(zyF (by omega)).1 (qE h3)⟩};{rintro⟨h1,h2⟩;have h1':=zB.1 h1;unfold ln at h1';refine⟨q.toNat,by omega,by omega,by omega,?_⟩;rw[show ((q.toNat:Nat):Int)=q by omega];exact qL ((zyF h1'.1).2 h2)}
theorem zXR {h:Host}(hn:zb3 h≠[]):hasB (ix (zb3 h) 0 0) (ln h.Memory)=true/\zdH h.Mons (ix (zb3 h) 0 0)=0:=by refine zGv.1 (zkA (zB.2 ⟨by omega,?_⟩) 0);unfold ln;have:=kR.2 hn;omega
structure But (h r:Host) (m p:Int):Prop where
 ne:∀i k,hasB i (ln h.Mons)=true->hasB k 8=true->¬ (i=m/\k=p)->ix (ix r.Mons i mZ).Outer k sZ=ix (ix h.Mons i mZ).Outer k sZ
theorem zGc {h r:Host}{m p:Int}(hm:hasB m (ln h.Mons)=true)(hp:hasB p 8=true){x:Mon}{s:Slot}(hM:r.Mons=up h.Mons m x)(ho:x.Outer=up (ix h.Mons m mZ).Outer p s):But h r m p:=by refine⟨fun i k hi hk hc=>?_⟩;rw[hM];by_cases e:m=i;{subst e;rw[zbe hm,ho,zbr (zB.1 hp).1 (zB.1 hk).1 (fun e=>hc ⟨rfl,e.symm⟩)]};{rw [zbr (zB.1 hm).1 (zB.1 hi).1 e]}
theorem z1f {h:Host}(H:HOk h){m p:Int}(hm:hasB m (ln h.Mons)=true)(hp:hasB p 8=true):But h (zdc h m p) m p/\ix (ix (zdc h m p).Mons m mZ).Outer p sZ=noSlot:=by have hM:(zdc h m p).Mons=up h.Mons m (ziF {ix h.Mons m mZ with Out:=up (ix h.Mons m mZ).Out p (zck h.Memory (ix (ix h.Mons m mZ).Outer p sZ).Page)} p noSlot):=zn8 hm rfl;refine⟨zGc hm hp hM rfl,?_⟩;rw[hM,zbe hm];exact zbe ((H.mon hm).hasO hp) _ _
structure Roomy (h r:Host):Prop where
 op:Op h r
 free:zb3 r≠[]
 sl:∀i k,hasB i (ln h.Mons)=true->hasB k 8=true->ix (ix r.Mons i mZ).Outer k sZ=ix (ix h.Mons i mZ).Outer k sZ\/ix (ix r.Mons i mZ).Outer k sZ=noSlot
 dirt:∀i,(ix r.Mons i mZ).Dirty=(ix h.Mons i mZ).Dirty
theorem zLn {h r:Host}{m:Int}(hm:hasB m (ln h.Mons)=true){x:Mon}(hM:r.Mons=up h.Mons m x)(hd:x.Dirty=(ix h.Mons m mZ).Dirty)(i:Int):(ix r.Mons i mZ).Dirty=(ix h.Mons i mZ).Dirty:=by
 rw[hM];by_cases e:i.toNat=m.toNat
 {have:∀l:List Mon,ix l i mZ=ix l m mZ:=fun l=>(by unfold ix;rw[e]);rw[this,this,zbe hm,hd]};{unfold ix up;simp[List.getD,q0,Ne.symm e]}
theorem roomy {h:Host}(H:HOk h):Roomy h (zcY h):=by unfold zcY;by_cases hf:zb3 h=[];{rw [show ieq (ln (zb3 h)) 0=true by rw[hf];rfl,cond_true];have hn:¬ (zbx h 0).1<0:=fun hc=>(by have:(0:Int)∈zb3 h:=zGv.2 ⟨zB.2 (by unfold ln;rw[H.m12];omega),(zyF (by omega)).1 hc⟩;rw[hf] at this;cases this);obtain⟨h1,h2,h3⟩:=z3j H (by omega) hn;have k:=zWE H h1 h2 (by rw[h3];decide);have hs:=z1f H h1 h2;refine⟨k,fun hc=>?_,fun i q hi hq=>?_,fun i=>zLn (x:=ziF {ix h.Mons (zbx h 0).1 mZ with Out:=up (ix h.Mons (zbx h 0).1 mZ).Out (zbx h 0).2 (zck h.Memory (ix (ix h.Mons (zbx h 0).1 mZ).Outer (zbx h 0).2 sZ).Page)} (zbx h 0).2 noSlot) h1 (zn8 h1 rfl) rfl i⟩;{have:(0:Int)∈zb3 (zdc h (zbx h 0).1 (zbx h 0).2):=(by refine zGv.2 ⟨zB.2 (by unfold ln;rw[k.ok.m12];omega),?_⟩;have hM:(zdc h (zbx h 0).1 (zbx h 0).2).Mons=up h.Mons (zbx h 0).1 (ziF {ix h.Mons (zbx h 0).1 mZ with Out:=up (ix h.Mons (zbx h 0).1 mZ).Out (zbx h 0).2 (zck h.Memory (ix (ix h.Mons (zbx h 0).1 mZ).Outer (zbx h 0).2 sZ).Page)} (zbx h 0).2 noSlot):=zn8 h1 rfl;have c1:=zxC h1 (ziF {ix h.Mons (zbx h 0).1 mZ with Out:=up (ix h.Mons (zbx h 0).1 mZ).Out (zbx h 0).2 (zck h.Memory (ix (ix h.Mons (zbx h 0).1 mZ).Outer (zbx h 0).2 sZ).Page)} (zbx h 0).2 noSlot) 0;rw[<- hM] at c1;have c2:=zQ7 (x':=ziF {ix h.Mons (zbx h 0).1 mZ with Out:=up (ix h.Mons (zbx h 0).1 mZ).Out (zbx h 0).2 (zck h.Memory (ix (ix h.Mons (zbx h 0).1 mZ).Outer (zbx h 0).2 sZ).Page)} (zbx h 0).2 noSlot) ((H.mon h1).hasO h2) (s:=noSlot) rfl 0;rw[if_pos h3,if_neg (by decide)] at c2;have c3:=H.uq 0 (by omega);omega);rw[hc] at this;cases this};{by_cases e:i=(zbx h 0).1/\q=(zbx h 0).2;{rw [e.1,e.2];exact .inr hs.2};{exact .inl (hs.1.ne i q hi hq e)}}};{have:ieq (ln (zb3 h)) 0=false:=zbU.2 (by unfold ln;have:=kR.2 hf;omega);rw[this,cond_false];exact⟨Op.refl H,hf,fun i k hi hk=>.inl rfl,fun _=>rfl⟩}
theorem zV5 {m:List (List Int)}{p:Int}{c:List Int}(hp:hasB p (ln m)=true)(hc:zct c=true):zgI m p c=up m p c:=by unfold zgI;rw[hp,hc];rfl
theorem zBU {m:List (List Int)}{p q:Int}{c:List Int}(hp:0<=p)(h:q≠p):zck (up m p c) q=zck m q:=by unfold zck;rw[zdp];cases hq:hasB q (ln m) with|false=>rfl|true=>rw[cond_true,cond_true,zbr hp (zB.1 hq).1 (Ne.symm h)]
theorem zBT {m:List (List Int)}{p:Int}{c:List Int}(hp:hasB p (ln m)=true):zck (up m p c) p=c:=by rw[zjZ (by rw[zdp];exact hp),zbe hp]
theorem zYo {h:Host}(H:HOk h){m p to:Int}(hm:hasB m (ln h.Mons)=true)(hp:hasB p 8=true)(hn:(ix (ix h.Mons m mZ).Outer p sZ).Page = -1)(ht:hasB to (ln h.Memory)=true)(hf:zdH h.Mons to=0) :
 Op h (zen h m p to)/\But h (zen h m p to) m p/\ix (ix (zen h m p to).Mons m mZ).Outer p sZ=⟨to,3⟩/\∀i,(ix (zen h m p to).Mons i mZ).Dirty=(ix h.Mons i mZ).Dirty:=by
 have X:=H.mon hm;have ht':=zB.1 ht;unfold ln at ht';rw[H.m12]at ht';have hM:(zen h m p to).Mons=up h.Mons m (ziF {ix h.Mons m mZ with Out:=up (ix h.Mons m mZ).Out p []} p ⟨to,3⟩):=zn8 hm rfl;have k:Chg (ix h.Mons m mZ) (ziF {ix h.Mons m mZ with Out:=up (ix h.Mons m mZ).Out p []} p ⟨to,3⟩) p ⟨to,3⟩ []:=zBa rfl rfl rfl rfl rfl rfl rfl rfl rfl;have hfit:=((zos (X.slot hp)).1 (X.fit p hp)).1 hn;have hmem:(zen h m p to).Memory=up h.Memory to (ix (ix h.Mons m mZ).Out p []):=by show (zci (landing h m p to) m p ⟨to,3⟩).Memory=_;rw[zwe];exact zV5 ht hfit
 have hs:SOk ⟨to,3⟩:=.inr ⟨ht'.1,by show to<=11;omega,by show (1:Int)<=3;omega,by show (3:Int)<=3;omega⟩
 have hb:=ztw (h:=landing h m p to) (m:=m) (p:=p) (s:=⟨to,3⟩) H.b1 H.b2;refine⟨⟨zvm H hm hp hM k hs ((zos hs).2 ⟨fun h=>absurd h (by show to≠-1;omega),fun _=>⟨show enough 3 1=true by decide,rfl⟩⟩) (by rw[hmem,zbL];exact H.m12) (fun c hc=>?_) hb.1 hb.2 (fun _=>.inr hf),
  zuk H hm hp hM k ?_ (fun i q hi hq hc hne=>?_),fun R=>?_⟩,zGc hm hp hM rfl,?_,fun i=>zLn (x:=ziF {ix h.Mons m mZ with Out:=up (ix h.Mons m mZ).Out p []} p ⟨to,3⟩) hm hM rfl i⟩
 .rw [hmem]at hc;rcases qZ hc with h1|h1
  .exact H.pgs c h1
  .rw [h1];exact hfit
 .rw [zmx hm hp (X.hasO hp),zbl.2 hn,cond_true,zjZ (X.hasU hp)];rw[show ieq (⟨to,3⟩:Slot).Page (-1)=false from zbU.2 (by show to≠-1;omega),cond_false,hmem]
  exact zBT ht
 .rw [hmem];refine zBU ht'.1 (fun e=>?_);have:=zGd hi ((H.mon hi).hasO hq);rw[e] at this;omega
 .have R1:Rt (landing h m p to):=zKr (x:={ix h.Mons m mZ with Out:=up (ix h.Mons m mZ).Out p []}) R hm rfl rfl rfl rfl (fun _ _=>rfl) rfl rfl;have hm1:hasB m (ln (landing h m p to).Mons)=true:=by show hasB m (ln (up h.Mons m _))=true;rw[zdp];exact hm
  have e1:ix (landing h m p to).Mons m mZ={ix h.Mons m mZ with Out:=up (ix h.Mons m mZ).Out p []}:=zbe hm _ _;exact zyM R1 hm1 (by rw[e1];exact X.hasO hp) (by rw[e1];exact X.gt) _
 .rw [hM,zbe hm];exact zbe (X.hasO hp) _ _
theorem zKe {h:Host}(H:HOk h){m p:Int}(hm:hasB m (ln h.Mons)=true)(hp:hasB p 8=true)(hn:(ix (ix h.Mons m mZ).Outer p sZ).Page = -1) :
 Op h (fetched h m p)/\(∃to,0<=to/\to<=11/\ix (ix (fetched h m p).Mons m mZ).Outer p sZ=⟨to,3⟩)/\∀i,(ix (fetched h m p).Mons i mZ).Dirty=(ix h.Mons i mZ).Dirty:=by
 have R:=roomy H;have hm1:hasB m (ln (zcY h).Mons)=true:=by rw[R.op.like.has];exact hm
 have hn1:(ix (ix (zcY h).Mons m mZ).Outer p sZ).Page = -1:=by rcases R.sl m p hm hp with h1|h1<;>rw [h1];{exact hn};{rfl}
 obtain⟨h1,h2⟩:=zXR R.free;obtain⟨k1,k2,k3,k4⟩:=zYo R.op.ok hm1 hp hn1 h1 h2;have h1':=zB.1 h1;unfold ln at h1';rw[R.op.ok.m12]at h1';exact⟨R.op.trans k1,⟨_,h1'.1,by omega,k3⟩,fun i=>(k4 i).trans (R.dirt i)⟩
theorem zmF {o:List Slot}{p:Int}(h:hasB p (ln o)=true):zbz o p=ix o p sZ:=by unfold zbz;rw[h];rfl
theorem zj0 {h:Host}(H:HOk h){m p:Int}(hm:hasB m (ln h.Mons)=true)(hp:hasB p 8=true) :
 (cond (ieq (ix (ix h.Mons m mZ).Outer p sZ).Page (-1)) (ix (ix h.Mons m mZ).Out p []) (zck h.Memory (ix (ix h.Mons m mZ).Outer p sZ).Page))=zcX h m p:=by
 rw[zmx hm hp ((H.mon hm).hasO hp),zjZ ((H.mon hm).hasU hp)]
structure Mark (x y:Mon):Prop where
 o:y.Outer=x.Outer
 u:y.Out=x.Out
 g:y.Guests=x.Guests
 t:y.Tables=x.Tables
 d:y.Dirty.length=x.Dirty.length
 a1:y.Outs=x.Outs
 a2:y.Pending=x.Pending
 a3:y.Traps=x.Traps
 a4:y.Own=x.Own
theorem zWD {h:Host}(H:HOk h){m:Int}(hm:hasB m (ln h.Mons)=true){y:Mon}(k:Mark (ix h.Mons m mZ) y):Op h {h with Mons:=up h.Mons m y}/\∀i q,ix (ix (up h.Mons m y) i mZ).Outer q sZ=ix (ix h.Mons i mZ).Outer q sZ:=by
 have X:=H.mon hm;have h0:hasB 0 8=true:=(by decide);have c:Chg (ix h.Mons m mZ) y 0 (ix (ix h.Mons m mZ).Outer 0 sZ) (ix (ix h.Mons m mZ).Out 0 []):=⟨by rw[zHP (X.hasO h0),k.o],by rw[zHP (X.hasU h0),k.u],k.g,by rw[k.t],k.d,k.a1,k.a2,k.a3,k.a4⟩
 refine⟨⟨zvm H hm h0 rfl c (X.slot h0) (X.fit 0 h0) H.m12 H.pgs H.b1 H.b2 (fun _=>.inl rfl),zuk H hm h0 rfl c (zj0 H hm h0) (fun _ _ _ _ _ _=>rfl),
  fun R=>zKr R hm rfl rfl rfl (by rw[k.g]) (fun g _=>by rw[k.g]) k.t k.o⟩,fun i q=>?_⟩
 by_cases e:i.toNat=m.toNat
 {have:∀l:List Mon,ix l i mZ=ix l m mZ:=fun l=>(by unfold ix;rw[e]);rw[this,this,zbe hm,k.o]};{have:ix (up h.Mons m y) i mZ=ix h.Mons i mZ:=(by unfold ix up;simp[List.getD,q0,Ne.symm e]);rw[this]}
theorem zKd {h:Host}(H:HOk h){m:Int}(hm:hasB m (ln h.Mons)=true)(p:Int):Op h (zbF h m p)/\∀i q,ix (ix (zbF h m p).Mons i mZ).Outer q sZ=ix (ix h.Mons i mZ).Outer q sZ :=
 zWD H hm ⟨rfl,rfl,rfl,rfl,zbL _ _ _,rfl,rfl,rfl,rfl⟩
theorem z0O {h:Host}(H:HOk h){m:Int}(hm:hasB m (ln h.Mons)=true)(p:Int):Op h (zo8 h m p)/\∀i q,ix (ix (zo8 h m p).Mons i mZ).Outer q sZ=ix (ix h.Mons i mZ).Outer q sZ :=
 zWD H hm ⟨rfl,rfl,rfl,rfl,zbL _ _ _,rfl,rfl,rfl,rfl⟩
theorem rights {r:Int}(h0:1<=r)(h3:r<=3):r=1\/r=2\/r=3:=by omega
theorem MOk.enough1 {x:Mon}(X:MOk x){p:Int}(hp:hasB p 8=true)(hn:(ix x.Outer p sZ).Page≠-1):(ix x.Outer p sZ).Rights=1\/(ix x.Outer p sZ).Rights=3:=by have h1:=(((zos (X.slot hp)).1 (X.fit p hp)).2 hn).1;have h2:=(X.slot hp).pos hn;rcases rights h2.2.2.1 h2.2.2.2 with e|e|e;{exact .inl e};{rw [e]at h1;exact absurd h1 (by decide)};{exact .inr e}
theorem zOx {h:Host}(H:HOk h){m p:Int}(hm:hasB m (ln h.Mons)=true)(hp:hasB p 8=true)(hn:(ix (ix h.Mons m mZ).Outer p sZ).Page≠-1){r:Int}(hr:r=1\/r=3) :
 Op h (zci h m p ⟨(ix (ix h.Mons m mZ).Outer p sZ).Page,r⟩)/\But h (zci h m p ⟨(ix (ix h.Mons m mZ).Outer p sZ).Page,r⟩) m p/\
  ix (ix (zci h m p ⟨(ix (ix h.Mons m mZ).Outer p sZ).Page,r⟩).Mons m mZ).Outer p sZ=⟨(ix (ix h.Mons m mZ).Outer p sZ).Page,r⟩/\∀i,(ix (zci h m p ⟨(ix (ix h.Mons m mZ).Outer p sZ).Page,r⟩).Mons i mZ).Dirty=(ix h.Mons i mZ).Dirty:=by
 have X:=H.mon hm;have hpos:=(X.slot hp).pos hn;have hM:=zri h m p ⟨(ix (ix h.Mons m mZ).Outer p sZ).Page,r⟩;have k:Chg (ix h.Mons m mZ) (ziF (ix h.Mons m mZ) p ⟨(ix (ix h.Mons m mZ).Outer p sZ).Page,r⟩) p ⟨(ix (ix h.Mons m mZ).Outer p sZ).Page,r⟩ (ix (ix h.Mons m mZ).Out p []):=
  zBa rfl (zHP (X.hasU hp) _).symm rfl rfl rfl rfl rfl rfl rfl
 have hs:SOk ⟨(ix (ix h.Mons m mZ).Outer p sZ).Page,r⟩:=.inr ⟨hpos.1,hpos.2.1,by show 1<=r;omega,by show r<=3;omega⟩
 have hfit:=((zos (X.slot hp)).1 (X.fit p hp)).2 hn;have hb:=ztw (h:=h) (m:=m) (p:=p) (s:=⟨(ix (ix h.Mons m mZ).Outer p sZ).Page,r⟩) H.b1 H.b2;have hmem:=zwe h m p ⟨(ix (ix h.Mons m mZ).Outer p sZ).Page,r⟩;refine⟨⟨zvm H hm hp hM k hs ((zos hs).2 ⟨fun h=>absurd h hn,fun _=>⟨?_,hfit.2⟩⟩) (by rw[hmem];exact H.m12) (by rw[hmem];exact H.pgs) hb.1 hb.2 (fun _=>.inl rfl),
  zuk H hm hp hM k (by rw[hmem];exact zj0 H hm hp) (fun i q _ _ _ _=>by rw[hmem]),fun R=>zyM R hm (X.hasO hp) X.gt _⟩,zGc hm hp hM rfl,?_,fun i=>zLn hm hM rfl i⟩
 .show enough r 1=true
  rcases hr with rfl|rfl<;>decide
 .rw [hM,zbe hm];exact zbe (X.hasO hp) _ _
structure Mended (h r:Host) (m p n:Int):Prop where
 op:Op h r
 inn:(ix (ix r.Mons m mZ).Outer p sZ).Page≠-1
 ri:ieq (wand .i64 n 2) 0=false->(ix (ix r.Mons m mZ).Outer p sZ).Rights=3
 dt:ieq (wand .i64 n 2) 0=false->ix (ix r.Mons m mZ).Dirty p false=true
 d0:ieq (wand .i64 n 2) 0=true->(ix r.Mons m mZ).Dirty=(ix h.Mons m mZ).Dirty
 dk:∀k,hasB k 8=true->k≠p->ix (ix r.Mons m mZ).Dirty k false=ix (ix h.Mons m mZ).Dirty k false
 dm:∀i,hasB i (ln h.Mons)=true->i≠m->(ix r.Mons i mZ).Dirty=(ix h.Mons i mZ).Dirty
theorem zS1 {h:Host}(H:HOk h){m p:Int}(n:Int)(hm:hasB m (ln h.Mons)=true)(hp:hasB p 8=true)(hn:(ix (ix h.Mons m mZ).Outer p sZ).Page≠-1):Mended h (ziq h m p n) m p n:=by
 unfold ziq;cases hw:ieq (wand .i64 n 2) 0 with
 |true=>exact⟨Op.refl H,hn,fun e=>(Bool.noConfusion (hw.symm.trans e)),fun e=>(Bool.noConfusion (hw.symm.trans e)),fun _=>rfl,fun _ _ _=>rfl,fun _ _ _=>rfl⟩
 |false=>rw[cond_false];obtain⟨k1,k2⟩:=zKd H hm p;have hm1:hasB m (ln (zbF h m p).Mons)=true:=(by rw[k1.like.has];exact hm);have hn1:(ix (ix (zbF h m p).Mons m mZ).Outer p sZ).Page≠-1:=(by rw[k2];exact hn);have hd:(ix (zbF h m p).Mons m mZ).Dirty=up (ix h.Mons m mZ).Dirty p true:=(by show (ix (up h.Mons m _) m mZ).Dirty=_;rw[zbe hm]);have hd2:∀i,hasB i (ln h.Mons)=true->i≠m->(ix (zbF h m p).Mons i mZ).Dirty=(ix h.Mons i mZ).Dirty:=fun i hi hc=>(by show (ix (up h.Mons m _) i mZ).Dirty=_;rw[zbr (zB.1 hm).1 (zB.1 hi).1 (Ne.symm hc)]);have he:=(k1.ok.mon hm1).enough1 hp hn1;have hD:∀r:Host,(∀i,(ix r.Mons i mZ).Dirty=(ix (zbF h m p).Mons i mZ).Dirty)->Op (zbF h m p) r->(ix (ix r.Mons m mZ).Outer p sZ).Page≠-1->(ix (ix r.Mons m mZ).Outer p sZ).Rights=3->Mended h r m p n:=(by intro r h1 h2 h3 h4;refine⟨k1.trans h2,h3,fun _=>h4,fun _=>?_,fun e=>(Bool.noConfusion (hw.symm.trans e)),fun k hk hc=>?_,fun i hi hc=>by rw[h1,hd2 i hi hc]⟩;{rw [h1,hd,zbe ((H.mon hm).hasD hp)]};{rw [h1,hd,zbr (zB.1 hp).1 (zB.1 hk).1 (Ne.symm hc)]});unfold opened;rcases he with e|e;{rw [e,show ieq (wand .i64 1 2) 0=true by decide,cond_true];obtain⟨o1,o2,o3,o4⟩:=zOx k1.ok hm1 hp hn1 (r:=3) (.inr rfl);exact hD _ o4 o1 (by rw[o3];exact hn1) (by rw[o3])};{rw [e,show ieq (wand .i64 3 2) 0=false by decide,cond_false];exact hD _ (fun _=>rfl) (Op.refl k1.ok) hn1 e}
theorem zOw {h:Host}(H:HOk h){m p:Int}(n:Int)(hm:hasB m (ln h.Mons)=true)(hp:hasB p 8=true):Mended h (mended h m p n) m p n:=by unfold mended;by_cases e:(ix (ix h.Mons m mZ).Outer p sZ).Page = -1;{rw [zbl.2 e,cond_true];obtain⟨k1,⟨to,t1,t2,t3⟩,k3⟩:=zKe H hm hp e;have K:=zS1 k1.ok n (by rw[k1.like.has];exact hm) hp (by rw[t3];show to≠-1;omega);exact⟨k1.trans K.op,K.inn,K.ri,K.dt,fun e=>by rw[K.d0 e,k3],fun k hk hc=>by rw[K.dk k hk hc,k3],fun i hi hc=>by rw[K.dm i (by rw[k1.like.has];exact hi) hc,k3]⟩};{rw [zbU.2 e,cond_false];exact zS1 H n hm hp e}
theorem zm6 {h:Host}{m p:Int}:zcr h m p=true↔HOk h/\hasB m (ln h.Mons)=true/\hasB p 8=true:=by unfold zcr;rw[zb6,zb6,zi6]
theorem zYp {h:Host}(H:HOk h)(m p:Int):Op h (zoE h m p):=by unfold zoE;cases hh:zcr h m p with|false=>exact Op.refl H|true=>obtain⟨_,hm,hp⟩:=zm6.1 hh;rw[cond_true];unfold zju;by_cases e:(ix (ix h.Mons m mZ).Outer p sZ).Page = -1;{rw [zbl.2 e];exact Op.refl H};{rw [zbU.2 e];exact zWE H hm hp e}
theorem z0N {h:Host}(H:HOk h)(m p:Int):Op h (zsS h m p):=by unfold zsS;cases hh:zcr h m p with|false=>exact Op.refl H|true=>obtain⟨_,hm,hp⟩:=zm6.1 hh;rw[cond_true];unfold zju;by_cases e:(ix (ix h.Mons m mZ).Outer p sZ).Page = -1;{rw [zbl.2 e];exact(zKe H hm hp e).1};{rw [zbU.2 e];exact Op.refl H}
theorem z0M {h:Host}(H:HOk h)(m p:Int):Op h (zsD h m p):=by unfold zsD;cases hh:zcr h m p with|false=>exact Op.refl H|true=>obtain⟨_,hm,hp⟩:=zm6.1 hh;rw[cond_true];obtain⟨k1,k2⟩:=z0O H hm p;(cases e:zc3 (ix (ix h.Mons m zh).Outer p zbc) noSlot with|true=>exact k1|false=>rw[cond_false];have hn:(ix (ix h.Mons m mZ).Outer p sZ).Page≠-1:=fun h1=>zqx.1 e (((H.mon hm).slot hp).none h1);have:=zOx k1.ok (m:=m) (p:=p) (by rw[k1.like.has];exact hm) hp (by rw[k2];exact hn) (r:=1) (.inl rfl);rw[k2 m p] at this;exact k1.trans this.1)
structure KeepP (x y:Mon):Prop where
 o:y.Outer=x.Outer
 u:y.Out=x.Out
theorem zKk {h r:Host}{m:Int}(hm:hasB m (ln h.Mons)=true){y:Mon}(hM:r.Mons=up h.Mons m y)(hmem:r.Memory=h.Memory)(k:KeepP (ix h.Mons m mZ) y)(i q:Int):zcX r i q=zcX h i q:=by unfold zcX;rw[hM,zdp,hmem];cases hi:hasB i (ln h.Mons) with|false=>rfl|true=>by_cases e:m=i;{subst e;rw[zbe hm,k.o,k.u]};{rw [zbr (zB.1 hm).1 (zB.1 hi).1 e]}
theorem zts {h r:Host}{m:Int}(hm:hasB m (ln h.Mons)=true){y:Mon}(hM:r.Mons=up h.Mons m y)(hmem:r.Memory=h.Memory)(k:KeepP (ix h.Mons m mZ) y)(i:Int) :
 zI r i=bif ieq i m then ⟨(zI h i).Memory,y.Guests,y.Outs,y.Pending⟩ else zI h i:=by
 have hp:zcA r i 8 0=zcA h i 8 0:=zpt 8 0 (fun j _ _=>zKk hm hM hmem k i j);unfold zI;rw[hp,hM,zdp]
 by_cases e:i=m
 .subst e;rw[hm,zbl.2 rfl,zbe hm];rfl
 .rw [zbU.2 e,cond_false];cases hi:hasB i (ln h.Mons) with
  |false=>rfl
  |true=>rw[zbr (zB.1 hm).1 (zB.1 hi).1 (Ne.symm e)]
theorem zjT {x y:Mon}(X:MOk x)(k:KeepP x y)(g:y.Guests.length=x.Guests.length)(t:y.Tables.length=x.Tables.length)(d:y.Dirty.length=x.Dirty.length)(o:y.Outs.length<=40)(p:zde y.Pending=true)(tr:win y.Traps 0 3=true)(ow:win y.Own 0 1000000000=true)(gs:∀g∈y.Guests,zd5 g=true):MOk y :=
 ⟨by rw[g];exact X.g1,by rw[g];exact X.g2,by rw[t,g];exact X.gt,by rw[k.o];exact X.o8,by rw[k.o];exact X.sl,by rw[k.u];exact X.u8,by rw[d];exact X.d8,o,p,tr,ow,gs,by rw[k.o,k.u];exact X.fit⟩
theorem zRP {h:Host}(H:HOk h){m:Int}(hm:hasB m (ln h.Mons)=true){y:Mon}(k:KeepP (ix h.Mons m mZ) y)(hy:MOk y):HOk {h with Mons:=up h.Mons m y} :=
 H.up hm hy rfl H.m12 H.pgs H.b1 H.b2 fun q _=>.inl (by unfold cPg;rw[k.o];exact qY _)
theorem zvi {h:Host}(S:Safe h){m:Int}(hm:hasB m (ln h.Mons)=true){y:Mon}(k:KeepP (ix h.Mons m mZ) y)(hy:MOk y)(hg:y.Guests.length=(ix h.Mons m mZ).Guests.length)(hv:∀g,hasB g (ln (ix h.Mons m mZ).Guests)=true->(ix y.Guests g gZ).Live=(ix (ix h.Mons m mZ).Guests g gZ).Live)(ht:y.Tables=(ix h.Mons m mZ).Tables):Safe {h with Mons:=up h.Mons m y} :=
 ⟨zRP S.ok hm k hy,zKr S.rt hm rfl rfl rfl hg hv ht k.o⟩
theorem zQf {h:Host}(S:Safe h)(m t:Int):Safe (ziE h m t)/\∀i,zI (ziE h m t) i=zI h i:=by
 unfold ziE;rw[zi6.2 S.ok,cond_true];cases hm:hasB m (ln h.Mons) with
 |false=>exact⟨S,fun _=>rfl⟩
 |true=>
  cases ht:win t 0 3 with
  |false=>exact⟨S,fun _=>rfl⟩
  |true=>have X:=S.ok.mon hm;have k:KeepP (ix h.Mons m mZ) {ix h.Mons m mZ with Traps:=t}:=⟨rfl,rfl⟩;refine⟨zvi S hm k (zjT X k rfl rfl rfl X.outs X.pend ht X.own X.gs) rfl (fun _ _=>rfl) rfl,fun i=>?_⟩;rw[cond_true,cond_true];refine(zts (h:=h) (r:={h with Mons:=up h.Mons m {ix h.Mons m mZ with Traps:=t}}) hm rfl rfl k i).trans ?_;by_cases e:i=m;{subst e;rw[zbl.2 rfl,cond_true];unfold zI;rw[hm];rfl};{rw [zbU.2 e];rfl}
theorem zFj:∀(n i:Nat) (k:Kept),(zhI n i k).Known.length=k.Known.length/\(zhI n i k).Slots.length=k.Slots.length
 | 0,i,k=>⟨rfl,rfl⟩
 |n+1,i,k=>by have h1:=zFj n (i+1) (zbR k (i:Int));have h2:=zjL k (i:Int);exact⟨h1.1.trans h2.1,h1.2.trans h2.2⟩
theorem zIT:∀(n i:Nat) (k:Kept),k.Known.length=k.Slots.length->∀j,hasB j (ln k.Known)=true->
 ((i:Int)<=j/\j<((i+n:Nat):Int)->ix (zhI n i k).Known j false=false/\ix (zhI n i k).Slots j sZ=noSlot)/\
 (¬ ((i:Int)<=j/\j<((i+n:Nat):Int))->ix (zhI n i k).Known j false=ix k.Known j false/\ix (zhI n i k).Slots j sZ=ix k.Slots j sZ)
 | 0,i,k,_,j,_=>⟨fun h=>by omega,fun _=>⟨rfl,rfl⟩⟩
 |n+1,i,k,hl,j,hj=>by have h2:=zjL k (i:Int);have h3:=zvH (q:=(i:Int)) hl hj;have ih:=zIT n (i+1) (zbR k (i:Int)) (by rw[h2.1,h2.2,hl]) j (by unfold ln at hj ⊢;rwa [h2.1]);rw[zhI];by_cases hc:((i+1:Nat):Int)<=j/\j<((i+1+n:Nat):Int);{exact⟨fun _=>ih.1 hc,fun h=>absurd (by omega) h⟩};{rw [(ih.2 hc).1,(ih.2 hc).2,h3.1,h3.2];by_cases e:(i:Int)=j;{rw [zbl.2 e];exact⟨fun _=>⟨rfl,rfl⟩,fun h=>absurd (by omega) h⟩};{rw [zbU.2 e];exact⟨fun h=>absurd (by omega) hc,fun _=>⟨rfl,rfl⟩⟩}}
theorem zPn {k:Kept}{inner outer:List Slot}(h:KOk k inner outer):KOk (zif k) inner outer:=by have hl:=zFj k.Known.length 0 k;refine⟨hl.1.trans h.l1,hl.2.trans h.l2,fun i hi=>?_⟩;have hi':hasB i (ln k.Known)=true:=(by unfold ln at hi ⊢;rwa [h.l1]);have hi2:=zB.1 hi';unfold ln at hi2;have:=(zIT k.Known.length 0 k (by rw[h.l1,h.l2]) i hi').1 ⟨by omega,by omega⟩;unfold zif;rw[this.1,this.2];rfl
theorem zIH:∀(n j:Nat) (l:List Kept),(ztP n j l).length=l.length
 | 0,_,_=>rfl
 |n+1,j,l=>by rw[ztP,zIH n,zbL]
theorem zRb:∀(n j:Nat) (l:List Kept),j+n<=l.length->∀g,0<=g->ix (ztP n j l) g kZ=if (j:Int)<=g/\g<((j+n:Nat):Int) then zif (ix l g kZ) else ix l g kZ
 | 0,j,l,_,g,hg=>by rw[if_neg (by omega)];rfl
 |n+1,j,l,hl,g,hg=>by rw[ztP,zRb n (j+1) _ (by rw[zbL];omega) g hg];by_cases e:(j:Int)=g;{subst e;rw[if_neg (by omega),if_pos (by omega),zbe (zB.2 ⟨by omega,by unfold ln;omega⟩)]};{rw [zbr (by omega) hg e];by_cases h:((j+1:Nat):Int)<=g/\g<((j+1+n:Nat):Int);{rw [if_pos h,if_pos (by omega)]};{rw [if_neg h,if_neg (by omega)]}}
theorem zIG:∀(n i:Nat) (l:List Mon),(zmQ n i l).length=l.length
 | 0,_,_=>rfl
 |n+1,i,l=>by rw[zmQ,zIG n,zbL]
theorem zN2:∀(n i:Nat) (l:List Mon),i+n<=l.length->∀m,0<=m->ix (zmQ n i l) m mZ=if (i:Int)<=m/\m<((i+n:Nat):Int) then ztQ (ix l m mZ) (ix l m mZ).Tables.length 0 else ix l m mZ
 | 0,i,l,_,m,hm=>by rw[if_neg (by omega)];rfl
 |n+1,i,l,hl,m,hm=>by rw[zmQ,zN2 n (i+1) _ (by rw[zbL];omega) m hm];by_cases e:(i:Int)=m;{subst e;rw[if_neg (by omega),if_pos (by omega),zbe (zB.2 ⟨by omega,by unfold ln;omega⟩)]};{rw [zbr (by omega) hm e];by_cases h:((i+1:Nat):Int)<=m/\m<((i+1+n:Nat):Int);{rw [if_pos h,if_pos (by omega)]};{rw [if_neg h,if_neg (by omega)]}}
theorem z1X (h:Host){m:Int}(hm:hasB m (ln h.Mons)=true):ix (cold h).Mons m mZ=ztQ (ix h.Mons m mZ) (ix h.Mons m mZ).Tables.length 0:=by have:=zB.1 hm;unfold ln at this;show ix (zmQ h.Mons.length 0 h.Mons) m mZ=_;rw[zN2 _ _ _ (by omega) m this.1,if_pos (by omega)]
theorem zwz (h:Host):(cold h).Mons.length=h.Mons.length:=zIG _ _ _
theorem zGf (h:Host)(m:Int):hasB m (ln (cold h).Mons)=hasB m (ln h.Mons):=by unfold ln;rw[zwz]
theorem z6g {l l':List Mon}(hl:l'.length=l.length)(h:∀m,hasB m (ln l)=true->(ix l' m mZ).Outer=(ix l m mZ).Outer)(q:Int):zdH l' q=zdH l q:=by have:l'.map (fun x=>cPg x q)=l.map (fun x=>cPg x q):=(by refine vK (by simp[hl]) fun k h1 h2=>?_;simp only[uL]at h1 h2;have:=h (k:Int) (zB.2 ⟨by omega,by unfold ln;omega⟩);rw[zjR h1,zjR h2] at this;simp[cPg,this]);unfold zdH;rw[this]
theorem z7r {h:Host}(H:HOk h):Op h (cold h):=by have hx:∀m,hasB m (ln h.Mons)=true->ix (cold h).Mons m mZ=ztQ (ix h.Mons m mZ) (ix h.Mons m mZ).Tables.length 0:=fun m hm=>z1X h hm;have hpg:∀i q,zcX (cold h) i q=zcX h i q:=(by intro i q;unfold zcX;rw[zGf];cases hi:hasB i (ln h.Mons) with|false=>rfl|true=>rw[hx i hi];rfl);refine⟨⟨H.m12,H.pgs,by rw[zwz];exact H.n1,by rw[zwz];exact H.n3,rfl,rfl,fun y hy=>?_,fun q hq=>?_⟩,⟨zwz h,fun i hi=>by rw[hx i hi];rfl,fun i hi=>by rw[hx i hi];rfl,fun i hi=>by rw[hx i hi];rfl,fun i hi=>by rw[hx i hi];rfl,fun i hi=>by rw[hx i hi];rfl,fun i k _ _=>hpg i k⟩,fun R=>⟨fun m hm=>?_,fun e he=>(by cases he),fun e he=>(by cases he)⟩⟩;{obtain⟨m,hm,rfl⟩:=zSU hy mZ;rw[zGf]at hm;rw[hx m hm];have X:=H.mon hm;have k:KeepP (ix h.Mons m mZ) (ztQ (ix h.Mons m mZ) (ix h.Mons m mZ).Tables.length 0):=⟨rfl,rfl⟩;exact zjT X k rfl (zIH _ _ _) rfl X.outs X.pend X.tr X.own X.gs};{rw [z6g (l:=h.Mons) (zwz h) (fun m hm=>by rw[hx m hm];rfl)];exact H.uq q hq};{rw [zGf]at hm;rw[hx m hm];have X:=H.mon hm;intro g hg;show KOk (ix (ztP (ix h.Mons m mZ).Tables.length 0 (ix h.Mons m mZ).Tables) g kZ) (ix (ix h.Mons m mZ).Guests g gZ).Live (ix h.Mons m mZ).Outer;have hg':hasB g (ln (ix h.Mons m mZ).Guests)=true:=hg;have hg2:=zB.1 hg';unfold ln at hg2;have hgt:=X.gt;rw[zRb _ _ _ (by omega) g hg2.1,if_pos (by omega)];exact zPn (R.t m hm g hg')}
theorem zTZ {m g:Int}(hm:win m 0 2=true)(hg:win g 0 1=true):zdf (zeg m g)=m/\zdM (zeg m g)=g/\1<=zeg m g/\zeg m g<=6:=by have h1:=zcE.1 hm;have h2:=zcE.1 hg;have e1:m=0\/m=1\/m=2:=(by omega);have e2:g=0\/g=1:=(by omega);rcases e1 with rfl|rfl|rfl<;>rcases e2 with rfl|rfl<;>decide
theorem HOk.tag {h:Host}(H:HOk h){m g:Int}(hm:hasB m (ln h.Mons)=true)(hg:hasB g (ln (ix h.Mons m mZ).Guests)=true):win m 0 2=true/\win g 0 1=true:=by have h1:=zB.1 hm;have h2:=zB.1 hg;have h3:=H.n3;have h4:=(H.mon hm).g2;unfold ln at h1 h2;exact⟨zcE.2 (by omega),zcE.2 (by omega)⟩
theorem zfG {r:Int}:zcT r=true↔r=0\/r=1\/r=2\/r=3:=by unfold zcT ige ile;rw[qD,q9,q9];omega
theorem zqb {a b:Int}(h:enough a b=true):zcT a=true/\zcT b=true:=by unfold enough at h;rw[zb6,zb6]at h;exact⟨h.1,h.2.1⟩
theorem zRz {a b c:Int}(h1:enough a b=true)(h2:enough b c=true):enough a c=true:=by have ha:=zfG.1 (zqb h1).1;have hb:=zfG.1 (zqb h1).2;have hc:=zfG.1 (zqb h2).2;rcases ha with rfl|rfl|rfl|rfl<;>rcases hb with rfl|rfl|rfl|rfl<;>rcases hc with rfl|rfl|rfl|rfl<;>revert h1 h2<;>decide
theorem zUD {a b n:Int}(hn:n=1\/n=2)(h1:enough a n=true)(h2:enough b n=true):zdE a b≠0/\enough (zdE a b) n=true:=by have ha:=zfG.1 (zqb h1).1;have hb:=zfG.1 (zqb h2).1;rcases hn with rfl|rfl<;>rcases ha with rfl|rfl|rfl|rfl<;>rcases hb with rfl|rfl|rfl|rfl<;>revert h1 h2<;>decide
theorem both_ok (a b:Int):zcT (zdE a b)=true:=by
 unfold zdE;cases ha:zcT a with
 |false=>rfl
 |true=>
  cases hb:zcT b with
  |false=>rfl
  |true=>have ha:=zfG.1 ha;have hb:=zfG.1 hb;rcases ha with rfl|rfl|rfl|rfl<;>rcases hb with rfl|rfl|rfl|rfl<;>decide
theorem zUM {a:Int}(h:zcT a=true):enough a a=true:=by rcases zfG.1 h with rfl|rfl|rfl|rfl<;>decide
theorem zpi {n:Int}(hn:n=1\/n=2):enough 0 n=false:=by rcases hn with rfl|rfl<;>decide
theorem zXn {s:Slot}{o:List Slot}(h1:s.Page≠-1)(h2:(zbz o s.Page).Page≠-1):zbu s o=bif ieq (zdE s.Rights (zbz o s.Page).Rights) 0 then noSlot else ⟨(zbz o s.Page).Page,zdE s.Rights (zbz o s.Page).Rights⟩:=by unfold zbu;rw[zbU.2 h1,zbU.2 h2];rfl
theorem zoo {s:Slot}{o:List Slot}{n:Int}(hn:n=1\/n=2)(h:enough (zbu s o).Rights n=true):s.Page≠-1/\(zbz o s.Page).Page≠-1/\(zbu s o).Page=(zbz o s.Page).Page:=by unfold zbu at h ⊢;by_cases e1:s.Page = -1;{rw [zbl.2 e1,cond_true]at h;rw[show noSlot.Rights=0 from rfl,zpi hn]at h;cases h};{rw [zbU.2 e1,cond_false]at h ⊢;by_cases e2:(zbz o s.Page).Page = -1;{rw [zbl.2 e2,cond_true]at h;rw[show noSlot.Rights=0 from rfl,zpi hn]at h;cases h};{rw [zbU.2 e2,cond_false]at h ⊢;by_cases e3:zdE s.Rights (zbz o s.Page).Rights=0;{rw [zbl.2 e3,cond_true]at h;rw[show noSlot.Rights=0 from rfl,zpi hn]at h;cases h};{rw [zbU.2 e3];exact⟨e1,e2,rfl⟩}}}
theorem zRc {s:Slot}{o:List Slot}{n:Int}(hn:n=1\/n=2)(h1:s.Page≠-1)(h2:(zbz o s.Page).Page≠-1)(h3:enough s.Rights n=true)(h4:enough (zbz o s.Page).Rights n=true) :
 (zbu s o).Page=(zbz o s.Page).Page/\enough (zbu s o).Rights n=true:=by
 have:=zUD hn h3 h4;rw[zXn h1 h2,zbU.2 this.1];exact⟨rfl,this.2⟩
theorem zXo (s:Slot)(o:List Slot):zcT (zbu s o).Rights=true:=by unfold zbu;cases ieq s.Page (-1)<;>cases ieq (zbz o s.Page).Page (-1)<;>cases ieq (zdE s.Rights (zbz o s.Page).Rights) 0<;>first|rfl|exact both_ok _ _
theorem zyb {b:List Entry}{t p:Int}{e:Entry}:e∈zcz b t p↔e∈b/\¬ (e.Tag=t/\e.Page=p):=by unfold zcz;rw[List.mem_filter];refine and_congr Iff.rfl ?_;unfold zBS;by_cases h:e.Tag=t;{rw [show ine e.Tag t=false by simp[ine,h],cond_false,zoz];simp[h]};{rw [zoz.2 h];simp[h]}
theorem z3q {b:List Entry}{e x:Entry}(h:x∈zoG b e):x∈b\/x=e:=by unfold zoG ap at h;have:x∈zcz b e.Tag e.Page++[e]:=(by cases hc:igt (ln (zcz b e.Tag e.Page++[e])) 6 with|true=>rw[hc,cond_true]at h;exact kM h|false=>rw[hc,cond_false]at h;exact h);rcases jI.1 this with h|h;{exact .inl (zyb.1 h).1};{exact .inr (qG.1 h)}
theorem z9y {n:Nat}(h:n<=100):wsub .i64 (n:Int) 6=(n:Int)-6:=by unfold wsub IntKind.wrap;simp[IntKind.signed,IntKind.bits];omega
theorem zWd {b:List Entry}(h:ze9 b=true)(e:Entry):ze9 (zoG b e)=true:=by have h1:=zDc.1 h;have hl:(zcz b e.Tag e.Page).length<=6:=qT (uD _ _) h1.2;have hp:(zcz b e.Tag e.Page++[e]).Pairwise (fun y x=>sameKey x y=false):=(by rw[List.pairwise_append];refine⟨h1.1.sublist List.filter_sublist,List.pairwise_singleton _ _,fun x hx y hy=>?_⟩;rw[qG.1 hy];have:=(zyb.1 hx).2;unfold sameKey;by_cases e1:e.Tag=x.Tag;{rw [zbl.2 e1,cond_true,zbU];exact fun e2=>this ⟨e1.symm,e2.symm⟩};{rw [zbU.2 e1];rfl});unfold zoG ap;cases hc:igt (ln (zcz b e.Tag e.Page++[e])) 6 with|true=>rw[cond_true,zDc];refine⟨hp.sublist (List.drop_sublist _ _),?_⟩;unfold dp ln;rw[kB,uB,z9y (by omega),vH,kB,uB];omega|false=>rw[cond_false,zDc];refine⟨hp,?_⟩;have:=jS hc;unfold ln at this;omega
theorem z0w {h r:Host}{m:Int}(hm:hasB m (ln h.Mons)=true){y:Mon}(hM:r.Mons=up h.Mons m y)(hmem:r.Memory=h.Memory)(k:KeepP (ix h.Mons m mZ) y)(g:y.Guests=(ix h.Mons m mZ).Guests)(o:y.Outs=(ix h.Mons m mZ).Outs)(p:y.Pending=(ix h.Mons m mZ).Pending)(t:y.Traps=(ix h.Mons m mZ).Traps)(w:y.Own=(ix h.Mons m mZ).Own):Like h r:=by have e:∀{α:Type} (F:Mon->α),F y=F (ix h.Mons m mZ)->∀i,hasB i (ln h.Mons)=true->F (ix r.Mons i mZ)=F (ix h.Mons i mZ):=(by intro α F hF i hi;rw[hM];by_cases e:m=i;{subst e;rw[zbe hm];exact hF};{rw [zbr (zB.1 hm).1 (zB.1 hi).1 e]});exact⟨by rw[hM,zbL],e Mon.Guests g,e Mon.Outs o,e Mon.Pending p,e Mon.Traps t,e Mon.Own w,fun i q _ _=>zKk hm hM hmem k i q⟩
theorem z3u {h:Host}(R:Rt h){m g:Int}(hm:hasB m (ln h.Mons)=true)(ht:hasB g (ln (ix h.Mons m mZ).Tables)=true){k:Kept}(hk:KOk k (ix (ix h.Mons m mZ).Guests g gZ).Live (ix h.Mons m mZ).Outer) :
 Rt {h with Mons:=up h.Mons m {ix h.Mons m mZ with Tables:=up (ix h.Mons m mZ).Tables g k}}:=by
 have key:∀e,zcS h e=true->zcS {h with Mons:=up h.Mons m {ix h.Mons m mZ with Tables:=up (ix h.Mons m mZ).Tables g k}} e=true:=by intro e he;obtain⟨h1,h2,h3⟩:=ze3.1 he;rw[ze3];show hasB (zdf e.Tag) (ln (up h.Mons m _))=true/\hasB (zdM e.Tag) (ln (ix (up h.Mons m _) (zdf e.Tag) mZ).Guests)=true/\below' _ (zbu (zbz (ix (ix (up h.Mons m _) (zdf e.Tag) mZ).Guests (zdM e.Tag) gZ).Live e.Page) (ix (up h.Mons m _) (zdf e.Tag) mZ).Outer)=true;rw[zdp];refine⟨h1,?_⟩;by_cases hc:m=zdf e.Tag;{rw [<- hc]at h1 h2 h3 ⊢;rw[zbe hm];exact⟨h2,h3⟩};{rw [zbr (zB.1 hm).1 (zB.1 h1).1 hc];exact⟨h2,h3⟩}
 refine⟨fun i hi=>?_,fun e he=>key e (R.e1 e he),fun e he=>key e (R.e2 e he)⟩
 show TOk (ix (up h.Mons m _) i mZ)
 have hi':hasB i (ln h.Mons)=true:=by have:hasB i (ln (up h.Mons m {ix h.Mons m mZ with Tables:=up (ix h.Mons m mZ).Tables g k}))=true:=hi;rwa [zdp] at this
 by_cases hc:m=i
 .subst hc;rw[zbe hm];intro j hj
  by_cases e:g=j
  .subst e
   show KOk (ix (up _ g k) g kZ) _ _
   rw[zbe ht];exact hk
  .show KOk (ix (up _ g k) j kZ) _ _
   rw[zbr (zB.1 ht).1 (zB.1 hj).1 e];exact R.t m hm j hj
 .rw [zbr (zB.1 hm).1 (zB.1 hi').1 hc];exact R.t i hi'
theorem z3g {h:Host}(H:HOk h){m g:Int}(hm:hasB m (ln h.Mons)=true)(ht:hasB g (ln (ix h.Mons m mZ).Tables)=true){k:Kept}(hk:Rt h->KOk k (ix (ix h.Mons m mZ).Guests g gZ).Live (ix h.Mons m mZ).Outer) :
 Op h {h with Mons:=up h.Mons m {ix h.Mons m mZ with Tables:=up (ix h.Mons m mZ).Tables g k}}:=by
 have X:=H.mon hm;have kp:KeepP (ix h.Mons m mZ) {ix h.Mons m mZ with Tables:=up (ix h.Mons m mZ).Tables g k}:=⟨rfl,rfl⟩;exact⟨zRP H hm kp (zjT X kp rfl (zbL _ _ _) rfl X.outs X.pend X.tr X.own X.gs),z0w (y:={ix h.Mons m mZ with Tables:=up (ix h.Mons m mZ).Tables g k}) hm rfl rfl kp rfl rfl rfl rfl rfl,fun R=>z3u R hm ht (hk R)⟩
theorem zJJ {k:Kept}{inner outer:List Slot}(h:KOk k inner outer)(p:Int):KOk (filled k inner outer p) inner outer:=by unfold filled zdl;cases h1:hasB p (ln k.Known) with|false=>exact h|true=>have hs:hasB p (ln k.Slots)=true:=(by unfold ln at h1 ⊢;rw[h.l2,<- h.l1];exact h1);have hi:hasB p (ln inner)=true:=(by unfold ln at h1 ⊢;rw[<- h.l1];exact h1);rw[cond_true,hs,cond_true,hi,cond_true];refine⟨by rw[zbL];exact h.l1,by rw[zbL];exact h.l2,fun i hi'=>?_⟩;by_cases e:p=i;{subst e;show ix (up _ p _) p sZ=bif ix (up _ p true) p false then _ else _;rw[zbe hs,zbe h1];rfl};{show ix (up _ p _) i sZ=bif ix (up _ p true) i false then _ else _;rw[zbr (zB.1 hs).1 (zB.1 hi').1 e,zbr (zB.1 hs).1 (zB.1 hi').1 e];exact h.at' i hi'}
theorem z7s {h:Host}(H:HOk h){m g:Int}(hm:hasB m (ln h.Mons)=true)(hg:hasB g (ln (ix h.Mons m mZ).Guests)=true)(page:Int):Op h (zdv h m g page):=
 z3g H hm (by unfold ln;rw[(H.mon hm).gt];exact hg) fun R=>zJJ (R.t m hm g hg) page
theorem zZn {k:Kept}{inner outer:List Slot}(h:KOk k inner outer){p:Int}(hp:hasB p (ln inner)=true):zeF k p=bif ix k.Known p false then zbu (ix inner p sZ) outer else noSlot:=by have h1:hasB p (ln k.Known)=true:=(by unfold ln at hp ⊢;rw[h.l1];exact hp);have h2:hasB p (ln k.Slots)=true:=(by unfold ln at hp ⊢;rw[h.l2];exact hp);unfold zeF zjS zdl;rw[h1,h2,cond_true,cond_true,h.at' p hp];cases ix k.Known p false<;>rfl
theorem zXh {k:Kept}{inner outer:List Slot}(h:KOk k inner outer){p:Int}(hp:hasB p (ln inner)=true):zeF (filled k inner outer p) p=zbu (ix inner p sZ) outer:=by rw[zZn (zJJ h p) hp];have h1:hasB p (ln k.Known)=true:=(by unfold ln at hp ⊢;rw[h.l1];exact hp);have h2:hasB p (ln k.Slots)=true:=(by unfold ln at hp ⊢;rw[h.l2];exact hp);have:ix (filled k inner outer p).Known p false=true:=(by unfold filled zdl;rw[h1,h2,hp];exact zbe h1 _ _);rw[this];rfl
theorem z8I {h:Host}(H:HOk h){m g page:Int}(io:Bool)(he:Rt h->zcS h (zQz h m g page)=true):Op h (zuv h m g page io):=by have hl:∀(b1 b2:List Entry),Like h ⟨h.Memory,h.Mons,b1,b2⟩:=fun _ _=>⟨rfl,fun _ _=>rfl,fun _ _=>rfl,fun _ _=>rfl,fun _ _=>rfl,fun _ _=>rfl,fun _ _ _ _=>rfl⟩;have key:∀(b:List Entry),(∀e∈b,zcS h e=true)->Rt h->∀e∈zoG b (zQz h m g page),zcS h e=true:=(by intro b hb R e hx;rcases z3q hx with hx|hx;{exact hb e hx};{rw [hx];exact he R});unfold zuv;cases io;{exact⟨⟨H.m12,H.pgs,H.n1,H.n3,zWd H.b1 _,H.b2,H.mons,H.uq⟩,hl _ _,fun R=>⟨R.t,fun e hx=>key _ R.e1 R e hx,R.e2⟩⟩};{exact⟨⟨H.m12,H.pgs,H.n1,H.n3,H.b1,zWd H.b2 _,H.mons,H.uq⟩,hl _ _,fun R=>⟨R.t,R.e1,fun e hx=>key _ R.e2 R e hx⟩⟩}
theorem z2G {b:List Entry}{t p:Int}{e:Entry}(h:zDk b t p=some e):e∈b/\e.Tag=t/\e.Page=p:=by unfold zDk at h;have h1:=List.find?_some h;rw[zb6,zbl,zbl]at h1;exact⟨uM h,h1⟩
theorem ziM {h:Host}{m g:Int}:zbW h m g=true↔HOk h/\hasB m (ln h.Mons)=true/\hasB g (ln (ix h.Mons m mZ).Guests)=true:=by unfold zbW;rw[zb6,zb6,zi6]
structure GOk (x:Guest):Prop where
 prog:zdq x.Prog=true
 a:win x.A 0 99=true
 pc:win x.Pc 0 12=true
 w:zdd x.Written 4 8=true
 l:zdd x.Live 4 8=true
 ctl:zid x.Ctl=true
 pend:zde x.Pending=true
 ex:ziL x.Exit=true
 seen:ile (ln x.Seen) 40=true
theorem zr7 {x:Guest}:zd5 x=true↔GOk x:=by unfold zd5;simp only[qD];exact⟨fun⟨a,b,c,d,e,f,g,h,i⟩=>⟨a,b,c,d,e,f,g,h,i⟩,fun⟨a,b,c,d,e,f,g,h,i⟩=>⟨a,b,c,d,e,f,g,h,i⟩⟩
theorem z1m {s:Slot}:zdX s 8=true↔s=noSlot\/(0<=s.Page/\s.Page<=7/\1<=s.Rights/\s.Rights<=3):=by unfold zdX;rw[zsq,zn7,zqx];have:wsub .i64 8 1=7:=(by decide);simp only[this,zsq,zcE];simp[igt];constructor;{rintro (h|⟨h,⟨h1,h2⟩,h3⟩);{exact .inl h};{exact .inr ⟨h1,h2,h3⟩}};{intro h;by_cases hs:s=noSlot;{exact .inl hs};{rcases h with h|⟨h1,h2,h3⟩;{exact .inl h};{exact .inr ⟨hs,⟨h1,h2⟩,h3⟩}}}
theorem HOk.guest {h:Host}(H:HOk h){m g:Int}(hm:hasB m (ln h.Mons)=true)(hg:hasB g (ln (ix h.Mons m mZ).Guests)=true):GOk (ix (ix h.Mons m mZ).Guests g gZ):=zr7.1 ((H.mon hm).gs _ (zkA hg _))
structure Walked (l:List Slot) (p n q:Int):Prop where
 hp:hasB p (ln l)=true
 pg:(ix l p sZ).Page=q
 q8:hasB q 8=true
 en:enough (ix l p sZ).Rights n=true
theorem walked {x:Guest}(X:GOk x){p n:Int}(hw:ze0 x.Live p n=true):Walked x.Live p n (zcx x.Live p n):=by have e:zcx x.Live p n=(zbz x.Live p).Page:=(by unfold zcx;rw[hw];rfl);unfold ze0 at hw;by_cases h1:(zbz x.Live p).Page = -1;{rw [zbl.2 h1]at hw;cases hw};{rw [zbU.2 h1,cond_false,zb6]at hw;have hp:hasB p (ln x.Live)=true:=(by cases hp:hasB p (ln x.Live) with|true=>rfl|false=>exact absurd (by unfold zbz;rw[hp];rfl) h1);rw[zmF hp] at e h1 hw;rw[e];have hs:=z1m.1 ((zp6.1 X.l).1 _ (zkA hp sZ));refine⟨hp,rfl,?_,hw.1⟩;rcases hs with hs|hs;{rw [hs]at h1;exact absurd rfl h1};{exact zB.2 (by omega)}}
structure Looked (h r:Host) (m g page need q host:Int):Prop where
 op:Op h r
 inn:(ix (ix r.Mons m mZ).Outer q sZ).Page=host
 ne:host≠-1
 en:enough (zbu (ix (ix (ix h.Mons m mZ).Guests g gZ).Live page sZ) (ix r.Mons m mZ).Outer).Rights need=true
 cp:(zbu (ix (ix (ix h.Mons m mZ).Guests g gZ).Live page sZ) (ix r.Mons m mZ).Outer).Page=host
 dk:∀k,hasB k 8=true->k≠q->ix (ix r.Mons m mZ).Dirty k false=ix (ix h.Mons m mZ).Dirty k false
 dq:need=2->ix (ix r.Mons m mZ).Dirty q false=true
 d1:need=1->(ix r.Mons m mZ).Dirty=(ix h.Mons m mZ).Dirty
 dm:∀i,hasB i (ln h.Mons)=true->i≠m->(ix r.Mons i mZ).Dirty=(ix h.Mons i mZ).Dirty
theorem zOn {h:Host}(S:Safe h){m g page need q:Int}(hm:hasB m (ln h.Mons)=true)(hg:hasB g (ln (ix h.Mons m mZ).Guests)=true)(hn:need=1\/need=2)(W:Walked (ix (ix h.Mons m mZ).Guests g gZ).Live page need q)(io:Bool)(ha:zeF (zcs h m g) page=zbu (ix (ix (ix h.Mons m mZ).Guests g gZ).Live page sZ) (ix h.Mons m mZ).Outer)(he:enough (zeF (zcs h m g) page).Rights need=true) :
 Op h (zha h m g page io).1/\(zha h m g page io).2=((ix (ix h.Mons m mZ).Outer q sZ).Page,true)/\(ix (ix h.Mons m mZ).Outer q sZ).Page≠-1/\(zha h m g page io).1.Mons=h.Mons:=by
 rw[ha]at he;have hc:=zoo hn he;rw[W.pg,zmF ((S.ok.mon hm).hasO W.q8)]at hc;refine⟨z8I S.ok io fun R=>?_,?_,hc.2.1,?_⟩
 .obtain⟨t1,t2⟩:=S.ok.tag hm hg;obtain⟨b1,b2,_⟩:=zTZ t1 t2;rw[ze3]
  show hasB (zdf (zeg m g)) _=true/\hasB (zdM (zeg m g)) (ln (ix h.Mons (zdf (zeg m g)) mZ).Guests)=true/\below' ⟨(zeF (zcs h m g) page).Page,(zeF (zcs h m g) page).Rights⟩ (zbu (zbz (ix (ix h.Mons (zdf (zeg m g)) mZ).Guests (zdM (zeg m g)) gZ).Live page) (ix h.Mons (zdf (zeg m g)) mZ).Outer)=true
  rw[b1,b2,zmF W.hp,ha];exact⟨hm,hg,zp9.2 (.inr ⟨rfl,zUM (zXo _ _)⟩)⟩
 .show ((zeF (zcs h m g) page).Page,true)=_
  rw[ha,hc.2.2]
 .show (zuv h m g page io).Mons=_
  unfold zuv;cases io<;>rfl
theorem zSN {h:Host}(S:Safe h){m g page need q:Int}(hm:hasB m (ln h.Mons)=true)(hg:hasB g (ln (ix h.Mons m mZ).Guests)=true)(hn:need=1\/need=2)(W:Walked (ix (ix h.Mons m mZ).Guests g gZ).Live page need q)(io:Bool){b:List Entry}(hb:∀e∈b,zcS h e=true)(hd:need=2->ix (ix h.Mons m mZ).Dirty q false=true) :
 Looked h (zg9 h b m g page need q io).1 m g page need q (zg9 h b m g page need q io).2.1/\(zg9 h b m g page need q io).2.2=true:=by
 have X:=S.ok.mon hm;have hq8:=W.q8;have hsl:=zmF (X.hasO W.q8);unfold zg9;cases hf:zgS b m g page need with
 |true=>
  rw[cond_true];unfold zgS at hf;cases hfb:zqe b m g page with
  |none=>rw[hfb]at hf;cases hf
  |some e=>rw[hfb]at hf;have hf':enough e.Rights need=true:=hf;obtain⟨f1,f2,f3⟩:=z2G hfb;obtain⟨t1,t2⟩:=S.ok.tag hm hg;obtain⟨b1,b2,_⟩:=zTZ t1 t2;obtain⟨_,_,h3⟩:=ze3.1 (hb e f1);rw[f2,b1,b2,f3,zmF W.hp]at h3;have hne:(⟨e.Host,e.Rights⟩:Slot)≠noSlot:=fun hc=>(by have:e.Rights=0:=congrArg Slot.Rights hc;rw[this,zpi hn]at hf';cases hf');rcases zp9.1 h3 with h3|⟨h3,h4⟩;{exact absurd h3 hne};{have h5:=zRz h4 hf';have hc:=zoo hn h5;rw[W.pg,hsl]at hc;have h3':e.Host=_:=h3;refine⟨⟨Op.refl S.ok,hc.2.2.symm.trans h3.symm,?_,h5,h3.symm,fun _ _ _=>rfl,hd,fun _=>rfl,fun _ _ _=>rfl⟩,rfl⟩;show e.Host≠-1;rw[h3',hc.2.2];exact hc.2.1}
 |false=>
  rw[cond_false];have hKO:=S.rt.t m hm g hg;cases hs:zev h m g page need with
  |false=>rw[cond_false];have hs':ix (zcs h m g).Known page false=true/\enough (zeF (zcs h m g) page).Rights need=true:=(by unfold zev at hs;cases hk:zjS (zcs h m g) page with|false=>rw[hk]at hs;cases hs|true=>rw[hk,cond_true]at hs;refine⟨?_,?_⟩;{unfold zjS at hk;cases hh:zdl (zcs h m g) page with|false=>rw[hh]at hk;cases hk|true=>rw[hh]at hk;exact hk};{cases hz:ieq (zeF (zcs h m g) page).Page (-1) with|true=>rw[hz]at hs;cases hs|false=>rw[hz]at hs;simpa using hs});have ha:zeF (zcs h m g) page=zbu (ix (ix (ix h.Mons m mZ).Guests g gZ).Live page sZ) (ix h.Mons m mZ).Outer:=(by have h0:=zZn hKO W.hp;have h1:ix (ix (ix h.Mons m mZ).Tables g kZ).Known page false=true:=hs'.1;rw[h1]at h0;exact h0);obtain⟨o1,o2,o3,o4⟩:=zOn S hm hg hn W io ha hs'.2;rw[o2];have he:=hs'.2;rw[ha]at he;have hc:=zoo hn he;rw[W.pg,hsl]at hc;exact⟨⟨o1,by rw[o4],o3,by rw[o4];exact he,by rw[o4];exact hc.2.2,fun _ _ _=>by rw[o4],fun e=>by rw[o4];exact hd e,fun _=>by rw[o4],fun _ _ _=>by rw[o4]⟩,rfl⟩
  |true=>
   rw[cond_true];have M:=zOw S.ok (m:=m) (p:=q) need hm hq8;have hm1:hasB m (ln (mended h m q need).Mons)=true:=(by rw[M.op.like.has];exact hm);have hgs:(ix (mended h m q need).Mons m mZ).Guests=(ix h.Mons m mZ).Guests:=M.op.like.g m hm;have hg1:hasB g (ln (ix (mended h m q need).Mons m mZ).Guests)=true:=(by rw[hgs];exact hg);have S1:Safe (mended h m q need):=M.op.safe S;have F:=z7s S1.ok hm1 hg1 page;have S2:Safe (zdv (mended h m q need) m g page):=F.safe S1;have hm2:hasB m (ln (zdv (mended h m q need) m g page).Mons)=true:=(by rw[F.like.has];exact hm1);have e2:ix (zdv (mended h m q need) m g page).Mons m mZ={ix (mended h m q need).Mons m mZ with Tables:=up (ix (mended h m q need).Mons m mZ).Tables g (filled (zcs (mended h m q need) m g) (zcK (mended h m q need) m g) (ix (mended h m q need).Mons m mZ).Outer page)}:=zbe hm1 _ _;have hg2:hasB g (ln (ix (zdv (mended h m q need) m g page).Mons m mZ).Guests)=true:=(by rw[e2];exact hg1);have hgs2:(ix (zdv (mended h m q need) m g page).Mons m mZ).Guests=(ix h.Mons m mZ).Guests:=(by rw[e2];exact hgs);have W2:Walked (ix (ix (zdv (mended h m q need) m g page).Mons m mZ).Guests g gZ).Live page need q:=(by rw[hgs2];exact W);have ha:zeF (zcs (zdv (mended h m q need) m g page) m g) page=zbu (ix (ix (ix (zdv (mended h m q need) m g page).Mons m mZ).Guests g gZ).Live page sZ) (ix (zdv (mended h m q need) m g page).Mons m mZ).Outer:=(by have:zcs (zdv (mended h m q need) m g page) m g=filled (zcs (mended h m q need) m g) (zcK (mended h m q need) m g) (ix (mended h m q need).Mons m mZ).Outer page:=(by unfold zcs;rw[e2];exact zbe (by unfold ln;rw[(S1.ok.mon hm1).gt];exact hg1) _ _);rw[this];refine(zXh (p:=page) (S1.rt.t m hm1 g hg1) (by rw[hgs];exact W.hp)).trans ?_;rw[e2]);have hOu:(ix (zdv (mended h m q need) m g page).Mons m mZ).Outer=(ix (mended h m q need).Mons m mZ).Outer:=by rw[e2]
   have hsl1:=zmF ((S1.ok.mon hm1).hasO hq8);have hfull:=zRc (s:=ix (ix (ix h.Mons m mZ).Guests g gZ).Live page sZ) (o:=(ix (mended h m q need).Mons m mZ).Outer) hn (by rw[W.pg];have:=zB.1 hq8;omega) (by rw[W.pg,hsl1];exact M.inn) W.en (by
    rw[W.pg,hsl1];rcases hn with rfl|rfl
    .rcases (S1.ok.mon hm1).enough1 hq8 M.inn with e|e<;>rw [e]<;>decide
    .rw [M.ri (by decide)];decide)
   have he:enough (zeF (zcs (zdv (mended h m q need) m g page) m g) page).Rights need=true:=(by rw[ha,hgs2,hOu];exact hfull.2);obtain⟨o1,o2,o3,o4⟩:=zOn S2 hm2 hg2 hn W2 io ha he;rw[o2];have hcp:=hfull.1;rw[W.pg,hsl1]at hcp;refine⟨⟨(M.op.trans F).trans o1,by rw[o4],o3,by rw[o4,hOu];exact hfull.2,by rw[o4,hOu];exact hcp,fun k hk hc=>?_,fun e=>?_,fun e=>?_,fun i hi hc=>?_⟩,rfl⟩;{rw [o4,e2];exact M.dk k hk hc};{rw [o4,e2];exact M.dt (by rw[e];decide)};{rw [o4,e2];exact M.d0 (by rw[e];decide)};{rw [o4];show (ix (up (mended h m q need).Mons m _) i mZ).Dirty=_;rw[zbr (zB.1 hm).1 (zB.1 hi).1 (Ne.symm hc)];exact M.dm i hi hc}
theorem zFo {n:Int}:ziN n=true↔n=1\/n=2:=by unfold ziN;by_cases h:n=1;{rw [zbl.2 h];simp[h]};{rw [zbU.2 h,cond_false,zbl];simp[h]}
theorem zpo {h:Host}{m g page need:Int}:zb5 h m g page need=true↔zbW h m g=true/\(need=1\/need=2)/\ze0 (zcK h m g) page need=true:=by unfold zb5;rw[zb6,zb6,zFo]
theorem zOp {h:Host}(S:Safe h){m g page need:Int}(io:Bool)(hl:zb5 h m g page need=true){b:List Entry}(hb:∀e∈b,zcS h e=true) :
 Looked h (lookOf h b m g page need io).1 m g page need (zcx (zcK h m g) page need) (lookOf h b m g page need io).2.1/\(lookOf h b m g page need io).2.2=true:=by
 obtain⟨h1,hn,hw⟩:=zpo.1 hl;obtain⟨_,hm,hg⟩:=ziM.1 h1;have W:=walked (S.ok.guest hm hg) hw;unfold lookOf;rw[hl,cond_true];rcases hn with rfl|rfl
 .rw [show ieq 1 2=false by decide,cond_false]
  exact zSN S hm hg (.inl rfl) W io hb (fun e=>absurd e (by decide))
 .rw [show ieq 2 2=true by decide,cond_true]
  obtain⟨k1,k2⟩:=zKd S.ok hm (zcx (zcK h m g) page 2);have hm1:hasB m (ln (zbF h m (zcx (zcK h m g) page 2)).Mons)=true:=by rw[k1.like.has];exact hm
  have e1:ix (zbF h m (zcx (zcK h m g) page 2)).Mons m mZ={ix h.Mons m mZ with Dirty:=up (ix h.Mons m mZ).Dirty (zcx (zcK h m g) page 2) true}:=zbe hm _ _;have hD:=(S.ok.mon hm).hasD W.q8;obtain⟨L,hL⟩:=zSN (k1.safe S) hm1 (g:=g) (page:=page) (need:=2) (q:=zcx (zcK h m g) page 2) (by rw[e1];exact hg) (.inr rfl) (by rw[e1];exact W) io (b:=b) (fun e he=>by
   obtain⟨a1,a2,a3⟩:=ze3.1 (hb e he);rw[ze3];have hi:hasB (zdf e.Tag) (ln (zbF h m (zcx (zcK h m g) page 2)).Mons)=true:=by rw[k1.like.has];exact a1
   refine⟨hi,by rw[k1.like.g _ a1];exact a2,?_⟩
   rw[k1.like.g _ a1];have:(ix (zbF h m (zcx (zcK h m g) page 2)).Mons (zdf e.Tag) mZ).Outer=(ix h.Mons (zdf e.Tag) mZ).Outer:=by show (ix (up h.Mons m _) _ mZ).Outer=_;by_cases hc:m=zdf e.Tag;{rw [<- hc,zbe hm]};{rw [zbr (zB.1 hm).1 (zB.1 a1).1 hc]}
   rw[this];exact a3) (fun _=>by rw[e1];exact zbe hD _ _)
  refine⟨⟨k1.trans L.op,L.inn,L.ne,?_,?_,fun k hk hc=>?_,L.dq,fun e=>absurd e (by decide),fun i hi hc=>?_⟩,hL⟩
  .have:=L.en;rw[e1] at this;exact this
  .have:=L.cp;rw[e1] at this;exact this
  .rw [L.dk k hk hc,e1];exact zbr (zB.1 W.q8).1 (zB.1 hk).1 (Ne.symm hc) _ _
  .rw [L.dm i (by rw[k1.like.has];exact hi) hc]
   show (ix (up h.Mons m _) i mZ).Dirty=_
   rw[zbr (zB.1 hm).1 (zB.1 hi).1 (Ne.symm hc)]
theorem zDM {x y:Int}(h1 : -9223372036854775808<=x+y)(h2:x+y<=9223372036854775807):zK .i64 x y=x+y:=by unfold zK;simp only[IntKind.wrap,IntKind.signed,IntKind.bits];simp;omega
theorem zIO {n:Nat}{P:Int->Prop}(h:∀i:Fin n,P ((i.val:Nat):Int)){x:Int}(h0:0<=x)(h1:x<n):P x:=by have:=h ⟨x.toNat,by omega⟩;simpa [show ((x.toNat:Nat):Int)=x by omega] using this
theorem zTi {p:Int}:zde p=true↔0<=p/\p<=255:=by unfold zde;exact zcE
theorem zOD {p:Int}(h:zde p=true):zde (zi8 p)=true:=by have h':=zTi.1 h;exact zIO (n:=256) (P:=fun x=>zde (zi8 x)=true) (by decide +kernel) h'.1 (by omega)
theorem zOC {p:Int}(h:zde p=true)(n:Int):zde (zrK p n)=true:=by unfold zrK zfF;rw[h,cond_true];cases hn:win n 0 7 with|false=>exact h|true=>rw[cond_true];have h':=zTi.1 h;have hn':=zcE.1 hn;exact zIO (n:=256) (P:=fun x=>∀k,0<=k->k<(8:Int)->zde (wor .i64 x (zob .i64 1 k))=true) (fun i k h0 h1=>zIO (n:=8) (P:=fun k=>zde (wor .i64 ((i.val:Nat):Int) (zob .i64 1 k))=true) (by revert i;decide +kernel) h0 h1) h'.1 (by omega) n hn'.1 (by omega)
structure GKeep (x y:Guest):Prop where
 ok:GOk y
 live:y.Live=x.Live
theorem zXT {x:Guest}(X:GOk x){c:Int}(hc:win c 0 12=true):GOk {x with Pc:=c}:=⟨X.prog,X.a,hc,X.w,X.l,X.ctl,X.pend,X.ex,X.seen⟩
theorem zXS {x:Guest}(X:GOk x){c:Int}(hc:win c 0 99=true):GOk {x with A:=c}:=⟨X.prog,hc,X.pc,X.w,X.l,X.ctl,X.pend,X.ex,X.seen⟩
theorem zih {x:Guest}(X:GOk x):GKeep x (zb8 x):=by unfold zb8;have hp:=zcE.1 X.pc;cases h:ige x.Pc 12 with|true=>exact⟨zXT X (by decide),rfl⟩|false=>have:¬ x.Pc≥12:=jS h;refine⟨zXT X ?_,rfl⟩;rw[zDM (by omega) (by omega)];exact zcE.2 (by omega)
theorem zRI {x:Guest}(X:GOk x)(n:Int):GKeep x (saw x n):=by unfold saw;cases h:ilt (ln x.Seen) 40 with|false=>exact⟨X,rfl⟩|true=>have:ln x.Seen<40:=qE h;refine⟨⟨X.prog,X.a,X.pc,X.w,X.l,X.ctl,X.pend,X.ex,qL ?_⟩,rfl⟩;unfold ln ap at *;simp;omega
theorem zii {x:Guest}(X:GOk x){e:GExit}(he:ziL e=true):GKeep x (stopped x e):=⟨⟨X.prog,X.a,X.pc,X.w,X.l,X.ctl,X.pend,he,X.seen⟩,rfl⟩
theorem zWt {x:Guest}(X:GOk x){p:Int}(hp:zde p=true):GKeep x {x with Pending:=p}:=⟨⟨X.prog,X.a,X.pc,X.w,X.l,X.ctl,hp,X.ex,X.seen⟩,rfl⟩
theorem zWq {x:Guest}(X:GOk x)(b:Bool):GKeep x {x with Halted:=b}:=⟨⟨X.prog,X.a,X.pc,X.w,X.l,X.ctl,X.pend,X.ex,X.seen⟩,rfl⟩
theorem zWr {x:Guest}(X:GOk x):GKeep x (held x):=⟨(zih (zWq X true).ok).ok,(zih (zWq X true).ok).live⟩
theorem z0e {x:Guest}(X:GOk x){v:Int}(hv:win v 0 99=true):GKeep x (loaded x v):=by have h1:=zRI (zXS X hv) v;have h2:=zih h1.ok;exact⟨h2.ok,h2.live.trans h1.live⟩
theorem zLs {x:Guest}(X:GOk x):GKeep x (interrupted x):=by unfold interrupted;cases zhB x with|false=>exact⟨X,rfl⟩|true=>have h1:=zWt X (zOD X.pend);rw[cond_true];exact⟨(zRI h1.ok _).ok,(zRI h1.ok _).live⟩
theorem zHx {p:List Ins}(h:zdq p=true)(i:Int):zd2 (zcn p i)=true:=by unfold zcn;cases hi:hasB i (ln p) with|false=>rfl|true=>unfold zdq at h;rw[zb6,qN]at h;exact h.1 _ (zkA hi _)
theorem z8B {i:Ins}(h:zd2 i=true)(h3:i.Op=3\/i.Op=4):0<=i.X/\i.X<=15:=by unfold zd2 at h;rcases h3 with e|e<;>rw [e]at h<;>exact zcE.1 h
theorem z0l {i:Ins}(h:zd2 i=true)(h3:i.Op=5\/i.Op=6):0<=i.X/\i.X<=99:=by unfold zd2 at h;rcases h3 with e|e<;>rw [e]at h<;>exact zcE.1 h
theorem z9h {i:Ins}(h:zd2 i=true)(h3:i.Op=8):0<=i.X/\i.X<=11:=by unfold zd2 at h;rw[h3]at h;exact zcE.1 h
theorem z9g {i:Ins}(h:zd2 i=true)(h3:i.Op=1):0<=i.X/\i.X<=99:=by unfold zd2 at h;rw[h3]at h;exact zcE.1 h
theorem zXU {x:Guest}(X:GOk x):GKeep x (plainly x):=by have M:=zih X;have hi:=zHx X.prog x.Pc;unfold plainly;cases ine (zba x) 2 with|true=>exact⟨X,rfl⟩|false=>rw[cond_false];(cases win x.A 0 99 with|false=>exact M|true=>rw[cond_true];(cases win (zcn x.Prog x.Pc).X 0 99 with|false=>exact M|true=>rw[cond_true];by_cases e1:(zcn x.Prog x.Pc).Op=1;{rw [zbl.2 e1,cond_true];exact⟨zXS M.ok (zcE.2 (z9g hi e1)),M.live⟩};{rw [zbU.2 e1,cond_false];by_cases e2:(zcn x.Prog x.Pc).Op=2;{rw [zbl.2 e2,cond_true];refine⟨zXS M.ok ?_,M.live⟩;have h1:=zcE.1 X.a;have hx:0<=(zcn x.Prog x.Pc).X/\(zcn x.Prog x.Pc).X<=99:=(by unfold zd2 at hi;rw[e2]at hi;exact zcE.1 hi);rw[zcE];unfold zpa;rw[zDM (by omega) (by omega)];have h5:=Int.tmod_nonneg (a:=x.A+(zcn x.Prog x.Pc).X) 100 (by omega);have h6:=Int.tmod_lt_of_pos (x.A+(zcn x.Prog x.Pc).X) (show (0:Int)<100 by omega);omega};{rw [zbU.2 e2,cond_false];by_cases e8:(zcn x.Prog x.Pc).Op=8;{rw [zbl.2 e8,cond_true];cases ieq x.A 0 with|true=>have:=z9h hi e8;exact⟨zXT M.ok (zcE.2 (by omega)),M.live⟩|false=>exact M};{rw [zbU.2 e8];exact M}}}))
theorem zrJ {c:List Int}:zct c=true↔(∀x∈c,win x 0 99=true)/\ln c=4:=by unfold zct;rw[zb6,qN,zbl]
theorem zlm (h:Host)(m:Int):∀(n i:Nat),(zcA h m n i).length=n
 | 0,_=>rfl
 |n+1,i=>by rw[zcA,qV,zlm h m n]
theorem zKm (h:Host)(m:Int):∀(n i k:Nat) (hk:k<(zcA h m n i).length),(zcA h m n i)[k]=zcX h m ((i+k:Nat):Int)
 | 0,i,k,hk=>by simp[zcA]at hk
 |n+1,i,k,hk=>by cases k with|zero=>rfl|succ k=>have:=zKm h m n (i+1) k (by simpa [zcA] using hk);simp only[zcA,List.getElem_cons_succ];rw[this];congr 1;omega
theorem zoF {h:Host}{m q:Int}(hq:hasB q 8=true)(d:List Int):ix (zcA h m 8 0) q d=zcX h m q:=by have hq':=zB.1 hq;have hk:q.toNat<(zcA h m 8 0).length:=(by rw[zlm];omega);have:=zjR hk d;rw[show ((q.toNat:Nat):Int)=q by omega] at this;rw[this,zKm];congr 1;omega
theorem zsU (h:Host)(m:Int):ln (zcA h m 8 0)=8:=by unfold ln;rw[zlm];rfl
theorem zyG {h:Host}(H:HOk h){m p:Int}(hm:hasB m (ln h.Mons)=true)(hp:hasB p 8=true):zct (zcX h m p)=true:=by have X:=H.mon hm;rw[<- zj0 H hm hp];by_cases e:(ix (ix h.Mons m mZ).Outer p sZ).Page = -1;{rw [zbl.2 e];exact((zos (X.slot hp)).1 (X.fit p hp)).1 e};{rw [zbU.2 e];exact zOA H.pgs _}
theorem zxz {h:Host}(H:HOk h){m:Int}(hm:hasB m (ln h.Mons)=true):zb7 (zI h m)=true:=by have X:=H.mon hm;unfold zI;rw[hm,cond_true];unfold zb7 zkC;rw[zb6,qN];refine⟨X.gs,?_⟩;simp only[qD,zb6,qN,zbl,zcE];refine⟨⟨fun c hc=>?_,zsU h m⟩,⟨?_,?_⟩,?_,X.pend⟩;{obtain⟨i,hi,rfl⟩:=zSU hc [];rw[zsU]at hi;rw[zoF hi];exact zyG H hm hi};{unfold ln;have:=X.g1;omega};{unfold ln;have:=X.g2;omega};{unfold ile ln;have:=X.outs;exact qL (by omega)}
structure SimT (h r:Host) (m:Int) (f:Bare->Bare):Prop where
 safe:Safe r
 seen:∀i,zI r i=bif ieq i m then f (zI h i) else zI h i
 len:r.Mons.length=h.Mons.length
theorem SimT.trans {a b c:Host}{m:Int}{f g:Bare->Bare}(x:SimT a b m f)(y:SimT b c m g):SimT a c m (fun t=>g (f t)):=by refine⟨y.safe,fun i=>?_,y.len.trans x.len⟩;rw[y.seen i,x.seen i];cases ieq i m<;>rfl
theorem Op.sim {h r:Host}(k:Op h r)(S:Safe h)(m:Int):SimT h r m id:=⟨k.safe S,fun i=>by rw[k.like.seen i];cases ieq i m<;>rfl,k.like.len⟩
theorem SimT.congr {h r:Host}{m:Int}{f g:Bare->Bare}(x:SimT h r m f)(e:f (zI h m)=g (zI h m)):SimT h r m g:=by refine⟨x.safe,fun i=>?_,x.len⟩;rw[x.seen i];by_cases hi:i=m;{subst hi;rw[zbl.2 rfl,cond_true,cond_true,e]};{rw [zbU.2 hi];rfl}
theorem SimT.has {h r:Host}{m:Int}{f:Bare->Bare}(x:SimT h r m f)(i:Int):hasB i (ln r.Mons)=hasB i (ln h.Mons):=by unfold ln;rw[x.len]
theorem SimT.refl {h:Host}(S:Safe h)(m:Int):SimT h h m id:=⟨S,fun i=>by cases ieq i m<;>rfl,rfl⟩
theorem zvj {h:Host}(S:Safe h){m q host:Int}(hm:hasB m (ln h.Mons)=true)(hq:hasB q 8=true)(hs:(ix (ix h.Mons m mZ).Outer q sZ).Page=host)(hne:host≠-1)(c v:Int) :
 SimT h {h with Memory:=zbI h.Memory host c v} m (fun b=>{b with Memory:=zbI b.Memory q c v})/\cellAt h.Memory host c=cellAt (zI h m).Memory q c:=by
 have H:=S.ok;have X:=H.mon hm;have hsl:=X.slot hq;have hM:=z9H H hsl (by rw[hs];exact hne)
 rw[hs]at hM;have hpg:ix h.Memory host []=zcX h m q:=by have:=zj0 H hm hq;rw[hs,zbU.2 hne,cond_false,zjZ hM] at this;exact this
 have hlen:ln (zcX h m q)=4:=(zrJ.1 (zyG H hm hq)).2;have hmem:(zI h m).Memory=zcA h m 8 0:=by unfold zI;rw[hm];rfl
 have h1:zhb h.Memory host c=hasB c 4:=by unfold zhb;rw[hM,cond_true,hpg,hlen]
 have h2:zhb (zcA h m 8 0) q c=hasB c 4:=by unfold zhb;rw[zsU,hq,cond_true,zoF hq,hlen]
 have hcell:cellAt h.Memory host c=cellAt (zI h m).Memory q c:=by rw[hmem];unfold cellAt;rw[h1,h2,hpg,zoF hq]
 refine⟨?_,hcell⟩;cases hc:hasB c 4 with
 |false=>have e1:zbI h.Memory host c v=h.Memory:=(by unfold zbI;rw[h1,hc];rfl);rw[e1];refine(SimT.refl S m).congr ?_;show zI h m={zI h m with Memory:=zbI (zI h m).Memory q c v};rw[hmem];have e2:zbI (zcA h m 8 0) q c v=zcA h m 8 0:=(by unfold zbI;rw[h2,hc];rfl);rw[e2,<- hmem]
 |true=>
  cases hv:win v 0 99 with
  |false=>have e1:zbI h.Memory host c v=h.Memory:=(by unfold zbI;rw[h1,hc,hv];rfl);rw[e1];refine(SimT.refl S m).congr ?_;show zI h m={zI h m with Memory:=zbI (zI h m).Memory q c v};rw[hmem];have e2:zbI (zcA h m 8 0) q c v=zcA h m 8 0:=(by unfold zbI;rw[h2,hc,hv];rfl);rw[e2,<- hmem]
  |true=>have e1:zbI h.Memory host c v=up h.Memory host (up (zcX h m q) c v):=(by unfold zbI;rw[h1,hc,hv,hpg];rfl);have e2:zbI (zcA h m 8 0) q c v=up (zcA h m 8 0) q (up (zcX h m q) c v):=(by unfold zbI;rw[h2,hc,hv,zoF hq];rfl);have hnew:zct (up (zcX h m q) c v)=true:=(by have:=zrJ.1 (zyG H hm hq);rw[zrJ,zdp];refine⟨fun x hx=>?_,this.2⟩;rcases qZ hx with h|h;{exact this.1 x h};{rw [h];exact hv});have h0:=(zB.1 hM).1;have hH:HOk {h with Memory:=zbI h.Memory host c v}:=(by rw[e1];refine⟨by show (up _ _ _).length=12;rw[zbL];exact H.m12,fun x hx=>?_,H.n1,H.n3,H.b1,H.b2,H.mons,H.uq⟩;rcases qZ hx with h|h;{exact H.pgs x h};{rw [h];exact hnew});refine⟨⟨hH,⟨S.rt.t,S.rt.e1,S.rt.e2⟩⟩,fun i=>?_,rfl⟩;have hne':∀i k,hasB i (ln h.Mons)=true->hasB k 8=true->¬ (i=m/\k=q)->zcX {h with Memory:=zbI h.Memory host c v} i k=zcX h i k:=(by intro i k hi hk hnot;rw[<- zj0 hH (m:=i) (p:=k) hi hk,<- zj0 H hi hk];show (cond (ieq (ix (ix h.Mons i mZ).Outer k sZ).Page (-1)) _ (zck (zbI h.Memory host c v) _))=_;by_cases e:(ix (ix h.Mons i mZ).Outer k sZ).Page = -1;{rw [zbl.2 e];rfl};{rw [zbU.2 e,cond_false,cond_false,e1];exact zBU h0 (fun e=>hnot (H.uniq hi hk hm hq e hs h0))});have heq':zcX {h with Memory:=zbI h.Memory host c v} m q=up (zcX h m q) c v:=(by rw[<- zj0 hH (m:=m) (p:=q) hm hq];show (cond (ieq (ix (ix h.Mons m mZ).Outer q sZ).Page (-1)) _ (zck (zbI h.Memory host c v) (ix (ix h.Mons m mZ).Outer q sZ).Page))=_;rw[hs,zbU.2 hne,cond_false,e1];exact zBT hM);by_cases hi:i=m;{subst hi;rw[zbl.2 rfl,cond_true];unfold zI;show (cond (hasB i (ln h.Mons)) _ _)=_;rw[hm,cond_true,cond_true];show Bare.mk (zcA {h with Memory:=zbI h.Memory host c v} i 8 0) _ _ _=Bare.mk (zbI (zcA h i 8 0) q c v) _ _ _;congr 1;rw[e2];refine zMM [] (by rw[zbL,zlm,zlm]) fun k hk=>?_;rw[zsU]at hk;rw[zoF hk];by_cases e:q=k;{subst e;rw[zbe (by rw[zsU];exact hq),heq']};{rw [zbr (zB.1 hq).1 (zB.1 hk).1 e,zoF hk];exact hne' i k hm hk (fun h=>e h.2.symm)}};{rw [zbU.2 hi,cond_false];unfold zI;show (cond (hasB i (ln h.Mons)) _ _)=_;cases hi2:hasB i (ln h.Mons) with|false=>rfl|true=>rw[cond_true,cond_true];show Bare.mk (zcA {h with Memory:=zbI h.Memory host c v} i 8 0) _ _ _=_;rw[zpt 8 0 (fun j h1 h2=>hne' i (j:Int) hi2 (zB.2 (by omega)) (fun h=>hi h.1))]}
theorem zo4 {h:Host}(S:Safe h){m g:Int}(hm:hasB m (ln h.Mons)=true)(hg:hasB g (ln (ix h.Mons m mZ).Guests)=true){y:Guest}(k:GKeep (gOf h m g) y):SimT h (zj2 h m g y) m (fun b=>zdV b g y):=by have X:=S.ok.mon hm;have kp:KeepP (ix h.Mons m mZ) {ix h.Mons m mZ with Guests:=up (ix h.Mons m mZ).Guests g y}:=⟨rfl,rfl⟩;refine⟨zvi S hm kp (zjT X kp (zbL _ _ _) rfl rfl X.outs X.pend X.tr X.own fun z hz=>?_) (zbL _ _ _) (fun j hj=>?_) rfl,fun i=>?_,zbL _ _ _⟩;{rcases qZ hz with h|h;{exact X.gs z h};{rw [h];exact zr7.2 k.ok}};{show (ix (up (ix h.Mons m mZ).Guests g y) j gZ).Live=_;by_cases e:g=j;{subst e;rw[zbe hg];exact k.live};{rw [zbr (zB.1 hg).1 (zB.1 hj).1 e]}};{refine(zts (h:=h) (r:=zj2 h m g y) hm rfl rfl kp i).trans ?_;by_cases e:i=m;{subst e;rw[zbl.2 rfl,cond_true,cond_true];unfold zdV zI;rw[hm];rfl};{rw [zbU.2 e];rfl}}
theorem zTJ {h:Host}(S:Safe h){m:Int}(hm:hasB m (ln h.Mons)=true){y:Mon}(kp:KeepP (ix h.Mons m mZ) y)(hy:MOk y)(hg:y.Guests=(ix h.Mons m mZ).Guests)(ht:y.Tables=(ix h.Mons m mZ).Tables) :
 SimT h {h with Mons:=up h.Mons m y} m (fun b=>{b with Outs:=y.Outs,Pending:=y.Pending}):=by
 refine⟨zvi S hm kp hy (by rw[hg]) (fun j _=>by rw[hg]) ht,fun i=>?_,zbL _ _ _⟩
 refine(zts (h:=h) (r:={h with Mons:=up h.Mons m y}) hm rfl rfl kp i).trans ?_
 by_cases e:i=m
 .subst e;rw[zbl.2 rfl,cond_true,cond_true];unfold zI;rw[hm,hg];rfl
 .rw [zbU.2 e];rfl
theorem zeE {h:Host}{m:Int}(hm:hasB m (ln h.Mons)=true):zI h m=⟨zcA h m 8 0,(ix h.Mons m mZ).Guests,(ix h.Mons m mZ).Outs,(ix h.Mons m mZ).Pending⟩:=by unfold zI;rw[hm];rfl
theorem z1j {h:Host}(S:Safe h){m:Int}(hm:hasB m (ln h.Mons)=true):SimT h (owned h m) m id:=by unfold owned;cases hc:ilt (ix h.Mons m mZ).Own 1000000000 with|false=>exact SimT.refl S m|true=>rw[cond_true];have X:=S.ok.mon hm;have ho:=zcE.1 X.own;have hlt:(ix h.Mons m mZ).Own<1000000000:=qE hc;have kp:KeepP (ix h.Mons m mZ) {ix h.Mons m mZ with Own:=zK .i64 (ix h.Mons m mZ).Own 1}:=⟨rfl,rfl⟩;refine(zTJ S hm kp (zjT X kp rfl rfl rfl X.outs X.pend X.tr ?_ X.gs) rfl rfl).congr ?_;{show win (zK .i64 (ix h.Mons m mZ).Own 1) 0 1000000000=true;rw[zDM (by omega) (by omega),zcE];omega};{rw [zeE hm];rfl}
theorem zY2 {h:Host}(S:Safe h){m:Int}(hm:hasB m (ln h.Mons)=true)(n:Int):SimT h (zm4 h m n) m (fun b=>zm7 b n):=by unfold zm4;have X:=S.ok.mon hm;cases hc:ilt (ln (ix h.Mons m mZ).Outs) 40 with|false=>refine(SimT.refl S m).congr ?_;rw[zeE hm];unfold zm7;rw[hc];rfl|true=>rw[cond_true];have hlt:ln (ix h.Mons m mZ).Outs<40:=qE hc;have kp:KeepP (ix h.Mons m mZ) {ix h.Mons m mZ with Outs:=ap (ix h.Mons m mZ).Outs [n]}:=⟨rfl,rfl⟩;refine(zTJ S hm kp (zjT X kp rfl rfl rfl ?_ X.pend X.tr X.own X.gs) rfl rfl).congr ?_;{show (ap (ix h.Mons m mZ).Outs [n]).length<=40;unfold ln ap at *;simp;omega};{rw [zeE hm];unfold zm7;rw[hc];rfl}
theorem zsC {h:Host}{m g:Int}(hm:hasB m (ln h.Mons)=true)(hg:hasB g (ln (ix h.Mons m mZ).Guests)=true):gAt (zI h m) g=gOf h m g:=by rw[zeE hm];unfold gAt;show (cond (hasB g (ln (ix h.Mons m mZ).Guests)) _ _)=_;rw[hg];rfl
theorem zNw {x:Guest}(h:zba x=3\/zba x=4\/zba x=5\/zba x=6):(zcn x.Prog x.Pc).Op=zba x:=by unfold zba at h ⊢;cases hc:canRun x with|false=>simp[hc]at h|true=>simp only[hc,cond_true]at h ⊢;(cases ht:zhB x with|true=>simp[ht]at h|false=>simp only[ht,cond_false]at h ⊢;unfold zwS at h ⊢;by_cases e3:(zcn x.Prog x.Pc).Op=3;{rw [e3];rfl};{rw [zbU.2 e3,cond_false]at h ⊢;by_cases e4:(zcn x.Prog x.Pc).Op=4;{rw [e4];rfl};{rw [zbU.2 e4,cond_false]at h ⊢;by_cases e5:(zcn x.Prog x.Pc).Op=5;{rw [e5];rfl};{rw [zbU.2 e5,cond_false]at h ⊢;by_cases e6:(zcn x.Prog x.Pc).Op=6;{rw [e6];rfl};{rw [zbU.2 e6,cond_false]at h ⊢;cases h7:ieq (zcn x.Prog x.Pc).Op 7<;>simp [h7]at h}}}})
theorem z6d {x:Guest}(X:GOk x){w:Int}(hw:zba x=w)(h:w=3\/w=4):0<=address x/\address x<=15:=by have e:address x=(zcn x.Prog x.Pc).X:=(by unfold address;rcases h with e|e;{rw [hw,e];rfl};{rw [hw,e];rfl});rw[e];exact z8B (zHx X.prog _) (by rw[zNw (by omega),hw];exact h)
theorem z6e {a:Int}(h0:0<=a)(h1:a<=15):win (zbg a) 0 3=true/\hasB (zc4 a) 4=true :=
 zIO (n:=16) (P:=fun a=>win (zbg a) 0 3=true/\hasB (zc4 a) 4=true) (by decide) h0 (by omega)
theorem zXJ {p:Int}(h:win p 0 3=true)(w:Bool):ziL (zqc p w)=true:=by unfold ziL zqc;simp[ieq,h]
theorem zZ3 {n:Int}(h:win n 0 99=true):ziL (zx1 n)=true:=by unfold ziL zx1;simp[ieq,h]
theorem z2F {n:Int}(h:win n 0 99=true):ziL (zwT n)=true:=by unfold ziL zwT;simp[ieq,h]
theorem z2M {x:Guest}(X:GOk x)(t:Int){w:Int}(hw:zba x=w):GKeep x (ziI x t w):=by have hi:=zHx X.prog x.Pc;unfold ziI;by_cases e6:w=6;{rw [zbl.2 e6];exact zii X (zZ3 (zcE.2 (z0l hi (by rw[zNw (by omega),hw];omega))))};{rw [zbU.2 e6,cond_false];by_cases e5:w=5;{rw [zbl.2 e5];cases zgp t 1 with|true=>exact zii X (z2F (zcE.2 (z0l hi (by rw[zNw (by omega),hw];omega))))|false=>rw[e5];exact zih X};{rw [zbU.2 e5];rw[Bool.false_and,cond_false];cases hc:(ieq w 7&&zgp t 2) with|true=>exact zii X rfl|false=>rw[cond_false];cases ieq w 7;{exact zih X};{exact zWr X}}}
theorem zWz {α:Type}(g:Int):hasB g (ln ([]:List α))=false:=by cases h:hasB g (ln ([]:List α)) with|false=>rfl|true=>have:=zB.1 h;simp[ln] at this;omega
theorem z1T {m:List (List Int)}(h:∀c∈m,zct c=true)(p c:Int):win (cellAt m p c) 0 99=true:=by unfold cellAt zhb;cases hp:hasB p (ln m) with|false=>rfl|true=>rw[cond_true];(cases hc:hasB c (ln (ix m p [])) with|false=>rfl|true=>rw[cond_true];exact(zrJ.1 (h _ (zkA hp []))).1 _ (zkA hc 0))
theorem HOk.seenG {h:Host}(H:HOk h){m g:Int}(hm:hasB m (ln h.Mons)=true)(hg:hasB g (ln (ix h.Mons m mZ).Guests)=true):GOk (gOf h m g):=H.guest hm hg
theorem zTU {h:Host}(S:Safe h){m g:Int}(hm:hasB m (ln h.Mons)=true)(hg:hasB g (ln (ix h.Mons m mZ).Guests)=true)(w:Bool)(hw:zba (gOf h m g)=bif w then 4 else 3) :
 SimT h (ziH (zlG h m g (gOf h m g) w) m g (gOf h m g) w) m (fun b=>zmG b g (gOf h m g) w):=by
 have X:=S.ok.seenG hm hg;have ha:=z6d X hw (by cases w<;>simp)
 have hap:=z6e ha.1 ha.2;have hn:zb9 w=1\/zb9 w=2:=by cases w<;>simp [zb9]
 unfold ziH zlG;cases hl:zb5 h m g (zbg (address (gOf h m g))) (zb9 w) with
 |false=>have e:lookOf h h.Buffer m g (zbg (address (gOf h m g))) (zb9 w) false=(h,-1,false):=(by unfold lookOf;rw[hl];rfl);have hw2:ze0 (gOf h m g).Live (zbg (address (gOf h m g))) (zb9 w)=false:=(by cases hc:ze0 (gOf h m g).Live (zbg (address (gOf h m g))) (zb9 w) with|false=>rfl|true=>exact Bool.noConfusion (hl.symm.trans (zpo.2 ⟨ziM.2 ⟨S.ok,hm,hg⟩,hn,hc⟩)));rw[e];refine(zo4 S hm hg (zii X (zXJ hap.1 w))).congr ?_;unfold zmG;rw[hw2];rfl
 |true=>obtain⟨L,hL⟩:=zOp S false hl S.rt.e1;obtain⟨_,_,hwk⟩:=zpo.1 hl;have hwk':ze0 (gOf h m g).Live (zbg (address (gOf h m g))) (zb9 w)=true:=hwk;have W:=walked X hwk;rw[hL,cond_true];have S1:=L.op.safe S;have hm1:hasB m (ln (lookOf h h.Buffer m g (zbg (address (gOf h m g))) (zb9 w) false).1.Mons)=true:=(by rw[L.op.like.has];exact hm);have hgs:=L.op.like.g m hm;have q8:hasB (zcx (zcK h m g) (zbg (address (gOf h m g))) (zb9 w)) 8=true:=W.q8;obtain⟨k1,k2⟩:=zvj S1 hm1 q8 L.inn L.ne (zc4 (address (gOf h m g))) (gOf h m g).A;rw[L.op.like.seen m] at k2;cases w with|true=>rw[cond_true];have k0:=L.op.sim S m;have hmm:hasB m (ln ({ (lookOf h h.Buffer m g (zbg (address (gOf h m g))) (zb9 true) false).1 with Memory:=zbI (lookOf h h.Buffer m g (zbg (address (gOf h m g))) (zb9 true) false).1.Memory (lookOf h h.Buffer m g (zbg (address (gOf h m g))) (zb9 true) false).2.1 (zc4 (address (gOf h m g))) (gOf h m g).A}:Host).Mons)=true:=hm1;have hgg:hasB g (ln (ix ({ (lookOf h h.Buffer m g (zbg (address (gOf h m g))) (zb9 true) false).1 with Memory:=zbI (lookOf h h.Buffer m g (zbg (address (gOf h m g))) (zb9 true) false).1.Memory (lookOf h h.Buffer m g (zbg (address (gOf h m g))) (zb9 true) false).2.1 (zc4 (address (gOf h m g))) (gOf h m g).A}:Host).Mons m mZ).Guests)=true:=(by show hasB g (ln (ix (lookOf h h.Buffer m g (zbg (address (gOf h m g))) (zb9 true) false).1.Mons m mZ).Guests)=true;rw[hgs];exact hg);have kk:GKeep (gOf { (lookOf h h.Buffer m g (zbg (address (gOf h m g))) (zb9 true) false).1 with Memory:=zbI (lookOf h h.Buffer m g (zbg (address (gOf h m g))) (zb9 true) false).1.Memory (lookOf h h.Buffer m g (zbg (address (gOf h m g))) (zb9 true) false).2.1 (zc4 (address (gOf h m g))) (gOf h m g).A} m g) (zb8 (gOf h m g)):=(by have:gOf { (lookOf h h.Buffer m g (zbg (address (gOf h m g))) (zb9 true) false).1 with Memory:=zbI (lookOf h h.Buffer m g (zbg (address (gOf h m g))) (zb9 true) false).1.Memory (lookOf h h.Buffer m g (zbg (address (gOf h m g))) (zb9 true) false).2.1 (zc4 (address (gOf h m g))) (gOf h m g).A} m g=gOf h m g:=(by show ix (ix (lookOf h h.Buffer m g (zbg (address (gOf h m g))) (zb9 true) false).1.Mons m mZ).Guests g gZ=_;rw[hgs];rfl);rw[this];exact zih X);refine((k0.trans k1).trans (zo4 k1.safe hmm hgg kk)).congr ?_;unfold zmG;rw[hwk'];rfl|false=>rw[cond_false];have k0:=L.op.sim S m;have hgg:hasB g (ln (ix (lookOf h h.Buffer m g (zbg (address (gOf h m g))) (zb9 false) false).1.Mons m mZ).Guests)=true:=(by rw[hgs];exact hg);have kk:GKeep (gOf (lookOf h h.Buffer m g (zbg (address (gOf h m g))) (zb9 false) false).1 m g) (loaded (gOf h m g) (cellAt (lookOf h h.Buffer m g (zbg (address (gOf h m g))) (zb9 false) false).1.Memory (lookOf h h.Buffer m g (zbg (address (gOf h m g))) (zb9 false) false).2.1 (zc4 (address (gOf h m g))))):=(by have:gOf (lookOf h h.Buffer m g (zbg (address (gOf h m g))) (zb9 false) false).1 m g=gOf h m g:=(by show ix (ix (lookOf h h.Buffer m g (zbg (address (gOf h m g))) (zb9 false) false).1.Mons m mZ).Guests g gZ=_;rw[hgs];rfl);rw[this];exact z0e X (z1T S1.ok.pgs _ _));refine(k0.trans (zo4 S1 hm1 hgg kk)).congr ?_;unfold zmG;rw[hwk',k2];rfl
theorem z2L {h r:Host}{m g:Int}(e:(ix r.Mons m mZ).Guests=(ix h.Mons m mZ).Guests):gOf r m g=gOf h m g:=by unfold gOf;rw[e]
theorem z7t (h:Host)(m:Int)(hm:hasB m (ln h.Mons)=true):(ix (owned h m).Mons m mZ).Guests=(ix h.Mons m mZ).Guests:=by unfold owned;cases ilt (ix h.Mons m mZ).Own 1000000000 with|false=>rfl|true=>show (ix (up h.Mons m _) m mZ).Guests=_;rw[zbe hm]
theorem z3h (h:Host)(m n:Int)(hm:hasB m (ln h.Mons)=true):(ix (zm4 h m n).Mons m mZ).Guests=(ix h.Mons m mZ).Guests:=by unfold zm4;cases ilt (ln (ix h.Mons m mZ).Outs) 40 with|false=>rfl|true=>show (ix (up h.Mons m _) m mZ).Guests=_;rw[zbe hm]
theorem z1l {h:Host}(S:Safe h){m:Int}(hm:hasB m (ln h.Mons)=true)(x:Guest)(w:Int):SimT h (zfS h m x w) m id/\(ix (zfS h m x w).Mons m mZ).Guests=(ix h.Mons m mZ).Guests:=by unfold zfS;cases (cond (ine w 6) (ieq (zyE (ix h.Mons m mZ).Traps x.Ctl.Traps (zxF w)) 2) false) with|false=>exact⟨SimT.refl S m,rfl⟩|true=>exact⟨z1j S hm,z7t h m hm⟩
theorem z1k {h:Host}(S:Safe h){m:Int}(hm:hasB m (ln h.Mons)=true)(x:Guest)(w:Int):SimT h (zfR h m x w) m (fun b=>bif (cond (zjz x.Ctl.Traps w) (ieq w 5) false) then zm7 b (zcn x.Prog x.Pc).X else b)/\(ix (zfR h m x w).Mons m mZ).Guests=(ix h.Mons m mZ).Guests:=by unfold zfR;cases (cond (zjz x.Ctl.Traps w) (ieq w 5) false) with|false=>exact⟨SimT.refl S m,rfl⟩|true=>exact⟨zY2 S hm _,z3h h m _ hm⟩
theorem zCV {h:Host}(S:Safe h){m g:Int}(hm:hasB m (ln h.Mons)=true)(hg:hasB g (ln (ix h.Mons m mZ).Guests)=true){w:Int}(hw:zba (gOf h m g)=w) :
 SimT h (zvo h m g (gOf h m g) w) m (fun b=>zDJ b g (gOf h m g) w):=by
 have X:=S.ok.seenG hm hg;obtain⟨k0,e0⟩:=z1l S hm (gOf h m g) w;have hm0:hasB m (ln (zfS h m (gOf h m g) w).Mons)=true:=by rw[k0.has];exact hm
 obtain⟨k1,e1⟩:=z1k k0.safe hm0 (gOf h m g) w;have hm1:hasB m (ln (zfR (zfS h m (gOf h m g) w) m (gOf h m g) w).Mons)=true:=by rw[k1.has];exact hm0
 have hg1:hasB g (ln (ix (zfR (zfS h m (gOf h m g) w) m (gOf h m g) w).Mons m mZ).Guests)=true:=by rw[e1,e0];exact hg
 have kk:GKeep (gOf (zfR (zfS h m (gOf h m g) w) m (gOf h m g) w) m g) (ziI (gOf h m g) (gOf h m g).Ctl.Traps w):=by rw[z2L (e1.trans e0)];exact z2M X _ hw
 exact((k0.trans k1).trans (zo4 k1.safe hm1 hg1 kk)).congr rfl
theorem zZf (x:Guest):zba x=0\/zba x=1\/zba x=2\/zba x=3\/zba x=4\/zba x=5\/zba x=6\/zba x=7:=by unfold zba zwS;cases canRun x<;>cases zhB x<;>cases ieq (zcn x.Prog x.Pc).Op 3<;>cases ieq (zcn x.Prog x.Pc).Op 4<;>cases ieq (zcn x.Prog x.Pc).Op 5<;>cases ieq (zcn x.Prog x.Pc).Op 6<;>cases ieq (zcn x.Prog x.Pc).Op 7<;>simp
theorem zQ9 {h:Host}(H:HOk h)(m g:Int):zkr (zI h m) g=bif zbW h m g then !ieq (zba (gOf h m g)) 0 else false:=by unfold zkr zbW;rw[zi6.2 H,cond_true];cases hm:hasB m (ln h.Mons) with|false=>have:(zI h m).Guests=[]:=(by unfold zI;rw[hm];rfl);rw[this,zWz];rfl|true=>rw[cond_true,zxz H hm,cond_true];have:(zI h m).Guests=(ix h.Mons m mZ).Guests:=(by rw[zeE hm]);rw[this];(cases hg:hasB g (ln (ix h.Mons m mZ).Guests) with|false=>rfl|true=>rw[cond_true,cond_true,zsC hm hg])
theorem step_ok {h:Host}(S:Safe h)(m g:Int):SimT h (zbB h m g).1 m (fun b=>zhj b g)/\(zbB h m g).2=zkr (zI h m) g:=by
 have hc:=zQ9 S.ok m g;unfold zbB;cases hh:zbW h m g with
 |false=>rw[hh,cond_false]at hc;refine⟨(SimT.refl S m).congr ?_,hc.symm⟩;unfold zhj;rw[hc];rfl
 |true=>rw[hh,cond_true]at hc;rw[cond_true];obtain⟨_,hm,hg⟩:=ziM.1 hh;have X:=S.ok.seenG hm hg;have hgs:=zsC hm hg;have hf:∀w,zba (gOf h m g)=w->w≠0->zhj (zI h m) g=stepped (zI h m) g (gOf h m g) w:=(by intro w hw h0;unfold zhj;rw[hc,hw,zbU.2 h0,hgs,hw];rfl);rcases zZf (gOf h m g) with e|e|e|e|e|e|e|e;{rw [e];rw[e]at hc;refine⟨(SimT.refl S m).congr ?_,hc.symm⟩;unfold zhj;rw[hc];rfl};{rw [e]at hc ⊢;exact⟨(zo4 S hm hg (zLs X)).congr (hf 1 e (by decide)).symm,hc.symm⟩};{rw [e]at hc ⊢;exact⟨(zo4 S hm hg (zXU X)).congr (hf 2 e (by decide)).symm,hc.symm⟩};{rw [e]at hc ⊢;exact⟨(zTU S hm hg false e).congr (hf 3 e (by decide)).symm,hc.symm⟩};{rw [e]at hc ⊢;exact⟨(zTU S hm hg true e).congr (hf 4 e (by decide)).symm,hc.symm⟩};{rw [e]at hc ⊢;exact⟨(zCV S hm hg e).congr (hf 5 e (by decide)).symm,hc.symm⟩};{rw [e]at hc ⊢;exact⟨(zCV S hm hg e).congr (hf 6 e (by decide)).symm,hc.symm⟩};{rw [e]at hc ⊢;exact⟨(zCV S hm hg e).congr (hf 7 e (by decide)).symm,hc.symm⟩}
structure BackOk (b c:Bare):Prop where
 m:c.Memory=b.Memory
 o:c.Outs=b.Outs
 n:c.Guests.length=b.Guests.length
 g:∀j,hasB j (ln b.Guests)=true->GKeep (ix b.Guests j gZ) (ix c.Guests j gZ)
 p:zde b.Pending=true->zde c.Pending=true
theorem z3C {h:Host}(S:Safe h){m:Int}(hm:hasB m (ln h.Mons)=true){c:Bare}(k:BackOk (zI h m) c):SimT h (zcZ h m c) m (fun _=>c):=by have X:=S.ok.mon hm;have hf:=zeE hm;have hG:(zI h m).Guests=(ix h.Mons m mZ).Guests:=(by rw[hf]);have hn:c.Guests.length=(ix h.Mons m mZ).Guests.length:=(by rw[k.n,hG]);have hg:∀j,hasB j (ln (ix h.Mons m mZ).Guests)=true->GKeep (ix (ix h.Mons m mZ).Guests j gZ) (ix c.Guests j gZ):=fun j hj=>(by have:=k.g j (by rw[hG];exact hj);rwa [hG] at this);have kp:KeepP (ix h.Mons m mZ) (ztN (ix h.Mons m mZ) c):=⟨rfl,rfl⟩;have hp:zde c.Pending=true:=k.p (by rw[hf];exact X.pend);refine⟨zvi S hm kp (zjT X kp hn rfl rfl X.outs hp X.tr X.own fun z hz=>?_) hn (fun j hj=>(hg j hj).live) rfl,fun i=>?_,zbL _ _ _⟩;{obtain⟨j,hj,rfl⟩:=zSU hz gZ;exact zr7.2 (hg j (by unfold ln at hj ⊢;rw[<- hn];exact hj)).ok};{refine(zts (h:=h) (r:=zcZ h m c) hm rfl rfl kp i).trans ?_;by_cases e:i=m;{subst e;rw[zbl.2 rfl,cond_true,cond_true];show Bare.mk (zI h i).Memory c.Guests (ix h.Mons i mZ).Outs c.Pending=c;have h1:=k.m;have h2:=k.o;rw[hf]at h2;cases c;simp_all};{rw [zbU.2 e];rfl}}
theorem seen_none {h:Host}{m:Int}(hm:hasB m (ln h.Mons)=false):zI h m=⟨[],[],[],0⟩:=by unfold zI;rw[hm];rfl
theorem zsa:zb7 ⟨[],[],[],0⟩=false:=by decide
theorem zso {b:Bare}(h:zb7 b=false)(g:Int):zcb b g=false:=by unfold zcb;rw[h];rfl
theorem zg3 {b:Bare}(h:zb7 b=true):BackOk b b:=⟨rfl,rfl,rfl,fun j hj=>⟨zr7.1 (by
 unfold zb7 at h;rw[zb6,qN]at h;exact h.1 _ (zkA hj _)),rfl⟩,id⟩
theorem zZr {b:Bare}(h:zb7 b=true){g:Int}(hg:hasB g (ln b.Guests)=true){y:Guest}(k:GKeep (gAt b g) y):BackOk b (zdV b g y):=by have e:gAt b g=ix b.Guests g gZ:=(by unfold gAt;rw[hg];rfl);refine⟨rfl,rfl,zbL _ _ _,fun j hj=>?_,id⟩;show GKeep _ (ix (up b.Guests g y) j gZ);by_cases hc:g=j;{subst hc;rw[zbe hg,<- e];exact k};{rw [zbr (zB.1 hg).1 (zB.1 hj).1 hc];exact(zg3 h).g j hj}
theorem zp8 {b:Bare}(h:zb7 b=true){g:Int}{c:Bool}{y:Guest}(k:hasB g (ln b.Guests)=true->c=true->GOk (gAt b g)->GKeep (gAt b g) y):BackOk b (chg b g c y):=by unfold chg zcb;rw[h,cond_true];cases hg:hasB g (ln b.Guests) with|false=>exact zg3 h|true=>rw[cond_true];(cases c with|false=>exact zg3 h|true=>refine zZr h hg (k hg rfl ?_);have:=(zg3 h).g g hg;unfold gAt;rw[hg];exact this.ok)
theorem zoJ {h:Host}(S:Safe h)(m:Int){F:Bare->Bare}(hF:∀b,zb7 b=true->BackOk b (F b))(h0:F ⟨[],[],[],0⟩=⟨[],[],[],0⟩):SimT h (zec h m (F (zI h m))) m F:=by unfold zec zcF;rw[zi6.2 S.ok,cond_true];cases hm:hasB m (ln h.Mons) with|false=>refine(SimT.refl S m).congr ?_;rw[seen_none hm];exact h0.symm|true=>exact(z3C S hm (hF _ (zxz S.ok hm))).congr rfl
theorem zj3 {h:Host}(S:Safe h)(m:Int){t:Bare->Bool}(h0:t ⟨[],[],[],0⟩=false):zdF h m (t (zI h m))=t (zI h m):=by unfold zdF zcF;rw[zi6.2 S.ok,cond_true];cases hm:hasB m (ln h.Mons) with|false=>rw[cond_false,seen_none hm,h0]|true=>rfl
theorem zon (g:Int)(c:Bool)(y:Guest):chg ⟨[],[],[],0⟩ g c y=⟨[],[],[],0⟩:=by unfold chg;rw[zso zsa];rfl
theorem zic (g:Int)(c:Bool):zbZ ⟨[],[],[],0⟩ g c=false:=by unfold zbZ;rw[zso zsa];rfl
theorem zTY {t:List Slot}{n q:Int}(h:zdd t n q=true){p:Int}{s:Slot}(hs:zdX s q=true):zdd (zdN t p s) n q=true:=by
 unfold zdN;cases hasB p (ln t) with
 |false=>exact h
 |true=>rw[cond_true];rw[zp6]at h ⊢;rw[zdp];refine⟨fun x hx=>?_,h.2⟩;rcases qZ hx with h1|h1;{exact h.1 x h1};{rw [h1];exact hs}
theorem z6U {x:Guest}(X:GOk x){p:Int}{s:Slot}(h:zrf p s=true):GKeep x (zy6 x p s):=by unfold zrf at h;rw[zb6]at h;exact⟨⟨X.prog,X.a,X.pc,zTY X.w h.2,X.l,X.ctl,X.pend,X.ex,X.seen⟩,rfl⟩
theorem z6R {x:Guest}(X:GOk x){v:Int}(h:zqF x v=true):GKeep x (zvC x v):=by unfold zqF at h;rw[zb6]at h;unfold zvC;cases ieq x.Exit.Kind 2 with|true=>rw[cond_true];have h1:=zii (zXS X h.1) (e:=zjW) rfl;have h2:=zih h1.ok;exact⟨h2.ok,h2.live⟩|false=>rw[cond_false];have h1:=zii X (e:=zjW) rfl;have h2:=zih h1.ok;exact⟨h2.ok,h2.live.trans h1.live⟩
theorem z6T {x:Guest}(X:GOk x):GKeep x (zvP x):=by unfold zvP;have h1:=zii X (e:=zjW) rfl;cases ieq x.Exit.Kind 1 with|true=>exact h1|false=>have h2:=zWr h1.ok;exact⟨h2.ok,h2.live.trans h1.live⟩
theorem zWs {x:Guest}(X:GOk x)(n:Int):GKeep x (zl7 x n):=zWt X (zOC X.pend n)
theorem z6S {x:Guest}(X:GOk x){c:Ctl}(h:zid c=true):GKeep x (zGh x c):=⟨⟨X.prog,X.a,X.pc,X.w,X.l,h,X.pend,X.ex,X.seen⟩,rfl⟩
theorem zA8 (n:Int):∀(ks:List Int) (b:Bare) (l:List Guest),(∀k∈ks,hasB k (ln b.Guests)=true)->BackOk b {b with Guests:=l}->BackOk b {b with Guests:=zkE n ks l}
 |[],b,l,_,h=>h
 |k::ks,b,l,hk,h=>by show BackOk b {b with Guests:=zkE n ks (zDB n l k)};refine zA8 n ks b _ (fun j hj=>hk j (qW _ hj)) ⟨h.m,h.o,by show (up l k _).length=_;rw[zbL];exact h.n,fun j hj=>?_,h.p⟩;show GKeep _ (ix (up l k _) j gZ);have hl:l.length=b.Guests.length:=h.n;have hkl:hasB k (ln l)=true:=(by unfold ln;rw[hl];exact hk k jC);by_cases e:k=j;{subst e;rw[zbe hkl];have h1:=h.g k hj;have h2:=zWs h1.ok n;exact⟨h2.ok,h2.live.trans h1.live⟩};{rw [zbr (zB.1 hkl).1 (zB.1 hj).1 e];exact h.g j hj}
theorem zXj {b:Bare}(h:zb7 b=true)(n:Int):BackOk b (zis b n):=by
 unfold zis zeu zDC;rw[h,cond_true];cases hasB n 8 with
 |false=>exact zg3 h
 |true=>
  rw[cond_true];cases ieq (ln (zdJ b.Guests n)) 0 with
  |true=>have:=zg3 h;exact⟨rfl,rfl,rfl,this.g,fun hp=>zOC hp n⟩
  |false=>rw[cond_false];refine zA8 n _ b b.Guests (fun k hk=>?_) (zg3 h);unfold zdJ at hk;obtain⟨j,hj,rfl,_⟩:=(zG8 (d:=gZ)).1 hk;exact zB.2 ⟨by omega,by unfold ln;omega⟩
theorem zZq {b:Bare}(h:zb7 b=true):BackOk b (zk8 b):=by unfold zk8;rw[h,cond_true];exact⟨rfl,rfl,rfl,(zg3 h).g,fun hp=>zOD hp⟩
theorem z3p {h:Host}(S:Safe h)(m p c v:Int):SimT h (zl5 h m p c v) m (fun b=>zQD b p c v)/\zeJ h m p c v=zwU (zI h m) p c v:=by have e:zeJ h m p c v=zwU (zI h m) p c v:=(by unfold zeJ zwU zcr z5R;rw[zi6.2 S.ok,cond_true];cases hm:hasB m (ln h.Mons) with|false=>rw[seen_none hm,zsa];rfl|true=>rw[zxz S.ok hm,cond_true];rfl);refine⟨?_,e⟩;unfold zl5;cases hc:zeJ h m p c v with|false=>refine(SimT.refl S m).congr ?_;unfold zQD;rw[<- e,hc];rfl|true=>rw[cond_true];have hc':=hc;unfold zeJ at hc';rw[zb6,zb6]at hc';obtain⟨h1,_,_⟩:=hc';obtain⟨_,hm,hp⟩:=zm6.1 h1;have M:=zOw S.ok (m:=m) (p:=p) 2 hm hp;have k0:=M.op.sim S m;have hm1:hasB m (ln (mended h m p 2).Mons)=true:=(by rw[k0.has];exact hm);obtain⟨k1,_⟩:=zvj k0.safe hm1 hp rfl M.inn c v;refine(k0.trans k1).congr ?_;unfold zQD;rw[<- e,hc];rfl
theorem z0z {h:Host}(S:Safe h)(m g page need:Int):zb5 h m g page need=(cond (zcb (zI h m) g) (cond (ziN need) (ze0 (gAt (zI h m) g).Live page need) false) false):=by have e:zbW h m g=zcb (zI h m) g:=(by unfold zbW zcb;rw[zi6.2 S.ok,cond_true];cases hm:hasB m (ln h.Mons) with|false=>rw[seen_none hm,zsa,cond_false,cond_false]|true=>rw[cond_true,zxz S.ok hm,cond_true];have:(zI h m).Guests=(ix h.Mons m mZ).Guests:=(by rw[zeE hm]);rw[this]);unfold zb5;rw[<- e];cases hg:zbW h m g with|false=>rw[cond_false,cond_false]|true=>obtain⟨_,hm,hg⟩:=ziM.1 hg;have:(gAt (zI h m) g).Live=zcK h m g:=(by rw[zsC hm hg];rfl);rw[this]
theorem zGu {h:Host}(S:Safe h)(m g a n:Int)(hn:n=1\/n=2):zmU (zI h m) g a n=bif win a 0 15 then zb5 h m g (zbg a) n else false:=by rw[z0z S];unfold zmU;rw[zFo.2 hn,cond_true];cases zcb (zI h m) g<;>cases win a 0 15<;>rfl
theorem zRx {h:Host}(S:Safe h){m g a n:Int}(hn:n=1\/n=2)(hd:zmU (zI h m) g a n=true) :
 Looked h (zBI h m g a n).1 m g (zbg a) n (zDg (zI h m) g a n) (zBI h m g a n).2.1/\hasB m (ln h.Mons)=true/\hasB (zDg (zI h m) g a n) 8=true:=by
 rw[zGu S m g a n hn,zb6]at hd;obtain⟨L,_⟩:=zOp S true hd.2 S.rt.e2;obtain⟨h1,_,hw⟩:=zpo.1 hd.2;obtain⟨_,hm,hg⟩:=ziM.1 h1;have e:zDg (zI h m) g a n=zcx (zcK h m g) (zbg a) n:=by unfold zDg;rw[zsC hm hg];rfl
 rw[e];exact⟨L,hm,(walked (S.ok.guest hm hg) hw).q8⟩
theorem z8w {h:Host}(S:Safe h)(m g a v:Int):SimT h (zov h m g a v) m (fun b=>zXG b g a v)/\zga h m g a v=zx9 (zI h m) g a v:=by have e:zga h m g a v=zx9 (zI h m) g a v:=(by unfold zga zx9;rw[zGu S m g a 2 (.inr rfl)];cases win a 0 15<;>cases win v 0 99<;>cases zb5 h m g (zbg a) 2<;>rfl);refine⟨?_,e⟩;unfold zov;cases hc:zga h m g a v with|false=>refine(SimT.refl S m).congr ?_;unfold zXG;rw[<- e,hc];rfl|true=>rw[cond_true];have hd:zmU (zI h m) g a 2=true:=(by have:=e.symm.trans hc;unfold zx9 at this;exact(zb6.1 this).1);obtain⟨L,hm,hq⟩:=zRx S (.inr rfl) hd;have k0:=L.op.sim S m;obtain⟨k1,_⟩:=zvj k0.safe (by rw[k0.has];exact hm) hq L.inn L.ne (zc4 a) v;refine(k0.trans k1).congr ?_;unfold zXG;rw[<- e,hc];rfl
theorem z7v {h:Host}(S:Safe h)(m g a:Int):SimT h (zl6 h m g a) m id/\zfr h m g a=zmU (zI h m) g a 1/\zqk h m g a=zQH (zI h m) g a:=by have e:zfr h m g a=zmU (zI h m) g a 1:=(by unfold zfr;rw[zGu S m g a 1 (.inl rfl)]);unfold zl6 zqk zQH;rw[e];cases hd:zmU (zI h m) g a 1 with|false=>exact⟨SimT.refl S m,rfl,rfl⟩|true=>obtain⟨L,hm,hq⟩:=zRx S (.inl rfl) hd;have k0:=L.op.sim S m;obtain⟨_,k2⟩:=zvj k0.safe (by rw[k0.has];exact hm) hq L.inn L.ne (zc4 a) 0;rw[L.op.like.seen m] at k2;exact⟨k0,rfl,k2⟩
theorem z0n {k:Kept}{inner outer:List Slot}(h:KOk k inner outer)(p:Int)(s:Slot):KOk (zbR k p) (zdN inner p s) outer:=by have hl:=zjL k p;have hw:(zdN inner p s).length=inner.length:=(by unfold zdN;cases hasB p (ln inner)<;>simp [zbL]);refine⟨by rw[hl.1,hw,h.l1],by rw[hl.2,hw,h.l2],fun i hi=>?_⟩;have hi1:hasB i (ln inner)=true:=(by unfold ln at hi ⊢;rwa [<- hw]);have hi':hasB i (ln k.Known)=true:=(by unfold ln at hi1 ⊢;rwa [h.l1]);have ha:=zvH (q:=p) (by rw[h.l1,h.l2]) hi';rw[ha.1,ha.2];by_cases e:p=i;{subst e;rw[zbl.2 rfl];rfl};{rw [zbU.2 e,cond_false,cond_false,h.at' i hi1];have:ix (zdN inner p s) i sZ=ix inner i sZ:=(by unfold zdN;cases hp:hasB p (ln inner) with|false=>rfl|true=>exact zbr (zB.1 hp).1 (zB.1 hi1).1 e _ _);rw[this]}
theorem z8T {t m g:Int}(h1:zdf t=m)(h2:zdM t=g)(hm:0<=m):t=zeg m g:=by subst h1;subst h2;by_cases h:1<=t/\t<=6;{have e:t=1\/t=2\/t=3\/t=4\/t=5\/t=6:=(by omega);rcases e with rfl|rfl|rfl|rfl|rfl|rfl<;>decide};{exfalso;have:zdf t = -1:=(by unfold zdf ige ile;rw[show (decide (t≥1)&&decide (t<=6))=false by simp;omega];rfl);omega}
theorem zVX {t:List Slot}{p q:Int}{s:Slot}(h:q≠p):zbz (zdN t p s) q=zbz t q:=by unfold zdN;cases hp:hasB p (ln t) with|false=>rfl|true=>exact zOQ (zB.1 hp).1 h
theorem z3D {t:List Slot}(h:zdd t 4 8=true)(p:Int):zdX (zbz t p) 8=true:=by unfold zbz;cases hp:hasB p (ln t) with|false=>rfl|true=>exact(zp6.1 h).1 _ (zkA hp _)
theorem z0d {x:Guest}(X:GOk x)(p:Int):GOk (zdx x p):=⟨X.prog,X.a,X.pc,X.w,zTY X.l (z3D X.w p),X.ctl,X.pend,X.ex,X.seen⟩
theorem z2I {h:Host}(S:Safe h)(m g p:Int):SimT h (zjM h m g p) m (fun b=>chg b g (hasB p 4) (zdx (gAt b g) p))/\zdF h m (zbZ (zI h m) g (hasB p 4))=zbZ (zI h m) g (hasB p 4):=by
 refine⟨?_,zj3 S m (t:=fun b=>zbZ b g (hasB p 4)) (zic g _)⟩;unfold zjM zcF;rw[zi6.2 S.ok,cond_true];cases hm:hasB m (ln h.Mons) with
 |false=>refine(SimT.refl S m).congr ?_;rw[seen_none hm,zon];rfl
 |true=>
  rw[cond_true];cases hc:zbZ (zI h m) g (hasB p 4) with
  |false=>refine(SimT.refl S m).congr ?_;show zI h m=chg (zI h m) g (hasB p 4) (zdx (gAt (zI h m) g) p);have hc':=hc;unfold zbZ at hc';unfold chg;rw[hc'];rfl
  |true=>rw[cond_true];have hc':=hc;unfold zbZ zcb at hc';rw[zxz S.ok hm,cond_true,zb6,zeE hm]at hc';have hg:hasB g (ln (ix h.Mons m mZ).Guests)=true:=hc'.1;have X:=S.ok.mon hm;have G:=S.ok.seenG hm hg;have e1:chg (zI h m) g (hasB p 4) (zdx (gAt (zI h m) g) p)=zdV (zI h m) g (zdx (gOf h m g) p):=(by have h1:=hc;unfold zbZ at h1;unfold chg;rw[h1,zsC hm hg];rfl);rw[e1];have htg:hasB g (ln (ix h.Mons m mZ).Tables)=true:=(by unfold ln;rw[X.gt];exact hg);have hM:(zBn (zcZ h m (zdV (zI h m) g (zdx (gOf h m g) p))) m g p).Mons=up h.Mons m {ix h.Mons m mZ with Guests:=up (ix h.Mons m mZ).Guests g (zdx (gOf h m g) p),Tables:=up (ix h.Mons m mZ).Tables g (zbR (ix (ix h.Mons m mZ).Tables g kZ) p)}:=(by show up (up h.Mons m _) m _=_;rw[z1E];have e2:ix (zcZ h m (zdV (zI h m) g (zdx (gOf h m g) p))).Mons m mZ=ztN (ix h.Mons m mZ) (zdV (zI h m) g (zdx (gOf h m g) p)):=zbe hm _ _;rw[e2];unfold ztN zdV;rw[zeE hm]);have kp:KeepP (ix h.Mons m mZ) {ix h.Mons m mZ with Guests:=up (ix h.Mons m mZ).Guests g (zdx (gOf h m g) p),Tables:=up (ix h.Mons m mZ).Tables g (zbR (ix (ix h.Mons m mZ).Tables g kZ) p)}:=⟨rfl,rfl⟩;have hy:MOk {ix h.Mons m mZ with Guests:=up (ix h.Mons m mZ).Guests g (zdx (gOf h m g) p),Tables:=up (ix h.Mons m mZ).Tables g (zbR (ix (ix h.Mons m mZ).Tables g kZ) p)}:=zjT X kp (zbL _ _ _) (zbL _ _ _) rfl X.outs X.pend X.tr X.own fun z hz=>(by rcases qZ hz with h|h;{exact X.gs z h};{rw [h];exact zr7.2 (z0d G p)});have hH:HOk (zBn (zcZ h m (zdV (zI h m) g (zdx (gOf h m g) p))) m g p):=S.ok.up hm hy hM S.ok.m12 S.ok.pgs (zx0 S.ok.b1 _) (zx0 S.ok.b2 _) fun q _=>.inl (qY _);have key:∀b:List Entry,(∀e∈b,zcS h e=true)->∀e∈zcz b (zeg m g) p,zcS (zBn (zcZ h m (zdV (zI h m) g (zdx (gOf h m g) p))) m g p) e=true:=(by intro b hb e he;obtain⟨he1,he2⟩:=zyb.1 he;obtain⟨h1,h2,h3⟩:=ze3.1 (hb e he1);rw[ze3,hM,zdp];refine⟨h1,?_⟩;by_cases hcm:m=zdf e.Tag;{rw [<- hcm]at h1 h2 h3 ⊢;rw[zbe hm];show hasB (zdM e.Tag) (ln (up _ _ _))=true/\below' _ (zbu (zbz (ix (up (ix h.Mons m mZ).Guests g _) (zdM e.Tag) gZ).Live e.Page) (ix h.Mons m mZ).Outer)=true;rw[zdp];refine⟨h2,?_⟩;by_cases hcg:g=zdM e.Tag;{rw [<- hcg]at h2 h3 ⊢;rw[zbe hg];have hne:e.Page≠p:=fun hp=>he2 ⟨z8T hcm.symm hcg.symm (zB.1 hm).1,hp⟩;show below' _ (zbu (zbz (zdN (gOf h m g).Live p _) e.Page) _)=true;rw[zVX hne];exact h3};{rw [zbr (zB.1 hg).1 (zB.1 h2).1 hcg];exact h3}};{rw [zbr (zB.1 hm).1 (zB.1 h1).1 hcm];exact⟨h2,h3⟩});refine⟨⟨hH,⟨fun i hi=>?_,key _ S.rt.e1,key _ S.rt.e2⟩⟩,fun i=>?_,by rw[hM,zbL]⟩;{rw [hM]at hi ⊢;rw[zdp]at hi;by_cases hcm:m=i;{subst hcm;rw[zbe hm];intro j hj;show KOk (ix (up (ix h.Mons m mZ).Tables g _) j kZ) (ix (up (ix h.Mons m mZ).Guests g _) j gZ).Live (ix h.Mons m mZ).Outer;have hj':hasB j (ln (ix h.Mons m mZ).Guests)=true:=(by have:hasB j (ln (up (ix h.Mons m mZ).Guests g (zdx (gOf h m g) p)))=true:=hj;rwa [zdp] at this);by_cases e:g=j;{subst e;rw[zbe htg,zbe hg];exact z0n (S.rt.t m hm g hg) p _};{rw [zbr (zB.1 hg).1 (zB.1 hj').1 e,zbr (zB.1 hg).1 (zB.1 hj').1 e];exact S.rt.t m hm j hj'}};{rw [zbr (zB.1 hm).1 (zB.1 hi).1 hcm];exact S.rt.t i hi}};{refine(zts (h:=h) hm hM rfl kp i).trans ?_;by_cases e:i=m;{subst e;rw[zbl.2 rfl,cond_true,cond_true,e1,zeE hm];rfl};{rw [zbU.2 e];rfl}}
theorem zOZ (g:Int):zhj ⟨[],[],[],0⟩ g=⟨[],[],[],0⟩/\zkr ⟨[],[],[],0⟩ g=false:=by have:zkr ⟨[],[],[],0⟩ g=false:=(by unfold zkr;rw[zWz];rfl);refine⟨?_,this⟩;unfold zhj;rw[this];rfl
theorem z2Q {h:Host}(S:Safe h)(a:GAct):SimT h (zsN h a) a.M (fun b=>zIw b a)/\zBG h a=zIx (zI h a.M) a:=by
 have hn:=zsa;unfold zsN zBG zIw zIx;cases ieq a.Kind 1 with
 |true=>obtain⟨k,e⟩:=step_ok S a.M a.G;exact⟨k,by rw[cond_true,cond_true,e]⟩
 |false=>
  simp only[cond_false];cases ieq a.Kind 2 with
  |true=>
   exact⟨zoJ S a.M (F:=fun b=>chg b a.G (zrf a.X ⟨a.Y,a.Z⟩) (zy6 (gAt b a.G) a.X ⟨a.Y,a.Z⟩)) (fun b hb=>zp8 hb fun _ hc G=>z6U G hc) (zon _ _ _),
    congrArg (fun t=>Told.mk t 0) (zj3 S a.M (t:=fun b=>zbZ b a.G (zrf a.X ⟨a.Y,a.Z⟩)) (zic _ _))⟩
  |false=>
   simp only[cond_false];cases ieq a.Kind 3 with
   |true=>obtain⟨k,e⟩:=z2I S a.M a.G a.X;exact⟨k,congrArg (fun t=>Told.mk t 0) e⟩
   |false=>
    simp only[cond_false];cases ieq a.Kind 4 with
    |true=>
     exact⟨zoJ S a.M (F:=fun b=>chg b a.G (zqF (gAt b a.G) a.X) (zvC (gAt b a.G) a.X)) (fun b hb=>zp8 hb fun _ hc G=>z6R G hc) (zon _ _ _),
      congrArg (fun t=>Told.mk t 0) (zj3 S a.M (t:=fun b=>zbZ b a.G (zqF (gAt b a.G) a.X)) (zic _ _))⟩
    |false=>
     simp only[cond_false];cases ieq a.Kind 5 with
     |true=>
      exact⟨zoJ S a.M (F:=fun b=>chg b a.G (zvO (gAt b a.G)) (zvP (gAt b a.G))) (fun b hb=>zp8 hb fun _ _ G=>z6T G) (zon _ _ _),
       congrArg (fun t=>Told.mk t 0) (zj3 S a.M (t:=fun b=>zbZ b a.G (zvO (gAt b a.G))) (zic _ _))⟩
     |false=>
      simp only[cond_false];cases ieq a.Kind 6 with
      |true=>
       exact⟨zoJ S a.M (F:=fun b=>chg b a.G (zfF (gAt b a.G).Pending a.X) (zl7 (gAt b a.G) a.X)) (fun b hb=>zp8 hb fun _ _ G=>zWs G _) (zon _ _ _),
        congrArg (fun t=>Told.mk t 0) (zj3 S a.M (t:=fun b=>zbZ b a.G (zfF (gAt b a.G).Pending a.X)) (zic _ _))⟩
      |false=>
       simp only[cond_false];cases ieq a.Kind 7 with
       |true=>
        exact⟨zoJ S a.M (F:=fun b=>chg b a.G (zid ⟨a.X,a.Y,ieq a.Z 1⟩) (zGh (gAt b a.G) ⟨a.X,a.Y,ieq a.Z 1⟩)) (fun b hb=>zp8 hb fun _ hc G=>z6S G hc) (zon _ _ _),
         congrArg (fun t=>Told.mk t 0) (zj3 S a.M (t:=fun b=>zbZ b a.G (zid ⟨a.X,a.Y,ieq a.Z 1⟩)) (zic _ _))⟩
       |false=>
        simp only[cond_false];cases ieq a.Kind 8 with
        |true=>obtain⟨k,e⟩:=z3p S a.M a.X a.Y a.Z;exact⟨k,congrArg (fun t=>Told.mk t 0) e⟩
        |false=>
         simp only[cond_false];cases ieq a.Kind 9 with
         |true=>
          exact⟨zoJ S a.M (F:=fun b=>zis b a.X) (fun b hb=>zXj hb _) (by unfold zis zeu;rw[hn];rfl),
           congrArg (fun t=>Told.mk t 0) (zj3 S a.M (t:=fun b=>zeu b a.X) (by unfold zeu;rw[hn];rfl))⟩
         |false=>
          simp only[cond_false];cases ieq a.Kind 10 with
          |true=>refine⟨zoJ S a.M (F:=zk8) (fun b hb=>zZq hb) (by unfold zk8;rw[hn];rfl),?_⟩;have e:=zj3 S a.M (t:=zkp) (by unfold zkp;rw[hn];rfl);show Told.mk (zdF h a.M (zkp (zI h a.M))) (cond (zcF h a.M) (zqE (zI h a.M)) (-1))=⟨zkp (zI h a.M),zqE (zI h a.M)⟩;rw[e];congr 1;unfold zcF;rw[zi6.2 S.ok,cond_true];cases hm:hasB a.M (ln h.Mons) with|true=>rfl|false=>rw[seen_none hm];unfold zqE;rw[hn];rfl
          |false=>
           simp only[cond_false];cases ieq a.Kind 11 with
           |true=>obtain⟨k,e⟩:=z8w S a.M a.G a.X a.Y;exact⟨k,congrArg (fun t=>Told.mk t 0) e⟩
           |false=>obtain⟨k,e1,e2⟩:=z7v S a.M a.G a.X;exact⟨k,by simp only[cond_false];rw[e1,e2]⟩
theorem z3i {h:Host}(S:Safe h)(a:GAct):Safe (zll h a)/\(∀i,zI (zll h a) i=zI h i)/\(zll h a).Mons.length=h.Mons.length:=by
 unfold zll;have k:∀r,Op h r->Safe r/\(∀i,zI r i=zI h i)/\r.Mons.length=h.Mons.length:=fun r k=>⟨k.safe S,fun i=>k.like.seen i,k.like.len⟩;cases ieq a.Kind 13 with
 |true=>exact k _ (zYp S.ok _ _)
 |false=>
  simp only[cond_false];cases ieq a.Kind 14 with
  |true=>exact k _ (z0N S.ok _ _)
  |false=>
   simp only[cond_false];cases ieq a.Kind 15 with
   |true=>exact k _ (z0M S.ok _ _)
   |false=>
    simp only[cond_false];cases ieq a.Kind 16 with
    |true=>obtain⟨h1,h2⟩:=zQf S a.M a.X;refine⟨h1,h2,?_⟩;simp only[cond_true];unfold ziE;cases zcc h<;>cases hasB a.M (ln h.Mons)<;>cases win a.X 0 3<;>first|rfl|exact zbL _ _ _
    |false=>exact k _ (z7r S.ok)
def zjt (a:GAct):Bool:=bif win a.Kind 1 17 then !win a.Kind 13 17 else false
theorem zZk {h:Host}(S:Safe h)(a:GAct):Safe (zd1 h a)/\(zd1 h a).Mons.length=h.Mons.length/\
 (∀i,zI (zd1 h a) i=bif (cond (zjt a) (ieq i a.M) false) then zIw (zI h i) a else zI h i)/\(zjt a=true->zij h a=zIx (zI h a.M) a):=by
 unfold zd1 zij zjt;cases win a.Kind 1 17 with
 |false=>exact⟨S,rfl,fun _=>rfl,fun e=>by cases e⟩
 |true=>
  simp only[cond_true];cases win a.Kind 13 17 with
  |true=>obtain⟨h1,h2,h3⟩:=z3i S a;exact⟨h1,h3,fun i=>by simp only[cond_true,u1,cond_false];exact h2 i,fun e=>by cases e⟩
  |false=>obtain⟨k,e⟩:=z2Q S a;exact⟨k.safe,k.len,fun i=>by simp only[cond_false,Bool.not_false,cond_true];exact k.seen i,fun _=>e⟩
def zdi (h:Host):List Bare:=(List.range h.Mons.length).map fun (i:Nat)=>zI h (i:Int)
theorem zi3 (h:Host):(zdi h).length=h.Mons.length:=by simp[zdi]
theorem zld (h:Host)(m:Int):hasB m (ln (zdi h))=hasB m (ln h.Mons):=by unfold ln;rw[zi3]
theorem zkq {h:Host}{m:Int}(hm:hasB m (ln h.Mons)=true)(d:Bare):ix (zdi h) m d=zI h m:=by have hm':=zB.1 hm;unfold ln at hm';have hk:m.toNat<(zdi h).length:=(by rw[zi3];omega);have:=zjR hk d;rw[show ((m.toNat:Nat):Int)=m by omega] at this;rw[this];simp[zdi,show max m 0=m by omega]
theorem zXf {h r:Host}(hl:r.Mons.length=h.Mons.length)(e:∀i,zI r i=zI h i):zdi r=zdi h:=by unfold zdi;rw[hl];exact List.map_congr_left fun i _=>e _
theorem zUA {h:Host}(S:Safe h)(a:GAct):zdi (zd1 h a)=zIy (zdi h) a/\(zjt a=true->zij h a=zXi (zdi h) a):=by obtain⟨_,hl,hs,ht⟩:=zZk S a;have key:zjt a=true->zdi (zd1 h a)=(cond (hasB a.M (ln h.Mons)) (up (zdi h) a.M (zIw (zI h a.M) a)) (zdi h)):=(by intro hi;rw[hi]at hs;cases hm:hasB a.M (ln h.Mons) with|false=>rw[cond_false];refine zMM ⟨[],[],[],0⟩ (by rw[zi3,zi3,hl]) fun i hi'=>?_;rw[zld]at hi';rw[zkq hi'];have hi2:hasB i (ln h.Mons)=true:=(by unfold ln at hi' ⊢;rwa [<- hl]);rw[zkq hi2,hs i];have:ieq i a.M=false:=zbU.2 fun e=>(by rw[e,hm]at hi2;cases hi2);rw[this];rfl|true=>rw[cond_true];refine zMM ⟨[],[],[],0⟩ (by rw[zbL,zi3,zi3,hl]) fun i hi'=>?_;rw[zld]at hi';rw[zkq hi',hs i];have hi2:hasB i (ln h.Mons)=true:=(by unfold ln at hi' ⊢;rwa [<- hl]);by_cases e:i=a.M;{rw [e,zbl.2 rfl,zbe (by rw[zld];exact hm)];rfl};{rw [zbU.2 e,zbr (zB.1 hm).1 (zB.1 hi2).1 (Ne.symm e),zkq hi2];rfl});have e2:zjt a=false->zdi (zd1 h a)=zdi h:=fun hi=>zXf hl fun i=>(by rw[hs i,hi];rfl);have ke:zjt a=true->win a.Kind 1 17=true/\win a.Kind 13 17=false:=(by intro hi;unfold zjt at hi;cases h1:win a.Kind 1 17<;>cases h2:win a.Kind 13 17<;>rw [h1,h2]at hi<;>first|exact⟨rfl,rfl⟩|cases hi);constructor;{unfold zIy;cases hi:zjt a with|true=>obtain⟨h1,h2⟩:=ke hi;rw[h1,h2,cond_true,cond_false,zld,key hi];(cases hm:hasB a.M (ln h.Mons) with|true=>rw[cond_true,cond_true,zkq hm]|false=>rfl)|false=>rw[e2 hi];unfold zjt at hi;(cases h1:win a.Kind 1 17 with|false=>rfl|true=>(cases h2:win a.Kind 13 17 with|true=>rfl|false=>rw[h1,h2]at hi;cases hi))};{intro hi;rw[ht hi];obtain⟨h1,h2⟩:=ke hi;unfold zXi;rw[h1,h2,cond_true,cond_false,zld];cases hm:hasB a.M (ln h.Mons) with|true=>rw[cond_true,zkq hm]|false=>rw[cond_false,seen_none hm];have hs1:=(zOZ a.G).2;have hn:=zsa;unfold zIx;simp only[hs1,zic];unfold zwU zeu zkp zqE zx9 zQH zmU;simp only[hn,zso hn,cond_false];(cases h10:ieq a.Kind 10 with|true=>have:a.Kind=10:=zbl.1 h10;rw[this];rfl|false=>cases ieq a.Kind 1<;>cases ieq a.Kind 2<;>cases ieq a.Kind 3<;>cases ieq a.Kind 4<;>cases ieq a.Kind 5<;>cases ieq a.Kind 6<;>cases ieq a.Kind 7<;>cases ieq a.Kind 8<;>cases ieq a.Kind 9<;>cases ieq a.Kind 11<;>rfl)}
def zJH:List GAct->List Told->List Told
 |a::l,t::ts=>bif zjt a then t::zJH l ts else zJH l ts
 |_,_=>[]
structure Live (u:Host×List Told) (v:List Bare×List Told):Prop where
 safe:Safe u.1
 seen:zdi u.1=v.1
def zC3:List GAct->Host->List Told
 |[],_=>[]
 |a::l,h=>zij h a::zC3 l (zd1 h a)
def z1C:List GAct->List Bare->List Told
 |[],_=>[]
 |a::l,b=>zXi b a::z1C l (zIy b a)
def ztV:List GAct->Host->Host
 |[],h=>h
 |a::l,h=>ztV l (zd1 h a)
def z2E:List GAct->List Bare->List Bare
 |[],b=>b
 |a::l,b=>z2E l (zIy b a)
theorem zWN:∀(l:List GAct) (u:Host×List Told),zB2 l u=(ztV l u.1,u.2++zC3 l u.1)
 |[],u=>by simp[zB2,ztV,zC3]
 |a::l,u=>by rw[zB2,zWN l];simp[ztV,zC3,ap]
theorem zZ2:∀(l:List GAct) {h:Host},Safe h->Safe (ztV l h)/\zdi (ztV l h)=z2E l (zdi h)/\zJH l (zC3 l h)=zJH l (z1C l (zdi h))/\(ztV l h).Mons.length=h.Mons.length
 |[],h,S=>⟨S,rfl,rfl,rfl⟩
 |a::l,h,S=>by have h1:=zZk S a;have h2:=zUA S a;obtain⟨e1,e2,e3,e4⟩:=zZ2 l h1.1;refine⟨e1,by show zdi (ztV l (zd1 h a))=z2E l (zIy (zdi h) a);rw[e2,h2.1],?_,e4.trans h1.2.1⟩;show (cond (zjt a) _ _)=(cond (zjt a) _ _);cases hi:zjt a with|false=>rw[cond_false,cond_false,e3,h2.1]|true=>rw[cond_true,cond_true,e3,h2.1,h2.2 hi]
theorem cz8 (q:Int)(hq:0<=q):ztv.countP (fun s=>ieq s.Page q)=0:=by rw[u5];intro s hs;have:=(uO.1 hs).2;rw[this];show ¬ ieq (-1) q=true;rw[zbl];omega
theorem zUT {p:List Ins}(h:zdq p=true):GOk (zeh p):=⟨h,rfl,rfl,rfl,rfl,rfl,rfl,rfl,rfl⟩
theorem z0G {ps:List (List Ins)}(h1:1<=ps.length)(h:∀p∈ps,zdq p=true):MOk (zf2 ps):=by have e8:∀s∈ztv,s=noSlot:=fun s hs=>(uO.1 hs).2;refine⟨?_,?_,?_,rfl,fun s hs=>.inl (e8 s hs),rfl,rfl,jX _,rfl,rfl,rfl,fun g hg=>?_,fun p hp=>?_⟩;{show 1<=((ps.take 2).map zeh).length;simp;omega};{show ((ps.take 2).map zeh).length<=2;simp;omega};{show ((ps.take 2).map (fun _=>zi9)).length=((ps.take 2).map zeh).length;simp};{obtain⟨p,hp,rfl⟩:=jE.1 hg;exact zr7.2 (zUT (h p (jR hp)))};{have hp':=zB.1 hp;have e:p=0\/p=1\/p=2\/p=3\/p=4\/p=5\/p=6\/p=7:=(by omega);rcases e with rfl|rfl|rfl|rfl|rfl|rfl|rfl|rfl<;>rfl}
def z6c (ps:List (List (List Ins))):Prop:=1<=ps.length/\∀p∈ps,1<=p.length/\∀x∈p,zdq x=true
theorem zXY {ps:List (List (List Ins))}(h:z6c ps):Safe (ze1 ps):=by have hmem:∀x∈(ze1 ps).Mons,∃p∈ps,x=zf2 p:=fun x hx=>(by obtain⟨p,hp,rfl⟩:=jE.1 hx;exact⟨p,jR hp,rfl⟩);have hO:∀x∈(ze1 ps).Mons,x.Outer=ztv:=fun x hx=>(by obtain⟨p,_,rfl⟩:=hmem x hx;rfl);have H:HOk (ze1 ps):=(by refine⟨rfl,fun c hc=>?_,?_,?_,rfl,rfl,fun x hx=>?_,fun q hq=>?_⟩;{have:c=[0,0,0,0]:=(uO.1 hc).2;rw[this];rfl};{show 1<=((ps.take 3).map zf2).length;have:=h.1;simp;omega};{show ((ps.take 3).map zf2).length<=3;simp;omega};{obtain⟨p,hp,rfl⟩:=hmem x hx;exact z0G (h.2 p hp).1 (h.2 p hp).2};{have:zdH (ze1 ps).Mons q=0:=(by unfold zdH;have:(ze1 ps).Mons.map (fun x=>cPg x q)=(ze1 ps).Mons.map (fun _=>0):=List.map_congr_left fun x hx=>(by unfold cPg;rw[hO x hx];exact cz8 q hq);rw[this];generalize (ze1 ps).Mons=l;induction l with|nil=>rfl|cons x l ih=>rw[jB,kQ,ih]);omega});refine⟨H,fun m hm g hg=>?_,fun e he=>(by cases he),fun e he=>(by cases he)⟩;obtain⟨p,hp,e⟩:=hmem _ (zkA hm mZ);rw[e]at hg ⊢;have hg1:hasB g (ln ((p.take 2).map zeh))=true:=hg;have ht:ix (zf2 p).Tables g kZ=zi9:=(by have:hasB g (ln ((p.take 2).map (fun _=>zi9)))=true:=(by unfold ln at hg1 ⊢;simpa using hg1);obtain⟨k,hk,_,e2⟩:=zyv this kZ;show ix ((p.take 2).map (fun _=>zi9)) g kZ=_;rw[e2];simp);have hl:(ix (zf2 p).Guests g gZ).Live=zkj:=(by obtain⟨k,hk,_,e2⟩:=zyv hg1 gZ;show (ix ((p.take 2).map zeh) g gZ).Live=_;rw[e2];simp[zeh]);rw[ht,hl];show KOk zi9 zkj ztv;refine⟨rfl,rfl,fun i hi=>?_⟩;have hi':=zB.1 hi;have:ln zkj=4:=rfl;rw[this]at hi';have e4:i=0\/i=1\/i=2\/i=3:=(by omega);rcases e4 with rfl|rfl|rfl|rfl<;>rfl
end
end Go.Proofs.YthdlghbibaoabaaGreat.E
