/- What is proved here: a part of the proof that the statement of this claim holds (several texts of wip/, laid together). -/
import Derived.Test.YtlilleghlfnipaaGreatV3
namespace Go.Proofs.YtlilleghlfnipaaGreat.E
open Go
set_option linter.unusedVariables false
set_option maxRecDepth 100000
set_option linter.unusedSimpArgs false
set_option linter.unusedSectionVars false
noncomputable section
theorem zev {c:Cur}{i k:Int}(h:zc2 c)(h0:0<=i):zc2 ⟨c.b,i,k⟩:=⟨h0,h.2⟩
theorem zWp {c:Cur}(h:zc2 c){l:List Int}(hl:l≠[]):zeg c l∈l:=(zmx (zDx h hl)).2.2 (List.length_pos_iff.2 hl)
theorem zlU {c:Cur}(h:zc2 c){n:Int}(hn:0<n):0<=zW c n/\zW c n<n:=(zlD (zhv h n)).2.2 hn
theorem zC2 {o x:Int}(h:(o=1\/o=2\/o=5\/o=6)/\0<=x/\x<=99\/(o=3\/o=4)/\0<=x/\x<=15\/o=8/\0<=x/\x<=11):zdJ ⟨o,x⟩=true:=by
 have w:∀{a b:Int},a<=x->x<=b->win x a b=true:=fun h1 h2=>by simp only [win,ige,ile,Bool.and_eq_true,decide_eq_true_eq];exact ⟨h1,h2⟩
 rcases h with ⟨h|h|h|h,h1,h2⟩|⟨h|h,h1,h2⟩|⟨h,h1,h2⟩<;>subst h<;>exact w h1 h2
def zkJ (N:Nat)(c:Cur)  : OA :=
 let y1:=(zeg c [1,2,3,3,3,4,4,4,5,6,8]);let y0:=({ (zbH c [1,2,3,3,3,4,4,4,5,6,8]) with b:=c.b }:Cur); (share (oN (zV y0 16) (some [(.agg [(.s .u8 c.b),(.i .i64 (zu y0 16).i),(.i .i64 (zu y0 16).h)]),(.agg [(.i .i64 y1),(.i .i64 (zW y0 16))])])) (fun t1=>(share (cond (ieq y1 8) (oN (zV y0 4) (some [(.agg [(.s .u8 c.b),(.i .i64 (zu y0 4).i),(.i .i64 (zu y0 4).h)]),(.agg [(.i .i64 y1),(.i .i64 (zW y0 4))])])) (oN (zV y0 100) (some [(.agg [(.s .u8 c.b),(.i .i64 (zu y0 100).i),(.i .i64 (zu y0 100).h)]),(.agg [(.i .i64 y1),(.i .i64 (zW y0 100))])]))) (fun t0=>(oN (zcR c [1,2,3,3,3,4,4,4,5,6,8]) (cond (ieq y1 3) (cond (ieq y1 3) t1 t0) (cond (ieq y1 4) t1 t0)))))))
theorem zMD (N:Nat)(c:Cur)  : zhS (cQ zlX zj7 zPe zjk) (zA []) N 12 93 [false,true,true] (zbr c) []=zkJ N c:=by kernel_rfl
def zjJ (c:Cur)(s:Cur)(v0:Ins):Prop:=(∃N,zkJ N c=some (AV.agg (zbr s) :: [aT .ins v0]))/\(s.b=c.b/\0<=s.i)/\(zdJ v0=true)
def zgb (c:Cur)  : Bool:=pc (∃s v0,zjJ c s v0)
def zoP (c:Cur)  : Cur×Ins:=Classical.epsilon fun r=>zjJ c r.1 r.2
def zff (c:Cur)  : Cur:=bif zgb c then (zoP c).1 else ⟨[],0,0⟩
def zpT (c:Cur)  : Ins:=(zoP c).2
theorem ztX {c:Cur}(h:zgb c=true):zjJ c (zff c) (zpT c):=by
 obtain ⟨s,v0,h2⟩:=zJ.1 h;have h3:zjJ c (zoP c).1 (zoP c).2:=Classical.epsilon_spec (p:=fun r=>zjJ c r.1 r.2) ⟨(s,v0),h2⟩;unfold zff;rw [h,cT];exact h3
theorem zPq (c:Cur)  : 0<=(zff c).i:=by
 unfold zff;cases h:zgb c with
 | false=>exact Int.le_refl 0
 | true =>
  have:=(ztX h).2.1.2;unfold zff at this
  rwa [h] at this
theorem zPp (c:Cur)(h:∃N,Ends (fun a=>∃s v0,a=(AV.agg (zbr s) :: [aT .ins v0])/\(s.b=c.b/\0<=s.i)/\(zdJ v0=true)) (zkJ N c)):zgb c=true:=by
 obtain ⟨N,a,e,s,v0,rfl,h⟩:=h;exact zbc ⟨s,v0,⟨N,e⟩,h⟩
def zn0:List CV->List AV->Option (Bool×List CV×List AV)
 | [.s .u8 b,.i .i64 c,.i .i64 d],[]=>some ((zgb (⟨b,c,d⟩:Cur)),zbr (zff (⟨b,c,d⟩:Cur)),[aT .ins (zpT (⟨b,c,d⟩:Cur))])
 | _,_=>none
theorem zKp (c:Cur)(hb:zci big (.agg (zbr c) :: []))(hc:(zgb c)=true):∃N,zkJ N c=some (.agg (zbr (zff c)) :: [aT .ins (zpT c)]):=by
 exact (ztX hc).1
theorem zEQ:zdS Tryz.prog 93 [false,true,true] zn0:=by
 refine zcD (zda zfu zbs zKU zB) (zeW (by kernel_rfl)) ?_
 intro cs avs cs' rs hl hr h;have hb:=zcX hr;unfold zn0 at h;split at h
 ·obtain ⟨hc,rfl,rfl⟩:=zdm h;obtain ⟨N,hN⟩:=zKp _ (by exact hb) hc
  exact ⟨rfl,_,N,12,(zMD N _ ).trans hN⟩
 ·cases h
theorem zU0 {c:Cur}(h:zc2 c):zgb c=true:=by
 refine zPp c ⟨0,?_⟩;have hk:([1,2,3,3,3,4,4,4,5,6,8]:List Int)≠[]:=by simp
 have hm:=zWp h hk;have h1:zc2 { zbH c [1,2,3,3,3,4,4,4,5,6,8] with b:=c.b }:=zev h (zjb _ _);have b16:=zlU h1 (n:=16) (by omega)
 have b4:=zlU h1 (n:=4) (by omega)
 have b100:=zlU h1 (n:=100) (by omega)
 unfold zkJ oN
 conv=>zeta
 generalize zeg c [1,2,3,3,3,4,4,4,5,6,8]=o at hm;simp only [List.mem_cons,List.not_mem_nil,or_false] at hm;have no:∀{n:Int},ieq o n=false->o≠n:=fun h e=>by subst e;simp [ieq] at h
 have ye:∀{n:Int},ieq o n=true->o=n:=fun h=>by simpa [ieq] using h
 have L:∀(n:Int),0<n->(zdJ ⟨o,zW { zbH c [1,2,3,3,3,4,4,4,5,6,8] with b:=c.b } n⟩=true)->Ends (fun a=>∃s v0,a=(AV.agg (zbr s) :: [aT .ins v0])/\(s.b=c.b/\0<=s.i)/\zdJ v0=true)
  (cond (zV { zbH c [1,2,3,3,3,4,4,4,5,6,8] with b:=c.b } n) (some (AV.agg [.s .u8 c.b,.i .i64 (zu { zbH c [1,2,3,3,3,4,4,4,5,6,8] with b:=c.b } n).i,.i .i64 (zu { zbH c [1,2,3,3,3,4,4,4,5,6,8] with b:=c.b } n).h] :: [.agg [.i .i64 o,.i .i64 (zW { zbH c [1,2,3,3,3,4,4,4,5,6,8] with b:=c.b } n)]])) none) :=
  fun n hn hi=>zbB (zhv h1 n) (ziI (aT .ins) (v:=⟨o,zW _ n⟩) (zcj _ _) hi)
 refine zbB (zDx h hk) (zcP (fun h3=>zcP (fun _=>L 16 (by omega) (zC2 ?_)) (fun h4=>absurd (ye h3) (no h4))) (fun h3=>zcP (fun h4=>L 16 (by omega) (zC2 ?_)) (fun h4=>zcP (fun h8=>L 4 (by omega) (zC2 ?_)) (fun h8=>L 100 (by omega) (zC2 ?_)))))
 ·have:=ye h3;omega
 ·have:=ye h4;omega
 ·have:=ye h8;omega
 ·have:=no h3;have:=no h4;have:=no h8;omega
def zPf:zc7:=[(93,([false,true,true],zn0))]++zPe
theorem zKV:zct zPf:=zfK zKU (by
 intro x hx;simp only [List.mem_cons,List.not_mem_nil,or_false] at hx;rcases hx with rfl
 ·exact zEQ)
theorem zkG {x y:Int}(h0:0<=x)(h1:x<=1000000)(h2:0<=y)(h3:y<=1000000):zK .i64 x y=x+y:=zhP (by omega) (by omega)
theorem zvS {α:Type}{l:List α}(h:ln l<=1000000):few (ln l)=true:=decide_eq_true ⟨by unfold ln;omega,by omega⟩
theorem zoC {α:Type}(l:List α)(x:α):ln (ap l [x])=ln l+1:=by simp [ln,ap]
def zjn (N:Nat)(c:Cur)  : OA :=
 (iter (σ:=(Int×(Int×(Int×(lI×((List Int)×Unit)))))) N (fun r2 s3=>let y3:=s3.2.2.2.1;let y2:=s3.2.2.2.2.1;let y1:=(⟨y2,s3.2.1,s3.2.2.1⟩:Cur);let y0:=({ (zu y1 7) with b:=y2 }:Cur); (oN (zV y1 7) (cond (ilt s3.1 (zK .i64 2 (zW y1 7))) (oN (zgb y0) (oN (few (ln (ap y3 [(zpT y0)]))) (r2 ((zK .i64 s3.1 1),((zff y0).i,((zff y0).h,((ap y3 [(zpT y0)]),(y2,())))))))) (oN (zdE y0 3) (cond (zir y0 3) (oN (few (ln (ap y3 [(⟨7,0⟩:Ins)]))) (some [(.agg [(.s .u8 y2),(.i .i64 (zb8 y0 3).i),(.i .i64 (zb8 y0 3).h)]),(aS .ins (ap y3 [(⟨7,0⟩:Ins)]))])) (oN (few (ln (ap y3 [(⟨8,0⟩:Ins)]))) (some [(.agg [(.s .u8 y2),(.i .i64 (zb8 y0 3).i),(.i .i64 (zb8 y0 3).h)]),(aS .ins (ap y3 [(⟨8,0⟩:Ins)]))]))))))) (0,(c.i,(c.h,([],(c.b,()))))))
def zIs:FuncId->Nat->Option Tmpl:=zA [(51,0,{ n:=29,tm:=[(0,.lp 0 0),(3,.sl 0 []),(4,ti)],lo:=[(0,[.sl 1 [],ti,ti])],ro:=[(0,.ins,true),(1,.u8,false)] })]
theorem zKK (N:Nat)(c:Cur)  : zhS (cQ zlX zj7 zPf zjk) zIs N 12 51 [false,true,true] (zbr c) []=zjn N c:=by kernel_rfl
def zit (c:Cur)(s:Cur)(v0:List Ins):Prop:=(∃N,zjn N c=some (AV.agg (zbr s) :: [aS .ins v0]))/\(s.b=c.b/\0<=s.i)/\(zcZ v0=true)
def zeI (c:Cur)  : Bool:=pc (∃s v0,zit c s v0)
def znp (c:Cur)  : Cur×List Ins:=Classical.epsilon fun r=>zit c r.1 r.2
def zdX (c:Cur)  : Cur:=bif zeI c then (znp c).1 else ⟨[],0,0⟩
def zkz (c:Cur)  : List Ins:=(znp c).2
theorem zrS {c:Cur}(h:zeI c=true):zit c (zdX c) (zkz c):=by
 obtain ⟨s,v0,h2⟩:=zJ.1 h;have h3:zit c (znp c).1 (znp c).2:=Classical.epsilon_spec (p:=fun r=>zit c r.1 r.2) ⟨(s,v0),h2⟩;unfold zdX;rw [h,cT];exact h3
theorem zMQ (c:Cur)  : 0<=(zdX c).i:=by
 unfold zdX;cases h:zeI c with
 | false=>exact Int.le_refl 0
 | true =>
  have:=(zrS h).2.1.2;unfold zdX at this
  rwa [h] at this
theorem zMP (c:Cur)(h:∃N,Ends (fun a=>∃s v0,a=(AV.agg (zbr s) :: [aS .ins v0])/\(s.b=c.b/\0<=s.i)/\(zcZ v0=true)) (zjn N c)):zeI c=true:=by
 obtain ⟨N,a,e,s,v0,rfl,h⟩:=h;exact zbc ⟨s,v0,⟨N,e⟩,h⟩
def zmf:List CV->List AV->Option (Bool×List CV×List AV)
 | [.s .u8 b,.i .i64 c,.i .i64 d],[]=>some ((zeI (⟨b,c,d⟩:Cur)),zbr (zdX (⟨b,c,d⟩:Cur)),[aS .ins (zkz (⟨b,c,d⟩:Cur))])
 | _,_=>none
theorem zH3 (c:Cur)(hb:zci big (.agg (zbr c) :: []))(hc:(zeI c)=true):∃N,zjn N c=some (.agg (zbr (zdX c)) :: [aS .ins (zkz c)]):=by
 exact (zrS hc).1
theorem zCP:zdS Tryz.prog 51 [false,true,true] zmf:=by
 refine zcD (zda zfu zbs zKV zB) (zeW (by kernel_rfl)) ?_
 intro cs avs cs' rs hl hr h;have hb:=zcX hr;unfold zmf at h;split at h
 ·obtain ⟨hc,rfl,rfl⟩:=zdm h;obtain ⟨N,hN⟩:=zH3 _ (by exact hb) hc
  exact ⟨rfl,_,N,12,(zKK N _ ).trans hN⟩
 ·cases h
theorem zRr {c:Cur}(h:zc2 c):zeI c=true:=by
 refine zMP c ⟨9,?_⟩;unfold zjn oN
 conv=>zeta
 refine zse (fun n s=>s.1+(n:Int)=8/\0<=s.1/\0<=s.2.1/\(∀x∈s.2.2.2.1,zdJ x=true)/\ln s.2.2.2.1=s.1/\s.2.2.2.2.1=c.b) ?_ 9 8 _ ⟨rfl,Int.le_refl 0,h.1,by simp,rfl,rfl⟩ (by omega)
 rintro n ⟨t,i,k,l,b,u⟩ rec ⟨h1,h2,h3,h4,h5,h6⟩ hrec
 dsimp only at h1 h2 h3 h4 h5 h6 ⊢
 subst h6;have hcur:zc2 ⟨c.b,i,k⟩:=zev h h3;have hx:=zlU hcur (n:=7) (by omega)
 have hw:=zkG (x:=2) (by omega) (by omega) hx.1 (by omega)
 have h7:zc2 { zu ⟨c.b,i,k⟩ 7 with b:=c.b }:=zev h (zcj _ _);have fin:∀(y:Ins),zdJ y=true->2<=t->zcZ (ap l [y])=true:=by
  intro y hy ht;unfold zcZ;rw [zoC,h5];have:(ap l [y]).all zdJ=true:=by
   simp only [ap,List.all_append,List.all_cons,List.all_nil,Bool.and_true,Bool.and_eq_true];exact ⟨List.all_eq_true.2 h4,hy⟩
  rw [this,cT];simp only [win,ige,ile,Bool.and_eq_true,decide_eq_true_eq];omega
 refine zbB (zhv hcur 7) (zcP (fun hc=>?_) (fun hc=>?_))
 ·have hlt:t<zK .i64 2 (zW ⟨c.b,i,k⟩ 7):=of_decide_eq_true hc;rw [hw] at hlt;refine zbB (zU0 h7) (zbB (zvS (by rw [zoC];omega)) (hrec (n-1) _ (by omega) ⟨?_,?_,zPq _,?_,?_,rfl⟩))
  ·show zK .i64 t 1+_=8
   rw [zkG h2 (by omega) (by omega) (by omega)];omega
  ·show 0<=zK .i64 t 1
   rw [zkG h2 (by omega) (by omega) (by omega)];omega
  ·intro x hx;rcases List.mem_append.1 hx with hx|hx
   ·exact h4 x hx
   ·rw [List.mem_singleton.1 hx];exact (ztX (zU0 h7)).2.2
  ·show ln (ap l [_])=zK .i64 t 1
   rw [zoC,zkG h2 (by omega) (by omega) (by omega)];omega
 ·have hge:¬ t<zK .i64 2 (zW ⟨c.b,i,k⟩ 7):=of_decide_eq_false hc;rw [hw] at hge;refine zbB (zKQ h7 3) (zcP (fun _=>zbB (zvS (by rw [zoC];omega)) (ziI (aS .ins) (zgp _ _) (fin _ rfl (by omega)))) (fun _=>zbB (zvS (by rw [zoC];omega)) (ziI (aS .ins) (zgp _ _) (fin _ rfl (by omega)))))
def zPg:zc7:=[(51,([false,true,true],zmf))]++zPf
theorem zKW:zct zPg:=zfK zKV (by
 intro x hx;simp only [List.mem_cons,List.not_mem_nil,or_false] at hx;rcases hx with rfl
 ·exact zCP)
theorem zLM {α:Type}{c:Cur}(h:zc2 c){P:α->Prop}{fc:Cur->Bool}{fs:Cur->Cur}{fv:Cur->α}(hf:∀{c:Cur},zc2 c->fc c=true)(hp:∀c,0<=(fs c).i)(hg:∀{c:Cur},zc2 c->P (fv c)){G:Ans->Prop}{R:Cur->List α->Ans}(hG:∀s l,s.b=c.b->0<=s.i->1<=l.length->l.length<=2->(∀x∈l,P x)->G (R s l)){F:(Int×Int×Int×List α×List Int×Unit->OA)->Int×Int×Int×List α×List Int×Unit->OA}(hF:∀rec t i k l,F rec (t,i,k,l,c.b,())=bif zV ⟨c.b,i,k⟩ 2 then (bif ilt t (zK .i64 1 (zW ⟨c.b,i,k⟩ 2)) then (bif fc { zu ⟨c.b,i,k⟩ 2 with b:=c.b } then (bif few (ln (ap l [fv { zu ⟨c.b,i,k⟩ 2 with b:=c.b }])) then
        rec (zK .i64 t 1,(fs { zu ⟨c.b,i,k⟩ 2 with b:=c.b }).i,(fs { zu ⟨c.b,i,k⟩ 2 with b:=c.b }).h,ap l [fv { zu ⟨c.b,i,k⟩ 2 with b:=c.b }],c.b,()) else none) else none) else some (R ⟨c.b,(zu ⟨c.b,i,k⟩ 2).i,(zu ⟨c.b,i,k⟩ 2).h⟩ l)) else none) :
 Ends G (iter 3 F (0,c.i,c.h,[],c.b,())):=by
 refine zse (fun n s=>s.1+(n:Int)=2/\0<=s.1/\0<=s.2.1/\(∀x∈s.2.2.2.1,P x)/\ln s.2.2.2.1=s.1/\s.2.2.2.2.1=c.b) ?_ 3 2 _ ⟨rfl,Int.le_refl 0,h.1,by simp,rfl,rfl⟩ (by omega)
 rintro n ⟨t,i,k,l,b,u⟩ rec ⟨h1,h2,h3,h4,h5,h6⟩ hrec
 dsimp only at h1 h2 h3 h4 h5 h6
 subst h6;rw [hF];have hcur:zc2 ⟨c.b,i,k⟩:=zev h h3;have hx:=zlU hcur (n:=2) (by omega)
 have hw:=zkG (x:=1) (by omega) (by omega) hx.1 (by omega)
 have h7:zc2 { zu ⟨c.b,i,k⟩ 2 with b:=c.b }:=zev h (zcj _ _);refine zbB (zhv hcur 2) (zcP (fun hc=>?_) (fun hc=>?_))
 ·have hlt:t<zK .i64 1 (zW ⟨c.b,i,k⟩ 2):=of_decide_eq_true hc;rw [hw] at hlt;have ht:=zkG (y:=1) h2 (by omega) (by omega) (by omega)
  refine zbB (hf h7) (zbB (zvS (by rw [zoC];omega)) (hrec (n-1) _ (by omega) ⟨?_,?_,hp _,?_,?_,rfl⟩))
  ·show zK .i64 t 1+_=2
   omega
  ·show 0<=zK .i64 t 1
   omega
  ·intro x hx;rcases List.mem_append.1 hx with hx|hx
   ·exact h4 x hx
   ·rw [List.mem_singleton.1 hx];exact hg h7
  ·show ln (ap l [_])=zK .i64 t 1
   rw [zoC];omega
 ·have hge:¬ t<zK .i64 1 (zW ⟨c.b,i,k⟩ 2):=of_decide_eq_false hc;rw [hw] at hge;unfold ln at h5;exact zB5 (hG _ l rfl (zcj _ _) (by omega) (by omega) h4)
def zhZ (N:Nat)(c:Cur)  : OA :=
 (iter (σ:=(Int×(Int×(Int×(lP×((List Int)×Unit)))))) N (fun r2 s3=>let y2:=s3.2.2.2.2.1;let y1:=(⟨y2,s3.2.1,s3.2.2.1⟩:Cur);let y0:=({ (zu y1 2) with b:=y2 }:Cur); (oN (zV y1 2) (cond (ilt s3.1 (zK .i64 1 (zW y1 2))) (oN (zeI y0) (oN (few (ln (ap s3.2.2.2.1 [(zkz y0)]))) (r2 ((zK .i64 s3.1 1),((zdX y0).i,((zdX y0).h,((ap s3.2.2.2.1 [(zkz y0)]),(y2,())))))))) (some [(.agg [(.s .u8 y2),(.i .i64 (zu y1 2).i),(.i .i64 (zu y1 2).h)]),(aS (.sl .ins) s3.2.2.2.1)])))) (0,(c.i,(c.h,([],(c.b,()))))))
def zFS:FuncId->Nat->Option Tmpl:=zA [(26,0,{ n:=19,tm:=[(0,.lp 0 0),(3,.sl 0 []),(4,ti)],lo:=[(0,[.sl 1 [],ti,ti])],ro:=[(0,(.sl .ins),true),(1,.u8,false)] })]
theorem zIi (N:Nat)(c:Cur)  : zhS (cQ zlX zj7 zPg zjk) zFS N 12 26 [false,true,true] (zbr c) []=zhZ N c:=by kernel_rfl
def zhq (c:Cur)(s:Cur)(v0:List (List Ins)):Prop:=(∃N,zhZ N c=some (AV.agg (zbr s) :: [aS (.sl .ins) v0]))/\(s.b=c.b/\0<=s.i)/\(1<=v0.length/\v0.length<=2/\∀x∈v0,zcZ x=true)
def zei (c:Cur)  : Bool:=pc (∃s v0,zhq c s v0)
def zlG (c:Cur)  : Cur×List (List Ins):=Classical.epsilon fun r=>zhq c r.1 r.2
def zdF (c:Cur)  : Cur:=bif zei c then (zlG c).1 else ⟨[],0,0⟩
def zjd (c:Cur)  : List (List Ins):=(zlG c).2
theorem zpU {c:Cur}(h:zei c=true):zhq c (zdF c) (zjd c):=by
 obtain ⟨s,v0,h2⟩:=zJ.1 h;have h3:zhq c (zlG c).1 (zlG c).2:=Classical.epsilon_spec (p:=fun r=>zhq c r.1 r.2) ⟨(s,v0),h2⟩;unfold zdF;rw [h,cT];exact h3
theorem zLe (c:Cur)  : 0<=(zdF c).i:=by
 unfold zdF;cases h:zei c with
 | false=>exact Int.le_refl 0
 | true =>
  have:=(zpU h).2.1.2;unfold zdF at this
  rwa [h] at this
theorem zLd (c:Cur)(h:∃N,Ends (fun a=>∃s v0,a=(AV.agg (zbr s) :: [aS (.sl .ins) v0])/\(s.b=c.b/\0<=s.i)/\(1<=v0.length/\v0.length<=2/\∀x∈v0,zcZ x=true)) (zhZ N c)):zei c=true:=by
 obtain ⟨N,a,e,s,v0,rfl,h⟩:=h;exact zbc ⟨s,v0,⟨N,e⟩,h⟩
def zk4:List CV->List AV->Option (Bool×List CV×List AV)
 | [.s .u8 b,.i .i64 c,.i .i64 d],[]=>some ((zei (⟨b,c,d⟩:Cur)),zbr (zdF (⟨b,c,d⟩:Cur)),[aS (.sl .ins) (zjd (⟨b,c,d⟩:Cur))])
 | _,_=>none
theorem zFn (c:Cur)(hb:zci big (.agg (zbr c) :: []))(hc:(zei c)=true):∃N,zhZ N c=some (.agg (zbr (zdF c)) :: [aS (.sl .ins) (zjd c)]):=by
 exact (zpU hc).1
theorem zAF:zdS Tryz.prog 26 [false,true,true] zk4:=by
 refine zcD (zda zfu zbs zKW zB) (zeW (by kernel_rfl)) ?_
 intro cs avs cs' rs hl hr h;have hb:=zcX hr;unfold zk4 at h;split at h
 ·obtain ⟨hc,rfl,rfl⟩:=zdm h;obtain ⟨N,hN⟩:=zFn _ (by exact hb) hc
  exact ⟨rfl,_,N,12,(zIi N _ ).trans hN⟩
 ·cases h
theorem zNI {c:Cur}(h:zc2 c):zei c=true:=by
 refine zLd c ⟨3,?_⟩;unfold zhZ oN
 conv=>zeta
 exact zLM h (P:=fun x=>zcZ x=true) (fc:=zeI) (fs:=zdX) (fv:=zkz) (R:=fun s l=>AV.agg (zbr s) :: [aS (.sl .ins) l]) zRr zMQ (fun h=>(zrS (zRr h)).2.2) (fun s l hb hi h1 h2 hl=>⟨s,l,rfl,⟨hb,hi⟩,h1,h2,hl⟩) (fun rec t i k l=>rfl)
def zPh:zc7:=[(26,([false,true,true],zk4))]++zPg
theorem zKX:zct zPh:=zfK zKW (by
 intro x hx;simp only [List.mem_cons,List.not_mem_nil,or_false] at hx;rcases hx with rfl
 ·exact zAF)
def zkL (N:Nat)(c:Cur)  : OA :=
 (iter (σ:=(Int×(Int×(Int×(lQ×((List Int)×Unit)))))) N (fun r2 s3=>let y2:=s3.2.2.2.2.1;let y1:=(⟨y2,s3.2.1,s3.2.2.1⟩:Cur);let y0:=({ (zu y1 2) with b:=y2 }:Cur); (oN (zV y1 2) (cond (ilt s3.1 (zK .i64 1 (zW y1 2))) (oN (zei y0) (oN (few (ln (ap s3.2.2.2.1 [(zjd y0)]))) (r2 ((zK .i64 s3.1 1),((zdF y0).i,((zdF y0).h,((ap s3.2.2.2.1 [(zjd y0)]),(y2,())))))))) (some [(.agg [(.s .u8 y2),(.i .i64 (zu y1 2).i),(.i .i64 (zu y1 2).h)]),(aS (.sl (.sl .ins)) s3.2.2.2.1)])))) (0,(c.i,(c.h,([],(c.b,()))))))
def zLH:FuncId->Nat->Option Tmpl:=zA [(20,0,{ n:=19,tm:=[(0,.lp 0 0),(3,.sl 0 []),(4,ti)],lo:=[(0,[.sl 1 [],ti,ti])],ro:=[(0,(.sl (.sl .ins)),true),(1,.u8,false)] })]
theorem zMF (N:Nat)(c:Cur)  : zhS (cQ zlX zj7 zPh zjk) zLH N 12 20 [false,true,true] (zbr c) []=zkL N c:=by kernel_rfl
def zjL (c:Cur)(s:Cur)(v0:List (List (List Ins))):Prop:=(∃N,zkL N c=some (AV.agg (zbr s) :: [aS (.sl (.sl .ins)) v0]))/\(s.b=c.b/\0<=s.i)/\(1<=v0.length/\v0.length<=2/\∀p∈v0,1<=p.length/\p.length<=2/\∀x∈p,zcZ x=true)
def zgd (c:Cur)  : Bool:=pc (∃s v0,zjL c s v0)
def zoR (c:Cur)  : Cur×List (List (List Ins)):=Classical.epsilon fun r=>zjL c r.1 r.2
def zfg (c:Cur)  : Cur:=bif zgd c then (zoR c).1 else ⟨[],0,0⟩
def zmz (c:Cur)  : List (List (List Ins)):=(zoR c).2
theorem ztY {c:Cur}(h:zgd c=true):zjL c (zfg c) (zmz c):=by
 obtain ⟨s,v0,h2⟩:=zJ.1 h;have h3:zjL c (zoR c).1 (zoR c).2:=Classical.epsilon_spec (p:=fun r=>zjL c r.1 r.2) ⟨(s,v0),h2⟩;unfold zfg;rw [h,cT];exact h3
theorem zPu (c:Cur)  : 0<=(zfg c).i:=by
 unfold zfg;cases h:zgd c with
 | false=>exact Int.le_refl 0
 | true =>
  have:=(ztY h).2.1.2;unfold zfg at this
  rwa [h] at this
theorem zPt (c:Cur)(h:∃N,Ends (fun a=>∃s v0,a=(AV.agg (zbr s) :: [aS (.sl (.sl .ins)) v0])/\(s.b=c.b/\0<=s.i)/\(1<=v0.length/\v0.length<=2/\∀p∈v0,1<=p.length/\p.length<=2/\∀x∈p,zcZ x=true)) (zkL N c)):zgd c=true:=by
 obtain ⟨N,a,e,s,v0,rfl,h⟩:=h;exact zbc ⟨s,v0,⟨N,e⟩,h⟩
def zn2:List CV->List AV->Option (Bool×List CV×List AV)
 | [.s .u8 b,.i .i64 c,.i .i64 d],[]=>some ((zgd (⟨b,c,d⟩:Cur)),zbr (zfg (⟨b,c,d⟩:Cur)),[aS (.sl (.sl .ins)) (zmz (⟨b,c,d⟩:Cur))])
 | _,_=>none
theorem zKr (c:Cur)(hb:zci big (.agg (zbr c) :: []))(hc:(zgd c)=true):∃N,zkL N c=some (.agg (zbr (zfg c)) :: [aS (.sl (.sl .ins)) (zmz c)]):=by
 exact (ztY hc).1
theorem zES:zdS Tryz.prog 20 [false,true,true] zn2:=by
 refine zcD (zda zfu zbs zKX zB) (zeW (by kernel_rfl)) ?_
 intro cs avs cs' rs hl hr h;have hb:=zcX hr;unfold zn2 at h;split at h
 ·obtain ⟨hc,rfl,rfl⟩:=zdm h;obtain ⟨N,hN⟩:=zKr _ (by exact hb) hc
  exact ⟨rfl,_,N,12,(zMF N _ ).trans hN⟩
 ·cases h
theorem zTZ {c:Cur}(h:zc2 c):zgd c=true:=by
 refine zPt c ⟨3,?_⟩;unfold zkL oN
 conv=>zeta
 exact zLM h (P:=fun p=>1<=p.length/\p.length<=2/\∀x∈p,zcZ x=true) (fc:=zei) (fs:=zdF) (fv:=zjd) (R:=fun s l=>AV.agg (zbr s) :: [aS (.sl (.sl .ins)) l]) zNI zLe (fun h=>(zpU (zNI h)).2.2) (fun s l hb hi h1 h2 hl=>⟨s,l,rfl,⟨hb,hi⟩,h1,h2,hl⟩) (fun rec t i k l=>rfl)
def zPi:zc7:=[(20,([false,true,true],zn2))]++zPh
theorem zKY:zct zPi:=zfK zKX (by
 intro x hx;simp only [List.mem_cons,List.not_mem_nil,or_false] at hx;rcases hx with rfl
 ·exact zES)
theorem zxv {ρ:Type}{G:ρ->Prop}{x:Bool}{a b:Option ρ}(k:Ends G a)(h:x=true:=by first
 | exact zhv (by first|assumption|exact zev (by assumption) (zcj _ _)|exact zev (by assumption) (zgp _ _)|exact zev (by assumption) (zjb _ _)) _
 | exact zKQ (by first|assumption|exact zev (by assumption) (zcj _ _)|exact zev (by assumption) (zgp _ _)) _
 | exact zDx (by first|assumption|exact zev (by assumption) (zcj _ _)) (by simp)):Ends G (cond x a b):=zbB h k
def zkK (N:Nat)(c:Cur)  : OA :=
 let y5:=(zW c 4);let y0:=({ (zu c 4) with b:=c.b }:Cur);let y4:=(zir y0 4);let y3:=(zb8 y0 4);let y1:=({ y3 with b:=c.b }:Cur);let y2:=({ (zb8 y1 2) with b:=c.b }:Cur); (oN (zV c 4) (oN (zdE y0 4) (cond (nB y4) (cond (ine y5 2) (oN (zdE y1 2) (cond (zir y1 2) (oN (zV y2 256) (some [(.agg [(.s .u8 c.b),(.i .i64 (zu y2 256).i),(.i .i64 (zu y2 256).h)]),(.agg [(.i .i64 y5),(.i .i64 (zW y2 256)),(.b (nB y4))])])) (some [(.agg [(.s .u8 c.b),(.i .i64 (zb8 y1 2).i),(.i .i64 (zb8 y1 2).h)]),(.agg [(.i .i64 y5),(.i .i64 0),(.b (nB y4))])]))) (some [(.agg [(.s .u8 c.b),(.i .i64 y3.i),(.i .i64 y3.h)]),(.agg [(.i .i64 y5),(.i .i64 0),(.b (nB y4))])])) (some [(.agg [(.s .u8 c.b),(.i .i64 y3.i),(.i .i64 y3.h)]),(.agg [(.i .i64 y5),(.i .i64 0),(.b (nB y4))])]))))
theorem zME (N:Nat)(c:Cur)  : zhS (cQ zlX zj7 zPi zjk) (zA []) N 12 53 [false,true,true] (zbr c) []=zkK N c:=by kernel_rfl
def zjK (c:Cur)(s:Cur)(v0:Ctl):Prop:=(∃N,zkK N c=some (AV.agg (zbr s) :: [.agg (zvJ v0)]))/\(s.b=c.b/\0<=s.i)/\(True)
def zgc (c:Cur)  : Bool:=pc (∃s v0,zjK c s v0)
def zoQ (c:Cur)  : Cur×Ctl:=Classical.epsilon fun r=>zjK c r.1 r.2
def zeh (c:Cur)  : Cur:=bif zgc c then (zoQ c).1 else ⟨[],0,0⟩
def ziu (c:Cur)  : Ctl:=(zoQ c).2
theorem zDJ {c:Cur}(h:zgc c=true):zjK c (zeh c) (ziu c):=by
 obtain ⟨s,v0,h2⟩:=zJ.1 h;have h3:zjK c (zoQ c).1 (zoQ c).2:=Classical.epsilon_spec (p:=fun r=>zjK c r.1 r.2) ⟨(s,v0),h2⟩;unfold zeh;rw [h,cT];exact h3
theorem zPs (c:Cur)  : 0<=(zeh c).i:=by
 unfold zeh;cases h:zgc c with
 | false=>exact Int.le_refl 0
 | true =>
  have:=(zDJ h).2.1.2;unfold zeh at this
  rwa [h] at this
theorem zPr (c:Cur)(h:∃N,Ends (fun a=>∃s v0,a=(AV.agg (zbr s) :: [.agg (zvJ v0)])/\(s.b=c.b/\0<=s.i)/\(True)) (zkK N c)):zgc c=true:=by
 obtain ⟨N,a,e,s,v0,rfl,h⟩:=h;exact zbc ⟨s,v0,⟨N,e⟩,h⟩
def zn1:List CV->List AV->Option (Bool×List CV×List AV)
 | [.s .u8 b,.i .i64 c,.i .i64 d],[]=>some ((zgc (⟨b,c,d⟩:Cur)),zbr (zeh (⟨b,c,d⟩:Cur)),[.agg (zvJ (ziu (⟨b,c,d⟩:Cur)))])
 | _,_=>none
theorem zKq (c:Cur)(hb:zci big (.agg (zbr c) :: []))(hc:(zgc c)=true):∃N,zkK N c=some (.agg (zbr (zeh c)) :: [.agg (zvJ (ziu c))]):=by
 exact (zDJ hc).1
theorem zER:zdS Tryz.prog 53 [false,true,true] zn1:=by
 refine zcD (zda zfu zbs zKY zB) (zeW (by kernel_rfl)) ?_
 intro cs avs cs' rs hl hr h;have hb:=zcX hr;unfold zn1 at h;split at h
 ·obtain ⟨hc,rfl,rfl⟩:=zdm h;obtain ⟨N,hN⟩:=zKq _ (by exact hb) hc
  exact ⟨rfl,_,N,12,(zME N _ ).trans hN⟩
 ·cases h
theorem zXF {c:Cur}(h:zc2 c):zgc c=true:=by
 refine zPr c ⟨0,?_⟩;unfold zkK oN nB
 conv=>zeta
 refine zxv (zxv (zcP (fun _=>zcP (fun _=>zxv (zcP (fun _=>zxv (?_)) (fun _=>?_))) (fun _=>?_)) (fun _=>?_)))
 all_goals exact ziI (fun x=>AV.agg (zvJ x)) (v:=⟨_,_,_⟩) (by first|exact zcj _ _|exact zgp _ _) trivial
def zPj:zc7:=[(53,([false,true,true],zn1))]++zPi
theorem zA2:zct zPj:=zfK zKY (by
 intro x hx;simp only [List.mem_cons,List.not_mem_nil,or_false] at hx;rcases hx with rfl
 ·exact zER)
theorem zc3 {ρ:Type}{G:ρ->Prop}{x:Bool}{a b:Option ρ}(k:Ends G a)(h:x=true:=by first
 | exact zhv (by first|assumption|exact zev (by assumption) (zcj _ _)|exact zev (by assumption) (zjb _ _)) _
 | exact zDx (by first|assumption|exact zev (by assumption) (zcj _ _)) (by simp)
 | exact zXF (zev (by assumption) (zcj _ _))):Ends G (cond x a b):=zbB h k
def zkM (N:Nat)(c:Cur)  : OA :=
 let y13:=({ (zu c 2) with b:=c.b }:Cur);let y8:=(zW c 2);let y2:=(zW y13 2);let y1:=({ (zu y13 2) with b:=c.b }:Cur);let y10:=(zu y1 24);let y5:=(zW y1 24);let y0:=({ y10 with b:=c.b }:Cur);let y14:=(zu y0 8);let y12:=({ (zu y0 4) with b:=c.b }:Cur);let y11:=({ y14 with b:=c.b }:Cur);let y9:=({ (zu y0 16) with b:=c.b }:Cur);let y7:=({ (zbH y0 [16,17]) with b:=c.b }:Cur);let y6:=({ (zbH y0 [13,13,14,15]) with b:=c.b }:Cur);let y4:=({ (zu y11 4) with b:=c.b }:Cur);let y3:=({ (zu y12 8) with b:=c.b }:Cur); (share (oN (zcR y0 [13,13,14,15]) (oN (zV y6 8) (some [(.agg [(.s .u8 c.b),(.i .i64 (zu y6 8).i),(.i .i64 (zu y6 8).h)]),(.agg [(.i .i64 (zeg y0 [13,13,14,15])),(.i .i64 y8),(.i .i64 y2),(.i .i64 (zW y6 8)),(.i .i64 0),(.i .i64 0)])]))) (fun t5=>(share (cond (ieq y5 16) (oN (zcR y0 [16,17]) (oN (zV y7 4) (some [(.agg [(.s .u8 c.b),(.i .i64 (zu y7 4).i),(.i .i64 (zu y7 4).h)]),(.agg [(.i .i64 (zeg y0 [16,17])),(.i .i64 y8),(.i .i64 y2),(.i .i64 (zW y7 4)),(.i .i64 0),(.i .i64 0)])]))) (some [(.agg [(.s .u8 c.b),(.i .i64 y10.i),(.i .i64 y10.h)]),(.agg [(.i .i64 1),(.i .i64 y8),(.i .i64 y2),(.i .i64 0),(.i .i64 0),(.i .i64 0)])])) (fun t4=>(share (oN (zV y0 4) (oN (zV y12 8) (oN (zcR y3 [3,3,1,2]) (some [(.agg [(.s .u8 c.b),(.i .i64 (zbH y3 [3,3,1,2]).i),(.i .i64 (zbH y3 [3,3,1,2]).h)]),(.agg [(.i .i64 2),(.i .i64 y8),(.i .i64 y2),(.i .i64 (zW y0 4)),(.i .i64 (zW y12 8)),(.i .i64 (zeg y3 [3,3,1,2]))])])))) (fun t3=>(share (oN (zV y0 4) (some [(.agg [(.s .u8 c.b),(.i .i64 (zu y0 4).i),(.i .i64 (zu y0 4).h)]),(.agg [(.i .i64 3),(.i .i64 y8),(.i .i64 y2),(.i .i64 (zW y0 4)),(.i .i64 0),(.i .i64 0)])])) (fun t2=>(share (cond (ieq y5 7) (oN (zV y0 8) (some [(.agg [(.s .u8 c.b),(.i .i64 y14.i),(.i .i64 y14.h)]),(.agg [(.i .i64 6),(.i .i64 y8),(.i .i64 y2),(.i .i64 (zW y0 8)),(.i .i64 0),(.i .i64 0)])])) (cond (ieq y5 8) (oN (zgc y0) (cond ((ziu y0).Open) (some [(.agg [(.s .u8 c.b),(.i .i64 (zeh y0).i),(.i .i64 (zeh y0).h)]),(.agg [(.i .i64 7),(.i .i64 y8),(.i .i64 y2),(.i .i64 (ziu y0).Traps),(.i .i64 (ziu y0).Post),(.i .i64 1)])]) (some [(.agg [(.s .u8 c.b),(.i .i64 (zeh y0).i),(.i .i64 (zeh y0).h)]),(.agg [(.i .i64 7),(.i .i64 y8),(.i .i64 y2),(.i .i64 (ziu y0).Traps),(.i .i64 (ziu y0).Post),(.i .i64 0)])]))) (cond (ieq y5 9) (oN (zV y0 8) (oN (zV y11 4) (oN (zV y4 100) (some [(.agg [(.s .u8 c.b),(.i .i64 (zu y4 100).i),(.i .i64 (zu y4 100).h)]),(.agg [(.i .i64 8),(.i .i64 y8),(.i .i64 y2),(.i .i64 (zW y0 8)),(.i .i64 (zW y11 4)),(.i .i64 (zW y4 100))])])))) (cond (ieq y5 10) (oN (zV y0 8) (some [(.agg [(.s .u8 c.b),(.i .i64 y14.i),(.i .i64 y14.h)]),(.agg [(.i .i64 9),(.i .i64 y8),(.i .i64 y2),(.i .i64 (zW y0 8)),(.i .i64 0),(.i .i64 0)])])) (cond (ieq y5 11) (some [(.agg [(.s .u8 c.b),(.i .i64 y10.i),(.i .i64 y10.h)]),(.agg [(.i .i64 10),(.i .i64 y8),(.i .i64 y2),(.i .i64 0),(.i .i64 0),(.i .i64 0)])]) (cond (ieq y5 12) (oN (zV y0 16) (oN (zV y9 100) (some [(.agg [(.s .u8 c.b),(.i .i64 (zu y9 100).i),(.i .i64 (zu y9 100).h)]),(.agg [(.i .i64 11),(.i .i64 y8),(.i .i64 y2),(.i .i64 (zW y0 16)),(.i .i64 (zW y9 100)),(.i .i64 0)])]))) (cond (ieq y5 13) (oN (zV y0 16) (some [(.agg [(.s .u8 c.b),(.i .i64 (zu y0 16).i),(.i .i64 (zu y0 16).h)]),(.agg [(.i .i64 12),(.i .i64 y8),(.i .i64 y2),(.i .i64 (zW y0 16)),(.i .i64 0),(.i .i64 0)])])) (cond (ieq y5 14) (cond (ieq y5 14) t5 t4) (cond (ieq y5 15) t5 t4))))))))) (fun t0=>(share (cond (ieq y5 4) (oN (zV y0 100) (some [(.agg [(.s .u8 c.b),(.i .i64 (zu y0 100).i),(.i .i64 (zu y0 100).h)]),(.agg [(.i .i64 4),(.i .i64 y8),(.i .i64 y2),(.i .i64 (zW y0 100)),(.i .i64 0),(.i .i64 0)])])) (cond (ieq y5 5) (cond (ieq y5 5) (some [(.agg [(.s .u8 c.b),(.i .i64 y10.i),(.i .i64 y10.h)]),(.agg [(.i .i64 5),(.i .i64 y8),(.i .i64 y2),(.i .i64 0),(.i .i64 0),(.i .i64 0)])]) t0) (cond (ieq y5 6) (some [(.agg [(.s .u8 c.b),(.i .i64 y10.i),(.i .i64 y10.h)]),(.agg [(.i .i64 5),(.i .i64 y8),(.i .i64 y2),(.i .i64 0),(.i .i64 0),(.i .i64 0)])]) t0))) (fun t1=>(share (cond (ieq y5 2) (cond (ieq y5 2) t2 t1) (cond (ieq y5 3) t2 t1)) (fun t6=>(oN (zV c 2) (oN (zV y13 2) (oN (zV y1 24) (cond (ieq y5 0) (cond (ieq y5 0) t3 t6) (cond (ieq y5 1) t3 t6)))))))))))))))))))
theorem zMH (N:Nat)(c:Cur)  : zhS (cQ zlX zj7 zPj zjk) (zA []) N 12 29 [false,true,true] (zbr c) []=zkM N c:=by kernel_rfl
def zjN (c:Cur)(s:Cur)(v0:GAct):Prop:=(∃N,zkM N c=some (AV.agg (zbr s) :: [aT .act v0]))/\(s.b=c.b/\0<=s.i)/\(True)
def zeK (c:Cur)  : Bool:=pc (∃s v0,zjN c s v0)
def zoT (c:Cur)  : Cur×GAct:=Classical.epsilon fun r=>zjN c r.1 r.2
def zdp (c:Cur)  : Cur:=bif zeK c then (zoT c).1 else ⟨[],0,0⟩
def zkg (c:Cur)  : GAct:=(zoT c).2
theorem zDK {c:Cur}(h:zeK c=true):zjN c (zdp c) (zkg c):=by
 obtain ⟨s,v0,h2⟩:=zJ.1 h;have h3:zjN c (zoT c).1 (zoT c).2:=Classical.epsilon_spec (p:=fun r=>zjN c r.1 r.2) ⟨(s,v0),h2⟩;unfold zdp;rw [h,cT];exact h3
theorem zPw (c:Cur)  : 0<=(zdp c).i:=by
 unfold zdp;cases h:zeK c with
 | false=>exact Int.le_refl 0
 | true =>
  have:=(zDK h).2.1.2;unfold zdp at this
  rwa [h] at this
theorem zPv (c:Cur)(h:∃N,Ends (fun a=>∃s v0,a=(AV.agg (zbr s) :: [aT .act v0])/\(s.b=c.b/\0<=s.i)/\(True)) (zkM N c)):zeK c=true:=by
 obtain ⟨N,a,e,s,v0,rfl,h⟩:=h;exact zbc ⟨s,v0,⟨N,e⟩,h⟩
def zn3:List CV->List AV->Option (Bool×List CV×List AV)
 | [.s .u8 b,.i .i64 c,.i .i64 d],[]=>some ((zeK (⟨b,c,d⟩:Cur)),zbr (zdp (⟨b,c,d⟩:Cur)),[aT .act (zkg (⟨b,c,d⟩:Cur))])
 | _,_=>none
theorem zKv (c:Cur)(hb:zci big (.agg (zbr c) :: []))(hc:(zeK c)=true):∃N,zkM N c=some (.agg (zbr (zdp c)) :: [aT .act (zkg c)]):=by
 exact (zDK hc).1
theorem zEW:zdS Tryz.prog 29 [false,true,true] zn3:=by
 refine zcD (zda zfu zbs zA2 zB) (zeW (by kernel_rfl)) ?_
 intro cs avs cs' rs hl hr h;have hb:=zcX hr;unfold zn3 at h;split at h
 ·obtain ⟨hc,rfl,rfl⟩:=zdm h;obtain ⟨N,hN⟩:=zKv _ (by exact hb) hc
  exact ⟨rfl,_,N,12,(zMH N _ ).trans hN⟩
 ·cases h
theorem zXD {c:Cur}(h:zc2 c):zeK c=true:=by
 refine zPv c ⟨0,?_⟩;unfold zkM oN
 conv=>zeta
 refine zj3 (zc3 (zc3 (?_))) (fun _ ht5=>zj3 (zcP (fun _=>zc3 (zc3 (?_))) (fun _=>?_)) (fun _ ht4=>zj3 (zc3 (zc3 (zc3 (?_)))) (fun _ ht3=>zj3 (zc3 (?_)) (fun _ ht2=>zj3 (zcP (fun _=>zc3 (?_)) (fun _=>zcP (fun _=>zc3 (zcP (fun _=>?_) (fun _=>?_))) (fun _=>zcP (fun _=>zc3 (zc3 (zc3 (?_)))) (fun _=>zcP (fun _=>zc3 (?_)) (fun _=>zcP (fun _=>?_) (fun _=>zcP (fun _=>zc3 (zc3 (?_))) (fun _=>zcP (fun _=>zc3 (?_)) (fun _=>zcP (fun _=>zcP (fun _=>ht5) (fun _=>ht4)) (fun _=>zcP (fun _=>ht5) (fun _=>ht4)))))))))) (fun _ ht0=>zj3 (zcP (fun _=>zc3 (?_)) (fun _=>zcP (fun _=>zcP (fun _=>?_) (fun _=>ht0)) (fun _=>zcP (fun _=>?_) (fun _=>ht0)))) (fun _ ht1=>zj3 (zcP (fun _=>zcP (fun _=>ht2) (fun _=>ht1)) (fun _=>zcP (fun _=>ht2) (fun _=>ht1))) (fun _ ht6=>zc3 (zc3 (zc3 (zcP (fun _=>zcP (fun _=>ht3) (fun _=>ht6)) (fun _=>zcP (fun _=>ht3) (fun _=>ht6))))))))))))
 all_goals exact ziI (aT .act) (v:=⟨_,_,_,_,_,_⟩) (by first|exact zcj _ _|exact zjb _ _|exact zPs _) trivial
def zh0 (N:Nat)  : OA :=
 (iter (σ:=(Int×(lA×Unit))) N (fun r1 s2=>(cond (ilt s2.1 2) (iter (σ:=(Int×(Int×(lA×Unit)))) N (fun r3 s4=>(cond (ilt s4.2.1 2) (iter (σ:=(Int×(Int×(Int×(lA×Unit))))) N (fun r5 s6=>let y0:=(ap s6.2.2.2.1 [(⟨2,s6.1,s6.2.1,s6.2.2.1,(zK .i64 s6.2.2.1 (zlM .i64 3 s6.2.1)),3⟩:GAct),(⟨3,s6.1,s6.2.1,s6.2.2.1,0,0⟩:GAct)]); (cond (ilt s6.2.2.1 3) (oN (few (ln y0)) (r5 (s6.1,(s6.2.1,((zK .i64 s6.2.2.1 1),(y0,())))))) (r3 (s6.1,((zK .i64 s6.2.1 1),(s6.2.2.2.1,())))))) (s4.1,(s4.2.1,(0,(s4.2.2.1,()))))) (r1 ((zK .i64 s4.1 1),(s4.2.2.1,()))))) (s2.1,(0,(s2.2.1,())))) (some [(aS .act s2.2.1)]))) (0,([],())))
def zFT:FuncId->Nat->Option Tmpl:=zA [(28,0,{ n:=34,tm:=[(1,.sl 0 []),(2,ti)],lo:=[],ro:=[(0,.act,true)] }),(28,2,{ n:=34,tm:=[(1,.sl 0 []),(2,ti),(3,ti)],lo:=[],ro:=[(0,.act,true)] }),(28,4,{ n:=34,tm:=[(1,.sl 0 []),(2,ti),(3,ti),(4,ti)],lo:=[],ro:=[(0,.act,true)] })]
def zhr  (v0:List GAct):Prop:=(∃N,zh0 N=some [aS .act v0])/\(v0.length<=100)
def zgL  : Bool:=pc (∃v0,zhr v0)
def zw8  : List GAct:=Classical.epsilon fun r=>zhr r
def zoU  : List GAct:=(zw8)
theorem zw7  (h:zgL=true):zhr zoU:=by
 obtain ⟨v0,h2⟩:=zJ.1 h;have h3:zhr (zw8):=Classical.epsilon_spec (p:=fun r=>zhr r) ⟨v0,h2⟩;exact h3
theorem zLf  (h:∃N,Ends (fun a=>∃v0,a=[aS .act v0]/\(v0.length<=100)) (zh0 N)):zgL=true:=by
 obtain ⟨N,a,e,v0,rfl,h⟩:=h;exact zbc ⟨v0,⟨N,e⟩,h⟩
def zsO:Run:=rF0 (zgL,[aS .act zoU])
theorem zFo  (hc:zgL=true):∃N,zh0 N  = some [aS .act zoU]:=by
 exact (zw7 hc).1
theorem zAG:Holds Tryz.prog 28 zsO:=kF0 zfu zbs zA2 zB zFT zFo
def zPZ:List GAct:=match zh0 10 with
 | some [.one (.s .act l)]=>l
 | _=>[]
theorem zNd:zgL=true:=zLf ⟨10,_,(by kernel_rfl:zh0 10=some [aS .act zPZ]),zPZ,rfl,Nat.le_of_ble_eq_true (by kernel_rfl)⟩
def zPk:zc7:=[(29,([false,true,true],zn3))]++zPj
theorem zKZ:zct zPk:=zfK zA2 (by
 intro x hx;simp only [List.mem_cons,List.not_mem_nil,or_false] at hx;rcases hx with rfl
 ·exact zEW)
def zP3:zS:=[(28,zsO)]++zlX
theorem zP4:zD zP3:=zk zAG zfu
theorem zGJ {c:Cur}(h:zc2 c){m:Int}(h0:0<=m)(hm:m<=1000){G:Ans->Prop}{R:Cur->List GAct->Ans}(hG:∀s l,s.b=c.b->0<=s.i->l.length<=2000->G (R s l)){F:(Int×Int×Int×Int×List GAct×List Int×Unit->OA)->Int×Int×Int×Int×List GAct×List Int×Unit->OA}(hF:∀rec t i k l,F rec (m,t,i,k,l,c.b,())=bif zV ⟨c.b,i,k⟩ (zK .i64 m 1) then (bif ilt t (zW ⟨c.b,i,k⟩ (zK .i64 m 1)) then (bif zeK { zu ⟨c.b,i,k⟩ (zK .i64 m 1) with b:=c.b } then (bif few (ln (ap l [zkg { zu ⟨c.b,i,k⟩ (zK .i64 m 1) with b:=c.b }])) then
        rec (m,zK .i64 t 1,(zdp { zu ⟨c.b,i,k⟩ (zK .i64 m 1) with b:=c.b }).i,(zdp { zu ⟨c.b,i,k⟩ (zK .i64 m 1) with b:=c.b }).h,ap l [zkg { zu ⟨c.b,i,k⟩ (zK .i64 m 1) with b:=c.b }],c.b,()) else none) else none) else some (R ⟨c.b,(zu ⟨c.b,i,k⟩ (zK .i64 m 1)).i,(zu ⟨c.b,i,k⟩ (zK .i64 m 1)).h⟩ l)) else none){i0 k0:Int}(hi0:0<=i0){l0:List GAct}(hl0:l0.length<=100):Ends G (iter 1002 F (m,0,i0,k0,l0,c.b,())):=by
 refine zse (fun n s=>s.1=m/\s.2.1+(n:Int)=1000/\0<=s.2.1/\0<=s.2.2.1/\ln s.2.2.2.2.1<=100+s.2.1/\s.2.2.2.2.2.1=c.b) ?_ 1002 1000 _ ⟨rfl,rfl,Int.le_refl 0,hi0,by unfold ln;show ((l0.length:Nat):Int)<=100+0;omega,rfl⟩ (by omega)
 rintro n ⟨q,t,i,k,l,b,u⟩ rec ⟨h0,h1,h2,h3,h5,h6⟩ hrec
 dsimp only at h0 h1 h2 h3 h5 h6
 subst h6;subst h0;rw [hF];have hcur:zc2 ⟨c.b,i,k⟩:=zev h h3;have hw:=zkG (x:=q) (y:=1) (by omega) (by omega) (by omega) (by omega)
 have hx:=zlU hcur (n:=zK .i64 q 1) (by omega)
 have h7:zc2 { zu ⟨c.b,i,k⟩ (zK .i64 q 1) with b:=c.b }:=zev h (zcj _ _);refine zbB (zhv hcur _) (zcP (fun hc=>?_) (fun hc=>?_))
 ·have hlt:t<zW ⟨c.b,i,k⟩ (zK .i64 q 1):=of_decide_eq_true hc;have ht:=zkG (y:=1) h2 (by omega) (by omega) (by omega)
  refine zbB (zXD h7) (zbB (zvS (by rw [zoC];omega)) (hrec (n-1) _ (by omega) ⟨rfl,?_,?_,zPw _,?_,rfl⟩))
  ·show zK .i64 t 1+_=1000
   omega
  ·show 0<=zK .i64 t 1
   omega
  ·show ln (ap l [_])<=100+zK .i64 t 1
   rw [zoC];omega
 ·refine zB5 (hG _ l rfl (zcj _ _) ?_);unfold ln at h5;omega
def zjq (N:Nat)(c:Cur)(a0:Int):OA :=
 (oN (zdE c 5) (cond (nB (zir c 5)) (oN zgL (iter (σ:=(Int×(Int×(Int×(Int×(lA×((List Int)×Unit))))))) N (fun r3 s4=>let y6:=s4.2.2.2.2.2.1;let y4:=(zK .i64 s4.1 1);let y2:=(⟨y6,s4.2.2.1,s4.2.2.2.1⟩:Cur);let y0:=({ (zu y2 y4) with b:=y6 }:Cur);let y8:=(ap s4.2.2.2.2.1 [(zkg y0)]); (oN (zV y2 y4) (cond (ilt s4.2.1 (zW y2 y4)) (oN (zeK y0) (oN (few (ln y8)) (r3 (s4.1,((zK .i64 s4.2.1 1),((zdp y0).i,((zdp y0).h,(y8,(y6,()))))))))) (some [(.agg [(.s .u8 y6),(.i .i64 (zu y2 y4).i),(.i .i64 (zu y2 y4).h)]),(aS .act s4.2.2.2.2.1)])))) (a0,(0,((zb8 c 5).i,((zb8 c 5).h,(zoU,(c.b,())))))))) (iter (σ:=(Int×(Int×(Int×(Int×(lA×((List Int)×Unit))))))) N (fun r3 s4=>let y7:=s4.2.2.2.2.2.1;let y5:=(zK .i64 s4.1 1);let y3:=(⟨y7,s4.2.2.1,s4.2.2.2.1⟩:Cur);let y1:=({ (zu y3 y5) with b:=y7 }:Cur);let y9:=(ap s4.2.2.2.2.1 [(zkg y1)]); (oN (zV y3 y5) (cond (ilt s4.2.1 (zW y3 y5)) (oN (zeK y1) (oN (few (ln y9)) (r3 (s4.1,((zK .i64 s4.2.1 1),((zdp y1).i,((zdp y1).h,(y9,(y7,()))))))))) (some [(.agg [(.s .u8 y7),(.i .i64 (zu y3 y5).i),(.i .i64 (zu y3 y5).h)]),(aS .act s4.2.2.2.2.1)])))) (a0,(0,((zb8 c 5).i,((zb8 c 5).h,([],(c.b,())))))))))
def zIv:FuncId->Nat->Option Tmpl:=zA [(21,0,{ n:=26,tm:=[(0,.lp 0 0),(1,ti),(5,.sl 0 []),(6,ti)],lo:=[(0,[.sl 1 [],ti,ti])],ro:=[(0,.act,true),(1,.u8,false)] })]
theorem zKP (N:Nat)(c:Cur)(a0:Int):zhS (cQ zP3 zj7 zPk zjk) zIv N 12 21 [false,true,true] (zbr c) [aI a0]=zjq N c a0:=by kernel_rfl
def ziw (c:Cur)(a0:Int)(s:Cur)(v0:List GAct):Prop:=(∃N,zjq N c a0=some (AV.agg (zbr s) :: [aS .act v0]))/\(s.b=c.b/\0<=s.i)/\(v0.length<=2000)
def zft (c:Cur)(a0:Int):Bool:=pc (∃s v0,ziw c a0 s v0)
def zns (c:Cur)(a0:Int):Cur×List GAct:=Classical.epsilon fun r=>ziw c a0 r.1 r.2
def zeL (c:Cur)(a0:Int):Cur:=bif zft c a0 then (zns c a0).1 else ⟨[],0,0⟩
def znQ (c:Cur)(a0:Int):List GAct:=(zns c a0).2
theorem zrT {c:Cur}{a0:Int}(h:zft c a0=true):ziw c a0 (zeL c a0) (znQ c a0):=by
 obtain ⟨s,v0,h2⟩:=zJ.1 h;have h3:ziw c a0 (zns c a0).1 (zns c a0).2:=Classical.epsilon_spec (p:=fun r=>ziw c a0 r.1 r.2) ⟨(s,v0),h2⟩;unfold zeL;rw [h,cT];exact h3
theorem zMT (c:Cur)(a0:Int):0<=(zeL c a0).i:=by
 unfold zeL;cases h:zft c a0 with
 | false=>exact Int.le_refl 0
 | true =>
  have:=(zrT h).2.1.2;unfold zeL at this
  rwa [h] at this
theorem zMS (c:Cur)(a0:Int)(h:∃N,Ends (fun a=>∃s v0,a=(AV.agg (zbr s) :: [aS .act v0])/\(s.b=c.b/\0<=s.i)/\(v0.length<=2000)) (zjq N c a0)):zft c a0=true:=by
 obtain ⟨N,a,e,s,v0,rfl,h⟩:=h;exact zbc ⟨s,v0,⟨N,e⟩,h⟩
def zmh:List CV->List AV->Option (Bool×List CV×List AV)
 | [.s .u8 b,.i .i64 c,.i .i64 d],[.one (.i .i64 e)]=>some ((zft (⟨b,c,d⟩:Cur) e),zbr (zeL (⟨b,c,d⟩:Cur) e),[aS .act (znQ (⟨b,c,d⟩:Cur) e)])
 | _,_=>none
theorem zIe (c:Cur)(a0:Int)(hb:zci big (.agg (zbr c) :: [aI a0]))(hc:(zft c a0)=true):∃N,zjq N c a0=some (.agg (zbr (zeL c a0)) :: [aS .act (znQ c a0)]):=by
 exact (zrT hc).1
theorem zC0:zdS Tryz.prog 21 [false,true,true] zmh:=by
 refine zcD (zda zP4 zbs zKZ zB) (zeW (by kernel_rfl)) ?_
 intro cs avs cs' rs hl hr h;have hb:=zcX hr;unfold zmh at h;split at h
 ·obtain ⟨hc,rfl,rfl⟩:=zdm h;obtain ⟨N,hN⟩:=zIe _ _ (by exact hb) hc
  exact ⟨rfl,_,N,12,(zKP N _ _ ).trans hN⟩
 ·cases h
theorem zPT {c:Cur}(h:zc2 c){m:Int}(h0:0<=m)(hm:m<=1000):zft c m=true:=by
 refine zMS c m ⟨1002,?_⟩;unfold zjq oN nB
 conv=>zeta
 have g:=zw7 zNd;exact zbB (zKQ h 5) (zcP (fun _=>zbB zNd (zGJ h h0 hm (R:=fun s l=>AV.agg (zbr s) :: [aS .act l]) (fun s l hb hi hl=>⟨s,l,rfl,⟨hb,hi⟩,hl⟩) (fun rec t i k l=>rfl) (zgp _ _) g.2)) (fun _=>zGJ h h0 hm (R:=fun s l=>AV.agg (zbr s) :: [aS .act l]) (fun s l hb hi hl=>⟨s,l,rfl,⟨hb,hi⟩,hl⟩) (fun rec t i k l=>rfl) (zgp _ _) (Nat.zero_le _)))
def zPl:zc7:=[(21,([false,true,true],zmh))]++zPk
theorem zK1:zct zPl:=zfK zKZ (by
 intro x hx;simp only [List.mem_cons,List.not_mem_nil,or_false] at hx;rcases hx with rfl
 ·exact zC0)
def zel (t:List Slot)(p n:Int):Bool:=bif ieq (zbh t p).Page (-1) then false else (cond (enough (zbh t p).Rights n) (win n 1 3) false)
def zb5 (t:List Slot)(p n:Int):Int:=bif zel t p n then (zbh t p).Page else -1
theorem zTr {r:Int}(h:zco r=true):0<=r/\r<=3:=ze5.1 h
theorem zOD {a n:Int}(h:enough a n=true):win n 1 3 = !ieq n 0:=by
 unfold enough at h;cases h1:zco a
 ·rw [h1] at h;cases h
 ·cases h2:zco n
  ·rw [h1,h2] at h;cases h
  ·have:=zTr h2;have e:(win n 1 3=true)↔(!ieq n 0)=true:=by
    rw [ze5];simp [ieq];omega
   cases h3:win n 1 3<;>cases h4:(!ieq n 0)<;>simp_all
@[simp] abbrev zoi (t:List Slot)(p n:Int):Bool:=true
@[simp] abbrev zhn (t:List Slot)(p n:Int):Int:=zb5 t p n
@[simp] abbrev zho (t:List Slot)(p n:Int):Bool:=zel t p n
def zqM:Run:=rF3 (dS .slot) dI dI (fun b c d=>((zoi b c d),[aI (zhn b c d),aB (zho b c d)]))
def zul (N:Nat)(a0:lS)(a1 a2:Int):OA :=
 let y0:=(zg7 a0 a1); (oN (zlA a0 a1) (cond (ieq y0.Page (-1)) (some [(aI (-1)),(aB false)]) (oN (zfc y0.Rights a2) (cond (nB (zfN y0.Rights a2)) (some [(aI (-1)),(aB false)]) (cond (ieq a2 0) (some [(aI (-1)),(aB false)]) (some [(aI y0.Page),(aB true)]))))))
theorem zDg (a0:List Slot)(a1 a2:Int)(hc:(zoi a0 a1 a2)=true):∃N,zul N a0 a1 a2=some [aI (zhn a0 a1 a2),aB (zho a0 a1 a2)]:=by
 have he:=@zOD (zbh a0 a1).Rights a2;refine ⟨0,?_⟩;unfold zul oN nB
 conv=>zeta
 refine must rfl (br (fun _=>?_) (fun _=>must rfl (brN (fun _=>?_) (fun _=>br (fun _=>?_) (fun _=>?_)))))
 all_goals first|rfl|(simp only [*,zhn,zho,zb5,zel,cT,cF]<;>rfl)|simp_all [Ty.cells,zhn,zho,zb5,zel]
theorem zx4:Holds Tryz.prog 129 zqM:=kF3 zlY zy zC zB (zA []) zDg
def zUG:zS:=[(129,zqM),(141,zzA),(157,zwM),(125,zzv),(144,zwQ)]++zUF
theorem zj1:zD zUG:=zk zx4 (zk zHn (zk zEI (zk zHj (zk zEM zlY))))
@[simp] abbrev zgJ (m:List (List Int))(p c v:Int):Bool:=pc (SmM m)
@[simp] abbrev zg8 (m:List (List Int))(p c v:Int):List (List Int):=zbm m p c v
def zsL:Run:=rF4 (dS (.sl .int)) dI dI dI (fun b c d e=>((zgJ b c d e),[aS (.sl .int) (zg8 b c d e)]))
def zvu (N:Nat)(a0:lM)(a1 a2 a3:Int):OA :=
 let y0:=(zdy a0); (oN (zeG a0) (oN (zoO a0 a1 a2) (cond (zmy a0 a1 a2) (oN (zF a3 0 99) (cond (zI a3 0 99) (oN (inb a1 (ln y0)) (oN (inb a2 (ln (ix y0 a1 []))) (share (up y0 a1 (up (ix y0 a1 []) a2 a3)) (fun x5=>(some [(aS (.sl .int) x5)]))))) (some [(aS (.sl .int) y0)]))) (some [(aS (.sl .int) y0)]))))
theorem zFj (a0:List (List Int))(a1 a2 a3:Int)(hc:(zgJ a0 a1 a2 a3)=true):∃N,zvu N a0 a1 a2 a3=some [aS (.sl .int) (zg8 a0 a1 a2 a3)]:=by
 have hs:=zJ.1 hc;have hm:=(ztE a0 a1 a2).1
 refine ⟨0,?_⟩;unfold zvu oN
 conv=>zeta
 refine mu (must rfl (br (fun _=>must rfl (br (fun _=>mu (mu (shr ?_))) (fun _=>?_))) (fun _=>?_)))
 all_goals first|rfl|(simp only [*,zg8,zbm,cT,cF]<;>rfl)|simp_all [Ty.cells,zg8,zbm]
theorem zAB:Holds Tryz.prog 86 zsL:=kF4 zj1 zy zC zB (zA []) zFj
def zgr (g:Guest):Bool:=bif canRun g then (cond g.Ctl.Open (ige (zc1 g.Pending) 0) false) else false
@[simp] abbrev zlB (g:Guest):Bool:=true
@[simp] abbrev zi9 (g:Guest):Bool:=zgr g
def zsK:Run:=rF1 (dT .guest) (fun b=>((zlB b),[aB (zi9 b)]))
def zvt (N:Nat)(a0:Guest):OA :=
 (oN (zoG a0) (cond (zmp a0) (cond a0.Ctl.Open (oN (zoN a0.Pending) (some [(aB (ige (zke a0.Pending) 0))])) oF) oF))
theorem zFi (a0:Guest)(hc:(zlB a0)=true):∃N,zvt N a0=some [aB (zi9 a0)]:=by
 refine ⟨0,?_⟩;unfold zvt oN;refine must rfl (br (fun _=>br (fun _=>must rfl ?_) (fun _=>?_)) (fun _=>?_))
 all_goals first|rfl|(simp only [*,zi9,zgr,cT,cF]<;>rfl)|simp_all [Ty.cells,zi9,zgr]
theorem zAA:Holds Tryz.prog 103 zsK:=kF1 zj1 zy zC zB (zA []) zFi
def zhz (p:Int):Int:=bif ilt (zc1 p) 0 then p else wsub .i64 p (zlN .i64 1 (zc1 p))
def zpt (p:Int):Int:=bif ilt (zc1 p) 0 then -1 else zc1 p
theorem zR0 {p:Int}(h:ilt (zc1 p) 0=false):wcv .u64 (zc1 p)=zc1 p/\ile 0 (zc1 p)=true/\zD9 .i64 p (zlN .i64 1 (zc1 p))=wsub .i64 p (zlN .i64 1 (zc1 p)):=by
 unfold zc1 at *;cases h1:zcK p
 ·rw [h1] at h;cases h
 ·simp only [h1,cT] at h ⊢;obtain ⟨h0,h2⟩:=ze5.1 h1;have r:=zRe (P:=fun x=>-1<=scan x/\scan x<=7/\(0<=scan x->wsub .i64 x (zlN .i64 1 (scan x))=zD9 .i64 x (zlN .i64 1 (scan x)))) zTy h0 h2;have h3:0<=scan p:=by
   unfold ilt at h;have:=of_decide_eq_false h;omega
  exact ⟨zN9 h3 (by omega),decide_eq_true h3,(r.2.2 h3).symm⟩
@[simp] abbrev znm (p:Int):Bool:=true
@[simp] abbrev zhJ (p:Int):Int:=zhz p
@[simp] abbrev zhK (p:Int):Int:=zpt p
@[simp] abbrev zjH (p:Int):Bool:=!ilt (zc1 p) 0
def zuL:Run:=rF1 dI (fun b=>((znm b),[aI (zhJ b),aI (zhK b),aB (zjH b)]))
def zyX (N:Nat)(a0:Int):OA :=
 (oN (zoN a0) (cond (ilt (zke a0) 0) (some [(aI a0),(aI (-1)),(aB false)]) (oN (ile 0 (wcv .u64 (zke a0))) (some [(aI (wsub .i64 a0 (zlN .i64 1 (wcv .u64 (zke a0))))),(aI (zke a0)),(aB true)]))))
theorem zHY (a0:Int)(hc:(znm a0)=true):∃N,zyX N a0=some [aI (zhJ a0),aI (zhK a0),aB (zjH a0)]:=by
 have ht:=@zR0 a0;refine ⟨0,?_⟩;unfold zyX oN;refine must rfl (br (fun _=>?_) (fun _=>mu ?_))
 all_goals first|rfl|(simp only [*,zhJ,zhK,zjH,zhz,zpt,cT,cF]<;>rfl)|simp_all [Ty.cells,zhJ,zhK,zjH,zhz,zpt]
theorem zCK:Holds Tryz.prog 106 zuL:=kF1 zj1 zy zC zB (zA []) zHY
def saw (g:Guest)(n:Int):Guest:=bif ilt (ln g.Seen) 40 then { g with Seen:=ap g.Seen [n] } else g
@[simp] theorem zFH {g:Guest}(n:Int)(h:SmG g):SmG (saw g n):=by
 unfold saw;cases h1:ilt (ln g.Seen) 40
 ·exact h
 ·have:=of_decide_eq_true h1;refine ⟨h.1,h.2.1,h.2.2.1,?_⟩;simp [ln] at *;omega
@[simp] abbrev zxP (g:Guest)(n:Int):Bool:=pc (SmG g)
@[simp] abbrev ztU (g:Guest)(n:Int):Guest:=saw g n
def zG3:Run:=rF2 (dT .guest) dI (fun b c=>((zxP b c),[aT .guest (ztU b c)]))
def zNa (N:Nat)(a0:Guest)(a1:Int):OA :=
 (oN (zcG a0) (cond (ilt (ln (zcs a0).Seen) 40) (oN (few (ln (ap (zcs a0).Seen [a1]))) (some [(aT .guest ({ (zcs a0) with Seen:=(ap (zcs a0).Seen [a1]) }:Guest))])) (some [(aT .guest (zcs a0))])))
theorem zQ2 (a0:Guest)(a1:Int)(hc:(zxP a0 a1)=true):∃N,zNa N a0 a1=some [aT .guest (ztU a0 a1)]:=by
 have hs:=zJ.1 hc;have hz:a0.Seen.length<=1048576:=hs.2.2.2
 refine ⟨0,?_⟩;unfold zNa oN;refine mu (br (fun _=>mu ?_) (fun _=>?_))
 all_goals first|rfl|(simp only [*,ztU,saw,cT,cF]<;>rfl)|simp_all [Ty.cells,ztU,saw]
theorem zMe:Holds Tryz.prog 107 zG3:=kF2 zj1 zy zC zB (zA []) zQ2
def stopped (g:Guest)(e:GExit):Guest:={ g with Exit:=e }
@[simp] theorem zXB {g:Guest}(e:GExit)(h:SmG g):SmG (stopped g e):=h
@[simp] abbrev zdl (g:Guest)(e:GExit):Bool:=pc (SmG g)
@[simp] abbrev zcU (g:Guest)(e:GExit):Guest:=stopped g e
def zuJ:Run:=rF2 (dT .guest) dE (fun b c=>((zdl b c),[aT .guest (zcU b c)]))
def zyV (N:Nat)(a0:Guest)(a1:GExit):OA :=
 (oN (zcG a0) (some [(aT .guest ({ (zcs a0) with Exit:=a1 }:Guest))]))
theorem zHW (a0:Guest)(a1:GExit)(hc:(zdl a0 a1)=true):∃N,zyV N a0 a1=some [aT .guest (zcU a0 a1)]:=by
 have hs:=zJ.1 hc;refine ⟨0,?_⟩;unfold zyV oN;refine mu ?_
 first|rfl|(simp only [*,zcU,stopped,cT,cF]<;>rfl)|simp_all [Ty.cells,zcU,stopped]
theorem zCI:Holds Tryz.prog 111 zuJ:=kF2 zj1 zy zC zB (zA []) zHW
def zbK (g:Guest):Guest:=bif ige g.Pc 12 then { g with Pc:=12 } else { g with Pc:=zK .i64 g.Pc 1 }
@[simp] theorem ziA {g:Guest}(h:SmG g):SmG (zbK g):=by
 unfold zbK;cases ige g.Pc 12<;>exact h
@[simp] abbrev zdg (g:Guest):Bool:=pc (SmG g)
@[simp] abbrev zeZ (g:Guest):Guest:=zbK g
def zzC:Run:=rF1 (dT .guest) (fun b=>((zdg b),[aT .guest (zeZ b)]))
def zF7 (N:Nat)(a0:Guest):OA :=
 (oN (zcG a0) (cond (ige (zcs a0).Pc 12) (some [(aT .guest ({ (zcs a0) with Pc:=12 }:Guest))]) (some [(aT .guest ({ (zcs a0) with Pc:=(zK .i64 (zcs a0).Pc 1) }:Guest))])))
theorem zMo (a0:Guest)(hc:(zdg a0)=true):∃N,zF7 N a0=some [aT .guest (zeZ a0)]:=by
 have hs:=zJ.1 hc;refine ⟨0,?_⟩;unfold zF7 oN;refine mu (br (fun _=>?_) (fun _=>?_))
 all_goals first|rfl|(simp only [*,zeZ,zbK,cT,cF]<;>rfl)|simp_all [Ty.cells,zeZ,zbK]
theorem zHp:Holds Tryz.prog 108 zzC:=kF1 zj1 zy zC zB (zA []) zMo
def zUH:zS:=[(86,zsL),(103,zsK),(106,zuL),(107,zG3),(111,zuJ),(108,zzC)]++zUG
theorem zj2:zD zUH:=zk zAB (zk zAA (zk zCK (zk zMe (zk zCI (zk zHp zj1)))))
def interrupted (g:Guest):Guest:=bif zgr g then saw { g with Pending:=zhz g.Pending } (zK .i64 100 (zpt g.Pending)) else g
@[simp] theorem zNS {g:Guest}(h:SmG g):SmG (interrupted g):=by
 unfold interrupted;cases zgr g
 ·exact h
 ·exact zFH (g:={ g with Pending:=zhz g.Pending }) _ h
@[simp] abbrev zlu (g:Guest):Bool:=pc (SmG g)
@[simp] abbrev zhm (g:Guest):Guest:=interrupted g
def zor:Run:=rF1 (dT .guest) (fun b=>((zlu b),[aT .guest (zhm b)]))
def zqd (N:Nat)(a0:Guest):OA :=
 let y1:=(zK .i64 100 (zhK a0.Pending));let y0:=({ a0 with Pending:=(zhJ a0.Pending) }:Guest); (oN (zlB a0) (cond (nB (zi9 a0)) (oN (zcG a0) (some [(aT .guest (zcs a0))])) (oN (znm a0.Pending) (oN (zxP y0 y1) (some [(aT .guest (ztU y0 y1))])))))
theorem zyn (a0:Guest)(hc:(zlu a0)=true):∃N,zqd N a0=some [aT .guest (zhm a0)]:=by
 have hs:=zJ.1 hc;have hz:_/\_/\_/\_:=hs
 refine ⟨0,?_⟩;unfold zqd oN nB
 conv=>zeta
 refine must rfl (brN (fun _=>mu ?_) (fun _=>must rfl (mu ?_)))
 all_goals first|rfl|(simp only [*,zhm,interrupted,cT,cF]<;>rfl)|simp_all [Ty.cells,zhm,interrupted]
theorem zve:Holds Tryz.prog 68 zor:=kF1 zj2 zy zC zB (zA []) zyn
def zsr (o:Int):Int:=bif ieq o 3 then 3 else (cond (ieq o 4) 4 (cond (ieq o 5) 5 (cond (ieq o 6) 6 (cond (ieq o 7) 7 2))))
def zM (g:Guest):Int:=bif canRun g then (cond (zgr g) 1 (zsr (zbV g.Prog g.Pc).Op)) else 0
@[simp] abbrev zdM (g:Guest):Bool:=true
@[simp] abbrev zkf (g:Guest):Int:=zM g
def zwS:Run:=rF1 (dT .guest) (fun b=>((zdM b),[aI (zkf b)]))
def zBG (N:Nat)(a0:Guest):OA :=
 let y0:=(zeC a0.Prog a0.Pc).Op; (oN (zoG a0) (cond (nB (zmp a0)) (some [(aI 0)]) (oN (zlB a0) (cond (zi9 a0) (some [(aI 1)]) (oN (zer a0.Prog a0.Pc) (cond (ieq y0 3) (some [(aI 3)]) (cond (ieq y0 4) (some [(aI 4)]) (cond (ieq y0 5) (some [(aI 5)]) (cond (ieq y0 6) (some [(aI 6)]) (cond (ieq y0 7) (some [(aI 7)]) (some [(aI 2)])))))))))))
theorem zKm (a0:Guest)(hc:(zdM a0)=true):∃N,zBG N a0=some [aI (zkf a0)]:=by
 refine ⟨0,?_⟩;unfold zBG oN nB
 conv=>zeta
 refine must rfl (brN (fun _=>?_) (fun _=>must rfl (br (fun _=>?_) (fun _=>must rfl (br (fun _=>?_) (fun _=>br (fun _=>?_) (fun _=>br (fun _=>?_) (fun _=>br (fun _=>?_) (fun _=>br (fun _=>?_) (fun _=>?_))))))))))
 all_goals first|rfl|(simp only [*,zkf,zM,zsr,cT,cF]<;>rfl)|simp_all [Ty.cells,zkf,zM,zsr]
theorem zbS:Holds Tryz.prog 67 zwS:=kF1 zj2 zy zC zB (zA []) zKm
def held (g:Guest):Guest:=zbK { g with Halted:=true }
@[simp] theorem zLl {g:Guest}(h:SmG g):SmG (held g):=ziA (g:={ g with Halted:=true }) h
@[simp] abbrev zkc (g:Guest):Bool:=pc (SmG g)
@[simp] abbrev zsR (g:Guest):Guest:=held g
def zDH:Run:=rF1 (dT .guest) (fun b=>((zkc b),[aT .guest (zsR b)]))
def zIT (N:Nat)(a0:Guest):OA :=
 let y0:=({ a0 with Halted:=true }:Guest); (oN (zdg y0) (some [(aT .guest (zeZ y0))]))
theorem zO4 (a0:Guest)(hc:(zkc a0)=true):∃N,zIT N a0=some [aT .guest (zsR a0)]:=by
 have hs:=zJ.1 hc;have hz:_/\_/\_/\_:=hs
 refine ⟨0,?_⟩;unfold zIT oN
 conv=>zeta
 refine mu ?_
 first|rfl|(simp only [*,zsR,held,cT,cF]<;>rfl)|simp_all [Ty.cells,zsR,held]
theorem zJL:Holds Tryz.prog 123 zDH:=kF1 zj2 zy zC zB (zA []) zO4
@[simp] abbrev ztV (g:Guest):Bool:=pc (SmG g)
@[simp] abbrev zpS (g:Guest):Guest:=zbK g
def zwP:Run:=rF1 (dT .guest) (fun b=>((ztV b),[aT .guest (zpS b)]))
def zBD (N:Nat)(a0:Guest):OA :=
 (oN (zdg a0) (some [(aT .guest (zeZ a0))]))
theorem zKj (a0:Guest)(hc:(ztV a0)=true):∃N,zBD N a0=some [aT .guest (zpS a0)]:=by
 have hs:=zJ.1 hc;refine ⟨0,?_⟩;unfold zBD oN;refine mu ?_
 first|rfl|(simp only [*,zpS,cT,cF]<;>rfl)|simp_all [Ty.cells,zpS]
theorem zEL:Holds Tryz.prog 113 zwP:=kF1 zj2 zy zC zB (zA []) zKj
def loaded (g:Guest)(v:Int):Guest:=zbK (saw { g with A:=v } v)
@[simp] theorem zDR {g:Guest}(v:Int)(h:SmG g):SmG (loaded g v):=ziA (zFH (g:={ g with A:=v }) v h)
@[simp] abbrev ztP (g:Guest)(v:Int):Bool:=pc (SmG g)
@[simp] abbrev zpP (g:Guest)(v:Int):Guest:=loaded g v
def zwE:Run:=rF2 (dT .guest) dI (fun b c=>((ztP b c),[aT .guest (zpP b c)]))
def zBt (N:Nat)(a0:Guest)(a1:Int):OA :=
 let y0:=({ a0 with A:=a1 }:Guest); (oN (zxP y0 a1) (oN (zdg (ztU y0 a1)) (some [(aT .guest (zeZ (ztU y0 a1)))])))
theorem zJ7 (a0:Guest)(a1:Int)(hc:(ztP a0 a1)=true):∃N,zBt N a0 a1=some [aT .guest (zpP a0 a1)]:=by
 have hs:=zJ.1 hc;have hz:_/\_/\_/\_:=hs;have hk:SmG (saw { a0 with A:=a1 } a1):=zFH (g:={ a0 with A:=a1 }) a1 hs
 refine ⟨0,?_⟩;unfold zBt oN
 conv=>zeta
 refine mu (mu ?_)
 first|rfl|(simp only [*,zpP,loaded,cT,cF]<;>rfl)|simp_all [Ty.cells,zpP,loaded]
theorem zEA:Holds Tryz.prog 114 zwE:=kF2 zj2 zy zC zB (zA []) zJ7
def zN5 (g:Guest)(w:Int):Guest:=bif ieq w 5 then stopped g (zss (zbV g.Prog g.Pc).X) else stopped g ⟨4,0,false,0⟩
@[simp] theorem zXC {g:Guest}(w:Int)(h:SmG g):SmG (zN5 g w):=by
 unfold zN5;cases ieq w 5<;>exact h
def zdB (g:Guest):Bool:=zcZ g.Prog&&(win g.A 0 99&&(win g.Pc 0 12&&(zcI g.Written 4 8&&(zcI g.Live 4 8&&(zgX g.Ctl&&(zcK g.Pending&&(zhg g.Exit&&ile (ln g.Seen) 40)))))))
@[simp] abbrev zjC (g:Guest):Bool:=true
@[simp] abbrev zim (g:Guest):Bool:=zdB g
def zut:Run:=rF1 (dT .guest) (fun b=>((zjC b),[aB (zim b)]))
def zyG (N:Nat)(a0:Guest):OA :=
 (oN (ztT a0.Prog) (cond (zkd a0.Prog) (oN (zF a0.A 0 99) (cond (zI a0.A 0 99) (oN (zF a0.Pc 0 12) (cond (zI a0.Pc 0 12) (oN (zjG a0.Written 4 8) (cond (zf9 a0.Written 4 8) (oN (zjG a0.Live 4 8) (cond (zf9 a0.Live 4 8) (oN (znL a0.Ctl) (cond (zmr a0.Ctl) (oN (zef a0.Pending) (cond (zee a0.Pending) (oN (ztO a0.Exit) (cond (zpI a0.Exit) (some [(aB (ile (ln a0.Seen) 40))]) oF)) oF)) oF)) oF)) oF)) oF)) oF)) oF))
theorem zHG (a0:Guest)(hc:(zjC a0)=true):∃N,zyG N a0=some [aB (zim a0)]:=by
 refine ⟨0,?_⟩;unfold zyG oN;refine must rfl (br (fun _=>must rfl (br (fun _=>must rfl (br (fun _=>must rfl (br (fun _=>must rfl (br (fun _=>must rfl (br (fun _=>must rfl (br (fun _=>must rfl (br (fun _=>?_) (fun _=>?_))) (fun _=>?_))) (fun _=>?_))) (fun _=>?_))) (fun _=>?_))) (fun _=>?_))) (fun _=>?_))) (fun _=>?_))
 all_goals first|rfl|(simp only [*,zim,zdB,cT,cF]<;>rfl)|simp_all [Ty.cells,zim,zdB]
theorem zCs:Holds Tryz.prog 150 zut:=kF1 zj2 zy zC zB (zA []) zHG
def gAt (b:Bare)(i:Int):Guest:=bif hasB i (ln b.Guests) then ix b.Guests i zq else Ty.dflt .guest
@[simp] theorem zhs {b:Bare}(i:Int)(h:SmB b):SmG (gAt b i):=by
 unfold gAt;cases hh:hasB i (ln b.Guests)
 ·exact zXV
 ·exact zRM h.2.1 hh _
def zUI:zS:=[(68,zor),(67,zwS),(123,zDH),(113,zwP),(114,zwE),(150,zut)]++zUH
theorem zlZ:zD zUI:=zk zve (zk zbS (zk zJL (zk zEL (zk zEA (zk zCs zj2)))))
def plainly (g:Guest):Guest:=bif ine (zM g) 2 then g else (cond (win g.A 0 99) (cond (win (zbV g.Prog g.Pc).X 0 99) (cond (ieq (zbV g.Prog g.Pc).Op 1) { zbK g with A:=(zbV g.Prog g.Pc).X } (cond (ieq (zbV g.Prog g.Pc).Op 2) { zbK g with A:=zmG (zK .i64 g.A (zbV g.Prog g.Pc).X) 100 } (cond (ieq (zbV g.Prog g.Pc).Op 8) (cond (ieq g.A 0) { zbK g with Pc:=(zbV g.Prog g.Pc).X } (zbK g)) (zbK g)))) (zbK g)) (zbK g))
@[simp] theorem zXP (g:Guest):(zbK g).Prog=g.Prog:=by
 unfold zbK;cases ige g.Pc 12<;>rfl
@[simp] theorem zYj (g:Guest):(zbK g).A=g.A:=by
 unfold zbK;cases ige g.Pc 12<;>rfl
@[simp] theorem zWL (g:Guest):(zbK g).Written=g.Written:=by
 unfold zbK;cases ige g.Pc 12<;>rfl
@[simp] theorem zXO (g:Guest):(zbK g).Live=g.Live:=by
 unfold zbK;cases ige g.Pc 12<;>rfl
@[simp] theorem zX3 (g:Guest):(zbK g).Ctl=g.Ctl:=by
 unfold zbK;cases ige g.Pc 12<;>rfl
@[simp] theorem zWK (g:Guest):(zbK g).Pending=g.Pending:=by
 unfold zbK;cases ige g.Pc 12<;>rfl
@[simp] theorem zXN (g:Guest):(zbK g).Exit=g.Exit:=by
 unfold zbK;cases ige g.Pc 12<;>rfl
@[simp] theorem zXk (g:Guest):(zbK g).Halted=g.Halted:=by
 unfold zbK;cases ige g.Pc 12<;>rfl
@[simp] theorem zXQ (g:Guest):(zbK g).Seen=g.Seen:=by
 unfold zbK;cases ige g.Pc 12<;>rfl
@[simp] theorem zX4 (g:Guest)(x:Int):(zbK { g with A:=x }).Pc=(zbK g).Pc:=by
 unfold zbK;cases ige g.Pc 12<;>rfl
@[simp] theorem zzP {g:Guest}(h:SmG g):SmG (plainly g):=by
 have hm:=ziA h;unfold plainly;cases ine (zM g) 2
 ·cases win g.A 0 99
  ·exact hm
  ·cases win (zbV g.Prog g.Pc).X 0 99
   ·exact hm
   ·cases ieq (zbV g.Prog g.Pc).Op 1
    ·cases ieq (zbV g.Prog g.Pc).Op 2
     ·cases ieq (zbV g.Prog g.Pc).Op 8
      ·exact hm
      ·cases ieq g.A 0<;>exact hm
     ·exact hm
    ·exact hm
 ·exact h
@[simp] abbrev zrR (g:Guest):Bool:=pc (SmG g)
@[simp] abbrev znP (g:Guest):Guest:=plainly g
def zuH:Run:=rF1 (dT .guest) (fun b=>((zrR b),[aT .guest (znP b)]))
def zyT (N:Nat)(a0:Guest):OA :=
 let y7:=(ieq a0.A 0);let y5:=(zdg a0);let y1:=(aT .guest (zeZ a0));let y0:=(zeC a0.Prog a0.Pc);let y8:=({ a0 with A:=y0.X }:Guest);let y6:=(ieq y0.Op 8);let y4:=(zI y0.X 0 99);let y3:=(aT .guest ({ (zcs a0) with Pc:=y0.X }:Guest));let y2:=({ a0 with A:=(zmG (zK .i64 a0.A y0.X) 100) }:Guest); (oN (zdM a0) (cond (ine (zkf a0) 2) (oN (zcG a0) (some [(aT .guest (zcs a0))])) (oN (zer a0.Prog a0.Pc) (oN (zF a0.A 0 99) (cond (zI a0.A 0 99) (oN (zF y0.X 0 99) (cond y4 (cond (ieq y0.Op 1) (oN (zdg y8) (some [(aT .guest (zeZ y8))])) (cond y4 (cond (ieq y0.Op 2) (oN (ine 100 0) (oN (zdg y2) (some [(aT .guest (zeZ y2))]))) (cond y4 (cond y6 (cond y7 (oN (zcG a0) (some [y3])) (oN y5 (some [y1]))) (oN y5 (some [y1]))) (oN y5 (some [y1])))) (cond y4 (cond y6 (cond y7 (oN (zcG a0) (some [y3])) (oN y5 (some [y1]))) (oN y5 (some [y1]))) (oN y5 (some [y1]))))) (cond y4 (cond (ieq y0.Op 2) (oN (ine 100 0) (oN (zdg y2) (some [(aT .guest (zeZ y2))]))) (cond y4 (cond y6 (cond y7 (oN (zcG a0) (some [y3])) (oN y5 (some [y1]))) (oN y5 (some [y1]))) (oN y5 (some [y1])))) (cond y4 (cond y6 (cond y7 (oN (zcG a0) (some [y3])) (oN y5 (some [y1]))) (oN y5 (some [y1]))) (oN y5 (some [y1])))))) (oN y5 (some [y1])))))))
theorem zHU (a0:Guest)(hc:(zrR a0)=true):∃N,zyT N a0=some [aT .guest (znP a0)]:=by
 have hs:=zJ.1 hc;have hz:_/\_/\_/\_:=hs
 refine ⟨0,?_⟩;unfold zyT oN
 conv=>zeta
 refine must rfl (br (fun _=>mu ?_) (fun _=>must rfl (must rfl (br (fun _=>must rfl (br (fun _=>br (fun _=>mu ?_) (fun _=>br (fun _=>br (fun _=>must rfl (mu ?_)) (fun _=>br (fun _=>br (fun _=>br (fun _=>mu ?_) (fun _=>mu ?_)) (fun _=>mu ?_)) (fun _=>mu ?_))) (fun _=>br (fun _=>br (fun _=>br (fun _=>mu ?_) (fun _=>mu ?_)) (fun _=>mu ?_)) (fun _=>mu ?_)))) (fun _=>br (fun _=>br (fun _=>must rfl (mu ?_)) (fun _=>br (fun _=>br (fun _=>br (fun _=>mu ?_) (fun _=>mu ?_)) (fun _=>mu ?_)) (fun _=>mu ?_))) (fun _=>br (fun _=>br (fun _=>br (fun _=>mu ?_) (fun _=>mu ?_)) (fun _=>mu ?_)) (fun _=>mu ?_))))) (fun _=>mu ?_)))))
 all_goals first|rfl|(simp only [*,znP,plainly,cT,cF]<;>rfl)|simp_all [Ty.cells,znP,plainly]
theorem zCG:Holds Tryz.prog 69 zuH:=kF1 zlZ zy zC zB (zA []) zHU
def address (g:Guest):Int:=bif ine (zM g) 3 then (cond (ine (zM g) 4) (-1) ((zbV g.Prog g.Pc).X)) else (zbV g.Prog g.Pc).X
@[simp] abbrev zm2 (g:Guest):Bool:=true
@[simp] abbrev zgR (g:Guest):Int:=address g
def zus:Run:=rF1 (dT .guest) (fun b=>((zm2 b),[aI (zgR b)]))
def zyB (N:Nat)(a0:Guest):OA :=
 (oN (zdM a0) (cond (ine (zkf a0) 3) (cond (ine (zkf a0) 4) (some [(aI (-1))]) (oN (zer a0.Prog a0.Pc) (some [(aI (zeC a0.Prog a0.Pc).X)]))) (oN (zer a0.Prog a0.Pc) (some [(aI (zeC a0.Prog a0.Pc).X)]))))
theorem zHB (a0:Guest)(hc:(zm2 a0)=true):∃N,zyB N a0=some [aI (zgR a0)]:=by
 refine ⟨0,?_⟩;unfold zyB oN;refine must rfl (br (fun _=>br (fun _=>?_) (fun _=>must rfl ?_)) (fun _=>must rfl ?_))
 all_goals first|rfl|(simp only [*,zgR,address,cT,cF]<;>rfl)|simp_all [Ty.cells,zgR,address]
theorem zCr:Holds Tryz.prog 109 zus:=kF1 zlZ zy zC zB (zA []) zHB
def zhe (g:Guest)(t w:Int):Guest:=bif ieq w 6 then stopped g (zte (zbV g.Prog g.Pc).X) else (cond (ieq w 5&&zfx t 1) (stopped g (zss (zbV g.Prog g.Pc).X)) (cond (ieq w 7&&zfx t 2) (stopped g ⟨4,0,false,0⟩) (cond (ieq w 7) (held g) (zbK g))))
def zhX (t w:Int):Bool:=bif ieq w 6 then false else (cond (ieq w 5&&zfx t 1) false (cond (ieq w 7&&zfx t 2) false true))
@[simp] theorem zxb {g:Guest}(t w:Int)(h:SmG g):SmG (zhe g t w):=by
 unfold zhe;cases ieq w 6
 ·cases (ieq w 5&&zfx t 1)
  ·cases (ieq w 7&&zfx t 2)
   ·cases ieq w 7
    ·exact ziA h
    ·exact zLl h
   ·exact h
  ·exact h
 ·exact h
@[simp] abbrev zc4 (g:Guest)(t w:Int):Bool:=pc (SmG g)
@[simp] abbrev zbP (g:Guest)(t w:Int):Guest:=zhe g t w
@[simp] abbrev zcH (g:Guest)(t w:Int):Bool:=zhX t w
def zuQ:Run:=rF3 (dT .guest) dI dI (fun b c d=>((zc4 b c d),[aT .guest (zbP b c d),aB (zcH b c d)]))
def zy2 (N:Nat)(a0:Guest)(a1 a2:Int):OA :=
 let y3:=(aT .guest (zeZ a0));let y2:=(aT .guest (zsR a0));let y1:=(⟨4,0,false,0⟩:GExit);let y0:=(zeC a0.Prog a0.Pc).X; (oN (zer a0.Prog a0.Pc) (cond (ieq a2 6) (oN (zpH y0) (oN (zdl a0 (ziX y0)) (some [(aT .guest (zcU a0 (ziX y0))),(aB false)]))) (cond (ieq a2 5) (oN (zgo a1 1) (cond (zf7 a1 1) (oN (zrP y0) (oN (zdl a0 (zkx y0)) (some [(aT .guest (zcU a0 (zkx y0))),(aB false)]))) (cond (ieq a2 7) (oN (zgo a1 2) (cond (zf7 a1 2) (oN (zdl a0 y1) (some [(aT .guest (zcU a0 y1)),(aB false)])) (cond (ieq a2 7) (oN (zkc a0) (some [y2,(aB true)])) (oN (zdg a0) (some [y3,(aB true)]))))) (cond (ieq a2 7) (oN (zkc a0) (some [y2,(aB true)])) (oN (zdg a0) (some [y3,(aB true)])))))) (cond (ieq a2 7) (oN (zgo a1 2) (cond (zf7 a1 2) (oN (zdl a0 y1) (some [(aT .guest (zcU a0 y1)),(aB false)])) (cond (ieq a2 7) (oN (zkc a0) (some [y2,(aB true)])) (oN (zdg a0) (some [y3,(aB true)]))))) (cond (ieq a2 7) (oN (zkc a0) (some [y2,(aB true)])) (oN (zdg a0) (some [y3,(aB true)])))))))
theorem zH6 (a0:Guest)(a1 a2:Int)(hc:(zc4 a0 a1 a2)=true):∃N,zy2 N a0 a1 a2=some [aT .guest (zbP a0 a1 a2),aB (zcH a0 a1 a2)]:=by
 have hs:=zJ.1 hc;refine ⟨0,?_⟩;unfold zy2 oN
 conv=>zeta
 refine must rfl (br (fun _=>must rfl (mu ?_)) (fun _=>br (fun _=>must rfl (br (fun _=>must rfl (mu ?_)) (fun _=>br (fun _=>must rfl (br (fun _=>mu ?_) (fun _=>br (fun _=>mu ?_) (fun _=>mu ?_)))) (fun _=>br (fun _=>mu ?_) (fun _=>mu ?_))))) (fun _=>br (fun _=>must rfl (br (fun _=>mu ?_) (fun _=>br (fun _=>mu ?_) (fun _=>mu ?_)))) (fun _=>br (fun _=>mu ?_) (fun _=>mu ?_)))))
 all_goals first|rfl|(simp only [*,zbP,zcH,zhe,zhX,cT,cF]<;>rfl)|simp_all [Ty.cells,zbP,zcH,zhe,zhX]
theorem zCS:Holds Tryz.prog 116 zuQ:=kF3 zlZ zy zC zB (zA []) zH6
def zbJ (b:Bare):Bool:=bif b.Guests.all zdB then (ziO b.Memory 8&&(win (ln b.Guests) 1 2&&(ile (ln b.Outs) 40&&zcK b.Pending))) else false
@[simp] abbrev zlh (b:Bare):Bool:=true
@[simp] abbrev zdQ (b:Bare):Bool:=zbJ b
def zww:Run:=rF1 (dT .bare) (fun b=>((zlh b),[aB (zdQ b)]))
def zBl (N:Nat)(a0:Bare):OA :=
 (iter (σ:=(Int×(Int×(lM×(lG×((List Int)×Unit)))))) N (fun r2 s3=>let y0:=s3.2.2.2.1; (cond (ilt s3.1 (ln y0)) (oN (inb s3.1 (ln y0)) (oN (zjC (ix y0 s3.1 zq)) (cond (nB (zim (ix y0 s3.1 zq))) oF (r2 ((zK .i64 s3.1 1),(s3.2.1,(s3.2.2.1,(y0,(s3.2.2.2.2.1,()))))))))) (oN (znN s3.2.2.1 8) (cond (zi7 s3.2.2.1 8) (oN (zF (ln y0) 1 2) (cond (zI (ln y0) 1 2) (cond (ile (ln s3.2.2.2.2.1) 40) (oN (zef s3.2.1) (some [(aB (zee s3.2.1))])) oF) oF)) oF)))) (0,(a0.Pending,(a0.Memory,(a0.Guests,(a0.Outs,()))))))
def zLy:FuncId->Nat->Option Tmpl:=zA [(127,0,{ n:=38,tm:=[(1,.lp 0 0),(3,ti)],lo:=[(0,[.sl 0 [],.sl 1 [],.sl 2 [],ti])],ro:=[(0,(.sl .int),false),(1,.guest,false),(2,.int,false)] })]
theorem zJZ (a0:Bare)(hb:zci big [aT .bare a0])(hc:(zlh a0)=true):∃N,zBl N a0=some [aB (zdQ a0)]:=by
 have hl:(_:List _).length<=big:=((zeN hb).1 (.s .guest a0.Guests) (by simp [AV.cvs,Ty.cells])).len
 refine zc9 fun N hNN=>?_;unfold zBl oN nB
 conv=>zeta
 refine (zby a0.Guests (fun i (t:Unit)=>((i:Int),a0.Pending,a0.Memory,a0.Guests,a0.Outs,())) _ (fun _ x (_:Unit) κ=>bif (zdB) x then κ () else oF) (fun (t:Unit)=>(cond (znN a0.Memory 8) (cond (zi7 a0.Memory 8) (cond (zF (ln a0.Guests) 1 2) (cond (zI (ln a0.Guests) 1 2) (cond (ile (ln a0.Outs) 40) (cond (zef a0.Pending) (some [(.one (.b (zee a0.Pending)))]) none) oF) oF) none) oF) none)) (fun i hi t rec=>?_) (fun t rec=>?_) _ () (hNN hl)).trans ?_
 ·simp only [zcb hi,zbx hi,zbF hi,zbu hi hl,cT];exact zpa rfl
 ·simp only [zb6,cF]
 rw [zl2 (zdB)];refine br (fun h0=>?_) (fun h0=>?_)
 ·refine must rfl ?_;refine br (fun h1=>?_) (fun h1=>?_)
  ·refine must rfl ?_;refine br (fun h2=>?_) (fun h2=>?_)
   ·refine br (fun h3=>?_) (fun h3=>?_)
    ·refine must rfl ?_
     first|rfl|(simp only [h0,h1,h2,h3,zdQ,zbJ,cT,cF]<;>rfl)|(simp_all [Ty.cells,zdQ,zbJ];done)
    ·first|rfl|(simp only [h0,h1,h2,h3,zdQ,zbJ,cT,cF]<;>rfl)|(simp_all [Ty.cells,zdQ,zbJ];done)
   ·first|rfl|(simp only [h0,h1,h2,zdQ,zbJ,cT,cF]<;>rfl)|(simp_all [Ty.cells,zdQ,zbJ];done)
  ·first|rfl|(simp only [h0,h1,zdQ,zbJ,cT,cF]<;>rfl)|(simp_all [Ty.cells,zdQ,zbJ];done)
 ·first|rfl|(simp only [h0,zdQ,zbJ,cT,cF]<;>rfl)|(simp_all [Ty.cells,zdQ,zbJ];done)
theorem zEs:Holds Tryz.prog 127 zww:=hF1 zlZ zy zC zB zLy zJZ
@[simp] abbrev zdY (b:Bare):Bool:=pc (SmB b)
@[simp] abbrev zbU (b:Bare):Bare:=b
def zuP:Run:=rF1 (dT .bare) (fun b=>((zdY b),[aT .bare (zbU b)]))
def zy1 (N:Nat)(a0:Bare):OA :=
 (oN (zeG a0.Memory) (oN (zet a0.Guests) (oN (few (ln (ap [] a0.Outs))) (some [(aT .bare (⟨(zdy a0.Memory),(zeJ a0.Guests),(ap [] a0.Outs),a0.Pending⟩:Bare))]))))
theorem zH5 (a0:Bare)(hc:(zdY a0)=true):∃N,zy1 N a0=some [aT .bare (zbU a0)]:=by
 have hs:=zJ.1 hc;have hz:_/\_/\_:=hs
 refine ⟨0,?_⟩;unfold zy1 oN;refine mu (mu (mu ?_))
 first|rfl|(simp only [*,zbU,cT,cF]<;>rfl)|simp_all [Ty.cells,zbU]
theorem zCR:Holds Tryz.prog 117 zuP:=kF1 zlZ zy zC zB (zA []) zH5
def zUJ:zS:=[(69,zuH),(109,zus),(116,zuQ),(127,zww),(117,zuP)]++zUI
theorem zSE:zD zUJ:=zk zCG (zk zCr (zk zCS (zk zEs (zk zCR zlZ))))
def zdq (b:Bare)(i:Int)(x:Guest):Bare:={ b with Guests:=up b.Guests i x }
def zk5 (b:Bare)(n:Int):Bare:=bif ilt (ln b.Outs) 40 then { b with Outs:=ap b.Outs [n] } else b
@[simp] theorem zkj {b:Bare}{i:Int}{x:Guest}(h:SmB b)(hx:SmG x):SmB (zdq b i x):=⟨h.1,zxR h.2.1 hx,h.2.2⟩
@[simp] theorem zPF {b:Bare}{n:Int}(h:SmB b):SmB (zk5 b n):=by
 unfold zk5;cases h1:ilt (ln b.Outs) 40
 ·exact h
 ·have:=of_decide_eq_true h1;refine ⟨h.1,h.2.1,?_⟩;simp [ln] at *;omega
@[simp] theorem zYd (b:Bare)(n:Int):(zk5 b n).Guests=b.Guests:=by
 unfold zk5;cases ilt (ln b.Outs) 40<;>rfl
@[simp] theorem zt3 {m:List (List Int)}{p c v:Int}(h:SmM m):SmM (zbm m p c v):=by
 unfold zbm;cases h1:zf4 m p c
 ·exact h
 ·cases h2:win v 0 99
  ·exact h
  ·exact zDT h (by simpa using zXv h ((ztE m p c).1 h1).1 [])
def zOp:zS:=zUJ
theorem zti:zD zOp:=zSE
def zkD (b:Bare)(g:Int)(x:Guest)(w:Bool):Bare :=
 bif zel x.Live (zU (address x)) (zbL w) then
  (bif w then zdq { b with Memory:=zbm b.Memory (zb5 x.Live (zU (address x)) (zbL w)) (zcA (address x)) x.A } g (zbK x)
  else zdq b g (loaded x (cellAt b.Memory (zb5 x.Live (zU (address x)) (zbL w)) (zcA (address x)))))
 else zdq b g (stopped x (znz (zU (address x)) w))
def zxS (b:Bare)(g:Int)(x:Guest)(w:Int):Bare :=
 zdq (cond (cond (zhX x.Ctl.Traps w) (ieq w 5) false) (zk5 b (zbV x.Prog x.Pc).X) b) g (zhe x x.Ctl.Traps w)
def stepped (b:Bare)(g:Int)(x:Guest)(w:Int):Bare :=
 bif ieq w 1 then zdq b g (interrupted x) else (cond (ieq w 2) (zdq b g (plainly x)) (cond (ieq w 3) (zkD b g x false) (cond (ieq w 4) (zkD b g x true) (zxS b g x w))))
def ziE (b:Bare)(g:Int):Bool:=bif hasB g (ln b.Guests) then (cond (zbJ b) (!ieq (zM (gAt b g)) 0) false) else false
def zgh (b:Bare)(g:Int):Bare:=bif ziE b g then stepped b g (gAt b g) (zM (gAt b g)) else b
@[simp] theorem zNR {b:Bare}{g:Int}{x:Guest}{w:Bool}(h:SmB b)(hx:SmG x):SmB (zkD b g x w):=by
 unfold zkD;cases zel x.Live (zU (address x)) (zbL w)
 ·exact zkj h hx
 ·cases w
  ·exact zkj h (zDR _ hx)
  ·exact ⟨zt3 h.1,zxR h.2.1 (ziA hx),h.2.2⟩
@[simp] theorem zWA {b:Bare}{g:Int}{x:Guest}{w:Int}(h:SmB b)(hx:SmG x):SmB (zxS b g x w):=by
 unfold zxS;cases (cond (zhX x.Ctl.Traps w) (ieq w 5) false)
 ·exact zkj h (zxb _ _ hx)
 ·exact zkj (zPF h) (zxb _ _ hx)
@[simp] theorem zM1 {b:Bare}{g:Int}{x:Guest}{w:Int}(h:SmB b)(hx:SmG x):SmB (stepped b g x w):=by
 unfold stepped;cases ieq w 1
 ·cases ieq w 2
  ·cases ieq w 3
   ·cases ieq w 4
    ·exact zWA h hx
    ·exact zNR h hx
   ·exact zNR h hx
  ·exact zkj h (zzP hx)
 ·exact zkj h (zNS hx)
@[simp] theorem zYf {b:Bare}{g:Int}(h:SmB b):SmB (zgh b g):=by
 unfold zgh;cases ziE b g
 ·exact h
 ·exact zM1 h (zhs g h)
theorem zXZ (x:Guest):ieq (zM x) 0=false->ieq (zM x) 1=false->ieq (zM x) 2=false->ieq (zM x) 3=false->ieq (zM x) 4=false->ieq (zM x) 5=false->ieq (zM x) 6=false->ieq (zM x) 7=true:=by
 unfold zM zsr;cases canRun x
 ·intro h;cases h
 ·cases zgr x
  ·simp only [cT,cF];generalize (zbV x.Prog x.Pc).Op=o;cases ieq o 3<;>cases ieq o 4<;>cases ieq o 5<;>cases ieq o 6<;>cases ieq o 7<;>simp [ieq]
  ·intro _ h;cases h
def SmK (k:Kept):Prop:=k.Known.length<=1048576/\k.Slots.length<=1048576
def zvz (l:List Kept):Prop:=l.length<=1048576/\∀x∈l,SmK x
def zeU (m:Mon):Prop:=m.Outer.length<=1048576/\SmM m.Out/\m.Dirty.length<=1048576/\zkN m.Guests/\m.Outs.length<=1048576/\zvz m.Tables
def znu (l:List Mon):Prop:=l.length<=1048576/\∀x∈l,zeU x
def SmH (h:Host):Prop:=SmM h.Memory/\znu h.Mons/\h.Buffer.length<=1048576/\h.IoBuffer.length<=1048576
@[simp] theorem zsa (k:Kept):(∀c∈Ty.cells .kept k,CVB sm c)↔SmK k:=by simp [Ty.cells,SmK,zTJ]
@[simp] theorem zSM (l:List Kept):CVB sm (.s .kept l)↔zvz l:=by rw [ziH];simp only [zsa];rfl
@[simp] theorem zNf (m:Mon):(∀c∈Ty.cells .mon m,CVB sm c)↔zeU m:=by
 simp only [Ty.cells,List.mem_cons,List.not_mem_nil,or_false,forall_eq_or_imp,forall_eq,zoY,zqm,zSM,zOy,zL2,zL1,zUW,and_true,true_and];rfl
@[simp] theorem zVM (l:List Mon):CVB sm (.s .mon l)↔znu l:=by rw [ziH];simp only [zNf];rfl
@[simp] theorem zO (h:Host):zb3 h↔SmH h:=by
 unfold zb3;simp only [zbE,List.mem_cons,List.not_mem_nil,or_false,forall_eq_or_imp,forall_eq,zoY,zVM,zJs];rfl
theorem zbO {p:Prop}(h:p):pc p=true:=zbc h
theorem zsX {l:List Kept}{i:Int}{x:Kept}(h:zvz l)(hx:SmK x):zvz (up l i x):=by
 refine ⟨by simpa using h.1,fun y hy=>?_⟩
 rcases List.mem_or_eq_of_mem_set hy with hy|rfl
 ·exact h.2 y hy
 ·exact hx
theorem zgV {l:List Mon}{i:Int}{x:Mon}(h:znu l)(hx:zeU x):znu (up l i x):=by
 refine ⟨by simpa using h.1,fun y hy=>?_⟩
 rcases List.mem_or_eq_of_mem_set hy with hy|rfl
 ·exact h.2 y hy
 ·exact hx
theorem zsf {α:Type}{l:List α}(h:l.length<=1048576):few (ln (ap [] l))=true:=by
 rw [zjs,zVT];omega
@[simp] abbrev zbq (h:Host):Bool:=pc (zb3 h)
@[simp] abbrev zi (h:Host):Host:=h
def zuR:Run:=rF1 dH (fun b=>((zbq b),[aH (zi b)]))
def zy3 (N:Nat)(a0:Host):OA :=
 (oN (zeG a0.Memory) (oN (few (ln (ap [] a0.Buffer))) (oN (few (ln (ap [] a0.IoBuffer))) (iter (σ:=(Int×(lM×(lN×(lE×(lE×(lM×(lN×(lE×(lE×(lM×(lN×(lE×(lE×Unit)))))))))))))) N (fun r2 s3=>let y2:=s3.2.2.2.2.2.2.2.2.2.2.2.2.1;let y1:=(ix s3.2.2.1 s3.1 zf);let y0:=(ap s3.2.2.2.2.2.2.2.2.2.2.1 [(zmA y1)]); (cond (ilt s3.1 (ln s3.2.2.1)) (oN (inb s3.1 (ln s3.2.2.1)) (oN (zlH y1) (oN (few (ln y0)) (r2 ((zK .i64 s3.1 1),(s3.2.1,(s3.2.2.1,(s3.2.2.2.1,(s3.2.2.2.2.1,(s3.2.2.2.2.2.1,(s3.2.2.2.2.2.2.1,(s3.2.2.2.2.2.2.2.1,(s3.2.2.2.2.2.2.2.2.1,(s3.2.2.2.2.2.2.2.2.2.1,(y0,(s3.2.2.2.2.2.2.2.2.2.2.2.1,(y2,()))))))))))))))))) (some [(aH (⟨s3.2.2.2.2.2.2.2.2.2.1,s3.2.2.2.2.2.2.2.2.2.2.1,s3.2.2.2.2.2.2.2.2.2.2.2.1,y2⟩:Host))]))) (0,(a0.Memory,(a0.Mons,(a0.Buffer,(a0.IoBuffer,([],([],([],([],((zdy a0.Memory),([],((ap [] a0.Buffer),((ap [] a0.IoBuffer),())))))))))))))))))
def zIt:FuncId->Nat->Option Tmpl:=zA [(34,0,{ n:=36,tm:=[(1,.lp 0 0),(2,.lp 1 0),(3,.lp 2 0),(4,ti)],lo:=[(0,[.sl 0 [],.sl 1 [],.sl 2 [],.sl 3 []]),(1,[.sl 4 [],.sl 5 [],.sl 6 [],.sl 7 []]),(2,[.sl 8 [],.sl 9 [],.sl 10 [],.sl 11 []])],ro:=[(0,(.sl .int),false),(1,.mon,false),(2,.entry,false),(3,.entry,false),(4,(.sl .int),true),(5,.mon,true),(6,.entry,true),(7,.entry,true),(8,(.sl .int),true),(9,.mon,true),(10,.entry,true),(11,.entry,true)] })]
theorem zH7 (a0:Host)(hc:(zbq a0)=true):∃N,zy3 N a0=some [aH (zi a0)]:=by
 obtain ⟨h1,h2,h3,h4⟩:=(zO a0).1 (zJ.1 hc);have hl:=zc0 h2.1;refine zc9 fun N hNN=>?_;unfold zy3 oN
 conv=>zeta
 refine must (zbO ((zoY _).2 h1)) (must (zsf h3) (must (zsf h4) ?_));refine (zby a0.Mons (fun i (t:lN)=>((i:Int),a0.Memory,a0.Mons,a0.Buffer,a0.IoBuffer,[],[],[],[],(zdy a0.Memory),t,(ap [] a0.Buffer),(ap [] a0.IoBuffer),())) _ (fun _ x acc κ=>bif zlH x then (cond (few (ln (ap acc [zmA x]))) (κ (ap acc [zmA x])) none) else none) (fun (t:lN)=>(some [(.agg (zbE (⟨(zdy a0.Memory),t,(ap [] a0.Buffer),(ap [] a0.IoBuffer)⟩:Host)))])) (fun i hi t rec=>?_) (fun t rec=>?_) _ ([]) (hNN hl.1)).trans ?_
 ·simp only [zcb hi,zbx hi,zbF hi,zbu hi hl.1,cT]
 ·simp only [zb6,cF]
 exact zpb zlH zmA _ a0.Mons 0 [] (fun x hx=>⟨zbO ((zNf x).2 (h2.2 x hx)),rfl⟩) (by simpa using hl.2)
theorem zCT:Holds Tryz.prog 34 zuR:=kF1 zti zy zC zB zIt zH7
def zUw:zS:=[(34,zuR)]++zOp
theorem zSD:zD zUw:=zk zCT zti
def zUx:zS:=zUw
theorem zJk:zD zUx:=zSD
def allI {α:Type}(p:Nat->α->Bool):List α->Nat->Bool
 | [],_=>true
 | x :: l,i=>p i x&&allI p l (i+1)
theorem zJB {α ρ:Type}(p:Nat->α->Bool)(r:Option ρ)(K:Unit->Option ρ):∀(l:List α) (i:Nat),goL (fun i x (_:Unit) k=>bif p i x then k () else r) K l i ()=bif allI p l i then K () else r
 | [],_=>rfl
 | x :: l,i=>by
  simp only [goL,allI];cases p i x
  ·rfl
  ·simp only [cT,Bool.true_and];exact zJB p r K l (i+1)
theorem zGe {α:Type}(q:α->Bool)(l:List α)(d:α):∀(n i:Nat),i+n<=l.length->zlS (fun j=>q (ix l (j:Int) d)) n i=((l.drop i).take n).all q
 | 0,i,_=>by simp [zlS]
 | n+1,i,h=>by
  have hi:i<l.length:=by omega
  rw [List.drop_eq_getElem_cons hi,List.take_succ_cons,List.all_cons,<- zGe q l d n (i+1) (by omega)]
  simp only [zlS,zbF hi]
def sameKey (a b:Entry):Bool:=bif ieq a.Tag b.Tag then ieq a.Page b.Page else false
def alone (l:List Entry)(i:Nat)(x:Entry):Bool:=(l.take i).all fun y=>!sameKey x y
def zeu (l:List Entry):Bool:=bif allI (alone l) l 0 then ile (ln l) 6 else false
@[simp] abbrev zlk (l:List Entry):Bool:=true
@[simp] abbrev zlj (l:List Entry):Bool:=zeu l
def zsz:Run:=rF1 (dS .entry) (fun b=>((zlk b),[aB (zlj b)]))
def zvj (N:Nat)(a0:lE):OA :=
 (iter (σ:=(Int×(lE×Unit))) N (fun r2 s3=>(cond (ilt s3.1 (ln s3.2.1)) (iter (σ:=(Int×(Int×(lE×Unit)))) N (fun r4 s5=>let y0:=s5.2.2.1;let y2:=(ix y0 s5.2.1 zhQ);let y1:=(r4 (s5.1,((zK .i64 s5.2.1 1),(y0,())))); (cond (ilt s5.2.1 s5.1) (oN (inb s5.1 (ln y0)) (oN (inb s5.2.1 (ln y0)) (cond (ieq (ix y0 s5.1 zhQ).Tag y2.Tag) (oN (inb s5.1 (ln y0)) (oN (inb s5.2.1 (ln y0)) (cond (ieq (ix y0 s5.1 zhQ).Page y2.Page) oF y1))) y1))) (r2 ((zK .i64 s5.1 1),(y0,()))))) (s3.1,(0,(s3.2.1,())))) (some [(aB (ile (ln s3.2.1) 6))]))) (0,(a0,())))
def zFN:FuncId->Nat->Option Tmpl:=zA [(142,0,{ n:=43,tm:=[(0,.sl 0 []),(3,ti)],lo:=[],ro:=[(0,.entry,false)] }),(142,2,{ n:=43,tm:=[(0,.sl 0 []),(3,ti),(4,ti)],lo:=[],ro:=[(0,.entry,false)] })]
theorem zE5 (a0:List Entry)(hb:zci big [aS .entry a0])(hc:(zlk a0)=true):∃N,zvj N a0=some [aB (zlj a0)]:=by
 have hl:=(len0 hb);refine zc9 fun N hNN=>?_;unfold zvj oN
 conv=>zeta
 refine (zby a0 (fun i (t:Unit)=>((i:Int),a0,())) _ (fun i (x:Entry) (_:Unit) κ=>bif alone a0 i x then κ () else oF) (fun (t:Unit)=>(some [(.one (.b (ile (ln a0) 6)))])) (fun i hi t rec=>?_) (fun t rec=>?_) _ () (hNN hl)).trans ?_
 ·simp only [zcb hi,zbx hi,zbF hi,zbu hi hl,cT];refine (zAM i (fun (j:Nat) (_:Unit)=>((i:Int),((j:Int),(a0,())))) _ (fun j (_:Unit) κ=>bif !sameKey a0[i] (ix a0 (j:Int) zhQ) then κ () else oF) (fun _=>rec (((i+1:Nat):Int),(a0,()))) (fun j hj u rec1=>?_) (fun u rec1=>?_) _ () (hNN (by omega))).trans ?_
  ·have hj2:j<a0.length:=by omega
   simp only [show ilt (j:Int) (i:Int)=true from decide_eq_true (by omega),zbx hi,zbx hj2,zbF hi,zbu hj2 hl,cT]
   unfold sameKey;cases ieq a0[i].Tag (ix a0 (j:Int) zhQ).Tag<;>cases ieq a0[i].Page (ix a0 (j:Int) zhQ).Page<;>rfl
  ·simp only [show ilt (i:Int) (i:Int)=false from decide_eq_false (by omega),zbu hi hl,cF]
  rw [zEl (fun j=>!sameKey a0[i] (ix a0 (j:Int) zhQ)),zGe (fun y=>!sameKey a0[i] y) a0 _ i 0 (by omega)]
  rfl
 ·simp only [zb6,cF]
 rw [zJB (alone a0)];unfold zlj zeu;cases allI (alone a0) a0 0<;>rfl
theorem zAo:Holds Tryz.prog 142 zsz:=hF1 zJk zy zC zB zFN zE5
def zUy:zS:=[(142,zsz)]++zUx
theorem zJl:zD zUy:=zk zAo zJk
theorem zV5 (a b:Int):igt a b = !ile a b:=by
 unfold igt ile
 by_cases h:a<=b
 ·rw [decide_eq_true h,decide_eq_false (by omega)];rfl
 ·rw [decide_eq_false h,decide_eq_true (by omega)];rfl
theorem stB {c M:Bool}{E:OA}(h:c=true->E=some [AV.one (.b M)]):(cond (cond c false true) (some [AV.one (.b false)]) E)=some [AV.one (.b (cond c M false))]:=by
 cases c
 ·rfl
 ·exact h rfl
theorem stI {a b:Int}{M:Bool}{E:OA}(h:ieq a b=true->E=some [AV.one (.b M)]):(cond (ine a b) (some [AV.one (.b false)]) E)=some [AV.one (.b (cond (ieq a b) M false))]:=by
 rw [zxG];cases hh:ieq a b
 ·rfl
 ·exact h hh
def zku (s:Slot)(p:List Int):Bool:=bif zcz s noSlot then zcr p else (cond (enough s.Rights 1) (ile (ln p) 0) false)
def fits (m:Mon)(j:Nat):Bool:=zku (ix m.Outer (j:Int) zX) (ix m.Out (j:Int) [])
def zd7 (m:Mon):Bool:=bif win (ln m.Guests) 1 2 then (cond (ieq (ln m.Tables) (ln m.Guests)) (cond (zcI m.Outer 8 12) (cond (ieq (ln m.Out) 8) (cond (ieq (ln m.Dirty) 8) (cond (ile (ln m.Outs) 40) (cond (zcK m.Pending) (cond (win m.Traps 0 3) (cond (win m.Own 0 1000000000) (cond (m.Guests.all zdB) (zlS (fits m) 8 0) false) false) false) false) false) false) false) false) false) else false
theorem zrm {t:List Slot}{n p:Int}(h:zcI t n p=true):ln t=n:=by
 unfold zcI at h;cases h1:t.all (fun s=>zds s p)
 ·rw [h1] at h;cases h
 ·rw [h1] at h;exact of_decide_eq_true h
@[simp] abbrev znO (m:Mon):Bool:=true
@[simp] abbrev zo6 (m:Mon):Bool:=zd7 m
def zzB:Run:=rF1 (dT .mon) (fun b=>((znO b),[aB (zo6 b)]))
def zF6 (N:Nat)(a0:Mon):OA :=
 (oN (zF (ln a0.Guests) 1 2) (cond (nB (zI (ln a0.Guests) 1 2)) oF (cond (ine (ln a0.Tables) (ln a0.Guests)) oF (oN (zjG a0.Outer 8 12) (cond (nB (zf9 a0.Outer 8 12)) oF (cond (ine (ln a0.Out) 8) oF (cond (ine (ln a0.Dirty) 8) oF (iter (σ:=(Int×(Int×(Int×(Int×(lS×(lM×(lB×(lG×((List Int)×(lK×Unit))))))))))) N (fun r2 s3=>let y3:=s3.2.2.2.2.2.2.2.1; (cond (ilt s3.1 (ln y3)) (oN (inb s3.1 (ln y3)) (oN (zjC (ix y3 s3.1 zq)) (cond (nB (zim (ix y3 s3.1 zq))) oF (r2 ((zK .i64 s3.1 1),(s3.2.1,(s3.2.2.1,(s3.2.2.2.1,(s3.2.2.2.2.1,(s3.2.2.2.2.2.1,(s3.2.2.2.2.2.2.1,(y3,(s3.2.2.2.2.2.2.2.2.1,(s3.2.2.2.2.2.2.2.2.2.1,())))))))))))))) (iter (σ:=(Int×(Int×(Int×(Int×(lS×(lM×(lB×(lG×((List Int)×(lK×Unit))))))))))) N (fun r4 s5=>let y7:=s5.2.2.2.2.1;let y4:=(inb s5.1 (ln s5.2.2.2.2.2.1));let y2:=(ix s5.2.2.2.2.2.1 s5.1 []);let y1:=(ix y7 s5.1 zX);let y6:=(ieq y1.Rights zbg.Rights);let y5:=(ieq y1.Page zbg.Page);let y0:=(r4 ((zK .i64 s5.1 1),(s5.2.1,(s5.2.2.1,(s5.2.2.2.1,(y7,(s5.2.2.2.2.2.1,(s5.2.2.2.2.2.2.1,(s5.2.2.2.2.2.2.2.1,(s5.2.2.2.2.2.2.2.2.1,(s5.2.2.2.2.2.2.2.2.2.1,()))))))))))); (cond (ilt s5.1 8) (oN (inb s5.1 (ln y7)) (oN zb2 (cond (nB (cond y5 y6 false)) (oN y4 (cond (igt (ln y2) 0) oF (oN (inb s5.1 (ln y7)) (oN (zfc y1.Rights 1) (cond (nB (zfN y1.Rights 1)) oF (cond (nB (nB (cond y5 y6 false))) (oN y4 (oN (zeF y2) (cond (nB (zed y2)) oF y0))) y0)))))) (cond (nB (nB (cond y5 y6 false))) (oN y4 (oN (zeF y2) (cond (nB (zed y2)) oF y0))) y0)))) (cond (ile (ln s5.2.2.2.2.2.2.2.2.1) 40) (oN (zef s5.2.1) (cond (zee s5.2.1) (oN (zF s5.2.2.1 0 3) (cond (zI s5.2.2.1 0 3) (oN (zF s5.2.2.2.1 0 1000000000) (some [(aB (zI s5.2.2.2.1 0 1000000000))])) oF)) oF)) oF))) (0,(s3.2.1,(s3.2.2.1,(s3.2.2.2.1,(s3.2.2.2.2.1,(s3.2.2.2.2.2.1,(s3.2.2.2.2.2.2.1,(y3,(s3.2.2.2.2.2.2.2.2.1,(s3.2.2.2.2.2.2.2.2.2.1,()))))))))))))) (0,(a0.Pending,(a0.Traps,(a0.Own,(a0.Outer,(a0.Out,(a0.Dirty,(a0.Guests,(a0.Outs,(a0.Tables,()))))))))))))))))))
def zM3:FuncId->Nat->Option Tmpl:=zA [(143,0,{ n:=115,tm:=[(1,.lp 0 0),(3,ti)],lo:=[(0,[.sl 0 [],.sl 1 [],.sl 2 [],.sl 3 [],.sl 4 [],ti,ti,.sl 5 [],ti])],ro:=[(0,.slot,false),(1,(.sl .int),false),(2,.bool,false),(3,.guest,false),(4,.int,false),(5,.kept,false)] }),(143,2,{ n:=115,tm:=[(1,.lp 0 0),(4,ti)],lo:=[(0,[.sl 0 [],.sl 1 [],.sl 2 [],.sl 3 [],.sl 4 [],ti,ti,.sl 5 [],ti])],ro:=[(0,.slot,false),(1,(.sl .int),false),(2,.bool,false),(3,.guest,false),(4,.int,false),(5,.kept,false)] })]
theorem zMn (a0:Mon)(hb:zci big [aT .mon a0])(hc:(znO a0)=true):∃N,zF6 N a0=some [aB (zo6 a0)]:=by
 have hg:a0.Guests.length<=big:=((zeN hb).1 (.s .guest a0.Guests) (by simp [AV.cvs,Ty.cells])).len
 refine zc9 fun N hNN=>?_;unfold zF6 zo6 zd7 oN nB
 conv=>zeta
 refine must rfl (stB fun h0=>stI fun h1=>must rfl (stB fun h2=>stI fun h3=>stI fun h4=>?_));have e1:=zrm h2;have e3:ln a0.Out=8:=of_decide_eq_true h3;simp only [ln] at e1 e3;refine (zby a0.Guests (fun i (t:Unit)=>((i:Int),a0.Pending,a0.Traps,a0.Own,a0.Outer,a0.Out,a0.Dirty,a0.Guests,a0.Outs,a0.Tables,())) _ (fun _ (x:Guest) (_:Unit) κ=>bif zdB x then κ () else oF) (fun (t:Unit)=>(iter (σ:=(Int×(Int×(Int×(Int×(lS×(lM×(lB×(lG×((List Int)×(lK×Unit))))))))))) N (fun r4 s5=>(cond (ilt s5.1 8) (cond (inb s5.1 (ln s5.2.2.2.2.1)) (cond zb2 (cond (cond (cond (ieq (ix s5.2.2.2.2.1 s5.1 zX).Page zbg.Page) (ieq (ix s5.2.2.2.2.1 s5.1 zX).Rights zbg.Rights) false) false true) (cond (inb s5.1 (ln s5.2.2.2.2.2.1)) (cond (igt (ln (ix s5.2.2.2.2.2.1 s5.1 [])) 0) oF (cond (inb s5.1 (ln s5.2.2.2.2.1)) (cond (zfc (ix s5.2.2.2.2.1 s5.1 zX).Rights 1) (cond (cond (zfN (ix s5.2.2.2.2.1 s5.1 zX).Rights 1) false true) oF (cond (cond (cond (cond (ieq (ix s5.2.2.2.2.1 s5.1 zX).Page zbg.Page) (ieq (ix s5.2.2.2.2.1 s5.1 zX).Rights zbg.Rights) false) false true) false true) (cond (inb s5.1 (ln s5.2.2.2.2.2.1)) (cond (zeF (ix s5.2.2.2.2.2.1 s5.1 [])) (cond (cond (zed (ix s5.2.2.2.2.2.1 s5.1 [])) false true) oF (r4 ((zK .i64 s5.1 1),(s5.2.1,(s5.2.2.1,(s5.2.2.2.1,(s5.2.2.2.2.1,(s5.2.2.2.2.2.1,(s5.2.2.2.2.2.2.1,(s5.2.2.2.2.2.2.2.1,(s5.2.2.2.2.2.2.2.2.1,(s5.2.2.2.2.2.2.2.2.2.1,())))))))))))) none) none) (r4 ((zK .i64 s5.1 1),(s5.2.1,(s5.2.2.1,(s5.2.2.2.1,(s5.2.2.2.2.1,(s5.2.2.2.2.2.1,(s5.2.2.2.2.2.2.1,(s5.2.2.2.2.2.2.2.1,(s5.2.2.2.2.2.2.2.2.1,(s5.2.2.2.2.2.2.2.2.2.1,()))))))))))))) none) none)) none) (cond (cond (cond (cond (ieq (ix s5.2.2.2.2.1 s5.1 zX).Page zbg.Page) (ieq (ix s5.2.2.2.2.1 s5.1 zX).Rights zbg.Rights) false) false true) false true) (cond (inb s5.1 (ln s5.2.2.2.2.2.1)) (cond (zeF (ix s5.2.2.2.2.2.1 s5.1 [])) (cond (cond (zed (ix s5.2.2.2.2.2.1 s5.1 [])) false true) oF (r4 ((zK .i64 s5.1 1),(s5.2.1,(s5.2.2.1,(s5.2.2.2.1,(s5.2.2.2.2.1,(s5.2.2.2.2.2.1,(s5.2.2.2.2.2.2.1,(s5.2.2.2.2.2.2.2.1,(s5.2.2.2.2.2.2.2.2.1,(s5.2.2.2.2.2.2.2.2.2.1,())))))))))))) none) none) (r4 ((zK .i64 s5.1 1),(s5.2.1,(s5.2.2.1,(s5.2.2.2.1,(s5.2.2.2.2.1,(s5.2.2.2.2.2.1,(s5.2.2.2.2.2.2.1,(s5.2.2.2.2.2.2.2.1,(s5.2.2.2.2.2.2.2.2.1,(s5.2.2.2.2.2.2.2.2.2.1,()))))))))))))) none) none) (cond (ile (ln s5.2.2.2.2.2.2.2.2.1) 40) (cond (zef s5.2.1) (cond (zee s5.2.1) (cond (zF s5.2.2.1 0 3) (cond (zI s5.2.2.1 0 3) (cond (zF s5.2.2.2.1 0 1000000000) (some [(.one (.b (zI s5.2.2.2.1 0 1000000000)))]) none) oF) none) oF) none) oF))) (0,(a0.Pending,(a0.Traps,(a0.Own,(a0.Outer,(a0.Out,(a0.Dirty,(a0.Guests,(a0.Outs,(a0.Tables,())))))))))))) (fun i hi t rec=>?_) (fun t rec=>?_) _ () (hNN hg)).trans ?_
 ·simp only [zcb hi,zbx hi,zbF hi,zbu hi hg,cT];simp only [zjC,zim,cT];cases zdB a0.Guests[i]<;>rfl
 ·simp only [zb6,cF]
 rw [zl2 zdB];cases hq:a0.Guests.all zdB
 ·simp only [cF];cases ile (ln a0.Outs) 40<;>cases zcK a0.Pending<;>cases win a0.Traps 0 3<;>cases win a0.Own 0 1000000000<;>rfl
 simp only [cT];refine (zAM 8 (fun j (u:Unit)=>((j:Int),a0.Pending,a0.Traps,a0.Own,a0.Outer,a0.Out,a0.Dirty,a0.Guests,a0.Outs,a0.Tables,())) _ (fun j (_:Unit) κ=>bif fits a0 j then κ () else oF) (fun (u:Unit)=>(cond (ile (ln a0.Outs) 40) (cond (zef a0.Pending) (cond (zee a0.Pending) (cond (zF a0.Traps 0 3) (cond (zI a0.Traps 0 3) (cond (zF a0.Own 0 1000000000) (some [(.one (.b (zI a0.Own 0 1000000000)))]) none) oF) none) oF) none) oF)) (fun j hj u rec1=>?_) (fun u rec1=>?_) _ () (hNN (by decide))).trans ?_
 ·simp only [show ilt (j:Int) 8=true from decide_eq_true (by omega),zbu hj (show 8<=big by decide),cT]
  have hj1:j<a0.Outer.length:=by omega
  have hj2:j<a0.Out.length:=by omega
  simp only [zb2,zbg,zeF,zed,zfc,zfN,zbx hj1,zbx hj2,zV5,cT];unfold fits zku;simp only [zbF hj1,zcz];cases ieq a0.Outer[j].Page noSlot.Page<;>cases ieq a0.Outer[j].Rights noSlot.Rights<;>cases enough a0.Outer[j].Rights 1<;>cases ile (ln (ix a0.Out (j:Int) [])) 0<;>cases zcr (ix a0.Out (j:Int) [])<;>rfl
 ·simp only [show ilt (((8:Nat)):Int) 8=false from decide_eq_false (by omega),cF]
  rfl
 rw [zEl (fits a0)];simp only [zef,zee,zF,zIN,cT];cases zlS (fits a0) 8 0<;>cases ile (ln a0.Outs) 40<;>cases zcK a0.Pending<;>cases win a0.Traps 0 3<;>cases win a0.Own 0 1000000000<;>rfl
theorem zHo:Holds Tryz.prog 143 zzB:=hF1 zJl zy zC zB zM3 zMn
def zUz:zS:=[(143,zzB)]++zUy
theorem zJm:zD zUz:=zk zHo zJl
def zfO:List Slot->List Bool->Option (List Bool)
 | [],u=>some u
 | s :: l,u=>bif ilt s.Page 0 then zfO l u else (cond (ix u s.Page false) none (zfO l (up u s.Page true)))
def zh9:List Mon->List Bool->Bool
 | [],_=>true
 | m :: l,u=>bif zd7 m then (match zfO m.Outer u with|some u'=>zh9 l u'|none=>false) else false
def zbN (h:Host):Bool:=bif ziO h.Memory 12 then (cond (win (ln h.Mons) 1 3) (cond (zeu h.Buffer) (cond (zeu h.IoBuffer) (zh9 h.Mons (rp 12 false)) false) false) false) else false
theorem zoV:∀(l:List Slot) (u u':List Bool),zfO l u=some u'->u'.length=u.length
 | [],u,u',h=>by cases h;rfl
 | s :: l,u,u',h=>by
  simp only [zfO] at h;cases h1:ilt s.Page 0
  ·rw [h1] at h;cases h2:ix u s.Page false
   ·rw [h2] at h;simpa using zoV l _ u' h
   ·rw [h2] at h;cases h
  ·rw [h1] at h;exact zoV l u u' h
theorem zFG {t:List Slot}{n:Int}(h:zcI t n 12=true):∀s∈t,s.Page<12:=by
 intro s hs;unfold zcI at h;cases h1:t.all (fun s=>zds s 12)
 ·rw [h1] at h;cases h
 ·have:=List.all_eq_true.1 h1 s hs;unfold zds at this;cases h2:zcz s noSlot
  ·rw [h2] at this;simp only [cF,show igt 12 0=true from rfl,cT] at this
   cases h3:win s.Page 0 (wsub .i64 12 1)
   ·rw [h3] at this;cases this
   ·have:=(ze5.1 h3).2;rw [show wsub .i64 12 1=11 from rfl] at this
    omega
  ·unfold zcz at h2;rw [Bool.and_eq_true] at h2;have h2:s.Page = -1:=of_decide_eq_true h2.1;omega
theorem zLO {s:Slot}{u:List Bool}(h:s.Page<12)(hu:u.length=12)(h0:ilt s.Page 0=false):inb s.Page (ln u)=true:=by
 have:=of_decide_eq_false h0;exact decide_eq_true (by simp only [ln];omega)
def ztb {ρ:Type}(r:Option ρ)(y:Slot)(u:List Bool)(κ:List Bool->Option ρ):Option ρ:=bif ilt y.Page 0 then κ u else (cond (inb y.Page (ln u)) (cond (ix u y.Page false) r (cond (inb y.Page (ln u)) (share (up u y.Page true) (fun x6=>κ x6)) none)) none)
theorem zAi {ρ:Type}(r:Option ρ)(K:List Bool->Option ρ):∀(l:List Slot) (i:Nat) (u:List Bool),(∀s∈l,s.Page<12)->u.length=12 ->
 goL (fun _ y u κ=>ztb r y u κ) K l i u=match zfO l u with|some u'=>K u'|none=>r
 | [],_,_,_,_=>rfl
 | s :: l,i,u,h,hu=>by
  simp only [goL,zfO,ztb];cases h1:ilt s.Page 0
  ·have hh:=zLO (h s (by simp)) hu h1
   rw [hh];cases ix u s.Page false
   ·simp only [cF,cT,share];exact zAi r K l (i+1) _ (fun s hs=>h s (by simp [hs])) (by simpa using hu)
   ·rfl
  ·simp only [cT];exact zAi r K l (i+1) u (fun s hs=>h s (by simp [hs])) hu
theorem zcw {c x:Bool}:((cond c x false)=true)↔c=true/\x=true:=by
 cases c<;>simp
theorem zmX {m:Mon}(h:zd7 m=true):zcI m.Outer 8 12=true:=by
 unfold zd7 at h;simp only [zcw] at h;exact h.2.2.1
@[simp] abbrev zeb (h:Host):Bool:=true
@[simp] abbrev zea (h:Host):Bool:=zbN h
theorem zAk {ρ:Type}(r:Option ρ)(k:List Bool->Option ρ)(m:Mon):∀(n i:Nat) (u:List Bool),(∀s∈m.Outer,s.Page<12)->u.length=12->i+n=m.Outer.length ->
 goN (fun j u κ=>bif inb (j:Int) (ln m.Outer) then ztb r (ix m.Outer (j:Int) zX) u κ else none) k n i u=goL (fun _ y u κ=>ztb r y u κ) k (m.Outer.drop i) i u
 | 0,i,u,_,_,h=>by
  have:i=m.Outer.length:=by omega
  subst this;simp [goN,goL]
 | n+1,i,u,hs,hu,h=>by
  have hi:i<m.Outer.length:=by omega
  rw [List.drop_eq_getElem_cons hi];simp only [goN,goL,zbx hi,zbF hi,cT,ztb];cases h1:ilt m.Outer[i].Page 0
  ·rw [zLO (hs _ (List.getElem_mem hi)) hu h1];cases ix u m.Outer[i].Page false
   ·simp only [cF,cT,share];exact zAk r k m n (i+1) _ hs (by simpa using hu) (by omega)
   ·rfl
  ·simp only [cT];exact zAk r k m n (i+1) u hs hu (by omega)
def zwD:Run:=rF1 dH (fun b=>((zeb b),[aB (zea b)]))
def zBs (N:Nat)(a0:Host):OA :=
 (oN (znN a0.Memory 12) (cond (nB (zi7 a0.Memory 12)) oF (oN (zF (ln a0.Mons) 1 3) (cond (nB (zI (ln a0.Mons) 1 3)) oF (oN (zlk a0.Buffer) (cond (nB (zlj a0.Buffer)) oF (oN (zlk a0.IoBuffer) (cond (nB (zlj a0.IoBuffer)) oF (oN (cond (few 12) (ieq 12 12) false) (iter (σ:=(Int×(lB×(lM×(lN×(lE×(lE×Unit))))))) N (fun r2 s3=>let y7:=(ix s3.2.2.2.1 s3.1 zf); (cond (ilt s3.1 (ln s3.2.2.2.1)) (oN (inb s3.1 (ln s3.2.2.2.1)) (oN (znO y7) (cond (nB (zo6 y7)) oF (iter (σ:=(Int×(Int×(lB×(lM×(lN×(lE×(lE×Unit)))))))) N (fun r4 s5=>let y6:=(zK .i64 s5.2.1 1);let y5:=s5.2.2.2.2.2.1;let y4:=s5.2.2.2.2.2.2.1;let y3:=s5.2.2.1;let y2:=s5.2.2.2.2.1;let y8:=(ix y2 s5.1 zf).Outer;let y1:=(r4 (s5.1,(y6,(y3,(s5.2.2.2.1,(y2,(y5,(y4,()))))))));let y0:=(ix y8 s5.2.1 zX).Page;let y9:=(inb y0 (ln y3)); (cond (ilt s5.2.1 8) (oN (inb s5.1 (ln y2)) (oN (inb s5.2.1 (ln y8)) (cond (ige y0 0) (oN y9 (cond (ix y3 y0 false) oF (cond (ige y0 0) (oN y9 (share (up y3 y0 true) (fun x6=>(r4 (s5.1,(y6,(x6,(s5.2.2.2.1,(y2,(y5,(y4,()))))))))))) y1))) (cond (ige y0 0) (oN y9 (share (up y3 y0 true) (fun x6=>(r4 (s5.1,(y6,(x6,(s5.2.2.2.1,(y2,(y5,(y4,()))))))))))) y1)))) (r2 ((zK .i64 s5.1 1),(y3,(s5.2.2.2.1,(y2,(y5,(y4,()))))))))) (s3.1,(0,(s3.2.1,(s3.2.2.1,(s3.2.2.2.1,(s3.2.2.2.2.1,(s3.2.2.2.2.2.1,()))))))))))) oT)) (0,((rp 12 false),(a0.Memory,(a0.Mons,(a0.Buffer,(a0.IoBuffer,()))))))))))))))))
def zLA:FuncId->Nat->Option Tmpl:=zA [(100,0,{ n:=72,tm:=[(1,.lp 0 0),(3,.sl 0 []),(4,ti)],lo:=[(0,[.sl 1 [],.sl 2 [],.sl 3 [],.sl 4 []])],ro:=[(0,.bool,true),(1,(.sl .int),false),(2,.mon,false),(3,.entry,false),(4,.entry,false)] }),(100,2,{ n:=72,tm:=[(1,.lp 0 0),(3,.sl 0 []),(4,ti),(5,ti)],lo:=[(0,[.sl 1 [],.sl 2 [],.sl 3 [],.sl 4 []])],ro:=[(0,.bool,true),(1,(.sl .int),false),(2,.mon,false),(3,.entry,false),(4,.entry,false)] })]
theorem zJ6 (a0:Host)(hb:zci big [aH a0])(hc:(zeb a0)=true):∃N,zBs N a0=some [aB (zea a0)]:=by
 have hm:CVB big (.s .mon a0.Mons):=(zeN hb).1 _ (by simp [AV.cvs,zbE])
 have hl:=hm.len;refine zc9 fun N hNN=>?_;unfold zBs zea zbN oN nB
 conv=>zeta
 refine must rfl (stB fun h0=>must rfl (stB fun h1=>must rfl (stB fun h2=>must rfl (stB fun h3=>must rfl ?_))));refine (zby a0.Mons (fun i (t:lB)=>((i:Int),t,a0.Memory,a0.Mons,a0.Buffer,a0.IoBuffer,())) _ (fun _ (x:Mon) (u:List Bool) κ=>bif zd7 x then goN (fun j u κ=>bif inb (j:Int) (ln x.Outer) then ztb (oF) (ix x.Outer (j:Int) zX) u κ else none) κ 8 0 u else oF) (fun (t:lB)=>(some [(.one (.b true))])) (fun i hi t rec=>?_) (fun t rec=>?_) _ ((rp 12 false)) (hNN hl)).trans ?_
 ·simp only [zcb hi,zbx hi,zbF hi,zbu hi hl,cT];cases h4:zd7 a0.Mons[i]
  ·simp only [znO,zo6,h4,cT,cF]
  simp only [znO,zo6,h4,cT,cF];refine (zAM 8 (fun j (u:lB)=>((i:Int),(j:Int),u,a0.Memory,a0.Mons,a0.Buffer,a0.IoBuffer,())) _ (fun j (u:List Bool) κ=>bif inb (j:Int) (ln a0.Mons[i].Outer) then ztb (oF) (ix a0.Mons[i].Outer (j:Int) zX) u κ else none) (fun (u:lB)=>(rec ((((i+1:Nat)):Int),(u,(a0.Memory,(a0.Mons,(a0.Buffer,(a0.IoBuffer,())))))))) (fun j hj u rec1=>?_) (fun u rec1=>?_) _ (t) (hNN (by decide))).trans ?_
  ·simp only [show ilt (j:Int) 8=true from decide_eq_true (by omega),zbu hj (show 8<=big by decide),cT,zbx hi,zbF hi,zbu hi hl]
   unfold ztb;have e:ige (ix a0.Mons[i].Outer (j:Int) zX).Page 0 = !ilt (ix a0.Mons[i].Outer (j:Int) zX).Page 0:=by rw [zV6,Bool.not_not]
   simp only [e];cases ilt (ix a0.Mons[i].Outer (j:Int) zX).Page 0<;>cases inb (j:Int) (ln a0.Mons[i].Outer)<;>cases inb (ix a0.Mons[i].Outer (j:Int) zX).Page (ln u)<;>cases ix u (ix a0.Mons[i].Outer (j:Int) zX).Page false<;>rfl
  ·simp only [show ilt (((8:Nat)):Int) 8=false from decide_eq_false (by omega),cF,zbx hi,zbF hi,zbu hi hl]
  rfl
 ·simp only [zb6,cF]
 have key:∀(l:List Mon) (i:Nat) (u:List Bool),u.length=12->goL (fun _ (x:Mon) (u:List Bool) κ=>bif zd7 x then goN (fun j u κ=>bif inb (j:Int) (ln x.Outer) then ztb (oF) (ix x.Outer (j:Int) zX) u κ else none) κ 8 0 u else oF) (fun _=>oT) l i u=some [AV.one (.b (zh9 l u))]:=by
  intro l
  induction l with
  | nil=>intro i u _;rfl
  | cons m l ih =>
   intro i u hu;simp only [goL,zh9];cases h1:zd7 m
   ·rfl
   ·have ht:=zmX h1;have e8:0+8=m.Outer.length:=by have:=zrm ht;simp only [ln] at this;omega
    simp only [cT];rw [zAk _ _ m 8 0 u (zFG ht) hu e8,List.drop_zero,zAi _ _ _ _ _ (zFG ht) hu];cases h2:zfO m.Outer u with
    | none=>rfl
    | some u'=>exact ih (i+1) u' ((zoV _ _ _ h2).trans hu)
 exact key _ _ _ rfl
theorem zEz:Holds Tryz.prog 100 zwD:=hF1 zJm zy zC zB zLA zJ6
def zUA:zS:=[(100,zwD)]++zUz
theorem zz9:zD zUA:=zk zEz zJm
theorem zOV {h:Host}(hh:zbN h=true):(h.Mons.length:Int)<=3:=by
 unfold zbN at hh;simp only [zcw] at hh;exact (ze5.1 hh.2.1).2
def zcc (h:Host)(m:Int):Bool:=bif zbN h then hasB m (ln h.Mons) else false
def zbW (h:Host)(m p:Int):Bool:=bif zbN h then (cond (hasB m (ln h.Mons)) (hasB p 8) false) else false
theorem zFX {h:Host}(hh:zbN h=true)(m:Int):win m 0 (wsub .i64 (ln h.Mons) 1)=hasB m (ln h.Mons):=zmF (by have:=zOV hh;omega) m
theorem zYh (p:Int):win p 0 7=hasB p 8:=by
 unfold win ige ile hasB
 by_cases h1:0<=p<;>by_cases h2:p<8
 ·rw [decide_eq_true (p:=p≥0) (by omega),decide_eq_true (p:=p<=7) (by omega),decide_eq_true (p:=0<=p/\p<8) ⟨h1,h2⟩];rfl
 ·rw [decide_eq_false (p:=p<=7) (by omega),decide_eq_false (p:=0<=p/\p<8) (by omega)];simp
 ·rw [decide_eq_false (p:=p≥0) (by omega),decide_eq_false (p:=0<=p/\p<8) (by omega)];simp
 ·rw [decide_eq_false (p:=p≥0) (by omega),decide_eq_false (p:=0<=p/\p<8) (by omega)];simp
@[simp] abbrev zek (h:Host)(m:Int):Bool:=true
@[simp] abbrev zej (h:Host)(m:Int):Bool:=zcc h m
def zwW:Run:=rF2 dH dI (fun b c=>((zek b c),[aB (zej b c)]))
def zBK (N:Nat)(a0:Host)(a1:Int):OA :=
 (oN (zeb a0) (cond (zea a0) (oN (zF a1 0 (wsub .i64 (ln a0.Mons) 1)) (some [(aB (zI a1 0 (wsub .i64 (ln a0.Mons) 1)))])) oF))
theorem zKu (a0:Host)(a1:Int)(hc:(zek a0 a1)=true):∃N,zBK N a0 a1=some [aB (zej a0 a1)]:=by
 refine ⟨0,?_⟩;unfold zBK zej zcc oN;cases hh:zbN a0
 ·simp only [zeb,zea,hh,cT,cF]
 ·simp only [zeb,zea,hh,cT,zF,zIN,zFX hh]
theorem zEV:Holds Tryz.prog 72 zwW:=kF2 zz9 zy zC zB (zA []) zKu
@[simp] abbrev zkA (h:Host)(m p:Int):Bool:=true
@[simp] abbrev zfU (h:Host)(m p:Int):Bool:=zbW h m p
def zzH:Run:=rF3 dH dI dI (fun b c d=>((zkA b c d),[aB (zfU b c d)]))
def zGc (N:Nat)(a0:Host)(a1 a2:Int):OA :=
 (oN (zeb a0) (cond (zea a0) (oN (zF a1 0 (wsub .i64 (ln a0.Mons) 1)) (cond (zI a1 0 (wsub .i64 (ln a0.Mons) 1)) (oN (zF a2 0 7) (some [(aB (zI a2 0 7))])) oF)) oF))
theorem zMu (a0:Host)(a1 a2:Int)(hc:(zkA a0 a1 a2)=true):∃N,zGc N a0 a1 a2=some [aB (zfU a0 a1 a2)]:=by
 refine ⟨0,?_⟩;unfold zGc zfU zbW oN;cases hh:zbN a0
 ·simp only [zeb,zea,hh,cT,cF]
 ·simp only [zeb,zea,hh,cT,zF,zIN,zFX hh,zYh];cases hasB a1 (ln a0.Mons)<;>rfl
theorem zHv:Holds Tryz.prog 84 zzH:=kF3 zz9 zy zC zB (zA []) zMu
def zUB:zS:=[(72,zwW),(84,zzH)]++zUA
theorem zJn:zD zUB:=zk zEV (zk zHv zz9)
def zcV (k:Kept)(p:Int):Bool:=bif hasB p (ln k.Known) then hasB p (ln k.Slots) else false
def zbC (k:Kept)(p:Int):Kept:=bif zcV k p then ⟨up k.Known p false,up k.Slots p noSlot⟩ else k
@[simp] theorem zlL {k:Kept}{p:Int}(h:SmK k):SmK (zbC k p):=by
 unfold zbC;cases zcV k p
 ·exact h
 ·exact ⟨by simpa using h.1,by simpa using h.2⟩
theorem has_lt {p:Int}{n m:Int}(h:hasB p n=true):ilt p m=hasB p m:=by
 have h:=of_decide_eq_true h;unfold ilt hasB
 by_cases h1:p<m
 ·rw [decide_eq_true h1,decide_eq_true ⟨h.1,h1⟩]
 ·rw [decide_eq_false h1,decide_eq_false (by omega)]
@[simp] abbrev zlF (k:Kept)(p:Int):Bool:=pc (SmK k)
@[simp] abbrev zgq (k:Kept)(p:Int):Bool:=zcV k p
def zwU:Run:=rF2 (dT .kept) dI (fun b c=>((zlF b c),[aB (zgq b c)]))
def zBI (N:Nat)(a0:Kept)(a1:Int):OA :=
 (oN (zF a1 0 (wsub .i64 (ln a0.Known) 1)) (cond (zI a1 0 (wsub .i64 (ln a0.Known) 1)) (some [(aB (ilt a1 (ln a0.Slots)))]) oF))
theorem zKo (a0:Kept)(a1:Int)(hc:(zlF a0 a1)=true):∃N,zBI N a0 a1=some [aB (zgq a0 a1)]:=by
 have hs:=zJ.1 hc;refine ⟨0,?_⟩;unfold zBI zgq zcV oN;simp only [zF,zIN,zmF hs.1,cT];cases hh:hasB a1 (ln a0.Known)
 ·rfl
 ·simp only [cT,has_lt hh]
theorem zEP:Holds Tryz.prog 122 zwU:=kF2 zJn zy zC zB (zA []) zKo
def zUC:zS:=[(122,zwU)]++zUB
theorem zJo:zD zUC:=zk zEP zJn
@[simp] abbrev ziZ (k:Kept)(p:Int):Bool:=pc (SmK k)
@[simp] abbrev zil (k:Kept)(p:Int):Kept:=zbC k p
def zwB:Run:=rF2 (dT .kept) dI (fun b c=>((ziZ b c),[aT .kept (zil b c)]))
def zBq (N:Nat)(a0:Kept)(a1:Int):OA :=
 let y0:=(zcM a0); (oN (zeH a0) (oN (zlF y0 a1) (cond (zgq y0 a1) (oN (inb a1 (ln y0.Known)) (share (up y0.Known a1 false) (fun x3=>(oN zb2 (oN (inb a1 (ln y0.Slots)) (share (up y0.Slots a1 zbg) (fun x4=>(some [(aT .kept (⟨x3,x4⟩:Kept))])))))))) (some [(aT .kept y0)]))))
theorem zJ4 (a0:Kept)(a1:Int)(hc:(ziZ a0 a1)=true):∃N,zBq N a0 a1=some [aT .kept (zil a0 a1)]:=by
 have hs:=zJ.1 hc;refine ⟨0,?_⟩;unfold zBq zil oN
 conv=>zeta
 refine must (zbO ((zsa _).2 hs)) (must (zbO hs) ?_);unfold zbC;cases hh:zcV a0 a1
 ·simp only [zgq,zcM,hh,cF]
 ·simp only [zgq,zcM,hh,cT];unfold zcV at hh;obtain ⟨h1,h2⟩:=zcw.1 hh;simp only [zS0,h1,h2,cT,share,zb2]
theorem zEx:Holds Tryz.prog 77 zwB:=kF2 zJo zy zC zB (zA []) zJ4
def zUD:zS:=[(77,zwB)]++zUC
theorem zAa:zD zUD:=zk zEx zJo
def zdv (k:Kept)(l:List Int):Kept:=l.foldl zbC k
theorem zNW:∀(l:List Int) {k:Kept},SmK k->SmK (zdv k l)
 | [],_,h=>h
 | p :: l,k,h=>zNW l (zlL (p:=p) h)
theorem zCj {ρ:Type}(K:List Bool×List Slot->Option ρ):∀(l:List Int) (i:Nat) (k:Kept),SmK k ->
 goL (fun _ x (t:List Bool×List Slot) κ=>bif pc (SmK ⟨t.1,t.2⟩) then κ ((zbC ⟨t.1,t.2⟩ x).Known,(zbC ⟨t.1,t.2⟩ x).Slots) else none) K l i (k.Known,k.Slots)=K ((zdv k l).Known,(zdv k l).Slots)
 | [],_,_,_=>rfl
 | x :: l,i,k,h=>by
  have e:pc (SmK ⟨k.Known,k.Slots⟩)=true:=zbO h;simp only [goL,e,cT];exact zCj K l (i+1) (zbC k x) (zlL h)
def zxk (l:List Slot)(p:Int):List Int:=idxs (fun (s:Slot)=>ieq s.Page p) l 0
def ziJ (k:Kept)(l:List Slot)(p:Int):Kept:=zdv k (zxk l p)
theorem zTI {k:Kept}(l:List Slot)(p:Int)(h:SmK k):SmK (ziJ k l p):=zNW _ h
@[simp] abbrev ziY (k:Kept)(l:List Slot)(p:Int):Bool:=pc (SmK k/\l.length<=1048576)
@[simp] abbrev zpJ (k:Kept)(l:List Slot)(p:Int):Kept:=ziJ k l p
def zpA:Run:=rF3 (dT .kept) (dS .slot) dI (fun b c d=>((ziY b c d),[aT .kept (zpJ b c d)]))
def zr5 (N:Nat)(a0:Kept)(a1:lS)(a2:Int):OA :=
 (oN (zeH a0) (oN (ztW a1 a2) (iter (σ:=(Int×((List Int)×(lB×(lS×(lB×(lS×Unit))))))) N (fun r4 s5=>let y1:=(ix s5.2.1 s5.1 0);let y0:=(⟨s5.2.2.1,s5.2.2.2.1⟩:Kept); (cond (ilt s5.1 (ln s5.2.1)) (oN (inb s5.1 (ln s5.2.1)) (oN (ziZ y0 y1) (r4 ((zK .i64 s5.1 1),(s5.2.1,((zil y0 y1).Known,((zil y0 y1).Slots,(s5.2.2.2.2.1,(s5.2.2.2.2.2.1,()))))))))) (some [(aT .kept y0)]))) (0,((zmw a1 a2),((zcM a0).Known,((zcM a0).Slots,([],([],())))))))))
def zBd:FuncId->Nat->Option Tmpl:=zA [(139,0,{ n:=27,tm:=[(3,.lp 0 0),(6,.lp 1 0),(7,.sl 0 []),(8,ti)],lo:=[(0,[.sl 1 [],.sl 2 []]),(1,[.sl 3 [],.sl 4 []])],ro:=[(0,.int,true),(1,.bool,true),(2,.slot,true),(3,.bool,true),(4,.slot,true)] })]
theorem zAR (a0:Kept)(a1:List Slot)(a2:Int)(hc:(ziY a0 a1 a2)=true):∃N,zr5 N a0 a1 a2=some [aT .kept (zpJ a0 a1 a2)]:=by
 obtain ⟨hs,hs2⟩:=zJ.1 hc;have hl:(zmw a1 a2).length<=big:=Nat.le_trans (zAK _ a1 0) (zc0 hs2).1;refine zc9 fun N hNN=>?_;unfold zr5 oN
 conv=>zeta
 refine must (zbO ((zsa _).2 hs)) (must (zbO (by omega)) ?_)
 refine (zby (zmw a1 a2) (fun i (t:lB×lS)=>((i:Int),(zmw a1 a2),t.1,t.2,[],[],())) _ (fun _ (x:Int) (t:List Bool×List Slot) κ=>bif pc (SmK ⟨t.1,t.2⟩) then κ ((zbC ⟨t.1,t.2⟩ x).Known,(zbC ⟨t.1,t.2⟩ x).Slots) else none) (fun (t:lB×lS)=>(some [(.agg (Ty.cells .kept (⟨t.1,t.2⟩:Kept)))])) (fun i hi t rec=>?_) (fun t rec=>?_) _ ((zcM a0).Known,(zcM a0).Slots) (hNN hl)).trans ?_
 ·simp only [zcb hi,zbx hi,zbF hi,zbu hi hl,cT]
 ·simp only [zb6,cF]
 exact zCj _ _ 0 a0 hs
theorem zv0:Holds Tryz.prog 139 zpA:=kF3 zAa zy zC zB zBd zAR
def flushed (l:List Entry)(p:Int):List Entry:=l.filter fun e=>!ieq e.Host p
theorem zzd (l:List Entry)(p:Int):(flushed l p).length<=l.length:=List.length_filter_le _ _
theorem zox {α ρ:Type}(p:α->Bool)(K:List α->Option ρ):∀(l:List α) (i:Nat) (acc:List α),acc.length+l.length<=2147483648 ->
 goL (fun _ x acc κ=>bif p x then (cond (few (ln (ap acc [x]))) (κ (ap acc [x])) none) else κ acc) K l i acc=K (acc++l.filter p)
 | [],i,acc,_=>by simp [goL]
 | x :: l,i,acc,h=>by
  simp only [List.length_cons] at h;simp only [goL];cases hp:p x
  ·rw [cF,zox p K l (i+1) acc (by omega),List.filter_cons_of_neg (by simp [hp])]
  ·rw [cT,zf0 (by simp [ap];omega),cT,zox p K l (i+1) _ (by simp [ap];omega),List.filter_cons_of_pos hp]
   simp [ap]
@[simp] abbrev zfT (l:List Entry)(p:Int):Bool:=pc (l.length<=1048576)
@[simp] abbrev zm7 (l:List Entry)(p:Int):List Entry:=flushed l p
def zqI:Run:=rF2 (dS .entry) dI (fun b c=>((zfT b c),[aS .entry (zm7 b c)]))
def zuh (N:Nat)(a0:lE)(a1:Int):OA :=
 (iter (σ:=(Int×(Int×(lE×(lE×Unit))))) N (fun r3 s4=>let y1:=s4.2.2.1;let y0:=(ix y1 s4.2.1 zhQ); (cond (ilt s4.2.1 (ln y1)) (oN (inb s4.2.1 (ln y1)) (cond (ine y0.Host s4.1) (oN (inb s4.2.1 (ln y1)) (oN (few (ln (ap s4.2.2.2.1 [y0]))) (r3 (s4.1,((zK .i64 s4.2.1 1),(y1,((ap s4.2.2.2.1 [y0]),()))))))) (r3 (s4.1,((zK .i64 s4.2.1 1),(y1,(s4.2.2.2.1,()))))))) (some [(aS .entry s4.2.2.2.1)]))) (a1,(0,(a0,([],())))))
def zD5:FuncId->Nat->Option Tmpl:=zA [(140,0,{ n:=29,tm:=[(0,.sl 0 []),(1,ti),(5,.sl 1 []),(6,ti)],lo:=[],ro:=[(0,.entry,false),(1,.entry,true)] })]
theorem zDc (a0:List Entry)(a1:Int)(hc:(zfT a0 a1)=true):∃N,zuh N a0 a1=some [aS .entry (zm7 a0 a1)]:=by
 have hs:=zJ.1 hc;have hl:=zc0 hs;refine zc9 fun N hNN=>?_;unfold zuh oN
 conv=>zeta
 refine (zby a0 (fun i (t:lE)=>(a1,(i:Int),a0,t,())) _ (fun _ (x:Entry) (t:List Entry) κ=>bif !ieq x.Host a1 then (cond (few (ln (ap t [x]))) (κ (ap t [x])) none) else κ t) (fun (t:lE)=>(some [(.one (.s .entry t))])) (fun i hi t rec=>?_) (fun t rec=>?_) _ ([]) (hNN hl.1)).trans ?_
 ·simp only [zcb hi,zbx hi,zbF hi,zbu hi hl.1,cT];rfl
 ·simp only [zb6,cF]
 exact zox (fun e=>!ieq e.Host a1) _ a0 0 [] (by simpa using hl.2)
theorem zx0:Holds Tryz.prog 140 zqI:=kF2 zAa zy zC zB zD5 zDc
def zOo:zS:=[(139,zpA),(140,zqI)]++zUD
theorem zAb:zD zOo:=zk zv0 (zk zx0 zAa)
def zkl (gs:List Guest)(p:Int):Nat->List Kept->List Kept
 | 0,ts=>ts
 | n+1,ts=>up (zkl gs p n ts) (n:Int) (ziJ (ix (zkl gs p n ts) (n:Int) zgO) (ix gs (n:Int) zq).Live p)
theorem zp2 (gs:List Guest)(p:Int):∀(n:Nat) (ts:List Kept),(zkl gs p n ts).length=ts.length
 | 0,_=>rfl
 | n+1,ts=>by simp only [zkl,ze9];exact zp2 gs p n ts
theorem zxd (gs:List Guest)(p:Int):∀(n:Nat) (ts:List Kept),n<=ts.length->zvz ts->zvz (zkl gs p n ts)
 | 0,_,_,h=>h
 | n+1,ts,hn,h=>by
  have ih:=zxd gs p n ts (by omega) h
  have hl:n<(zkl gs p n ts).length:=by rw [zp2];omega
  exact zsX ih (zTI _ _ (by rw [zbF hl];exact ih.2 _ (List.getElem_mem hl)))
def zp1 (x:Mon)(p:Int)(n:Nat):Mon:={ x with Tables:=zkl x.Guests p n x.Tables }
theorem zRS {x:Mon}{p:Int}{n:Nat}(hn:n<=x.Tables.length)(h:zeU x):zeU (zp1 x p n):=⟨h.1,h.2.1,h.2.2.1,h.2.2.2.1,h.2.2.2.2.1,zxd _ _ _ _ hn h.2.2.2.2.2⟩
def zbX (h:Host)(m p:Int)(s:Slot):Host :=
 bif ine (ix (ix h.Mons m zf).Outer p zX).Page (-1)
 then ⟨h.Memory,up h.Mons m { zp1 (ix h.Mons m zf) p (ix h.Mons m zf).Tables.length with Outer:=up (ix h.Mons m zf).Outer p s },flushed h.Buffer (ix (ix h.Mons m zf).Outer p zX).Page,flushed h.IoBuffer (ix (ix h.Mons m zf).Outer p zX).Page⟩
 else ⟨h.Memory,up h.Mons m { zp1 (ix h.Mons m zf) p (ix h.Mons m zf).Tables.length with Outer:=up (ix h.Mons m zf).Outer p s },h.Buffer,h.IoBuffer⟩
def zWN (h:Host)(m p:Int):Prop:=hasB m (ln h.Mons)=true/\hasB p (ln (ix h.Mons m zf).Outer)=true/\(ix h.Mons m zf).Tables.length<=(ix h.Mons m zf).Guests.length
@[simp] abbrev zdZ (h:Host)(m p:Int)(s:Slot):Bool:=pc (zb3 h/\zWN h m p)
@[simp] abbrev zfp (h:Host)(m p:Int)(s:Slot):Host:=zbX h m p s
def zob:List AV->Option (Bool×List AV)
 | [.agg [.s (.sl .int) b,.s .mon c,.s .entry d,.s .entry e],.one (.i .i64 f),.one (.i .i64 g),.agg [.i .i64 h,.i .i64 j]]=>some ((zdZ (⟨b,c,d,e⟩:Host) f g (⟨h,j⟩:Slot)),[aH (zfp (⟨b,c,d,e⟩:Host) f g (⟨h,j⟩:Slot))])
 | _=>none
def zrp (N:Nat)(a0:Host)(a1 a2:Int)(a3:Slot):OA :=
 let y7:=(ix a0.Mons a1 zf); (oN (inb a1 (ln a0.Mons)) (oN (inb a2 (ln y7.Outer)) (iter (σ:=(Int×(Int×(Int×(Int×(Int×(Int×(Int×(Int×(Int×(Int×(Int×(Int×(Int×(Int×(Int×(lM×(lN×(lE×(lE×(lM×(lN×(lE×(lE×Unit)))))))))))))))))))))))) N (fun r5 s6=>let y19:=s6.2.2.1;let y18:=s6.2.2.2.2.2.2.2.2.2.2.2.1;let y17:=s6.2.2.2.2.2.2.2.2.2.2.2.2.1;let y15:=s6.2.2.2.2.2.2.2.2.2.2.2.2.2.2.1;let y14:=s6.2.2.2.2.2.2.2.2.2.2.2.2.2.2.2.1;let y13:=s6.2.2.2.2.2.2.2.1;let y11:=s6.2.2.2.2.2.2.2.2.1;let y10:=s6.2.2.2.1;let y9:=s6.2.2.2.2.2.2.2.2.2.2.1;let y8:=s6.2.2.2.2.2.2.2.2.2.2.2.2.2.2.2.2.2.1;let y6:=s6.2.2.2.2.2.2.2.2.2.2.2.2.2.2.2.2.2.2.1;let y5:=s6.2.2.2.2.2.2.1;let y3:=s6.2.2.2.2.2.2.2.2.2.1;let y1:=s6.2.2.2.2.2.2.2.2.2.2.2.2.2.1;let y0:=s6.2.2.2.2.2.2.2.2.2.2.2.2.2.2.2.2.1;let y20:=(ix y0 y3 zf).Guests;let y16:=(ix y20 y10 zq).Live;let y12:=(ix y0 y5 zf);let y4:=(ix y0 y1 zf).Tables;let y2:=(up y0 y5 ({ y12 with Outer:=(up y12.Outer s6.2.1 (⟨s6.2.2.2.2.1,s6.2.2.2.2.2.1⟩:Slot)) }:Mon)); (cond (ilt y10 (ln y4)) (oN (inb y10 (ln y4)) (oN (inb y10 (ln y20)) (oN (ziY (ix y4 y10 zgO) y16 s6.2.1) (oN (inb y10 (ln y4)) (share (up y0 y1 ({ (ix y0 y1 zf) with Tables:=(up y4 y10 (zpJ (ix y4 y10 zgO) y16 s6.2.1)) }:Mon)) (fun x7=>(r5 (s6.1,(s6.2.1,(y19,((zK .i64 y10 1),(s6.2.2.2.2.1,(s6.2.2.2.2.2.1,(y5,(y13,(y11,(y3,(y9,(y18,(y17,(y1,(y15,(y14,(x7,(y8,(y6,(s6.2.2.2.2.2.2.2.2.2.2.2.2.2.2.2.2.2.2.2.1,(s6.2.2.2.2.2.2.2.2.2.2.2.2.2.2.2.2.2.2.2.2.1,(s6.2.2.2.2.2.2.2.2.2.2.2.2.2.2.2.2.2.2.2.2.2.1,(s6.2.2.2.2.2.2.2.2.2.2.2.2.2.2.2.2.2.2.2.2.2.2.1,())))))))))))))))))))))))))))))) (cond (ine y19 (-1)) (oN (zfT y8 y19) (oN (zfT y6 y19) (oN (inb s6.2.1 (ln y12.Outer)) (share y2 (fun x7=>(oN (inb s6.1 (ln x7)) (oN (cond (cond (cond (cond (cond (cond (ieq y1 s6.1) true false) (cond (ieq y9 s6.1) true false) false) (cond (ieq y3 s6.1) true false) false) (cond (ieq y11 s6.1) true false) false) (cond (ieq y13 s6.1) true false) false) (cond (ieq y5 s6.1) true false) false) (share (up x7 s6.1 ({ (ix x7 y5 zf) with Out:=(ix x7 y13 zf).Out,Dirty:=(ix x7 y11 zf).Dirty,Guests:=(ix x7 y3 zf).Guests,Outs:=(ix x7 y9 zf).Outs,Pending:=y18,Traps:=y17,Tables:=(ix x7 y1 zf).Tables,Own:=y15 }:Mon)) (fun x8=>(some [(aH (⟨y14,x8,(zm7 y8 y19),(zm7 y6 y19)⟩:Host))])))))))))) (oN (inb s6.2.1 (ln y12.Outer)) (share y2 (fun x7=>(oN (inb s6.1 (ln x7)) (oN (cond (cond (cond (cond (cond (cond (ieq y1 s6.1) true false) (cond (ieq y9 s6.1) true false) false) (cond (ieq y3 s6.1) true false) false) (cond (ieq y11 s6.1) true false) false) (cond (ieq y13 s6.1) true false) false) (cond (ieq y5 s6.1) true false) false) (share (up x7 s6.1 ({ (ix x7 y5 zf) with Out:=(ix x7 y13 zf).Out,Dirty:=(ix x7 y11 zf).Dirty,Guests:=(ix x7 y3 zf).Guests,Outs:=(ix x7 y9 zf).Outs,Pending:=y18,Traps:=y17,Tables:=(ix x7 y1 zf).Tables,Own:=y15 }:Mon)) (fun x8=>(some [(aH (⟨y14,x8,y8,y6⟩:Host))]))))))))))) (a1,(a2,((ix y7.Outer a2 zX).Page,(0,(a3.Page,(a3.Rights,(a1,(a1,(a1,(a1,(a1,(y7.Pending,(y7.Traps,(a1,(y7.Own,(a0.Memory,(a0.Mons,(a0.Buffer,(a0.IoBuffer,([],([],([],([],()))))))))))))))))))))))))))
def zIu:FuncId->Nat->Option Tmpl:=zA [(99,0,{ n:=70,tm:=[(1,ti),(2,ti),(4,.lp 0 0),(7,.lp 1 0),(8,.lp 2 0),(9,.lp 3 0),(10,ti),(11,ti)],lo:=[(0,[.sl 0 [],.sl 1 [],.sl 2 [],.sl 3 []]),(1,[ti,ti]),(2,[.sl 4 [],.sl 5 [],.sl 6 [],.sl 7 []]),(3,[.sl 1 [0],.sl 1 [1],.sl 1 [2],.sl 1 [3],.sl 1 [4],ti,ti,.sl 1 [7],ti])],ro:=[(0,(.sl .int),true),(1,.mon,true),(2,.entry,true),(3,.entry,true),(4,(.sl .int),true),(5,.mon,true),(6,.entry,true),(7,.entry,true)] })]
theorem zKN (N:Nat)(a0:Host)(a1 a2:Int)(a3:Slot):zxy (cQ zOo zwj zKS zjk) zIu N 12 99 [true,true,true,true,false,false,false,false] 1 1 [[0],[1],[2],[4],[7]] .mon [aH a0,aI a1,aI a2,aT .slot a3]=zrp N a0 a1 a2 a3:=by kernel_rfl
theorem zIa (a0:Host)(a1 a2:Int)(a3:Slot)(hb:zci big [aH a0,aI a1,aI a2,aT .slot a3])(hc:(zdZ a0 a1 a2 a3)=true):∃N,zrp N a0 a1 a2 a3=some [aH (zfp a0 a1 a2 a3)]:=by
 obtain ⟨hs,h1,h2,h3⟩:=zJ.1 hc;have hH:=(zO a0).1 hs;have hm:zeU (ix a0.Mons a1 zf):=hH.2.1.2 _ (zbj h1 _);obtain ⟨k,rfl,hk⟩:=zex (n:=a0.Mons.length) h1;have hT:=(zc0 hm.2.2.2.2.2.1).1;refine zc9 fun N hNN=>?_;unfold zrp oN
 conv=>zeta
 refine must h1 (must h2 ?_);refine zxH (ix a0.Mons (k:Int) zf).Tables.length (fun i (t:List Mon)=>((k:Int),a2,(ix (ix a0.Mons (k:Int) zf).Outer a2 zX).Page,(i:Int),a3.Page,a3.Rights,(k:Int),(k:Int),(k:Int),(k:Int),(k:Int),(ix a0.Mons (k:Int) zf).Pending,(ix a0.Mons (k:Int) zf).Traps,(k:Int),(ix a0.Mons (k:Int) zf).Own,a0.Memory,t,a0.Buffer,a0.IoBuffer,[],[],[],[],())) _
  (fun i t=>t=up a0.Mons (k:Int) (zp1 (ix a0.Mons (k:Int) zf) a2 i)) (fun _ _=>some [AV.agg (zbE (zbX a0 (k:Int) a2 a3))]) (fun i t rec hi hI hr=>?_) (fun t rec hI=>?_) _ 0 a0.Mons ?_ (Nat.zero_le _) ?_
 ·subst hI;have hi2:i<(zkl (ix a0.Mons (k:Int) zf).Guests a2 i (ix a0.Mons (k:Int) zf).Tables).length:=by rw [zp2];exact hi
  have hi3:i<(ix a0.Mons (k:Int) zf).Guests.length:=by omega
  have hf:ziY (ix (zkl (ix a0.Mons (k:Int) zf).Guests a2 i (ix a0.Mons (k:Int) zf).Tables) (i:Int) zgO) (ix (ix a0.Mons (k:Int) zf).Guests (i:Int) zq).Live a2=true :=
   zbO ⟨by rw [zbF hi2];exact (zxd _ _ _ _ (by omega) hm.2.2.2.2.2).2 _ (List.getElem_mem hi2),by rw [zbF hi3];exact (hm.2.2.2.1.2 _ (List.getElem_mem hi3)).2.2.1⟩
  simp only [zeY hk,zxT,zp1,zcb hi2,zbx hi2,zbx hi3,hf,cT,share,zbu hi hT];exact hr _ rfl
 ·subst hI;simp only [zeY hk,zxT,ze9,zp1,ln,zp2,ztz,show ilt (((ix a0.Mons (k:Int) zf).Tables.length:Nat):Int) (((ix a0.Mons (k:Int) zf).Tables.length:Nat):Int)=false from decide_eq_false (by omega),cT,cF,share]
  have h1':inb (k:Int) ((a0.Mons.length:Nat):Int)=true:=h1;have h2':inb a2 (((ix a0.Mons (k:Int) zf).Outer.length:Nat):Int)=true:=h2;have f1:zfT a0.Buffer (ix (ix a0.Mons (k:Int) zf).Outer a2 zX).Page=true:=zbO hH.2.2.1;have f2:zfT a0.IoBuffer (ix (ix a0.Mons (k:Int) zf).Outer a2 zX).Page=true:=zbO hH.2.2.2;simp only [h1',h2',f1,f2,cT];unfold zbX;cases ine (ix (ix a0.Mons (k:Int) zf).Outer a2 zX).Page (-1)<;>rfl
 ·exact (zN6 hk _).symm
 ·exact hNN (by omega)
theorem zCW:zdd Tryz.prog 99 [true,true,true,true,false,false,false,false] (some (1,1,[[0],[1],[2],[4],[7]])) zob:=by
 refine ziK (kt:=.mon) (zda zAb zy zC zB) (zeW (by kernel_rfl)) (by kernel_rfl) ?_
 intro avs rs hl hr h;have hb:=zgv hr;unfold zob at h;split at h
 ·obtain ⟨hc,rfl⟩:=zdi h;obtain ⟨N,hN⟩:=zIa _ _ _ _ (by exact hb) hc
  exact ⟨⟨_,rfl⟩,rfl,_,N,12,(zKN N _ _ _ _ ).trans hN⟩
 ·cases h
def zTP:zew:=[(99,([true,true,true,true,false,false,false,false],(some (1,1,[[0],[1],[2],[4],[7]])),zob))]++zjk
theorem zfE:zdC zTP:=zmD zB (by
 intro x hx;simp only [List.mem_cons,List.not_mem_nil,or_false] at hx;rcases hx with rfl
 ·exact zCW)
def zLN (x:Mon)(p:Int):Mon:={ x with Dirty:=up x.Dirty p false }
def zmE (h:Host)(m p:Int):Host:={ h with Mons:=up h.Mons m (zLN (ix h.Mons m zf) p) }
def zpm (h:Host)(m p:Int):Host:=bif zbW h m p then (cond (zcz (ix (ix h.Mons m zf).Outer p zX) noSlot) (zmE h m p) (zbX (zmE h m p) m p ⟨(ix (ix h.Mons m zf).Outer p zX).Page,1⟩)) else h
theorem ztu:∀(l:List Mon) (u:List Bool),zh9 l u=true->∀x∈l,zd7 x=true
 | [],_,_,x,hx=>by cases hx
 | m :: l,u,h,x,hx=>by
  simp only [zh9] at h;cases h1:zd7 m
  ·rw [h1] at h;cases h
  ·rw [h1] at h;simp only [cT] at h;cases h2:zfO m.Outer u with
   | none=>rw [h2] at h;cases h
   | some u' =>
    rw [h2] at h;rcases List.mem_cons.1 hx with rfl|hx
    ·exact h1
    ·exact ztu l u' h x hx
structure PageAt (h:Host) (m p:Int):Prop where
 hm:hasB m (ln h.Mons)=true
 hp:hasB p 8=true
 ok:zd7 (ix h.Mons m zf)=true
 ho:(ix h.Mons m zf).Outer.length=8
 hd:(ix h.Mons m zf).Dirty.length=8
 ht:(ix h.Mons m zf).Tables.length=(ix h.Mons m zf).Guests.length
 hs:zcz (ix (ix h.Mons m zf).Outer p zX) noSlot=ieq (ix (ix h.Mons m zf).Outer p zX).Page (-1)
theorem zG6 {s:Slot}{n:Int}(h:zds s n=true):zcz s noSlot=ieq s.Page (-1):=by
 unfold zds at h;cases h1:zcz s noSlot
 ·rw [h1] at h;cases h2:ieq s.Page (-1)
  ·rfl
  ·have e:s.Page = -1:=of_decide_eq_true h2;cases h3:igt n 0
   ·rw [h3] at h;cases h
   ·cases h4:win s.Page 0 (wsub .i64 n 1)
    ·rw [h3,h4] at h;cases h
    ·have:=(ze5.1 h4).1;omega
 ·unfold zcz at h1;rw [Bool.and_eq_true] at h1;exact h1.1.symm
theorem zDu {h:Host}{m p:Int}(hp:zbW h m p=true):PageAt h m p:=by
 unfold zbW at hp;simp only [zcw] at hp;obtain ⟨h0,h1,h2⟩:=hp;unfold zbN at h0;simp only [zcw] at h0;have hok:=ztu _ _ h0.2.2.2.2 _ (zbj h1 zf);have hk:=hok;unfold zd7 at hk;simp only [zcw] at hk;have ho:(ix h.Mons m zf).Outer.length=8:=by have:=zrm hk.2.2.1;simp only [ln] at this;omega
 refine ⟨h1,h2,hok,ho,?_,?_,?_⟩
 ·have:ln (ix h.Mons m zf).Dirty=8:=of_decide_eq_true hk.2.2.2.2.1;simp only [ln] at this;omega
 ·have:ln (ix h.Mons m zf).Tables=ln (ix h.Mons m zf).Guests:=of_decide_eq_true hk.2.1;simp only [ln] at this;omega
 ·have ht:=hk.2.2.1;unfold zcI at ht;simp only [zcw] at ht;have hi:hasB p (ln (ix h.Mons m zf).Outer)=true:=by rw [ln,ho];exact h2
  exact zG6 (List.all_eq_true.1 ht.1 _ (zbj hi _))
theorem zLo {x:Mon}{p:Int}(h:zeU x):zeU (zLN x p):=⟨h.1,h.2.1,by simpa [zLN] using h.2.2.1,h.2.2.2⟩
theorem zt2 {h:Host}{m p:Int}(hm:hasB m (ln h.Mons)=true)(hs:SmH h):SmH (zmE h m p):=⟨hs.1,zgV hs.2.1 (zLo (hs.2.1.2 _ (zbj hm _))),hs.2.2⟩
theorem zzQ {h:Host}{m p:Int}{s:Slot}(hm:hasB m (ln h.Mons)=true)(hs:SmH h):SmH (zbX h m p s):=by
 have hx:=hs.2.1.2 _ (zbj hm zf);have ht:=zRS (p:=p) (Nat.le_refl _) hx;have hM:znu (up h.Mons m { zp1 (ix h.Mons m zf) p (ix h.Mons m zf).Tables.length with Outer:=up (ix h.Mons m zf).Outer p s }):=zgV hs.2.1 ⟨by simpa using hx.1,ht.2⟩
 unfold zbX;cases ine (ix (ix h.Mons m zf).Outer p zX).Page (-1)
 ·exact ⟨hs.1,hM,hs.2.2⟩
 ·exact ⟨hs.1,hM,Nat.le_trans (zzd _ _) hs.2.2.1,Nat.le_trans (zzd _ _) hs.2.2.2⟩
theorem zt5 {h:Host}{m p:Int}(hm:hasB m (ln h.Mons)=true):hasB m (ln (zmE h m p).Mons)=true:=by
 unfold zmE;simpa [ln] using hm
theorem zRO {h:Host}{m p:Int}(hs:SmH h):SmH (zpm h m p):=by
 unfold zpm;cases hp:zbW h m p
 ·exact hs
 ·have P:=zDu hp;cases zcz (ix (ix h.Mons m zf).Outer p zX) noSlot
  ·exact zzQ (zt5 P.hm) (zt2 P.hm hs)
  ·exact zt2 P.hm hs
@[simp] abbrev zw1 (h:Host)(m p:Int):Bool:=pc (zb3 h)
@[simp] abbrev zqO (h:Host)(m p:Int):Host:=zpm h m p
@[simp] abbrev zqP (h:Host)(m p:Int):Bool:=zbW h m p
def zzw:Run:=rF3 dH dI dI (fun b c d=>((zw1 b c d),[aH (zqO b c d),aB (zqP b c d)]))
def zF2 (N:Nat)(a0:Host)(a1 a2:Int):OA :=
 let y3:=(zi a0);let y2:=(ix y3.Mons a1 zf); (oN (zbq a0) (oN (zkA y3 a1 a2) (cond (nB (zfU y3 a1 a2)) (some [(aH y3),(aB false)]) (oN (inb a1 (ln y3.Mons)) (oN (inb a2 (ln y2.Dirty)) (share (up y3.Mons a1 ({ y2 with Dirty:=(up y2.Dirty a2 false) }:Mon)) (fun x4=>let y4:=(ix x4 a1 zf).Outer;let y1:=({ y3 with Mons:=x4 }:Host);let y0:=(ix y4 a2 zX);let y5:=({ y0 with Rights:=1 }:Slot); (oN (inb a1 (ln x4)) (oN (inb a2 (ln y4)) (oN zb2 (cond (cond (ieq y0.Page zbg.Page) (ieq y0.Rights zbg.Rights) false) (some [(aH y1),(aB true)]) (oN (zdZ y1 a1 a2 y5) (some [(aH (zfp y1 a1 a2 y5)),(aB true)])))))))))))))
theorem zMj (a0:Host)(a1 a2:Int)(hc:(zw1 a0 a1 a2)=true):∃N,zF2 N a0 a1 a2=some [aH (zqO a0 a1 a2),aB (zqP a0 a1 a2)]:=by
 have hs:=zJ.1 hc;have hH:=(zO a0).1 hs;refine ⟨0,?_⟩;unfold zF2 zqO zqP zpm oN nB
 conv=>zeta
 refine must (zbO hs) (must rfl ?_);cases hp:zbW a0 a1 a2
 ·simp only [zfU,zi,hp,cF,cT]
 ·have P:=zDu hp;obtain ⟨k,rfl,hk⟩:=zex (n:=a0.Mons.length) P.hm;simp only [zfU,zi,hp,cT,cF];have i1:inb a2 (ln (ix a0.Mons (k:Int) zf).Dirty)=true:=by rw [ln,P.hd];exact P.hp
  have i2:inb a2 (ln (ix a0.Mons (k:Int) zf).Outer)=true:=by rw [ln,P.ho];exact P.hp
  refine must P.hm (must i1 ?_);simp only [share,zeY hk,i2,cT,zb2,zbg];refine must (zt5 (p:=a2) P.hm) ?_;have e:∀s:Slot,zcz s noSlot=bif ieq s.Page noSlot.Page then ieq s.Rights noSlot.Rights else false:=fun s=>by
   unfold zcz;cases ieq s.Page noSlot.Page<;>rfl
  rw [<- e];cases zcz (ix (ix a0.Mons (k:Int) zf).Outer a2 zX) noSlot
  ·refine zdx rfl (must (zbO ⟨(zO _).2 (zt2 P.hm hH),zt5 (p:=a2) P.hm,?_,?_⟩) rfl)
   ·simp only [zeY hk];exact i2
   ·simp only [zeY hk];exact Nat.le_of_eq P.ht
  ·rfl
theorem zHk:Holds Tryz.prog 63 zzw:=kF3 zAb zy zC zfE (zA []) zMj
def zQq:zS:=[(63,zzw)]++zOo
theorem zQr:zD zQq:=zk zHk zAb
def zQs:zS:=zQq
theorem zh4:zD zQs:=zQr
def ztG (o i t:Int):Int:=bif zfx i t then 1 else (cond (zfx o t) 2 0)
@[simp] abbrev znj (o i t:Int):Bool:=true
@[simp] abbrev zky (o i t:Int):Int:=ztG o i t
def zuF:Run:=rF3 dI dI dI (fun b c d=>((znj b c d),[aI (zky b c d)]))
def zyR (N:Nat)(a0 a1 a2:Int):OA :=
 (oN (zgo a1 a2) (cond (zf7 a1 a2) (some [(aI 1)]) (oN (zgo a0 a2) (cond (zf7 a0 a2) (some [(aI 2)]) (some [(aI 0)])))))
theorem zHS (a0 a1 a2:Int)(hc:(znj a0 a1 a2)=true):∃N,zyR N a0 a1 a2=some [aI (zky a0 a1 a2)]:=by
 refine ⟨0,?_⟩;unfold zyR oN;refine must rfl (br (fun _=>?_) (fun _=>must rfl (br (fun _=>?_) (fun _=>?_))))
 all_goals first|rfl|(simp only [*,zky,ztG,cT,cF]<;>rfl)|simp_all [Ty.cells,zky,ztG]
theorem zCE:Holds Tryz.prog 115 zuF:=kF3 zh4 zy zC zfE (zA []) zHS
def zdN (m g:Int):Int:=bif win m 0 2 then (cond (win g 0 1) (zK .i64 (zK .i64 1 g) (zlM .i64 m 2)) 0) else 0
@[simp] abbrev zin (m g:Int):Bool:=true
@[simp] abbrev zo7 (m g:Int):Int:=zdN m g
def zzE:Run:=rF2 dI dI (fun b c=>((zin b c),[aI (zo7 b c)]))
def zF9 (N:Nat)(a0 a1:Int):OA :=
 (oN (zF a0 0 2) (cond (nB (zI a0 0 2)) (some [(aI 0)]) (oN (zF a1 0 1) (cond (nB (zI a1 0 1)) (some [(aI 0)]) (some [(aI (zK .i64 (zK .i64 1 a1) (zlM .i64 a0 2)))])))))
theorem zMq (a0 a1:Int)(hc:(zin a0 a1)=true):∃N,zF9 N a0 a1=some [aI (zo7 a0 a1)]:=by
 refine ⟨0,?_⟩;unfold zF9 oN nB;refine must rfl (brN (fun _=>?_) (fun _=>must rfl (brN (fun _=>?_) (fun _=>?_))))
 all_goals first|rfl|(simp only [*,zo7,zdN,cT,cF]<;>rfl)|simp_all [Ty.cells,zo7,zdN]
theorem zHr:Holds Tryz.prog 79 zzE:=kF2 zh4 zy zC zfE (zA []) zMq
def zia (k:Kept)(p:Int):Bool:=bif zcV k p then ix k.Known p false else false
def zd2 (k:Kept)(p:Int):Slot:=bif zia k p then ix k.Slots p zX else noSlot
@[simp] abbrev zxO (k:Kept)(p:Int):Bool:=pc (SmK k)
@[simp] abbrev zo5 (k:Kept)(p:Int):Slot:=zd2 k p
@[simp] abbrev zxN (k:Kept)(p:Int):Bool:=zia k p
def zG2:Run:=rF2 (dT .kept) dI (fun b c=>((zxO b c),[aT .slot (zo5 b c),aB (zxN b c)]))
def zM9 (N:Nat)(a0:Kept)(a1:Int):OA :=
 let y0:=(ix a0.Slots a1 zX); (oN (zlF a0 a1) (cond (nB (zgq a0 a1)) (oN zb2 (some [(.agg [(.i .i64 zbg.Page),(.i .i64 zbg.Rights)]),(aB false)])) (oN (inb a1 (ln a0.Known)) (cond (nB (ix a0.Known a1 false)) (oN zb2 (some [(.agg [(.i .i64 zbg.Page),(.i .i64 zbg.Rights)]),(aB false)])) (oN (inb a1 (ln a0.Slots)) (some [(.agg [(.i .i64 y0.Page),(.i .i64 y0.Rights)]),(aB true)]))))))
theorem zQ1 (a0:Kept)(a1:Int)(hc:(zxO a0 a1)=true):∃N,zM9 N a0 a1=some [aT .slot (zo5 a0 a1),aB (zxN a0 a1)]:=by
 have hs:=zJ.1 hc;refine ⟨0,?_⟩;unfold zM9 zo5 zxN zd2 zia oN nB
 conv=>zeta
 refine must (zbO hs) ?_;rw [show zgq a0 a1=zcV a0 a1 from rfl]
 cases hh:zcV a0 a1
 ·rfl
 ·unfold zcV at hh;obtain ⟨h1,h2⟩:=zcw.1 hh;simp only [zx h1,zx h2,cT];cases ix a0.Known a1 false<;>rfl
theorem zMd:Holds Tryz.prog 132 zG2:=kF2 zh4 zy zC zfE (zA []) zQ1
def filled (k:Kept)(inner outer:List Slot)(p:Int):Kept:=bif zcV k p then (cond (hasB p (ln inner)) ⟨up k.Known p true,up k.Slots p (zbd (ix inner p zX) outer)⟩ k) else k
@[simp] theorem zPH {k:Kept}{inner outer:List Slot}{p:Int}(h:SmK k):SmK (filled k inner outer p):=by
 unfold filled;cases zcV k p
 ·exact h
 ·cases hasB p (ln inner)
  ·exact h
  ·exact ⟨by simpa using h.1,by simpa using h.2⟩
@[simp] abbrev zA6 (k:Kept)(i o:List Slot)(p:Int):Bool:=pc (SmK k)
@[simp] abbrev zDI (k:Kept)(i o:List Slot)(p:Int):Kept:=filled k i o p
def zDG:Run:=rF4 (dT .kept) (dS .slot) (dS .slot) dI (fun b c d e=>((zA6 b c d e),[aT .kept (zDI b c d e)]))
def zIS (N:Nat)(a0:Kept)(a1 a2:lS)(a3:Int):OA :=
 let y0:=(zcM a0); (oN (zeH a0) (oN (zlF y0 a3) (cond (zgq y0 a3) (cond (ilt a3 (ln a1)) (oN (inb a3 (ln y0.Known)) (share (up y0.Known a3 true) (fun x5=>(oN (inb a3 (ln a1)) (oN (zhV (ix a1 a3 zX) a2) (oN (inb a3 (ln y0.Slots)) (share (up y0.Slots a3 (zjT (ix a1 a3 zX) a2)) (fun x6=>(some [(aT .kept (⟨x5,x6⟩:Kept))]))))))))) (some [(aT .kept y0)])) (some [(aT .kept y0)]))))
theorem zO3 (a0:Kept)(a1 a2:List Slot)(a3:Int)(hc:(zA6 a0 a1 a2 a3)=true):∃N,zIS N a0 a1 a2 a3=some [aT .kept (zDI a0 a1 a2 a3)]:=by
 have hs:=zJ.1 hc;refine ⟨0,?_⟩;unfold zIS zDI filled oN
 conv=>zeta
 refine must (zbO ((zsa _).2 hs)) (must (zbO hs) ?_);rw [show zgq (zcM a0) a3=zcV a0 a3 from rfl]
 cases hh:zcV a0 a3
 ·rfl
 ·unfold zcV at hh;obtain ⟨h1,h2⟩:=zcw.1 hh;rw [has_lt h1 (m:=ln a1)];cases h3:hasB a3 (ln a1)
  ·rfl
  ·simp only [cT,zcM,zx h1,zx h2,zx h3,share,zhV];rfl
theorem zJK:Holds Tryz.prog 133 zDG:=kF4 zh4 zy zC zfE (zA []) zO3
theorem zJE {α ρ:Type}(p:α->Bool)(r:α->Option ρ)(K:Unit->Option ρ):∀(l:List α) (i:Nat),goL (fun _ x (_:Unit) k=>bif p x then r x else k ()) K l i ()=match l.find? p with|some x=>r x|none=>K ()
 | [],_=>rfl
 | x :: l,i=>by
  simp only [goL];cases h:p x
  ·rw [List.find?_cons_of_neg (by simp [h])]
   exact zJE p r K l (i+1)
  ·rw [List.find?_cons_of_pos h];rfl
def zxz (b:List Entry)(t p:Int):Option Entry:=b.find? fun e=>bif ieq e.Tag t then ieq e.Page p else false
@[simp] abbrev zjW (b:List Entry)(t p:Int):Bool:=true
@[simp] abbrev zjV (b:List Entry)(t p:Int):Entry:=(zxz b t p).getD ⟨0,0,0,0⟩
@[simp] abbrev zhl (b:List Entry)(t p:Int):Bool:=(zxz b t p).isSome
def zqH:Run:=rF3 (dS .entry) dI dI (fun b c d=>((zjW b c d),[aT .entry (zjV b c d),aB (zhl b c d)]))
def zug (N:Nat)(a0:lE)(a1 a2:Int):OA :=
 (iter (σ:=(Int×(Int×(Int×(Int×(Int×(Int×(Int×(lE×Unit))))))))) N (fun r4 s5=>let y2:=s5.2.2.2.2.2.2.2.1;let y3:=(inb s5.2.2.1 (ln y2));let y1:=(r4 (s5.1,(s5.2.1,((zK .i64 s5.2.2.1 1),(s5.2.2.2.1,(s5.2.2.2.2.1,(s5.2.2.2.2.2.1,(s5.2.2.2.2.2.2.1,(y2,())))))))));let y0:=(ix y2 s5.2.2.1 zhQ); (cond (ilt s5.2.2.1 (ln y2)) (oN y3 (cond (ieq y0.Tag s5.1) (oN y3 (cond (ieq y0.Page s5.2.1) (oN y3 (some [(.agg [(.i .i64 y0.Tag),(.i .i64 y0.Page),(.i .i64 y0.Host),(.i .i64 y0.Rights)]),(aB true)])) y1)) y1)) (some [(.agg [(.i .i64 0),(.i .i64 0),(.i .i64 0),(.i .i64 0)]),(aB false)]))) (a1,(a2,(0,(0,(0,(0,(0,(a0,())))))))))
def zD4:FuncId->Nat->Option Tmpl:=zA [(130,0,{ n:=36,tm:=[(0,.sl 0 []),(1,ti),(2,ti),(6,.lp 0 0),(8,ti)],lo:=[(0,[ti,ti,ti,ti])],ro:=[(0,.entry,false)] })]
theorem zDb (a0:List Entry)(a1 a2:Int)(hb:zci big [aS .entry a0,aI a1,aI a2])(hc:(zjW a0 a1 a2)=true):∃N,zug N a0 a1 a2=some [aT .entry (zjV a0 a1 a2),aB (zhl a0 a1 a2)]:=by
 have hl:=(len0 hb);refine zc9 fun N hNN=>?_;unfold zug oN
 conv=>zeta
 refine (zby a0 (fun i (t:Unit)=>(a1,a2,(i:Int),0,0,0,0,a0,())) _ (fun _ (x:Entry) (_:Unit) κ=>bif (cond (ieq x.Tag a1) (ieq x.Page a2) false) then (some [AV.agg (Ty.cells .entry x),AV.one (.b true)]) else κ ()) (fun (t:Unit)=>(some [(.agg [(.i .i64 0),(.i .i64 0),(.i .i64 0),(.i .i64 0)]),(.one (.b false))])) (fun i hi t rec=>?_) (fun t rec=>?_) _ () (hNN hl)).trans ?_
 ·simp only [zcb hi,zbx hi,zbF hi,zbu hi hl,cT];cases ieq a0[i].Tag a1<;>cases ieq a0[i].Page a2<;>rfl
 ·simp only [zb6,cF]
 rw [zJE (fun e:Entry=>bif ieq e.Tag a1 then ieq e.Page a2 else false)]
 unfold zjV zhl zxz;cases a0.find? (fun e:Entry=>bif ieq e.Tag a1 then ieq e.Page a2 else false)<;>rfl
theorem zxZ:Holds Tryz.prog 130 zqH:=hF3 zh4 zy zC zfE zD4 zDb
def zwk (t p:Int)(e:Entry):Bool:=bif ine e.Tag t then true else ine e.Page p
def zca (b:List Entry)(t p:Int):List Entry:=b.filter (zwk t p)
theorem ztn (b:List Entry)(t p:Int):(zca b t p).length<=b.length:=List.length_filter_le _ _
@[simp] abbrev ze4 (b:List Entry)(t p:Int):Bool:=pc (b.length<=1048576)
@[simp] abbrev zjB (b:List Entry)(t p:Int):List Entry:=zca b t p
def zqJ:Run:=rF3 (dS .entry) dI dI (fun b c d=>((ze4 b c d),[aS .entry (zjB b c d)]))
def zui (N:Nat)(a0:lE)(a1 a2:Int):OA :=
 (iter (σ:=(Int×(Int×(Int×(lE×(lE×Unit)))))) N (fun r4 s5=>let y4:=s5.2.2.2.1;let y2:=(inb s5.2.2.1 (ln y4));let y0:=(ix y4 s5.2.2.1 zhQ);let y3:=(ap s5.2.2.2.2.1 [y0]);let y1:=(r4 (s5.1,(s5.2.1,((zK .i64 s5.2.2.1 1),(y4,(y3,())))))); (cond (ilt s5.2.2.1 (ln y4)) (oN y2 (cond (ine y0.Tag s5.1) (oN y2 (oN (few (ln y3)) y1)) (oN y2 (cond (ine y0.Page s5.2.1) (oN y2 (oN (few (ln y3)) y1)) (r4 (s5.1,(s5.2.1,((zK .i64 s5.2.2.1 1),(y4,(s5.2.2.2.2.1,())))))))))) (some [(aS .entry s5.2.2.2.2.1)]))) (a1,(a2,(0,(a0,([],()))))))
def zD6:FuncId->Nat->Option Tmpl:=zA [(78,0,{ n:=40,tm:=[(0,.sl 0 []),(1,ti),(2,ti),(7,.sl 1 []),(8,ti)],lo:=[],ro:=[(0,.entry,false),(1,.entry,true)] })]
theorem zDd (a0:List Entry)(a1 a2:Int)(hc:(ze4 a0 a1 a2)=true):∃N,zui N a0 a1 a2=some [aS .entry (zjB a0 a1 a2)]:=by
 have hs:=zJ.1 hc;have hl:=zc0 hs;refine zc9 fun N hNN=>?_;unfold zui oN
 conv=>zeta
 refine (zby a0 (fun i (t:lE)=>(a1,a2,(i:Int),a0,t,())) _ (fun _ (x:Entry) (t:List Entry) κ=>bif zwk a1 a2 x then (cond (few (ln (ap t [x]))) (κ (ap t [x])) none) else κ t) (fun (t:lE)=>(some [(.one (.s .entry t))])) (fun i hi t rec=>?_) (fun t rec=>?_) _ ([]) (hNN hl.1)).trans ?_
 ·simp only [zcb hi,zbx hi,zbF hi,zbu hi hl.1,cT];unfold zwk;cases ine a0[i].Tag a1<;>cases ine a0[i].Page a2<;>rfl
 ·simp only [zb6,cF]
 exact zox (zwk a1 a2) _ a0 0 [] (by simpa using hl.2)
theorem zx1:Holds Tryz.prog 78 zqJ:=kF3 zh4 zy zC zfE zD6 zDd
def zUL:zS:=[(115,zuF),(79,zzE),(132,zG2),(133,zDG),(130,zqH),(78,zqJ)]++zQs
theorem zAc:zD zUL:=zk zCE (zk zHr (zk zMd (zk zJK (zk zxZ (zk zx1 zh4)))))
def zpy (b:List Entry)(e:Entry):List Entry:=bif igt (ln (ap (zca b e.Tag e.Page) [e])) 6 then dp (ap (zca b e.Tag e.Page) [e]) (wsub .i64 (ln (ap (zca b e.Tag e.Page) [e])) 6) else ap (zca b e.Tag e.Page) [e]
theorem zA4 {b:List Entry}(e:Entry)(h:b.length<=1048576):(zpy b e).length<=1048576/\(ap (zca b e.Tag e.Page) [e]).length<=1048577:=by
 have h1:=ztn b e.Tag e.Page;have h2:(ap (zca b e.Tag e.Page) [e]).length<=1048577:=by simp [ap];omega
 refine ⟨?_,h2⟩;unfold zpy;cases h3:igt (ln (ap (zca b e.Tag e.Page) [e])) 6
 ·have h3:=of_decide_eq_false h3;simp only [ln] at h3;simp only [cF];omega
 ·simp only [cT,dp,List.length_drop];have h3:=of_decide_eq_true h3;have:wsub .i64 (ln (ap (zca b e.Tag e.Page) [e])) 6=ln (ap (zca b e.Tag e.Page) [e])-6:=zxV (by simp only [ln] at *;omega) (by simp only [ln] at *;omega)
  rw [this];simp only [ln] at *;omega
@[simp] abbrev zlx (b:List Entry)(e:Entry):Bool:=pc (b.length<=1048576)
@[simp] abbrev zlw (b:List Entry)(e:Entry):List Entry:=zpy b e
def zsH:Run:=rF2 (dS .entry) (dT .entry) (fun b c=>((zlx b c),[aS .entry (zlw b c)]))
def zvr (N:Nat)(a0:lE)(a1:Entry):OA :=
 let y0:=(ap (zjB a0 a1.Tag a1.Page) [a1]);let y1:=(wsub .i64 (ln y0) 6); (oN (ze4 a0 a1.Tag a1.Page) (oN (few (ln y0)) (cond (igt (ln y0) 6) (oN (inr y1 (ln y0) (ln y0)) (oN (few (ln (ap [] (dp y0 y1)))) (some [(aS .entry (ap [] (dp y0 y1)))]))) (some [(aS .entry y0)]))))
theorem zFe (a0:List Entry)(a1:Entry)(hc:(zlx a0 a1)=true):∃N,zvr N a0 a1=some [aS .entry (zlw a0 a1)]:=by
 have hs:=zJ.1 hc;obtain ⟨h1,h2⟩:=zA4 a1 hs;refine ⟨0,?_⟩;unfold zvr oN
 conv=>zeta
 refine must (zbO hs) (must (zf0 (Nat.le_trans h2 (by decide:1048577<=2147483648))) ?_)
 unfold zlw zpy at *
 show _=some [AV.one (.s .entry (cond (igt (ln (ap (zca a0 a1.Tag a1.Page) [a1])) 6) (dp (ap (zca a0 a1.Tag a1.Page) [a1]) (wsub .i64 (ln (ap (zca a0 a1.Tag a1.Page) [a1])) 6)) (ap (zca a0 a1.Tag a1.Page) [a1])))]
 cases h3:igt (ln (ap (zca a0 a1.Tag a1.Page) [a1])) 6
 ·rfl
 ·rw [h3] at h1;simp only [cT] at h1;have h3:=of_decide_eq_true h3;have e:wsub .i64 (ln (ap (zca a0 a1.Tag a1.Page) [a1])) 6=ln (ap (zca a0 a1.Tag a1.Page) [a1])-6:=zxV (by simp only [ln] at *;omega) (by simp only [ln] at *;omega)
  refine must rfl (must (decide_eq_true ?_) (must ?_ ?_))
  ·show 0<=wsub .i64 (ln (ap (zca a0 a1.Tag a1.Page) [a1])) 6/\wsub .i64 (ln (ap (zca a0 a1.Tag a1.Page) [a1])) 6<=ln (ap (zca a0 a1.Tag a1.Page) [a1])/\ln (ap (zca a0 a1.Tag a1.Page) [a1])<=ln (ap (zca a0 a1.Tag a1.Page) [a1])
   rw [e];simp only [ln] at *;omega
  ·exact zsf h1
  ·rw [zjs];rfl
theorem zAx:Holds Tryz.prog 134 zsH:=kF2 zAc zy zC zfE (zA []) zFe
def zkU (l:List Slot)(p:Int):Option Nat:=l.findIdx? fun s=>ieq s.Page p
def zf5 (p:Int):List Mon->Nat->Int×Int
 | [],_=>(-1,-1)
 | m :: l,i=>match zkU m.Outer p with|some k=>((i:Int),(k:Int))|none=>zf5 p l (i+1)
def zbt (h:Host)(p:Int):Int×Int:=bif ilt p 0 then (-1,-1) else zf5 p h.Mons 0
theorem zGE {ρ:Type}(p:Slot->Bool)(r:Nat->Option ρ)(K:Unit->Option ρ):∀(l:List Slot) (i:Nat),goL (fun j x (_:Unit) k=>bif p x then r j else k ()) K l i ()=match l.findIdx? p with|some k=>r (i+k)|none=>K ()
 | [],_=>rfl
 | x :: l,i=>by
  simp only [goL];rw [List.findIdx?_cons];cases h:p x
  ·simp only [cF,Bool.false_eq_true,if_false];rw [zGE p r K l (i+1)];cases l.findIdx? p with
   | none=>rfl
   | some k=>simp only [Option.map_some];congr 1;omega
  ·rfl
theorem zNu {ρ:Type}(p:Int)(r:Int->Int->Option ρ):∀(l:List Mon) (i:Nat),goL (fun i (x:Mon) (_:Unit) κ=>goL (fun j (y:Slot) (_:Unit) κ₁=>bif ieq y.Page p then r (i:Int) (j:Int) else κ₁ ()) (fun _=>κ ()) x.Outer 0 ()) (fun _=>r (-1) (-1)) l i ()=r (zf5 p l i).1 (zf5 p l i).2
 | [],_=>rfl
 | m :: l,i=>by
  simp only [goL,zf5];rw [zGE (fun s=>ieq s.Page p) (fun j=>r (i:Int) (j:Int))];unfold zkU;cases m.Outer.findIdx? (fun s=>ieq s.Page p) with
  | none=>exact zNu p r l (i+1)
  | some k=>simp only [Nat.zero_add]
theorem zQM {α τ ρ:Type}(r:Option ρ):∀(l:List α) (i:Nat) (t:τ),goL (fun _ _ _ _=>r) (fun _=>r) l i t=r
 | [],_,_=>rfl
 | _ :: _,_,_=>rfl
@[simp] abbrev zhW (h:Host)(p:Int):Bool:=true
@[simp] abbrev ze0 (h:Host)(p:Int):Int:=(zbt h p).1
@[simp] abbrev zf8 (h:Host)(p:Int):Int:=(zbt h p).2
def zos:Run:=rF2 dH dI (fun b c=>((zhW b c),[aI (ze0 b c),aI (zf8 b c)]))
def zqe (N:Nat)(a0:Host)(a1:Int):OA :=
 (iter (σ:=(Int×(Int×(lM×(lN×(lE×(lE×Unit))))))) N (fun r3 s4=>(cond (ilt s4.2.1 (ln s4.2.2.2.1)) (cond (ige s4.1 0) (iter (σ:=(Int×(Int×(Int×(lM×(lN×(lE×(lE×Unit)))))))) N (fun r5 s6=>let y1:=s6.2.2.2.2.1;let y0:=(ix y1 s6.2.1 zf).Outer; (oN (inb s6.2.1 (ln y1)) (cond (ilt s6.2.2.1 (ln y0)) (oN (inb s6.2.1 (ln y1)) (oN (inb s6.2.2.1 (ln y0)) (cond (ieq (ix y0 s6.2.2.1 zX).Page s6.1) (some [(aI s6.2.1),(aI s6.2.2.1)]) (r5 (s6.1,(s6.2.1,((zK .i64 s6.2.2.1 1),(s6.2.2.2.1,(y1,(s6.2.2.2.2.2.1,(s6.2.2.2.2.2.2.1,()))))))))))) (r3 (s6.1,((zK .i64 s6.2.1 1),(s6.2.2.2.1,(y1,(s6.2.2.2.2.2.1,(s6.2.2.2.2.2.2.1,())))))))))) (s4.1,(s4.2.1,(0,(s4.2.2.1,(s4.2.2.2.1,(s4.2.2.2.2.1,(s4.2.2.2.2.2.1,())))))))) (some [(aI (-1)),(aI (-1))])) (some [(aI (-1)),(aI (-1))]))) (a1,(0,(a0.Memory,(a0.Mons,(a0.Buffer,(a0.IoBuffer,())))))))
def zyy:FuncId->Nat->Option Tmpl:=zA [(137,0,{ n:=44,tm:=[(1,ti),(2,.lp 0 0),(6,ti)],lo:=[(0,[.sl 0 [],.sl 1 [],.sl 2 [],.sl 3 []])],ro:=[(0,(.sl .int),false),(1,.mon,false),(2,.entry,false),(3,.entry,false)] }),(137,2,{ n:=44,tm:=[(1,ti),(2,.lp 0 0),(6,ti),(7,ti)],lo:=[(0,[.sl 0 [],.sl 1 [],.sl 2 [],.sl 3 []])],ro:=[(0,(.sl .int),false),(1,.mon,false),(2,.entry,false),(3,.entry,false)] })]
theorem zyo (a0:Host)(a1:Int)(hb:zci big [aH a0,aI a1])(hc:(zhW a0 a1)=true):∃N,zqe N a0 a1=some [aI (ze0 a0 a1),aI (zf8 a0 a1)]:=by
 have hm:CVB big (.s .mon a0.Mons):=(zeN hb).1 _ (by simp [AV.cvs,zbE])
 have hl:=hm.len;refine zc9 fun N hNN=>?_;unfold zqe ze0 zf8 zbt oN
 conv=>zeta
 refine (zby a0.Mons (fun i (t:Unit)=>(a1,(i:Int),a0.Memory,a0.Mons,a0.Buffer,a0.IoBuffer,())) _ (fun i (x:Mon) (_:Unit) κ=>bif ige a1 0 then goL (fun j (y:Slot) (_:Unit) κ₁=>bif ieq y.Page a1 then some [AV.one (.i .i64 (i:Int)),AV.one (.i .i64 (j:Int))] else κ₁ ()) (fun _=>κ ()) x.Outer 0 () else some [AV.one (.i .i64 (-1)),AV.one (.i .i64 (-1))]) (fun (t:Unit)=>(some [(.one (.i .i64 (-1))),(.one (.i .i64 (-1)))])) (fun i hi t rec=>?_) (fun t rec=>?_) _ () (hNN hl)).trans ?_
 ·simp only [zcb hi,zbx hi,zbF hi,zbu hi hl,cT];cases h0:ige a1 0
  ·rfl
  have ho:a0.Mons[i].Outer.length<=big:=(hm.inv.2 _ (List.getElem_mem hi) (.s .slot _) (by simp [Ty.cells])).len
  simp only [cT];refine (zby a0.Mons[i].Outer (fun j (_:Unit)=>(a1,((i:Int),((j:Int),(a0.Memory,(a0.Mons,(a0.Buffer,(a0.IoBuffer,())))))))) _ (fun j (y:Slot) (_:Unit) κ₁=>bif ieq y.Page a1 then some [AV.one (.i .i64 (i:Int)),AV.one (.i .i64 (j:Int))] else κ₁ ()) (fun _=>rec (a1,(((i+1:Nat):Int),(a0.Memory,(a0.Mons,(a0.Buffer,(a0.IoBuffer,()))))))) (fun j hj u rec1=>?_) (fun u rec1=>?_) _ () (hNN ho)).trans ?_
  ·simp only [zcb hj,zbx hj,zbF hj,zbu hj ho,cT,zbx hi,zbF hi]
  ·simp only [zb6,cF,cT,zbx hi,zbF hi,zbu hi hl]
  rfl
 ·simp only [zb6,cF]
 cases h0:ige a1 0
 ·have h1:ilt a1 0=true:=by
   have:=of_decide_eq_false h0;exact decide_eq_true (by omega)
  rw [h1];exact zQM _ _ _ _
 ·have h1:ilt a1 0=false:=by
   have:=of_decide_eq_true h0;exact decide_eq_false (by omega)
  rw [h1];exact zNu a1 (fun i j=>some [AV.one (.i .i64 i),AV.one (.i .i64 j)]) a0.Mons 0
theorem zvf:Holds Tryz.prog 137 zos:=hF2 zAc zy zC zfE zyy zyo
def zUM:zS:=[(134,zsH),(137,zos)]++zUL
theorem zAd:zD zUM:=zk zAx (zk zvf zAc)
def zcp (h:Host):List Int:=zrB (fun i=>ilt (zbt h (i:Int)).1 0) h.Memory.length 0
@[simp] abbrev zi0 (h:Host):Bool:=pc (h.Memory.length<=1048576)
@[simp] abbrev zd9 (h:Host):List Int:=zcp h
def zwC:Run:=rF1 dH (fun b=>((zi0 b),[aS .int (zd9 b)]))
def zBr (N:Nat)(a0:Host):OA :=
 (iter (σ:=(Int×((List Int)×(lM×(lN×(lE×(lE×Unit))))))) N (fun r2 s3=>let y0:=(⟨s3.2.2.1,s3.2.2.2.1,s3.2.2.2.2.1,s3.2.2.2.2.2.1⟩:Host); (cond (ilt s3.1 (ln s3.2.2.1)) (oN (zhW y0 s3.1) (cond (ilt (ze0 y0 s3.1) 0) (oN (few (ln (ap s3.2.1 [s3.1]))) (r2 ((zK .i64 s3.1 1),((ap s3.2.1 [s3.1]),(s3.2.2.1,(s3.2.2.2.1,(s3.2.2.2.2.1,(s3.2.2.2.2.2.1,())))))))) (r2 ((zK .i64 s3.1 1),(s3.2.1,(s3.2.2.1,(s3.2.2.2.1,(s3.2.2.2.2.1,(s3.2.2.2.2.2.1,()))))))))) (some [(aS .int s3.2.1)]))) (0,([],(a0.Memory,(a0.Mons,(a0.Buffer,(a0.IoBuffer,())))))))
def zLz:FuncId->Nat->Option Tmpl:=zA [(136,0,{ n:=28,tm:=[(1,.lp 0 0),(3,.sl 0 []),(4,ti)],lo:=[(0,[.sl 1 [],.sl 2 [],.sl 3 [],.sl 4 []])],ro:=[(0,.int,true),(1,(.sl .int),false),(2,.mon,false),(3,.entry,false),(4,.entry,false)] })]
theorem zJ5 (a0:Host)(hc:(zi0 a0)=true):∃N,zBr N a0=some [aS .int (zd9 a0)]:=by
 have hs:=zJ.1 hc;have hl:=zc0 hs;refine zc9 fun N hNN=>?_;unfold zBr oN
 conv=>zeta
 refine (zby a0.Memory (fun i (t:(List Int))=>((i:Int),t,a0.Memory,a0.Mons,a0.Buffer,a0.IoBuffer,())) _ (fun i (_:List Int) (t:List Int) κ=>bif ilt (zbt a0 (i:Int)).1 0 then (cond (few (ln (ap t [(i:Int)]))) (κ (ap t [(i:Int)])) none) else κ t) (fun (t:(List Int))=>(some [(.one (.s .int t))])) (fun i hi t rec=>?_) (fun t rec=>?_) _ ([]) (hNN hl.1)).trans ?_
 ·simp only [zcb hi,zbx hi,zbF hi,zbu hi hl.1,cT]
 ·simp only [zb6,cF]
 rw [zNt (fun i (t:List Int) κ=>bif ilt (zbt a0 (i:Int)).1 0 then (cond (few (ln (ap t [(i:Int)]))) (κ (ap t [(i:Int)])) none) else κ t)]
 exact zAj (fun i=>ilt (zbt a0 (i:Int)).1 0) _ _ 0 [] (by simpa using hl.2)
theorem zEy:Holds Tryz.prog 136 zwC:=kF1 zAd zy zC zfE zLz zJ5
def zhf (m:List (List Int))(p:Int)(c:List Int):List (List Int):=bif hasB p (ln m) then (cond (zcr c) (up m p c) m) else m
@[simp] abbrev zio (m:List (List Int))(p:Int)(c:List Int):Bool:=pc (SmM m/\c.length<=1048576)
@[simp] abbrev zg9 (m:List (List Int))(p:Int)(c:List Int):List (List Int):=zhf m p c
def zsM:Run:=rF3 (dS (.sl .int)) dI (dS .int) (fun b c d=>((zio b c d),[aS (.sl .int) (zg9 b c d)]))
def zvv (N:Nat)(a0:lM)(a1:Int)(a2:List Int):OA :=
 (oN (zeG a0) (oN (zF a1 0 (wsub .i64 (ln a0) 1)) (cond (zI a1 0 (wsub .i64 (ln a0) 1)) (oN (zeF a2) (cond (zed a2) (oN (few (ln (ap [] a2))) (oN (inb a1 (ln (zdy a0))) (share (up (zdy a0) a1 (ap [] a2)) (fun x4=>(some [(aS (.sl .int) x4)]))))) (some [(aS (.sl .int) (zdy a0))]))) (some [(aS (.sl .int) (zdy a0))]))))
theorem zFk (a0:List (List Int))(a1:Int)(a2:List Int)(hc:(zio a0 a1 a2)=true):∃N,zvv N a0 a1 a2=some [aS (.sl .int) (zg9 a0 a1 a2)]:=by
 obtain ⟨hs,hs2⟩:=zJ.1 hc;refine ⟨0,?_⟩;unfold zvv zg9 zhf oN;refine must (zbO ((zoY _).2 hs)) (must rfl ?_);rw [show zI a1 0 (wsub .i64 (ln a0) 1)=hasB a1 (ln a0) from zmF hs.1 a1]
 cases h1:hasB a1 (ln a0)
 ·rfl
 ·simp only [cT,zeF,zed];cases h2:zcr a2
  ·rfl
  ·refine must rfl (must (zsf hs2) (must (zx h1) ?_));rw [zjs];rfl
theorem zAC:Holds Tryz.prog 138 zsM:=kF3 zAd zy zC zfE (zA []) zFk
def zB1:zS:=[(136,zwC),(138,zsM)]++zUM
theorem zpg:zD zB1:=zk zEy (zk zAC zAd)
abbrev mZ:Mon:=Ty.dflt .mon
abbrev sZ:Slot:=Ty.dflt .slot
def ShM (x:Mon):Prop:=x.Outer.length=8/\x.Out.length=8/\x.Dirty.length=8/\x.Tables.length=x.Guests.length
def Shape (h:Host):Prop:=SmH h/\∀x∈h.Mons,ShM x
theorem zki {h:Host}{m:Int}{x:Mon}(hs:Shape h)(h1:zeU x)(h2:ShM x):Shape { h with Mons:=up h.Mons m x }:=by
 refine ⟨⟨hs.1.1,zgV hs.1.2.1 h1,hs.1.2.2⟩,fun y hy=>?_⟩;rcases List.mem_or_eq_of_mem_set hy with hy|rfl
 ·exact hs.2 y hy
 ·exact h2
theorem zdh {h:Host}(hs:Shape h){m:Int}(hm:hasB m (ln h.Mons)=true):zeU (ix h.Mons m mZ)/\ShM (ix h.Mons m mZ):=⟨hs.1.2.1.2 _ (zbj hm _),hs.2 _ (zbj hm _)⟩
theorem zG4 {h:Host}{mm:List (List Int)}(hs:Shape h)(h1:SmM mm):Shape { h with Memory:=mm }:=⟨⟨h1,hs.1.2⟩,hs.2⟩
theorem zom {h:Host}{m p:Int}{s:Slot}(hm:hasB m (ln h.Mons)=true)(hs:Shape h):Shape (zbX h m p s):=by
 refine ⟨zzQ hm hs.1,?_⟩;obtain ⟨_,h2⟩:=zdh hs hm;have key:∀y∈up h.Mons m { zp1 (ix h.Mons m mZ) p (ix h.Mons m mZ).Tables.length with Outer:=up (ix h.Mons m mZ).Outer p s },ShM y:=by
  intro y hy;rcases List.mem_or_eq_of_mem_set hy with hy|rfl
  ·exact hs.2 y hy
  ·exact ⟨by simpa using h2.1,h2.2.1,h2.2.2.1,by simpa [zp1,zp2] using h2.2.2.2⟩
 unfold zbX;cases ine (ix (ix h.Mons m mZ).Outer p sZ).Page (-1)<;>exact key
theorem zfJ (h:Host)(m p:Int)(s:Slot):(zbX h m p s).Mons=up h.Mons m { zp1 (ix h.Mons m mZ) p (ix h.Mons m mZ).Tables.length with Outer:=up (ix h.Mons m mZ).Outer p s }/\(zbX h m p s).Memory=h.Memory:=by
 unfold zbX;cases ine (ix (ix h.Mons m mZ).Outer p sZ).Page (-1)<;>exact ⟨rfl,rfl⟩
theorem zeP {h:Host}{m k:Int}{x:Mon}(hm:hasB m (ln h.Mons)=true):hasB m (ln (up h.Mons k x))=true:=by simpa [ln] using hm
theorem zzh {h:Host}{m k p:Int}{s:Slot}(hm:hasB m (ln h.Mons)=true):hasB m (ln (zbX h k p s).Mons)=true:=by
 rw [(zfJ h k p s).1];exact zeP hm
theorem zeX {α:Type}{l:List α}{p:Int}(h:l.length=8)(hp:hasB p 8=true):hasB p (ln l)=true:=by rw [ln,h];exact hp
def zTk:zc7:=zKS
theorem zNE:zct zTk:=zC
def ziR (h:Host)(m p:Int):Host:={ h with Mons:=up h.Mons m { ix h.Mons m mZ with Out:=up (ix h.Mons m mZ).Out p (zb4 h.Memory (ix (ix h.Mons m mZ).Outer p sZ).Page) } }
def zc5 (h:Host)(m p:Int):Host:=zbX (ziR h m p) m p noSlot
theorem zLm {m:List (List Int)}{p:Int}(h:SmM m):(zb4 m p).length<=1048576:=by
 unfold zb4;cases hh:hasB p (ln m)
 ·exact (by decide:zt7.length<=1048576)
 ·exact h.2 _ (zbj hh _)
theorem zzO {h:Host}{m p:Int}(hs:Shape h)(hm:hasB m (ln h.Mons)=true):Shape (ziR h m p):=by
 obtain ⟨g1,g2⟩:=zdh hs hm;exact zki hs ⟨g1.1,zDT g1.2.1 (zLm hs.1.1),g1.2.2⟩ ⟨g2.1,by simpa using g2.2.1,g2.2.2⟩
theorem zDM {h:Host}{m p:Int}(hs:Shape h)(hm:hasB m (ln h.Mons)=true):Shape (zc5 h m p):=zom (zeP hm) (zzO hs hm)
@[simp] abbrev zoS (h:Host)(m p:Int):Bool:=pc (Shape h/\hasB m (ln h.Mons)=true/\hasB p 8=true)
@[simp] abbrev ztZ (h:Host)(m p:Int):Host:=zc5 h m p
def zpF:List AV->Option (Bool×List AV)
 | [.agg [.s (.sl .int) b,.s .mon c,.s .entry d,.s .entry e],.one (.i .i64 f),.one (.i .i64 g)]=>some ((zoS (⟨b,c,d,e⟩:Host) f g),[aH (ztZ (⟨b,c,d,e⟩:Host) f g)])
 | _=>none
def zs7 (N:Nat)(a0:Host)(a1 a2:Int):OA :=
 let y0:=(ix a0.Mons a1 zf);let y1:=(ix y0.Outer a2 zX).Page; (oN (inb a1 (ln a0.Mons)) (oN (inb a1 (ln a0.Mons)) (oN (inb a2 (ln y0.Outer)) (oN (ztR a0.Memory y1) (oN (inb a2 (ln y0.Out)) (share (up a0.Mons a1 ({ y0 with Out:=(up y0.Out a2 (ztQ a0.Memory y1)) }:Mon)) (fun x4=>let y2:=({ a0 with Mons:=x4 }:Host); (oN zb2 (oN (zdZ y2 a1 a2 zbg) (some [(aH (zfp y2 a1 a2 zbg))]))))))))))
theorem zMG (N:Nat)(a0:Host)(a1 a2:Int):zxy (cQ zB1 zwj zTk zTP) (zA []) N 12 97 [true,true,true,true,false,false] 1 1 [[0],[1],[2],[4],[7]] .mon [aH a0,aI a1,aI a2]=zs7 N a0 a1 a2:=by kernel_rfl
theorem zKt (a0:Host)(a1 a2:Int)(hb:zci big [aH a0,aI a1,aI a2])(hc:(zoS a0 a1 a2)=true):∃N,zs7 N a0 a1 a2=some [aH (ztZ a0 a1 a2)]:=by
 obtain ⟨hs,hm,hp⟩:=zJ.1 hc;obtain ⟨g1,g2⟩:=zdh hs hm;obtain ⟨k,rfl,hk⟩:=zex (n:=a0.Mons.length) hm;have hS:=zzO (p:=a2) hs hm;refine ⟨0,?_⟩;unfold zs7 oN
 conv=>zeta
 refine must (zx hm) (must (zx hm) (must (zx (zeX g2.1 hp)) (must (zbO ((zoY _).2 hs.1.1)) (must (zx (zeX g2.2.1 hp)) (shr (must rfl (must (zbO ⟨(zO _).2 hS.1,zeP hm,?_,?_⟩) rfl)))))))
 ·simp only [zeY hk];exact zeX g2.1 hp
 ·simp only [zeY hk];exact Nat.le_of_eq g2.2.2.2
theorem zEU:zdd Tryz.prog 97 [true,true,true,true,false,false] (some (1,1,[[0],[1],[2],[4],[7]])) zpF:=by
 refine ziK (kt:=.mon) (zda zpg zy zNE zfE) (zeW (by kernel_rfl)) (by kernel_rfl) ?_
 intro avs rs hl hr h;have hb:=zgv hr;unfold zpF at h;split at h
 ·obtain ⟨hc,rfl⟩:=zdi h;obtain ⟨N,hN⟩:=zKt _ _ _ (by exact hb) hc
  exact ⟨⟨_,rfl⟩,rfl,_,N,12,(zMG N _ _ _ ).trans hN⟩
 ·cases h
def zTl:zc7:=zTk
theorem zNF:zct zTl:=zNE
def zTQ:zew:=[(97,([true,true,true,true,false,false],(some (1,1,[[0],[1],[2],[4],[7]])),zpF))]++zTP
theorem zNZ:zdC zTQ:=zmD zfE (by
 intro x hx;simp only [List.mem_cons,List.not_mem_nil,or_false] at hx;rcases hx with rfl
 ·exact zEU)
def cz (l:List Slot):Nat:=l.countP fun s=>ieq s.Page 0
def zH:List Mon->Nat
 | []=>0
 | m :: l=>cz m.Outer+zH l
def bit (u:List Bool):Nat:=bif ix u 0 false then 1 else 0
theorem zsd (s:Slot)(l:List Slot):cz (s :: l)=cz l+bif ieq s.Page 0 then 1 else 0:=by
 unfold cz;rw [List.countP_cons];cases ieq s.Page 0<;>rfl
theorem zXh {u:List Bool}{p:Int}(hp:0<=p)(hlt:p.toNat<u.length)(x:Bool):ix (up u p x) 0 false=bif ieq p 0 then x else ix u 0 false:=by
 unfold ix up;cases h:ieq p 0
 ·have:p≠0:=by simpa [ieq] using h
  have hne:p.toNat≠0:=by omega
  simp [List.getD,List.getElem?_set,hne]
 ·have:p=0:=by simpa [ieq] using h
  subst this;have hlt:0<u.length:=hlt;simp [List.getD,List.getElem?_set,hlt]
theorem zxj:∀(l:List Slot) (u u':List Bool),(∀s∈l,s.Page<12)->u.length=12->zfO l u=some u'->cz l+bit u=bit u'
 | [],u,u',_,_,h=>by cases h;simp [cz]
 | s :: l,u,u',hs,hu,h=>by
  simp only [zfO] at h;rw [zsd];cases h1:ilt s.Page 0
  ·have h1:=of_decide_eq_false h1;rw [show ilt s.Page 0=false from decide_eq_false (by omega)] at h
   simp only [cF] at h;cases h2:ix u s.Page false
   ·rw [h2] at h;simp only [cF] at h;have hlt:s.Page.toNat<u.length:=by have:=hs s (by simp);omega
    have ih:=zxj l _ u' (fun t ht=>hs t (by simp [ht])) (by simpa using hu) h
    have e:bit (up u s.Page true)=bif ieq s.Page 0 then 1 else bit u:=by
     unfold bit;rw [zXh (by omega) hlt]
     cases ieq s.Page 0<;>rfl
    rw [e] at ih;cases h3:ieq s.Page 0
    ·rw [h3] at ih;simp only [cF] at ih ⊢;omega
    ·have h4:s.Page=0:=by simpa [ieq] using h3
     rw [h4] at h2;have:bit u=0:=by unfold bit;rw [h2];rfl
     rw [h3] at ih;simp only [cT] at ih ⊢;omega
   ·rw [h2] at h;cases h
  ·have h1':=of_decide_eq_true h1;rw [h1] at h;simp only [cT] at h;have ih:=zxj l u u' (fun t ht=>hs t (by simp [ht])) hu h
   have:ieq s.Page 0=false:=by simp [ieq];omega
   rw [this];simpa using ih
theorem zJM:∀(l:List Mon) (u:List Bool),u.length=12->zh9 l u=true->zH l+bit u<=1
 | [],u,_,_=>by unfold zH bit;cases ix u 0 false<;>simp
 | m :: l,u,hu,h=>by
  simp only [zh9] at h;cases h1:zd7 m
  ·rw [h1] at h;cases h
  ·rw [h1] at h;simp only [cT] at h;cases h2:zfO m.Outer u with
   | none=>rw [h2] at h;cases h
   | some u' =>
    rw [h2] at h;have e:=zxj _ _ _ (zFG (zmX h1)) hu h2;have ih:=zJM l u' ((zoV _ _ _ h2).trans hu) h;simp only [zH];omega
theorem zQw:∀(l:List Slot) (b:Nat) (s:Slot),l[b]?=some s->s.Page=0->cz (l.set b noSlot)+1=cz l
 | [],b,s,h,_=>by simp at h
 | t :: l,0,s,h,hs=>by
  simp only [List.getElem?_cons_zero,Option.some.injEq] at h;subst h;rw [List.set_cons_zero,zsd,zsd];have:ieq t.Page 0=true:=by simp [ieq,hs]
  rw [this];rfl
 | t :: l,b+1,s,h,hs=>by
  rw [List.set_cons_succ,zsd,zsd];have:=zQw l b s (by simpa using h) hs
  omega
theorem zLS:∀(l:List Mon) (a:Nat) (x y:Mon),l[a]?=some x->zH (l.set a y)+cz x.Outer=zH l+cz y.Outer
 | [],a,x,y,h=>by simp at h
 | m :: l,0,x,y,h=>by
  simp only [List.getElem?_cons_zero,Option.some.injEq] at h;subst h;rw [List.set_cons_zero];simp only [zH];omega
 | m :: l,a+1,x,y,h=>by
  rw [List.set_cons_succ];have:=zLS l a x y (by simpa using h)
  simp only [zH];omega
theorem zOG {l:List Slot}(h:cz l=0):zkU l 0=none:=by
 unfold zkU;rw [List.findIdx?_eq_none_iff];intro s hs;have:=(List.countP_eq_zero.1 h) s hs;simpa using this
theorem zDs:∀(l:List Mon) (i:Nat),zH l=0->zf5 0 l i=(-1,-1)
 | [],_,_=>rfl
 | m :: l,i,h=>by
  simp only [zH] at h;simp only [zf5];rw [zOG (by omega)]
  exact zDs l (i+1) (by omega)
theorem zOH {l:List Slot}{k:Nat}(h:zkU l 0=some k):∃s,l[k]?=some s/\s.Page=0:=by
 unfold zkU at h;rw [List.findIdx?_eq_some_iff_getElem] at h;obtain ⟨hlt,h1,_⟩:=h;exact ⟨l[k],List.getElem?_eq_getElem hlt,by simpa [ieq] using h1⟩
theorem zzn:∀(l:List Mon) (i:Nat),zf5 0 l i=(-1,-1)\/∃a b x s,zf5 0 l i=(((i+a:Nat):Int),((b:Nat):Int))/\l[a]?=some x/\x.Outer[b]?=some s/\s.Page=0
 | [],_=>.inl rfl
 | m :: l,i=>by
  simp only [zf5];cases h:zkU m.Outer 0 with
  | none =>
   rcases zzn l (i+1) with h1|⟨a,b,x,s,h1,h2,h3,h4⟩
   ·exact .inl h1
   ·refine .inr ⟨a+1,b,x,s,?_,by simpa using h2,h3,h4⟩
    have e:i+1+a=i+(a+1):=by omega
    rw [h1,e]
  | some k =>
   obtain ⟨s,h1,h2⟩:=zOH h;exact .inr ⟨0,k,m,s,rfl,rfl,h1,h2⟩
def Fit (h:Host):Prop:=Shape h/\0<h.Memory.length/\zH h.Mons<=1
theorem zzg {h:Host}(hm:0<h.Memory.length)(ho:ilt (zbt h 0).1 0=true):inb 0 (ln (zcp h))=true:=by
 unfold zcp;obtain ⟨n,hn⟩:∃n,h.Memory.length=n+1:=⟨h.Memory.length-1,by omega⟩
 rw [hn];simp only [zrB];rw [show ilt (zbt h ((0:Nat):Int)).1 0=true from ho]
 exact decide_eq_true (by simp only [cT,ln,List.length_cons];omega)
theorem zOM {h:Host}(hm:0<h.Memory.length)(h0:ieq (ln (zcp h)) 0=true):ilt (zbt h 0).1 0=false:=by
 cases ho:ilt (zbt h 0).1 0
 ·rfl
 ·have h1:=of_decide_eq_true (zzg hm ho);have h2:ln (zcp h)=0:=by simpa [ieq] using h0
  omega
def zd8 (h:Host):Host:=bif ieq (ln (zcp h)) 0 then zc5 h (zbt h 0).1 (zbt h 0).2 else h
structure Room (h r:Host):Prop where
 shape:Shape r
 free:inb 0 (ln (zcp r))=true
 len:r.Mons.length=h.Mons.length
 outer:∀m,(ix r.Mons m mZ).Outer.length=8\/True
theorem zRk {h:Host}(hf:Fit h)(h0:ieq (ln (zcp h)) 0=true):∃(a b:Nat) (x:Mon) (s:Slot),zbt h 0=((a:Int),(b:Int))/\h.Mons[a]?=some x/\x.Outer[b]?=some s/\s.Page=0:=by
 have h1:=zOM hf.2.1 h0;have e:zbt h 0=zf5 0 h.Mons 0:=rfl;rcases zzn h.Mons 0 with h2|⟨a,b,x,s,h2,h3⟩
 ·rw [e,h2] at h1;cases h1
 ·exact ⟨a,b,x,s,by rw [e,h2,Nat.zero_add],h3⟩
theorem zFD {h:Host}(hf:Fit h)(h0:ieq (ln (zcp h)) 0=true):hasB (zbt h 0).1 (ln h.Mons)=true/\hasB (zbt h 0).2 8=true:=by
 obtain ⟨a,b,x,s,h1,h2,h3,h4⟩:=zRk hf h0;rw [h1];have ha:=(List.getElem?_eq_some_iff.1 h2).1;have hb:=(List.getElem?_eq_some_iff.1 h3).1;have hx:=hf.1.2 x (List.mem_of_getElem? h2);refine ⟨decide_eq_true (by simp only [ln];omega),decide_eq_true ?_⟩
 have:=hx.1
 show 0<=(b:Int)/\(b:Int)<8
 omega
theorem room {h:Host}(hf:Fit h):Room h (zd8 h):=by
 unfold zd8;cases h0:ieq (ln (zcp h)) 0
 ·refine ⟨hf.1,decide_eq_true ?_,rfl,fun _=>.inr trivial⟩;have:ln (zcp h)≠0:=by simpa [ieq] using h0
  show 0<=(0:Int)/\(0:Int)<ln (zcp h)
  simp only [ln] at *;omega
 ·obtain ⟨hm,hp⟩:=zFD hf h0;obtain ⟨a,b,x,s,h1,h2,h3,h4⟩:=zRk hf h0;simp only [cT];rw [h1] at hm hp ⊢;have ha:=(List.getElem?_eq_some_iff.1 h2).1;have hb:=(List.getElem?_eq_some_iff.1 h3).1;have hxa:ix h.Mons (a:Int) mZ=x:=by rw [zbF ha];exact (List.getElem?_eq_some_iff.1 h2).2
  have hmons:=(zfJ (ziR h (a:Int) (b:Int)) (a:Int) (b:Int) noSlot).1;have ex:ix (ziR h (a:Int) (b:Int)).Mons (a:Int) mZ={ x with Out:=up x.Out (b:Int) (zb4 h.Memory (ix x.Outer (b:Int) sZ).Page) }:=by
   unfold ziR;rw [zeY ha,hxa]
  obtain ⟨y,hM,hy⟩:∃y,(zc5 h (a:Int) (b:Int)).Mons=h.Mons.set a y/\y.Outer=x.Outer.set b noSlot:=by
   unfold zc5;rw [hmons,ex];unfold ziR;rw [zxT];exact ⟨_,by simp [up];rfl,by simp [up]⟩
  have hz:zH (zc5 h (a:Int) (b:Int)).Mons=0:=by
   have e1:=zLS h.Mons a x y h2;have e2:=zQw x.Outer b s h3 h4;have e3:=hf.2.2;rw [hM];rw [hy] at e1;omega
  have hmem:(zc5 h (a:Int) (b:Int)).Memory=h.Memory:=(zfJ (ziR h (a:Int) (b:Int)) (a:Int) (b:Int) noSlot).2;refine ⟨zDM hf.1 hm,zzg (by rw [hmem];exact hf.2.1) ?_,by rw [hM];simp,fun _=>.inr trivial⟩
  have e:zbt (zc5 h (a:Int) (b:Int)) 0=zf5 0 (zc5 h (a:Int) (b:Int)).Mons 0:=rfl;rw [e,zDs _ _ hz];rfl
theorem zLn {m:List (List Int)}{p:Int}{c:List Int}(h:SmM m)(hc:c.length<=1048576):SmM (zhf m p c):=by
 unfold zhf;cases hasB p (ln m)
 ·exact h
 ·cases zcr c
  ·exact h
  ·exact zDT h hc
def landing (r:Host)(m p to:Int):Host:={ r with Memory:=zhf r.Memory to (ix (ix r.Mons m mZ).Out p []),Mons:=up r.Mons m { ix r.Mons m mZ with Out:=up (ix r.Mons m mZ).Out p [] } }
def zfh (r:Host)(m p to:Int):Host:=zbX (landing r m p to) m p ⟨to,3⟩
def fetched (h:Host)(m p:Int):Host:=zfh (zd8 h) m p (ix (zcp (zd8 h)) 0 0)
theorem zRT {r:Host}{m p:Int}(hr:Shape r)(hm:hasB m (ln r.Mons)=true)(hp:hasB p 8=true):(ix (ix r.Mons m mZ).Out p []).length<=1048576:=by
 obtain ⟨g1,g2⟩:=zdh hr hm;exact g1.2.1.2 _ (zbj (zeX g2.2.1 hp) _)
theorem zu1 {r:Host}{m p to:Int}(hr:Shape r)(hm:hasB m (ln r.Mons)=true)(hp:hasB p 8=true):Shape (landing r m p to):=by
 obtain ⟨g1,g2⟩:=zdh hr hm;exact zG4 (h:={ r with Mons:=up r.Mons m { ix r.Mons m mZ with Out:=up (ix r.Mons m mZ).Out p [] } }) (zki (x:={ ix r.Mons m mZ with Out:=up (ix r.Mons m mZ).Out p [] }) hr ⟨g1.1,zDT g1.2.1 (by simp),g1.2.2⟩ ⟨g2.1,by simpa using g2.2.1,g2.2.2⟩) (zLn hr.1.1 (zRT hr hm hp))
theorem zIk {r:Host}{m p to:Int}(hr:Shape r)(hm:hasB m (ln r.Mons)=true)(hp:hasB p 8=true):Shape (zfh r m p to):=zom (zeP hm) (zu1 hr hm hp)
theorem ztL {h:Host}(hf:Fit h){m:Int}(hm:hasB m (ln h.Mons)=true):hasB m (ln (zd8 h).Mons)=true:=by
 rw [ln,(room hf).len];exact hm
theorem zjZ {h:Host}{m p:Int}(hf:Fit h)(hm:hasB m (ln h.Mons)=true)(hp:hasB p 8=true):Shape (fetched h m p)/\hasB m (ln (fetched h m p).Mons)=true :=
 ⟨zIk (room hf).shape (ztL hf hm) hp,zzh (zeP (ztL hf hm))⟩
@[simp] abbrev zrh (h:Host)(m p:Int):Bool:=pc (Fit h/\hasB m (ln h.Mons)=true/\hasB p 8=true)
@[simp] abbrev zsV (h:Host)(m p:Int):Host:=fetched h m p
def zrG:List AV->Option (Bool×List AV)
 | [.agg [.s (.sl .int) b,.s .mon c,.s .entry d,.s .entry e],.one (.i .i64 f),.one (.i .i64 g)]=>some ((zrh (⟨b,c,d,e⟩:Host) f g),[aH (zsV (⟨b,c,d,e⟩:Host) f g)])
 | _=>none
def zvx (N:Nat)(a0:Host)(a1 a2:Int):OA :=
 let y6:=(ix (zd9 a0) 0 0);let y2:=(ix a0.Mons a1 zf);let y0:=(ztZ a0 (ze0 a0 0) (zf8 a0 0));let y5:=(ix (zd9 y0) 0 0);let y1:=(ix y0.Mons a1 zf); (oN (zi0 a0) (cond (ieq (ln (zd9 a0)) 0) (oN (zhW a0 0) (oN (zoS a0 (ze0 a0 0) (zf8 a0 0)) (oN (zi0 y0) (oN (inb 0 (ln (zd9 y0))) (oN (inb a1 (ln y0.Mons)) (oN (inb a2 (ln y1.Out)) (oN (zio y0.Memory y5 (ix y1.Out a2 [])) (oN (inb a1 (ln y0.Mons)) (oN (inb a2 (ln y1.Out)) (share (up y0.Mons a1 ({ y1 with Out:=(up y1.Out a2 []) }:Mon)) (fun x4=>let y3:=({ y0 with Memory:=(zg9 y0.Memory y5 (ix y1.Out a2 [])),Mons:=x4 }:Host); (oN (zdZ y3 a1 a2 (⟨y5,3⟩:Slot)) (some [(aH (zfp y3 a1 a2 (⟨y5,3⟩:Slot)))]))))))))))))) (oN (zi0 a0) (oN (inb 0 (ln (zd9 a0))) (oN (inb a1 (ln a0.Mons)) (oN (inb a2 (ln y2.Out)) (oN (zio a0.Memory y6 (ix y2.Out a2 [])) (oN (inb a1 (ln a0.Mons)) (oN (inb a2 (ln y2.Out)) (share (up a0.Mons a1 ({ y2 with Out:=(up y2.Out a2 []) }:Mon)) (fun x4=>let y4:=({ a0 with Memory:=(zg9 a0.Memory y6 (ix y2.Out a2 [])),Mons:=x4 }:Host); (oN (zdZ y4 a1 a2 (⟨y6,3⟩:Slot)) (some [(aH (zfp y4 a1 a2 (⟨y6,3⟩:Slot)))])))))))))))))
theorem zO7 (N:Nat)(a0:Host)(a1 a2:Int):zxy (cQ zB1 zwj zTl zTQ) (zA []) N 12 98 [true,true,true,true,false,false] 1 1 [[0],[1],[2],[4],[7]] .mon [aH a0,aI a1,aI a2]=zvx N a0 a1 a2:=by kernel_rfl
theorem zMt (a0:Host)(a1 a2:Int)(hb:zci big [aH a0,aI a1,aI a2])(hc:(zrh a0 a1 a2)=true):∃N,zvx N a0 a1 a2=some [aH (zsV a0 a1 a2)]:=by
 obtain ⟨hf,hm,hp⟩:=zJ.1 hc;have tail:∀r,Shape r->inb 0 (ln (zcp r))=true->hasB a1 (ln r.Mons)=true->(cond (zi0 r) (cond (inb 0 (ln (zd9 r))) (cond (inb a1 (ln r.Mons)) (cond (inb a2 (ln (ix r.Mons a1 zf).Out)) (cond (zio r.Memory (ix (zd9 r) 0 0) (ix (ix r.Mons a1 zf).Out a2 [])) (cond (inb a1 (ln r.Mons)) (cond (inb a2 (ln (ix r.Mons a1 zf).Out)) (share (up r.Mons a1 ({ (ix r.Mons a1 zf) with Out:=(up (ix r.Mons a1 zf).Out a2 []) }:Mon)) (fun x4=>(cond (zdZ ({ r with Memory:=(zg9 r.Memory (ix (zd9 r) 0 0) (ix (ix r.Mons a1 zf).Out a2 [])),Mons:=x4 }:Host) a1 a2 (⟨(ix (zd9 r) 0 0),3⟩:Slot)) (some [(AV.agg (zbE (zfp ({ r with Memory:=(zg9 r.Memory (ix (zd9 r) 0 0) (ix (ix r.Mons a1 zf).Out a2 [])),Mons:=x4 }:Host) a1 a2 (⟨(ix (zd9 r) 0 0),3⟩:Slot))))]) none))) none) none) none) none) none) none) none)=some [AV.agg (zbE (zfh r a1 a2 (ix (zcp r) 0 0)))]:=by
  intro r hr hfree hrm;obtain ⟨g1,g2⟩:=zdh hr hrm;have hL:=zu1 (to:=ix (zcp r) 0 0) hr hrm hp;obtain ⟨k,rfl,hk⟩:=zex (n:=r.Mons.length) hrm;refine must (zbO hr.1.1.1) (must hfree (must (zx hrm) (must (zx (zeX g2.2.1 hp)) (must (zbO ⟨hr.1.1,zRT hr hrm hp⟩) (must (zx hrm) (must (zx (zeX g2.2.1 hp)) (shr (must (zbO ⟨(zO _).2 hL.1,zeP hrm,?_,?_⟩) rfl))))))))
  ·simp only [zeY hk];exact zeX g2.1 hp
  ·simp only [zeY hk];exact Nat.le_of_eq g2.2.2.2
 have hR:=room hf;have hrm:=ztL hf hm;refine ⟨0,?_⟩;unfold zvx zsV fetched oN
 conv=>zeta
 refine must (zbO hf.1.1.1.1) ?_;cases h0:ieq (ln (zd9 a0)) 0
 ·have er:zd8 a0=a0:=by unfold zd8;rw [show ieq (ln (zcp a0)) 0=false from h0];rfl
  rw [er] at hR hrm ⊢;exact tail a0 hR.shape hR.free hrm
 ·obtain ⟨o1,o2⟩:=zFD hf h0;have er:zd8 a0=zc5 a0 (zbt a0 0).1 (zbt a0 0).2:=by unfold zd8;rw [show ieq (ln (zcp a0)) 0=true from h0];rfl
  rw [er] at hR hrm ⊢;exact must rfl (must rfl (must (zbO ⟨hf.1,o1,o2⟩) (tail _ hR.shape hR.free hrm)))
theorem zHu:zdd Tryz.prog 98 [true,true,true,true,false,false] (some (1,1,[[0],[1],[2],[4],[7]])) zrG:=by
 refine ziK (kt:=.mon) (zda zpg zy zNF zNZ) (zeW (by kernel_rfl)) (by kernel_rfl) ?_
 intro avs rs hl hr h;have hb:=zgv hr;unfold zrG at h;split at h
 ·obtain ⟨hc,rfl⟩:=zdi h;obtain ⟨N,hN⟩:=zMt _ _ _ (by exact hb) hc
  exact ⟨⟨_,rfl⟩,rfl,_,N,12,(zO7 N _ _ _ ).trans hN⟩
 ·cases h
def zXm:zc7:=zTl
theorem zWo:zct zXm:=zNF
def zTR:zew:=[(98,([true,true,true,true,false,false],(some (1,1,[[0],[1],[2],[4],[7]])),zrG))]++zTQ
theorem zN0:zdC zTR:=zmD zNZ (by
 intro x hx;simp only [List.mem_cons,List.not_mem_nil,or_false] at hx;rcases hx with rfl
 ·exact zHu)
def zTm:zc7:=zXm
theorem zNG:zct zTm:=zWo
def zbQ (h:Host)(m p:Int):Host:={ h with Mons:=up h.Mons m { ix h.Mons m mZ with Dirty:=up (ix h.Mons m mZ).Dirty p true } }
def opened (h:Host)(m p:Int):Host:=bif ieq (wand .i64 (ix (ix h.Mons m mZ).Outer p sZ).Rights 2) 0 then zbX h m p ⟨(ix (ix h.Mons m mZ).Outer p sZ).Page,3⟩ else h
def ziP (h:Host)(m p n:Int):Host:=bif ieq (wand .i64 n 2) 0 then h else opened (zbQ h m p) m p
def mended (h:Host)(m p n:Int):Host:=bif ieq (ix (ix h.Mons m mZ).Outer p sZ).Page (-1) then ziP (fetched h m p) m p n else ziP h m p n
structure SlotFit (s:Slot):Prop where
 no:zcz s noSlot=ieq s.Page (-1)
 lo:0<=s.Rights
 hi:s.Rights<=3
theorem zPE {s:Slot}{n:Int}(h:zds s n=true):SlotFit s:=by
 refine ⟨zG6 h,?_,?_⟩<;>unfold zds at h<;>cases h1:zcz s noSlot
 ·rw [h1] at h;simp only [cF,zcw] at h;have:=(ze5.1 h.2.2).1;omega
 ·unfold zcz at h1;rw [Bool.and_eq_true] at h1;have:s.Rights=0:=of_decide_eq_true h1.2;omega
 ·rw [h1] at h;simp only [cF,zcw] at h;have:=(ze5.1 h.2.2).2;omega
 ·unfold zcz at h1;rw [Bool.and_eq_true] at h1;have:s.Rights=0:=of_decide_eq_true h1.2;omega
theorem zol {h:Host}{m p:Int}(hs:Shape h)(hm:hasB m (ln h.Mons)=true):Shape (zbQ h m p):=by
 obtain ⟨g1,g2⟩:=zdh hs hm;exact zki hs ⟨g1.1,g1.2.1,by simpa using g1.2.2.1,g1.2.2.2⟩ ⟨g2.1,g2.2.1,by simpa using g2.2.2.1,g2.2.2.2⟩
theorem zLg {h:Host}{m p:Int}(hs:Shape h)(hm:hasB m (ln h.Mons)=true):Shape (opened h m p)/\hasB m (ln (opened h m p).Mons)=true:=by
 unfold opened;cases ieq (wand .i64 (ix (ix h.Mons m mZ).Outer p sZ).Rights 2) 0
 ·exact ⟨hs,hm⟩
 ·exact ⟨zom hm hs,zzh hm⟩
theorem zzN {h:Host}{m p n:Int}(hs:Shape h)(hm:hasB m (ln h.Mons)=true):Shape (ziP h m p n)/\hasB m (ln (ziP h m p n).Mons)=true:=by
 unfold ziP;cases ieq (wand .i64 n 2) 0
 ·exact zLg (zol hs hm) (zeP hm)
 ·exact ⟨hs,hm⟩
theorem zpX {h:Host}{m p n:Int}(hf:Fit h)(hm:hasB m (ln h.Mons)=true)(hp:hasB p 8=true):Shape (mended h m p n)/\hasB m (ln (mended h m p n).Mons)=true:=by
 unfold mended;cases ieq (ix (ix h.Mons m mZ).Outer p sZ).Page (-1)
 ·exact zzN hf.1 hm
 ·obtain ⟨h1,h2⟩:=zjZ hf hm hp;exact zzN h1 h2
def zPR (h:Host)(m p n:Int):Prop:=Fit h/\hasB m (ln h.Mons)=true/\hasB p 8=true/\(n=1\/n=2)/\SlotFit (ix (ix h.Mons m mZ).Outer p sZ)
@[simp] abbrev zjM (h:Host)(m p n:Int):Bool:=pc (zPR h m p n)
@[simp] abbrev zkB (h:Host)(m p n:Int):Host:=mended h m p n
def zoa:List AV->Option (Bool×List AV)
 | [.agg [.s (.sl .int) b,.s .mon c,.s .entry d,.s .entry e],.one (.i .i64 f),.one (.i .i64 g),.one (.i .i64 h)]=>some ((zjM (⟨b,c,d,e⟩:Host) f g h),[aH (zkB (⟨b,c,d,e⟩:Host) f g h)])
 | _=>none
def zro (N:Nat)(a0:Host)(a1 a2 a3:Int):OA :=
 let y3:=(zsV a0 a1 a2);let y6:=(ix y3.Mons a1 zf);let y0:=(ix a0.Mons a1 zf);let y7:=(ix y0.Outer a2 zX); (oN (inb a1 (ln a0.Mons)) (oN (inb a2 (ln y0.Outer)) (oN zb2 (cond (cond (ieq y7.Page zbg.Page) (ieq y7.Rights zbg.Rights) false) (oN (zrh a0 a1 a2) (cond (ieq (wand .i64 a3 2) 0) (some [(aH y3)]) (oN (inb a1 (ln y3.Mons)) (oN (inb a2 (ln y6.Dirty)) (share (up y3.Mons a1 ({ y6 with Dirty:=(up y6.Dirty a2 true) }:Mon)) (fun x5=>let y8:=(ix x5 a1 zf).Outer;let y4:=({ y3 with Mons:=x5 }:Host);let y1:=(ix y8 a2 zX);let y9:=({ y1 with Rights:=3 }:Slot); (oN (inb a1 (ln x5)) (oN (inb a2 (ln y8)) (cond (ieq (wand .i64 y1.Rights 2) 0) (oN (zdZ y4 a1 a2 y9) (some [(aH (zfp y4 a1 a2 y9))])) (some [(aH y4)])))))))))) (cond (ieq (wand .i64 a3 2) 0) (some [(aH a0)]) (oN (inb a1 (ln a0.Mons)) (oN (inb a2 (ln y0.Dirty)) (share (up a0.Mons a1 ({ y0 with Dirty:=(up y0.Dirty a2 true) }:Mon)) (fun x5=>let y10:=(ix x5 a1 zf).Outer;let y5:=({ a0 with Mons:=x5 }:Host);let y2:=(ix y10 a2 zX);let y11:=({ y2 with Rights:=3 }:Slot); (oN (inb a1 (ln x5)) (oN (inb a2 (ln y10)) (cond (ieq (wand .i64 y2.Rights 2) 0) (oN (zdZ y5 a1 a2 y11) (some [(aH (zfp y5 a1 a2 y11))])) (some [(aH y5)])))))))))))))
theorem zKM (N:Nat)(a0:Host)(a1 a2 a3:Int):zxy (cQ zB1 zwj zTm zTR) (zA []) N 12 85 [true,true,true,true,false,false,false] 1 1 [[0],[1],[2],[4],[7]] .mon [aH a0,aI a1,aI a2,aI a3]=zro N a0 a1 a2 a3:=by kernel_rfl
theorem zH9 (a0:Host)(a1 a2 a3:Int)(hb:zci big [aH a0,aI a1,aI a2,aI a3])(hc:(zjM a0 a1 a2 a3)=true):∃N,zro N a0 a1 a2 a3=some [aH (zkB a0 a1 a2 a3)]:=by
 obtain ⟨hf,hm,hp,hn,hs⟩:=zJ.1 hc;obtain ⟨g1,g2⟩:=zdh hf.1 hm;have tail:∀r,Shape r->hasB a1 (ln r.Mons)=true->(cond (ieq (wand .i64 a3 2) 0) (some [(AV.agg (zbE r))]) (cond (inb a1 (ln r.Mons)) (cond (inb a2 (ln (ix r.Mons a1 zf).Dirty)) (share (up r.Mons a1 ({ (ix r.Mons a1 zf) with Dirty:=(up (ix r.Mons a1 zf).Dirty a2 true) }:Mon)) (fun x5=>(cond (inb a1 (ln x5)) (cond (inb a2 (ln (ix x5 a1 zf).Outer)) (cond (ieq (wand .i64 (ix (ix x5 a1 zf).Outer a2 zX).Rights 2) 0) (cond (zdZ ({ r with Mons:=x5 }:Host) a1 a2 ({ (ix (ix x5 a1 zf).Outer a2 zX) with Rights:=3 }:Slot)) (some [(AV.agg (zbE (zfp ({ r with Mons:=x5 }:Host) a1 a2 ({ (ix (ix x5 a1 zf).Outer a2 zX) with Rights:=3 }:Slot))))]) none) (some [(AV.agg (zbE ({ r with Mons:=x5 }:Host)))])) none) none))) none) none))=some [AV.agg (zbE (ziP r a1 a2 a3))]:=by
  intro r hr hrm;obtain ⟨q1,q2⟩:=zdh hr hrm;have hD:=zol (p:=a2) hr hrm;unfold ziP;cases h0:ieq (wand .i64 a3 2) 0
  ·obtain ⟨k,rfl,hk⟩:=zex (n:=r.Mons.length) hrm;have ex:ix (zbQ r (k:Int) a2).Mons (k:Int) mZ={ ix r.Mons (k:Int) mZ with Dirty:=up (ix r.Mons (k:Int) mZ).Dirty a2 true }:=zeY hk _ _;refine zdx rfl (must (zx hrm) (must (zx (zeX q2.2.2.1 hp)) (shr (must (zx (zeP hrm)) (must ?_ ?_)))))
   ·rw [zeY hk];exact zx (zeX q2.1 hp)
   ·unfold opened
    show (cond (ieq (wand .i64 (ix (ix (zbQ r (k:Int) a2).Mons (k:Int) mZ).Outer a2 sZ).Rights 2) 0) _ _)=_
    cases h1:ieq (wand .i64 (ix (ix (zbQ r (k:Int) a2).Mons (k:Int) mZ).Outer a2 sZ).Rights 2) 0
    ·rfl
    ·refine must rfl (must (zbO ⟨(zO _).2 hD.1,zeP hrm,?_,?_⟩) rfl)
     ·show hasB a2 (ln (ix (zbQ r (k:Int) a2).Mons (k:Int) mZ).Outer)=true
      rw [ex];exact zeX q2.1 hp
     ·show (ix (zbQ r (k:Int) a2).Mons (k:Int) mZ).Tables.length<=(ix (zbQ r (k:Int) a2).Mons (k:Int) mZ).Guests.length
      rw [ex];exact Nat.le_of_eq q2.2.2.2
  ·rfl
 refine ⟨0,?_⟩;unfold zro zkB mended oN
 conv=>zeta
 refine must (zx hm) (must (zx (zeX g2.1 hp)) (must rfl ?_));have e:(cond (ieq (ix (ix a0.Mons a1 mZ).Outer a2 sZ).Page zbg.Page) (ieq (ix (ix a0.Mons a1 mZ).Outer a2 sZ).Rights zbg.Rights) false)=ieq (ix (ix a0.Mons a1 mZ).Outer a2 sZ).Page (-1):=by
  rw [<- hs.no];unfold zcz zbg;cases ieq (ix (ix a0.Mons a1 mZ).Outer a2 sZ).Page noSlot.Page<;>rfl
 rw [e];cases h0:ieq (ix (ix a0.Mons a1 mZ).Outer a2 sZ).Page (-1)
 ·exact tail a0 hf.1 hm
 ·obtain ⟨h1,h2⟩:=zjZ (p:=a2) hf hm hp;exact must rfl (must (zbO ⟨hf,hm,hp⟩) (tail _ h1 h2))
theorem zCV:zdd Tryz.prog 85 [true,true,true,true,false,false,false] (some (1,1,[[0],[1],[2],[4],[7]])) zoa:=by
 refine ziK (kt:=.mon) (zda zpg zy zNG zN0) (zeW (by kernel_rfl)) (by kernel_rfl) ?_
 intro avs rs hl hr h;have hb:=zgv hr;unfold zoa at h;split at h
 ·obtain ⟨hc,rfl⟩:=zdi h;obtain ⟨N,hN⟩:=zH9 _ _ _ _ (by exact hb) hc
  exact ⟨⟨_,rfl⟩,rfl,_,N,12,(zKM N _ _ _ _ ).trans hN⟩
 ·cases h
def zPm:zc7:=zTm
theorem zbT:zct zPm:=zNG
def zPM:zew:=[(85,([true,true,true,true,false,false,false],(some (1,1,[[0],[1],[2],[4],[7]])),zoa))]++zTR
theorem zFL:zdC zPM:=zmD zN0 (by
 intro x hx;simp only [List.mem_cons,List.not_mem_nil,or_false] at hx;rcases hx with rfl
 ·exact zCV)
theorem zOU {h:Host}(hh:zbN h=true):h.Memory.length=12:=by
 unfold zbN at hh;simp only [zcw] at hh;have h1:=hh.1;unfold ziO at h1;simp only [zcw] at h1;have:ln h.Memory=12:=of_decide_eq_true h1.2;simp only [ln] at this;omega
theorem zfj {h:Host}(hh:zbN h=true):∀x∈h.Mons,zd7 x=true:=by
 unfold zbN at hh;simp only [zcw] at hh;exact ztu _ _ hh.2.2.2.2
theorem zAY {x:Mon}(hk:zd7 x=true):ShM x:=by
 have ho:=zrm (zmX hk);unfold zd7 at hk;simp only [zcw] at hk;have e1:ln x.Tables=ln x.Guests:=of_decide_eq_true hk.2.1;have e2:ln x.Out=8:=of_decide_eq_true hk.2.2.2.1;have e3:ln x.Dirty=8:=of_decide_eq_true hk.2.2.2.2.1;simp only [ln] at *;exact ⟨by omega,by omega,by omega,by omega⟩
theorem zd4 {h:Host}(hs:SmH h)(hh:zbN h=true):Fit h:=by
 refine ⟨⟨hs,fun x hx=>zAY (zfj hh x hx)⟩,by rw [zOU hh];decide,?_⟩
 unfold zbN at hh;simp only [zcw] at hh;have:=zJM _ _ rfl hh.2.2.2.2;omega
theorem zoD {x:Mon}(hk:zd7 x=true){p:Int}(hp:hasB p 8=true):SlotFit (ix x.Outer p sZ):=by
 have ht:=zmX hk;unfold zcI at ht;simp only [zcw] at ht;exact zPE (List.all_eq_true.1 ht.1 _ (zbj (zeX (zAY hk).1 hp) _))
theorem zL7 {h:Host}{m p:Int}(hf:Fit h)(hm:hasB m (ln h.Mons)=true):Fit (zbQ h m p):=by
 refine ⟨zol hf.1 hm,hf.2.1,?_⟩;obtain ⟨k,rfl,hk⟩:=zex (n:=h.Mons.length) hm;have:=zLS h.Mons k (ix h.Mons (k:Int) mZ) { ix h.Mons (k:Int) mZ with Dirty:=up (ix h.Mons (k:Int) mZ).Dirty p true } (by rw [zbF hk];exact List.getElem?_eq_getElem hk)
 have h3:=hf.2.2;unfold zbQ;simp only [up,Int.toNat_natCast]
 dsimp only at this
 simp only [up] at this;omega
abbrev gZ:Guest:=Ty.dflt .guest
def zbw (h:Host)(m g:Int):Bool:=bif zbN h then (cond (hasB m (ln h.Mons)) (hasB g (ln (ix h.Mons m mZ).Guests)) false) else false
@[simp] abbrev zfr (h:Host)(m g:Int):Bool:=pc (zb3 h)
@[simp] abbrev zgK (h:Host)(m g:Int):Bool:=zbw h m g
def zzI:Run:=rF3 dH dI dI (fun b c d=>((zfr b c d),[aB (zgK b c d)]))
def zGd (N:Nat)(a0:Host)(a1 a2:Int):OA :=
 let y0:=(wsub .i64 (ln (ix a0.Mons a1 zf).Guests) 1); (oN (zeb a0) (cond (zea a0) (oN (zF a1 0 (wsub .i64 (ln a0.Mons) 1)) (cond (zI a1 0 (wsub .i64 (ln a0.Mons) 1)) (oN (inb a1 (ln a0.Mons)) (oN (zF a2 0 y0) (some [(aB (zI a2 0 y0))]))) oF)) oF))
theorem zMv (a0:Host)(a1 a2:Int)(hc:(zfr a0 a1 a2)=true):∃N,zGd N a0 a1 a2=some [aB (zgK a0 a1 a2)]:=by
 have hs:=(zO a0).1 (zJ.1 hc);refine ⟨0,?_⟩;unfold zGd zgK zbw oN
 conv=>zeta
 refine must rfl ?_;rw [show zea a0=zbN a0 from rfl]
 cases hh:zbN a0
 ·rfl
 ·rw [show zI a1 0 (wsub .i64 (ln a0.Mons) 1)=hasB a1 (ln a0.Mons) from zmF hs.2.1.1 a1]
  refine must rfl (must rfl ?_);cases h1:hasB a1 (ln a0.Mons)
  ·rfl
  ·have hg:(ix a0.Mons a1 mZ).Guests.length<=1048576:=(hs.2.1.2 _ (zbj h1 _)).2.2.2.1.1;rw [show zI a2 0 (wsub .i64 (ln (ix a0.Mons a1 zf).Guests) 1)=hasB a2 (ln (ix a0.Mons a1 mZ).Guests) from zmF hg a2]
   exact must rfl (must (zx h1) (must rfl rfl))
theorem zHw:Holds Tryz.prog 66 zzI:=kF3 zpg zy zbT zFL (zA []) zMv
def zb7 (h:Host)(m:Int):Nat->Nat->List (List Int)
 | 0,_=>[]
 | n+1,i=>zcu h m (i:Int) :: zb7 h m n (i+1)
theorem ztI (h:Host)(m:Int):∀(n i:Nat),(zb7 h m n i).length=n
 | 0,_=>rfl
 | n+1,i=>by simp [zb7,ztI h m n]
def zo (h:Host)(m:Int):Bare:=bif hasB m (ln h.Mons) then ⟨zb7 h m 8 0,(ix h.Mons m mZ).Guests,(ix h.Mons m mZ).Outs,(ix h.Mons m mZ).Pending⟩ else ⟨[],[],[],0⟩
def zUN:zS:=[(66,zzI)]++zB1
theorem zSG:zD zUN:=zk zHw zpg
theorem zMI:zcr zt7=true:=by decide
theorem zNb {p:Nat->Bool}:∀{n i q:Nat},zlS p n i=true->i<=q->q<i+n->p q=true
 | 0,i,q,_,h1,h2=>by omega
 | n+1,i,q,h,h1,h2=>by
  simp only [zlS,Bool.and_eq_true] at h
  by_cases he:i=q
  ·subst he;exact h.1
  ·exact zNb h.2 (by omega) (by omega)
theorem zRn {h:Host}{m:Int}(hh:zbN h=true)(hm:hasB m (ln h.Mons)=true){p:Int}(hp:hasB p 8=true):zcr (zcu h m p)=true:=by
 have hk:=zfj hh _ (zbj hm mZ);have hsh:=zAY hk;have hmem:h.Memory.all zcr=true:=by
  unfold zbN at hh;simp only [zcw] at hh;have h1:=hh.1;unfold ziO at h1;simp only [zcw] at h1;exact h1.1
 unfold zcu;rw [hm,hp];simp only [cT];have hsl:zbh (ix h.Mons m mZ).Outer p=ix (ix h.Mons m mZ).Outer p sZ:=by
  unfold zbh;rw [zeX hsh.1 hp];rfl
 rw [hsl];have hAt:∀(mm:List (List Int)) (q:Int),(hasB q (ln mm)=true->zcr (ix mm q [])=true)->zcr (zb4 mm q)=true:=by
  intro mm q hq;unfold zb4;cases h1:hasB q (ln mm)
  ·exact zMI
  ·exact hq h1
 cases hpg:ine (ix (ix h.Mons m mZ).Outer p sZ).Page (-1)
 ·refine hAt _ _ (fun hq=>?_);obtain ⟨q,rfl,hq8⟩:=zex (n:=8) hp;have hfit:fits (ix h.Mons m mZ) q=true:=by
   unfold zd7 at hk;simp only [zcw] at hk;exact zNb hk.2.2.2.2.2.2.2.2.2.2 (by omega) (by omega)
  unfold fits zku at hfit;have hno:zcz (ix (ix h.Mons m mZ).Outer (q:Int) sZ) noSlot=true:=by
   rw [(zoD (zfj hh _ (zbj hm mZ)) hp).no];rw [zxG] at hpg;cases h1:ieq (ix (ix h.Mons m mZ).Outer (q:Int) sZ).Page (-1)
   ·rw [h1] at hpg;cases hpg
   ·rfl
  rw [hno] at hfit;exact hfit
 ·exact hAt _ _ (fun hq=>List.all_eq_true.1 hmem _ (zbj hq _))
theorem zGU {h:Host}{m:Int}(hh:zbN h=true)(hm:hasB m (ln h.Mons)=true):∀(n i:Nat),i+n<=8->(zb7 h m n i).all zcr=true
 | 0,_,_=>rfl
 | n+1,i,hi=>by
  simp only [zb7,List.all_cons,Bool.and_eq_true];exact ⟨zRn hh hm (decide_eq_true (by omega)),zGU hh hm n (i+1) (by omega)⟩
theorem zy6 {h:Host}{m:Int}(hh:zbN h=true)(hm:hasB m (ln h.Mons)=true):zbJ (zo h m)=true:=by
 have hk:=zfj hh _ (zbj hm mZ);unfold zd7 at hk;simp only [zcw] at hk;unfold zo zbJ ziO;rw [hm];simp only [cT,hk.2.2.2.2.2.2.2.2.2.1,zGU hh hm 8 0 (by decide),ln,ztI]
 simp only [ln] at hk;rw [hk.1,hk.2.2.2.2.2.1,hk.2.2.2.2.2.2.1];rfl
def zjP:zS:=zUN
theorem zgi:zD zjP:=zSG
def zde (l:List Mon):List (List Guest):=l.map fun x=>x.Guests
theorem ztt {l:List Mon}{m:Int}{x:Mon}(hm:hasB m (ln l)=true)(hx:x.Guests=(ix l m mZ).Guests):zde (up l m x)=zde l:=by
 obtain ⟨k,rfl,hk⟩:=zex (n:=l.length) hm;unfold zde up;rw [List.map_set,Int.toNat_natCast,hx,zbF hk];have:=@List.set_getElem_self _ (l.map fun x=>x.Guests) k (by simpa using hk)
 simpa using this
theorem zCm {l l':List Mon}(h:zde l'=zde l)(m:Int):(ix l' m mZ).Guests=(ix l m mZ).Guests:=by
 unfold zde at h;have h2:(l'.map fun x=>x.Guests)[m.toNat]?=(l.map fun x=>x.Guests)[m.toNat]?:=by rw [h]
 rw [List.getElem?_map,List.getElem?_map] at h2;unfold ix;simp only [List.getD_eq_getElem?_getD];cases h3:l'[m.toNat]? <;> cases h4:l[m.toNat]? <;> rw [h3,h4] at h2<;>simp at h2 ⊢;exact h2
theorem zts {h:Host}{m p:Int}{s:Slot}(hm:hasB m (ln h.Mons)=true):zde (zbX h m p s).Mons=zde h.Mons:=by
 rw [(zfJ h m p s).1];exact ztt hm rfl
theorem zVZ {h:Host}{m p:Int}(hm:hasB m (ln h.Mons)=true):zde (zc5 h m p).Mons=zde h.Mons:=(zts (h:=ziR h m p) (zeP hm)).trans (ztt hm rfl)
theorem zVY {h:Host}(hf:Fit h):zde (zd8 h).Mons=zde h.Mons:=by
 unfold zd8;cases h0:ieq (ln (zcp h)) 0
 ·rfl
 ·exact zVZ (zFD hf h0).1
theorem zOR {h:Host}{m p:Int}(hf:Fit h)(hm:hasB m (ln h.Mons)=true):zde (fetched h m p).Mons=zde h.Mons:=by
 have hr:=ztL hf hm;exact ((zts (h:=landing (zd8 h) m p (ix (zcp (zd8 h)) 0 0)) (zeP hr)).trans (ztt hr rfl)).trans (zVY hf)
theorem zJH {h:Host}{m p n:Int}(hm:hasB m (ln h.Mons)=true):zde (ziP h m p n).Mons=zde h.Mons:=by
 have hd:zde (zbQ h m p).Mons=zde h.Mons:=ztt hm rfl;unfold ziP;cases ieq (wand .i64 n 2) 0
 ·unfold opened;cases ieq (wand .i64 (ix (ix (zbQ h m p).Mons m mZ).Outer p sZ).Rights 2) 0
  ·exact hd
  ·exact (zts (h:=zbQ h m p) (zeP hm)).trans hd
 ·rfl
theorem zQP {h:Host}{m p n:Int}(hf:Fit h)(hm:hasB m (ln h.Mons)=true)(hp:hasB p 8=true):zde (mended h m p n).Mons=zde h.Mons:=by
 unfold mended;cases ieq (ix (ix h.Mons m mZ).Outer p sZ).Page (-1)
 ·exact zJH hm
 ·exact (zJH (zjZ hf hm hp).2).trans (zOR hf hm)
theorem zXf {l l':List Mon}(h:zde l'=zde l):l'.length=l.length:=by
 have:=congrArg List.length h;simpa [zde] using this
abbrev kZ:Kept:=Ty.dflt .kept
theorem zXY {x:Guest}(hk:zdB x=true){p n:Int}(hw:zel x.Live p n=true):hasB (zb5 x.Live p n) 8=true:=by
 have ht:zcI x.Live 4 8=true:=by
  unfold zdB at hk;simp only [Bool.and_eq_true] at hk;exact hk.2.2.2.2.1
 unfold zb5;rw [hw];simp only [cT];unfold zel at hw;cases h1:ieq (zbh x.Live p).Page (-1)
 ·unfold zbh at h1 ⊢;cases h2:hasB p (ln x.Live)
  ·rw [h2] at h1;cases h1
  ·rw [h2] at h1;simp only [cT] at h1 ⊢;unfold zcI at ht;simp only [zcw] at ht;have hs:=List.all_eq_true.1 ht.1 _ (zbj h2 sZ);unfold zds at hs;cases h3:zcz (ix x.Live p sZ) noSlot
   ·rw [h3] at hs;simp only [cF,zcw] at hs;have:=ze5.1 hs.2.1;rw [show wsub .i64 8 1=7 from rfl] at this
    show hasB (ix x.Live p sZ).Page 8=true
    exact decide_eq_true (by omega)
   ·unfold zcz at h3;rw [Bool.and_eq_true] at h3;have:(ix x.Live p sZ).Page = -1:=of_decide_eq_true h3.1;rw [show ieq (ix x.Live p zX).Page (-1)=true from decide_eq_true this] at h1
    cases h1
 ·rw [h1] at hw;cases hw
def zce (h:Host)(m g:Int):List Slot:=(ix (ix h.Mons m mZ).Guests g gZ).Live
def zbY (h:Host)(m g:Int):Kept:=ix (ix h.Mons m mZ).Tables g kZ
def znB (b:List Entry)(m g page:Int):Option Entry:=zxz b (zdN m g) page
def zfR (b:List Entry)(m g page need:Int):Bool:=bif (znB b m g page).isSome then enough ((znB b m g page).getD ⟨0,0,0,0⟩).Rights need else false
def zdV (h:Host)(m g page need:Int):Bool:=bif zia (zbY h m g) page then (cond (ieq (zd2 (zbY h m g) page).Page (-1)) true (!enough (zd2 (zbY h m g) page).Rights need)) else true
def zcW (h:Host)(m g page:Int):Host:={ h with Mons:=up h.Mons m { ix h.Mons m mZ with Tables:=up (ix h.Mons m mZ).Tables g (filled (zbY h m g) (zce h m g) (ix h.Mons m mZ).Outer page) } }
def zIz (h:Host)(m g page:Int):Entry:=⟨zdN m g,page,(zd2 (zbY h m g) page).Page,(zd2 (zbY h m g) page).Rights⟩
def zqC (h:Host)(m g page:Int)(io:Bool):Host:=bif io then { h with IoBuffer:=zpy h.IoBuffer (zIz h m g page) } else { h with Buffer:=zpy h.Buffer (zIz h m g page) }
def zf3 (h:Host)(m g page:Int)(io:Bool):Host×Int×Bool:=(zqC h m g page io,(zd2 (zbY h m g) page).Page,true)
def zf2 (h:Host)(b:List Entry)(m g page need q:Int)(io:Bool):Host×Int×Bool :=
 bif zfR b m g page need then (h,((znB b m g page).getD ⟨0,0,0,0⟩).Host,true)
 else (cond (zdV h m g page need) (zf3 (zcW (mended h m q need) m g page) m g page io) (zf3 h m g page io))
def zhi (need:Int):Bool:=bif ieq need 1 then true else ieq need 2
def zbG (h:Host)(m g page need:Int):Bool:=bif zbw h m g then (cond (zhi need) (zel (zce h m g) page need) false) else false
def lookOf (h:Host)(b:List Entry)(m g page need:Int)(io:Bool):Host×Int×Bool :=
 bif zbG h m g page need then zf2 (cond (ieq need 2) (zbQ h m (zb5 (zce h m g) page need)) h) b m g page need (zb5 (zce h m g) page need) io else (h,-1,false)
structure Kp (h r:Host):Prop where
 shape:Shape r
 gs:zde r.Mons=zde h.Mons
theorem Kp.has {h r:Host}(k:Kp h r){m:Int}(hm:hasB m (ln h.Mons)=true):hasB m (ln r.Mons)=true:=by
 rw [ln,zXf k.gs];exact hm
theorem zPB {h:Host}{m g page:Int}(hs:Shape h)(hm:hasB m (ln h.Mons)=true)(hg:hasB g (ln (ix h.Mons m mZ).Guests)=true):Shape (zcW h m g page):=by
 obtain ⟨g1,g2⟩:=zdh hs hm;have ht:hasB g (ln (ix h.Mons m mZ).Tables)=true:=by rw [ln,g2.2.2.2];exact hg
 exact zki hs ⟨g1.1,g1.2.1,g1.2.2.1,g1.2.2.2.1,g1.2.2.2.2.1,zsX g1.2.2.2.2.2 (zPH (g1.2.2.2.2.2.2 _ (zbj ht _)))⟩ ⟨g2.1,g2.2.1,g2.2.2.1,by simpa using g2.2.2.2⟩
theorem zQY {h r:Host}{m g page:Int}{io:Bool}(k:Kp h r):Kp h (zqC r m g page io):=by
 obtain ⟨⟨h1,h2,h3,h4⟩,h5⟩:=k.shape;unfold zqC;cases io
 ·exact ⟨⟨⟨h1,h2,(zA4 _ h3).1,h4⟩,h5⟩,k.gs⟩
 ·exact ⟨⟨⟨h1,h2,h3,(zA4 _ h4).1⟩,h5⟩,k.gs⟩
structure LookAt (h:Host) (m g q need:Int):Prop where
 fit:Fit h
 hm:hasB m (ln h.Mons)=true
 hg:hasB g (ln (ix h.Mons m mZ).Guests)=true
 hq:hasB q 8=true
 hn:need=1\/need=2
 hs:SlotFit (ix (ix h.Mons m mZ).Outer q sZ)
theorem LookAt.mend {h:Host}{m g q need:Int}(A:LookAt h m g q need):zPR h m q need:=⟨A.fit,A.hm,A.hq,A.hn,A.hs⟩
theorem LookAt.kp {h:Host}{m g q need:Int}(A:LookAt h m g q need):Kp h (mended h m q need):=⟨(zpX A.fit A.hm A.hq).1,zQP A.fit A.hm A.hq⟩
theorem LookAt.fill {h:Host}{m g q need:Int}(A:LookAt h m g q need)(page:Int):Kp h (zcW (mended h m q need) m g page):=by
 have k:=A.kp;have hg:hasB g (ln (ix (mended h m q need).Mons m mZ).Guests)=true:=by rw [zCm k.gs];exact A.hg
 have e:zde (zcW (mended h m q need) m g page).Mons=zde (mended h m q need).Mons:=ztt (k.has A.hm) rfl;exact ⟨zPB k.shape (k.has A.hm) hg,e.trans k.gs⟩
theorem zJS {h:Host}{b:List Entry}{m g page need q:Int}{io:Bool}(A:LookAt h m g q need):Kp h (zf2 h b m g page need q io).1:=by
 unfold zf2;cases zfR b m g page need
 ·cases zdV h m g page need
  ·exact zQY ⟨A.fit.1,rfl⟩
  ·exact zQY (A.fill page)
 ·exact ⟨A.fit.1,rfl⟩
theorem zcQ {h:Host}{m g:Int}(hh:zbw h m g=true):zbN h=true/\hasB m (ln h.Mons)=true/\hasB g (ln (ix h.Mons m mZ).Guests)=true:=by
 unfold zbw at hh;simp only [zcw] at hh;exact hh
theorem zOS {h:Host}{m g:Int}(hh:zbw h m g=true):zdB (ix (ix h.Mons m mZ).Guests g gZ)=true:=by
 obtain ⟨h1,h2,h3⟩:=zcQ hh;have hk:=zfj h1 _ (zbj h2 mZ);unfold zd7 at hk;simp only [zcw] at hk;exact List.all_eq_true.1 hk.2.2.2.2.2.2.2.2.2.1 _ (zbj h3 _)
theorem zDl {n:Int}(h:zhi n=true):n=1\/n=2:=by
 unfold zhi at h;cases h1:ieq n 1
 ·rw [h1] at h;exact .inr (of_decide_eq_true h)
 ·exact .inl (of_decide_eq_true h1)
theorem zGH {h:Host}{m g page need:Int}(hs:SmH h)(hh:zbG h m g page need=true) :
 LookAt h m g (zb5 (zce h m g) page need) need/\LookAt (zbQ h m (zb5 (zce h m g) page need)) m g (zb5 (zce h m g) page need) need:=by
 unfold zbG at hh;simp only [zcw] at hh;obtain ⟨h1,h2,h3⟩:=hh;obtain ⟨g1,g2,g3⟩:=zcQ h1;have hq:hasB (zb5 (zce h m g) page need) 8=true:=zXY (zOS h1) h3;have hsl:=zoD (zfj g1 _ (zbj g2 mZ)) hq;have hf:=zd4 hs g1;refine ⟨⟨hf,g2,g3,hq,zDl h2,hsl⟩,⟨zL7 hf g2,zeP g2,?_,hq,zDl h2,?_⟩⟩
 ·have e:zde (zbQ h m (zb5 (zce h m g) page need)).Mons=zde h.Mons:=ztt g2 rfl;rw [zCm e];exact g3
 ·obtain ⟨k,rfl,hk⟩:=zex (n:=h.Mons.length) g2;unfold zbQ;rw [zeY hk];exact hsl
theorem zsm {h:Host}{b:List Entry}{m g page need:Int}{io:Bool}(hs:SmH h)(hh:zbw h m g=true):Kp h (lookOf h b m g page need io).1:=by
 have hf:=zd4 hs (zcQ hh).1;unfold lookOf;cases h1:zbG h m g page need
 ·exact ⟨hf.1,rfl⟩
 ·obtain ⟨A,B⟩:=zGH hs h1;simp only [cT];cases ieq need 2
  ·exact zJS A
  ·have k:=zJS (b:=b) (page:=page) (io:=io) B;have e:zde (zbQ h m (zb5 (zce h m g) page need)).Mons=zde h.Mons:=ztt A.hm rfl;exact ⟨k.shape,k.gs.trans e⟩
def zFE (x:Host×Int×Bool):List AV:=[.agg (zbE x.1),.one (.i .i64 x.2.1),.one (.b x.2.2)]
theorem zks {h:Host}{b:List Entry}{m g page need:Int}{io:Bool}(hh:zbG h m g page need=false):lookOf h b m g page need io=(h,-1,false):=by
 unfold lookOf;rw [hh];rfl
theorem zwg {h:Host}{m g page need:Int}(hh:zbw h m g=false):zbG h m g page need=false:=by
 unfold zbG;rw [hh];rfl
theorem zV1 {h:Host}{m g:Int}(hh:zbN h=false):zbw h m g=false:=by
 unfold zbw;rw [hh];rfl
theorem zV2 {h:Host}{m g:Int}(hh:hasB m (ln h.Mons)=false):zbw h m g=false:=by
 unfold zbw;rw [hh];cases zbN h<;>rfl
theorem zV3 {h:Host}{m g:Int}(hh:hasB g (ln (ix h.Mons m mZ).Guests)=false):zbw h m g=false:=by
 unfold zbw;rw [hh];cases zbN h<;>cases hasB m (ln h.Mons)<;>rfl
theorem zV4 {h:Host}{m g:Int}(h1:zbN h=true)(h2:hasB m (ln h.Mons)=true)(h3:hasB g (ln (ix h.Mons m mZ).Guests)=true):zbw h m g=true:=by
 unfold zbw;rw [h1,h2,h3];rfl
structure LookF (r:Host) (m g:Int):Prop where
 hm:hasB m (ln r.Mons)=true
 hg:hasB g (ln (ix r.Mons m mZ).Guests)=true
 ht:hasB g (ln (ix r.Mons m mZ).Tables)=true
 hk:SmK (zbY r m g)
 hb:r.Buffer.length<=1048576
 hi:r.IoBuffer.length<=1048576
theorem zxJ {h r:Host}{m g:Int}(k:Kp h r)(hm:hasB m (ln h.Mons)=true)(hg:hasB g (ln (ix h.Mons m mZ).Guests)=true):LookF r m g:=by
 obtain ⟨g1,g2⟩:=zdh k.shape (k.has hm);have hg':hasB g (ln (ix r.Mons m mZ).Guests)=true:=by rw [zCm k.gs];exact hg
 have ht:hasB g (ln (ix r.Mons m mZ).Tables)=true:=by rw [ln,g2.2.2.2];exact hg'
 exact ⟨k.has hm,hg',ht,g1.2.2.2.2.2.2 _ (zbj ht _),k.shape.1.2.2.1,k.shape.1.2.2.2⟩
@[simp] abbrev zhO (h:Host)(b:List Entry)(m g page need:Int)(io:Bool):Bool:=pc (zb3 h)
@[simp] abbrev zd0 (h:Host)(b:List Entry)(m g page need:Int)(io:Bool):Host:=(lookOf h b m g page need io).1
@[simp] abbrev zhN (h:Host)(b:List Entry)(m g page need:Int)(io:Bool):Int:=(lookOf h b m g page need io).2.1
@[simp] abbrev zfq (h:Host)(b:List Entry)(m g page need:Int)(io:Bool):Bool:=(lookOf h b m g page need io).2.2
def zoc:List AV->Option (Bool×List AV)
 | [.agg [.s (.sl .int) c,.s .mon d,.s .entry e,.s .entry f],.one (.s .entry g),.one (.i .i64 h),.one (.i .i64 j),.one (.i .i64 k),.one (.i .i64 l),.one (.b m)]=>some ((zhO (⟨c,d,e,f⟩:Host) g h j k l m),[aH (zd0 (⟨c,d,e,f⟩:Host) g h j k l m),aI (zhN (⟨c,d,e,f⟩:Host) g h j k l m),aB (zfq (⟨c,d,e,f⟩:Host) g h j k l m)])
 | _=>none
abbrev zHc (u9_11:lM)(u9_12:lN)(u9_13:lE)(u9_14:lE)(u9_0:Int)(u9_5:Int)(u9_3:Int):Mon :=
 (ix (zkB (⟨u9_11,u9_12,u9_13,u9_14⟩:Host) u9_0 u9_5 u9_3).Mons u9_0 zf)
abbrev zHd (a0:Host)(a2 a3:Int)(a4 a5:Int):Int :=
 (zhn (ix (ix a0.Mons a2 zf).Guests a3 zq).Live a4 a5)
def zEa (N:Nat)(u11_0:Int)(u11_2:lM)(u11_3:lN)(u11_4:lE)(u11_5:lE):OA :=
 (some [(aH (⟨u11_2,u11_3,u11_4,u11_5⟩:Host)),(aI u11_0),(aB true)])
def zlQ (N:Nat)(u10_0:Int)(u10_1:Bool)(u10_2:Int)(u10_7:Int)(u10_8:Int)(u10_9:lM)(u10_10:lN)(u10_11:lE)(u10_12:lE)(u10_13:lM)(u10_14:lN)(u10_15:lE)(u10_16:lE):OA :=
 let y0:=(⟨u10_2,u10_0,u10_7,u10_8⟩:Entry); (share (fun (s11:(Int×(Int×(lM×(lN×(lE×(lE×(lM×(lN×(lE×(lE×Unit)))))))))))=>(zEa N s11.1 s11.2.2.1 s11.2.2.2.1 s11.2.2.2.2.1 s11.2.2.2.2.2.1)) (fun r11=>(cond u10_1 (oN (zlx u10_12 y0) (r11 (u10_7,(u10_8,(u10_9,(u10_10,(u10_11,((zlw u10_12 y0),(u10_13,(u10_14,(u10_15,(u10_16,())))))))))))) (oN (zlx u10_11 y0) (r11 (u10_7,(u10_8,(u10_9,(u10_10,((zlw u10_11 y0),(u10_12,(u10_13,(u10_14,(u10_15,(u10_16,())))))))))))))))
def znS (N:Nat)(u9_11:lM)(u9_12:lN)(u9_13:lE)(u9_14:lE)(u9_0:Int)(u9_5:Int)(u9_3:Int)(u9_1:Int)(u9_2:Int)(r10:((Int×(Bool×(Int×(Int×(Int×(Int×(Int×(Int×(Int×(lM×(lN×(lE×(lE×(lM×(lN×(lE×(lE×Unit))))))))))))))))))->OA)(u9_4:Bool)(u9_6:Int)(u9_7:Int)(u9_8:Int)(u9_9:Int)(u9_10:Int)(u9_15:lM)(u9_16:lN)(u9_17:lE)(u9_18:lE):OA :=
 let y7:=(⟨u9_11,u9_12,u9_13,u9_14⟩:Host);let y1:=(zkB y7 u9_0 u9_5 u9_3);let y3:=(inb u9_0 (ln y1.Mons));let y0:=(zHc u9_11 u9_12 u9_13 u9_14 u9_0 u9_5 u9_3);let y6:=(ix y0.Tables u9_1 zgO);let y4:=(ix y0.Guests u9_1 zq).Live; (oN (zjM y7 u9_0 u9_5 u9_3) (oN y3 (oN y3 (oN (inb u9_1 (ln y0.Tables)) (oN y3 (oN (inb u9_1 (ln y0.Guests)) (oN y3 (oN (zA6 y6 y4 y0.Outer u9_2) (oN (inb u9_1 (ln y0.Tables)) (share (up y1.Mons u9_0 ({ y0 with Tables:=(up y0.Tables u9_1 (zDI y6 y4 y0.Outer u9_2)) }:Mon)) (fun x11=>let y5:=(ix x11 u9_0 zf).Tables;let y2:=(ix y5 u9_1 zgO); (oN (inb u9_0 (ln x11)) (oN (inb u9_1 (ln y5)) (oN (zxO y2 u9_2) (r10 (u9_2,(u9_4,(u9_6,(u9_7,(u9_8,(u9_9,(u9_10,((zo5 y2 u9_2).Page,((zo5 y2 u9_2).Rights,(y1.Memory,(x11,(y1.Buffer,(y1.IoBuffer,(u9_15,(u9_16,(u9_17,(u9_18,()))))))))))))))))))))))))))))))))
def ziB (N:Nat)(u9_0:Int)(u9_1:Int)(u9_2:Int)(u9_3:Int)(u9_4:Bool)(u9_5:Int)(u9_6:Int)(u9_7:Int)(u9_8:Int)(u9_9:Int)(u9_10:Int)(u9_11:lM)(u9_12:lN)(u9_13:lE)(u9_14:lE)(u9_15:lM)(u9_16:lN)(u9_17:lE)(u9_18:lE):OA :=
 let y3:=(ix u9_12 u9_0 zf).Tables;let y0:=(ix y3 u9_1 zgO);let y2:=(zo5 y0 u9_2); (oN (inb u9_0 (ln u9_12)) (oN (inb u9_1 (ln y3)) (oN (zxO y0 u9_2) (share (fun (s10:(Int×(Bool×(Int×(Int×(Int×(Int×(Int×(Int×(Int×(lM×(lN×(lE×(lE×(lM×(lN×(lE×(lE×Unit))))))))))))))))))=>(zlQ N s10.1 s10.2.1 s10.2.2.1 s10.2.2.2.2.2.2.2.1 s10.2.2.2.2.2.2.2.2.1 s10.2.2.2.2.2.2.2.2.2.1 s10.2.2.2.2.2.2.2.2.2.2.1 s10.2.2.2.2.2.2.2.2.2.2.2.1 s10.2.2.2.2.2.2.2.2.2.2.2.2.1 s10.2.2.2.2.2.2.2.2.2.2.2.2.2.1 s10.2.2.2.2.2.2.2.2.2.2.2.2.2.2.1 s10.2.2.2.2.2.2.2.2.2.2.2.2.2.2.2.1 s10.2.2.2.2.2.2.2.2.2.2.2.2.2.2.2.2.1)) (fun r10=>let y1:=(znS N u9_11 u9_12 u9_13 u9_14 u9_0 u9_5 u9_3 u9_1 u9_2 r10 u9_4 u9_6 u9_7 u9_8 u9_9 u9_10 u9_15 u9_16 u9_17 u9_18); (cond (nB (zxN y0 u9_2)) y1 (cond (ieq y2.Page (-1)) y1 (oN (zfc y2.Rights u9_3) (cond (nB (zfN y2.Rights u9_3)) y1 (r10 (u9_2,(u9_4,(u9_6,(u9_7,(u9_8,(u9_9,(u9_10,(y2.Page,(y2.Rights,(u9_11,(u9_12,(u9_13,(u9_14,(u9_15,(u9_16,(u9_17,(u9_18,())))))))))))))))))))))))))))
def znT (N:Nat)(a2:Int)(a0:Host)(a3 a4 a5:Int)(a1:lE)(a6:Bool):OA :=
 let y3:=(zo7 a2 a3);let y2:=(zHd a0 a2 a3 a4 a5);let y1:=(ix a0.Mons a2 zf);let y5:=(ix y1.Guests a3 zq).Live;let y0:=(zjV a1 y3 a4);let y4:=y0.Rights; (oN (inb a2 (ln a0.Mons)) (oN (inb a3 (ln y1.Guests)) (oN (zoi y5 a4 a5) (cond (nB (zho y5 a4 a5)) (some [(aH a0),(aI (-1)),(aB false)]) (oN (zin a2 a3) (cond (ieq a5 2) (oN (inb a2 (ln a0.Mons)) (oN (inb y2 (ln y1.Dirty)) (share (up a0.Mons a2 ({ y1 with Dirty:=(up y1.Dirty y2 true) }:Mon)) (fun x8=>(oN (zjW a1 y3 a4) (share (fun (s9:(Int×(Int×(Int×(Int×(Bool×(Int×(Int×(Int×(Int×(Int×(Int×(lM×(lN×(lE×(lE×(lM×(lN×(lE×(lE×Unit))))))))))))))))))))=>(ziB N s9.1 s9.2.1 s9.2.2.1 s9.2.2.2.1 s9.2.2.2.2.1 s9.2.2.2.2.2.1 s9.2.2.2.2.2.2.1 s9.2.2.2.2.2.2.2.1 s9.2.2.2.2.2.2.2.2.1 s9.2.2.2.2.2.2.2.2.2.1 s9.2.2.2.2.2.2.2.2.2.2.1 s9.2.2.2.2.2.2.2.2.2.2.2.1 s9.2.2.2.2.2.2.2.2.2.2.2.2.1 s9.2.2.2.2.2.2.2.2.2.2.2.2.2.1 s9.2.2.2.2.2.2.2.2.2.2.2.2.2.2.1 s9.2.2.2.2.2.2.2.2.2.2.2.2.2.2.2.1 s9.2.2.2.2.2.2.2.2.2.2.2.2.2.2.2.2.1 s9.2.2.2.2.2.2.2.2.2.2.2.2.2.2.2.2.2.1 s9.2.2.2.2.2.2.2.2.2.2.2.2.2.2.2.2.2.2.1)) (fun r9=>(cond (zhl a1 y3 a4) (oN (zfc y4 a5) (cond (zfN y4 a5) (some [(aH ({ a0 with Mons:=x8 }:Host)),(aI y0.Host),(aB true)]) (r9 (a2,(a3,(a4,(a5,(a6,(y2,(y3,(y0.Tag,(y0.Page,(y0.Host,(y4,(a0.Memory,(x8,(a0.Buffer,(a0.IoBuffer,([],([],([],([],())))))))))))))))))))))) (r9 (a2,(a3,(a4,(a5,(a6,(y2,(y3,(y0.Tag,(y0.Page,(y0.Host,(y4,(a0.Memory,(x8,(a0.Buffer,(a0.IoBuffer,([],([],([],([],())))))))))))))))))))))))))))) (oN (zjW a1 y3 a4) (share (fun (s8:(Int×(Int×(Int×(Int×(Bool×(Int×(Int×(Int×(Int×(Int×(Int×(lM×(lN×(lE×(lE×(lM×(lN×(lE×(lE×Unit))))))))))))))))))))=>(ziB N s8.1 s8.2.1 s8.2.2.1 s8.2.2.2.1 s8.2.2.2.2.1 s8.2.2.2.2.2.1 s8.2.2.2.2.2.2.1 s8.2.2.2.2.2.2.2.1 s8.2.2.2.2.2.2.2.2.1 s8.2.2.2.2.2.2.2.2.2.1 s8.2.2.2.2.2.2.2.2.2.2.1 s8.2.2.2.2.2.2.2.2.2.2.2.1 s8.2.2.2.2.2.2.2.2.2.2.2.2.1 s8.2.2.2.2.2.2.2.2.2.2.2.2.2.1 s8.2.2.2.2.2.2.2.2.2.2.2.2.2.2.1 s8.2.2.2.2.2.2.2.2.2.2.2.2.2.2.2.1 s8.2.2.2.2.2.2.2.2.2.2.2.2.2.2.2.2.1 s8.2.2.2.2.2.2.2.2.2.2.2.2.2.2.2.2.2.1 s8.2.2.2.2.2.2.2.2.2.2.2.2.2.2.2.2.2.2.1)) (fun r8=>(cond (zhl a1 y3 a4) (oN (zfc y4 a5) (cond (zfN y4 a5) (some [(aH a0),(aI y0.Host),(aB true)]) (r8 (a2,(a3,(a4,(a5,(a6,(y2,(y3,(y0.Tag,(y0.Page,(y0.Host,(y4,(a0.Memory,(a0.Mons,(a0.Buffer,(a0.IoBuffer,([],([],([],([],())))))))))))))))))))))) (r8 (a2,(a3,(a4,(a5,(a6,(y2,(y3,(y0.Tag,(y0.Page,(y0.Host,(y4,(a0.Memory,(a0.Mons,(a0.Buffer,(a0.IoBuffer,([],([],([],([],()))))))))))))))))))))))))))))))
def zmH (N:Nat)(a0:Host)(a1:lE)(a2 a3:Int)(a4 a5:Int)(a6:Bool):OA :=
 let y1:=(znT N a2 a0 a3 a4 a5 a1 a6);let y0:=(wsub .i64 (ln (ix a0.Mons a2 zf).Guests) 1); (oN (zeb a0) (cond (nB (zea a0)) (some [(aH a0),(aI (-1)),(aB false)]) (oN (zF a2 0 (wsub .i64 (ln a0.Mons) 1)) (cond (nB (zI a2 0 (wsub .i64 (ln a0.Mons) 1))) (some [(aH a0),(aI (-1)),(aB false)]) (oN (inb a2 (ln a0.Mons)) (oN (zF a3 0 y0) (cond (nB (zI a3 0 y0)) (some [(aH a0),(aI (-1)),(aB false)]) (cond (ine a5 1) (cond (ine a5 2) (some [(aH a0),(aI (-1)),(aB false)]) y1) y1))))))))
def zoo:FuncId->Nat->Option Tmpl:=zA [(89,999999,{ n:=0,tm:=[],lo:=[],ro:=[] }),(89,1007023,{ n:=210,tm:=[(2,ti),(3,ti),(4,ti),(5,ti),(6,.b),(7,.lp 0 0),(14,.lp 1 0),(17,ti),(19,ti),(20,.lp 2 0)],lo:=[(0,[.sl 0 [],.sl 1 [],.sl 2 [],.sl 3 []]),(1,[.sl 4 [],.sl 5 [],.sl 6 [],.sl 7 []]),(2,[ti,ti,ti,ti])],ro:=[(0,(.sl .int),true),(1,.mon,true),(2,.entry,true),(3,.entry,true),(4,(.sl .int),true),(5,.mon,true),(6,.entry,true),(7,.entry,true)],kr:=1 }),(89,1009011,{ n:=210,tm:=[(4,ti),(6,.b),(7,.lp 0 0),(14,.lp 1 0),(19,ti),(20,.lp 2 0),(22,.lp 3 0)],lo:=[(0,[.sl 0 [],.sl 1 [],.sl 2 [],.sl 3 []]),(1,[.sl 4 [],.sl 5 [],.sl 6 [],.sl 7 []]),(2,[ti,ti,ti,ti]),(3,[ti,ti])],ro:=[(0,(.sl .int),true),(1,.mon,true),(2,.entry,true),(3,.entry,true),(4,(.sl .int),true),(5,.mon,true),(6,.entry,true),(7,.entry,true)],kr:=1 }),(89,1005003,{ n:=210,tm:=[(7,.lp 0 0),(14,.lp 1 0),(22,.lp 2 0)],lo:=[(0,[.sl 0 [],.sl 1 [],.sl 2 [],.sl 3 []]),(1,[.sl 4 [],.sl 5 [],.sl 6 [],.sl 7 []]),(2,[ti,ti])],ro:=[(0,(.sl .int),true),(1,.mon,true),(2,.entry,true),(3,.entry,true),(4,(.sl .int),true),(5,.mon,true),(6,.entry,true),(7,.entry,true)],kr:=1 })]
theorem zFA (N:Nat)(a0:Host)(a2 a3:Int)(a4 a5:Int)(a6:Bool):zIA (cQ zjP zwj zPm zPM) zoo N 12 89 [true,true,true,true,false,false,false,false,false,false] [(4,2)] 1 1 [[0],[1],[2],[4],[7]] .mon [aH a0,aS .entry a0.Buffer,aI a2,aI a3,aI a4,aI a5,aB a6]=zmH N a0 a0.Buffer a2 a3 a4 a5 a6:=by kernel_rfl
theorem zFB (N:Nat)(a0:Host)(a2 a3:Int)(a4 a5:Int)(a6:Bool):zIA (cQ zjP zwj zPm zPM) zoo N 12 89 [true,true,true,true,false,false,false,false,false,false] [(4,3)] 1 1 [[0],[1],[2],[4],[7]] .mon [aH a0,aS .entry a0.IoBuffer,aI a2,aI a3,aI a4,aI a5,aB a6]=zmH N a0 a0.IoBuffer a2 a3 a4 a5 a6:=by kernel_rfl
theorem zxA {N:Nat}{r:Host}{m g page:Int}{io:Bool}{z1 z2 z3 z4}(hb:r.Buffer.length<=1048576)(hi:r.IoBuffer.length<=1048576) :
 zlQ N page io (zdN m g) (zd2 (zbY r m g) page).Page (zd2 (zbY r m g) page).Rights r.Memory r.Mons r.Buffer r.IoBuffer z1 z2 z3 z4=some (zFE (zf3 r m g page io)):=by
 unfold zlQ oN
 conv=>zeta
 refine shr ?_;cases io
 ·exact zdx rfl (must (zbO hb) rfl)
 ·exact must rfl (must (zbO hi) rfl)
theorem zJw {N:Nat}{r:Host}{m g page need q:Int}{io:Bool}{R:OA}{r11}{u6 u7 u8 u9 u10 z1 z2 z3 z4}(A:LookAt r m g q need)(hr:r11 (page,(io,(u6,(u7,(u8,(u9,(u10,((zd2 (zbY (zcW (mended r m q need) m g page) m g) page).Page,((zd2 (zbY (zcW (mended r m q need) m g page) m g) page).Rights,((zcW (mended r m q need) m g page).Memory,((zcW (mended r m q need) m g page).Mons,((zcW (mended r m q need) m g page).Buffer,((zcW (mended r m q need) m g page).IoBuffer,(z1,(z2,(z3,(z4,())))))))))))))))))=R) :
 znS N r.Memory r.Mons r.Buffer r.IoBuffer m q need g page r11 io u6 u7 u8 u9 u10 z1 z2 z3 z4=R:=by
 have M:=zxJ A.kp A.hm A.hg;have F:=zxJ (A.fill page) A.hm A.hg;unfold znS oN
 conv=>zeta
 exact must (zbO A.mend) (must (zx M.hm) (must (zx M.hm) (must (zx M.ht) (must (zx M.hm) (must (zx M.hg) (must (zx M.hm) (must (zbO M.hk) (must (zx M.ht) (shr (must (zx F.hm) (must (zx F.ht) (must (zbO F.hk) hr))))))))))))
theorem zWE {r:Host}{m g page need:Int}(h:zia (zbY r m g) page=false):zdV r m g page need=true:=by
 unfold zdV;rw [h];rfl
theorem zWF {r:Host}{m g page need:Int}(h:ieq (zd2 (zbY r m g) page).Page (-1)=true):zdV r m g page need=true:=by
 unfold zdV;rw [h];cases zia (zbY r m g) page<;>rfl
theorem zWG {r:Host}{m g page need:Int}(h:enough (zd2 (zbY r m g) page).Rights need=false):zdV r m g page need=true:=by
 unfold zdV;rw [h];cases zia (zbY r m g) page<;>cases ieq (zd2 (zbY r m g) page).Page (-1)<;>rfl
theorem zWH {r:Host}{m g page need:Int}(h1:zia (zbY r m g) page=true)(h2:ieq (zd2 (zbY r m g) page).Page (-1)=false)(h3:enough (zd2 (zbY r m g) page).Rights need=true):zdV r m g page need=false:=by
 unfold zdV;rw [h1,h2,h3];rfl
theorem zFr {r:Host}{m g page need q:Int}{io:Bool}(h:zdV r m g page need=true):(cond (zdV r m g page need) (zf3 (zcW (mended r m q need) m g page) m g page io) (zf3 r m g page io))=zf3 (zcW (mended r m q need) m g page) m g page io:=by
 rw [h];rfl
theorem zV8 {r:Host}{m g page need q:Int}{io:Bool}(h:zdV r m g page need=false):(cond (zdV r m g page need) (zf3 (zcW (mended r m q need) m g page) m g page io) (zf3 r m g page io))=zf3 r m g page io:=by
 rw [h];rfl
theorem zxB {N:Nat}{r:Host}{m g page need q:Int}{io:Bool}{u7 u8 u9 u10 z1 z2 z3 z4}(A:LookAt r m g q need) :
 ziB N m g page need io q (zdN m g) u7 u8 u9 u10 r.Memory r.Mons r.Buffer r.IoBuffer z1 z2 z3 z4=some (zFE (cond (zdV r m g page need) (zf3 (zcW (mended r m q need) m g page) m g page io) (zf3 r m g page io))):=by
 have M:=zxJ ⟨A.fit.1,rfl⟩ A.hm A.hg;have F:=zxJ (A.fill page) A.hm A.hg;unfold ziB oN nB
 conv=>zeta
 refine must (zx M.hm) (must (zx M.ht) (must (zbO M.hk) (shr (brN (fun h1=>?_) (fun h1=>br (fun h2=>?_) (fun h2=>must rfl (brN (fun h3=>?_) (fun h3=>?_))))))))
 ·rw [zFr (zWE h1)];exact zJw A (zxA (r:=zcW (mended r m q need) m g page) (m:=m) (g:=g) F.hb F.hi)
 ·rw [zFr (zWF h2)];exact zJw A (zxA (r:=zcW (mended r m q need) m g page) (m:=m) (g:=g) F.hb F.hi)
 ·rw [zFr (zWG h3)];exact zJw A (zxA (r:=zcW (mended r m q need) m g page) (m:=m) (g:=g) F.hb F.hi)
 ·rw [zV8 (zWH h1 h2 h3)];exact zxA (r:=r) (m:=m) (g:=g) M.hb M.hi
theorem zNn {b:List Entry}{m g page need:Int}(h:(znB b m g page).isSome=false):zfR b m g page need=false:=by
 unfold zfR;rw [h];rfl
theorem zxE {b:List Entry}{m g page need:Int}{x:Bool}(h1:(znB b m g page).isSome=true)(h:enough ((znB b m g page).getD ⟨0,0,0,0⟩).Rights need=x):zfR b m g page need=x:=by
 unfold zfR;rw [h1,h];rfl
theorem zxI {r:Host}{b:List Entry}{m g page need q:Int}{io:Bool}(h:zfR b m g page need=false):zf2 r b m g page need q io=bif zdV r m g page need then zf3 (zcW (mended r m q need) m g page) m g page io else zf3 r m g page io:=by
 unfold zf2;rw [h];rfl
theorem zNA {r:Host}{b:List Entry}{m g page need q:Int}{io:Bool}(h:zfR b m g page need=true):zf2 r b m g page need q io=(r,((znB b m g page).getD ⟨0,0,0,0⟩).Host,true):=by
 unfold zf2;rw [h];rfl
theorem zKA {h:Host}{b:List Entry}{m g page need:Int}{io:Bool}(hh:zbG h m g page need=true):lookOf h b m g page need io=zf2 (cond (ieq need 2) (zbQ h m (zb5 (zce h m g) page need)) h) b m g page need (zb5 (zce h m g) page need) io:=by
 unfold lookOf;rw [hh];rfl
theorem zQC {N:Nat}{r:Host}{b:List Entry}{m g page need:Int}{io:Bool}(hs:SmH r)(hg:zbw r m g=true)(hn:zhi need=true) :
 znT N m r g page need b io=some (zFE (lookOf r b m g page need io)):=by
 obtain ⟨g1,g2,g3⟩:=zcQ hg;unfold znT oN nB
 conv=>zeta
 refine must (zx g2) (must (zx g3) (must rfl (brN (fun hw=>?_) (fun hw=>must rfl ?_))))
 ·have:zbG r m g page need=false:=by
   unfold zbG;rw [hg,hn,show zel (zce r m g) page need=false from hw]
   rfl
  rw [zks this];rfl
 ·have hl:zbG r m g page need=true:=by
   unfold zbG;rw [hg,hn,show zel (zce r m g) page need=true from hw]
   rfl
  obtain ⟨A,B⟩:=zGH hs hl;rw [zKA hl];have hd:hasB (zb5 (zce r m g) page need) (ln (ix r.Mons m mZ).Dirty)=true:=zeX (zdh A.fit.1 g2).2.2.2.1 A.hq;refine br (fun h2=>?_) (fun h2=>?_)
  ·rw [h2]
   show _=some (zFE (zf2 (zbQ r m (zb5 (zce r m g) page need)) b m g page need (zb5 (zce r m g) page need) io))
   refine must (zx g2) (must (zx hd) (shr (must rfl (shr (br (fun f1=>must rfl (br (fun f2=>?_) (fun f2=>?_))) (fun f1=>?_))))))
   ·rw [zNA (zxE f1 f2)];rfl
   ·rw [zxI (zxE f1 f2)];exact zxB (r:=zbQ r m (zb5 (zce r m g) page need)) B
   ·rw [zxI (zNn f1)];exact zxB (r:=zbQ r m (zb5 (zce r m g) page need)) B
  ·rw [h2]
   show _=some (zFE (zf2 r b m g page need (zb5 (zce r m g) page need) io))
   refine must rfl (shr (br (fun f1=>must rfl (br (fun f2=>?_) (fun f2=>?_))) (fun f1=>?_)))
   ·rw [zNA (zxE f1 f2)];rfl
   ·rw [zxI (zxE f1 f2)];exact zxB A
   ·rw [zxI (zNn f1)];exact zxB A
theorem zIb (a0:Host)(a1:List Entry)(a2 a3:Int)(a4 a5:Int)(a6:Bool)(hb:zci big [aH a0,aS .entry a1,aI a2,aI a3,aI a4,aI a5,aB a6])(hc:(zhO a0 a1 a2 a3 a4 a5 a6)=true):∃N,zmH N a0 a1 a2 a3 a4 a5 a6=some [aH (zd0 a0 a1 a2 a3 a4 a5 a6),aI (zhN a0 a1 a2 a3 a4 a5 a6),aB (zfq a0 a1 a2 a3 a4 a5 a6)]:=by
 have hs:=(zO a0).1 (zJ.1 hc);refine ⟨0,?_⟩
 show _=some (zFE (lookOf a0 a1 a2 a3 a4 a5 a6))
 unfold zmH oN nB
 conv=>zeta
 refine must rfl (brN (fun h1=>?_) (fun h1=>must rfl ?_))
 ·rw [zks (zwg (zV1 h1))];rfl
 rw [show zI a2 0 (wsub .i64 (ln a0.Mons) 1)=hasB a2 (ln a0.Mons) from zmF hs.2.1.1 a2]
 refine brN (fun h2=>?_) (fun h2=>must (zx h2) (must rfl ?_))
 ·rw [zks (zwg (zV2 h2))];rfl
 have hl:(ix a0.Mons a2 mZ).Guests.length<=1048576:=(hs.2.1.2 _ (zbj h2 _)).2.2.2.1.1;rw [show zI a3 0 (wsub .i64 (ln (ix a0.Mons a2 zf).Guests) 1)=hasB a3 (ln (ix a0.Mons a2 mZ).Guests) from zmF hl a3]
 refine brN (fun h3=>?_) (fun h3=>?_)
 ·rw [zks (zwg (zV3 h3))];rfl
 have hg:=zV4 h1 h2 h3;have hno:∀{n:Int},zhi n=false->zbG a0 a2 a3 a4 n=false:=fun {n} h=>by
  unfold zbG;rw [hg,h];rfl
 rw [zxG,zxG];cases h4:ieq a5 1
 ·cases h5:ieq a5 2
  ·have:zhi a5=false:=by unfold zhi;rw [h4,h5];rfl
   rw [zks (hno this)];rfl
  ·exact zQC hs hg (by unfold zhi;rw [h4,h5];rfl)
 ·exact zQC hs hg (by unfold zhi;rw [h4];rfl)
theorem zCX:zdd Tryz.prog 89 [true,true,true,true,false,false,false,false,false,false] (some (1,1,[[0],[1],[2],[4],[7]])) zoc:=by
 refine zEm (kt:=.mon) (zda zgi zy zbT zFL) (zeW (by kernel_rfl)) ?_
 intro al avs rs hal heq hl hr h;have hb:=zgv hr;have hal':al=[(4,2)]\/al=[(4,3)]:=by
  rw [show zfX 89=[[(4,2)],[(4,3)]] from by kernel_rfl] at hal
  simpa using hal
 unfold zoc at h;split at h
 ·rename_i a0_0 a0_1 a0_2 a0_3 a1 a2 a3 a4 a5 a6;obtain ⟨hc,rfl⟩:=zdi h;obtain ⟨N,hN⟩:=zIb (⟨a0_0,a0_1,a0_2,a0_3⟩:Host) a1 a2 a3 a4 a5 a6 hb hc;refine ⟨⟨_,rfl⟩,rfl,zoo,N,12,?_⟩;rcases hal' with rfl|rfl
  ·have e:=heq 4 2 (by simp)
   simp only [zn,List.flatMap_cons,AV.cvs] at e;cases e;exact (zFA N (⟨a0_0,a0_1,a0_2,a0_3⟩:Host) a2 a3 a4 a5 a6).trans hN
  ·have e:=heq 4 3 (by simp)
   simp only [zn,List.flatMap_cons,AV.cvs] at e;cases e;exact (zFB N (⟨a0_0,a0_1,a0_2,a0_3⟩:Host) a2 a3 a4 a5 a6).trans hN
 ·cases h
def zTS:zew:=[(89,([true,true,true,true,false,false,false,false,false,false],(some (1,1,[[0],[1],[2],[4],[7]])),zoc))]++zPM
theorem zgN:zdC zTS:=zmD zFL (by
 intro x hx;simp only [List.mem_cons,List.not_mem_nil,or_false] at hx;rcases hx with rfl
 ·exact zCX)
def gOf (h:Host)(m g:Int):Guest:=ix (ix h.Mons m mZ).Guests g gZ
def zii (h:Host)(m g:Int)(x:Guest):Host:={ h with Mons:=up h.Mons m { ix h.Mons m mZ with Guests:=up (ix h.Mons m mZ).Guests g x } }
def zjS (h:Host)(m g:Int)(x:Guest)(w:Bool):Host×Int×Bool:=lookOf h h.Buffer m g (zU (address x)) (zbL w) false
def zhd (L:Host×Int×Bool)(m g:Int)(x:Guest)(w:Bool):Host :=
 bif L.2.2 then (cond w (zii { L.1 with Memory:=zbm L.1.Memory L.2.1 (zcA (address x)) x.A } m g (zbK x)) (zii L.1 m g (loaded x (cellAt L.1.Memory L.2.1 (zcA (address x))))))
 else zii L.1 m g (stopped x (znz (zU (address x)) w))
def owned (h:Host)(m:Int):Host:=bif ilt (ix h.Mons m mZ).Own 1000000000 then { h with Mons:=up h.Mons m { ix h.Mons m mZ with Own:=zK .i64 (ix h.Mons m mZ).Own 1 } } else h
def zk1 (h:Host)(m n:Int):Host:=bif ilt (ln (ix h.Mons m mZ).Outs) 40 then { h with Mons:=up h.Mons m { ix h.Mons m mZ with Outs:=ap (ix h.Mons m mZ).Outs [n] } } else h
def ze2 (h:Host)(m:Int)(x:Guest)(w:Int):Host:=bif (cond (ine w 6) (ieq (ztG (ix h.Mons m mZ).Traps x.Ctl.Traps (zs4 w)) 2) false) then owned h m else h
def ze1 (h:Host)(m:Int)(x:Guest)(w:Int):Host:=bif (cond (zhX x.Ctl.Traps w) (ieq w 5) false) then zk1 h m (zbV x.Prog x.Pc).X else h
def zrn (h:Host)(m g:Int)(x:Guest)(w:Int):Host:=zii (ze1 (ze2 h m x w) m x w) m g (zhe x x.Ctl.Traps w)
def zLq (h:Host)(m g:Int)(x:Guest)(w:Int):Host×Bool :=
 bif ieq w 0 then (h,false) else (bif ieq w 1 then (zii h m g (interrupted x),true) else (bif ieq w 2 then (zii h m g (plainly x),true) else
  (cond (cond (ieq w 3) true (ieq w 4)) (zhd (zjS h m g x (ieq w 4)) m g x (ieq w 4),true) (zrn h m g x w,true))))
def zbi (h:Host)(m g:Int):Host×Bool:=bif zbw h m g then zLq h m g (gOf h m g) (zM (gOf h m g)) else (h,false)
def zey (x:Host×Bool):List AV:=[.agg (zbE x.1),.one (.b x.2)]
theorem zlK {h:Host}{m g:Int}(hs:SmH h)(hm:hasB m (ln h.Mons)=true)(hg:hasB g (ln (ix h.Mons m mZ).Guests)=true):SmG (gOf h m g):=(hs.2.1.2 _ (zbj hm _)).2.2.2.1.2 _ (zbj hg _)
theorem zPC {h:Host}{m g:Int}{x:Guest}(hs:Shape h)(hm:hasB m (ln h.Mons)=true)(hx:SmG x):Shape (zii h m g x):=by
 obtain ⟨g1,g2⟩:=zdh hs hm;exact zki hs ⟨g1.1,g1.2.1,g1.2.2.1,zxR g1.2.2.2.1 hx,g1.2.2.2.2⟩ ⟨g2.1,g2.2.1,g2.2.2.1,by simpa using g2.2.2.2⟩
theorem zDj {h:Host}{m:Int}(hm:hasB m (ln h.Mons)=true)(x:Mon):ix (up h.Mons m x) m mZ=x:=by
 obtain ⟨k,rfl,hk⟩:=zex (n:=h.Mons.length) hm;exact zeY hk _ _
@[simp] abbrev zdD (h:Host)(m g:Int):Bool:=pc (zb3 h)
@[simp] abbrev zw3 (h:Host)(m g:Int):Host:=(zbi h m g).1
@[simp] abbrev zw4 (h:Host)(m g:Int):Bool:=(zbi h m g).2
theorem zUX {α:Type}{l:List α}{x:α}(h:ilt (ln l) 40=true):few (ln (ap l [x]))=true:=by
 have:=of_decide_eq_true h;simp only [ln] at this;exact zf0 (by simp [ap];omega)
theorem zN1 {h:Host}{m:Int}{x:Guest}{w:Int}(hh:(cond (zhX x.Ctl.Traps w) (ieq w 5) false)=false):ze1 h m x w=h:=by
 unfold ze1;rw [hh];rfl
theorem zG8 {h:Host}{m:Int}{x:Guest}{w:Int}(hh:ilt (ln (ix h.Mons m mZ).Outs) 40=false):ze1 h m x w=h:=by
 unfold ze1 zk1;rw [hh];cases (cond (zhX x.Ctl.Traps w) (ieq w 5) false)<;>rfl
theorem zLw {h:Host}{m:Int}{x:Guest}{w:Int}(h1:zhX x.Ctl.Traps w=true)(h2:ieq w 5=true)(hh:ilt (ln (ix h.Mons m mZ).Outs) 40=true):ze1 h m x w={ h with Mons:=up h.Mons m { ix h.Mons m mZ with Outs:=ap (ix h.Mons m mZ).Outs [(zbV x.Prog x.Pc).X] } }:=by
 unfold ze1 zk1;rw [h1,h2,hh];rfl
theorem zRX {h:Host}{m:Int}{x:Guest}{w:Int}(h1:zhX x.Ctl.Traps w=false):ze1 h m x w=h:=zN1 (by rw [h1];rfl)
theorem zD2 {h:Host}{m:Int}{x:Guest}{w:Int}(h1:ieq w 5=false):ze1 h m x w=h:=zN1 (by rw [h1];cases zhX x.Ctl.Traps w<;>rfl)
theorem zQR (a:Int):(cond (ieq a a) true false)=true:=by rw [ztz];rfl
theorem zjf {h:Host}{m g:Int}(hh:zbw h m g=false):zbi h m g=(h,false):=by
 unfold zbi;rw [hh];rfl
theorem zhc {h:Host}{m g:Int}(hh:zbw h m g=true):zbi h m g=zLq h m g (gOf h m g) (zM (gOf h m g)):=by
 unfold zbi;rw [hh];rfl
theorem zjh {a b:Bool}(h:(cond a b false)=true):a=true/\b=true:=by
 cases a
 ·cases h
 ·exact ⟨rfl,h⟩
theorem zgs {a b:Bool}(ha:a=true)(hb:b=true):(cond a b false)=true:=by
 rw [ha];exact hb
theorem zN4 {h:Host}{m:Int}{x:Guest}{w:Int}(h6:ine w 6=true)(h0:ieq (ztG (ix h.Mons m mZ).Traps x.Ctl.Traps (zs4 w)) 2=true)(h9:ilt (ix h.Mons m mZ).Own 1000000000=true):ze2 h m x w={ h with Mons:=up h.Mons m { ix h.Mons m mZ with Own:=zK .i64 (ix h.Mons m mZ).Own 1 } }:=by
 unfold ze2 owned;rw [h6,h0,h9];rfl
theorem zN2 {h:Host}{m:Int}{x:Guest}{w:Int}(h0:ieq (ztG (ix h.Mons m mZ).Traps x.Ctl.Traps (zs4 w)) 2=false):ze2 h m x w=h:=by
 unfold ze2;rw [h0];cases ine w 6<;>rfl
theorem zN3 {h:Host}{m:Int}{x:Guest}{w:Int}(h9:ilt (ix h.Mons m mZ).Own 1000000000=false):ze2 h m x w=h:=by
 unfold ze2 owned;rw [h9];cases (cond (ine w 6) (ieq (ztG (ix h.Mons m mZ).Traps x.Ctl.Traps (zs4 w)) 2) false)<;>rfl
theorem zWI {h:Host}{m:Int}{x:Guest}:ze2 h m x 6=h:=rfl
theorem zkm {h h':Host}{m g:Int}{x:Guest}{w:Int}(e:ze2 h m x w=h'):zrn h m g x w=zii (ze1 h' m x w) m g (zhe x x.Ctl.Traps w):=by
 unfold zrn;rw [e]
theorem zTU (x:Guest):ieq (zM x) 0=true\/ieq (zM x) 1=true\/ieq (zM x) 2=true\/ieq (zM x) 3=true\/ieq (zM x) 4=true\/ieq (zM x) 5=true\/ieq (zM x) 6=true\/ieq (zM x) 7=true:=by
 cases h0:ieq (zM x) 0
 ·cases h1:ieq (zM x) 1
  ·cases h2:ieq (zM x) 2
   ·cases h3:ieq (zM x) 3
    ·cases h4:ieq (zM x) 4
     ·cases h5:ieq (zM x) 5
      ·cases h6:ieq (zM x) 6
       ·exact .inr (.inr (.inr (.inr (.inr (.inr (.inr (zXZ x h0 h1 h2 h3 h4 h5 h6)))))))
       ·exact .inr (.inr (.inr (.inr (.inr (.inr (.inl rfl))))))
      ·exact .inr (.inr (.inr (.inr (.inr (.inl rfl)))))
     ·exact .inr (.inr (.inr (.inr (.inl rfl))))
    ·exact .inr (.inr (.inr (.inl rfl)))
   ·exact .inr (.inr (.inl rfl))
  ·exact .inr (.inl rfl)
 ·exact .inl rfl
abbrev zuT (x:Guest):Bool:=bif zdM x then ieq (zM x) 0 else false
def zk9:List AV->Option (Bool×List AV)
 | [.agg [.s .ins c,.i .i64 d,.i .i64 e,.s .slot f,.s .slot g,.i .i64 h,.i .i64 j,.b k,.i .i64 l,.i .i64 m,.i .i64 n,.b o,.i .i64 p,.b q,.s .int r]]=>some ((zuT (⟨c,d,e,f,g,⟨h,j,k⟩,l,⟨m,n,o,p⟩,q,r⟩:Guest)),[.one (.i .i64 0)])
 | _=>none
theorem zx5:Holds Tryz.prog 67 zk9:=by
 refine ⟨zbS.1,fun w avs xs rs hrep h=>?_⟩;unfold zk9 at h;split at h
 ·obtain ⟨hc,rfl⟩:=zdi h;obtain ⟨h1,h2⟩:=zjh hc;exact zbS.2 w _ xs _ hrep (congr (congrArg (fun c v=>some (c,[AV.one (CV.i .i64 v)])) h1) (of_decide_eq_true h2))
 ·cases h
def zVB:zS:=[(67,zk9)]++zjP
theorem zOq:zD zVB:=zk zx5 zgi
@[simp] abbrev zqS (h:Host)(m g:Int):Bool:=bif zdD h m g then ieq (zM (gOf h m g)) 0 else false
@[simp] abbrev zqQ (h:Host)(m g:Int):Host:=(zbi h m g).1
@[simp] abbrev zqR (h:Host)(m g:Int):Bool:=(zbi h m g).2
def zyq:Run:=rF3 dH dI dI (fun b c d=>((zqS b c d),[aH (zqQ b c d),aB (zqR b c d)]))
def zp5 (N:Nat)(a0:Host)(a1 a2:Int):OA :=
 let y1:=(zi a0);let y0:=(ix y1.Mons a1 zf).Guests; (oN (zbq a0) (oN (zfr y1 a1 a2) (cond (nB (zgK y1 a1 a2)) (some [(aH y1),(aB false)]) (oN (inb a1 (ln y1.Mons)) (oN (inb a2 (ln y0)) (oN (zuT (ix y0 a2 zq)) (some [(aH y1),(aB false)])))))))
abbrev zuU (x:Guest):Bool:=bif zdM x then ieq (zM x) 1 else false
def zla:List AV->Option (Bool×List AV)
 | [.agg [.s .ins c,.i .i64 d,.i .i64 e,.s .slot f,.s .slot g,.i .i64 h,.i .i64 j,.b k,.i .i64 l,.i .i64 m,.i .i64 n,.b o,.i .i64 p,.b q,.s .int r]]=>some ((zuU (⟨c,d,e,f,g,⟨h,j,k⟩,l,⟨m,n,o,p⟩,q,r⟩:Guest)),[.one (.i .i64 1)])
 | _=>none
theorem zx6:Holds Tryz.prog 67 zla:=by
 refine ⟨zbS.1,fun w avs xs rs hrep h=>?_⟩;unfold zla at h;split at h
 ·obtain ⟨hc,rfl⟩:=zdi h;obtain ⟨h1,h2⟩:=zjh hc;exact zbS.2 w _ xs _ hrep (congr (congrArg (fun c v=>some (c,[AV.one (CV.i .i64 v)])) h1) (of_decide_eq_true h2))
 ·cases h
def zVC:zS:=[(67,zla)]++zjP
theorem zOr:zD zVC:=zk zx6 zgi
@[simp] abbrev zqV (h:Host)(m g:Int):Bool:=bif zdD h m g then ieq (zM (gOf h m g)) 1 else false
@[simp] abbrev zqT (h:Host)(m g:Int):Host:=(zbi h m g).1
@[simp] abbrev zqU (h:Host)(m g:Int):Bool:=(zbi h m g).2
def zyr:Run:=rF3 dH dI dI (fun b c d=>((zqV b c d),[aH (zqT b c d),aB (zqU b c d)]))
def zp6 (N:Nat)(a0:Host)(a1 a2:Int):OA :=
 let y2:=(zi a0);let y0:=(ix y2.Mons a1 zf);let y1:=(ix y0.Guests a2 zq); (oN (zbq a0) (oN (zfr y2 a1 a2) (cond (nB (zgK y2 a1 a2)) (some [(aH y2),(aB false)]) (oN (inb a1 (ln y2.Mons)) (oN (inb a2 (ln y0.Guests)) (oN (zuU y1) (oN (inb a1 (ln y2.Mons)) (oN (zlu y1) (oN (inb a2 (ln y0.Guests)) (share (up y2.Mons a1 ({ y0 with Guests:=(up y0.Guests a2 (zhm y1)) }:Mon)) (fun x4=>(some [(aH ({ y2 with Mons:=x4 }:Host)),(aB true)]))))))))))))
abbrev zuV (x:Guest):Bool:=bif zdM x then ieq (zM x) 2 else false
def zlb:List AV->Option (Bool×List AV)
 | [.agg [.s .ins c,.i .i64 d,.i .i64 e,.s .slot f,.s .slot g,.i .i64 h,.i .i64 j,.b k,.i .i64 l,.i .i64 m,.i .i64 n,.b o,.i .i64 p,.b q,.s .int r]]=>some ((zuV (⟨c,d,e,f,g,⟨h,j,k⟩,l,⟨m,n,o,p⟩,q,r⟩:Guest)),[.one (.i .i64 2)])
 | _=>none
theorem zx7:Holds Tryz.prog 67 zlb:=by
 refine ⟨zbS.1,fun w avs xs rs hrep h=>?_⟩;unfold zlb at h;split at h
 ·obtain ⟨hc,rfl⟩:=zdi h;obtain ⟨h1,h2⟩:=zjh hc;exact zbS.2 w _ xs _ hrep (congr (congrArg (fun c v=>some (c,[AV.one (CV.i .i64 v)])) h1) (of_decide_eq_true h2))
 ·cases h
def zVD:zS:=[(67,zlb)]++zjP
theorem zOs:zD zVD:=zk zx7 zgi
@[simp] abbrev zqY (h:Host)(m g:Int):Bool:=bif zdD h m g then ieq (zM (gOf h m g)) 2 else false
@[simp] abbrev zqW (h:Host)(m g:Int):Host:=(zbi h m g).1
@[simp] abbrev zqX (h:Host)(m g:Int):Bool:=(zbi h m g).2
def zys:Run:=rF3 dH dI dI (fun b c d=>((zqY b c d),[aH (zqW b c d),aB (zqX b c d)]))
def zp7 (N:Nat)(a0:Host)(a1 a2:Int):OA :=
 let y2:=(zi a0);let y0:=(ix y2.Mons a1 zf);let y1:=(ix y0.Guests a2 zq); (oN (zbq a0) (oN (zfr y2 a1 a2) (cond (nB (zgK y2 a1 a2)) (some [(aH y2),(aB false)]) (oN (inb a1 (ln y2.Mons)) (oN (inb a2 (ln y0.Guests)) (oN (zuV y1) (oN (inb a1 (ln y2.Mons)) (oN (zrR y1) (oN (inb a2 (ln y0.Guests)) (share (up y2.Mons a1 ({ y0 with Guests:=(up y0.Guests a2 (znP y1)) }:Mon)) (fun x4=>(some [(aH ({ y2 with Mons:=x4 }:Host)),(aB true)]))))))))))))
abbrev zuW (x:Guest):Bool:=bif zdM x then ieq (zM x) 3 else false
def zlc:List AV->Option (Bool×List AV)
 | [.agg [.s .ins c,.i .i64 d,.i .i64 e,.s .slot f,.s .slot g,.i .i64 h,.i .i64 j,.b k,.i .i64 l,.i .i64 m,.i .i64 n,.b o,.i .i64 p,.b q,.s .int r]]=>some ((zuW (⟨c,d,e,f,g,⟨h,j,k⟩,l,⟨m,n,o,p⟩,q,r⟩:Guest)),[.one (.i .i64 3)])
 | _=>none
theorem zx8:Holds Tryz.prog 67 zlc:=by
 refine ⟨zbS.1,fun w avs xs rs hrep h=>?_⟩;unfold zlc at h;split at h
 ·obtain ⟨hc,rfl⟩:=zdi h;obtain ⟨h1,h2⟩:=zjh hc;exact zbS.2 w _ xs _ hrep (congr (congrArg (fun c v=>some (c,[AV.one (CV.i .i64 v)])) h1) (of_decide_eq_true h2))
 ·cases h
def zVE:zS:=[(67,zlc)]++zjP
theorem zOt:zD zVE:=zk zx8 zgi
@[simp] abbrev zq1 (h:Host)(m g:Int):Bool:=bif zdD h m g then ieq (zM (gOf h m g)) 3 else false
@[simp] abbrev zqZ (h:Host)(m g:Int):Host:=(zbi h m g).1
@[simp] abbrev zq0 (h:Host)(m g:Int):Bool:=(zbi h m g).2
def zyt:Run:=rF3 dH dI dI (fun b c d=>((zq1 b c d),[aH (zqZ b c d),aB (zq0 b c d)]))
def zp8 (N:Nat)(a0:Host)(a1 a2:Int):OA :=
 let y6:=(zi a0);let y9:=(ix y6.Mons a1 zf).Guests;let y1:=(ix y9 a2 zq);let y7:=(zgR y1);let y8:=(zcg y7);let y4:=(zhN y6 y6.Buffer a1 a2 y8 (zec false) false);let y0:=(zd0 y6 y6.Buffer a1 a2 y8 (zec false) false);let y3:=(ix y0.Mons a1 zf);let y5:=(ix y3.Guests a2 zq);let y2:=({ y1 with Prog:=y5.Prog,Written:=y5.Written,Live:=y5.Live,Seen:=y5.Seen }:Guest); (oN (zbq a0) (oN (zfr y6 a1 a2) (cond (nB (zgK y6 a1 a2)) (some [(aH y6),(aB false)]) (oN (inb a1 (ln y6.Mons)) (oN (inb a2 (ln y9)) (oN (zuW y1) (oN (zm2 y1) (oN (zeT y7) (oN (zoJ false) (oN (zhO y6 y6.Buffer a1 a2 y8 (zec false) false) (cond (nB (zfq y6 y6.Buffer a1 a2 y8 (zec false) false)) (oN (inb a1 (ln y0.Mons)) (oN (zeT y7) (oN (zjU y8 false) (oN (zdl y2 (zfm y8 false)) (oN (inb a2 (ln y3.Guests)) (share (up y0.Mons a1 ({ y3 with Guests:=(up y3.Guests a2 (zcU y2 (zfm y8 false))) }:Mon)) (fun x4=>(some [(aH ({ y0 with Mons:=x4 }:Host)),(aB true)])))))))) (oN (inb a1 (ln y0.Mons)) (oN (zgE y7) (oN (zoH y0.Memory y4 (zdo y7)) (oN (ztP y2 (zkb y0.Memory y4 (zdo y7))) (oN (inb a2 (ln y3.Guests)) (share (up y0.Mons a1 ({ y3 with Guests:=(up y3.Guests a2 (zpP y2 (zkb y0.Memory y4 (zdo y7)))) }:Mon)) (fun x4=>(some [(aH ({ y0 with Mons:=x4 }:Host)),(aB true)])))))))))))))))))))
abbrev zuX (x:Guest):Bool:=bif zdM x then ieq (zM x) 4 else false
def zld:List AV->Option (Bool×List AV)
 | [.agg [.s .ins c,.i .i64 d,.i .i64 e,.s .slot f,.s .slot g,.i .i64 h,.i .i64 j,.b k,.i .i64 l,.i .i64 m,.i .i64 n,.b o,.i .i64 p,.b q,.s .int r]]=>some ((zuX (⟨c,d,e,f,g,⟨h,j,k⟩,l,⟨m,n,o,p⟩,q,r⟩:Guest)),[.one (.i .i64 4)])
 | _=>none
theorem zx9:Holds Tryz.prog 67 zld:=by
 refine ⟨zbS.1,fun w avs xs rs hrep h=>?_⟩;unfold zld at h;split at h
 ·obtain ⟨hc,rfl⟩:=zdi h;obtain ⟨h1,h2⟩:=zjh hc;exact zbS.2 w _ xs _ hrep (congr (congrArg (fun c v=>some (c,[AV.one (CV.i .i64 v)])) h1) (of_decide_eq_true h2))
 ·cases h
def zVF:zS:=[(67,zld)]++zjP
theorem zOu:zD zVF:=zk zx9 zgi
@[simp] abbrev zq4 (h:Host)(m g:Int):Bool:=bif zdD h m g then ieq (zM (gOf h m g)) 4 else false
@[simp] abbrev zq2 (h:Host)(m g:Int):Host:=(zbi h m g).1
@[simp] abbrev zq3 (h:Host)(m g:Int):Bool:=(zbi h m g).2
def zyu:Run:=rF3 dH dI dI (fun b c d=>((zq4 b c d),[aH (zq2 b c d),aB (zq3 b c d)]))
def zp9 (N:Nat)(a0:Host)(a1 a2:Int):OA :=
 let y4:=(zi a0);let y8:=(ix y4.Mons a1 zf).Guests;let y1:=(ix y8 a2 zq);let y9:=(zgR y1);let y5:=(zcg y9);let y7:=(zhN y4 y4.Buffer a1 a2 y5 (zec true) false);let y0:=(zd0 y4 y4.Buffer a1 a2 y5 (zec true) false);let y3:=(ix y0.Mons a1 zf);let y6:=(ix y3.Guests a2 zq);let y2:=({ y1 with Prog:=y6.Prog,Written:=y6.Written,Live:=y6.Live,Seen:=y6.Seen }:Guest); (oN (zbq a0) (oN (zfr y4 a1 a2) (cond (nB (zgK y4 a1 a2)) (some [(aH y4),(aB false)]) (oN (inb a1 (ln y4.Mons)) (oN (inb a2 (ln y8)) (oN (zuX y1) (oN (zm2 y1) (oN (zeT y9) (oN (zoJ true) (oN (zhO y4 y4.Buffer a1 a2 y5 (zec true) false) (cond (nB (zfq y4 y4.Buffer a1 a2 y5 (zec true) false)) (oN (inb a1 (ln y0.Mons)) (oN (zeT y9) (oN (zjU y5 true) (oN (zdl y2 (zfm y5 true)) (oN (inb a2 (ln y3.Guests)) (share (up y0.Mons a1 ({ y3 with Guests:=(up y3.Guests a2 (zcU y2 (zfm y5 true))) }:Mon)) (fun x4=>(some [(aH ({ y0 with Mons:=x4 }:Host)),(aB true)])))))))) (oN (zgE y9) (oN (zgJ y0.Memory y7 (zdo y9) y1.A) (oN (inb a1 (ln y0.Mons)) (oN (ztV y2) (oN (inb a2 (ln y3.Guests)) (share (up y0.Mons a1 ({ y3 with Guests:=(up y3.Guests a2 (zpS y2)) }:Mon)) (fun x4=>(some [(aH ({ y0 with Memory:=(zg8 y0.Memory y7 (zdo y9) y1.A),Mons:=x4 }:Host)),(aB true)])))))))))))))))))))
abbrev zuY (x:Guest):Bool:=bif zdM x then ieq (zM x) 5 else false
def zle:List AV->Option (Bool×List AV)
 | [.agg [.s .ins c,.i .i64 d,.i .i64 e,.s .slot f,.s .slot g,.i .i64 h,.i .i64 j,.b k,.i .i64 l,.i .i64 m,.i .i64 n,.b o,.i .i64 p,.b q,.s .int r]]=>some ((zuY (⟨c,d,e,f,g,⟨h,j,k⟩,l,⟨m,n,o,p⟩,q,r⟩:Guest)),[.one (.i .i64 5)])
 | _=>none
theorem zya:Holds Tryz.prog 67 zle:=by
 refine ⟨zbS.1,fun w avs xs rs hrep h=>?_⟩;unfold zle at h;split at h
 ·obtain ⟨hc,rfl⟩:=zdi h;obtain ⟨h1,h2⟩:=zjh hc;exact zbS.2 w _ xs _ hrep (congr (congrArg (fun c v=>some (c,[AV.one (CV.i .i64 v)])) h1) (of_decide_eq_true h2))
 ·cases h
def zVG:zS:=[(67,zle)]++zjP
theorem zOv:zD zVG:=zk zya zgi
@[simp] abbrev zq7 (h:Host)(m g:Int):Bool:=bif zdD h m g then ieq (zM (gOf h m g)) 5 else false
@[simp] abbrev zq5 (h:Host)(m g:Int):Host:=(zbi h m g).1
@[simp] abbrev zq6 (h:Host)(m g:Int):Bool:=(zbi h m g).2
def zyv:Run:=rF3 dH dI dI (fun b c d=>((zq7 b c d),[aH (zq5 b c d),aB (zq6 b c d)]))
def zqa (N:Nat)(a0:Host)(a1 a2:Int):OA :=
 let y8:=(zi a0);let y4:=(inb a1 (ln y8.Mons));let y2:=(ix y8.Mons a1 zf);let y10:=(inb a2 (ln y2.Guests));let y0:=(ix y2.Guests a2 zq);let y9:=(ap y2.Outs [(zeC y0.Prog y0.Pc).X]);let y16:=(up y8.Mons a1 ({ y2 with Outs:=y9 }:Mon));let y7:=y0.Ctl.Traps;let y5:=(up y8.Mons a1 ({ y2 with Guests:=(up y2.Guests a2 (zbP y0 y7 5)) }:Mon)); (oN (zbq a0) (oN (zfr y8 a1 a2) (cond (nB (zgK y8 a1 a2)) (some [(aH y8),(aB false)]) (oN y4 (oN y10 (oN (zuY y0) (oN y4 (oN (znj y2.Traps y7 1) (cond (ieq (zky y2.Traps y7 1) 2) (oN y4 (cond (ilt y2.Own 1000000000) (oN y4 (oN y4 (share (up y8.Mons a1 ({ y2 with Own:=(zK .i64 y2.Own 1) }:Mon)) (fun x4=>let y12:=(inb a1 (ln x4));let y3:=(ix x4 a1 zf);let y6:=(ix y3.Guests a2 zq);let y17:=(ap y3.Outs [(zeC y6.Prog y0.Pc).X]);let y1:=({ y0 with Prog:=y6.Prog,Written:=y6.Written,Live:=y6.Live,Seen:=y6.Seen }:Guest);let y11:=(up x4 a1 ({ y3 with Guests:=(up y3.Guests a2 (zbP y1 y7 5)) }:Mon)); (oN (zc4 y1 y7 5) (cond (zcH y1 y7 5) (oN y12 (cond (ilt (ln y3.Outs) 40) (oN y12 (oN (zer y6.Prog y0.Pc) (oN (few (ln y17)) (oN y12 (oN (cond (ieq a1 a1) true false) (share (up x4 a1 ({ y3 with Outs:=y17 }:Mon)) (fun x5=>let y13:=(ix x5 a1 zf); (oN (inb a1 (ln x5)) (oN (inb a2 (ln y13.Guests)) (share (up x5 a1 ({ y13 with Guests:=(up y13.Guests a2 (zbP y1 y7 5)) }:Mon)) (fun x6=>(some [(aH ({ y8 with Mons:=x6 }:Host)),(aB true)])))))))))))) (oN y12 (oN (inb a2 (ln y3.Guests)) (share y11 (fun x5=>(some [(aH ({ y8 with Mons:=x5 }:Host)),(aB true)]))))))) (oN y12 (oN (inb a2 (ln y3.Guests)) (share y11 (fun x5=>(some [(aH ({ y8 with Mons:=x5 }:Host)),(aB true)]))))))))))) (oN (zc4 y0 y7 5) (cond (zcH y0 y7 5) (oN y4 (cond (ilt (ln y2.Outs) 40) (oN y4 (oN (zer y0.Prog y0.Pc) (oN (few (ln y9)) (oN y4 (oN (cond (ieq a1 a1) true false) (share y16 (fun x4=>let y14:=(ix x4 a1 zf); (oN (inb a1 (ln x4)) (oN (inb a2 (ln y14.Guests)) (share (up x4 a1 ({ y14 with Guests:=(up y14.Guests a2 (zbP y0 y7 5)) }:Mon)) (fun x5=>(some [(aH ({ y8 with Mons:=x5 }:Host)),(aB true)])))))))))))) (oN y4 (oN y10 (share y5 (fun x4=>(some [(aH ({ y8 with Mons:=x4 }:Host)),(aB true)]))))))) (oN y4 (oN y10 (share y5 (fun x4=>(some [(aH ({ y8 with Mons:=x4 }:Host)),(aB true)]))))))))) (oN (zc4 y0 y7 5) (cond (zcH y0 y7 5) (oN y4 (cond (ilt (ln y2.Outs) 40) (oN y4 (oN (zer y0.Prog y0.Pc) (oN (few (ln y9)) (oN y4 (oN (cond (ieq a1 a1) true false) (share y16 (fun x4=>let y15:=(ix x4 a1 zf); (oN (inb a1 (ln x4)) (oN (inb a2 (ln y15.Guests)) (share (up x4 a1 ({ y15 with Guests:=(up y15.Guests a2 (zbP y0 y7 5)) }:Mon)) (fun x5=>(some [(aH ({ y8 with Mons:=x5 }:Host)),(aB true)])))))))))))) (oN y4 (oN y10 (share y5 (fun x4=>(some [(aH ({ y8 with Mons:=x4 }:Host)),(aB true)]))))))) (oN y4 (oN y10 (share y5 (fun x4=>(some [(aH ({ y8 with Mons:=x4 }:Host)),(aB true)]))))))))))))))))
abbrev zuZ (x:Guest):Bool:=bif zdM x then ieq (zM x) 6 else false
def zlf:List AV->Option (Bool×List AV)
 | [.agg [.s .ins c,.i .i64 d,.i .i64 e,.s .slot f,.s .slot g,.i .i64 h,.i .i64 j,.b k,.i .i64 l,.i .i64 m,.i .i64 n,.b o,.i .i64 p,.b q,.s .int r]]=>some ((zuZ (⟨c,d,e,f,g,⟨h,j,k⟩,l,⟨m,n,o,p⟩,q,r⟩:Guest)),[.one (.i .i64 6)])
 | _=>none
theorem zyb:Holds Tryz.prog 67 zlf:=by
 refine ⟨zbS.1,fun w avs xs rs hrep h=>?_⟩;unfold zlf at h;split at h
 ·obtain ⟨hc,rfl⟩:=zdi h;obtain ⟨h1,h2⟩:=zjh hc;exact zbS.2 w _ xs _ hrep (congr (congrArg (fun c v=>some (c,[AV.one (CV.i .i64 v)])) h1) (of_decide_eq_true h2))
 ·cases h
def zVH:zS:=[(67,zlf)]++zjP
theorem zOw:zD zVH:=zk zyb zgi
@[simp] abbrev zra (h:Host)(m g:Int):Bool:=bif zdD h m g then ieq (zM (gOf h m g)) 6 else false
@[simp] abbrev zq8 (h:Host)(m g:Int):Host:=(zbi h m g).1
@[simp] abbrev zq9 (h:Host)(m g:Int):Bool:=(zbi h m g).2
def zyw:Run:=rF3 dH dI dI (fun b c d=>((zra b c d),[aH (zq8 b c d),aB (zq9 b c d)]))
def zqb (N:Nat)(a0:Host)(a1 a2:Int):OA :=
 let y3:=(zi a0);let y4:=(inb a1 (ln y3.Mons));let y0:=(ix y3.Mons a1 zf);let y5:=(inb a2 (ln y0.Guests));let y1:=(ix y0.Guests a2 zq);let y2:=(up y3.Mons a1 ({ y0 with Guests:=(up y0.Guests a2 (zbP y1 y1.Ctl.Traps 6)) }:Mon)); (oN (zbq a0) (oN (zfr y3 a1 a2) (cond (nB (zgK y3 a1 a2)) (some [(aH y3),(aB false)]) (oN y4 (oN y5 (oN (zuZ y1) (oN (zc4 y1 y1.Ctl.Traps 6) (cond (zcH y1 y1.Ctl.Traps 6) (oN y4 (oN y5 (share y2 (fun x4=>(some [(aH ({ y3 with Mons:=x4 }:Host)),(aB true)]))))) (oN y4 (oN y5 (share y2 (fun x4=>(some [(aH ({ y3 with Mons:=x4 }:Host)),(aB true)])))))))))))))
abbrev zu0 (x:Guest):Bool:=bif zdM x then ieq (zM x) 7 else false
def zlg:List AV->Option (Bool×List AV)
 | [.agg [.s .ins c,.i .i64 d,.i .i64 e,.s .slot f,.s .slot g,.i .i64 h,.i .i64 j,.b k,.i .i64 l,.i .i64 m,.i .i64 n,.b o,.i .i64 p,.b q,.s .int r]]=>some ((zu0 (⟨c,d,e,f,g,⟨h,j,k⟩,l,⟨m,n,o,p⟩,q,r⟩:Guest)),[.one (.i .i64 7)])
 | _=>none
theorem zyc:Holds Tryz.prog 67 zlg:=by
 refine ⟨zbS.1,fun w avs xs rs hrep h=>?_⟩;unfold zlg at h;split at h
 ·obtain ⟨hc,rfl⟩:=zdi h;obtain ⟨h1,h2⟩:=zjh hc;exact zbS.2 w _ xs _ hrep (congr (congrArg (fun c v=>some (c,[AV.one (CV.i .i64 v)])) h1) (of_decide_eq_true h2))
 ·cases h
def zVI:zS:=[(67,zlg)]++zjP
theorem zOx:zD zVI:=zk zyc zgi
@[simp] abbrev zre (h:Host)(m g:Int):Bool:=bif zdD h m g then ieq (zM (gOf h m g)) 7 else false
@[simp] abbrev zrb (h:Host)(m g:Int):Host:=(zbi h m g).1
@[simp] abbrev zrd (h:Host)(m g:Int):Bool:=(zbi h m g).2
def zyx:Run:=rF3 dH dI dI (fun b c d=>((zre b c d),[aH (zrb b c d),aB (zrd b c d)]))
def zqc (N:Nat)(a0:Host)(a1 a2:Int):OA :=
 let y9:=(zi a0);let y4:=(inb a1 (ln y9.Mons));let y2:=(ix y9.Mons a1 zf);let y8:=(inb a2 (ln y2.Guests));let y0:=(ix y2.Guests a2 zq);let y6:=y0.Ctl.Traps;let y3:=(up y9.Mons a1 ({ y2 with Guests:=(up y2.Guests a2 (zbP y0 y6 7)) }:Mon)); (oN (zbq a0) (oN (zfr y9 a1 a2) (cond (nB (zgK y9 a1 a2)) (some [(aH y9),(aB false)]) (oN y4 (oN y8 (oN (zu0 y0) (oN y4 (oN (znj y2.Traps y6 2) (cond (ieq (zky y2.Traps y6 2) 2) (oN y4 (cond (ilt y2.Own 1000000000) (oN y4 (oN y4 (share (up y9.Mons a1 ({ y2 with Own:=(zK .i64 y2.Own 1) }:Mon)) (fun x4=>let y5:=(ix x4 a1 zf);let y7:=(ix y5.Guests a2 zq);let y1:=({ y0 with Prog:=y7.Prog,Written:=y7.Written,Live:=y7.Live,Seen:=y7.Seen }:Guest);let y10:=(up x4 a1 ({ y5 with Guests:=(up y5.Guests a2 (zbP y1 y6 7)) }:Mon)); (oN (zc4 y1 y6 7) (cond (zcH y1 y6 7) (oN (inb a1 (ln x4)) (oN (inb a2 (ln y5.Guests)) (share y10 (fun x5=>(some [(aH ({ y9 with Mons:=x5 }:Host)),(aB true)]))))) (oN (inb a1 (ln x4)) (oN (inb a2 (ln y5.Guests)) (share y10 (fun x5=>(some [(aH ({ y9 with Mons:=x5 }:Host)),(aB true)]))))))))))) (oN (zc4 y0 y6 7) (cond (zcH y0 y6 7) (oN y4 (oN y8 (share y3 (fun x4=>(some [(aH ({ y9 with Mons:=x4 }:Host)),(aB true)]))))) (oN y4 (oN y8 (share y3 (fun x4=>(some [(aH ({ y9 with Mons:=x4 }:Host)),(aB true)]))))))))) (oN (zc4 y0 y6 7) (cond (zcH y0 y6 7) (oN y4 (oN y8 (share y3 (fun x4=>(some [(aH ({ y9 with Mons:=x4 }:Host)),(aB true)]))))) (oN y4 (oN y8 (share y3 (fun x4=>(some [(aH ({ y9 with Mons:=x4 }:Host)),(aB true)]))))))))))))))))
theorem zyf (a0:Host)(a1 a2:Int)(hc:(zqS a0 a1 a2)=true):∃N,zp5 N a0 a1 a2=some [aH (zqQ a0 a1 a2),aB (zqR a0 a1 a2)]:=by
 obtain ⟨hc,hw⟩:=zjh hc;have hs:=(zO a0).1 (zJ.1 hc);refine ⟨0,?_⟩
 show _=some (zey (zbi a0 a1 a2))
 unfold zp5 oN nB
 conv=>zeta
 refine must (zbO ((zO _).2 hs)) (must (zbO ((zO _).2 hs)) (brN (fun hh=>?_) (fun hh=>?_)))
 ·rw [zjf hh];rfl
 obtain ⟨g1,g2,g3⟩:=zcQ hh;have hx:=zlK hs g2 g3;have hk:zM (gOf a0 a1 a2)=0:=of_decide_eq_true hw;rw [zhc hh,hk];refine must (zx g2) (must (zx g3) (must (zgs rfl hw) ?_));rfl
theorem zlO:Holds Tryz.prog 37 zyq:=kF3 zOq zy zbT zgN (zA []) zyf
theorem zyg (a0:Host)(a1 a2:Int)(hc:(zqV a0 a1 a2)=true):∃N,zp6 N a0 a1 a2=some [aH (zqT a0 a1 a2),aB (zqU a0 a1 a2)]:=by
 obtain ⟨hc,hw⟩:=zjh hc;have hs:=(zO a0).1 (zJ.1 hc);refine ⟨0,?_⟩
 show _=some (zey (zbi a0 a1 a2))
 unfold zp6 oN nB
 conv=>zeta
 refine must (zbO ((zO _).2 hs)) (must (zbO ((zO _).2 hs)) (brN (fun hh=>?_) (fun hh=>?_)))
 ·rw [zjf hh];rfl
 obtain ⟨g1,g2,g3⟩:=zcQ hh;have hx:=zlK hs g2 g3;have hk:zM (gOf a0 a1 a2)=1:=of_decide_eq_true hw;rw [zhc hh,hk];refine must (zx g2) (must (zx g3) (must (zgs rfl hw) ?_))
 show _=some (zey (zii a0 a1 a2 (interrupted (gOf a0 a1 a2)),true))
 exact must (zx g2) (must (zbO hx) (must (zx g3) rfl))
theorem zu7:Holds Tryz.prog 37 zyr:=kF3 zOr zy zbT zgN (zA []) zyg
theorem zyh (a0:Host)(a1 a2:Int)(hc:(zqY a0 a1 a2)=true):∃N,zp7 N a0 a1 a2=some [aH (zqW a0 a1 a2),aB (zqX a0 a1 a2)]:=by
 obtain ⟨hc,hw⟩:=zjh hc;have hs:=(zO a0).1 (zJ.1 hc);refine ⟨0,?_⟩
 show _=some (zey (zbi a0 a1 a2))
 unfold zp7 oN nB
 conv=>zeta
 refine must (zbO ((zO _).2 hs)) (must (zbO ((zO _).2 hs)) (brN (fun hh=>?_) (fun hh=>?_)))
 ·rw [zjf hh];rfl
 obtain ⟨g1,g2,g3⟩:=zcQ hh;have hx:=zlK hs g2 g3;have hk:zM (gOf a0 a1 a2)=2:=of_decide_eq_true hw;rw [zhc hh,hk];refine must (zx g2) (must (zx g3) (must (zgs rfl hw) ?_))
 show _=some (zey (zii a0 a1 a2 (plainly (gOf a0 a1 a2)),true))
 exact must (zx g2) (must (zbO hx) (must (zx g3) rfl))
theorem zu8:Holds Tryz.prog 37 zys:=kF3 zOs zy zbT zgN (zA []) zyh
theorem zyi (a0:Host)(a1 a2:Int)(hc:(zq1 a0 a1 a2)=true):∃N,zp8 N a0 a1 a2=some [aH (zqZ a0 a1 a2),aB (zq0 a0 a1 a2)]:=by
 obtain ⟨hc,hw⟩:=zjh hc;have hs:=(zO a0).1 (zJ.1 hc);refine ⟨0,?_⟩
 show _=some (zey (zbi a0 a1 a2))
 unfold zp8 oN nB
 conv=>zeta
 refine must (zbO ((zO _).2 hs)) (must (zbO ((zO _).2 hs)) (brN (fun hh=>?_) (fun hh=>?_)))
 ·rw [zjf hh];rfl
 obtain ⟨g1,g2,g3⟩:=zcQ hh;have hx:=zlK hs g2 g3;have hk:zM (gOf a0 a1 a2)=3:=of_decide_eq_true hw;rw [zhc hh,hk];refine must (zx g2) (must (zx g3) (must (zgs rfl hw) ?_))
 show _=some (zey (zhd (zjS a0 a1 a2 (gOf a0 a1 a2) false) a1 a2 (gOf a0 a1 a2) false,true))
 have k:=zsm (b:=a0.Buffer) (page:=zU (address (gOf a0 a1 a2))) (need:=zbL false) (io:=false) hs hh;have F:=zxJ k g2 g3;have e3:(ix (ix (zd0 (zi a0) (zi a0).Buffer a1 a2 (zcg (zgR (ix (ix (zi a0).Mons a1 zf).Guests a2 zq))) (zec false) false).Mons a1 zf).Guests a2 zq)=(ix (ix (zi a0).Mons a1 zf).Guests a2 zq):=congrArg (fun l=>ix l a2 gZ) (zCm k.gs a1);rw [e3];unfold zhd;refine must rfl (must rfl (must rfl (must (zbO ((zO _).2 hs)) (brN (fun h=>?_) (fun h=>?_)))))
 ·rw [show (zjS a0 a1 a2 (gOf a0 a1 a2) false).2.2=false from h]
  exact must (zx F.hm) (must rfl (must rfl (must (zbO hx) (must (zx F.hg) rfl))))
 ·rw [show (zjS a0 a1 a2 (gOf a0 a1 a2) false).2.2=true from h]
  exact must (zx F.hm) (must rfl (must rfl (must (zbO hx) (must (zx F.hg) rfl))))
theorem zu9:Holds Tryz.prog 37 zyt:=kF3 zOt zy zbT zgN (zA []) zyi
theorem zyj (a0:Host)(a1 a2:Int)(hc:(zq4 a0 a1 a2)=true):∃N,zp9 N a0 a1 a2=some [aH (zq2 a0 a1 a2),aB (zq3 a0 a1 a2)]:=by
 obtain ⟨hc,hw⟩:=zjh hc;have hs:=(zO a0).1 (zJ.1 hc);refine ⟨0,?_⟩
 show _=some (zey (zbi a0 a1 a2))
 unfold zp9 oN nB
 conv=>zeta
 refine must (zbO ((zO _).2 hs)) (must (zbO ((zO _).2 hs)) (brN (fun hh=>?_) (fun hh=>?_)))
 ·rw [zjf hh];rfl
 obtain ⟨g1,g2,g3⟩:=zcQ hh;have hx:=zlK hs g2 g3;have hk:zM (gOf a0 a1 a2)=4:=of_decide_eq_true hw;rw [zhc hh,hk];refine must (zx g2) (must (zx g3) (must (zgs rfl hw) ?_))
 show _=some (zey (zhd (zjS a0 a1 a2 (gOf a0 a1 a2) true) a1 a2 (gOf a0 a1 a2) true,true))
 have k:=zsm (b:=a0.Buffer) (page:=zU (address (gOf a0 a1 a2))) (need:=zbL true) (io:=false) hs hh;have F:=zxJ k g2 g3;have e3:(ix (ix (zd0 (zi a0) (zi a0).Buffer a1 a2 (zcg (zgR (ix (ix (zi a0).Mons a1 zf).Guests a2 zq))) (zec true) false).Mons a1 zf).Guests a2 zq)=(ix (ix (zi a0).Mons a1 zf).Guests a2 zq):=congrArg (fun l=>ix l a2 gZ) (zCm k.gs a1);rw [e3];unfold zhd;refine must rfl (must rfl (must rfl (must (zbO ((zO _).2 hs)) (brN (fun h=>?_) (fun h=>?_)))))
 ·rw [show (zjS a0 a1 a2 (gOf a0 a1 a2) true).2.2=false from h]
  exact must (zx F.hm) (must rfl (must rfl (must (zbO hx) (must (zx F.hg) rfl))))
 ·rw [show (zjS a0 a1 a2 (gOf a0 a1 a2) true).2.2=true from h]
  exact must rfl (must (zbO k.shape.1.1) (must (zx F.hm) (must (zbO hx) (must (zx F.hg) rfl))))
theorem zva:Holds Tryz.prog 37 zyu:=kF3 zOu zy zbT zgN (zA []) zyj
theorem zUY {a0:Host}{a1 a2:Int}(hx:SmG (gOf a0 a1 a2))(g2:hasB a1 (ln a0.Mons)=true)(g3:hasB a2 (ln (ix a0.Mons a1 mZ).Guests)=true) :
 (cond (zc4 (ix (ix (zi a0).Mons a1 zf).Guests a2 zq) (ix (ix (zi a0).Mons a1 zf).Guests a2 zq).Ctl.Traps 5) (cond (zcH (ix (ix (zi a0).Mons a1 zf).Guests a2 zq) (ix (ix (zi a0).Mons a1 zf).Guests a2 zq).Ctl.Traps 5) (cond (inb a1 (ln (zi a0).Mons)) (cond (ilt (ln (ix (zi a0).Mons a1 zf).Outs) 40) (cond (inb a1 (ln (zi a0).Mons)) (cond (zer (ix (ix (zi a0).Mons a1 zf).Guests a2 zq).Prog (ix (ix (zi a0).Mons a1 zf).Guests a2 zq).Pc) (cond (few (ln (ap (ix (zi a0).Mons a1 zf).Outs [(zeC (ix (ix (zi a0).Mons a1 zf).Guests a2 zq).Prog (ix (ix (zi a0).Mons a1 zf).Guests a2 zq).Pc).X]))) (cond (inb a1 (ln (zi a0).Mons)) (cond (cond (ieq a1 a1) true false) (share (up (zi a0).Mons a1 ({ (ix (zi a0).Mons a1 zf) with Outs:=(ap (ix (zi a0).Mons a1 zf).Outs [(zeC (ix (ix (zi a0).Mons a1 zf).Guests a2 zq).Prog (ix (ix (zi a0).Mons a1 zf).Guests a2 zq).Pc).X]) }:Mon)) (fun x4=>(cond (inb a1 (ln x4)) (cond (inb a2 (ln (ix x4 a1 zf).Guests)) (share (up x4 a1 ({ (ix x4 a1 zf) with Guests:=(up (ix x4 a1 zf).Guests a2 (zbP (ix (ix (zi a0).Mons a1 zf).Guests a2 zq) (ix (ix (zi a0).Mons a1 zf).Guests a2 zq).Ctl.Traps 5)) }:Mon)) (fun x5=>(some [(.agg (zbE ({ (zi a0) with Mons:=x5 }:Host))),(.one (.b true))]))) none) none))) none) none) none) none) none) (cond (inb a1 (ln (zi a0).Mons)) (cond (inb a2 (ln (ix (zi a0).Mons a1 zf).Guests)) (share (up (zi a0).Mons a1 ({ (ix (zi a0).Mons a1 zf) with Guests:=(up (ix (zi a0).Mons a1 zf).Guests a2 (zbP (ix (ix (zi a0).Mons a1 zf).Guests a2 zq) (ix (ix (zi a0).Mons a1 zf).Guests a2 zq).Ctl.Traps 5)) }:Mon)) (fun x4=>(some [(.agg (zbE ({ (zi a0) with Mons:=x4 }:Host))),(.one (.b true))]))) none) none)) none) (cond (inb a1 (ln (zi a0).Mons)) (cond (inb a2 (ln (ix (zi a0).Mons a1 zf).Guests)) (share (up (zi a0).Mons a1 ({ (ix (zi a0).Mons a1 zf) with Guests:=(up (ix (zi a0).Mons a1 zf).Guests a2 (zbP (ix (ix (zi a0).Mons a1 zf).Guests a2 zq) (ix (ix (zi a0).Mons a1 zf).Guests a2 zq).Ctl.Traps 5)) }:Mon)) (fun x4=>(some [(.agg (zbE ({ (zi a0) with Mons:=x4 }:Host))),(.one (.b true))]))) none) none)) none)=some (zey (zii (ze1 a0 a1 (gOf a0 a1 a2) 5) a1 a2 (zhe (gOf a0 a1 a2) (gOf a0 a1 a2).Ctl.Traps 5),true)):=by
 refine must (zbO hx) (br (fun h1=>must (zx g2) (br (fun h3=>?_) (fun h3=>?_))) (fun h1=>?_))
 ·rw [zLw (h:=a0) (m:=a1) (x:=gOf a0 a1 a2) (w:=5) h1 rfl h3];refine must (zx g2) (must rfl (must (zUX h3) (must (zx g2) (must (zQR _) (shr (must (zx (zeP g2)) (must ?_ rfl)))))));rw [zDj g2];exact zx g3
 ·rw [zG8 (h:=a0) (m:=a1) (x:=gOf a0 a1 a2) (w:=5) h3];exact must (zx g2) (must (zx g3) rfl)
 ·rw [zRX (h:=a0) (m:=a1) (x:=gOf a0 a1 a2) (w:=5) h1];exact must (zx g2) (must (zx g3) rfl)
theorem zXI {a0:Host}{x4:List Mon}{a1 a2:Int}(hx:SmG (gOf a0 a1 a2))(g2:hasB a1 (ln x4)=true)(g3:hasB a2 (ln (ix x4 a1 mZ).Guests)=true)(e:(ix (ix x4 a1 zf).Guests a2 zq)=gOf a0 a1 a2) :
 (cond (zc4 ({ (ix (ix (zi a0).Mons a1 zf).Guests a2 zq) with Prog:=(ix (ix x4 a1 zf).Guests a2 zq).Prog,Written:=(ix (ix x4 a1 zf).Guests a2 zq).Written,Live:=(ix (ix x4 a1 zf).Guests a2 zq).Live,Seen:=(ix (ix x4 a1 zf).Guests a2 zq).Seen }:Guest) (ix (ix (zi a0).Mons a1 zf).Guests a2 zq).Ctl.Traps 5) (cond (zcH ({ (ix (ix (zi a0).Mons a1 zf).Guests a2 zq) with Prog:=(ix (ix x4 a1 zf).Guests a2 zq).Prog,Written:=(ix (ix x4 a1 zf).Guests a2 zq).Written,Live:=(ix (ix x4 a1 zf).Guests a2 zq).Live,Seen:=(ix (ix x4 a1 zf).Guests a2 zq).Seen }:Guest) (ix (ix (zi a0).Mons a1 zf).Guests a2 zq).Ctl.Traps 5) (cond (inb a1 (ln x4)) (cond (ilt (ln (ix x4 a1 zf).Outs) 40) (cond (inb a1 (ln x4)) (cond (zer (ix (ix x4 a1 zf).Guests a2 zq).Prog (ix (ix (zi a0).Mons a1 zf).Guests a2 zq).Pc) (cond (few (ln (ap (ix x4 a1 zf).Outs [(zeC (ix (ix x4 a1 zf).Guests a2 zq).Prog (ix (ix (zi a0).Mons a1 zf).Guests a2 zq).Pc).X]))) (cond (inb a1 (ln x4)) (cond (cond (ieq a1 a1) true false) (share (up x4 a1 ({ (ix x4 a1 zf) with Outs:=(ap (ix x4 a1 zf).Outs [(zeC (ix (ix x4 a1 zf).Guests a2 zq).Prog (ix (ix (zi a0).Mons a1 zf).Guests a2 zq).Pc).X]) }:Mon)) (fun x5=>(cond (inb a1 (ln x5)) (cond (inb a2 (ln (ix x5 a1 zf).Guests)) (share (up x5 a1 ({ (ix x5 a1 zf) with Guests:=(up (ix x5 a1 zf).Guests a2 (zbP ({ (ix (ix (zi a0).Mons a1 zf).Guests a2 zq) with Prog:=(ix (ix x4 a1 zf).Guests a2 zq).Prog,Written:=(ix (ix x4 a1 zf).Guests a2 zq).Written,Live:=(ix (ix x4 a1 zf).Guests a2 zq).Live,Seen:=(ix (ix x4 a1 zf).Guests a2 zq).Seen }:Guest) (ix (ix (zi a0).Mons a1 zf).Guests a2 zq).Ctl.Traps 5)) }:Mon)) (fun x6=>(some [(.agg (zbE ({ (zi a0) with Mons:=x6 }:Host))),(.one (.b true))]))) none) none))) none) none) none) none) none) (cond (inb a1 (ln x4)) (cond (inb a2 (ln (ix x4 a1 zf).Guests)) (share (up x4 a1 ({ (ix x4 a1 zf) with Guests:=(up (ix x4 a1 zf).Guests a2 (zbP ({ (ix (ix (zi a0).Mons a1 zf).Guests a2 zq) with Prog:=(ix (ix x4 a1 zf).Guests a2 zq).Prog,Written:=(ix (ix x4 a1 zf).Guests a2 zq).Written,Live:=(ix (ix x4 a1 zf).Guests a2 zq).Live,Seen:=(ix (ix x4 a1 zf).Guests a2 zq).Seen }:Guest) (ix (ix (zi a0).Mons a1 zf).Guests a2 zq).Ctl.Traps 5)) }:Mon)) (fun x5=>(some [(.agg (zbE ({ (zi a0) with Mons:=x5 }:Host))),(.one (.b true))]))) none) none)) none) (cond (inb a1 (ln x4)) (cond (inb a2 (ln (ix x4 a1 zf).Guests)) (share (up x4 a1 ({ (ix x4 a1 zf) with Guests:=(up (ix x4 a1 zf).Guests a2 (zbP ({ (ix (ix (zi a0).Mons a1 zf).Guests a2 zq) with Prog:=(ix (ix x4 a1 zf).Guests a2 zq).Prog,Written:=(ix (ix x4 a1 zf).Guests a2 zq).Written,Live:=(ix (ix x4 a1 zf).Guests a2 zq).Live,Seen:=(ix (ix x4 a1 zf).Guests a2 zq).Seen }:Guest) (ix (ix (zi a0).Mons a1 zf).Guests a2 zq).Ctl.Traps 5)) }:Mon)) (fun x5=>(some [(.agg (zbE ({ (zi a0) with Mons:=x5 }:Host))),(.one (.b true))]))) none) none)) none)=some (zey (zii (ze1 { a0 with Mons:=x4 } a1 (gOf a0 a1 a2) 5) a1 a2 (zhe (gOf a0 a1 a2) (gOf a0 a1 a2).Ctl.Traps 5),true)):=by
 rw [e];refine must (zbO hx) (br (fun h1=>must (zx g2) (br (fun h3=>?_) (fun h3=>?_))) (fun h1=>?_))
 ·rw [zLw (h:={ a0 with Mons:=x4 }) (m:=a1) (x:=gOf a0 a1 a2) (w:=5) h1 rfl h3];refine must (zx g2) (must rfl (must (zUX h3) (must (zx g2) (must (zQR _) (shr (must (zx (zeP (h:={ a0 with Mons:=x4 }) g2)) (must ?_ rfl)))))));rw [zDj (h:={ a0 with Mons:=x4 }) g2];exact zx g3
 ·rw [zG8 (h:={ a0 with Mons:=x4 }) (m:=a1) (x:=gOf a0 a1 a2) (w:=5) h3];exact must (zx g2) (must (zx g3) rfl)
 ·rw [zRX (h:={ a0 with Mons:=x4 }) (m:=a1) (x:=gOf a0 a1 a2) (w:=5) h1];exact must (zx g2) (must (zx g3) rfl)
theorem zyk (a0:Host)(a1 a2:Int)(hc:(zq7 a0 a1 a2)=true):∃N,zqa N a0 a1 a2=some [aH (zq5 a0 a1 a2),aB (zq6 a0 a1 a2)]:=by
 obtain ⟨hc,hw⟩:=zjh hc;have hs:=(zO a0).1 (zJ.1 hc);refine ⟨0,?_⟩
 show _=some (zey (zbi a0 a1 a2))
 unfold zqa oN nB
 conv=>zeta
 refine must (zbO ((zO _).2 hs)) (must (zbO ((zO _).2 hs)) (brN (fun hh=>?_) (fun hh=>?_)))
 ·rw [zjf hh];rfl
 obtain ⟨g1,g2,g3⟩:=zcQ hh;have hx:=zlK hs g2 g3;have hk:zM (gOf a0 a1 a2)=5:=of_decide_eq_true hw;rw [zhc hh,hk];refine must (zx g2) (must (zx g3) (must (zgs rfl hw) ?_))
 show _=some (zey (zrn a0 a1 a2 (gOf a0 a1 a2) 5,true))
 refine must (zx g2) (must rfl (br (fun h0=>must (zx g2) (br (fun h9=>must (zx g2) (must (zx g2) (shr ?_))) (fun h9=>?_))) (fun h0=>?_)))
 ·rw [zkm (zN4 (h:=a0) (m:=a1) (x:=gOf a0 a1 a2) (w:=5) rfl h0 h9)];have eM:=zDj g2 { ix a0.Mons a1 mZ with Own:=zK .i64 (ix a0.Mons a1 mZ).Own 1 };refine zXI hx (zeP g2) ?_ ?_
  ·show hasB a2 (ln (ix (up a0.Mons a1 _) a1 mZ).Guests)=true
   rw [eM];exact g3
  ·show ix (ix (up a0.Mons a1 _) a1 mZ).Guests a2 gZ=_
   rw [eM];rfl
 ·rw [zkm (zN3 (h:=a0) (m:=a1) (x:=gOf a0 a1 a2) (w:=5) h9)];exact zUY hx g2 g3
 ·rw [zkm (zN2 (h:=a0) (m:=a1) (x:=gOf a0 a1 a2) (w:=5) h0)];exact zUY hx g2 g3
theorem zvb:Holds Tryz.prog 37 zyv:=kF3 zOv zy zbT zgN (zA []) zyk
theorem zyl (a0:Host)(a1 a2:Int)(hc:(zra a0 a1 a2)=true):∃N,zqb N a0 a1 a2=some [aH (zq8 a0 a1 a2),aB (zq9 a0 a1 a2)]:=by
 obtain ⟨hc,hw⟩:=zjh hc;have hs:=(zO a0).1 (zJ.1 hc);refine ⟨0,?_⟩
 show _=some (zey (zbi a0 a1 a2))
 unfold zqb oN nB
 conv=>zeta
 refine must (zbO ((zO _).2 hs)) (must (zbO ((zO _).2 hs)) (brN (fun hh=>?_) (fun hh=>?_)))
 ·rw [zjf hh];rfl
 obtain ⟨g1,g2,g3⟩:=zcQ hh;have hx:=zlK hs g2 g3;have hk:zM (gOf a0 a1 a2)=6:=of_decide_eq_true hw;rw [zhc hh,hk];refine must (zx g2) (must (zx g3) (must (zgs rfl hw) ?_))
 show _=some (zey (zrn a0 a1 a2 (gOf a0 a1 a2) 6,true))
 rw [zkm (zWI (h:=a0) (m:=a1) (x:=gOf a0 a1 a2)),zD2 (w:=6) rfl];exact must (zbO hx) (br (fun h1=>must (zx g2) (must (zx g3) rfl)) (fun h1=>must (zx g2) (must (zx g3) rfl)))
theorem zvc:Holds Tryz.prog 37 zyw:=kF3 zOw zy zbT zgN (zA []) zyl
theorem zUZ {a0:Host}{a1 a2:Int}(hx:SmG (gOf a0 a1 a2))(g2:hasB a1 (ln a0.Mons)=true)(g3:hasB a2 (ln (ix a0.Mons a1 mZ).Guests)=true) :
 (cond (zc4 (ix (ix (zi a0).Mons a1 zf).Guests a2 zq) (ix (ix (zi a0).Mons a1 zf).Guests a2 zq).Ctl.Traps 7) (cond (zcH (ix (ix (zi a0).Mons a1 zf).Guests a2 zq) (ix (ix (zi a0).Mons a1 zf).Guests a2 zq).Ctl.Traps 7) (cond (inb a1 (ln (zi a0).Mons)) (cond (inb a2 (ln (ix (zi a0).Mons a1 zf).Guests)) (share (up (zi a0).Mons a1 ({ (ix (zi a0).Mons a1 zf) with Guests:=(up (ix (zi a0).Mons a1 zf).Guests a2 (zbP (ix (ix (zi a0).Mons a1 zf).Guests a2 zq) (ix (ix (zi a0).Mons a1 zf).Guests a2 zq).Ctl.Traps 7)) }:Mon)) (fun x4=>(some [(.agg (zbE ({ (zi a0) with Mons:=x4 }:Host))),(.one (.b true))]))) none) none) (cond (inb a1 (ln (zi a0).Mons)) (cond (inb a2 (ln (ix (zi a0).Mons a1 zf).Guests)) (share (up (zi a0).Mons a1 ({ (ix (zi a0).Mons a1 zf) with Guests:=(up (ix (zi a0).Mons a1 zf).Guests a2 (zbP (ix (ix (zi a0).Mons a1 zf).Guests a2 zq) (ix (ix (zi a0).Mons a1 zf).Guests a2 zq).Ctl.Traps 7)) }:Mon)) (fun x4=>(some [(.agg (zbE ({ (zi a0) with Mons:=x4 }:Host))),(.one (.b true))]))) none) none)) none)=some (zey (zii a0 a1 a2 (zhe (gOf a0 a1 a2) (gOf a0 a1 a2).Ctl.Traps 7),true)) :=
 must (zbO hx) (br (fun h1=>must (zx g2) (must (zx g3) rfl)) (fun h1=>must (zx g2) (must (zx g3) rfl)))
theorem zXJ {a0:Host}{x4:List Mon}{a1 a2:Int}(hx:SmG (gOf a0 a1 a2))(g2:hasB a1 (ln x4)=true)(g3:hasB a2 (ln (ix x4 a1 mZ).Guests)=true)(e:(ix (ix x4 a1 zf).Guests a2 zq)=gOf a0 a1 a2) :
 (cond (zc4 ({ (ix (ix (zi a0).Mons a1 zf).Guests a2 zq) with Prog:=(ix (ix x4 a1 zf).Guests a2 zq).Prog,Written:=(ix (ix x4 a1 zf).Guests a2 zq).Written,Live:=(ix (ix x4 a1 zf).Guests a2 zq).Live,Seen:=(ix (ix x4 a1 zf).Guests a2 zq).Seen }:Guest) (ix (ix (zi a0).Mons a1 zf).Guests a2 zq).Ctl.Traps 7) (cond (zcH ({ (ix (ix (zi a0).Mons a1 zf).Guests a2 zq) with Prog:=(ix (ix x4 a1 zf).Guests a2 zq).Prog,Written:=(ix (ix x4 a1 zf).Guests a2 zq).Written,Live:=(ix (ix x4 a1 zf).Guests a2 zq).Live,Seen:=(ix (ix x4 a1 zf).Guests a2 zq).Seen }:Guest) (ix (ix (zi a0).Mons a1 zf).Guests a2 zq).Ctl.Traps 7) (cond (inb a1 (ln x4)) (cond (inb a2 (ln (ix x4 a1 zf).Guests)) (share (up x4 a1 ({ (ix x4 a1 zf) with Guests:=(up (ix x4 a1 zf).Guests a2 (zbP ({ (ix (ix (zi a0).Mons a1 zf).Guests a2 zq) with Prog:=(ix (ix x4 a1 zf).Guests a2 zq).Prog,Written:=(ix (ix x4 a1 zf).Guests a2 zq).Written,Live:=(ix (ix x4 a1 zf).Guests a2 zq).Live,Seen:=(ix (ix x4 a1 zf).Guests a2 zq).Seen }:Guest) (ix (ix (zi a0).Mons a1 zf).Guests a2 zq).Ctl.Traps 7)) }:Mon)) (fun x5=>(some [(.agg (zbE ({ (zi a0) with Mons:=x5 }:Host))),(.one (.b true))]))) none) none) (cond (inb a1 (ln x4)) (cond (inb a2 (ln (ix x4 a1 zf).Guests)) (share (up x4 a1 ({ (ix x4 a1 zf) with Guests:=(up (ix x4 a1 zf).Guests a2 (zbP ({ (ix (ix (zi a0).Mons a1 zf).Guests a2 zq) with Prog:=(ix (ix x4 a1 zf).Guests a2 zq).Prog,Written:=(ix (ix x4 a1 zf).Guests a2 zq).Written,Live:=(ix (ix x4 a1 zf).Guests a2 zq).Live,Seen:=(ix (ix x4 a1 zf).Guests a2 zq).Seen }:Guest) (ix (ix (zi a0).Mons a1 zf).Guests a2 zq).Ctl.Traps 7)) }:Mon)) (fun x5=>(some [(.agg (zbE ({ (zi a0) with Mons:=x5 }:Host))),(.one (.b true))]))) none) none)) none)=some (zey (zii { a0 with Mons:=x4 } a1 a2 (zhe (gOf a0 a1 a2) (gOf a0 a1 a2).Ctl.Traps 7),true)):=by
 rw [e];exact must (zbO hx) (br (fun h1=>must (zx g2) (must (zx g3) rfl)) (fun h1=>must (zx g2) (must (zx g3) rfl)))
theorem zym (a0:Host)(a1 a2:Int)(hc:(zre a0 a1 a2)=true):∃N,zqc N a0 a1 a2=some [aH (zrb a0 a1 a2),aB (zrd a0 a1 a2)]:=by
 obtain ⟨hc,hw⟩:=zjh hc;have hs:=(zO a0).1 (zJ.1 hc);refine ⟨0,?_⟩
 show _=some (zey (zbi a0 a1 a2))
 unfold zqc oN nB
 conv=>zeta
 refine must (zbO ((zO _).2 hs)) (must (zbO ((zO _).2 hs)) (brN (fun hh=>?_) (fun hh=>?_)))
 ·rw [zjf hh];rfl
 obtain ⟨g1,g2,g3⟩:=zcQ hh;have hx:=zlK hs g2 g3;have hk:zM (gOf a0 a1 a2)=7:=of_decide_eq_true hw;rw [zhc hh,hk];refine must (zx g2) (must (zx g3) (must (zgs rfl hw) ?_))
 show _=some (zey (zrn a0 a1 a2 (gOf a0 a1 a2) 7,true))
 refine must (zx g2) (must rfl (br (fun h0=>must (zx g2) (br (fun h9=>must (zx g2) (must (zx g2) (shr ?_))) (fun h9=>?_))) (fun h0=>?_)))
 ·rw [zkm (zN4 (h:=a0) (m:=a1) (x:=gOf a0 a1 a2) (w:=7) rfl h0 h9),zD2 (w:=7) rfl];have eM:=zDj g2 { ix a0.Mons a1 mZ with Own:=zK .i64 (ix a0.Mons a1 mZ).Own 1 };refine zXJ hx (zeP g2) ?_ ?_
  ·show hasB a2 (ln (ix (up a0.Mons a1 _) a1 mZ).Guests)=true
   rw [eM];exact g3
  ·show ix (ix (up a0.Mons a1 _) a1 mZ).Guests a2 gZ=_
   rw [eM];rfl
 ·rw [zkm (zN3 (h:=a0) (m:=a1) (x:=gOf a0 a1 a2) (w:=7) h9),zD2 (w:=7) rfl];exact zUZ hx g2 g3
 ·rw [zkm (zN2 (h:=a0) (m:=a1) (x:=gOf a0 a1 a2) (w:=7) h0),zD2 (w:=7) rfl];exact zUZ hx g2 g3
theorem zvd:Holds Tryz.prog 37 zyx:=kF3 zOx zy zbT zgN (zA []) zym
def zmm:List AV->Option (Bool×List AV)
 | [.agg [.s (.sl .int) b,.s .mon c,.s .entry d,.s .entry e],.one (.i .i64 f),.one (.i .i64 g)]=>some ((zdD (⟨b,c,d,e⟩:Host) f g),[aH (zw3 (⟨b,c,d,e⟩:Host) f g),aB (zw4 (⟨b,c,d,e⟩:Host) f g)])
 | _=>none
theorem zAv:Holds Tryz.prog 37 zmm:=by
 refine ⟨zlO.1,fun w avs xs rs hrep h=>?_⟩;unfold zmm at h;split at h
 ·rename_i a0_0 a0_1 a0_2 a0_3 a1 a2;obtain ⟨hc,rfl⟩:=zdi h;rcases zTU (gOf (⟨a0_0,a0_1,a0_2,a0_3⟩:Host) a1 a2) with e|e|e|e|e|e|e|e
  ·exact zlO.2 w _ xs _ hrep (congrArg (fun c=>some (c,zey (zbi (⟨a0_0,a0_1,a0_2,a0_3⟩:Host) a1 a2))) (zgs hc e))
  ·exact zu7.2 w _ xs _ hrep (congrArg (fun c=>some (c,zey (zbi (⟨a0_0,a0_1,a0_2,a0_3⟩:Host) a1 a2))) (zgs hc e))
  ·exact zu8.2 w _ xs _ hrep (congrArg (fun c=>some (c,zey (zbi (⟨a0_0,a0_1,a0_2,a0_3⟩:Host) a1 a2))) (zgs hc e))
  ·exact zu9.2 w _ xs _ hrep (congrArg (fun c=>some (c,zey (zbi (⟨a0_0,a0_1,a0_2,a0_3⟩:Host) a1 a2))) (zgs hc e))
  ·exact zva.2 w _ xs _ hrep (congrArg (fun c=>some (c,zey (zbi (⟨a0_0,a0_1,a0_2,a0_3⟩:Host) a1 a2))) (zgs hc e))
  ·exact zvb.2 w _ xs _ hrep (congrArg (fun c=>some (c,zey (zbi (⟨a0_0,a0_1,a0_2,a0_3⟩:Host) a1 a2))) (zgs hc e))
  ·exact zvc.2 w _ xs _ hrep (congrArg (fun c=>some (c,zey (zbi (⟨a0_0,a0_1,a0_2,a0_3⟩:Host) a1 a2))) (zgs hc e))
  ·exact zvd.2 w _ xs _ hrep (congrArg (fun c=>some (c,zey (zbi (⟨a0_0,a0_1,a0_2,a0_3⟩:Host) a1 a2))) (zgs hc e))
 ·cases h
def zUO:zS:=[(37,zmm)]++zjP
theorem zSH:zD zUO:=zk zAv zgi
def zUP:zS:=zUO
theorem zSI:zD zUP:=zSH
def brought (n a b:Int):Int:=bif ilt n a then a else (cond (ilt b a) a (zEX n b))
@[simp] abbrev zm6 (_ _ _:Int):Bool:=true
@[simp] abbrev znK (n a b:Int):Int:=brought n a b
def zn9:Run:=rF3 dI dI dI (fun b c d=>((zm6 b c d),[aI (znK b c d)]))
def zyF (N:Nat)(a0 a1 a2:Int):OA :=
 (cond (ilt a2 a1) (some [(aI a1)]) (cond (ilt a0 a1) (some [(aI a1)]) (cond (igt a0 a2) (some [(aI a2)]) (some [(aI a0)]))))
theorem zHF (a0 a1 a2:Int)(hc:(zm6 a0 a1 a2)=true):∃N,zyF N a0 a1 a2=some [aI (znK a0 a1 a2)]:=by
 refine ⟨0,?_⟩;unfold zyF;unfold znK brought zEX;cases h1:ilt a2 a1<;>cases h2:ilt a0 a1<;>cases h3:igt a0 a2<;>simp [igt] at * <;> omega
theorem zqy:Holds Tryz.prog 54 zn9:=kF3 zti zy zC zB (zA []) zHF
structure RI (a:List Bare) (i:Nat) (l:List Bare):Prop where
 len:l.length=a.length
 sm:zOd l
 eq:∀k,i<=k->l[k]?=a[k]?
theorem RI.up {a l:List Bare}{i:Nat}(h:RI a i l)(x:Bare)(hx:SmB x):RI a (i+1) (up l (i:Int) x) :=
 ⟨by rw [ze9];exact h.len,zWB h.sm hx,fun k hk=>by rw [zXe (by omega)];exact h.eq k (by omega)⟩
structure RJ (l:List Bare) (i:Nat) (l':List Bare):Prop where
 len:l'.length=l.length
 sm:SmB (ix l' (i:Int) zLR)
 up:∀x,E.up l' (i:Int) x=E.up l (i:Int) x
theorem RJ.next {l l':List Bare}{i:Nat}(h:RJ l i l')(hi:i<l.length)(x:Bare)(hx:SmB x):RJ l i (E.up l' (i:Int) x) :=
 ⟨by rw [ze9];exact h.len,by rw [zeY (by rw [h.len];exact hi)];exact hx,fun y=>by rw [zxT];exact h.up y⟩
def zQt:zS:=zUP
theorem zQu:zD zQt:=zSI
theorem zLk {h:Host}{m:Int}(hs:SmH h)(hm:hasB m (ln h.Mons)=true):SmB (zo h m):=by
 have g1:=hs.2.1.2 _ (zbj hm mZ);have hP:∀(mm:List (List Int)) (q:Int),SmM mm->(zb4 mm q).length<=1048576:=fun mm q h=>zLm h;have hpg:∀p:Int,(zcu h m p).length<=1048576:=by
  intro p;unfold zcu;cases hasB m (ln h.Mons)
  ·exact (by decide:zt7.length<=1048576)
  ·cases hasB p 8
   ·exact (by decide:zt7.length<=1048576)
   ·simp only [cT];cases ine (zbh (ix h.Mons m zf).Outer p).Page (-1)
    ·exact hP _ _ g1.2.1
    ·exact hP _ _ hs.1
 have hN:∀(n i:Nat),∀x∈zb7 h m n i,x.length<=1048576:=by
  intro n
  induction n with
  | zero=>intro i x hx;cases hx
  | succ n ih =>
   intro i x hx;rcases List.mem_cons.1 hx with rfl|hx
   ·exact hpg _
   ·exact ih (i+1) x hx
 unfold zo;rw [hm];exact ⟨⟨by show (zb7 h m 8 0).length<=1048576;rw [ztI];decide,hN 8 0⟩,g1.2.2.2.1,g1.2.2.2.2.1⟩
def zUQ:zS:=zQt
theorem zSJ:zD zUQ:=zQu
def zUR:zS:=[(54,zn9)]++zUQ
theorem zSK:zD zUR:=zk zqy zSJ
def cnt (l:List Mon):List Nat:=l.map fun x=>x.Guests.length
theorem zWV {l l':List Mon}(h:zde l'=zde l):cnt l'=cnt l:=by
 have e:∀l:List Mon,cnt l=(zde l).map List.length:=fun l=>by simp [cnt,zde]
 rw [e,e,h]
theorem zI7 {l:List Mon}{m:Int}{x:Mon}(hm:hasB m (ln l)=true)(hx:x.Guests.length=(ix l m mZ).Guests.length):cnt (up l m x)=cnt l:=by
 obtain ⟨k,rfl,hk⟩:=zex (n:=l.length) hm;unfold cnt up;rw [List.map_set,Int.toNat_natCast,hx,zbF hk];have:=@List.set_getElem_self _ (l.map fun x=>x.Guests.length) k (by simpa using hk)
 simpa using this
theorem zVs {l l':List Mon}(h:cnt l'=cnt l):l'.length=l.length:=by
 have:=congrArg List.length h;simpa [cnt] using this
theorem zWW {l l':List Mon}(h:cnt l'=cnt l)(m:Int):(ix l' m mZ).Guests.length=(ix l m mZ).Guests.length:=by
 have h2:(cnt l')[m.toNat]?=(cnt l)[m.toNat]?:=by rw [h]
 unfold cnt at h2;rw [List.getElem?_map,List.getElem?_map] at h2;unfold ix;simp only [List.getD_eq_getElem?_getD];cases h3:l'[m.toNat]? <;> cases h4:l[m.toNat]? <;> rw [h3,h4] at h2<;>simp at h2 ⊢;exact h2
theorem zWh (h:Host)(m p:Int):(zc5 h m p).Memory=h.Memory:=(zfJ (ziR h m p) m p noSlot).2
theorem zWg (h:Host):(zd8 h).Memory=h.Memory:=by
 unfold zd8;cases ieq (ln (zcp h)) 0
 ·rfl
 ·exact zWh _ _ _
theorem zWf (m:List (List Int))(p:Int)(c:List Int):(zhf m p c).length=m.length:=by
 unfold zhf;cases hasB p (ln m)
 ·rfl
 ·cases zcr c
  ·rfl
  ·simp
theorem zWd (m:List (List Int))(p c v:Int):(zbm m p c v).length=m.length:=by
 unfold zbm;cases zf4 m p c
 ·rfl
 ·cases win v 0 99
  ·rfl
  ·simp
theorem zO6 (h:Host)(m p:Int):(fetched h m p).Memory.length=h.Memory.length:=by
 unfold fetched zfh;rw [(zfJ _ _ _ _).2];unfold landing;rw [zWf,zWg]
theorem zKF (h:Host)(m p n:Int):(ziP h m p n).Memory=h.Memory:=by
 unfold ziP;cases ieq (wand .i64 n 2) 0
 ·unfold opened;cases ieq (wand .i64 (ix (ix (zbQ h m p).Mons m mZ).Outer p sZ).Rights 2) 0
  ·rfl
  ·exact (zfJ _ _ _ _).2
 ·rfl
theorem zRa (h:Host)(m p n:Int):(mended h m p n).Memory.length=h.Memory.length:=by
 unfold mended;cases ieq (ix (ix h.Mons m mZ).Outer p sZ).Page (-1)
 ·exact congrArg List.length (zKF _ _ _ _)
 ·exact (congrArg List.length (zKF _ _ _ _)).trans (zO6 _ _ _)
theorem zRb (h:Host)(m g p:Int)(io:Bool):(zqC h m g p io).Memory=h.Memory:=by cases io<;>rfl
theorem zTc (h:Host)(b:List Entry)(m g page need q:Int)(io:Bool):(zf2 h b m g page need q io).1.Memory.length=h.Memory.length:=by
 unfold zf2;cases zfR b m g page need
 ·cases zdV h m g page need
  ·exact congrArg List.length (zRb _ _ _ _ _)
  ·exact (congrArg List.length (zRb _ _ _ _ _)).trans (zRa h m q need)
 ·rfl
theorem zWe (h:Host)(b:List Entry)(m g page need:Int)(io:Bool):(lookOf h b m g page need io).1.Memory.length=h.Memory.length:=by
 unfold lookOf;cases zbG h m g page need
 ·rfl
 ·simp only [cT];rw [zTc];cases ieq need 2<;>rfl
structure Keep (h r:Host):Prop where
 shape:Shape r
 cnt:cnt r.Mons=cnt h.Mons
 mem:r.Memory.length=h.Memory.length
theorem Keep.has {h r:Host}(k:Keep h r){m:Int}(hm:hasB m (ln h.Mons)=true):hasB m (ln r.Mons)=true:=by
 rw [ln,zVs k.cnt];exact hm
theorem Keep.hg {h r:Host}(k:Keep h r){m g:Int}(hg:hasB g (ln (ix h.Mons m mZ).Guests)=true):hasB g (ln (ix r.Mons m mZ).Guests)=true:=by
 rw [ln,zWW k.cnt];exact hg
theorem Keep.trans {a b c:Host}(h:Keep a b)(k:Keep b c):Keep a c:=⟨k.shape,k.cnt.trans h.cnt,k.mem.trans h.mem⟩
theorem Keep.rfl' {h:Host}(hs:Shape h):Keep h h:=⟨hs,rfl,rfl⟩
theorem zkr {h:Host}{m g:Int}{x:Guest}(hs:Shape h)(hm:hasB m (ln h.Mons)=true)(hx:SmG x):Keep h (zii h m g x):=⟨zPC hs hm hx,zI7 hm (by simp),rfl⟩
theorem zwc {h:Host}{b:List Entry}{m g page need:Int}{io:Bool}(hs:SmH h)(hh:zbw h m g=true):Keep h (lookOf h b m g page need io).1:=by
 have k:=zsm (b:=b) (page:=page) (need:=need) (io:=io) hs hh;exact ⟨k.shape,zWV k.gs,zWe _ _ _ _ _ _ _⟩
theorem zQV {h:Host}{p c v:Int}(hs:Shape h):Keep h { h with Memory:=zbm h.Memory p c v }:=⟨zG4 hs (zt3 hs.1.1),rfl,zWd _ _ _ _⟩
theorem zOZ {h:Host}{m:Int}(hs:Shape h)(hm:hasB m (ln h.Mons)=true):Keep h (owned h m):=by
 obtain ⟨g1,g2⟩:=zdh hs hm;unfold owned;cases ilt (ix h.Mons m mZ).Own 1000000000
 ·exact Keep.rfl' hs
 ·exact ⟨zki hs g1 g2,zI7 hm rfl,rfl⟩
theorem zOY {h:Host}{m n:Int}(hs:Shape h)(hm:hasB m (ln h.Mons)=true):Keep h (zk1 h m n):=by
 obtain ⟨g1,g2⟩:=zdh hs hm;unfold zk1;cases h3:ilt (ln (ix h.Mons m mZ).Outs) 40
 ·exact Keep.rfl' hs
 ·have h4:=of_decide_eq_true h3;simp only [ln] at h4;refine ⟨zki hs ⟨g1.1,g1.2.1,g1.2.2.1,g1.2.2.2.1,?_,g1.2.2.2.2.2⟩ g2,zI7 hm rfl,rfl⟩;simp [ap];omega
theorem zQX {h:Host}{m g:Int}{x:Guest}{w:Int}(hs:Shape h)(hm:hasB m (ln h.Mons)=true)(hx:SmG x):Keep h (zrn h m g x w):=by
 have k1:Keep h (ze2 h m x w):=by
  unfold ze2;cases (cond (ine w 6) (ieq (ztG (ix h.Mons m mZ).Traps x.Ctl.Traps (zs4 w)) 2) false)
  ·exact Keep.rfl' hs
  ·exact zOZ hs hm
 have k2:Keep (ze2 h m x w) (ze1 (ze2 h m x w) m x w):=by
  unfold ze1;cases (cond (zhX x.Ctl.Traps w) (ieq w 5) false)
  ·exact Keep.rfl' k1.shape
  ·exact zOY k1.shape (k1.has hm)
 have k3:=k1.trans k2;exact k3.trans (zkr k3.shape (k3.has hm) (zxb _ _ hx))
theorem zQW {h:Host}{m g:Int}(hs:SmH h)(hh:zbw h m g=true):Keep h (zbi h m g).1:=by
 obtain ⟨g1,g2,g3⟩:=zcQ hh;have hx:=zlK hs g2 g3;have hS:=(zd4 hs g1).1;rw [zhc hh];unfold zLq;cases ieq (zM (gOf h m g)) 0
 ·cases ieq (zM (gOf h m g)) 1
  ·cases ieq (zM (gOf h m g)) 2
   ·cases (cond (ieq (zM (gOf h m g)) 3) true (ieq (zM (gOf h m g)) 4))
    ·exact zQX hS g2 hx
    ·have k:=zwc (b:=h.Buffer) (page:=zU (address (gOf h m g))) (need:=zbL (ieq (zM (gOf h m g)) 4)) (io:=false) hs hh
     show Keep h (zhd (zjS h m g (gOf h m g) (ieq (zM (gOf h m g)) 4)) m g (gOf h m g) (ieq (zM (gOf h m g)) 4))
     unfold zhd;cases (zjS h m g (gOf h m g) (ieq (zM (gOf h m g)) 4)).2.2
     ·exact k.trans (zkr k.shape (k.has g2) hx)
     ·cases ieq (zM (gOf h m g)) 4
      ·have k:=zwc (b:=h.Buffer) (page:=zU (address (gOf h m g))) (need:=zbL false) (io:=false) hs hh;exact k.trans (zkr k.shape (k.has g2) (zDR _ hx))
      ·have k:=zwc (b:=h.Buffer) (page:=zU (address (gOf h m g))) (need:=zbL true) (io:=false) hs hh;have k2:=zQV (p:=(zjS h m g (gOf h m g) true).2.1) (c:=zcA (address (gOf h m g))) (v:=(gOf h m g).A) k.shape;have k3:=k.trans k2;exact k3.trans (zkr k3.shape (k3.has g2) (ziA hx))
   ·exact zkr hS g2 (zzP hx)
  ·exact zkr hS g2 (zNS hx)
 ·exact Keep.rfl' hS
structure Same (h r:Host):Prop where
 sm:SmH r
 cnt:cnt r.Mons=cnt h.Mons
 mem:r.Memory.length=h.Memory.length
 st:r=h\/Shape r
theorem Same.rfl' {h:Host}(hs:SmH h):Same h h:=⟨hs,rfl,rfl,.inl rfl⟩
theorem Same.trans {a b c:Host}(h:Same a b)(k:Same b c):Same a c:=⟨k.sm,k.cnt.trans h.cnt,k.mem.trans h.mem,by
 rcases k.st with e|e
 ·rw [e];exact h.st
 ·exact .inr e⟩
theorem zRC {h:Host}(m g:Int)(hs:SmH h):Same h (zbi h m g).1:=by
 cases hh:zbw h m g
 ·rw [zjf hh];exact Same.rfl' hs
 ·have k:=zQW hs hh;exact ⟨k.shape.1,k.cnt,k.mem,.inr k.shape⟩
end
end Go.Proofs.YtlilleghlfnipaaGreat.E
