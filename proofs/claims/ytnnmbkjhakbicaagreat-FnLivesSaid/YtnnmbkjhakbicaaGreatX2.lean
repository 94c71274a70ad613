/- What is proved here: a part of the proof that the statement of this claim holds (several texts of wip/, laid together). -/
import Derived.Test.YtnnmbkjhakbicaaGreatX1
import Derived.Orders
namespace Go.Proofs.YtnnmbkjhakbicaaGreat.E
open Go
set_option linter.constructorNameAsVariable false
set_option linter.unusedVariables false
set_option maxRecDepth 100000
set_option linter.unusedSimpArgs false
set_option linter.unusedSectionVars false
noncomputable section
section
variable {C:Cfg} {w0 w w1:World} {S0:zbd} {U:Nat->Prop} {st st1:St} {E E1:Env} {ts:Array Value} {sv:List (Array Value)}
structure CtrOk (C:Cfg):Prop where
 ok:∀f run,C.ctr f=some run->Holds C.P f run
 vok:∀f inp run,C.tct f=some ([],inp,run)->zJw C.P f run
theorem z07 (g:CfgOk C)(b:Sim w0 S0 U st E ts sv w){o:Oper}{id:Nat}(c:∀n,Mine id n->¬ U n){x:Operand}{d:Dl}(a:o.op = .move x\/o.op = .assign x)(h:delta C st o id=some d):Goes C w0 S0 U st ts sv w o id (λst=>st.apply o.dst d):=by rcases a with a|a;{simp only [delta,a]at h;split at h;{cases h;exact zdg b (v:=.pointer none) (by simp[execOp,a,Act.eval]) trivial (λn e=>by simp[MV.ids,zby,zU,At.ids,zbr,zbu]at e)};{split at h;{cases h;exact z5Z b c (.inl a)};{cases h}};{split at h;{rename_i v f;cases h;exact z19 b (.inl a) f};{cases h}}};{simp only [delta,a]at h;split at h;{cases h;exact zdg b (v:=.pointer none) (by simp[execOp,a,Act.eval]) trivial (λn e=>by simp[MV.ids,zby,zU,At.ids,zbr,zbu]at e)};{split at h;{cases h;exact z5Z b c (.inr a)};{cases h}};{split at h;{rename_i v f;cases h;exact z19 b (.inr a) f};{cases h}}}
theorem z6M (z:CfgOk C)(A:Sim w0 S0 U st E ts sv w){o:Oper}{id:Nat}(B:∀n,Mine id n->¬ U n){T:TypeId}{a x:Operand}{d:Dl}(u:o.op = .store T a x)(h:delta C st o id=some d):Goes C w0 S0 U st ts sv w o id (λst=>st.apply o.dst d):=by simp only[delta,u]at h;split at h;{rename_i f F y l s g v j;split at h;{rename_i H e;split at h;{rename_i G;cases h;exact zZ3 z A u g v j e G.1 G.2};{cases h}};{cases h}};{rename_i f F y r p i s g v j;split at h;{rename_i R t l c cvs I J hg;split at h;{rename_i b;simp only[qE,qK,qZ]at b;split at h;{rename_i K q;split at h;{rename_i m k;cases h;exact zZ2 z A u g v j I J hg b.1.1 b.1.2 b.2 q k};{cases h}};{cases h}};{cases h}};{cases h}};{rename_i f t l s g v j;split at h;{split at h;{rename_i H e;split at h;{rename_i D;cases h;exact zXA z A B u g j e D};{cases h}};{cases h}};{cases h}};{cases h}
theorem zzN {t:Ty}{a b:CV}{m:List t.den}(h:zyf t a b=some m):∃c d:List t.den,a = .s t c/\b = .s t d/\m=ap c d:=by unfold zyf at h;split at h;{split at h;{rename_i f c g d e;obtain⟨rfl,rfl⟩:=e;cases h;exact⟨c,d,rfl,rfl,rfl⟩};{cases h}};{cases h}
theorem z8q (P:CfgOk C)(Q:CtrOk C)(z:Sim w0 S0 U st E ts sv w){o:Oper}{id:Nat}(q:∀n,Mine id n->¬ U n){c:Call}{d:Dl}(u:o.op = .call c)(h:delta C st o id=some d)(D:d.c=true):Goes C w0 S0 U st ts sv w o id (λst=>st.apply o.dst d):=by
 simp only[delta,u]at h;split at h;{rename_i g;split at h;{rename_i x T i k;split at h;{rename_i r p X;split at h;{rename_i t l M;split at h;{rename_i K;cases h;obtain⟨e,hE⟩:=P.sty T t K;exact z9w z u g i k hE.und X M};{cases h}};{cases h}};{cases h}};{cases h}};{rename_i g;split at h;{rename_i x y i;split at h;{rename_i a b A B;cases h;exact z9y z u g i A B};{cases h}};{cases h}};{rename_i g;split at h;{rename_i x y i;split at h;{rename_i a b A B;cases h;exact z9x z u g i A B};{cases h}};{cases h}}
 .rename_i g;split at h
  .rename_i x y T T2 i k;split at h
   .rename_i hTT;subst hTT;split at h
    .rename_i t r r2 p2 K A B;split at h
     .rename_i R R2 cv2 hR hR2 M;split at h
      .rename_i hcond;split at h
       .rename_i m hm;cases h;obtain⟨Y,l2,H,V,rfl⟩:=zzN hm;subst V;simp only[qE,jW,List.isEmpty_iff,jB,beq_eq_false_iff_ne]at hcond;have J:R=⟨t,Y,R.own,R.ep⟩:=by cases R with|mk t0 l0 own ep=>simp only[CV.s.injEq] at H;obtain⟨rfl,H⟩:=H;cases H;rfl
        exact z3M P z q u g i k K A B hR hR2 hcond.1 (by
         rcases hcond.2 with h|h
         .exact .inl h
         .exact .inr ⟨h.1.1,h.1.2,h.2⟩) M J D
       {cases h}
      {cases h}
     {cases h}
    {cases h}
   {cases h}
  {cases h}
 {rename_i f g;split at h;{rename_i v F;split at h;{rename_i I L;split at h;{rename_i S Z N;split at h;{rename_i j;cases h;simp only at D;subst D;exact s_call z q u g (Q.ok f v F) L N j};{cases h}};{cases h}};{cases h}};{split at h;{rename_i O v x0 xr G i;split at h;{rename_i v0 I W L;split at h;{rename_i S Z N;split at h;{rename_i j;cases h;simp only at D;subst D;rw[qE,qZ]at j;exact z8L z q u g (Q.vok f O v G) i W L N j.1 j.2};{cases h}};{cases h}};{cases h}};{cases h}}};{cases h}
theorem zFR (k:CfgOk C)(p:CtrOk C)(g:Sim w0 S0 U st E ts sv w){o:Oper}{id:Nat}(i:∀n,Mine id n->¬ U n){d:Dl}(h:delta C st o id=some d)(l:d.c=true):Goes C w0 S0 U st ts sv w o id (λst=>st.apply o.dst d):=by
 cases e:o.op;(case move x=>exact z07 k g i (.inl e) h);(case assign x=>exact z07 k g i (.inr e) h);(case pick c a b=>exact z8J g e h);(case alloc T=>exact z7p k g i e h);(case box T x=>exact z9v g i e h);(case build T parts=>exact z7r k g i e h);(case load T x=>exact z8I k g e h);(case store T a x=>exact z6M k g i e h);(case nilCheck x=>exact zZ1 g e h);(case binOp op T x y T2=>exact z7q k g e h l);(case unOp op T x=>exact z8K g e h);case convert a b x=>exact z1Z k g e h
 case makeFunc fn first caps=>
  cases fn with
  |func f=>exact zZ0 g e h
  |_=>simp[delta,e]at h
 case makeSlice T x y=>exact zXz k g i e h l
 case slice T x lo hi mx=>
  cases mx with
  |none=>exact z7u k g i e h l
  |some m=>simp[delta,e]at h
 (case fieldAddr T x f=>exact zXn k g e h);case field T x f=>exact z7s k g e h
 case index T x y=>
  cases x with
  |const v=>cases v with|string s=>exact z7t g e h l|_=>simp[delta,e]at h
  |_=>simp[delta,e]at h
 (case indexAddr T x y=>exact zXo k g e h l);(case extract x j=>exact z14 g e h);(case call c=>exact z8q k p g i e h l);(case buildSlice T len parts=>exact zVz k g i e h);all_goals simp [delta,e]at h
end
section
variable {C:Cfg} {w0 w w1:World} {S0:zbd} {U:Nat->Prop} {st st1:St} {E E1:Env} {ts:Array Value} {sv:List (Array Value)}
structure GraftOk (C:Cfg):Prop where
 ok:∀(w0 w:World) (S0:zbd) (U:Nat->Prop) (st:St) (E:Env) (ts:Array Value) (sv:List (Array Value)) (o:Oper) (id:Nat) (c:Bool) (st2:St),Sim w0 S0 U st E ts sv w->graft C st o=some (c,st2)->c=true->
  Goes C w0 S0 U st ts sv w o id (fun _=>st2.put o.dst .und)/\st2.nid=st.nid
 mok:∀(w0 w:World) (S0:zbd) (U:Nat->Prop) (st:St) (E:Env) (ts:Array Value) (sv:List (Array Value)) (o:Oper) (id:Nat) (c:Bool) (st2:St) (m:MV),Sim w0 S0 U st E ts sv w->zS2 C st o=some (c,st2,m)->c=true->
  Goes C w0 S0 U st ts sv w o id (fun _=>st2.put o.dst m)/\st2.nid=st.nid
 pok:∀(w0 w:World) (S0:zbd) (U:Nat->Prop) (st:St) (E:Env) (ts:Array Value) (sv:List (Array Value)) (o:Oper) (id:Nat) (c:Bool) (st2:St) (m:MV),Sim w0 S0 U st E ts sv w->(∀n,Mine id n->¬ U n)->zDE C st o id=some (c,st2,m)->c=true->
  Goes C w0 S0 U st ts sv w o id (fun _=>st2.put o.dst m)/\st2.nid=st.nid
 tok:∀(w0 w:World) (S0:zbd) (U:Nat->Prop) (st:St) (E:Env) (ts:Array Value) (sv:List (Array Value)) (o:Oper) (id:Nat) (c:Bool) (st2:St) (m:MV),Sim w0 S0 U st E ts sv w->(∀n,Mine id n->¬ U n)->zS8 C st o id=some (c,st2,m)->c=true->
  Goes C w0 S0 U st ts sv w o id (fun _=>st2.put o.dst m)/\st2.nid=st.nid
structure MctOk (C:Cfg):Prop where
 ok:∀f run,C.mct f=some run->zJv C.P f run
structure NameOk (C:Cfg):Prop where
 ok:∀(f:FuncId) (fn:Func),C.P.funcs[f]?=some fn->(fn.name == "runtime.NumGoroutine")=false
def zsh (C:Cfg)(e:zhA):Prop :=
 ∀(f:FuncId) (j:List MV) (st:St) (k:List TV->St->Option Ans) (d:Ans),e f j st k=some d->
  ∀(w0:World) (S0:zbd) (U:Nat->Prop) (E:Env) (ts:Array Value) (sv:List (Array Value)) (w:World) (c:Array Value) (R:Value->World->Prop),Sim w0 S0 U st E ts sv w->(∀n,st.nid<=n->¬ U n)->
   c.size=j.length->(∀(i:Nat) (m:MV) (v:Value),j[i]?=some m->c[i]?=some v->VM w st E m v)->(∀m∈j,∀n∈m.ids,U n)->
   (∀(h:Nat->Prop) (a:St) (p:Env) (g:World) (l:List TV) (v:Value),Sim w0 S0 h a p ts sv g->(∀n,h n->U n\/st.nid<=n)->st.nid<=a.nid->(∀n,a.nid<=n->¬ h n)->
    VM g a p (zjz l) v->(∀n∈(zjz l).ids,h n)->k l a=some d->R v g)->
   (∃q b,C.P.funcs[f]?=some q/\q.body=some b)/\Calls C.P f c w λ| .returned v,g=>R v g|_,_=>False
theorem zIp {d:Nat}{m:MV}(h:st.tm[d]?=some m):st.put (some d) m=st:=by have:st.tm.set d m=st.tm:=(by apply k7;intro k;rw[jH];split;{rename_i e;subst e;split;{exact h.symm};{rename_i a;rw[List.getElem?_eq_none (by omega)]at h;cases h}};{rfl});simp only[St.put,this]
theorem zRa (y:Sim w0 S0 U st E ts sv w){a:Array Oper}{o:Oper}{n skip:St->Option Ans}{e:Ans}(h:guarded a o st n skip=some e) :
 (Region.wanted o (yielded a ts)=true/\n st=some e)\/(Region.wanted o (yielded a ts)=false/\skip (st.put o.dst .und)=some e):=by
 unfold guarded at h;split at h
 .rename_i hg;exact .inl ⟨by simp[Region.wanted,hg],h⟩
 .rename_i j want hg;have g:∀{m:MV},guardOf st a j=some m->∃f t,a[j]?=some f/\f.dst=some t/\st.tm[t]?=some m/\zkg a j=some t:=by intro m c;unfold guardOf at c;split at c;{rename_i f k;split at c;{rename_i t l;exact⟨f,t,k,l,c,by simp[zkg,k,l]⟩};{cases c}};{cases c}
  have d:∀{m:MV} {t:Nat},st.tm[t]?=some m->∃v,ts[t]?=some v/\VM w st E m v:=by intro m t l;have i:t<ts.size:=(by rw[y.tm.1];exact(qA.1 l).1);exact⟨ts[t],by simp[i],y.tm.2 t m _ l (by simp[i])⟩
  split at h
  .rename_i c;obtain⟨f,t,r,s,p,_⟩:=g c;obtain⟨v,u,b⟩:=d p;simp only[VM]at b;subst b;refine .inr ⟨?_,h⟩;have:yielded a ts j=none:=by simp[yielded,r,s,u,undef]
   simp[Region.wanted,hg,this]
  .rename_i x c;obtain⟨f,t,r,s,p,z⟩:=g c;obtain⟨v,u,b⟩:=d p;simp only[VM,VT,VA]at b;subst b;have q:yielded a ts j=some x:=by simp[yielded,r,s,u]
   rw[z]at h;cases x<;>cases want<;>simp only [cond_true,cond_false]at h<;>rw [zIp p]at h
   .exact .inl ⟨by simp[Region.wanted,hg,q],h⟩
   .exact .inr ⟨by simp[Region.wanted,hg,q],h⟩
   .exact .inr ⟨by simp[Region.wanted,hg,q],h⟩
   .exact .inl ⟨by simp[Region.wanted,hg,q],h⟩
  .cases h
theorem Sim.putV (a:Sim w0 S0 U st E ts sv w){dst:Option Tmp}{m:MV}{v:Value}(c:VM w st E m v)(b:∀n∈m.ids,U n):Sim w0 S0 U (st.put dst m) E (({tmps:=ts,defers:=[]}:Act).put dst v).tmps sv w :=
 Sim.next a a.mem Sim.trans_self rfl rfl (λ_ h=>h) a.ids.ro a.ids.lo c b
theorem zjC (dst:Option Tmp)(v:Value):({tmps:=ts,defers:=[]}:Act).put dst v={tmps:=(({tmps:=ts,defers:=[]}:Act).put dst v).tmps,defers:=[]}:=by cases dst<;>rfl
theorem zJQ {b:Type}(a:At)(k:At->b):zM2 a k=k a:=by cases a<;>rfl
theorem zZb {b:Type}(m:MV)(k:MV->b):zX3 m k=k m:=by rcases m with _|x|l;{rfl};{rcases x with a|l;{exact zJQ a (λa=>k (.v<|.at a))};{rfl}};{rfl}
theorem zyy {a:Type}:∀(l:List MV) (k:List MV->a),zxk l k=k l
 |[],_=>rfl
 |m::l,k=>by simp only[zxk,zZb,zyy l]
theorem zrN {a:Type}(n:Nat)(k:Nat->a):zq7 n k=k n:=by cases n<;>rfl
theorem z1e {a:Type}(b:Bool)(k:Bool->a):z1d b k=k b:=by cases b<;>rfl
theorem zZa {a:Type}(e:Option Nat)(k:Option Nat->a):zX2 e k=k e:=by cases e with|none=>rfl|some n=>exact zrN n (λn=>k (some n))
theorem zFV {b:Type}:∀(l:List At) (k:List At->b),zyx l k=k l
 |[],_=>rfl
 |a::l,k=>by simp only[zyx,zJQ,zFV l]
theorem zJR {a:Type}:∀(l:List (Nat×List At)) (k:List (Nat×List At)->a),zDu l k=k l
 |[],_=>rfl
 |(n,b)::l,k=>by simp only[zDu,zrN,zFV,zJR l]
theorem zJS {a:Type}:∀(l:List (Nat×Root)) (k:List (Nat×Root)->a),zDv l k=k l
 |[],_=>rfl
 |(n,⟨t,x,own,ep⟩)::l,k=>by simp only[zDv,zrN,z1e,zZa,zJS l]
theorem zQy (k:St->Option Ans):st.forced k=k st:=by unfold St.forced;simp only[zyy,zJR,zJS,zrN]
theorem zC9 (k:St->Option Ans):st.shared k=k st:=by unfold St.shared;rw[zyy];split;{rename_i r R ro h;simp only[share];congr 1;cases st;simp only at h;subst h;rfl};{rfl}
theorem z4g (o:Oper)(d:Dl)(k:St->Option Ans):wrote o d st k=k st:=by unfold wrote;split;{exact zC9 k};{rfl}
theorem z1l {o:Oper}{f:FuncId}{b:List Nat}{a:Array Operand}(h:isIn C st o=some (f,b,a)):∃(c:Call) (x:Operand),o.op = .call c/\c.callee = .value x/\c.args=a/\st.at x=some (.fn f b):=by unfold isIn at h;split at h;{rename_i x d i k;split at h;{rename_i j e l;cases g:byName C x j with|true=>rw[g]at h;cases h|false=>rw[g]at h;cases h;exact⟨_,x,k,rfl,rfl,l⟩};{cases h}};{cases h}
theorem z0n {d:Dl}{dst:Option Tmp}:(st.apply dst d).nid=st.nid:=by cases dst<;>rfl
theorem zgx {m:MV}{dst:Option Tmp}:(st.put dst m).nid=st.nid:=by cases dst<;>rfl
theorem zYc {e i j n:Nat}(h:i≠j)(f:Mine (e+32*i) n):¬ Mine (e+32*j) n:=by intro g;obtain⟨a,b⟩:=f;obtain⟨c,d⟩:=g;omega
theorem zmE (hC:CfgOk C)(hH:CtrOk C)(hG:GraftOk C)(hN:NameOk C){G:zhA}(u:zsh C G){ops:Array Oper}{base:Nat}{k:St->Option Ans}{O:Ans}{Q:Exit->Act->World->Prop}{V:Nat->Prop}{nid0:Nat}(hV:∀n,nid0<=n->V n)(hk:∀(U':Nat->Prop) (N:St) (W:Env) (a6:Array Value) (F:World),Sim w0 S0 U' N W a6 sv F->(∀n,U' n->V n)->nid0<=N.nid->(∀n,N.nid<=n->¬ U' n)->k N=some O->Q .normal {tmps:=a6,defers:=[]} F) :
 ∀(l:List Nat) (U:Nat->Prop) (st:St) (E:Env) (ts:Array Value) (w:World),Sim w0 S0 U st E ts sv w->(∀n,U n->V n)->(∀n,st.nid<=n->¬ U n)->(∀j∈l,∀n,Mine (base+32*j) n->¬ U n/\V n)->l.Nodup->nid0<=st.nid->(∀j∈l,base+32*j+32<=st.nid)->
  zn5 C G ops base k l st=some O->wpOps C.P ops Q l {tmps:=ts,defers:=[]} w
 |[],U,st,E,ts,w,D,hU,hF,_,_,a4,_,h=>hk U st E ts w D hU a4 hF h
 |i::rest,U,st,E,ts,w,D,hU,hF,hM,b7,a4,hb,h=>by
  simp only[zn5]at h;split at h;{cases h}
  .rename_i o ho;have K:=List.nodup_cons.1 b7;have X:∀n,Mine (base+32*i) n->¬ U n:=λn h=>(hM i (by simp) n h).1;have c3:=hb i (by simp);have next:∀{p:St} {E2:Env} {B:Array Value} {w2:World},Sim w0 S0 (λn=>U n\/Mine (base+32*i) n) p E2 B sv w2->p.nid=st.nid->zn5 C G ops base k rest p=some O->wpOps C.P ops Q rest {tmps:=B,defers:=[]} w2:=by intro p E2 B w2 H b6 h2;refine zmE hC hH hG hN u hV hk rest _ p E2 B w2 H ?_ ?_ ?_ K.2 (by omega) (λj J=>by rw[b6];exact hb j (by simp[J])) h2;{rintro n (s|s);{exact hU n s};{exact(hM i (by simp) n s).2}};{rintro n s (h|h);{exact hF n (by omega) h};{have:=h.2;omega}};{intro j J n r;refine⟨?_,(hM j (by simp[J]) n r).2⟩;rintro (h|h);{exact(hM j (by simp[J]) n r).1 h};{exact zYc (i:=i) (j:=j) (λe=>K.1 (by rw[e];exact J)) h r}}
   have weak:∀{p:St} {E2:Env} {B:Array Value} {w2:World},Sim w0 S0 U p E2 B sv w2->Sim w0 S0 (λn=>U n\/Mine (base+32*i) n) p E2 B sv w2 :=
    λh=>⟨h.mem,⟨λn R s=>.inl (h.ids.ro n R s),λn cs s=>⟨.inl (h.ids.lo n cs s).1,λa ha m r=>.inl ((h.ids.lo n cs s).2 a ha m r)⟩,λm r n s=>.inl (h.ids.tm m r n s),λf hf m r n s=>.inl (h.ids.stk f hf m r n s)⟩,h.tm,h.stk⟩
   simp only[wpOps,ho];rcases zRa D h with⟨hw,g⟩|⟨hw,a1⟩
   .rw [if_pos hw];refine .inl ?_;split at g
    .rename_i f caps args hin;split at g
     .rename_i vs hvs;obtain⟨c,x,b8,b0,rfl,hx⟩:=z1l hin;obtain⟨c1,c0⟩:=zbB D hx;obtain⟨cv,b3,b2,b1⟩:=c1;obtain⟨a5,b9⟩:=zob hvs;have M:(c.args.map ({tmps:=ts,defers:=[]}:Act).eval++cv).size=(vs++caps.map λl=>MV.v (.at<|.lp l 0)).length:=(by simp[b2,<- a5]);have I:∀(i:Nat) (m:MV) (v:Value),(vs++caps.map λl=>MV.v (.at<|.lp l 0))[i]?=some m->(c.args.map ({tmps:=ts,defers:=[]}:Act).eval++cv)[i]?=some v->VM w st E m v/\∀n∈m.ids,U n:=by intro i m v r L;have a2:(c.args.map ({tmps:=ts,defers:=[]}:Act).eval).size=vs.length:=(by simp[<- a5]);by_cases hi:i<vs.length;{rw [qU hi]at r;rw[j5 (by rw[a2];exact hi),uZ]at L;cases ha:c.args[i]? with|none=>rw[ha]at L;cases L|some y=>rw[ha]at L;cases L;exact zb9 D (b9 i y m (by simpa using ha) r)};{rw [qP (by omega),qO]at r;rw[kD (by rw[a2];omega),a2]at L;cases hc:caps[i-vs.length]? with|none=>rw[hc]at r;cases r|some l=>rw[hc]at r;cases r;refine⟨b1 _ l v hc L,λn s=>c0 n ?_⟩;rw[zd0]at s;simp only[At.ids,zbr,zbu,jM,qF]at s;subst s;simp only[At.ids,zbr,zbu,jM];exact qJ hc}
      obtain⟨⟨fn,b,hf,a9⟩,S⟩:=u f _ st _ O g w0 S0 U E ts sv w (c.args.map ({tmps:=ts,defers:=[]}:Act).eval++cv) (λv F=>wpOps C.P ops Q rest (({tmps:=ts,defers:=[]}:Act).put o.dst v) F) D hF M
       (λi m v r L=>(I i m v r L).1) (λm r n s=>by
        obtain⟨i,hi⟩:=qT.1 r;have b5:i<(c.args.map ({tmps:=ts,defers:=[]}:Act).eval++cv).size:=by rw[M];exact(qA.1 hi).1
        exact(I i m _ hi<|j7 b5).2 n s)
       (λU' N W F rs v t a3 c2 a8 L hi b4=>by
        have H:=t.putV (dst:=o.dst) L hi;rw[zjC];refine zmE hC hH hG hN u hV hk rest U' _ W _ F H ?_ (by rw[zgx];exact a8) ?_ K.2 (by rw[zgx];omega) (λj J=>by rw[zgx];have:=hb j (by simp[J]);omega) b4
        .intro n s;rcases a3 n s with h|h
         .exact hU n h
         .exact hV n (by omega)
        .intro j J n r;refine⟨λs=>?_,(hM j (by simp[J]) n r).2⟩
         rcases a3 n s with h|h
         .exact(hM j (by simp[J]) n r).1 h
         .have:=hb j (by simp[J])
          have:=r.2;omega)
      have a0:=hN.ok f fn hf;have T:fn.name≠ "runtime.NumGoroutine":=(by simpa using a0);have Z:(execOp ({tmps:=ts,defers:=[]}:Act).eval o).run C.P w = .ok (.enter f<|c.args.map ({tmps:=ts,defers:=[]}:Act).eval++cv) w:=(by simp[execOp,b8,resolve,b0,b3,Deferred.ofValue,invoke,callFunc,hf,a9,T]);unfold Oper.wp;rw[Z,Oper.upon_enter];refine S.mono ?_;intro e F he;cases e with|returned v=>exact he|panicked a7=>exact he.elim|outgrown=>exact he.elim
     {cases g}
    {unfold step1 at g;simp only[z4g,zC9]at g;split at g;{rename_i d hd;cases Y:d.c with|false=>rw[Y]at g;cases g|true=>rw[Y]at g;simp only[cond_true]at g;refine zFR hC hH D X hd Y _ _ (λW v F t=>?_);rw[zjC];exact next t z0n g};{split at g;{rename_i c p hg;cases q:c with|false=>rw[q]at g;cases g|true=>rw[q]at g;simp only[cond_true]at g;obtain⟨A,z⟩:=hG.ok w0 w S0 U st E ts sv o (base+32*i) c p D hg q;refine A _ _ (λW v F t=>?_);rw[zjC];exact next t (by rw[zgx];exact z) g};{split at g;{rename_i c p m hg;cases q:c with|false=>rw[q]at g;cases g|true=>rw[q]at g;simp only[cond_true]at g;obtain⟨A,z⟩:=hG.mok w0 w S0 U st E ts sv o (base+32*i) c p m D hg q;refine A _ _ (λW v F t=>?_);rw[zjC];exact next t (by rw[zgx];exact z) g};{split at g;{rename_i c p m hg;cases q:c with|false=>rw[q]at g;cases g|true=>rw[q]at g;simp only[cond_true]at g;obtain⟨A,z⟩:=hG.pok w0 w S0 U st E ts sv o (base+32*i) c p m D X hg q;refine A _ _ (λW v F t=>?_);rw[zjC];exact next t (by rw[zgx];exact z) g};{split at g;{rename_i c p m hg;cases q:c with|false=>rw[q]at g;cases g|true=>rw[q]at g;simp only[cond_true]at g;obtain⟨A,z⟩:=hG.tok w0 w S0 U st E ts sv o (base+32*i) c p m D X hg q;refine A _ _ (λW v F t=>?_);rw[zjC];exact next t (by rw[zgx];exact z) g};{cases g}}}}}}
   {rw [if_neg (by simp[hw])];have H:=D.putV (dst:=o.dst) (m:=.und) (v:=undef) rfl (λn s=>by simp[MV.ids,zby]at s);rw[zjC];exact next (weak H) zgx a1}
end
section
variable {C:Cfg} {w0 w w1:World} {S0:zbd} {U:Nat->Prop} {st st1:St} {E E1:Env} {ts:Array Value} {sv:List (Array Value)}
def Ext (l a:List (Nat×Nat)):Prop:=∀k v,zx l k=some v->zx a k=some v
def Inj (l:List (Nat×Nat)):Prop:=∀k a v,zx l k=some v->zx l a=some v->k=a
theorem zJB {l g:List (Nat×Nat)}{k v:Nat}(h:zyi l k v=some g):Ext l g/\zx g k=some v/\(Inj l->Inj g):=by unfold zyi at h;split at h;{rename_i u r;split at h;{rename_i d;simp only[qK]at d;subst d;cases h;exact⟨λ_ _ h=>h,r,λh=>h⟩};{cases h}};{rename_i q;split at h;{cases h};{rename_i c;cases h;have e:∀f,zx l f≠some v:=(by intro f i;have:=zoX i;exact c (uB.2 ⟨(f,v),this,by simp⟩));refine⟨λf n h=>?_,by simp[zx],λp s t n a b=>?_⟩;{simp only [zx];split;{rename_i d;simp only[qK]at d;subst d;rw[q]at h;cases h};{exact h}};{simp only [zx]at a b;split at a<;>split at b;{rename_i j m;simp only[qK] at j m;exact j.symm.trans m};{cases a;exact absurd b (e _)};{cases b;exact absurd a (e _)};{exact p s t n a b}}}}
theorem zJC {l b:List (Nat×Nat)}{k v:Nat}(h:zSX l k v=some b):Ext l b/\zx b k=some v:=by unfold zSX at h;split at h;{rename_i u d;split at h;{rename_i a;simp only[qK]at a;subst a;cases h;exact⟨λ_ _ h=>h,d⟩};{cases h}};{rename_i c;cases h;refine⟨λe f h=>?_,by simp[zx]⟩;simp only[zx];split;{rename_i a;simp only[qK]at a;subst a;rw[c]at h;cases h};{exact h}}
structure ExtB (B B':Bnd):Prop where
 r:Ext B.r B'.r
 l:Ext B.l B'.l
 il:Inj B.l->Inj B'.l
theorem ExtB.refl (B:Bnd):ExtB B B:=⟨λ_ _ h=>h,λ_ _ h=>h,λh=>h⟩
theorem ExtB.trans {A B D:Bnd}(h:ExtB A B)(a:ExtB B D):ExtB A D :=
 ⟨λk v x=>a.r k v (h.r k v x),λk v x=>a.l k v (h.l k v x),λx=>a.il (h.il x)⟩
def zqZ (B:Bnd)(a:Nat)(x:At):At->Prop
 |.bad=>True
 |.i k n=>x = .i k n
 |.b y=>x = .b y
 |.sl j p=>∃r e,x = .sl e p/\j=a+r/\zx B.r r=some e
 |.lp m g=>∃l h,x = .lp h g/\m=a+l/\zx B.l l=some h
 |.ep j p i g=>∃r e,x = .ep e p i g/\j=a+r/\zx B.r r=some e
 |.fn f d=>∃c,x = .fn f c/\d.length=c.length/\∀(k m h:Nat),d[k]?=some m->c[k]?=some h->∃l,m=a+l/\zx B.l l=some h
 |.kp j J t=>∃r e,x = .kp e J t/\j=a+r/\zx B.r r=some e
theorem zqZ.mono {B v:Bnd}{e:Nat}{x u:At}(h:zqZ B e x u)(g:ExtB B v):zqZ v e x u:=by cases u with|bad=>trivial|i k n=>exact h|b y=>exact h|sl A p=>obtain⟨r,j,a,c,d⟩:=h;exact⟨r,j,a,c,g.r _ _ d⟩|lp z s=>obtain⟨l,q,a,c,d⟩:=h;exact⟨l,q,a,c,g.l _ _ d⟩|ep A p i s=>obtain⟨r,j,a,c,d⟩:=h;exact⟨r,j,a,c,g.r _ _ d⟩|kp A J t=>obtain⟨r,j,a,c,d⟩:=h;exact⟨r,j,a,c,g.r _ _ d⟩|fn f w=>obtain⟨C,a,c,d⟩:=h;refine⟨C,a,c,λk z q F m=>?_⟩;obtain⟨l,D,E⟩:=d k z q F m;exact⟨l,D,g.l _ _ E⟩
theorem zHW:∀{d:List Nat} {p:List (Int×Nat)} {b:List CV},idx d p=some b->∀a,zxs d (b++a)=some (p,a)
 |[],[],b,h,a=>by cases h;rfl
 |[],_::_,b,h,_=>by simp[idx]at h
 |_::_,[],b,h,_=>by simp[idx]at h
 |j::d,(i,g)::p,b,h,a=>by simp only[idx]at h;split at h;{rename_i e;simp only[qK]at e;subst e;split at h;{rename_i f c;cases h;simp[zxs,zHW c a]};{cases h}};{cases h}
theorem zY9 {l:List (Nat×Nat)}:l.foldl (λ(b:Option (List<|Nat×Nat)) x=>match b with|some c=>zyi c x.1 x.2|none=>none) none=none:=by induction l with|nil=>rfl|cons a l d=>exact d
theorem zJD:∀{g d:List Nat} {l f:List (Nat×Nat)},g.length=d.length->(g.zip d).foldl (λ(i:Option (List<|Nat×Nat)) x=>match i with|some p=>zyi p x.1 x.2|none=>none) (some l)=some f->
 Ext l f/\(Inj l->Inj f)/\∀(k a b:Nat),g[k]?=some a->d[k]?=some b->zx f a=some b
 |[],[],l,f,_,h=>by cases h;exact⟨λ_ _ h=>h,λh=>h,λk a b h=>by simp at h⟩
 |[],_::_,_,_,h,_=>by simp at h
 |_::_,[],_,_,h,_=>by simp at h
 |c::g,c'::d,l,f,w,h=>by simp only[List.zip_cons_cons,List.foldl_cons]at h;cases m:zyi l c c' with|none=>rw[m,zY9]at h;cases h|some y=>rw[m]at h;obtain⟨s,t,u⟩:=zJB m;obtain⟨n,q,r⟩:=zJD (by simpa using w) h;refine⟨λk v x=>n k v (s k v x),λx=>q (u x),λk a b j e=>?_⟩;(cases k with|zero=>simp at j e;subst j e;exact n _ _ t|succ k=>exact r k a b (by simpa using j) (by simpa using e))
theorem zwS {B w:Bnd}{a:AT}{x:At}{H:List CV}(d:Nat)(h:zDd B a x=some (w,H)):ExtB B w/\∀c,∃J,putAt d a (H++c)=some (J,c)/\zqZ w d x J:=by unfold zDd at h;split at h;{cases h;exact⟨ExtB.refl _,λc=>⟨.bad,rfl,trivial⟩⟩};{split at h;{rename_i k N n t;subst t;cases h;exact⟨ExtB.refl _,λc=>⟨.i k n,rfl,rfl⟩⟩};{cases h}};{rename_i y;cases h;exact⟨ExtB.refl _,λc=>⟨.b y,rfl,rfl⟩⟩};{rename_i r L G p;split at h;{rename_i br z s D;cases h;obtain⟨m,q⟩:=zJC s;exact⟨⟨m,λ_ _ h=>h,λh=>h⟩,λc=>⟨.sl (d+r) p,by simp[putAt,zHW D c],r,G,rfl,rfl,q⟩⟩};{cases h}};{rename_i l u F v;split at h;{rename_i g;simp only[qK]at g;subst g;split at h;{rename_i K s;cases h;obtain⟨m,q,A⟩:=zJB s;exact⟨⟨λ_ _ h=>h,m,A⟩,λc=>⟨.lp (d+l) u,rfl,l,F,rfl,rfl,q⟩⟩};{cases h}};{cases h}};{rename_i r L u G p i v;split at h;{rename_i g;simp only[qK]at g;subst g;split at h;{rename_i br z s D;cases h;obtain⟨m,q⟩:=zJC s;exact⟨⟨m,λ_ _ h=>h,λh=>h⟩,λc=>⟨.ep (d+r) p i u,by simp[putAt,zHW D],r,G,rfl,rfl,q⟩⟩};{cases h}};{cases h}};{rename_i f e M j;split at h;{rename_i g;simp only[qE,qK]at g;obtain⟨rfl,I⟩:=g;split at h;{rename_i K s;cases h;obtain⟨m,q,A⟩:=zJD I s;refine⟨⟨λ_ _ h=>h,m,q⟩,λc=>⟨.fn f (e.map λl=>d+l),rfl,j,rfl,by simpa using I,λk O F t E=>?_⟩⟩;rw[qO]at t;cases C:e[k]? with|none=>rw[C]at t;cases t|some l=>rw[C]at t;cases t;exact⟨l,rfl,A k l F C E⟩};{cases h}};{cases h}};{cases h}
theorem zGB (c:Nat):∀{l:List (Nat×AT)} {B f:Bnd} {i:List CV},zMn st B l=some (f,i)->ExtB B f/\∀b tm,∃d,zS7 c l (i++b) tm=some (d,b)/\d.length=tm.length/\
 ∀(n:Nat) (e:MV),d[n]?=some e->tm[n]?=some e\/∃x g,st.tm[n]?=some (.v<|.at x)/\e = .v (.at g)/\zqZ f c x g
 |[],B,f,i,h=>by cases h;exact⟨ExtB.refl _,λb tm=>⟨tm,rfl,rfl,λn e h=>.inl h⟩⟩
 |(n,a)::r,B,f,i,h=>by simp only[zMn]at h;split at h;{rename_i x z;split at h;{rename_i H q t;split at h;{rename_i I j u;cases h;obtain⟨s,A⟩:=zwS c t;obtain⟨m,C⟩:=zGB c u;refine⟨s.trans m,λb tm=>?_⟩;obtain⟨g,D,p⟩:=A (j++b);obtain⟨d,E,F,G⟩:=C b (tm.set n<|.v<|.at g);refine⟨d,by simp[zS7,j4,D,E],by simpa using F,λk e y=>?_⟩;rcases G k e y with h|h;{rw [jH]at h;split at h;{rename_i w;subst w;split at h;{cases h;exact .inr ⟨x,g,z,rfl,p.mono m⟩};{cases h}};{exact .inl h}};{exact .inr h}};{cases h}};{cases h}};{cases h}
theorem zx3 (c:Nat):∀{l:List AT} {n:List At} {B f:Bnd} {i:List CV},zpG B l n=some (f,i)->ExtB B f/\∀b,∃d,putCells c l (i++b)=some (d,b)/\d.length=n.length/\
 ∀(j:Nat) (x g:At),n[j]?=some x->d[j]?=some g->zqZ f c x g
 |[],[],B,f,i,h=>by cases h;exact⟨ExtB.refl _,λb=>⟨[],rfl,rfl,λj x g h=>by simp at h⟩⟩
 |[],_::_,_,_,_,h=>by simp[zpG]at h
 |_::_,[],_,_,_,h=>by simp[zpG]at h
 |a::r,x::y,B,f,i,h=>by simp only[zpG]at h;split at h;{rename_i H s u;split at h;{rename_i I k v;cases h;obtain⟨t,w⟩:=zwS c u;obtain⟨p,A⟩:=zx3 c v;refine⟨t.trans p,λb=>?_⟩;obtain⟨g,C,q⟩:=w (k++b);obtain⟨d,D,E,F⟩:=A b;refine⟨g::d,by simp[putCells,j4,C,D],by simp[E],λj z G m e=>?_⟩;cases j with|zero=>simp at m e;subst m e;exact q.mono p|succ j=>exact F j z G (by simpa using m) (by simpa using e)};{cases h}};{cases h}
theorem zGz (a:Nat):∀{l:List (Nat×List AT)} {B f:Bnd} {g:List CV},zMj st B l=some (f,g)->ExtB B f/\∀b,∃e,zS5 a l (g++b)=some (e,b)/\
 ∀(t:Nat) (c:List At),zx e t=some c->∃l m u,t=a+l/\zx f.l l=some m/\zx st.lo m=some u/\c.length=u.length/\∀(j:Nat) (x n:At),u[j]?=some x->c[j]?=some n->zqZ f a x n
 |[],B,f,g,h=>by cases h;exact⟨ExtB.refl _,λb=>⟨[],rfl,λt c h=>by cases h⟩⟩
 |(l,O)::r,B,f,g,h=>by simp only[zMj]at h;split at h;{rename_i m C;split at h;{rename_i cells d;split at h;{rename_i M y z;split at h;{rename_i N p A;cases h;obtain⟨v,E⟩:=zx3 a z;obtain⟨q,F⟩:=zGz a A;refine⟨v.trans q,λb=>?_⟩;obtain⟨c,G,H,I⟩:=E (p++b);obtain⟨e,J,K⟩:=F b;refine⟨(a+l,c)::e,by simp[zS5,j4,G,J],λk L i=>?_⟩;simp only[zx]at i;split at i;{rename_i w;simp only[qK]at w;cases i;exact⟨l,m,cells,w.symm,(v.trans q).l _ _ C,d,H,λj x n D s=>(I j x n D s).mono q⟩};{exact K k L i}};{cases h}};{cases h}};{cases h}};{cases h}
theorem zGA (a:Nat){B:Bnd}:∀{l:List (Nat×Ty×Bool)} {e:List CV},zMk st B l=some e->∃b,zS6 a l e=some b/\
 ∀(j:Nat) (c:Root),zx b j=some c->∃r g o,j=a+r/\zx B.r r=some g/\zx st.ro g=some {c with own:=o}/\c.ep=none/\(c.own=true->o=true/\(r,c.t,true)∈l)
 |[],e,h=>by cases h;exact⟨[],rfl,λj c h=>by cases h⟩
 |(r,t,own)::rest,e,h=>by simp only[zMk]at h;split at h;{rename_i g D;split at h;{rename_i R A;split at h;{rename_i C;split at h;{rename_i q i;cases h;obtain⟨b,E,F⟩:=zGA a i;refine⟨(a+r,⟨R.t,R.l,own,none⟩)::b,by simp[zS6,E],λk c f=>?_⟩;simp only[zx]at f;split at f;{rename_i p;simp only[qK]at p;cases f;obtain⟨x,y,z⟩:=C;have:({ (⟨R.t,R.l,own,none⟩:Root) with own:=R.own}:Root)=R:=(by rw[<- z]);exact⟨r,g,R.own,p.symm,D,by rw[this];exact A,rfl,λd=>⟨y d,by simp only at d;subst d;subst x;exact jQ⟩⟩};{obtain⟨G,m,o,s,u,v,w,n⟩:=F k c f;exact⟨G,m,o,s,u,v,w,λd=>⟨(n d).1,jE _ (n d).2⟩⟩}};{cases h}};{cases h}};{cases h}};{cases h}
theorem zmQ:∀(sig:List CTy) (a:List CV) (s:Dat sig),unpack sig a=some s->packs sig s=a
 |[],[],s,_=>rfl
 |[],_::_,s,h=>by simp[unpack]at h
 |.i k::sig,a,s,h=>by cases a with|nil=>simp[unpack]at h|cons c a=>(cases c with|i g n=>simp only[unpack]at h;split at h;{rename_i f;subst f;split at h;{rename_i d e;cases h;simp[packs,zmQ sig a d e]};{cases h}};{cases h}|b x=>simp[unpack]at h|s t l=>simp[unpack]at h)
 |.b::sig,a,s,h=>by cases a with|nil=>simp[unpack]at h|cons c a=>(cases c with|i g n=>simp[unpack]at h|b x=>simp only[unpack]at h;split at h;{rename_i d e;cases h;simp[packs,zmQ sig a d e]};{cases h}|s t l=>simp[unpack]at h)
 |.s t::sig,a,s,h=>by cases a with|nil=>simp[unpack]at h|cons c a=>(cases c with|i g n=>simp[unpack]at h|b x=>simp[unpack]at h|s j l=>simp only[unpack]at h;split at h;{rename_i f;subst f;split at h;{rename_i d e;cases h;simp[packs,zmQ sig a d e]};{cases h}};{cases h})
def z7Q (l:List (List MV)):List (List MV):=l.map λf=>f.map λ_=>.v (.at .bad)
theorem Stack.bad:∀{l:List (List MV)} {s:List (Array Value)},Stack w st E l s->∀(w1:World) (st1:St) (E1:Env),Stack w1 st1 E1 (z7Q l) s
 |[],[],_,_,_,_=>trivial
 |f::r,ts::s,h,w1,st1,E1=>by refine⟨⟨by simpa using h.1.1,λi m v a c=>?_⟩,Stack.bad h.2 w1 st1 E1⟩;rw[qO]at a;cases b:f[i]? with|none=>rw[b]at a;cases a|some y=>rw[b]at a;cases a;trivial
 |[],_::_,h,_,_,_=>h.elim
 |_::_,[],h,_,_,_=>h.elim
def newEnv (B:Bnd)(a:Nat)(E:Env):Env where
 ρ n:=match zx B.r (n-a) with|some r=>E.ρ r|none=>undef
 φ n:=match zx B.r (n-a) with|some r=>E.φ r|none=>λ_=>False
 β n:=match zx B.l (n-a) with|some l=>E.β l|none=>0
 κ:=E.κ
theorem zqZ.va {B:Bnd}{a:Nat}{x N:At}{v:Value}(h:zqZ B a x N)(e:VA w st E x v)(L:∀(r g:Nat) (m:Root),zx B.r r=some g->st1.root (a+r)=some m->∃o,st.root g=some {m with own:=o})(R:∀(l A:Nat) (j:List At),zx B.l l=some A->zx st1.lo (a+l)=some j->∃F,zx st.lo A=some F):VA w st1 (newEnv B a E) N v:=by have H:∀{r g:Nat},zx B.r r=some g->(newEnv B a E).ρ (a+r)=E.ρ g:=λh=>(by simp[newEnv,h]);have O:∀{l A:Nat},zx B.l l=some A->(newEnv B a E).β (a+l)=E.β A:=λh=>(by simp[newEnv,h]);cases N with|bad=>trivial|i k n=>cases h;exact e|b y=>cases h;exact e|sl T p=>obtain⟨r,g,rfl,rfl,c⟩:=h;refine⟨e.1,λm d=>?_⟩;rw[H c];obtain⟨o,D⟩:=L r g m c d;have:=e.2 _ D;exact this|lp S M=>obtain⟨l,A,rfl,rfl,c⟩:=h;refine⟨e.1,λj I=>?_⟩;rw[O c];obtain⟨F,z⟩:=R l A j c I;exact e.2 F z|ep T p i M=>obtain⟨r,g,rfl,rfl,c⟩:=h;refine⟨e.1,λm d=>?_⟩;rw[H c];obtain⟨o,D⟩:=L r g m c d;have:=e.2 _ D;exact this|fn f G=>obtain⟨s,rfl,q,c⟩:=h;obtain⟨vs,U,V,W⟩:=e;refine⟨vs,U,by rw[V,q],λk S u Q Z=>?_⟩;have K:k<s.length:=(by rw[<- q];exact(qA.1 Q).1);have C:=qB K;obtain⟨l,rfl,P⟩:=c k S _ Q C;obtain⟨X,Y⟩:=W k _ u C Z;refine⟨X,λj I=>?_⟩;rw[O P];obtain⟨F,z⟩:=R l _ j P I;exact Y F z|kp T J t=>obtain⟨r,g,rfl,rfl,c⟩:=h;refine⟨e.1,λm d=>?_⟩;rw[H c];obtain⟨o,D⟩:=L r g m c d;have:=e.2 _ D;exact this
theorem zqZ.ids {B:Bnd}{d:Nat}{x w:At}(h:zqZ B d x w){n:Nat}(a:n∈w.ids):∃k v,n=d+k/\(zx B.r k=some v\/zx B.l k=some v):=by cases w with|bad=>simp[At.ids,zbr,zbu]at a|i k m=>simp[At.ids,zbr,zbu]at a|b y=>simp[At.ids,zbr,zbu]at a|sl A p=>obtain⟨r,j,rfl,rfl,c⟩:=h;simp only[At.ids,zbr,zbu,jC,qF]at a;exact⟨r,j,a,.inl c⟩|lp F u=>obtain⟨l,E,rfl,rfl,c⟩:=h;simp only[At.ids,zbr,zbu,jM,qF]at a;exact⟨l,E,a,.inr c⟩|ep A p i u=>obtain⟨r,j,rfl,rfl,c⟩:=h;simp only[At.ids,zbr,zbu,jC,qF]at a;exact⟨r,j,a,.inl c⟩|fn f q=>obtain⟨e,rfl,g,c⟩:=h;simp only[At.ids,zbr,zbu,jM]at a;obtain⟨k,z⟩:=qT.1 a;have s:k<e.length:=(by rw[<- g];exact(qA.1 z).1);obtain⟨l,C,D⟩:=c k n _ z (qB s);exact⟨l,_,C,.inr D⟩|kp A J t=>obtain⟨r,j,rfl,rfl,c⟩:=h;simp only[At.ids,zbr,zbu,jC,qF]at a;exact⟨r,j,a,.inl c⟩
def zIu:At->At
 |.i k n=>.i k n
 |.b x=>.b x
 |_=>.bad
def zL7 (l:List (List MV)):List (List MV):=l.map λf=>f.map (zls zIu)
theorem zsl:∀{p q:List (Int×Nat)},zkG p q=true->p=q
 |[],[],_=>rfl
 |[(i,j)],[(e,d)],h=>by simp only[zkG]at h;cases c:Nat.beq j d with|false=>rw[c]at h;cases h|true=>rw[c]at h;rw[kI]at c;simp only[cond_true,ieq,qK]at h;rw[c,h]
 |(i,j)::a::p,(e,d)::q,h=>by cases q with|nil=>simp only[zkG]at h;cases c:Nat.beq j d<;>rw [c]at h<;>simp at h|cons b q=>simp only[zkG]at h;(cases c:Nat.beq j d with|false=>rw[c]at h;cases h|true=>rw[c]at h;simp only[cond_true,qE,ieq,qK]at h;rw[kI]at c;rw[c,h.1,zsl h.2])
 |[(i,j)],(e,d)::b::q,h=>by simp only[zkG]at h;cases c:Nat.beq j d<;>rw [c]at h<;>simp at h
 |[],_::_,h=>by simp[zkG]at h
 |[_],[],h=>by simp[zkG]at h
 |_::_::_,[],h=>by simp[zkG]at h
theorem zGL {B:Bnd}{a c r:Nat}(h:zyl B a c r=true):∃k,r=a+k/\zx B.r k=some c:=by simp only[zyl,qE,Nat.ble_eq]at h;obtain⟨e,b⟩:=h;split at b;{rename_i v d;rw[kI]at b;subst b;exact⟨r-a,by omega,d⟩};{cases b}
theorem zFO {B:Bnd}{d:Nat}{a m:At}(h:zhB B d a m=true):(∃k n,m = .i k n)\/(∃x,m = .b x)\/m = .bad\/zqZ B d a m:=by cases m with|bad=>exact .inr (.inr (.inl rfl))|i k n=>exact .inl ⟨k,n,rfl⟩|b x=>exact .inr (.inl ⟨x,rfl⟩)|sl r p=>(cases a with|sl j z =>simp only[zhB]at h;(cases g:zyl B d j r with|false=>rw[g]at h;cases h|true=>rw[g]at h;obtain⟨k,q,e⟩:=zGL g;exact .inr (.inr<|.inr ⟨k,j,by rw[zsl h],q,e⟩))|_=>simp[zhB]at h)|lp l o=>(cases a with|lp D u =>simp only[zhB,qE,Nat.ble_eq,kI]at h;obtain⟨⟨q,w⟩,e⟩:=h;subst w;split at e;{rename_i v y;rw[kI]at e;subst e;exact .inr (.inr<|.inr ⟨l-d,v,rfl,by omega,y⟩)};{cases e}|_=>simp[zhB]at h)|ep r p i o=>(cases a with|ep j z C u =>simp only[zhB]at h;(cases g:zyl B d j r with|false=>rw[g]at h;cases h|true=>(cases s:Nat.beq u o with|false=>rw[g,s]at h;cases h|true=>rw[g,s]at h;simp only[Bool.and_self,cond_true,qE,ieq,qK]at h;rw[kI]at s;obtain⟨k,q,e⟩:=zGL g;exact .inr (.inr<|.inr ⟨k,j,by rw[zsl h.2,h.1,s],q,e⟩)))|_=>simp[zhB]at h)|fn f c=>cases a<;>simp [zhB]at h|kp r J t=>(cases a with|kp j A E =>simp only[zhB,qE,qK,qZ]at h;obtain⟨k,q,e⟩:=zGL h.1;exact .inr (.inr<|.inr ⟨k,j,by rw[h.2.1,h.2.2],q,e⟩)|_=>simp[zhB]at h)
theorem zwG {B:Bnd}{c:Nat}:∀{l m:List At},zDn B c l m=true->l.length=m.length/\∀(i:Nat) (a b:At),l[i]?=some a->m[i]?=some b->zhB B c a b=true
 |[],[],_=>⟨rfl,λi a b h=>by simp at h⟩
 |a::l,b::m,h=>by simp only[zDn,qE]at h;obtain⟨f,g⟩:=zwG h.2;refine⟨by simp[f],λi x y d e=>?_⟩;cases i with|zero=>simp at d e;subst d e;exact h.1|succ i=>exact g i x y (by simpa using d) (by simpa using e)
 |[],_::_,h=>by cases h
 |_::_,[],h=>by cases h
theorem zwH {B:Bnd}{c:Nat}:∀{l m:List TV},zDo B c l m=true->l.length=m.length/\∀(i:Nat) (a b:TV),l[i]?=some a->m[i]?=some b->zBR B c a b=true
 |[],[],_=>⟨rfl,λi a b h=>by simp at h⟩
 |a::l,b::m,h=>by simp only[zDo,qE]at h;obtain⟨f,g⟩:=zwH h.2;refine⟨by simp[f],λi x y d e=>?_⟩;cases i with|zero=>simp at d e;subst d e;exact h.1|succ i=>exact g i x y (by simpa using d) (by simpa using e)
 |[],_::_,h=>by cases h
 |_::_,[],h=>by cases h
theorem zBQ {B:Bnd}{c:Nat}:∀{l m:List MV},zSZ B c l m=true->l.length=m.length/\∀(i:Nat) (a b:MV),l[i]?=some a->m[i]?=some b->zTy B c a b=true
 |[],[],_=>⟨rfl,λi a b h=>by simp at h⟩
 |a::l,b::m,h=>by simp only[zSZ,qE]at h;obtain⟨f,g⟩:=zBQ h.2;refine⟨by simp[f],λi x y d e=>?_⟩;cases i with|zero=>simp at d e;subst d e;exact h.1|succ i=>exact g i x y (by simpa using d) (by simpa using e)
 |[],_::_,h=>by cases h
 |_::_,[],h=>by cases h
theorem zPc {a b:Type}{f:a->b}{l:List a}{i:Nat}{x:a}(h:l[i]?=some x):(l.map f)[i]?=some (f x):=by rw[qO,h];rfl
section
variable {B:Bnd} {base:Nat} {w2:World} {st2:St} {E2:Env}
theorem zYB {a b:At}{v:Value}(h:zhB B base a b=true)(p:VA w st E a v)(e:VA w2 st2 E2 (zIu b) v)(m:∀(r g:Nat) (d:Root),zx B.r r=some g->st1.root (base+r)=some d->∃o,st.root g=some {d with own:=o})(j:∀(l f:Nat) (c:List At),zx B.l l=some f->zx st1.lo (base+l)=some c->∃q,zx st.lo f=some q):VA w st1 (newEnv B base E) b v:=by rcases zFO h with⟨k,n,rfl⟩|⟨x,rfl⟩|rfl|i;{exact e};{exact e};{trivial};{exact i.va p m j}
theorem zYC {x c:TV}{v:Value}(h:zBR B base x c=true)(z:VT w st E x v)(y:VT w2 st2 E2 (zrV zIu c) v)(t:∀(r C:Nat) (k:Root),zx B.r r=some C->st1.root (base+r)=some k->∃o,st.root C=some {k with own:=o})(s:∀(l A:Nat) (i:List At),zx B.l l=some A->zx st1.lo (base+l)=some i->∃J,zx st.lo A=some J):VT w st1 (newEnv B base E) c v:=by rcases c with n|m;{rcases x with a|l;{exact zYB h z y t s};{cases h}};{rcases x with a|l;{cases h};{obtain⟨q,G⟩:=zwG (l:=l) (m:=m) h;obtain⟨H,rfl,F,p⟩:=z;obtain⟨I,e,K,D⟩:=y;cases e;refine⟨H,rfl,by rw[F,q],λj n u d g=>?_⟩;have f:j<l.length:=(by rw[q];exact(qA.1 d).1);have b:=qB f;exact⟨(p j _ u b g).1,zYB (G j _ n b d) (p j _ u b g).2 (D j _ u (zPc d) g).2 t s⟩}}
theorem z7C {x b:MV}{v:Value}(h:zTy B base x b=true)(f:VM w st E x v)(q:VM w2 st2 E2 (zls zIu b) v)(p:∀(r z:Nat) (i:Root),zx B.r r=some z->st1.root (base+r)=some i->∃o,st.root z=some {i with own:=o})(n:∀(l t:Nat) (g:List At),zx B.l l=some t->zx st1.lo (base+l)=some g->∃J,zx st.lo t=some J):VM w st1 (newEnv B base E) b v:=by
 cases b with
 |und=>cases x with
  |und=>exact f
  |_=>cases h
 |v L=>cases x with
  |v y=>exact zYC h f q p n
  |_=>cases h
 |tup m=>cases x with|tup l=>obtain⟨k,G⟩:=zwH (l:=l) (m:=m) h;obtain⟨H,rfl,D,F⟩:=f;obtain⟨I,e,K,C⟩:=q;cases e;refine⟨H,rfl,by rw[D,k],λj A u c s=>?_⟩;have d:j<l.length:=(by rw[k];exact(qA.1 c).1);have a:=qB d;exact zYC (G j _ A a c) (F j _ u a s) (C j _ u (zPc c) s) p n|_=>cases h
theorem zMg (q:∀(r x:Nat) (j:Root),zx B.r r=some x->st1.root (base+r)=some j->∃o,st.root x=some {j with own:=o})(p:∀(l u:Nat) (e:List At),zx B.l l=some u->zx st1.lo (base+l)=some e->∃z,zx st.lo u=some z):∀{stk a:List (List MV)} {sv:List (Array Value)},zhU B base stk a=true->Stack w st E stk sv->Stack w2 st2 E2 (zL7 a) sv->
 Stack w st1 (newEnv B base E) a sv
 |[],[],sv,_,h,_=>by cases sv<;>first|trivial|exact h.elim
 |f::stk,g::a,sv,b,h,s=>by cases sv with|nil=>exact h.elim|cons ts sv=>simp only[zhU,qE]at b;obtain⟨k,y⟩:=zBQ b.1;refine⟨⟨by rw[h.1.1,k],λi m v d t=>?_⟩,zMg q p b.2 h.2 s.2⟩;have c:i<f.length:=(by rw[k];exact(qA.1 d).1);have n:=qB c;exact z7C (y i _ m n d) (h.1.2 i _ v n t) (s.1.2 i _ v (zPc d) t) q p
 |[],_::_,_,b,_,_=>by cases b
 |_::_,[],_,b,_,_=>by cases b
theorem zYO {a c:At}(h:zhB B base a c=true){n:Nat}(b:n∈c.ids):∃k v,n=base+k/\(zx B.r k=some v\/zx B.l k=some v):=by rcases zFO h with⟨k,m,rfl⟩|⟨x,rfl⟩|rfl|d;{simp [At.ids,zbr,zbu]at b};{simp [At.ids,zbr,zbu]at b};{simp [At.ids,zbr,zbu]at b};{exact d.ids b}
theorem zJJ {x e:TV}(h:zBR B base x e=true){b:At}(c:b∈zU e):∃a,zhB B base a b=true:=by rcases e with k|m;{rcases x with a|l;{simp only [zU,qF]at c;subst c;exact⟨a,h⟩};{cases h}};{rcases x with a|l;{cases h};{obtain⟨g,j⟩:=zwG (l:=l) (m:=m) h;obtain⟨i,f⟩:=qT.1 c;have d:i<l.length:=(by rw[g];exact(qA.1 f).1);exact⟨_,j i _ b (qB d) f⟩}}
theorem zFP:∀{stk d:List (List MV)},zhU B base stk d=true->∀f∈d,∀m∈f,∀n∈m.ids,∃k v,n=base+k/\(zx B.r k=some v\/zx B.l k=some v)
 |[],[],_,f,p,_,_,_,_=>by cases p
 |g::stk,I::d,e,f,p,m,z,n,q=>by simp only[zhU,qE]at e;rcases qH.1 p with rfl|p;{obtain⟨A,C⟩:=zBQ e.1;obtain⟨i,u⟩:=qT.1 z;have t:i<g.length:=(by rw[A];exact(qA.1 u).1);have c:=C i _ m (qB t) u;simp only[MV.ids,qN]at q;obtain⟨b,h,q⟩:=q;have:∃a,zhB B base a b=true:=(by generalize g[i]=x at c;cases m with|und=>simp[zby]at h|v J=>(cases x with|v y=>exact zJJ c h|_=>cases c)|tup H=>(cases x with|tup l=>obtain⟨F,G⟩:=zwH (l:=l) (m:=H) c;simp only[zby,qN]at h;obtain⟨y,E,h⟩:=h;obtain⟨j,w⟩:=qT.1 E;have s:j<l.length:=(by rw[F];exact(qA.1 w).1);exact zJJ (G j _ y (qB s) w) h|_=>cases c));obtain⟨a,D⟩:=this;exact zYO D q};{exact zFP e.2 f p m z n q}
 |[],_::_,e,_,_,_,_,_,_=>by cases e
 |_::_,[],e,_,_,_,_,_,_=>by cases e
theorem z6b {a:At}{v:Value}(h:VA w st E a v):VA w2 st2 E2 (zIu<|zsx B base a) v:=by cases a with|i k n=>exact h|b x=>exact h|sl r p=>simp only[zsx];split<;>trivial|lp l o=>simp only[zsx];split<;>trivial|ep r p i o=>simp only[zsx];split<;>trivial|kp r J t=>simp only[zsx];split<;>trivial|_=>trivial
theorem z6d {x:TV}{v:Value}(h:VT w st E x v):VT w2 st2 E2 (zrV zIu<|zrV (zsx B base) x) v:=by rcases x with a|l;{exact z6b h};{obtain⟨k,g,i,e⟩:=h;refine⟨k,g,by simp[i],λj a u c f=>?_⟩;rw[qO,qO]at c;cases d:l[j]? with|none=>rw[d]at c;cases c|some b=>rw[d]at c;cases c;exact⟨(e j b u d f).1,z6b (e j b u d f).2⟩}
theorem z9B {m:MV}{v:Value}(h:VM w st E m v):VM w2 st2 E2 (zls zIu<|zls (zsx B base) m) v:=by cases m with|und=>exact h|v x=>exact z6d h|tup l=>obtain⟨k,e,f,g⟩:=h;refine⟨k,e,by simp[f],λj a u c i=>?_⟩;rw[qO,qO]at c;(cases d:l[j]? with|none=>rw[d]at c;cases c|some b=>rw[d]at c;cases c;exact z6d (g j b u d i))
theorem zIz:∀{stk:List (List MV)} {sv:List (Array Value)},Stack w st E stk sv->Stack w2 st2 E2 (zL7<|ztW B base stk) sv
 |[],[],_=>trivial
 |f::r,ts::s,h=>by refine⟨⟨by simp[h.1.1],λi m v a c=>?_⟩,zIz h.2⟩;rw[qO,qO]at a;cases b:f[i]? with|none=>rw[b]at a;cases a|some y=>rw[b]at a;cases a;exact z9B (h.1.2 i y v b c)
 |[],_::_,h=>h.elim
 |_::_,[],h=>h.elim
end
theorem zMm:∀{l:List (Nat×Nat×Nat×AT)} {B b:Bnd},zMl st B l=some b->ExtB B b
 |[],B,b,h=>by cases h;exact .refl B
 |(f,s,k,a)::r,B,b,h=>by simp only[zMl]at h;split at h;{split at h;{rename_i d c;exact(zwS 0 c).1.trans (zMm h)};{cases h}};{cases h}
theorem zVU (hS:Sim w0 S0 U st E ts sv w){T:Tmpl}{B:Bnd}{cs:List CV}(h:T.takeB st=some (B,cs))(base:Nat){stk0:List (List MV)}(a6:∀(w1:World) (st1:St) (E1:Env),Stack w1 st1 E1 (zL7 stk0) sv)(a4:zhU B base st.stk stk0=true) :
 ∃st1 E1,T.put base cs=some st1/\Sim w0 S0 (λn=>base<=n/\n<base+1000) {st1 with stk:=stk0} E1 ts sv w/\st1.nid=base+1000:=by
 unfold Tmpl.takeB at h;split at h
 .rename_i hn;simp only[qK]at hn;split at h
  .rename_i B1 cs1 Y;split at h
   rotate_left
   .cases h
   rename_i Bk C;split at h
   .rename_i Bx cs2 h2;split at h
    .rename_i cs3 h3;split at h
     .rename_i K;cases h;obtain⟨e1,p1⟩:=zGB base Y;obtain⟨b0,p2⟩:=zGz base h2;have e2:=(zMm C).trans b0;obtain⟨a8,q5,q6⟩:=zGA base h3;obtain⟨a3,q1,q2,q3⟩:=p1 (cs2++cs3) (List.replicate T.n<|.v<|.at .bad);obtain⟨a7,q7,q8⟩:=p2 cs3;have a5:∀{l:List (Nat×Nat)},l=[]->Inj l:=λh k k' v C=>by subst h;cases C
      have b1:Inj B.l:=(e1.trans e2).il (a5 rfl);rw[qE]at K;obtain⟨K,Z⟩:=K;simp only[z4m,qE,qQ,qZ]at K;have b2:∀{r s v:Nat} {t:Ty},(r,t,true)∈T.ro->zx B.r r=some v->zx B.r s=some v->r=s:=by intro r s v t M Y h2;have g:=qQ.1 (qQ.1 Z _ M) _ (zoX h2);simp only[Y,jW,kI,jB] at g;rcases g with g|g;{exact g.symm};{simp at g}
      have W:∀{k v:Nat},zx B.r k=some v->base<=base+k/\base+k<base+1000:=λh=>⟨by omega,by have:=K.1 _ (zoX h);simp only at this;omega⟩
      have V:∀{k v:Nat},zx B.l k=some v->base<=base+k/\base+k<base+1000:=λh=>⟨by omega,by have:=K.2 _ (zoX h);simp only at this;omega⟩
      refine⟨{tm:=a3,lo:=a7,ro:=a8,stk:=[],nid:=base+1000,ep:=0},newEnv B base E,?_,?_,rfl⟩
      .simp [Tmpl.put,j4,q1,q7,q5]
      .generalize hst:({tm:=a3,lo:=a7,ro:=a8,stk:=stk0,nid:=base+1000,ep:=0}:St)=st1;have b:∀(D:Nat) (y:Root),st1.root D=some y->∃r z o,D=base+r/\zx B.r r=some z/\st.root z=some {y with own:=o}/\y.ep=none/\(y.own=true->o=true/\(r,y.t,true)∈T.ro):=by intro D y p;have:=(zbw p).1;rw[<- hst] at this;obtain⟨r,z,o,g1,q,A,S,L⟩:=q6 D y this;exact⟨r,z,o,g1,q,ziW A<|.inl S,S,L⟩
       have J:∀(O:Nat) (d:List At),zx st1.lo O=some d->∃l G H,O=base+l/\zx B.l l=some G/\zx st.lo G=some H/\d.length=H.length/\∀(j:Nat) (x x1:At),H[j]?=some x->d[j]?=some x1->zqZ B base x x1:=by intro O d h;rw[<- hst]at h;exact q8 O d h
       have a2:∀(r z:Nat) (y:Root),zx B.r r=some z->st1.root (base+r)=some y->∃o,st.root z=some {y with own:=o}:=by intro r z y hb p;obtain⟨r2,b4,o,g1,q,A,_⟩:=b _ y p;have:r=r2:=(by omega);subst this;rw[hb] at q;cases q;exact⟨o,A⟩
       have a0:∀(l G:Nat) (d:List At),zx B.l l=some G->zx st1.lo (base+l)=some d->∃H,zx st.lo G=some H:=by intro l G d hb h;obtain⟨l2,b3,H,g1,q,A,_⟩:=J _ d h;have:l=l2:=(by omega);subst this;rw[hb] at q;cases q;exact⟨H,A⟩
       have F:∀{r z:Nat},zx B.r r=some z->(newEnv B base E).ρ (base+r)=E.ρ z/\(newEnv B base E).φ (base+r)=E.φ z:=λh=>by simp[newEnv,h]
       have P:∀{l G:Nat},zx B.l l=some G->(newEnv B base E).β (base+l)=E.β G:=λh=>by simp[newEnv,h]
       have I:=hS.mem;refine⟨⟨I.os,I.tape,I.output,I.size,I.keep,?_,?_,?_,?_,?_,?_,?_,?_,?_,I.κ⟩,⟨?_,?_,?_,?_⟩,⟨?_,?_⟩,?_⟩
       .intro D y p;obtain⟨r,z,o,rfl,q,A,_,L⟩:=b D y p;rw[(F q).1,(F q).2];have:=I.rep z _ A;cases ho:y.own with
        |true=>have e:=(L ho).1;subst e;exact this
        |false=>exact this.ro
       .intro D y p x N;obtain⟨r,z,o,rfl,q,A,_⟩:=b D y p;rw[(F q).2]at N;exact I.rlt z _ A x N
       .intro D y p ho;obtain⟨r,z,o,rfl,q,A,_,L⟩:=b D y p;rw[(F q).2];have:=I.mine z _ A (L ho).1;exact this
       .intro hz D y p ho he hf;obtain⟨r,z,o,rfl,q,A,_⟩:=b D y p;rw[(F q).2];cases o with
        |true=>exact(I.mine z _ A rfl).2
        |false=>exact I.frz hz z _ A rfl he hf
       .intro D y r2 R2 p ho hR2 he hne x N;obtain⟨r,z,o,rfl,q,A,_,L⟩:=b D y p;obtain⟨s,s',o2,rfl,Q,X,_⟩:=b r2 R2 hR2;rw[(F q).2]at N;rw[(F Q).2];exact I.apart z _ s' _ A (L ho).1 X he (λe=>hne (by subst e;rw[b2 (L ho).2 q Q])) x N
       .intro O d hl1;obtain⟨l,G,H,rfl,q,A,S,L⟩:=J O d hl1;obtain⟨f1,a9,e,Q,X,f4⟩:=I.loc G H A;rw[P q];refine⟨f1,a9,e,Q,by rw[X,S],λj c u hc hu=>?_⟩
        have a1:j<H.length:=by rw[<- S];exact(qA.1 hc).1
        have N:=qB a1;obtain⟨f5,f6⟩:=f4 j _ u N hu;exact⟨f5,(L j _ c N hc).va f6 a2 a0⟩
       .intro O l2 d xs2 Y h2 he;obtain⟨l,G,H,rfl,q,A,_⟩:=J O d Y;obtain⟨s,s',ys,rfl,Q,X,_⟩:=J l2 xs2 h2;rw[P q,P Q]at he;have:=I.linj G s' H ys A X he;subst this;rw[b1 l s G q Q]
       .intro O d D y Y p;obtain⟨l,G,H,rfl,q,A,_⟩:=J O d Y;obtain⟨r,z,o,rfl,Q,X,_⟩:=b D y p;rw[P q,(F Q).2];exact I.lro G H z _ A X
       .intro D y e hr1 he;rw[<- hst]at hr1;obtain⟨_,_,_,_,_,_,S,_⟩:=q6 D y hr1;rw[S]at he;cases he
       .intro n R hn';rw[<- hst]at hn';obtain⟨r,z,o,rfl,q,_⟩:=q6 n R hn';exact W q
       .intro n d hn';obtain⟨l,G,H,rfl,q,A,S,L⟩:=J n d hn';refine⟨V q,λa ha m M=>?_⟩;obtain⟨j,hj⟩:=qT.1 ha;have a1:j<H.length:=by rw[<- S];exact(qA.1 hj).1
        obtain⟨k,v,rfl,C⟩:=(L j _ a (qB a1) hj).ids M;rcases C with C|C
        .exact W C
        .exact V C
       .intro m M n hn';rw[<- hst]at M;obtain⟨i,hi⟩:=qT.1 M;rcases q3 i m hi with h|⟨x,x1,_,rfl,hc⟩
        .rw [kK]at h;split at h
         .cases h;simp[MV.ids,zby,zU,At.ids,zbr,zbu]at hn'
         .cases h
        .rw [zd0]at hn';obtain⟨k,v,rfl,C⟩:=(hc.mono e2).ids hn';rcases C with C|C
         .exact W C
         .exact V C
       .intro f hf m M n hn';rw[<- hst]at hf;obtain⟨k,v,rfl,C⟩:=zFP a4 f hf m M n hn';rcases C with C|C
        .exact W C
        .exact V C
       .rw [<- hst]
        show ts.size=a3.length
        rw[q2,List.length_replicate,hn];exact hS.tm.1
       .intro i m v M hv;rw[<- hst]at M;rcases q3 i m M with h|⟨x,x1,N,rfl,hc⟩
        .rw [kK]at h;split at h
         .cases h;trivial
         .cases h
        .have:=hS.tm.2 i _ v N hv;exact(hc.mono e2).va this a2 a0
       .have e:st1.stk=stk0:=by rw[<- hst]
        rw[e];exact zMg a2 a0 a4 hS.stk (a6 w st1 E)
     .cases h
    .cases h
   .cases h
  .cases h
 .cases h
end
section
variable {C:Cfg} {w0 w w1:World} {S0:zbd} {U:Nat->Prop} {st st1:St} {E E1:Env} {ts:Array Value} {sv:List (Array Value)}
structure DrawOk (C:Cfg):Prop where
 ok:∀(call:zhA),zsh C call->∀(ops:Array Oper) (k:St->Option Ans) (ans:Ans) (Q:Exit->Act->World->Prop) (w0:World) (S0:zbd) (sv:List (Array Value)) (U0:Nat->Prop) (nid0:Nat) (U:Nat->Prop) (st:St) (E:Env) (ts:Array Value) (w:World),
  (∀(U':Nat->Prop) (st':St) (E':Env) (ts':Array Value) (w':World),Sim w0 S0 U' st' E' ts' sv w'->(∀n,U' n->U0 n\/nid0<=n)->nid0<=st'.nid->(∀n,st'.nid<=n->¬ U' n)->k st'=some ans->Q .normal {tmps:=ts',defers:=[]} w')->
  Sim w0 S0 U st E ts sv w->(∀n,U n->U0 n\/nid0<=n)->(∀n,st.nid<=n->¬ U n)->nid0<=st.nid->
  zGW C call ops k st=some ans->
  ∀t,wpOps C.P ops Q (Region.schedule (C.P.follows .mixedOrders) ops t) {tmps:=ts,defers:=[]} {w with drawn:=w.drawn+1}
structure EngOk (C:Cfg):Prop where
 cfg:CfgOk C
 ctr:CtrOk C
 graft:GraftOk C
 name:NameOk C
 draw:DrawOk C
def zWk:Ex->Exit
 |.normal=>.normal
 |.exit id=>.exit id
 |.ret=>.ret
theorem Sim.nid (b:Sim w0 S0 U st E ts sv w)(n:Nat):Sim w0 S0 U {st with nid:=n} E ts sv w:=by
 have T:Trans st E w {st with nid:=n} E w (λ_=>True):=⟨λ_ _ R h=>⟨R,h,rfl,λ_ _ h=>h⟩,λ_ _ f h=>⟨⟨f,h⟩,rfl⟩,rfl⟩;have a:=b.mem;exact⟨⟨a.os,a.tape,a.output,a.size,a.keep,a.rep,a.rlt,a.mine,a.frz,a.apart,
  λl f r=>by obtain⟨m,d,e,p,q,g⟩:=a.loc l f r;exact⟨m,d,e,p,q,λj c u i k=>⟨(g j c u i k).1,VA.tr T (λ_ _=>trivial) (g j c u i k).2⟩⟩,
  a.linj,a.lro,a.epo,a.κ⟩,⟨b.ids.ro,b.ids.lo,b.ids.tm,b.ids.stk⟩,Slots.tr T (λ_ _ _ _=>trivial) b.tm,Stack.tr T (λ_ _ _ _ _ _=>trivial) b.stk⟩
def Conts (f:Ans)(w0:World)(S0:zbd)(sv:List (Array Value))(i:Nat->Prop)(b:Nat)(k:Ex->St->Option Ans)(Q:Exit->Act->World->Prop):Prop :=
 ∀(e:Ex) (d:Nat->Prop) (a:St) (h:Env) (c:Array Value) (g:World),Sim w0 S0 d a h c sv g->(∀n,d n->i n\/b<=n)->b<=a.nid->(∀n,a.nid<=n->¬ d n)->k e a=some f->Q (zWk e) {tmps:=c,defers:=[]} g
def Sound (C:Cfg)(tm:Nat->Option Tmpl)(N:Nat)(d:zhA)(b:Code):Prop :=
 ∀(k:Ex->St->Option Ans) (c:Ans) (Q:Exit->Act->World->Prop) (w0:World) (S0:zbd) (sv:List (Array Value)) (e:Nat->Prop) (a:Nat),Conts c w0 S0 sv e a k Q->
  ∀(U:Nat->Prop) (st:St) (E:Env) (ts:Array Value) (w:World),Sim w0 S0 U st E ts sv w->(∀n,U n->e n\/a<=n)->a<=st.nid->(∀n,st.nid<=n->¬ U n)->
   zi5 C tm N d b st k=some c->b.wp C.P Q {tmps:=ts,defers:=[]} w
theorem z0a {tm:Nat->Option Tmpl}{N:Nat}{g:zhA}{c:Code}(hb:Sound C tm N g c)(id:Nat):Sound C tm N g (.block id<|.loop c):=by
 intro k z Q w0 S0 sv U0 p S U st E ts w hS hU hn hF h;simp only[zi5]at h;split at h;{cases h}
 .rename_i T hT;split at h;{cases h}
  .rename_i B0 y hcs;split at h;{cases h}
   .rename_i s0 hs0;generalize x:ztW B0 st.nid st.stk=b at h;cases v:zhU B0 st.nid st.stk b with
    |false=>rw[v]at h;cases h
    |true=>
    rw[v,cond_true]at h;refine wp_block (wp_loop_rounds N ?_);have W:∀(w1:World) (st1:St) (E1:Env),Stack w1 st1 E1 (zL7 b) sv:=λw1 st1 E1=>by rw[<- x];exact zIz hS.stk
    have Z:∀(n:Nat) (s:Dat T.sig) (B:Bnd) (y:List CV) (M:Nat->Prop) (st1:St) (E1:Env) (i:Array Value) (w1:World),Sim w0 S0 M st1 E1 i sv w1->T.takeB st1=some (B,y)->zhU B st.nid st1.stk b=true->unpack T.sig y=some s->
     iter n (λrec s=>
      match T.put st.nid (packs T.sig s) with
      |none=>none
      |some st1=>zi5 C tm N g c {st1 with stk:=b} λe a=>match e with
       |.normal=>match T.takeB a with
        |none=>none
        |some (I,q)=>match unpack T.sig q with
         |none=>none
         |some s'=>cond (zhU I st.nid a.stk b) (rec s') none
       |.exit l=>if l==id then k .normal a else k (.exit l) a
       |.ret=>k .ret a) s=some z->
     Code.rounds C.P c (Exit.inBlock id Q) n {tmps:=i,defers:=[]} w1:=by
     intro n
     induction n with
     |zero=>intro s B y M st1 E1 i w1 _ _ _ _ h;cases h
     |succ n ih=>
      intro s B y M st1 E1 i w1 O X A Y h;simp only[iter]at h;obtain⟨H,E2,G,R,a0⟩:=zVU O X st.nid (stk0:=b) W A;rw[zmQ _ _ _ Y,G]at h;simp only at h;rw[rounds_succ];refine hb _ z _ w0 S0 sv U0 p ?_ _ _ E2 i w1 R (λn f=>.inr (by omega)) (by show p<=H.nid;omega) (λn f h=>by
       have:H.nid<=n:=f;omega) h
      intro e K a J m L j t f r d;cases e with|normal=>simp only at d;split at d;{cases d};{rename_i I q D;split at d;{cases d};{rename_i s' V;cases u:zhU I st.nid a.stk b with|false=>rw[u]at d;cases d|true=>rw[u,cond_true]at d;exact ih s' I q K a J m L j D u V d}}|exit l =>simp only at d;simp only[zWk,Exit.then,Exit.inBlock];split at d;{rename_i F;simp only[qK]at F;rw[if_pos F];exact S .normal K a J m L j t f r d};{rename_i F;simp only[qK]at F;rw[if_neg F];exact S (.exit l) K a J m L j t f r d}|ret=>exact S .ret K a J m L j t f r d
    exact Z N s0 B0 y U st E ts w hS hcs v hs0 h
theorem zY4 {tm:Nat->Option Tmpl}{N:Nat}{c:zhA}{id:Nat}{a:Code}(g:∀b,a≠.loop b)(st:St)(k:Ex->St->Option Ans) :
 zi5 C tm N c (.block id a) st k=zi5 C tm N c a st λe d=>match e with
  |.exit f=>if f==id then k .normal d else k (.exit f) d
  |e=>k e d:=by
 rw[zi5]
 .rfl
 .intro b hb;exact g b hb
theorem ze8 {tm:Nat->Option Tmpl}{N:Nat}{l:zhA}{a:Code}(D:Sound C tm N l a)(v:∀b,a≠.loop b)(id:Nat):Sound C tm N l (.block id a):=by intro k u Q w0 S0 sv y p s U st E ts w A B F z h;rw[zY4 v]at h;refine wp_block (D _ u _ w0 S0 sv y p ?_ U st E ts w A B F z h);intro e r i q j t d f g c m;cases e with|normal=>exact s .normal r i q j t d f g c m|exit x =>simp only at m;simp only[zWk,Exit.inBlock];split at m;{rename_i n;simp only[qK]at n;rw[if_pos n];exact s .normal r i q j t d f g c m};{rename_i n;simp only[qK]at n;rw[if_neg n];exact s (.exit x) r i q j t d f g c m}|ret=>exact s .ret r i q j t d f g c m
theorem zc1 (t:EngOk C){tm:Nat->Option Tmpl}{N:Nat}{M:zhA}(g:zsh C M):∀(a1:Code),Sound C tm N M a1
 |.skip=>by intro k r Q w0 S0 sv L m G U st E ts w H J K I h;simp only[zi5]at h;exact wp_skip (G .normal U st E ts w H J K I h)
 |.exit id=>by intro k r Q w0 S0 sv L m G U st E ts w H J K I h;simp only[zi5]at h;exact wp_exit (G (.exit id) U st E ts w H J K I h)
 |.ret=>by intro k r Q w0 S0 sv L m G U st E ts w H J K I h;simp only[zi5]at h;exact wp_ret (G .ret U st E ts w H J K I h)
 |.region id W false=>by
  intro k r Q w0 S0 sv L m G U st E ts w H J K I h;simp only[zi5,zQy]at h;refine wp_region (zmE t.cfg t.ctr t.graft t.name g (base:=st.nid) (V:=λn=>L n\/m<=n) (λn q=>.inr q) (λS v R z P u F q D A=>G .normal S v R z P u F q D A)
   (List.range W.size) U _ E ts w (H.nid _) J (λn q=>I n (qX (uD _ _) q)) (λj _ n hm=>⟨I n (by have:=hm.1;omega),.inr (by have:=hm.1;omega)⟩) List.nodup_range (qX K<|uD _ _) (λj hj=>?_) h)
  have:=kH.1 hj;show st.nid+32*j+32<=st.nid+32*W.size;omega
 |.region id W true=>by intro k r Q w0 S0 sv L m G U st E ts w H J K I h;simp only[zi5,zQy]at h;exact wp_region_draw (t.draw.ok M g W _ r Q w0 S0 sv L m U st E ts w (λS v R z P u F q D A=>G .normal S v R z P u F q D A) H J I K h)
 |.seq a b=>by
  intro k r Q w0 S0 sv L m G U st E ts w H J K I h;simp only[zi5]at h;split at h;{refine wp_seq (zc1 t g a _ r _ w0 S0 sv L m ?_ U st E ts w H J K I h);intro e S v R z P u F q D A;cases e with|normal=>exact zc1 t g b k r Q w0 S0 sv L m G S v R z P u F q D A|exit Z=>exact G (.exit Z) S v R z P u F q D A|ret=>exact G .ret S v R z P u F q D A}
  .rename_i T hT;simp only[share]at h;generalize Y:zOh T st=O at h;have a5:∀(w1:World) (st1:St) (E1:Env),Stack w1 st1 E1 (zL7 O) sv:=λw1 st1 E1=>by rw[<- Y];exact zIz H.stk
   refine wp_seq (zc1 t g a _ r _ w0 S0 sv L m ?_ U st E ts w H J K I h);intro e S v R z P u F q D A;cases e with
   |normal=>
    simp only[z5A]at A;split at A;{cases A}
    .rename_i B cs hcs;split at A;{cases A}
     .rename_i s hs;cases X:zhU B st.nid v.stk O with
      |false=>rw[X]at A;cases A
      |true=>
       rw[X,cond_true]at A;obtain⟨a3,E2,a2,a4,a6⟩:=zVU u hcs st.nid (stk0:=O) a5 X;simp only[z5B]at A;rw[zmQ _ _ _ hs,a2]at A;exact zc1 t g b k r Q w0 S0 sv L m G _ _ E2 z P a4 (λn q=>.inr (by omega)) (by show m<=a3.nid;omega) (λn q h=>by
        have:a3.nid<=n:=q;omega) A
   |exit Z=>exact G (.exit Z) S v R z P u F q D A
   |ret=>exact G .ret S v R z P u F q D A
 |.cond c a b=>by intro k r Q w0 S0 sv L m G U st E ts w H J K I h;simp only[zi5]at h;split at h;{rename_i x hx;have hv:=(zbB H hx).1;simp only[VA]at hv;cases x with|true=>exact wp_cond_true hv (zc1 t g a k r Q w0 S0 sv L m G U st E ts w H J K I h)|false=>exact wp_cond_false hv (zc1 t g b k r Q w0 S0 sv L m G U st E ts w H J K I h)};{cases h}
 |.block id (.loop a0)=>z0a (zc1 t g a0) id
 |.block id .skip=>ze8 (zc1 t g .skip) (λ_=>Code.noConfusion) id
 |.block id (.region i o d)=>ze8 (zc1 t g<|.region i o d) (λ_=>Code.noConfusion) id
 |.block id (.seq a b)=>ze8 (zc1 t g<|.seq a b) (λ_=>Code.noConfusion) id
 |.block id (.cond c a b)=>ze8 (zc1 t g<|.cond c a b) (λ_=>Code.noConfusion) id
 |.block id (.block i b)=>ze8 (zc1 t g<|.block i b) (λ_=>Code.noConfusion) id
 |.block id (.exit i)=>ze8 (zc1 t g<|.exit i) (λ_=>Code.noConfusion) id
 |.block id .ret=>ze8 (zc1 t g .ret) (λ_=>Code.noConfusion) id
 |.block id (.rangeFunc f p a b)=>ze8 (zc1 t g<|.rangeFunc f p a b) (λ_=>Code.noConfusion) id
 |.block id (.scope b)=>ze8 (zc1 t g<|.scope b) (λ_=>Code.noConfusion) id
 |.block id (.label l)=>ze8 (zc1 t g<|.label l) (λ_=>Code.noConfusion) id
 |.block id (.goto l)=>ze8 (zc1 t g<|.goto l) (λ_=>Code.noConfusion) id
 |.block id (.refuse y)=>ze8 (zc1 t g<|.refuse y) (λ_=>Code.noConfusion) id
 |.loop _ | .rangeFunc .. | .scope _ | .label _ | .goto _ | .refuse _=>by intro k r Q w0 S0 sv L m G U st E ts w H J K I h;simp[zi5]at h
def zCU (ts:Array Value):ResultVar->Sem Value
 |.tmp t=>pure (ts.getD t undef)
 |.cell a t=>do loadVar t (<- asAddr (ts.getD a undef))
theorem zsY (R:CfgOk C)(s:Sim w0 S0 U st E ts sv w):∀(l:List ResultVar) (G:List TV),zlf C st l=some G->
 ∃A:List Value,(l.mapM<|zCU ts).run C.P w = .ok A w/\G.length=A.length/\
  (∀(k:Nat) (x:TV) (u:Value),G[k]?=some x->A[k]?=some u->VT w st E x u)/\∀x∈G,∀a∈zU x,∀n∈a.ids,U n
 |[],G,h=>by cases h;exact⟨[],by simp,rfl,λk x u h=>by simp at h,λx h=>by simp at h⟩
 |.tmp t::r,G,h=>by simp only[zlf]at h;split at h;{rename_i x X J V;cases h;obtain⟨A,L,M,N,O⟩:=zsY R s r X V;have p:t<ts.size:=(by rw[s.tm.1];exact(qA.1 J).1);have a0:ts.getD t undef=ts[t]:=(by simp[Array.getD,p]);refine⟨ts[t]::A,by simp[uY,zCU,L,p],by simp[M],λk y u c g=>?_,λy c a i n z=>?_⟩;{cases k with|zero=>simp at c g;subst c g;exact s.tm.2 t _ _ J (by simp[p])|succ k=>exact N k y u (by simpa using c) (by simpa using g)};{rcases qH.1 c with rfl|c;{exact s.ids.tm _ (qJ J) n (by simp only[MV.ids,zby,qN];exact⟨a,i,z⟩)};{exact O y c a i n z}}};{cases h}
 |.cell t T::r,G,h=>by simp only[zlf]at h;split at h;{rename_i l d H K X J hT V;obtain⟨A,L,M,N,O⟩:=zsY R s r X V;obtain⟨W,_⟩:=zbB s J;have I:=R.cty T H K hT;split at h;{rename_i Q B;have F:=W.2 Q B;simp only[Act.eval]at F;obtain⟨_,f,e,Y,g2,Z⟩:=s.mem.loc l Q B;have v:=(s.ids.lo l Q B).2;split at h;{rename_i m;cases m;split at h;{rename_i a1;cases h;have q:=zqb (P:=C.P) (w:=w) I Y (by omega:d+K.length<=f.size);have D:ts[t]?.getD undef = .pointer (some ⟨E.β l,d,none⟩):=(by simpa using F);refine⟨_::A,by simp[uY,zCU,L,D,asAddr,q];rfl,by simp[M],λk y u c g=>?_,λy c a i n z=>?_⟩;{cases k with|zero=>simp at c g;subst c g;refine⟨_,rfl,by simp;omega,λj a u i g=>?_⟩;simp only[jL,jP]at i;simp only[jG,jL,jP,kS]at g;split at i;{rename_i hj;rw[if_pos hj]at g;exact Z (d+j) a u i g};{cases i}|succ k=>exact N k y u (by simpa using c) (by simpa using g)};{rcases qH.1 c with rfl|c;{exact v a (kX<|jY i) n z};{exact O y c a i n z}}};{cases h}};{rename_i m;have:H=false:=(by simpa using m);subst this;split at h;{rename_i a i;cases h;have p:d<f.size:=(by rw[g2];exact(qA.1 i).1);have hv:f[d]?=some f[d]:=(by simp[p]);have q:=zqc (P:=C.P) (w:=w) I Y hv;have D:ts[t]?.getD undef = .pointer (some ⟨E.β l,d,none⟩):=(by simpa using F);refine⟨f[d]::A,by simp[uY,zCU,L,D,asAddr,q],by simp[M],λk y u c g=>?_,λy c b S n z=>?_⟩;{cases k with|zero=>simp at c g;subst c g;exact(Z d a _ i hv).2|succ k=>exact N k y u (by simpa using c) (by simpa using g)};{rcases qH.1 c with rfl|c;{simp only [zU,qF]at S;subst S;exact v _ (qJ i) n z};{exact O y c b S n z}}};{cases h}}};{cases h}};{cases h}
theorem z7n (a:List Value):(if h:a.toArray.size=1 then a.toArray[0] else Value.tuple a.toArray)=zmf a:=by
 match a with
 |[]=>rfl
 |[x]=>rfl
 |x::y::l=>simp[zmf]
theorem zXl (m:CfgOk C)(p:Sim w0 S0 U st E ts sv w){c:Func}{f:List TV}(h:zlf C st c.results.toList=some f) :
 ∃b:List Value,(results c ts).run C.P w = .ok (zmf b) w/\VM w st E (zjz f) (zmf b)/\(∀n∈(zjz f).ids,U n):=by
 obtain⟨b,i,j,k,l⟩:=zsY m p _ f h;refine⟨b,?_,zrg j k,λn d=>?_⟩
 .have e:results c ts=(do let b <- c.results.mapM (zCU ts);pure (if h:b.size=1 then b[0] else .tuple b)):=by unfold results;congr 1
  rw[e];simp only[Array.mapM_eq_mapM_toList,Sem.run_bind,Sem.run_map,i]
  show Result.ok _ w=Result.ok _ w
  rw[<- z7n]
 .simp only [MV.ids,qN]at d;obtain⟨a,g,d⟩:=d;obtain⟨x,q,g⟩:=zrf g;exact l x q a g n d
end
section
variable {C:Cfg} {w0 w w1:World} {S0:zbd} {U:Nat->Prop} {st st1:St} {E E1:Env} {ts:Array Value} {sv:List (Array Value)}
theorem zlZ (hO:EngOk C){tms:FuncId->Nat->Option Tmpl}{N:Nat}{s:zhA}(B:zsh C s):zsh C (zvD C tms N s):=by
 intro f K st k G h w0 S0 U E ts sv w d R A hF Z hv hi hk;unfold zvD at h;split at h
 .rename_i fn t;split at h
  .rename_i body hb;refine ⟨⟨fn,body,t,hb⟩,calls_of_wp t hb ?_⟩;have S:Sim w0 S0 U { st with tm:=K++List.replicate (fn.ntmps-K.length) .und,stk:=st.tm :: st.stk } E (d++Array.replicate (fn.ntmps-d.size) undef) (ts :: sv) w:=by
    have T:Trans st E w {st with tm:=K++List.replicate (fn.ntmps-K.length) .und,stk:=st.tm::st.stk} E w (fun _=>True):=⟨fun _ _ R h=>⟨R,h,rfl,fun _ _ h=>h⟩,fun _ _ x h=>⟨⟨x,h⟩,rfl⟩,rfl⟩;have a:=A.mem;refine⟨⟨a.os,a.tape,a.output,a.size,a.keep,a.rep,a.rlt,a.mine,a.frz,a.apart,
     fun l x W=>by obtain⟨O,d,e,y,H,z⟩:=a.loc l x W;exact⟨O,d,e,y,H,fun j c u I J=>⟨(z j c u I J).1,VA.tr T (fun _ _=>trivial) (z j c u I J).2⟩⟩,
     a.linj,a.lro,a.epo,a.κ⟩,⟨A.ids.ro,A.ids.lo,fun m b n r=>?_,fun f t m b n r=>?_⟩,⟨?_,fun i m v b p=>?_⟩,Slots.tr T (fun _ _ _ _=>trivial) A.tm,Stack.tr T (fun _ _ _ _ _ _=>trivial) A.stk⟩
    {rcases jS.1 b with b|b;{exact hi m b n r};{have:=(List.mem_replicate.1 b).2;subst this;simp[MV.ids,zby]at r}};{rcases qH.1 t with rfl|t;{exact A.ids.tm m b n r};{exact A.ids.stk f t m b n r}};{simp [Z]};{simp only at b;by_cases X:i<K.length;{rw [qU X]at b;rw[j5 (by omega)]at p;exact VM.tr T (fun _ _=>trivial) (hv i m v b p)};{rw [qP (by omega),kK]at b;rw[kD (by omega),Array.getElem?_replicate]at p;split at b;{cases b;split at p;{cases p;rfl};{cases p}};{cases b}}}
   refine zc1 hO B body _ G _ w0 S0 (ts::sv) U st.nid ?_ U _ E _ w S (fun n r=>.inl r) (qW _) hF h;intro e U' q L a0 F g V Y Q M;have done:(match zlf C q fn.results.toList,q.stk with
    |some rs,tm::stk=>k rs {q with tm,stk}
    |_,_=>none)=some G->([]:List Deferred)=[]/\∃v,(results fn a0).run C.P F = .ok v F/\R v F:=by
    intro y;split at y
    .rename_i rs tm stk hrs hstk;obtain ⟨us,H,z,h5⟩:=zXl hO.cfg g hrs;refine ⟨rfl,zmf us,H,?_⟩;have T:Trans q L F { q with tm,stk } L F (fun _=>True):=⟨fun _ _ R h=>⟨R,h,rfl,fun _ _ h=>h⟩,fun _ _ x h=>⟨⟨x,h⟩,rfl⟩,rfl⟩;have a:=g.mem;have D:=g.stk;rw[hstk]at D;refine hk U' { q with tm,stk } L F rs (zmf us) ⟨⟨a.os,a.tape,a.output,a.size,a.keep,a.rep,a.rlt,a.mine,a.frz,a.apart,
      fun l x W=>by obtain⟨O,d,e,y,H,z⟩:=a.loc l x W;exact⟨O,d,e,y,H,fun j c u I J=>⟨(z j c u I J).1,VA.tr T (fun _ _=>trivial) (z j c u I J).2⟩⟩,
      a.linj,a.lro,a.epo,a.κ⟩,⟨g.ids.ro,g.ids.lo,fun m b n r=>g.ids.stk tm (by rw[hstk];simp) m b n r,fun f t m b n r=>g.ids.stk f (by rw[hstk];exact jE _ t) m b n r⟩,
      Slots.tr T (fun _ _ _ _=>trivial) D.1,Stack.tr T (fun _ _ _ _ _ _=>trivial) D.2⟩ V Y Q (VM.tr T (fun _ _=>trivial) z) h5 y
    .cases y
   cases e with|normal=>exact done M|exit id=>cases M|ret=>exact done M
  {cases h}
 {cases h}
theorem zML (B:Sim w0 S0 U st E ts sv w):∀(q:List MV) (j:List AV) (d:List Value),zcq st.avOf q=some j->d.length=q.length->(∀(i:Nat) (m:MV) (v:Value),q[i]?=some m->d[i]?=some v->VM w st E m v)->
 ∃t,zdz false w (zA j) t (λ_ b=>b<w.heap.size)/\d=zbW j t
 |[],j,d,h,n,_=>by cases h;have:d=[]:=List.length_eq_zero_iff.1 n;subst this;exact⟨[],⟨rfl,λi c x h=>by simp[zA]at h⟩,rfl⟩
 |M::r,j,[],h,n,_=>by simp at n
 |M::r,j,x::d,h,n,K=>by simp only[zcq]at h;split at h;{rename_i S f;split at h;{rename_i g R;cases h;obtain⟨t,s,J⟩:=zML B r g d R (by simpa using n) (λi m v A H=>K (i+1) m v (by simpa using A) (by simpa using H));have L:=K 0 M x rfl rfl;unfold St.avOf at f;split at f;{rename_i a;split at f;{rename_i c O;cases f;obtain⟨A,H⟩:=ztn B O L;refine⟨x::t,?_,by simp[zbW,J]⟩;have e:zA (AV.one c::g)=[c]++zA g:=(by simp[zA,AV.cvs]);rw[e];refine zdz.append (x1:=[x]) ⟨rfl,λi N u k y=>?_⟩ s;cases i with|zero=>simp at k y;subst k y;exact A|succ i=>simp at k};{cases f}};{rename_i l;split at f;{rename_i z C;cases f;obtain⟨q,F,D,G⟩:=L;obtain⟨n,P⟩:=zob C;have p:q.toList.length=z.length:=(by simp[D,n]);refine⟨q.toList++t,?_,?_⟩;{have e:zA (AV.agg z::g)=z++zA g:=(by simp[zA,AV.cvs]);rw[e];refine zdz.append ⟨p,λi N u k y=>?_⟩ s;have Q:i<l.length:=(by rw[n];exact(qA.1 k).1);have I:=qB Q;exact(ztn B (P i _ _ I k) (G i _ u I (by simpa using y)).2).1};{simp only [zbW,F,<- p,kU,kY,J,jN]}};{cases f}};{cases f}};{cases h}};{cases h}
theorem zWB (hH:CtrOk C){f:FuncId}{L:List AV->Option (Bool×List AV)}(hf:C.ctr f=some L)(Z:List MV)(st:St)(k:List TV->St->Option Ans)(N:Ans)(h:zYP f Z st k L=some N) :
 ∀(w0:World) (S0:zbd) (U:Nat->Prop) (E:Env) (ts:Array Value) (sv:List (Array Value)) (w:World) (g:Array Value) (R:Value->World->Prop),Sim w0 S0 U st E ts sv w->(∀n,st.nid<=n->¬ U n)->
  g.size=Z.length->(∀(i:Nat) (m:MV) (v:Value),Z[i]?=some m->g[i]?=some v->VM w st E m v)->(∀m∈Z,∀n∈m.ids,U n)->
  (∀(U':Nat->Prop) (z:St) (E':Env) (A:World) (d:List TV) (v:Value),Sim w0 S0 U' z E' ts sv A->(∀n,U' n->U n\/st.nid<=n)->st.nid<=z.nid->(∀n,z.nid<=n->¬ U' n)->
   VM A z E' (zjz d) v->(∀n∈(zjz d).ids,U' n)->k d z=some N->R v A)->
  (∃fn b,C.P.funcs[f]?=some fn/\fn.body=some b)/\Calls C.P f g w λ| .returned v,A=>R v A|_,_=>False:=by
 intro w0 S0 U E ts sv w g R H hF a8 hv hi hk;unfold zYP at h;split at h
 .rename_i avs I;split at h
  .rename_i c d hr;split at h
   .rename_i W;cases S:c with
    |false=>rw[S]at h;cases h
    |true=>
     rw[S]at h hr;simp only[cond_true]at h;have W:(zA d).length<=31:=W;obtain⟨⟨fn,b,a5,hb,a7⟩,hH⟩:=hH.ok f L hf;refine⟨⟨fn,b,a5,hb⟩,?_⟩;obtain⟨xs,a9,y⟩:=zML H Z avs g.toList I (by simpa using a8) (λi m v G F=>hv i m v G (by simpa using F));have J:g=(zbW avs xs).toArray:=by rw[<- y,jN]
     rw[J];refine(hH w avs xs d a9 hr).mono ?_;intro e A he;cases e with
     |panicked a1=>exact he.elim
     |outgrown=>exact he.elim
     |returned v=>
      obtain⟨hg,M,K,D,rfl,V⟩:=he;generalize b0:st.nid=id at *;have O:∀n,(id<=n/\n<id+31)->¬ U n:=λn h=>hF n h.1;obtain⟨hM,hT⟩:=H.mem.addRootsO H.ids.mem (dro:=zc2 (zcN f) d id) (w1:=A)
       (E1:={E with ρ:=λn=>if id<=n/\n<id+31 then (M[n-id]?).getD undef else E.ρ n,φ:=λn=>if id<=n/\n<id+31 then (λx=>n-id<(zA d).length/\K (n-id) x) else E.φ n})
       hg.os hg.tape hg.output hg.size hg.keep (λr R hR=>by
        obtain⟨G,t,l,F,rfl⟩:=zfW (zcN f) d id r R hR;have q:r-id<(zA d).length:=(qA.1 F).1;have y:id<=r/\r<id+31:=⟨G,by omega⟩
        have hy:r-id<M.length:=by rw[D.1];exact q
        refine⟨O r y,rfl,?_,λx B=>?_⟩
        .simp only [if_pos y,qB hy,j3];exact(D.2 _ _ _ F<|qB hy).weak (λx B=>⟨q,B⟩)
        .simp only [if_pos y]at B;exact V.lt _ x q B.2)
       (λr R r' R' G ho F b1 x B Y=>by
        obtain⟨g1,t,l,g2,rfl⟩:=zfW (zcN f) d id r R G;obtain⟨a2,t',l',a3,rfl⟩:=zfW (zcN f) d id r' R' F;have q:r-id<(zA d).length:=(qA.1 g2).1;have X:r'-id<(zA d).length:=(qA.1 a3).1;have y:id<=r/\r<id+31:=⟨g1,by omega⟩
        have a6:id<=r'/\r'<id+31:=⟨a2,by omega⟩
        simp only[if_pos y]at B;simp only[if_pos a6]at Y;have:=V.dis _ _ _ x g2 ho X B.2 Y.2;omega)
       (λn j=>by
        have y:¬ (id<=n/\n<id+31):=λh=>O n h j;simp only[if_neg y];exact⟨trivial,trivial,trivial⟩)
      obtain⟨g1,g2⟩:=zh5 (w:=A) (st:={st with ro:=zc2 (zcN f) d id++st.ro}) (E:={E with ρ:=λn=>if id<=n/\n<id+31 then (M[n-id]?).getD undef else E.ρ n,φ:=λn=>if id<=n/\n<id+31 then (λx=>n-id<(zA d).length/\K (n-id) x) else E.φ n})
       d M id D.1 (λi c u S hu=>by
        have p:=D.2 i c u S hu;refine⟨?_,p.one⟩;have q:i<(zA d).length:=(qA.1 S).1;cases c with
        |i k n=>exact p.int_inv
        |b x=>exact p.bool_inv
        |s t l=>
         obtain⟨⟨a,a0,hv,_⟩,_⟩:=p.len;refine⟨⟨a,_,a0,hv⟩,λR hR=>?_⟩;have y:id<=id+i/\id+i<id+31:=⟨by omega,by omega⟩
         have e:id+i-id=i:=by omega
         simp only[zba,if_pos y,e,hu,j3])
      have hN:=Sim.next (dst:=none) (mv:=.und) (v:=undef) (U1:=λn=>U n\/(id<=n/\n<id+31)) H hM hT rfl rfl (λn h=>.inl h) (λn R h=>by
       simp only[zbJ]at h;split at h
       .rename_i Q hQ;obtain⟨G,t,l,F,_⟩:=zfW (zcN f) d id n Q hQ;have q:n-id<(zA d).length:=(qA.1 F).1;exact .inr ⟨G,by omega⟩
       .exact .inl (H.ids.ro n R h))
       (λn cs j=>⟨.inl (H.ids.lo n cs j).1,λa I m y=>.inl ((H.ids.lo n cs j).2 a I m y)⟩) rfl (λn j=>by simp[MV.ids,zby]at j)
      have a4:=hN.nid (id+32);have T:Trans {st with ro:=zc2 (zcN f) d id++st.ro} {E with ρ:=λn=>if id<=n/\n<id+31 then (M[n-id]?).getD undef else E.ρ n,φ:=λn=>if id<=n/\n<id+31 then (λx=>n-id<(zA d).length/\K (n-id) x) else E.φ n} A
       {st with ro:=zc2 (zcN f) d id++st.ro,nid:=id+32} {E with ρ:=λn=>if id<=n/\n<id+31 then (M[n-id]?).getD undef else E.ρ n,φ:=λn=>if id<=n/\n<id+31 then (λx=>n-id<(zA d).length/\K (n-id) x) else E.φ n} A (λ_=>True):=⟨λ_ _ R h=>⟨R,h,rfl,λ_ _ h=>h⟩,λ_ _ cs h=>⟨⟨cs,h⟩,rfl⟩,rfl⟩
      refine hk _ _ _ _ (zc0 d id) _ a4 (λn h=>h.imp (λx=>x) λh=>h.1) (by show id<=id+32;omega) (λn j h=>?_) (VM.tr T (λ_ _=>trivial)<|zrg g1 g2) (λn j=>?_) h;{have j:id+32<=n:=j;rcases h with h|h;{exact hF n (by omega) h};{omega}};{simp only [MV.ids,qN]at j;obtain⟨a,I,j⟩:=j;obtain⟨x,B,I⟩:=zrf I;have:=zfX d id n x a B I j;exact .inr ⟨this.1,by omega⟩}
   .cases h
  .cases h
 .cases h
theorem zkE (b:EngOk C){tms:FuncId->Nat->Option Tmpl}{N:Nat}:∀D,zsh C (zsi C tms N D)
 | 0=>λf c st k a h=>by cases h
 |D+1=>λf c st k a h=>by simp only[zsi]at h;split at h;{rename_i e d;exact zWB b.ctr d c st k a h};{exact zlZ b (zkE b D) f c st k a h}
theorem Given.append {x1 z:List At}{u v:List CV}{q s:List Nat}(f:Given st x1 u q)(i:Given st z v s)(w:∀k∈q,k∉s):Given st (x1++z) (u++v) (q++s):=by have mem:∀{x:List At} {c:List CV} {t:List Nat},Given st x c t->∀{k r:Nat},x[k]?=some (At.sl r [])->r∈t:=(by intro x c t A k r e;rcases A.get k _ e with⟨_,_,h,_⟩|⟨_,h,_⟩|⟨D,_,h,_,B,_⟩;{cases h};{cases h};{cases h;exact B});refine⟨by simp[f.len,i.len],λr C=>(jS.1 C).elim (f.own r) (i.own r),λk a j=>?_,λk y r e b=>?_⟩;{by_cases d:k<x1.length;{rw [qU d]at j;rw[qU (by rw[f.len];exact d)];rcases f.get k a j with h|h|⟨r,R,l,m,n,p⟩;{exact .inl h};{exact .inr (.inl h)};{exact .inr (.inr ⟨r,R,l,m,by simp[n],p⟩)}};{rw [qP (by omega)]at j;rw[qP (by rw[f.len];omega),f.len];rcases i.get _ a j with h|h|⟨r,R,l,m,n,p⟩;{exact .inl h};{exact .inr (.inl h)};{exact .inr (.inr ⟨r,R,l,m,by simp[n],p⟩)}}};{by_cases d:k<x1.length<;>by_cases g:y<x1.length;{rw [qU d]at e;rw[qU g]at b;exact f.inj k y r e b};{rw [qU d]at e;rw[qP (by omega)]at b;exact absurd (mem i b) (w r<|mem f e)};{rw [qP (by omega)]at e;rw[qU g]at b;exact absurd (mem i e) (w r<|mem f b)};{rw [qP (by omega)]at e;rw[qP (by omega)]at b;have:=i.inj _ _ r e b;omega}}
theorem zkb:∀(l:List TV) (seen:List Nat) (I:Ans) (i:List Value),zrD st l seen=some I->l.length=i.length->(∀(k:Nat) (x:TV) (u:Value),l[k]?=some x->i[k]?=some u->VT w st E x u)->
 ∃(f:List At) (v:List Value) (A:List Nat),Given st f (zA I) A/\v.length=f.length/\(∀(k:Nat) (a:At) (u:Value),f[k]?=some a->v[k]?=some u->VA w st E a u)/\i=zbW I v/\(∀k∈A,k∉seen)/\f=l.flatMap zU
 |[],seen,I,i,h,C,_=>by
  cases h;cases i with
  |nil=>exact⟨[],[],[],⟨rfl,λr W=>by simp at W,λk a h=>by simp at h,λk X r h=>by simp at h⟩,rfl,λk a u h=>by simp at h,rfl,λk h=>by simp at h,rfl⟩
  |cons u i=>simp at C
 |x::r,seen,I,i,h,C,T=>by
  cases i with
  |nil=>simp at C
  |cons u i=>have G:=T 0 x u rfl rfl;have H:∀(k:Nat) (y:TV) (z:Value),r[k]?=some y->i[k]?=some z->VT w st E y z:=λk y z U V=>T (k+1) y z (by simpa using U) (by simpa using V);rcases x with a|S;{simp only [zrD]at h;split at h;{rename_i c A hg;split at h;{rename_i d;split at h;{rename_i t q;cases h;obtain⟨_,J⟩:=zso _ _ _ _ _ hg;obtain⟨f,v,s,L,M,N,O,B,P⟩:=zkb r _ t i q (by simpa using C) H;refine⟨a::f,u::v,A++s,?_,by simp[M],λk b z n m=>?_,by simp[zbW,O],λk g=>?_,by simp[P,zU]⟩;{have e:zA (AV.one c::t)=[c]++zA t:=(by simp[zA,AV.cvs]);rw[e];exact Given.append (x1:=[a]) J L (λk g p=>B k p (j6 _ g))};{cases k with|zero=>simp at n m;subst n m;exact G|succ k=>exact N k b z (by simpa using n) (by simpa using m)};{rcases jS.1 g with g|g;{simp only [qQ,jB,jF,decide_eq_false_iff_not]at d;exact d k g};{exact λh=>B k g (kG _ h)}}};{cases h}};{cases h}};{cases h}};{simp only [zrD]at h;split at h;{rename_i K A hg;split at h;{rename_i d;split at h;{rename_i t q;cases h;obtain⟨_,J⟩:=zso _ _ _ _ _ hg;obtain⟨f,v,s,L,M,N,O,B,P⟩:=zkb r _ t i q (by simpa using C) H;obtain⟨R,rfl,j,Q⟩:=G;have D:R.toList.length=K.length:=(by rw[J.len];simpa using j);refine⟨S++f,R.toList++v,A++s,?_,by simp[M,j],λk b z n m=>?_,?_,λk g=>?_,by simp[P,zU]⟩;{have e:zA (AV.agg K::t)=K++zA t:=(by simp[zA,AV.cvs]);rw[e];exact Given.append J L (λk g p=>B k p (j6 _ g))};{by_cases F:k<S.length;{rw [qU F]at n;rw[qU (by simp[j];exact F)]at m;exact(Q k b z n (by simpa using m)).2};{rw [qP (by omega)]at n;rw[qP (by simp[j];omega)]at m;have e:R.toList.length=S.length:=(by simp[j]);rw[e]at m;exact N _ b z n m}};{simp only [zbW,<- D,kU,kY,<- O,jN]};{rcases jS.1 g with g|g;{simp only [qQ,jB,jF,decide_eq_false_iff_not]at d;exact d k g};{exact λh=>B k g (kG _ h)}}};{cases h}};{cases h}};{cases h}}
theorem zx7 {l:List TV}{v:Value}(h:VM w st E (zjz l) v):∃i:List Value,v=zmf i/\l.length=i.length/\∀(k:Nat) (x:TV) (u:Value),l[k]?=some x->i[k]?=some u->VT w st E x u:=by
 match l,h with
 |[],h=>obtain⟨d,rfl,c,_⟩:=h;have:d = #[]:=Array.eq_empty_of_size_eq_zero (by simpa using c);subst this;exact⟨[],rfl,rfl,fun k x u h=>by simp at h⟩
 |[x],h=>exact⟨[v],rfl,rfl,fun k y u g e=>by
  cases k with
  |zero=>simp at g e;subst g e;exact h
  |succ k=>simp at g⟩
 |x::y::l,h=>
  obtain⟨d,rfl,c,j⟩:=h;refine⟨d.toList,?_,by simp[c],fun k z u m e=>j k z u m (by simpa using e)⟩
  match f:d.toList,c with
  | [],c=>have:d.toList.length=0:=by rw[f];rfl
          simp[c] at this
  | [a],c=>have:d.toList.length=1:=by rw[f];rfl
           simp[c] at this
  |a::b::r,_=>simp only[zmf];rw[<- f,jN]
theorem zln {f:Bool}{r:Nat}{b:Root}(h:(st.thaw f).root r=some b):∃R,st.root r=some R/\b.t=R.t/\(b=R\/(f=true/\zDB R.t=true/\R.ep=none/\b={R with own:=true})):=by cases f with|false=>exact⟨b,h,rfl,.inl rfl⟩|true=>obtain⟨i,c⟩:=zbw h;have j:∀l:List (Nat×Root),zx (l.map λx=>(x.1,zDL x.2)) r=some b->∃R,zx l r=some R/\b=zDL R:=(by intro l;induction l with|nil=>intro h;cases h|cons a l m=>obtain⟨k,v⟩:=a;intro h;simp only[jK,zx]at h ⊢;split at h;{rename_i e;rw[if_pos e];cases h;exact⟨v,rfl,rfl⟩};{rename_i e;rw[if_neg e];exact m h});obtain⟨R,g,rfl⟩:=j st.ro i;have c:(zDL R).ep=none\/(zDL R).ep=some st.ep:=c;unfold zDL at c ⊢;(cases d:zDB R.t&&R.ep.isNone with|false=>rw[d]at c;exact⟨R,ziW g c,rfl,.inl rfl⟩|true=>rw[d]at c;simp only[qE,j8]at d;exact⟨R,ziW g<|.inl d.2,rfl,.inr ⟨rfl,d.1,d.2,rfl⟩⟩)
theorem zMp (c:Bool):Trans st E w (st.thaw c) E w (λ_=>True):=
 ⟨λr _ f b=>by
  obtain⟨R,d,e,_⟩:=zln b;exact⟨R,d,e,λp u h=>h⟩,λl _ a b=>⟨⟨a,by cases c<;>exact b⟩,rfl⟩,rfl⟩
theorem zVc {f:FuncId}{t:Ty}{l:List t.den}(b:zjA f=true)(a:zDB t=true):zrh f (.s t l)=false:=by simp[zrh,zcN,b,a]
theorem zYe {f:FuncId}{j:List At}{z:List CV}{K:List Nat}(F:Mem w0 S0 st E w)(A:Given (st.thaw<|zjA f) j z K){k:Nat}{a:At}{c:CV}{u:Value}(G:j[k]?=some a)(p:z[k]?=some c)(v:VA w st E a u):Rep (zrh f c) w u c (aφ E a):=by rcases A.get k a G with⟨L,n,rfl,h⟩|⟨x,rfl,h⟩|⟨r,y,rfl,m,H,h⟩;{rw [p]at h;cases h;cases v;exact .i _ _ _};{rw [p]at h;cases h;cases v;exact .b _ _};{rw [p]at h;cases h;obtain⟨D,d,J⟩:=A.own r H;rw[m]at d;cases d;obtain⟨R,B,_,e⟩:=zln m;have:=v.2 R B;simp only[zba,qC] at this;subst this;have g:=F.rep r R B;rcases e with rfl|⟨I,q,_,rfl⟩;{rw [J]at g;cases zrh f (.s y.t y.l) with|true=>exact g|false=>exact g.ro};{rw [zVc I q];cases C:R.own with|true=>rw[C]at g;exact g.ro|false=>rw[C]at g;exact g}}
theorem zZx {t:Ty}(h:zDB t=true):t.flat=false:=by cases t<;>first|cases h|rfl
theorem z1J {f:FuncId}{e:List At}{t:List CV}{D:List Nat}(C:zjA f=true->¬ S0 w0.heap.size)(i:Mem w0 S0 st E w)(m:Given (st.thaw<|zjA f) e t D){k:Nat}{a:At}{x:Nat}(u:e[k]?=some a)(c:aφ E a x):(S0 x\/w0.heap.size<=x)/\x<w.heap.size:=by rcases m.get k a u with⟨F,n,rfl,h⟩|⟨y,rfl,h⟩|⟨r,q,rfl,g,z,h⟩;{exact c.elim};{exact c.elim};{obtain⟨s,b,B⟩:=m.own r z;rw[g]at b;cases b;obtain⟨R,j,_,d⟩:=zln g;have c:E.φ r x:=c;refine⟨?_,i.rlt r R j x c⟩;rcases d with rfl|⟨A,l,v,rfl⟩;{exact(i.mine r q j B).2 x c};{cases p:R.own with|true=>exact(i.mine r R j p).2 x c|false=>exact i.frz (C A) r R j p v (zZx l) x c}}
theorem zYd {f:FuncId}{m:List At}{J:List CV}{Z:List Nat}(L:Mem w0 S0 st E w)(s:Given (st.thaw<|zjA f) m J Z){i j:Nat}{a b:At}{c:CV}{x:Nat}(M:m[i]?=some a)(N:m[j]?=some b)(W:J[i]?=some c)(Q:zrh f c=true)(A:aφ E a x)(d:aφ E b x):i=j:=by rcases s.get i a M with⟨Y,n,rfl,h⟩|⟨y,rfl,h⟩|⟨r,R1,rfl,u,X,h⟩;{exact A.elim};{exact A.elim};{rcases s.get j b N with⟨Y,n,rfl,K⟩|⟨y,rfl,K⟩|⟨q,T,rfl,v,D,K⟩;{exact d.elim};{exact d.elim};{obtain⟨S,k,F⟩:=s.own r X;rw[u]at k;cases k;obtain⟨U,l,G⟩:=s.own q D;rw[v]at l;cases l;obtain⟨R,V,_,p⟩:=zln u;obtain⟨I,t,_,g⟩:=zln v;have A:E.φ r x:=A;have d:E.φ q x:=d;have B:R.own=true:=(by rcases p with rfl|⟨P,z,O,rfl⟩;{exact F};{rw [W]at h;cases h;rw[zVc P z]at Q;cases Q});have C:I.ep=none:=(by rcases g with rfl|⟨P,z,O,rfl⟩;{exact(L.mine q T t G).1};{exact O});have H:r=q:=(by by_cases e:r=q;{exact e};{exact absurd d (L.apart r R q I V B t C e x A)});subst H;exact s.inj i j r M N}}
theorem zzR (hO:EngOk C){f:FuncId}{a5:List AV->Option (Bool×List AV)}(hf:FnOk C.P f)(h:∀(d:List AV) (J:List AV),(∃w S,zdz false w (zA d) S λ_ b=>b<w.heap.size)->a5 d=some (true,J)->∃tms N D,evalFn C tms N D f d=some J):Holds C.P f a5:=by
 refine⟨hf,λw d S J z a2=>?_⟩;obtain⟨tms,N,D,G⟩:=h d J ⟨w,S,z⟩ a2;unfold evalFn at G;cases O:zjA f && !(zq6 d) with
 |true=>rw[O]at G;cases G
 |false=>
 rw[O,cond_false]at G;have q:∀(r:Nat) (R:Root),zx (zc2 zuO d 0) r=some R->∃t l,(zA d)[r]?=some (.s t l)/\R=⟨t,l,false,none⟩:=(by intro r R y;obtain⟨_,t,l,h2,h3⟩:=zfW zuO d 0 r R y;exact⟨t,l,by simpa using h2,h3⟩);generalize g:({tm:=[],lo:=[],ro:=zc2 zuO d 0,stk:=[],nid:=(d.flatMap AV.cvs).length,ep:=0}:St)=st at G;have Q:∀(r:Nat) (R:Root),st.root r=some R->∃t l,(zA d)[r]?=some (.s t l)/\R=⟨t,l,false,none⟩:=(by intro r R y;have:=(zbw y).1;rw[<- g] at this;exact q r R this);have M:∀l,zx st.lo l=none:=λl=>(by rw[<- g];rfl);let E:Env:={ρ:=λn=>(S[n]?).getD undef,φ:=λ_ b=>b<w.heap.size,β:=λ_=>0,κ:=w}
 have hS:Sim w (λx=>zjA f=false/\x=w.heap.size) (λn=>n<(zA d).length) st E #[] [] w:=by
  refine⟨⟨rfl,rfl,rfl,qW _,λ_ _ _=>rfl,λr R y=>?_,λr R _ x p=>p,λr R y ho=>?_,λhz r R y ho Y b2=>?_,λr R r' R' y ho=>?_,λl cs U=>?_,λl l' cs c4 U=>?_,λl cs r R U=>?_,λr R e y Y=>?_,rfl⟩,⟨λn R I=>?_,λn cs I=>?_,λm F=>?_,λf hf=>?_⟩,⟨?_,λi m v F=>?_⟩,?_⟩;{obtain⟨t,l,H,rfl⟩:=Q r R y;have b5:r<S.length:=(by rw[z.1];exact(qA.1 H).1);have p:=qB b5;show Rep false w ((S[r]?).getD undef) (.s t l) _;rw[p];exact z.2 r _ _ H p};{obtain⟨t,l,H,rfl⟩:=Q r R y;cases ho}
  .obtain⟨t,l,H,rfl⟩:=Q r R y;exfalso;cases hq:zjA f with
   |false=>exact hz ⟨hq,rfl⟩
   |true=>
    rw[hq,uS]at O;have b1:zq6 d=true:=(by simpa using O);have:=qQ.1 b1 (.s t l) (qJ H);simp only at this;rw[show t.flat=false from b2] at this;cases this
  {obtain⟨t,l,H,rfl⟩:=Q r R y;cases ho};{rw [M]at U;cases U};{rw [M]at U;cases U};{rw [M]at U;cases U};{rw [<- g]at y;obtain⟨t,l,H,rfl⟩:=q r R y;cases Y};{rw [<- g]at I;obtain⟨t,l,H,_⟩:=q n R I;exact(qA.1 H).1};{rw [M]at I;cases I};{rw [<- g]at F;simp at F};{rw [<- g]at hf;simp at hf};{rw [<- g];rfl};{rw [<- g]at F;simp at F};{rw [<- g];trivial}
 obtain⟨b3,b4⟩:=zh5 (w:=w) (st:=st) (E:=E) d S 0 z.1 (λi c u hc hu=>by
  have hr:=z.2 i c u hc hu;refine⟨?_,hr.one⟩;cases c with
  |i k n=>exact hr.int_inv
  |b x=>exact hr.bool_inv
  |s t l=>
   obtain⟨⟨a,a7,hv,_⟩,_⟩:=hr.len;refine⟨⟨a,_,a7,hv⟩,λR y=>?_⟩;have e:0+i=i:=by omega
   show some ((S[0+i]?).getD undef)=some u
   rw[e,hu];rfl)
 have c3:st.nid=(zA d).length:=by rw[<- g];rfl
 obtain⟨_,L⟩:=zlZ hO (zkE hO (tms:=tms) (N:=N) D) f _ st _ J G w (λx=>zjA f=false/\x=w.heap.size) _ E #[] [] w (zbW d S).toArray
  (λv W=>Grown w W/\∃(ys:List Value) (K:Nat->zbd),zwV (zrh f) W (zA J) ys K/\v=zmf (zbW J ys)/\FreshO (zrh f) w W (zA J) K) hS (λn I h=>by omega)
  (by simp[b3]) (λi m v F hv=>by
   rw[qO]at F;cases p:(zc0 d 0)[i]? with
   |none=>rw[p]at F;cases F
   |some x=>rw[p]at F;cases F;exact b4 i x v p (by simpa using hv))
  (λm F n I=>by
   obtain⟨x,p,rfl⟩:=jD.1 F;simp only[MV.ids,zby,qN]at I;obtain⟨a,A,I⟩:=I;have:=(zfX d 0 n x a p A I).2;omega)
  (λU' a6 E' W c1 v b0 _ _ _ hv _ a1=>by
   obtain⟨us,rfl,b6,b7⟩:=zx7 hv;have TT:=zMp (st:=a6) (E:=E') (w:=W) (zjA f);obtain⟨V,ys,ks,X,b8,b9,rfl,_,c2⟩:=zkb c1 [] J us a1 b6 (λk x u p hu=>VT.tr TT (λ_ _ _ _=>trivial) (b7 k x u p hu));have T:=b0.mem;have B:∀i,i<(zA J).length->∃a,V[i]?=some a:=λi Z=>⟨_,qB (by rw[<- X.len];exact Z)⟩
   have a4:∀(k:Nat) (a:At) (u:Value),V[k]?=some a->ys[k]?=some u->VA W a6 E' a u:=λk a u A hu=>by have h:=b9 k a u A hu;rcases X.get k a A with⟨_,_,rfl,_⟩|⟨_,rfl,_⟩|⟨r,R1,rfl,a0,F,_⟩;{exact h};{exact h};{obtain⟨R0,a9,ht,_⟩:=zln a0;refine⟨h.1,λR y=>?_⟩;rw[a9]at y;cases y;have:=h.2 R1 a0;simpa [zba] using this}
   have c0:zjA f=true->¬ (zjA f=false/\w.heap.size=w.heap.size):=λh h'=>by rw[h]at h';cases h'.1
   refine⟨⟨T.os,T.tape,T.output,T.size,λb hb=>T.keep b hb (λh=>by have:=h.2;omega)⟩,ys,λi=>match V[i]? with|some a=>aφ E' a|none=>λ_=>False,⟨by rw[b8,X.len],λi c x hc p=>?_⟩,rfl,⟨λi x Z p=>?_,λi j c x Z ho hj p a3=>?_⟩⟩
   .obtain⟨a,A⟩:=B i (qA.1 hc).1;simp only[A];exact zYe T X A hc (a4 i a x A p)
   .obtain⟨a,A⟩:=B i Z;simp only[A]at p;obtain⟨H,h2⟩:=z1J c0 T X A p;exact⟨H.elim (λh=>by omega) λh=>h,h2⟩
   .obtain⟨a,A⟩:=B i (qA.1 Z).1;obtain⟨b,hb⟩:=B j hj;simp only[A]at p;simp only[hb]at a3;exact zYd T X A hb Z ho p a3)
 refine L.mono ?_;intro e W Y;cases e with|returned v=>exact Y|panicked a8=>exact Y.elim|outgrown=>exact Y.elim
end
section
variable {C:Cfg} {w0 w w1:World} {S0:zbd} {U:Nat->Prop} {st st1:St} {E E1:Env} {ts:Array Value} {sv:List (Array Value)}
theorem zs8:∀{p q:List (Int×Nat)},zpf p q=some true->p=q
 |[],[],_=>rfl
 |[],_::_,h=>by simp[zpf]at h
 |_::_,[],h=>by simp[zpf]at h
 |(i,j)::p,(f,g)::q,h=>by simp only[zpf]at h;split at h;{rename_i a;simp only[qK]at a;split at h;{rename_i c e;simp only[qC,qE,ieq,qK]at h;obtain⟨b,d⟩:=h;subst d;rw[zs8 e,b,a]};{cases h}};{cases h}
structure GivenT (st:St) (xs:List At) (cs:List CV) (ks:List Nat) (r:Nat) (p:List (Int×Nat)) (i:Int) (off:Nat):Prop where
 len:cs.length=xs.length
 own:∀q∈ks,q≠r/\∃R,st.root q=some R/\R.own=true
 get:∀(k:Nat) (a:At),xs[k]?=some a->(∃k' n,a = .i k' n/\cs[k]?=some (.i k' n))\/(∃x,a = .b x/\cs[k]?=some (.b x))\/
  (∃q R,a = .sl q []/\st.root q=some R/\q∈ks/\cs[k]?=some (.s R.t R.l))\/∃cv,a = .sl r (p++[(i,off+k)])/\st.node r (p++[(i,off+k)])=some cv/\cs[k]?=some cv
 inj:∀(k k' q:Nat),xs[k]?=some (.sl q [])->xs[k']?=some (.sl q [])->k=k'
theorem GivenT.mem {a:List At}{b:List CV}{ks:List Nat}{r:Nat}{p:List (Int×Nat)}{i:Int}{off:Nat}(c:GivenT st a b ks r p i off){k q:Nat}(d:a[k]?=some (At.sl q [])):q∈ks:=by rcases c.get k _ d with⟨_,_,h,_⟩|⟨_,h,_⟩|⟨f,_,h,_,e,_⟩|⟨_,h,_⟩;{cases h};{cases h};{cases h;exact e};{simp at h}
theorem zsp {r:Nat}{p:List (Int×Nat)}{i:Int}:∀(v:List At) (off:Nat) (H:List CV) (D:List Nat),st.give (some (r,p,i)) v off=some (true,H,D)->GivenT st v H D r p i off
 |[],off,H,D,h=>by simp only[St.give,qC,jR]at h;obtain⟨_,rfl,rfl⟩:=h;exact⟨rfl,λq C=>by simp at C,λk a h=>by simp at h,λk y q h=>by simp at h⟩
 |a::v,off,H,D,h=>by
  have cons:∀{z:CV} {g:List CV} {m u:List Nat},GivenT st v g m r p i (off+1)->(∀q∈m,q∈u)->(∀q∈u,q≠r/\∃R,st.root q=some R/\R.own=true)->
   ((∃y n,a = .i y n/\z = .i y n)\/(∃x,a = .b x/\z = .b x)\/(∃q R,a = .sl q []/\st.root q=some R/\q∈u/\q∉m/\z = .s R.t R.l)\/(a = .sl r (p++[(i,off)])/\st.node r (p++[(i,off)])=some z))->
   GivenT st (a::v) (z::g) u r p i off:=by
   intro z g m u j G F N;refine⟨by simp[j.len],F,λk b I=>?_,λk y q B w=>?_⟩
   .cases k with
    |zero=>simp only[qG,qC]at I;subst I;rcases N with⟨y,n,c,f⟩|⟨x,c,f⟩|⟨q,R,c,f,A,_,E⟩|⟨c,f⟩;{exact .inl ⟨y,n,c,by simp[f]⟩};{exact .inr (.inl ⟨x,c,by simp[f]⟩)};{exact .inr (.inr<|.inl ⟨q,R,c,f,A,by simp[E]⟩)};{exact .inr (.inr<|.inr ⟨z,c,f,by simp⟩)}
    |succ k=>rcases j.get k b (by simpa using I) with h|h|⟨q,R,c,f,A,E⟩|⟨L,c,f,A⟩;{exact .inl h};{exact .inr (.inl h)};{exact .inr (.inr<|.inl ⟨q,R,c,f,G q A,E⟩)};{have e:off+1+k=off+(k+1):=(by omega);rw[e]at c f;exact .inr (.inr<|.inr ⟨L,c,f,A⟩)}
   .have hnew:∀(k q:Nat),a=At.sl q []->v[k]?≠some (At.sl q []):=by intro k q C B;rcases N with⟨y,n,c,f⟩|⟨x,c,f⟩|⟨K,R,c,f,A,E,_⟩|⟨c,f⟩;{rw [C]at c;cases c};{rw [C]at c;cases c};{rw [C]at c;cases c;exact E (j.mem B)};{rw [C]at c;simp at c}
    cases k<;>cases y<;>simp at B w
    .rfl
    .exact absurd w (hnew _ q B)
    .exact absurd B (hnew _ q w)
    .exact congrArg _ (j.inj _ _ q B w)
  simp only[St.give]at h;split at h;{cases h};{rename_i T g m hg;split at h;{rename_i k n;cases h;have j:=zsp v (off+1) g D hg;exact cons j (λ_ h=>h) j.own (.inl ⟨k,n,rfl,rfl⟩)};{rename_i x;cases h;have j:=zsp v (off+1) g D hg;exact cons j (λ_ h=>h) j.own (.inr<|.inl ⟨x,rfl,rfl⟩)};{rename_i q;split at h;{rename_i R M;split at h;{rename_i d;cases h;have j:=zsp v (off+1) g m hg;simp only[qE,jB,jF,decide_eq_false_iff_not,beq_eq_false_iff_ne]at d;refine cons j (λK h=>by simp[h]) (λK h=>?_) (.inr<|.inr<|.inl ⟨q,R,rfl,M,by simp,d.1.2,rfl⟩);rcases qH.1 h with rfl|h;{exact⟨d.2,R,M,d.1.1⟩};{exact j.own K h}};{cases h}};{cases h}};{rename_i q U Q;split at h;{rename_i O;simp only[qK]at O;subst O;split at h;{rename_i e L P J;simp only[qC,jR,qE]at h;obtain⟨⟨c,f⟩,rfl,rfl⟩:=h;subst c f;have S:=zs8 P;subst S;have j:=zsp v (off+1) g m hg;exact cons j (λ_ h=>h) j.own (.inr<|.inr<|.inr ⟨rfl,J⟩)};{cases h}};{cases h}};{cases h}}
theorem zQA:∀(p:List (Int×Nat)) {t c:Ty} {l:List t.den} {e:List c.den} {i:Int} {j:Nat} {d:CV},zik t l p=some (.s c e)->zik t l (p++[(i,j)])=some d->(c.cells<|ix e i c.dflt)[j]?=some d
 |[],t,c,l,e,i,j,d,b,a=>by simp only[zik,qC]at b;cases b;simp only[jM,zik]at a;split at a;{rename_i h g f;cases a;exact f};{cases a}
 |(k,m)::p,t,c,l,e,i,j,d,b,a=>by simp only[kF,zik]at b a;split at b;{rename_i h g f;rw[f]at a;exact zQA p b a};{cases b}
theorem zF6:∀{xs:List At} {cs:List CV} {off k:Nat} {a:At} {c:CV},xs[k]?=some a->cs[k]?=some c->c.flat=false->(∃r p,a = .sl r p/\p≠[])\/off+k∈zkP xs cs off
 |[],_,_,_,_,_,h,_,_=>by simp at h
 |_::_,[],_,_,_,_,_,h,_=>by simp at h
 |m::xs,d::cs,off,k,a,c,g,j,f=>by
  cases k with
  |zero=>simp only[qG,qC]at g j;subst g j;cases m with|sl r p=>(cases p with|nil=>right;(cases d with|i k n=>cases f|b x=>cases f|s t l=>simp[zkP])|cons q p=>exact .inl ⟨r,_,rfl,by simp⟩)|_=>right;(cases d with|i k n=>cases f|b x=>cases f|s t l=>simp[zkP])
  |succ k=>rcases zF6 (xs:=xs) (cs:=cs) (off:=off+1) (k:=k) (by simpa using g) (by simpa using j) f with h|h;{exact .inl h};{right;have e:off+1+k=off+(k+1):=(by omega);rw[e]at h;cases m with|sl r p=>(cases p with|nil=>cases d<;>simp [zkP,h]|cons q p=>cases d<;>simp [zkP,h])|_=>cases d<;>simp [zkP,h]}
theorem zrH (p:List (Int×Nat))(i:Int)(j:Nat)(q:List (Int×Nat)):(cols p++[j]).isPrefixOf (cols (p++(i,j)::q))=true:=by rw[kV];exact⟨cols q,by simp[cols]⟩
theorem zmx {a b:Type}(f:a->b):∀(l:List (Nat×a)) (n:Nat),zx (l.map λx=>(x.1,f x.2)) n=(zx l n).map f
 |[],_=>rfl
 |(k,v)::l,n=>by simp only[jK,zx];split;{rfl};{exact zmx f l n}
theorem zwP {r:Nat}{e:List (List Nat)}{a:At}{n:Nat}(h:n∈(zc4 r e a).ids):n∈a.ids:=by cases a with|sl d q=>simp only[zc4]at h;split at h;{simp [At.ids,zbr,zbu]at h};{exact h}|ep d q i o=>simp only[zc4]at h;split at h;{simp [At.ids,zbr,zbu]at h};{exact h}|bad=>exact h|i k n=>exact h|b x=>exact h|lp l o=>exact h|fn f c=>exact h|kp d J t=>simp only[zc4]at h;cases g:Nat.beq r d<;>rw [g]at h;{exact h};{cases j:coarse e J<;>rw [j]at h;{simp [At.ids,zbr,zbu]at h};{exact h}}
theorem zyk {d J:List (List Nat)}{q:List Nat}(h:coarse d J=true)(b:J.any (λc=>c.isPrefixOf q)=false):d.any (λc=>c.isPrefixOf q)=false:=by rw[kJ]at b ⊢;intro m f g;obtain⟨c,e,a⟩:=uB.1 (qQ.1 h m f);exact b c e (kV.2<|(kV.1 a).trans (kV.1 g))
theorem zVR {w1:World}{d:St}{E1:Env}{r:Nat}{i:List (List Nat)}(T:∀a v,VA w st E a v->VA w1 d E1 (zc4 r i a) v){x:TV}{v:Value}(h:VT w st E x v):VT w1 d E1 (znR r i x) v:=by rcases x with a|l;{exact T a v h};{obtain⟨n,k,m,f⟩:=h;refine⟨n,k,by simp[m],λj a u c g=>?_⟩;rw[qO]at c;cases e:l[j]? with|none=>rw[e]at c;cases c|some b=>rw[e]at c;cases c;exact⟨(f j b u e g).1,T _ _ (f j b u e g).2⟩}
theorem z3Y {w1:World}{d:St}{E1:Env}{r:Nat}{f:List (List Nat)}(T:∀a v,VA w st E a v->VA w1 d E1 (zc4 r f a) v){m:MV}{v:Value}(h:VM w st E m v):VM w1 d E1 (zg6 r f m) v:=by cases m with|und=>exact h|v x=>exact zVR T h|tup l=>obtain⟨p,g,i,k⟩:=h;refine⟨p,g,by simp[i],λj a u c n=>?_⟩;rw[qO]at c;(cases e:l[j]? with|none=>rw[e]at c;cases c|some b=>rw[e]at c;cases c;exact zVR T (k j b u e n))
theorem zwQ {w1:World}{d:St}{E1:Env}{r:Nat}{f:List (List Nat)}(T:∀a v,VA w st E a v->VA w1 d E1 (zc4 r f a) v){tm:List MV}{ts:Array Value}(h:Slots w st E tm ts):Slots w1 d E1 (tm.map<|zg6 r f) ts:=by refine⟨by simp[h.1],λi m v c g=>?_⟩;rw[qO]at c;cases e:tm[i]? with|none=>rw[e]at c;cases c|some b=>rw[e]at c;cases c;exact z3Y T (h.2 i b v e g)
theorem zwR {w1:World}{b:St}{E1:Env}{r:Nat}{c:List (List Nat)}(T:∀a v,VA w st E a v->VA w1 b E1 (zc4 r c a) v):∀{l:List (List MV)} {s:List (Array Value)},Stack w st E l s->Stack w1 b E1 (l.map λf=>f.map (zg6 r c)) s
 |[],[],_=>trivial
 |f::l,ts::s,h=>⟨zwQ T h.1,zwR T h.2⟩
 |[],_::_,h=>h.elim
 |_::_,[],h=>h.elim
theorem zGy {r:Nat}{c:List (List Nat)}{x:TV}{a:At}(h:a∈zU (znR r c x)):∃b∈zU x,a=zc4 r c b:=by rcases x with b|l;{simp only [znR,zU,qF]at h ⊢;exact⟨b,rfl,h⟩};{simp only [znR,zU,jD]at h ⊢;obtain⟨b,d,rfl⟩:=h;exact⟨b,d,rfl⟩}
theorem zsf {r:Nat}{e:List (List Nat)}{m:MV}{n:Nat}(h:n∈(zg6 r e m).ids):n∈m.ids:=by simp only[MV.ids,qN]at h ⊢;obtain⟨a,c,f⟩:=h;have:∃b∈zby m,a=zc4 r e b:=(by cases m with|und=>simp[zg6,zby]at c|v x=>exact zGy c|tup l=>simp only[zg6,zby,qN,jD]at c ⊢;obtain⟨y,⟨x,g,rfl⟩,c⟩:=c;obtain⟨b,d,rfl⟩:=zGy c;exact⟨b,⟨x,g,d⟩,rfl⟩);obtain⟨b,d,rfl⟩:=this;exact⟨b,d,zwP f⟩
end
section
variable {C:Cfg} {w0 w w1:World} {S0:zbd} {U:Nat->Prop} {st st1:St} {E E1:Env} {ts:Array Value} {sv:List (Array Value)}
def ziQ (st:St)(r:Nat)(R:Root)(m:List R.t.den)(b:List Nat)(a:List (List Nat)):St :=
 {st with
  tm:=st.tm.map (zg6 r a)
  stk:=st.stk.map λf=>f.map (zg6 r a)
  lo:=st.lo.map λx=>(x.1,x.2.map<|zc4 r a)
  ro:=(r,{R with l:=m})::(moved st b++st.ro)
  ep:=st.ep+1}
theorem zQD (hS:Sim w0 S0 U st E ts sv w){r:Nat}{R:Root}(hR:st.root r=some R)(ho:R.own=true){m:List R.t.den}{ks:List Nat}{js:List (List Nat)}{b:Nat}{S3:zbd}(b7:∀q∈ks,q≠r/\∃R,st.root q=some R/\R.own=true)(d3:w1.os=w.os)(d4:w1.tape=w.tape)(b8:w1.output=w.output)(c4:w1.heap.size=w.heap.size)(hb:E.φ r b)(W:∀x,x≠b->w1.heap[x]?=w.heap[x]?)(b0:∀x,S3 x->E.φ r x\/∃q∈ks,E.φ q x)(c0:Rep true w1 (E.ρ r) (.s R.t m) S3)(b6:∀q u,zba w R.t (E.ρ r) q=some u->js.any (λc=>c.isPrefixOf (cols q))=false->zba w1 R.t (E.ρ r) q=some u) :
 Sim w0 S0 U (ziQ st r R m ks js) {E with φ:=λn=>if n=r then S3 else E.φ n} ts sv w1:=by
 have C:=hS.mem;obtain⟨b9,c3⟩:=C.mine r R hR ho;have z:∀q Q,(ziQ st r R m ks js).root q=some Q->
  (q=r/\Q={R with l:=m})\/(q≠r/\q∈ks/\∃B,st.root q=some B/\B.own=true/\Q={B with own:=false,ep:=some (st.ep+1)})\/(q≠r/\q∉ks/\st.root q=some Q/\Q.ep=none):=by
  intro q Q F;obtain⟨D,G⟩:=zbw F;simp only[ziQ,zx]at D G;split at D
  .rename_i he;simp only[qK]at he;cases D;exact .inl ⟨he.symm,rfl⟩
  .rename_i he;simp only[qK]at he;have d:q≠r:=λh=>he h.symm;rw[zbJ]at D;split at D
   .rename_i Q' hQ';cases D;obtain⟨hm,B,g,rfl⟩:=znq ks q _ hQ';obtain⟨_,R2,M,b4⟩:=b7 q hm;have:=(zbw M).1;rw[g] at this;cases this;exact .inr (.inl ⟨d,hm,B,M,b4,rfl⟩)
   .rename_i hnone;have I:q∉ks:=λhm=>by have:=zLJ ks q hnone hm;rw[this]at D;cases D
    refine .inr (.inr ⟨d,I,?_⟩);rcases G with G|G
    .exact⟨ziW D<|.inl G,G⟩
    .have:=C.epo q Q _ D G;omega
 have a4:∀q Q,q≠r->st.root q=some Q->Q.ep=none->∀x,E.φ q x->w1.heap[x]?=w.heap[x]? :=
  λq Q d F S x K=>W x (λe=>C.apart r R q Q hR ho F S (λe=>d e.symm) b hb (e ▸ K))
 have b1:∀q∈ks,∃Q,q≠r/\st.root q=some Q/\Q.own=true/\Q.ep=none:=λq F=>by obtain⟨D,Q,G,V⟩:=b7 q F;exact⟨Q,D,G,V,(C.mine q Q G V).1⟩
 have a8:∀x,S3 x->(S0 x\/w0.heap.size<=x)/\x<w.heap.size:=by intro x K;rcases b0 x K with h|⟨q,F,h⟩;{exact⟨c3 x h,C.rlt r R hR x h⟩};{obtain⟨Q,_,G,V,_⟩:=b1 q F;exact⟨(C.mine q Q G V).2 x h,C.rlt q Q G x h⟩}
 have a7:∀q Q,q≠r->q∉ks->st.root q=some Q->Q.ep=none->∀x,S3 x->¬ E.φ q x:=by intro q Q d I F S x K;rcases b0 x K with h|⟨q2,a6,h⟩;{exact C.apart r R q Q hR ho F S (λe=>d e.symm) x h};{obtain⟨Q2,_,G,V,_⟩:=b1 q2 a6;exact C.apart q2 Q2 q Q G V F S (λe=>I (e ▸ a6)) x h}
 have T:∀a v,VA w st E a v->VA w1 (ziQ st r R m ks js) {E with φ:=λn=>if n=r then S3 else E.φ n} (zc4 r js a) v:=by
  have a2:∀H q u Q,(r=H->js.any (λc=>c.isPrefixOf (cols q))=false)->(ziQ st r R m ks js).root H=some Q->(∀B,st.root H=some B->zba w B.t (E.ρ H) q=some u)->zba w1 Q.t (E.ρ H) q=some u:=(by intro H q u Q d1 S a0;rcases z H Q S with⟨rfl,rfl⟩|⟨d,X,B,g,O,rfl⟩|⟨d,I,A,L⟩;{exact b6 q u (a0 R hR) (d1 rfl)};{have:=zdw (w':=w1) q (C.rep H B g) (a4 H B d g (C.mine H B g O).1);rw[this];exact a0 B g};{have:=zdw (w':=w1) q (C.rep H Q A) (a4 H Q d A L);rw[this];exact a0 Q A});have c6:∀H Q,(ziQ st r R m ks js).root H=some Q->∃B,st.root H=some B/\B.t=Q.t:=(by intro H Q S;rcases z H Q S with⟨rfl,rfl⟩|⟨d,X,B,g,O,rfl⟩|⟨d,I,A,L⟩;{exact⟨R,hR,rfl⟩};{exact⟨B,g,rfl⟩};{exact⟨Q,A,rfl⟩});have loc:∀l P,zx (ziQ st r R m ks js).lo l=some P->∃y,zx st.lo l=some y:=by intro l P h;simp only[ziQ]at h;rw[zmx]at h;cases hl:zx st.lo l with|none=>rw[hl]at h;cases h|some y=>exact⟨y,rfl⟩
  intro a v hv;cases a with
  |bad=>trivial
  |i k n=>exact hv
  |b x=>exact hv
  |sl H q=>simp only[zc4];split;{trivial};{rename_i b3;refine⟨hv.1,λQ S=>a2 H q v Q (λe=>?_) S hv.2⟩;subst e;simpa using b3}
  |lp l d6=>refine⟨hv.1,λP h=>?_⟩;obtain⟨y,h'⟩:=loc l P h;exact hv.2 y h'
  |ep H q i o=>simp only[zc4];split;{trivial};{rename_i b3;refine⟨hv.1,λQ S=>?_⟩;obtain⟨B,g,ht⟩:=c6 H Q S;obtain⟨b',o',len,c8,t',D,G,V⟩:=hv.2 B g;refine⟨b',o',len,c8,t',a2 H q _ Q (λe=>?_) S λR2 M=>?_,by rw[<- ht];exact G,V⟩;{subst e;simpa using b3};{rw [g]at M;cases M;exact D}}
  |kp H J t=>
   have c5:(r=H->coarse js J=true)->VA w1 (ziQ st r R m ks js) {E with φ:=λn=>if n=r then S3 else E.φ n} (.kp H J t) v:=λhc=>by
    refine⟨hv.1,λQ S=>?_⟩;obtain⟨B,g,ht⟩:=c6 H Q S;obtain⟨D,G,V⟩:=hv.2 B g;refine⟨ht.symm.trans D,G,λp u hp hJ=>?_⟩;have:=a2 H p u Q (λe=>zyk (hc e) hJ) S (λR2 M=>by
     rw[g]at M;cases M;rw[D,G];exact V p u hp hJ)
    rw[<- ht,D] at this;rw[show E.ρ H=v from G] at this
    exact this
   simp only[zc4];cases hb:Nat.beq r H with
   |false=>exact c5 (λe=>by subst e;simp at hb)
   |true=>cases hc:coarse js J with
    |true=>exact c5 (λ_=>hc)
    |false=>trivial
  |fn f d5=>obtain⟨vs,D,G,V⟩:=hv;refine⟨vs,D,G,λk l u X hu=>⟨(V k l u X hu).1,λP h=>?_⟩⟩;obtain⟨y,h'⟩:=loc l P h;exact(V k l u X hu).2 y h'
 have Z:∀l P,zx (ziQ st r R m ks js).lo l=some P->∃y,zx st.lo l=some y/\P=y.map (zc4 r js):=by intro l P h;simp only[ziQ]at h;rw[zmx]at h;cases hl:zx st.lo l with|none=>rw[hl]at h;cases h|some y=>rw[hl]at h;cases h;exact⟨y,rfl,rfl⟩
 refine⟨⟨d3.trans C.os,d4.trans C.tape,b8.trans C.output,by rw[c4];exact C.size,?_,?_,?_,?_,?_,?_,?_,?_,?_,?_,C.κ⟩,⟨?_,?_,?_,?_⟩,zwQ T hS.tm,zwR T hS.stk⟩
 .intro x K hnS;refine(W x λe=>?_).trans (C.keep x K hnS);subst e;rcases c3 x hb with h|h
  .exact hnS h
  .omega
 .intro q Q F;rcases z q Q F with⟨rfl,rfl⟩|⟨d,X,B,g,O,rfl⟩|⟨d,I,A,L⟩
  .simp only [if_true,ho];exact c0
  .simp only [if_neg d];exact((C.rep q B g).frame (a4 q B d g (C.mine q B g O).1)).ro
  .simp only [if_neg d];exact(C.rep q Q A).frame (a4 q Q d A L)
 .intro q Q F x K;rw[c4];rcases z q Q F with⟨rfl,rfl⟩|⟨d,X,B,g,O,rfl⟩|⟨d,I,A,L⟩
  .simp only [if_true]at K;exact(a8 x K).2
  .simp only [if_neg d]at K;exact C.rlt q B g x K
  .simp only [if_neg d]at K;exact C.rlt q Q A x K
 .intro q Q F hoq;rcases z q Q F with⟨rfl,rfl⟩|⟨d,X,B,g,O,rfl⟩|⟨d,I,A,L⟩
  .refine⟨b9,λx K=>?_⟩;simp only[if_true]at K;exact(a8 x K).1
  .cases hoq
  .simp only [if_neg d];exact C.mine q Q A hoq
 .intro hz q Q F hoq he hf;rcases z q Q F with⟨rfl,rfl⟩|⟨d,X,B,g,O,rfl⟩|⟨d,I,A,L⟩
  .exact absurd (show R.own=false from hoq) (by rw[ho];exact Bool.noConfusion)
  .cases he
  .simp only [if_neg d];exact C.frz hz q Q A hoq he hf
 .intro q Q q' Q' F hoq hq' he hnn x K;rcases z q Q F with⟨rfl,rfl⟩|⟨d,X,B,g,O,rfl⟩|⟨d,I,A,L⟩
  .rcases z q' Q' hq' with⟨rfl,rfl⟩|⟨N,d2,R2,M,b5,rfl⟩|⟨N,a9,a1,Y⟩
   .exact absurd rfl hnn
   .cases he
   .simp only [if_true]at K;simp only[if_neg N];exact a7 q' Q' N a9 a1 Y x K
  .cases hoq
  .simp only [if_neg d]at K;rcases z q' Q' hq' with⟨rfl,rfl⟩|⟨N,d2,R2,M,b5,rfl⟩|⟨N,a9,a1,Y⟩
   .simp only [if_true];exact λh=>a7 q Q d I A L x h K
   .cases he
   .simp only [if_neg N];exact C.apart q Q q' Q' A hoq a1 Y hnn x K
 .intro l P hl;obtain⟨y,a5,rfl⟩:=Z l P hl;obtain⟨D,c7,e,G,V,h4⟩:=C.loc l y a5;refine⟨D,c7,e,(W _ λe=>C.lro l y r R a5 hR (by rw[e];exact hb)).trans G,by simp[V],λj c u hc hu=>?_⟩
  rw[qO]at hc;cases a3:y[j]? with
  |none=>rw[a3]at hc;cases hc
  |some c'=>rw[a3]at hc;cases hc;exact⟨(h4 j c' u a3 hu).1,T _ _ (h4 j c' u a3 hu).2⟩
 .intro l l' P y hl a5 he;obtain⟨c1,D,_⟩:=Z l P hl;obtain⟨c2,G,_⟩:=Z l' y a5;exact C.linj l l' c1 c2 D G he
 .intro l P q Q hl F;obtain⟨c1,D,_⟩:=Z l P hl;rcases z q Q F with⟨rfl,rfl⟩|⟨d,X,B,g,O,rfl⟩|⟨d,I,A,L⟩
  .simp only [if_true];intro K;rcases b0 _ K with h|⟨q2,a6,h⟩
   .exact C.lro l c1 q R D hR h
   .obtain⟨Q2,_,G,_,_⟩:=b1 q2 a6;exact C.lro l c1 q2 Q2 D G h
  .simp only [if_neg d];exact C.lro l c1 q B D g
  .simp only [if_neg d];exact C.lro l c1 q Q D A
 .intro q Q e F he;simp only[ziQ,zx]at F
  show e<=st.ep+1
  split at F
  .cases F;simp only[b9]at he;cases he
  .rw [zbJ]at F;split at F
   .rename_i Q' hQ';cases F;obtain⟨_,B,_,rfl⟩:=znq ks q _ hQ';simp only[qC]at he;subst he;exact qW _
   .exact uQ (C.epo q Q e F he)
 .intro n Q hn;simp only[ziQ,zx]at hn;split at hn
  .rename_i he;simp only[qK]at he;subst he;exact hS.ids.ro _ R (zbw hR).1
  .rw [zbJ]at hn;split at hn
   .rename_i Q' hQ';obtain⟨_,B,g,_⟩:=znq ks n Q' hQ';exact hS.ids.ro n B g
   .exact hS.ids.ro n Q hn
 .intro n P hn;obtain⟨y,D,rfl⟩:=Z n P hn;refine⟨(hS.ids.lo n y D).1,λa ha k X=>?_⟩;obtain⟨a',c9,rfl⟩:=jD.1 ha;exact(hS.ids.lo n y D).2 a' c9 k (zwP X)
 .intro m' hm n hn;obtain⟨m0,b2,rfl⟩:=jD.1 hm;exact hS.ids.tm m0 b2 n (zsf hn)
 .intro f hf m' hm n hn;obtain⟨f0,d0,rfl⟩:=jD.1 hf;obtain⟨m0,b2,rfl⟩:=jD.1 hm;exact hS.ids.stk f0 d0 m0 b2 n (zsf hn)
theorem z1i (hC:CfgOk C)(w0 w:World)(S0:zbd)(U:Nat->Prop)(st:St)(E:Env)(ts:Array Value)(sv:List (Array Value))(o:Oper)(id:Nat)(c:Bool)(c6:St)(hS:Sim w0 S0 U st E ts sv w)(h:zJY C st o=some (c,c6))(hc:c=true) :
 Goes C w0 S0 U st ts sv w o id (λ_=>c6.put o.dst .und)/\c6.nid=st.nid:=by
 subst hc;unfold zJY at h;split at h
 .rename_i T a x ho;split at h
  .rename_i agg tys y r p i off hT d I;split at h
   .rename_i R t l c cvs ks hRr X hg;split at h
    .rename_i hcond;simp only[qE,qK,qZ]at hcond;obtain⟨⟨a4,d5⟩,d2⟩:=hcond;split at h
     .rename_i l' hset;split at h
      .rename_i m hput;simp only[qC,jR]at h;obtain⟨rfl,rfl⟩:=h;refine⟨?_,rfl⟩;have hG:=zsp _ _ _ _ hg;obtain⟨h1,h7⟩:=zb9 hS d;obtain⟨f6,h6⟩:=zbB hS I;obtain⟨a6,b6⟩:=VT.cells h1 (ztZ d);obtain⟨b,o2,len,e9,t1,e1,e2,e3,M,e5⟩:=f6.2 R hRr;have hM:=hS.mem;have a9:=hM.rep r R hRr;rw[a4]at a9;obtain⟨t',l0,S1,f1,f2,f3,f4,f5⟩:=Rep.focus p a9 e1;have d4:zik R.t R.l p=some (.s t l):=by obtain⟨R',a0,f9⟩:=zgD X;rw[hRr]at a0;cases a0;exact f9
       rw[d4] at f1;cases f1;rw[e2] at f2;cases f2;obtain⟨_,_,_,_,b3⟩:=f5 w l S1 (λ_ _ _=>rfl) (λ_ h _=>h) f3;generalize hv:({tmps:=ts,defers:=[]}:Act).eval x=v at *;cases f3 with
       |void _ _ _ ho=>cases ho
       |sl _ _ _ _ _ b2 e' fz V K _ hb f8 c0 a7 e8 b4 D a2 c5 d0=>
       have d3:=f8 rfl;subst d3;have a1:Rows true w t l b2 o2 b V K S1:=⟨D,a2,c5,d0⟩;have c4:v.cells.toList.length=cvs.length:=by rw[hG.len];simpa using a6
       have b1:v.cells.size=tys.length:=by rw[a6,d5]
       have a3:off+v.cells.toList.length<=t.width:=by simp[b1];exact d2
       have e6:(i.toNat+1)*t.width<=e9*t.width:=qR _ (by omega)
       rw[jJ]at e6;have f0:∀u∈v.cells.toList,u.oneCell'=true:=by intro u hu;obtain⟨j,J⟩:=qT.1 hu;have g3:j<(zU y).length:=(by rw[<- a6];have:=(qA.1 J).1;simpa using this);exact(b6 j _ u (qB g3) (by simpa using J)).1
       have b0:=zqG (w:=w) (off:=o2+i.toNat*t.width+off) (hC.cty T agg tys hT) hb b1 (by omega) f0
       generalize W:w.setRow b (splice b2.toList (o2+i.toNat*t.width+off) v.cells.toList).toArray=w1 at b0;have c9:w1.heap[b]?=some (.cells (splice b2.toList (o2+i.toNat*t.width+off) v.cells.toList).toArray e' (0,0)):=by rw[<- W];exact setRow_heap w b _ _ e' _ hb
       have H:∀x,x≠b->w1.heap[x]?=w.heap[x]?:=λx d=>by rw[<- W];exact setRow_other w b x _ d
       have c1:E.φ r b:=f4 b b4;have A:∀q∈ks,∀x,E.φ q x->¬ E.φ r x:=by intro q L x d F;obtain⟨d8,Q,hQ,Z⟩:=hG.own q L;exact d8 (hM.own_apart hQ Z hRr a4 d F)
       have a8:∀N j,N<l.length->j<t.width->¬ Hit i.toNat off v.cells.toList.length N j->∀x,K N j x->w1.heap[x]?=w.heap[x]?:=λN j S J _ x d=>H x ((D N j x S J d).2 rfl)
       let Kn:Nat->zbd:=λk=>match (zU y)[k]? with
        |some (.sl q [])=>E.φ q
        |some (.sl _ (_::_))=>K i.toNat (off+k)
        |_=>λ_=>False
       have b5:∀k,k<v.cells.toList.length->∃a,(zU y)[k]?=some a:=λk G=>⟨_,qB (by rw[<- a6];simpa using G)⟩
       have Y:∀k x,k<v.cells.toList.length->Kn k x->(∃q∈ks,(zU y)[k]?=some (.sl q [])/\E.φ q x)\/K i.toNat (off+k) x:=by intro k x G d;obtain⟨a,I⟩:=b5 k G;simp only[Kn,I]at d;rcases hG.get k a I with⟨_,_,rfl,_⟩|⟨_,rfl,_⟩|⟨q,Q,rfl,O,h3,h4⟩|⟨cv,rfl,_,_⟩;{exact d.elim};{exact d.elim};{exact .inl ⟨q,h3,I,d⟩};{right;cases p<;>exact d}
       have B:∀k,k<v.cells.toList.length->off+k<t.width:=λk G=>by omega
       have c3:=Rep.setCells (w:=w) (w1:=w1) (Kn:=Kn) c0 a7 e8 a1 M c4 a3 hset c9 (λk c u hc hu=>by
        have G:k<v.cells.toList.length:=(qA.1 hu).1;obtain⟨a,I⟩:=b5 k G;have P:=(b6 k a u I (by simpa using hu)).2
        rcases hG.get k a I with⟨_,_,rfl,O⟩|⟨_,rfl,O⟩|⟨q,Q,rfl,O,h3,h4⟩|⟨cv,rfl,O,h3⟩
        .rw [hc]at O;cases O;cases P;exact .i _ _ _
        .rw [hc]at O;cases O;cases P;exact .b _ _
        .rw [hc]at h4;cases h4;have:=P.2 Q O;simp only[zba,qC] at this;subst this;obtain⟨d8,Q',a5,Z⟩:=hG.own q h3;rw[O]at a5;cases a5;have hr:=hM.rep q Q O;rw[Z]at hr;have b9:Kn k=E.φ q:=by simp only[Kn,I]
         rw[b9];exact hr.frame (λx d=>H x λe=>A q h3 x d (e ▸ c1))
        .have hcv:cv=c:=by rw[hc]at h3;cases h3;rfl
         subst hcv;have z:=P.2 R hRr;rw[b3]at z;obtain⟨R',a0,g0⟩:=zgD O;rw[hRr]at a0;cases a0;have b7:=zQA p d4 g0;have J:=B k G;have c2:=d0 i.toNat _ (znm M) (off+k) cv b7;have hV:=c5 i.toNat (off+k) M J;simp only[zba]at z;rw[if_pos ⟨e3,M⟩]at z;split at z
         .rw [cell_of_block hb,hV]at z;simp only[qC]at z;subst z;have b9:Kn k=K i.toNat (off+k):=by simp only[Kn,I];cases p<;>rfl
          rw[b9];exact c2.frame (λx d=>H x ((D _ _ x M J d).2 rfl))
         .cases z)
        a8
        (λk x G d=>by
         rcases Y k x G d with⟨q,L,_,d⟩|d
         .exact λe=>A q L x d (e ▸ c1)
         .exact(D _ _ x M (B k G) d).2 rfl)
        (λk k' x G b8 d F=>by
         rcases Y k x G d with⟨q,L,g9,d⟩|d<;>rcases Y k' x b8 F with⟨q',d9,e0,F⟩|F
         .obtain⟨_,Q,hQ,Z⟩:=hG.own q L;obtain⟨_,Q',a5,c7⟩:=hG.own q' d9;have:=hM.own_apart hQ Z a5 c7 d F;subst this;exact hG.inj k k' q g9 e0
         .exact absurd (f4 x (D _ _ x M (B k' b8) F).1) (A q L x d)
         .exact absurd (f4 x (D _ _ x M (B k G) d).1) (A q' d9 x F)
         .have:=(a2 rfl _ _ _ _ x M (B k G) M (B k' b8) d F).2;omega)
        (λk x N j G d S J g4 F=>by
         rcases Y k x G d with⟨q,L,_,d⟩|d
         .exact A q L x d (f4 x (D _ _ x S J F).1)
         .have:=a2 rfl _ _ _ _ x M (B k G) S J d F;exact g4 ⟨this.1.symm,by omega,by omega⟩)
       have c8:∀x,(x=b\/(∃N j,N<l.length/\j<t.width/\¬ Hit i.toNat off v.cells.toList.length N j/\K N j x)\/∃k,k<v.cells.toList.length/\Kn k x)->S1 x\/∃q∈ks,E.φ q x:=by intro x d;rcases d with rfl|⟨N,j,S,J,_,G⟩|⟨k,G,d⟩;{exact .inl b4};{exact .inl (D N j x S J G).1};{rcases Y k x G d with⟨q,L,_,d⟩|d;{exact .inr ⟨q,L,d⟩};{exact .inl (D _ _ x M (B k G) d).1}}
       obtain⟨m',d6,h0,g1,g2⟩:=f5 w1 l' _ (λx d g7=>H x λe=>g7 (e ▸ b4)) (λx d F=>by
        rcases c8 x d with h|⟨q,L,h⟩
        .exact h
        .exact absurd F (A q L x h)) c3
       rw[hput]at d6;cases d6;have e7:=zQD (w1:=w1) (m:=m) (js:=(zkP (zU y) cvs off).map λj=>cols p++[j]) hS hRr a4 hG.own (by rw[<- W];rfl) (by rw[<- W];rfl) (by rw[<- W];rfl) (by rw[<- W];simp) c1 H (λx d=>by
        rcases d with⟨d,_⟩|d
        .exact .inl d
        .rcases c8 x d with h|h
         .exact .inl (f4 x h)
         .exact .inr h) h0 (λq u L g6=>by
        rcases ztF p q with⟨q',rfl⟩|g5
        .rw [g2 q'];rw[b3 q']at L;refine zpS a7 e8 a1 hb M c4 a3 hset c9 a8 q' (λN j h5 he k c J d1=>?_) H L;subst he J;cases f7:c.flat with
         |true=>exact .inl rfl
         |false=>have G:k<v.cells.toList.length:=(by rw[c4];exact(qA.1 d1).1);obtain⟨a,I⟩:=b5 k G;rcases zF6 (off:=off) I d1 f7 with⟨r2,p2,rfl,g8⟩|d7;{right;intro _;rcases hG.get k _ I with⟨_,_,h,_⟩|⟨_,h,_⟩|⟨q2,Q,h,_,_,_⟩|⟨cv,h,O,h3⟩;{cases h};{cases h};{cases h;exact absurd rfl g8};{cases h;obtain⟨u9,hu⟩:∃u9,v.cells.toList[k]?=some u9:=⟨_,qB G⟩;have P:=(b6 k _ u9 I (by simpa using hu)).2;have z:=P.2 R hRr;rw[b3]at z;have J:=B k G;have hV:=c5 i.toNat (off+k) M J;simp only[zba]at z;rw[if_pos ⟨e3,M⟩]at z;split at z;{rw [cell_of_block hb,hV]at z;simp only[qC]at z;rw[hu,z]};{cases z}}};{exfalso;have h9:=kJ.1 g6 (cols p++[off+k]) (jD.2 ⟨off+k,d7,rfl⟩);exact absurd (zrH p N (off+k) h5) h9}
        .exact g1 q u L λq' he=>absurd ⟨q',he⟩ g5)
       have g:=e7.putV (dst:=o.dst) (m:=.und) (v:=undef) rfl (λn X=>by simp[MV.ids,zby]at X)
       refine zvL (w':=w1) ?_ ⟨g.mem,⟨λn R X=>.inl (g.ids.ro n R X),λn cs X=>⟨.inl (g.ids.lo n cs X).1,λa I m hm=>.inl ((g.ids.lo n cs X).2 a I m hm)⟩,λm hm n X=>.inl (g.ids.tm m hm n X),λf hf m hm n X=>.inl (g.ids.stk f hf m hm n X)⟩,g.tm,g.stk⟩;simp[execOp,ho,Instr.storeAt,e5,Instr.sureAddr,hv,b0]
      .cases h
     .cases h
    .cases h
   .cases h
  .cases h
 .cases h
theorem zWI (hC:CfgOk C)(w0 w:World)(S0:zbd)(U:Nat->Prop)(st:St)(E:Env)(ts:Array Value)(sv:List (Array Value))(o:Oper)(id:Nat)(c:Bool)(W:St)(hS:Sim w0 S0 U st E ts sv w)(h:zG2 C st o=some (c,W)) :
 Goes C w0 S0 U st ts sv w o id (λ_=>W.put o.dst .und)/\W.nid=st.nid:=by
 unfold zG2 at h;split at h
 .rename_i T a ho;split at h
  .rename_i agg t1 r p i off hT ha;split at h
   .rename_i R t l hRr B;split at h
    .rename_i hcond;simp only[qE,qZ]at hcond;obtain⟨L,a3⟩:=hcond;split at h
     .rename_i l' hset;split at h
      .rename_i m hput;simp only[qC,jR]at h;obtain⟨rfl,rfl⟩:=h;refine⟨?_,rfl⟩;obtain⟨b6,d1⟩:=zbB hS ha;obtain⟨b,o2,len,b3,t2,e1,e2,e3,e4,e5⟩:=b6.2 R hRr;have hM:=hS.mem;have M:=hM.rep r R hRr;rw[L]at M;obtain⟨t',l0,S1,f1,f2,f3,f4,f5⟩:=Rep.focus p M e1;have c1:zik R.t R.l p=some (.s t l):=by obtain⟨R',Z,c0⟩:=zgD B;rw[hRr]at Z;cases Z;exact c0
       rw[c1] at f1;cases f1;rw[e2] at f2;cases f2;obtain⟨_,_,_,_,b4⟩:=f5 w l S1 (λ_ _ _=>rfl) (λ_ h _=>h) f3;have hv:({tmps:=ts,defers:=[]}:Act).eval (.const<|.slice none 0 0) = .slice none 0 0:=rfl;have b1:(Value.slice none 0 0).cells.toList=[.slice none 0 0]:=rfl;cases f3 with
       |void _ _ _ ho=>cases ho
       |sl _ _ _ _ _ O e' fz V K _ hb b9 Q I a8 P G a2 c9 b7=>
       have a4:=b9 rfl;subst a4;have D:Rows true w t l O o2 b V K S1:=⟨G,a2,c9,b7⟩;have a9:(Value.slice none 0 0).cells.toList.length=[CV.s t1 []].length:=rfl;have b0:(Value.slice none 0 0).cells.size=[CTy.s t1].length:=rfl;have F:off+(Value.slice none 0 0).cells.toList.length<=t.width:=a3;have a6:(i.toNat+1)*t.width<=b3*t.width:=qR _ (by omega)
       rw[jJ]at a6;have b5:∀u∈(Value.slice none 0 0).cells.toList,u.oneCell'=true:=by intro u Y;rw[b1,qF]at Y;subst Y;rfl
       have N:=zqG (w:=w) (off:=o2+i.toNat*t.width+off) (hC.cty T agg _ hT) hb b0 (by simp only[List.length_singleton];omega) b5
       generalize A:w.setRow b (splice O.toList (o2+i.toNat*t.width+off) (Value.slice none 0 0).cells.toList).toArray=w1 at N;have a1:w1.heap[b]?=some (.cells (splice O.toList (o2+i.toNat*t.width+off) (Value.slice none 0 0).cells.toList).toArray e' (0,0)):=by rw[<- A];exact setRow_heap w b _ _ e' _ hb
       have y:∀x,x≠b->w1.heap[x]?=w.heap[x]?:=λx g=>by rw[<- A];exact setRow_other w b x _ g
       have c7:E.φ r b:=f4 b P;have J:∀z j,z<l.length->j<t.width->¬ Hit i.toNat off (Value.slice none 0 0).cells.toList.length z j->∀x,K z j x->w1.heap[x]?=w.heap[x]?:=λz j H X _ x g=>y x ((G z j x H X g).2 rfl);have S:=Rep.setCells (w:=w) (w1:=w1) (Kn:=λ_ _=>False) Q I a8 D e4 a9 F hset a1 (λk c u hc Y=>by
        rw[b1]at Y;cases k with
        |zero=>simp at hc Y;subst hc Y;exact .nil _ _
        |succ k=>simp at hc)
        J (λk x hk g=>g.elim) (λk k' x hk d2 g b2=>g.elim) (λk x z j hk g H X d3 b2=>g.elim)
       have a0:∀x,(x=b\/(∃z j,z<l.length/\j<t.width/\¬ Hit i.toNat off (Value.slice none 0 0).cells.toList.length z j/\K z j x)\/∃k,k<(Value.slice none 0 0).cells.toList.length/\False)->S1 x:=by intro x g;rcases g with rfl|⟨z,j,H,X,_,hk⟩|⟨k,hk,g⟩;{exact P};{exact(G z j x H X hk).1};{exact g.elim}
       obtain⟨m',a5,c8,c2,c3⟩:=f5 w1 l' _ (λx g c6=>y x λe=>c6 (e ▸ P)) (λx g b2=>a0 x g) S;rw[hput]at a5;cases a5;have a7:=zQD (w1:=w1) (m:=m) (ks:=[]) (js:=[cols p++[off]]) hS hRr L (λq hq=>by cases hq) (by rw[<- A];rfl) (by rw[<- A];rfl) (by rw[<- A];rfl) (by rw[<- A];simp) c7 y (λx g=>by
        rcases g with⟨g,_⟩|g
        .exact .inl g
        .exact .inl (f4 x<|a0 x g)) c8 (λq u hq c5=>by
        rcases ztF p q with⟨q',rfl⟩|c4
        .rw [c3 q'];rw[b4 q']at hq;refine zpS I a8 D hb e4 a9 F hset a1 J q' (λz j d0 he k c X b8=>?_) y hq;subst he X;exfalso;cases k with
         |succ k=>simp at b8
         |zero=>have h9:=kJ.1 c5 (cols p++[off]) (qF.2 rfl);exact absurd (zrH p z off d0) h9
        .exact c2 q u hq λq' he=>absurd ⟨q',he⟩ c4)
       have d:=a7.putV (dst:=o.dst) (m:=.und) (v:=undef) rfl (λn B=>by simp[MV.ids,zby]at B)
       refine zvL (w':=w1) ?_ ⟨d.mem,⟨λn R B=>.inl (d.ids.ro n R B),λn cs B=>⟨.inl (d.ids.lo n cs B).1,λa ha m hm=>.inl ((d.ids.lo n cs B).2 a ha m hm)⟩,λm hm n B=>.inl (d.ids.tm m hm n B),λf hf m hm n B=>.inl (d.ids.stk f hf m hm n B)⟩,d.tm,d.stk⟩;simp[execOp,ho,Instr.storeAt,e5,Instr.sureAddr,hv,N]
      .cases h
     .cases h
    .cases h
   .cases h
  .cases h
 .cases h
theorem z1j (d:CfgOk C)(w0 w:World)(S0:zbd)(U:Nat->Prop)(st:St)(E:Env)(ts:Array Value)(sv:List (Array Value))(o:Oper)(id:Nat)(c:Bool)(a:St)(e:Sim w0 S0 U st E ts sv w)(h:graft C st o=some (c,a))(f:c=true) :
 Goes C w0 S0 U st ts sv w o id (λ_=>a.put o.dst .und)/\a.nid=st.nid:=by
 unfold graft at h;cases b:zJY C st o with
 |some x=>rw[b]at h;cases h;exact z1i d w0 w S0 U st E ts sv o id c a e b f
 |none=>rw[b]at h;exact zWI d w0 w S0 U st E ts sv o id c a e h
theorem zCw {n0:Nat}(c4:w0.heap.size<=n0)(c6:∀q Q,st.root q=some Q->∀x,E.φ q x->x<n0)(c3:∀l C,zx st.lo l=some C->E.β l<n0)(hS:Sim w0 S0 U st E ts sv w){r:Nat}{R:Root}(hR:st.root r=some R)(ho:R.own=true){m:List R.t.den}{js:List (List Nat)}{S3:zbd}(c5:w1.os=w.os)(c7:w1.tape=w.tape)(a9:w1.output=w.output)(b3:w.heap.size<=w1.heap.size)(M:∀x,x<w.heap.size->¬ E.φ r x->w1.heap[x]?=w.heap[x]?)(a0:∀x,S3 x->(E.φ r x\/n0<=x)/\x<w1.heap.size)(b1:Rep true w1 (E.ρ r) (.s R.t m) S3)(a8:∀q u,zba w R.t (E.ρ r) q=some u->js.any (λc=>c.isPrefixOf (cols q))=false->zba w1 R.t (E.ρ r) q=some u) :
 Sim w0 S0 U (zjy st r R m js) {E with φ:=λn=>if n=r then S3 else E.φ n} ts sv w1:=by
 have B:=hS.mem;obtain⟨b0,b2⟩:=B.mine r R hR ho;have g:∀q Q,(zjy st r R m js).root q=some Q->(q=r/\Q={R with l:=m})\/(q≠r/\st.root q=some Q/\Q.ep=none):=by intro q Q F;obtain⟨D,H⟩:=zbw F;simp only[zjy,zx]at D H;split at D;{rename_i K;simp only[qK]at K;cases D;exact .inl ⟨K.symm,rfl⟩};{rename_i K;simp only[qK]at K;refine .inr ⟨λh=>K h.symm,?_⟩;rcases H with H|H;{exact⟨ziW D<|.inl H,H⟩};{have:=B.epo q Q _ D H;omega}}
 have a7:∀q Q,q≠r->st.root q=some Q->Q.ep=none->∀x,E.φ q x->w1.heap[x]?=w.heap[x]? :=
  λq Q y F L x G=>M x (B.rlt q Q F x G) (λh=>B.apart r R q Q hR ho F L (λe=>y e.symm) x h G)
 have a2:∀q Q,q≠r->st.root q=some Q->Q.ep=none->∀x,S3 x->¬ E.φ q x:=by intro q Q y F L x G b4;rcases (a0 x G).1 with h|h;{exact B.apart r R q Q hR ho F L (λe=>y e.symm) x h b4};{have:=c6 q Q F x b4;omega}
 have T:∀a v,VA w st E a v->VA w1 (zjy st r R m js) {E with φ:=λn=>if n=r then S3 else E.φ n} (zc4 r js a) v:=by
  have Z:∀A q u Q,(r=A->js.any (λc=>c.isPrefixOf (cols q))=false)->(zjy st r R m js).root A=some Q->(∀R',st.root A=some R'->zba w R'.t (E.ρ A) q=some u)->zba w1 Q.t (E.ρ A) q=some u:=(by intro A q u Q c0 L a3;rcases g A Q L with⟨rfl,rfl⟩|⟨y,z,I⟩;{exact a8 q u (a3 R hR) (c0 rfl)};{have:=zdw (w':=w1) q (B.rep A Q z) (a7 A Q y z I);rw[this];exact a3 Q z});have b6:∀A Q,(zjy st r R m js).root A=some Q->∃R',st.root A=some R'/\R'.t=Q.t:=(by intro A Q L;rcases g A Q L with⟨rfl,rfl⟩|⟨y,z,I⟩;{exact⟨R,hR,rfl⟩};{exact⟨Q,z,rfl⟩});have loc:∀l C,zx (zjy st r R m js).lo l=some C->∃d,zx st.lo l=some d:=by intro l C h;simp only[zjy]at h;rw[zmx]at h;cases hl:zx st.lo l with|none=>rw[hl]at h;cases h|some d=>exact⟨d,rfl⟩
  intro a v Y;cases a with
  |bad=>trivial
  |i k n=>exact Y
  |b x=>exact Y
  |sl A q=>simp only[zc4];split;{trivial};{rename_i a6;refine⟨Y.1,λQ L=>Z A q v Q (λe=>?_) L Y.2⟩;subst e;simpa using a6}
  |lp l d0=>refine⟨Y.1,λC h=>?_⟩;obtain⟨d,h'⟩:=loc l C h;exact Y.2 d h'
  |ep A q i o=>simp only[zc4];split;{trivial};{rename_i a6;refine⟨Y.1,λQ L=>?_⟩;obtain⟨R',P,ht⟩:=b6 A Q L;obtain⟨b',o',len,b7,t',D,H,h3⟩:=Y.2 R' P;refine⟨b',o',len,b7,t',Z A q _ Q (λe=>?_) L λR2 S=>?_,by rw[<- ht];exact H,h3⟩;{subst e;simpa using a6};{rw [P]at S;cases S;exact D}}
  |kp A J t=>
   have b5:(r=A->coarse js J=true)->VA w1 (zjy st r R m js) {E with φ:=λn=>if n=r then S3 else E.φ n} (.kp A J t) v:=λhc=>by
    refine⟨Y.1,λQ L=>?_⟩;obtain⟨R',P,ht⟩:=b6 A Q L;obtain⟨D,H,h3⟩:=Y.2 R' P;refine⟨ht.symm.trans D,H,λp u hp hJ=>?_⟩;have:=Z A p u Q (λe=>zyk (hc e) hJ) L (λR2 S=>by
     rw[P]at S;cases S;rw[D,H];exact h3 p u hp hJ)
    rw[<- ht,D] at this;rw[show E.ρ A=v from H] at this
    exact this
   simp only[zc4];cases hb:Nat.beq r A with
   |false=>exact b5 (λe=>by subst e;simp at hb)
   |true=>cases hc:coarse js J with
    |true=>exact b5 (λ_=>hc)
    |false=>trivial
  |fn f c9=>obtain⟨vs,D,H,h3⟩:=Y;refine⟨vs,D,H,λk l u hk hu=>⟨(h3 k l u hk hu).1,λC h=>?_⟩⟩;obtain⟨d,h'⟩:=loc l C h;exact(h3 k l u hk hu).2 d h'
 have W:∀l C,zx (zjy st r R m js).lo l=some C->∃d,zx st.lo l=some d/\C=d.map (zc4 r js):=by intro l C h;simp only[zjy]at h;rw[zmx]at h;cases hl:zx st.lo l with|none=>rw[hl]at h;cases h|some d=>rw[hl]at h;cases h;exact⟨d,rfl,rfl⟩
 have c8:∀l C,zx st.lo l=some C->E.β l<w.heap.size:=by intro l C h;obtain⟨_,a4,e,H,_⟩:=B.loc l C h;exact(qS.1 H).1
 refine⟨⟨c5.trans B.os,c7.trans B.tape,a9.trans B.output,qX B.size b3,?_,?_,?_,?_,?_,?_,?_,?_,?_,?_,B.κ⟩,⟨?_,?_,?_,?_⟩,zwQ T hS.tm,zwR T hS.stk⟩
 .intro x G hnS;refine(M x (jI G B.size) λh=>?_).trans (B.keep x G hnS);rcases b2 x h with h|h
  .exact hnS h
  .omega
 .intro q Q F;rcases g q Q F with⟨rfl,rfl⟩|⟨y,z,I⟩
  .simp only [if_true,ho];exact b1
  .simp only [if_neg y];exact(B.rep q Q z).frame (a7 q Q y z I)
 .intro q Q F x G;rcases g q Q F with⟨rfl,rfl⟩|⟨y,z,I⟩
  .simp only [if_true]at G;exact(a0 x G).2
  .simp only [if_neg y]at G;exact jI (B.rlt q Q z x G) b3
 .intro q Q F hoq;rcases g q Q F with⟨rfl,rfl⟩|⟨y,z,I⟩
  .refine⟨b0,λx G=>?_⟩;simp only[if_true]at G;rcases (a0 x G).1 with h|h
   .exact b2 x h
   .exact .inr (qX c4 h)
  .simp only [if_neg y];exact B.mine q Q z hoq
 .intro hz q Q F hoq K hf;rcases g q Q F with⟨rfl,rfl⟩|⟨y,z,I⟩
  .exact absurd (show R.own=false from hoq) (by rw[ho];exact Bool.noConfusion)
  .simp only [if_neg y];exact B.frz hz q Q z hoq K hf
 .intro q Q q' Q' F hoq hq' K hnn x G;rcases g q Q F with⟨rfl,rfl⟩|⟨y,z,I⟩
  .rcases g q' Q' hq' with⟨rfl,rfl⟩|⟨N,X,O⟩
   .exact absurd rfl hnn
   .simp only [if_true]at G;simp only[if_neg N];exact a2 q' Q' N X O x G
  .simp only [if_neg y]at G;rcases g q' Q' hq' with⟨rfl,rfl⟩|⟨N,X,O⟩
   .simp only [if_true];exact λh=>a2 q Q y z I x h G
   .simp only [if_neg N];exact B.apart q Q q' Q' z hoq X O hnn x G
 .intro l C hl;obtain⟨d,V,rfl⟩:=W l C hl;obtain⟨D,a4,e,H,h3,h4⟩:=B.loc l d V;refine⟨D,a4,e,(M _ (c8 l d V) λh=>B.lro l d r R V hR h).trans H,by simp[h3],λj c u hc hu=>?_⟩
  rw[qO]at hc;cases a1:d[j]? with
  |none=>rw[a1]at hc;cases hc
  |some c'=>rw[a1]at hc;cases hc;exact⟨(h4 j c' u a1 hu).1,T _ _ (h4 j c' u a1 hu).2⟩
 .intro l l' C d hl V K;obtain⟨c1,D,_⟩:=W l C hl;obtain⟨c2,H,_⟩:=W l' d V;exact B.linj l l' c1 c2 D H K
 .intro l C q Q hl F;obtain⟨c1,D,_⟩:=W l C hl;rcases g q Q F with⟨rfl,rfl⟩|⟨y,z,I⟩
  .simp only [if_true];intro G;rcases (a0 _ G).1 with h|h
   .exact B.lro l c1 q R D hR h
   .have:=c3 l c1 D;omega
  .simp only [if_neg y];exact B.lro l c1 q Q D z
 .intro q Q e F K;simp only[zjy,zx]at F
  show e<=st.ep+1
  split at F
  .cases F;simp only[b0]at K;cases K
  .exact uQ (B.epo q Q e F K)
 .intro n Q hn;simp only[zjy,zx]at hn;split at hn
  .rename_i K;simp only[qK]at K;subst K;exact hS.ids.ro _ R (zbw hR).1
  .exact hS.ids.ro n Q hn
 .intro n C hn;obtain⟨d,D,rfl⟩:=W n C hn;refine⟨(hS.ids.lo n d D).1,λa ha k hk=>?_⟩;obtain⟨a',b8,rfl⟩:=jD.1 ha;exact(hS.ids.lo n d D).2 a' b8 k (zwP hk)
 .intro m' hm n hn;obtain⟨m0,a5,rfl⟩:=jD.1 hm;exact hS.ids.tm m0 a5 n (zsf hn)
 .intro f hf m' hm n hn;obtain⟨f0,b9,rfl⟩:=jD.1 hf;obtain⟨m0,a5,rfl⟩:=jD.1 hm;exact hS.ids.stk f0 b9 m0 a5 n (zsf hn)
theorem zF0 (g:Sim w0 S0 U st E ts sv w){r:Nat}{R:Root}(A:st.root r=some R)(B:R.own=true){m:List R.t.den}{js:List (List Nat)}{S3:zbd}(j:w1.os=w.os)(p:w1.tape=w.tape)(d:w1.output=w.output)(k:w.heap.size<=w1.heap.size)(a:∀x,x<w.heap.size->¬ E.φ r x->w1.heap[x]?=w.heap[x]?)(i:∀x,S3 x->(E.φ r x\/w.heap.size<=x)/\x<w1.heap.size)(f:Rep true w1 (E.ρ r) (.s R.t m) S3)(b:∀q u,zba w R.t (E.ρ r) q=some u->js.any (λc=>c.isPrefixOf (cols q))=false->zba w1 R.t (E.ρ r) q=some u) :
 Sim w0 S0 U (zjy st r R m js) {E with φ:=λn=>if n=r then S3 else E.φ n} ts sv w1 :=
 zCw (n0:=w.heap.size) g.mem.size (λq Q h x C=>g.mem.rlt q Q h x C) (λl y h=>by
  obtain⟨_,v,e,z,_⟩:=g.mem.loc l y h;exact(qS.1 z).1) g A B j p d k a i f b
theorem z3x (hH:MctOk C)(w0 w:World)(S0:zbd)(U:Nat->Prop)(st:St)(E:Env)(ts:Array Value)(sv:List (Array Value))(o:Oper)(id:Nat)(c:Bool)(M:St)(mv:MV)(hS:Sim w0 S0 U st E ts sv w)(h:zS2 C st o=some (c,M,mv))(hc:c=true) :
 Goes C w0 S0 U st ts sv w o id (λ_=>M.put o.dst mv)/\M.nid=st.nid:=by
 subst hc;unfold zS2 at h;split at h
 .rename_i cl ho;split at h
  .rename_i f hcb;split at h
   .rename_i run x y hmct hargs;split at h
    .rename_i r p k hx hy;split at h
     .rename_i R t l hR g;split at h
      .rename_i cc t' l' k' hrun;split at h
       .rename_i hcond;obtain⟨F,rfl⟩:=hcond;split at h
        .rename_i m hput;simp only[qC,jR]at h;obtain⟨rfl,rfl,rfl⟩:=h;refine⟨?_,rfl⟩;obtain⟨⟨fn,bd,hf,a4,I⟩,a3⟩:=hH.ok f run hmct;obtain⟨b5,c0⟩:=zbB hS hx;have a0:=(zbB hS hy).1;simp only[VA]at a0;have N:=hS.mem;have G:=N.rep r R hR;rw[F]at G;have hh:=b5.2 R hR;obtain⟨t1,l0,S1,f1,f2,f3,f4,f5⟩:=Rep.focus p G hh;have a8:zik R.t R.l p=some (.s t' l):=by obtain⟨R',O,a7⟩:=zgD g;rw[hR]at O;cases O;exact a7
         rw[a8] at f1;cases f1;obtain⟨_,_,_,_,a2⟩:=f5 w l S1 (λ_ _ _=>rfl) (λ_ h _=>h) f3;intro next Q J;have a5:cl.args = #[x,y]:=by rw[<- hargs]
         have D:fn.name≠ "runtime.NumGoroutine":=by simpa using I
         have H:(execOp ({tmps:=ts,defers:=[]}:Act).eval o).run C.P w = .ok (.enter f #[({tmps:=ts,defers:=[]}:Act).eval x,.int .i64 k]) w:=by have a6:({tmps:=ts,defers:=[]}:Act).eval (.func f) = .func (.func f) #[] #[]:=rfl;simp[execOp,ho,resolve,hcb,Deferred.ofValue,invoke,callFunc,hf,a4,D,a5,a0,a6]
         unfold Oper.wp;rw[H,Oper.upon_enter];refine(a3 w _ t' l k S1 _ k' f3 (λz d=>N.rlt r R hR z (f4 z d)) hrun).mono ?_;intro e w1 T;cases e with
         |panicked a1=>exact T.elim
         |outgrown=>exact T.elim
         |returned u=>
          obtain⟨b1,b4,X,Z,A,rfl,S2,L,S⟩:=T;obtain⟨m',W,b2,a9,b9⟩:=f5 w1 l' S2 (λz d K=>A z (N.rlt r R hR z d) K) (λz d b6=>by
           rcases (S z d).1 with h|h
           .exact h
           .have:=N.rlt r R hR z b6;omega) L
          rw[hput]at W;cases W;have Y:=zF0 (w1:=w1) (m:=m) (js:=(List.range t'.width).map λj=>cols p++[j]) hS hR F b1 b4 X Z (λz d K=>A z d λh=>K (f4 z h)) (λz d=>by
           rcases d with⟨d,_⟩|d
           .exact⟨.inl d,jI (N.rlt r R hR z d) Z⟩
           .obtain⟨h1,h2⟩:=S z d;exact⟨h1.imp (f4 z) λh=>h,h2⟩) b2 (λq u B b0=>by
           refine a9 q u B (λq' T=>?_);subst T;cases q' with
           |nil=>rfl
           |cons ij b7 =>
            obtain⟨i',j⟩:=ij;exfalso;rw[a2]at B;have hj:j<t'.width:=by generalize ({tmps:=ts,defers:=[]}:Act).eval x=vx at B;cases vx with|slice a len b8=>(cases a with|none=>simp[zba]at B|some a=>simp only[zba]at B;split at B;{split at B;{rename_i b3;rw[<- zfz];exact(qA.1 b3).1};{cases B}};{cases B})|_=>simp[zba]at B
            have h9:=kJ.1 b0 (cols p++[j]) (jD.2 ⟨j,kH.2 hj,rfl⟩);exact absurd (zrH p i' j b7) h9)
          have b:=Y.putV (dst:=o.dst) (m:=.v (.at<|.i .i64 k')) (v:=.int .i64 k') rfl (λn g=>by simp[MV.ids,zby,zU,At.ids,zbr,zbu]at g);exact J _ _ _ ⟨b.mem,⟨λn R g=>.inl (b.ids.ro n R g),λn cs g=>⟨.inl (b.ids.lo n cs g).1,λa ha m V=>.inl ((b.ids.lo n cs g).2 a ha m V)⟩,λm V n g=>.inl (b.ids.tm m V n g),λf hf m V n g=>.inl (b.ids.stk f hf m V n g)⟩,b.tm,b.stk⟩
        .cases h
       .cases h
      .cases h
     .cases h
    .cases h
   .cases h
  .cases h
 .cases h
end
def zbe (own:List Bool)(j:Nat):Prop:=own[j]?=some true
def zdA (P:Program)(f:FuncId)(own:List Bool)(y:List CV->List AV->Option (Bool×List CV×List AV)):Prop :=
 FnOk P f/\∀(w:World) (blk:Nat) (g:Array Value) (e:TypeId) (a:List CV) (K:Nat->zbd) (m:List AV) (A:List Value) (z:zbd) (h:List CV) (p:List AV),
  w.heap[blk]?=some (.cells g e (0,0))->g.size=a.length->own.length=a.length->
  (∀(j:Nat) (c:CV) (u:Value),a[j]?=some c->g[j]?=some u->Rep ((own[j]?).getD false) w u c (K j))->
  (∀j x,j<a.length->K j x->x<w.heap.size/\x≠blk)->
  (∀i j x,i<a.length->j<a.length->zbe own i->i≠j->K i x->¬ K j x)->
  zdz false w (zA m) A (λ_=>z)->(∀x,z x->x<w.heap.size/\x≠blk/\∀j,j<a.length->zbe own j->¬ K j x)->
  y a m=some (true,h,p)->
  Calls P f (#[.pointer<|some ⟨blk,0,none⟩]++(zbW m A).toArray) w fun
   |.returned v,w'=>w'.os=w.os/\w'.tape=w.tape/\w'.output=w.output/\w.heap.size<=w'.heap.size/\
    (∀b,b<w.heap.size->b≠blk->(∀j,j<a.length->zbe own j->¬ K j b)->w'.heap[b]?=w.heap[b]?)/\
    ∃(d:Array Value) (C:TypeId) (q:Nat->zbd) (B:List Value) (r:Nat->zbd),w'.heap[blk]?=some (.cells d C (0,0))/\d.size=h.length/\h.length=a.length/\
     (∀(j:Nat) (c:CV) (u:Value),h[j]?=some c->d[j]?=some u->match c with
      |.i k n=>u = .int k n
      |.b x=>u = .bool x
      |.s t l=>(zbe own j->Rep true w' u (.s t l) (q j))/\(¬ zbe own j->g[j]?=some u))/\
     zwV (zrh f) w' (zA p) B r/\v=zmf (zbW p B)/\
     (∀j x,j<a.length->q j x->x<w'.heap.size/\x≠blk/\((∃i,i<a.length/\zbe own i/\K i x)\/w.heap.size<=x))/\
     (∀i x,i<(zA p).length->r i x->x<w'.heap.size/\x≠blk/\((∃i,i<a.length/\zbe own i/\K i x)\/w.heap.size<=x))/\
     (∀i j x,i<a.length->j<a.length->i≠j->q i x->¬ q j x)/\
     (∀i j c x,(zA p)[i]?=some c->zrh f c=true->j<(zA p).length->i≠j->r i x->¬ r j x)/\
     (∀i j x,i<a.length->j<(zA p).length->q i x->¬ r j x)
   |_,_=>False
structure PctOk (C:Cfg):Prop where
 ok:∀f own run,C.pct f=some (own,run)->zdA C.P f own run
section
variable {C:Cfg} {w0 w w1:World} {S0:zbd} {U:Nat->Prop} {st st1:St} {E E1:Env} {ts:Array Value} {sv:List (Array Value)}
structure Blk (st:St) (own:List Bool) (cells:List At) (cs:List CV) (ks:List Nat):Prop where
 len:cs.length=cells.length
 olen:own.length=cells.length
 ownk:∀r∈ks,∃j,zbe own j/\cells[j]?=some (.sl r [])
 get:∀(j:Nat) (a:At),cells[j]?=some a->(∃k n,a = .i k n/\cs[j]?=some (.i k n))\/(∃x,a = .b x/\cs[j]?=some (.b x))\/
  ∃r R,a = .sl r []/\st.root r=some R/\R.ep=none/\own[j]?=some R.own/\cs[j]?=some (.s R.t R.l)/\(R.own=true->r∈ks)
 inj:∀(i j r:Nat),zbe own i->cells[i]?=some (.sl r [])->cells[j]?=some (.sl r [])->i=j
theorem zTs:∀(own:List Bool) (cells:List At) (s:List CV) (ks:List Nat),st.blk own cells=some (s,ks)->Blk st own cells s ks
 |[],[],s,ks,h=>by cases h;exact⟨rfl,rfl,fun r h=>by simp at h,fun j a h=>by simp at h,fun i j r h=>by simp[zbe]at h⟩
 |[],a::r,s,ks,h=>by simp[St.blk]at h
 |o::ms,[],s,ks,h=>by simp[St.blk]at h
 |o::ms,a::r,s,ks,h=>by
  simp only[St.blk]at h;split at h;{cases h}
  .rename_i cs0 ks0 h0;have f:=zTs ms r cs0 ks0 h0;have flat:∀(c:CV),(∀q,a≠.sl q [])->((∃k n,a = .i k n/\c = .i k n)\/(∃x,a = .b x/\c = .b x))->Blk st (o :: ms) (a :: r) (c :: cs0) ks0:=by
    intro c y H;refine⟨by simp[f.len],by simp[f.olen],fun q F=>?_,fun j b p=>?_,fun i j q m e d=>?_⟩;{obtain⟨j,e,d⟩:=f.ownk q F;exact⟨j+1,by simpa [zbe] using e,by simpa using d⟩}
    .cases j with
     |zero=>simp only[qG,qC]at p;subst p;rcases H with⟨k,n,e,d⟩|⟨x,e,d⟩;{exact .inl ⟨k,n,e,by simp[d]⟩};{exact .inr (.inl ⟨x,e,by simp[d]⟩)}
     |succ j=>simpa using f.get j b (by simpa using p)
    {cases i with|zero=>simp only[qG,qC]at e;exact absurd e (y q)|succ i=>(cases j with|zero=>simp only[qG,qC]at d;exact absurd d (y q)|succ j=>have:=f.inj i j q (by simpa [zbe] using m) (by simpa using e) (by simpa using d);omega)}
   split at h;{rename_i k n;cases h;exact flat _ (fun q h=>by cases h) (.inl ⟨k,n,rfl,rfl⟩)};{rename_i x;cases h;exact flat _ (fun q h=>by cases h) (.inr ⟨x,rfl,rfl⟩)}
   .rename_i q;split at h
    .rename_i R hR;split at h
     .rename_i hcond;simp only[qE,jB,jF,decide_eq_false_iff_not,qK,j8]at hcond;obtain⟨⟨l,E⟩,z⟩:=hcond;cases h;have g:∀x,x∈cond o (q::ks0) ks0↔(o=true/\x=q)\/x∈ks0:=(by intro x;cases o<;>simp);refine⟨by simp[f.len],by simp[f.olen],fun x G=>?_,fun j b p=>?_,fun i j x m e d=>?_⟩;{rcases (g x).1 G with⟨rfl,rfl⟩|G;{exact⟨0,rfl,rfl⟩};{obtain⟨j,e,d⟩:=f.ownk x G;exact⟨j+1,by simpa [zbe] using e,by simpa using d⟩}}
      .cases j with
       |zero=>simp only[qG,qC]at p;subst p;exact .inr (.inr ⟨q,R,rfl,hR,E,by simp[l],by simp,fun h=>(g q).2 (.inl ⟨by rw[<- l];exact h,rfl⟩)⟩)
       |succ j=>rcases f.get j b (by simpa using p) with h|h|⟨B,A,t,u,C,v,D,w⟩;{exact .inl (by simpa using h)};{exact .inr (.inl (by simpa using h))};{exact .inr (.inr ⟨B,A,t,u,C,by simpa using v,by simpa using D,fun h=>(g B).2 (.inr (w h))⟩)}
      .have old:∀(i:Nat),zbe ms i->r[i]?=some (.sl q [])->False:=by intro i m F;rcases f.get i _ F with⟨_,_,h,_⟩|⟨_,h,_⟩|⟨B,A,t,u,C,v,D,w⟩;{cases h};{cases h};{cases t;have:A.own=true:=(by rw[m] at v;simpa using v.symm);exact z (w this)}
       cases i with
       |zero=>
        cases j with
        |zero=>rfl
        |succ j=>simp only[qG,qC,At.sl.injEq,and_true]at e;subst e;simp only[zbe,qG,qC]at m;subst m;simp only[jO]at d;exfalso;rcases f.get j _ d with⟨_,_,h,_⟩|⟨_,h,_⟩|⟨B,A,t,u,C,v,D,w⟩;{cases h};{cases h};{cases t;rw[hR] at u;cases u;exact z (w l)}
       |succ i=>cases j with|zero=>simp only[qG,qC,At.sl.injEq,and_true]at d;subst d;exact(old i (by simpa [zbe] using m) (by simpa using e)).elim|succ j=>have:=f.inj i j x (by simpa [zbe] using m) (by simpa using e) (by simpa using d);omega
     {cases h}
    {cases h}
   {cases h}
theorem zJE:∀(own:List Bool) (cells:List At) (g:List CV) (id:Nat) (d:List At),zpO own cells g id=some d->d.length=cells.length/\g.length=cells.length/\
 ∀(j:Nat) (b:At),d[j]?=some b->(∃k n,b = .i k n/\g[j]?=some (.i k n))\/(∃x,b = .b x/\g[j]?=some (.b x))\/
  (∃t l,b = .sl (id+j) []/\zbe own j/\g[j]?=some (.s t l))\/(∃t l r,b = .sl r []/\¬ zbe own j/\cells[j]?=some (.sl r [])/\g[j]?=some (.s t l))
 |[],[],[],id,d,h=>by cases h;exact⟨rfl,rfl,fun j b h=>by simp at h⟩
 |o::ms,a::r,c::cs,id,d,h=>by
  simp only[zpO]at h;split at h;{cases h}
  .rename_i l0 h0;obtain ⟨p,u,v⟩:=zJE ms r cs (id+1) l0 h0;have m:∀(j:Nat) (b:At),l0[j]?=some b->(∃k n,b = .i k n/\(c :: cs)[j+1]?=some (.i k n))\/(∃x,b = .b x/\(c :: cs)[j+1]?=some (.b x)) \/
    (∃t l,b = .sl (id+(j+1)) []/\zbe (o::ms) (j+1)/\(c::cs)[j+1]?=some (.s t l))\/(∃t l q,b = .sl q []/\¬ zbe (o::ms) (j+1)/\(a::r)[j+1]?=some (.sl q [])/\(c::cs)[j+1]?=some (.s t l)):=by
    intro j b f;have:=v j b f;have e:id+1+j=id+(j+1):=by omega
    rw[e] at this;simpa [zbe] using this
   split at h;{split at h;{rename_i k y n w;cases h;refine⟨by simp[p],by simp[u],fun j b f=>?_⟩;cases j with|zero=>simp only[qG,qC]at f;subst f w;exact .inl ⟨_,_,rfl,rfl⟩|succ j=>exact m j b (by simpa using f)};{cases h}};{cases h;refine⟨by simp[p],by simp[u],fun j b f=>?_⟩;cases j with|zero=>simp only[qG,qC]at f;subst f;exact .inr (.inl ⟨_,rfl,rfl⟩)|succ j=>exact m j b (by simpa using f)};{rename_i q t l;cases h;refine⟨by cases o<;>simp [p],by simp[u],fun j b f=>?_⟩;cases j with|zero=>(cases o with|true=>simp only[cond_true,qG,qC]at f;subst f;exact .inr (.inr (.inl ⟨_,_,rfl,rfl,rfl⟩))|false=>simp only[cond_false,qG,qC]at f;subst f;exact .inr (.inr (.inr ⟨_,_,q,rfl,by simp[zbe],rfl,rfl⟩)))|succ j=>exact m j b (by cases o<;>simpa using f)};{cases h}
 |[],[],_::_,_,_,h=>by simp[zpO]at h
 |[],_::_,_,_,_,h=>by simp[zpO]at h
 |_::_,[],_,_,_,h=>by simp[zpO]at h
 |_::_,_::_,[],_,_,h=>by simp[zpO]at h
theorem zQl:∀(own:List Bool) (a:List CV) (id n:Nat) (R:Root),zx (zg7 own a id) n=some R->id<=n/\zbe own (n-id)/\∃t l,a[n-id]?=some (.s t l)/\R=zc3 t l
 |[],_,_,_,_,h=>by cases h
 |o::ms,[],_,_,_,h=>by cases h
 |o::ms,c::a,id,n,R,h=>by have d:zx (zg7 ms a<|id+1) n=some R->id<=n/\zbe (o::ms) (n-id)/\∃t l,(c::a)[n-id]?=some (.s t l)/\R=zc3 t l:=λh=>(by obtain⟨p,g,t,l,j,m⟩:=zQl ms a (id+1) n R h;have e:n-id=(n-(id+1))+1:=(by omega);exact⟨by omega,by rw[e];simpa [zbe] using g,t,l,by rw[e,jO];exact j,m⟩);cases c with|i k x=>exact d h|b x=>exact d h|s t l=>(cases o with|false=>exact d h|true=>simp only[zg7,cond_true,zx]at h;split at h;{rename_i f;simp only[qK]at f;subst f;cases h;exact⟨qW _,by simp[zbe],t,l,by simp,rfl⟩};{exact d h})
theorem ztw:∀(ks:List Nat) (n:Nat) (R:Root),zx (killed st ks) n=some R->R.ep=some st.ep/\∃Q,zx st.ro n=some Q
 |[],_,_,h=>by cases h
 |k::ks,n,R,h=>by simp only[killed]at h;split at h;{rename_i Q b;simp only[zx]at h;split at h;{rename_i a;simp only[qK]at a;subst a;cases h;exact⟨rfl,Q,b⟩};{exact ztw ks n R h}};{exact ztw ks n R h}
theorem zrP:∀(ks:List Nat) (n:Nat) (Q:Root),zx (killed st ks) n=none->zx st.ro n=some Q->n∉ks
 |[],_,_,_,_=>by simp
 |k::ks,n,Q,h,b=>by simp only[killed]at h;intro a;rcases qH.1 a with rfl|a;{rw [b]at h;simp[zx]at h};{split at h;{simp only [zx]at h;split at h;{cases h};{exact zrP ks n Q h b a}};{exact zrP ks n Q h b a}}
theorem zB5 (A:Sim w0 S0 U st E ts sv w){ks:List Nat}{q:zbd}(g:∀r R x,st.root r=some R->R.ep=none->r∉ks->E.φ r x->q x){a:At}{u:Value}{c:CV}(h:(zbr a).all (λr=>!ks.contains r&&(match st.root r with|some R=>R.ep.isNone|none=>false))=true)(d:st.cvOf a=some c)(j:VA w st E a u):Rep false w u c q:=by
 cases a with
 |i k n=>cases d;cases j;exact .i _ _ _
 |b x=>cases d;cases j;exact .b _ _
 |sl r p=>simp only[St.cvOf]at d;obtain⟨R,e,hg⟩:=zgD d;simp only[zbr,kW,List.all_nil,u0,e,qE,jB,jF,decide_eq_false_iff_not,j8]at h;obtain⟨G,F,C,v,D,y,z⟩:=Rep.at p (A.mem.rep r R e) (j.2 R e);rw[hg]at v;cases v;exact(y.weak λx B=>g r R x e h.2 h.1 (z x B)).ro
 |bad=>cases d
 |lp l m=>cases d
 |ep r p i m=>cases d
 |fn f s=>cases d
 |kp r J t=>cases d
theorem zFN (s:Sim w0 S0 U st E ts sv w){ks:List Nat}{Ka:zbd}(n:∀r R x,st.root r=some R->R.ep=none->r∉ks->E.φ r x->Ka x):∀(l:List Operand) (g:List AV),zcq (λx=>match st.opnd x with|some v=>st.avF ks v|none=>none) l=some g->
 ∃q,zdz false w (zA g) q (λ_=>Ka)/\l.map ({tmps:=ts,defers:=[]}:Act).eval=zbW g q
 |[],g,h=>by cases h;exact⟨[],⟨rfl,λi c x h=>by simp[zA]at h⟩,rfl⟩
 |x::r,g,h=>by simp only[zcq]at h;split at h;{rename_i Q b;split at h;{rename_i d P;cases h;obtain⟨q,p,H⟩:=zFN s n r d P;split at b;{rename_i S B;obtain⟨I,-⟩:=zb9 s B;unfold St.avF at b;split at b;{rename_i k;have j:=qQ.1 k;unfold St.avOf at b;split at b;{rename_i a;split at b;{rename_i c M;cases b;have L:=zB5 s n (j a (by simp[zby,zU])) M I;refine⟨({tmps:=ts,defers:=[]}:Act).eval x::q,?_,by simp[zbW,H]⟩;have e:zA (AV.one c::d)=[c]++zA d:=(by simp[zA,AV.cvs]);rw[e];refine zdz.append (x1:=[({tmps:=ts,defers:=[]}:Act).eval x]) ⟨rfl,λi K u f t=>?_⟩ p;cases i with|zero=>simp at f t;subst f t;exact L|succ i=>simp at f};{cases b}};{rename_i l;split at b;{rename_i y A;cases b;obtain⟨J,D,C,F⟩:=I;obtain⟨G,N⟩:=zob A;have m:J.toList.length=y.length:=(by simp[C,G]);refine⟨J.toList++q,?_,?_⟩;{have e:zA (AV.agg y::d)=y++zA d:=(by simp[zA,AV.cvs]);rw[e];refine zdz.append ⟨m,λi K u f t=>?_⟩ p;have O:i<l.length:=(by rw[G];exact(qA.1 f).1);have z:=qB O;exact zB5 s n (j _ (by simp only[zby,zU];exact qJ z)) (N i _ _ z f) (F i _ u z (by simpa using t)).2};{simp only [jK,zbW,D,<- m,kU,kY,H,jN]}};{cases b}};{cases b}};{cases b}};{cases b}};{cases h}};{cases h}
def cφ (E:Env)(cells:List At)(j:Nat):zbd:=match cells[j]? with
 |some a=>aφ E a
 |none=>λ_=>False
theorem ziP {cells:List At}{j:Nat}{a:At}(h:cells[j]?=some a):cφ E cells j=aφ E a:=by unfold cφ;rw[h]
theorem zun {cells:List At}{j x:Nat}(h:cφ E cells j x):∃a,cells[j]?=some a/\aφ E a x:=by unfold cφ at h;cases b:cells[j]? with|some a=>rw[b]at h;exact⟨a,rfl,h⟩|none=>rw[b]at h;exact h.elim
theorem z3G (hH:PctOk C)(w0 w:World)(S0:zbd)(U:Nat->Prop)(st:St)(E:Env)(ts:Array Value)(sv:List (Array Value))(o:Oper)(id:Nat)(c:Bool)(e8:St)(mv:MV)(hS:Sim w0 S0 U st E ts sv w)(e0:∀n,Mine id n->¬ U n)(h:zDE C st o id=some (c,e8,mv))(hc:c=true):Goes C w0 S0 U st ts sv w o id (fun _=>e8.put o.dst mv)/\e8.nid=st.nid:=by
 subst hc;unfold zDE at h;split at h
 .rename_i cl I;split at h
  .rename_i f hcb;split at h
   .rename_i own run hpct;generalize d8:cl.args.toList=h0 at h;unfold zVd at h;split at h
    .rename_i x ys0;split at h
     .rename_i l z;split at h
      .rename_i cells hcells;split at h
       .rename_i cs ks hblk;split at h
        .rename_i avs havs;split at h
         .rename_i cc cs' rs hrun;split at h
          .rename_i cells' hnew;split at h
           .rename_i hlen;simp only[qC,jR]at h;obtain⟨rfl,rfl,rfl⟩:=h;refine⟨?_,rfl⟩;obtain⟨⟨fn,bd,hf,hbd,e4⟩,hHP⟩:=hH.ok f own run hpct;have hB:=zTs own cells cs ks hblk;obtain⟨g5,hn2,g6⟩:=zJE own cells cs' id cells' hnew;have hrsl:(zA rs).length<=16:=hlen.2;have G:=hS.mem;obtain⟨f9,d4,e,hl2,hl3,g0⟩:=G.loc l cells hcells;obtain⟨hxv,hxi⟩:=zbB hS z;have hxp:=hxv.2 cells hcells;have b9:∀l cs,zx st.lo l=some cs->E.β l<w.heap.size:=(by intro l cs h;obtain⟨_,d4,e,d,_⟩:=G.loc l cs h;exact(qS.1 d).1);let K:Nat->zbd:=cφ E cells
            have hK:∀j x,K j x->∃r R,cells[j]?=some (.sl r [])/\st.root r=some R/\R.ep=none/\own[j]?=some R.own/\(R.own=true->r∈ks)/\E.φ r x:=(by intro j x z;obtain⟨a,ha,z⟩:=zun z;rcases hB.get j a ha with⟨_,_,rfl,_⟩|⟨_,rfl,_⟩|⟨r,R,rfl,g,d,H,_,h5⟩;{exact z.elim};{exact z.elim};{exact⟨r,R,ha,g,d,H,h5,z⟩});have S:∀j x,zbe own j->K j x->∃r∈ks,∃R,st.root r=some R/\R.own=true/\E.φ r x:=(by intro j x hj z;obtain⟨r,R,g,d,_,M,h5,h6⟩:=hK j x z;have:R.own=true:=(by rw[hj]at M;simpa using M.symm);exact⟨r,h5 this,R,d,this,h6⟩);have hks:∀r∈ks,∃j R,j<cs.length/\zbe own j/\cells[j]?=some (.sl r [])/\st.root r=some R/\R.own=true/\∀x,E.φ r x->K j x:=(by intro r A;obtain⟨j,g,d⟩:=hB.ownk r A;rcases hB.get j _ d with⟨_,_,h,_⟩|⟨_,h,_⟩|⟨Z,R,h,g1,g2,g3,_,_⟩;{cases h};{cases h};{cases h;refine⟨j,R,by rw[hB.len];exact(qA.1 d).1,g,d,g1,by rw[g] at g3;simpa using g3.symm,fun x z=>?_⟩;show cφ E cells j x;rw[ziP d];exact z});let Ka:zbd:=fun x=>x<w.heap.size/\x≠E.β l/\∀r∈ks,¬ E.φ r x
            obtain⟨xs,hxs,hxm⟩:=zFN hS (ks:=ks) (Ka:=Ka) (fun r R x T V A z=>⟨G.rlt r R T x z,fun h=>G.lro l cells r R hcells T (by rw[<- h];exact z),fun q hq hqx=>by
             obtain⟨_,Q,_,_,_,hQ,hQo,_⟩:=hks q hq;exact G.apart q Q r R hQ hQo T V (fun e=>A (by rw[<- e];exact hq)) x hqx z⟩) ys0 avs havs
            have c7:cl.args.map ({tmps:=ts,defers:=[]}:Act).eval = #[.pointer (some ⟨E.β l,0,none⟩)]++(zbW avs xs).toArray:=(by have e:cl.args=(x::ys0).toArray:=(by rw[<- d8,jN]);rw[e,List.map_toArray,jK,hxm,hxp];simp);intro next Q e5;have d0:fn.name≠ "runtime.NumGoroutine":=(by simpa using e4);have d9:(execOp ({tmps:=ts,defers:=[]}:Act).eval o).run C.P w = .ok (.enter f (#[.pointer (some ⟨E.β l,0,none⟩)]++(zbW avs xs).toArray)) w:=(by have hfe:({tmps:=ts,defers:=[]}:Act).eval (.func f) = .func (.func f) #[] #[]:=rfl;simp[execOp,I,resolve,hcb,Deferred.ofValue,invoke,callFunc,hf,hbd,d0,c7,hfe]);unfold Oper.wp;rw[d9,Oper.upon_enter];refine(hHP w (E.β l) d4 e cs K avs xs Ka cs' rs hl2 (by rw[hl3,hB.len]) (by rw[hB.olen,hB.len]) (fun j c u c8 hu=>?_) (fun j x hj z=>?_) (fun i j x hi hj I b2 z a9=>?_) hxs (fun x z=>⟨z.1,z.2.1,fun j hj I hk=>?_⟩) hrun).mono ?_;{have hj:j<cells.length:=(by rw[<- hB.len];exact(qA.1 c8).1);have ha:=qB hj;obtain⟨_,b5⟩:=g0 j _ u ha hu;rcases hB.get j _ ha with⟨k,n,g,d⟩|⟨y,g,d⟩|⟨r,R,g,d,H,M,h5,_⟩;{rw [c8]at d;cases d;rw[g]at b5;cases b5;exact .i _ _ _};{rw [c8]at d;cases d;rw[g]at b5;cases b5;exact .b _ _};{rw [c8]at h5;cases h5;rw[g]at b5;have:=b5.2 R d;simp only[zba,qC] at this;subst this;have A:=G.rep r R d;rw[M];refine A.weak (fun x z=>?_);show cφ E cells j x;rw[ziP ha,g];exact z}};{obtain⟨r,R,g,d,H,M,h5,h6⟩:=hK j x z;exact⟨G.rlt r R d x h6,fun h=>G.lro l cells r R hcells d (by rw[<- h];exact h6)⟩};{obtain⟨r,R,g,d,H,M,h5,h6⟩:=hK i x z;obtain⟨Z,R',N,O,c0,c3,h5',h6'⟩:=hK j x a9;have hRo:R.own=true:=(by rw[I]at M;simpa using M.symm);refine G.apart r R Z R' d hRo O c0 (fun e=>b2 (hB.inj i j r I g (by rw[e];exact N))) x h6 h6'};{obtain⟨r,A,R,g,d,H⟩:=S j x I hk;exact z.2.2 r A H}
            .intro ex w' V;cases ex with
             |panicked h9=>exact V.elim
             |outgrown=>exact V.elim
             |returned v=>
              obtain⟨hos,htp,g7,g8,b1,a8,e',K',ys,Kr,hb',g9,hcl,X,d3,rfl,f1,f4,f0,f3,f2⟩:=V;have hcs12:cs.length<=12:=by rw[hB.len];exact hlen.1
              let E1:Env:={ E with ρ:=fun n=>if id<=n/\n<id+12 then (a8[n-id]?).getD undef else if id+12<=n/\n<id+32 then (ys[n-(id+12)]?).getD undef else E.ρ n,
                                   φ:=fun n=>if id<=n/\n<id+12 then (fun x=>n-id<cs.length/\K' (n-id) x) else if id+12<=n/\n<id+32 then (fun x=>n-(id+12)<(zA rs).length/\Kr (n-(id+12)) x) else E.φ n}
              have a0:∀n,U n->E1.ρ n=E.ρ n/\E1.φ n=E.φ n:=(by intro n hn;have:¬ (id<=n/\n<id+32):=fun h=>e0 n h hn;have a1:¬ (id<=n/\n<id+12):=fun h=>this ⟨h.1,by omega⟩;have a2:¬ (id+12<=n/\n<id+32):=fun h=>this ⟨by omega,h.2⟩;simp only[E1,if_neg a1,if_neg a2,and_self]);have c4:∀n,id<=n->n<id+12->E1.ρ n=(a8[n-id]?).getD undef/\E1.φ n=fun x=>n-id<cs.length/\K' (n-id) x:=(by intro n g d;simp only[E1,if_pos (show id<=n/\n<id+12 from ⟨g,d⟩),and_self]);have c5:∀n,id+12<=n->n<id+32->E1.ρ n=(ys[n-(id+12)]?).getD undef/\E1.φ n=fun x=>n-(id+12)<(zA rs).length/\Kr (n-(id+12)) x:=(by intro n g d;have a1:¬ (id<=n/\n<id+12):=fun h=>(by omega);simp only[E1,if_neg a1,if_pos (show id+12<=n/\n<id+32 from ⟨g,d⟩),and_self]);generalize a4:({st with lo:=(l,cells')::st.lo,ro:=zg7 own cs' id++(zc2 (zcN f) rs (id+12)++(killed st ks++st.ro)),ep:=st.ep+1}:St)=st1;have d2:st1.ro=zg7 own cs' id++(zc2 (zcN f) rs (id+12)++(killed st ks++st.ro)):=(by rw[<- a4]);have d1:st1.lo=(l,cells')::st.lo:=(by rw[<- a4]);have b4:st1.ep=st.ep+1:=(by rw[<- a4]);have hA:∀r R,zx (zg7 own cs' id) r=some R->id<=r/\r<id+12/\r-id<cs.length/\zbe own (r-id)/\∃t l,cs'[r-id]?=some (.s t l)/\R=zc3 t l:=(by intro r R A;obtain⟨g,d,t,F,H,M⟩:=zQl own cs' id r R A;have c9:=(qA.1 H).1;exact⟨g,by omega,by omega,d,t,F,H,M⟩);have b0:∀r R,zx (zc2 (zcN f) rs (id+12)) r=some R->id+12<=r/\r<id+32/\r-(id+12)<(zA rs).length/\∃t l,(zA rs)[r-(id+12)]?=some (.s t l)/\R=⟨t,l,zcN f t,none⟩:=(by intro r R A;obtain⟨g,t,F,H,M⟩:=zfW (zcN f) rs (id+12) r R A;have c9:=(qA.1 H).1;exact⟨g,by omega,c9,t,F,H,M⟩);have e7:∀r R,zx st1.ro r=some R->zx (zg7 own cs' id) r=some R\/zx (zc2 (zcN f) rs (id+12)) r=some R\/(R.ep=some st.ep/\∃Q,zx st.ro r=some Q)\/(zx st.ro r=some R/\r∉ks):=(by intro r R A;rw[d2,zbJ]at A;split at A;{rename_i Q hQ;cases A;exact .inl hQ};{rw [zbJ]at A;split at A;{rename_i Q hQ;cases A;exact .inr (.inl hQ)};{rw [zbJ]at A;split at A;{rename_i Q hQ;cases A;exact .inr (.inr (.inl (ztw ks r _ hQ)))};{rename_i hn;exact .inr (.inr (.inr ⟨A,zrP ks r R hn A⟩))}}});have b8:∀r R,st1.root r=some R->zx (zg7 own cs' id) r=some R\/zx (zc2 (zcN f) rs (id+12)) r=some R\/(st.root r=some R/\R.ep=none/\r∉ks/\U r):=(by intro r R A;obtain⟨g,d⟩:=zbw A;rw[b4]at d;rcases e7 r R g with h|h|⟨h,_⟩|⟨h,hk⟩;{exact .inl h};{exact .inr (.inl h)};{rcases d with d|d;{rw [h]at d;cases d};{rw [h]at d;simp at d}};{rcases d with d|d;{exact .inr (.inr ⟨ziW h (.inl d),d,hk,hS.ids.ro r R h⟩)};{have:=G.epo r R _ h d;omega}});have f7:∀r R,st.root r=some R->R.ep=none->r∉ks->∀x,E.φ r x->w'.heap[x]?=w.heap[x]?:=(by intro r R T V hk x z;refine b1 x (G.rlt r R T x z) (fun h=>G.lro l cells r R hcells T (by rw[<- h];exact z)) (fun j hj I hkx=>?_);obtain⟨q,hq,Q,g,d,H⟩:=S j x I hkx;exact G.apart q Q r R g d T V (fun e=>hk (by rw[<- e];exact hq)) x H z);have a6:∀x,(x<w'.heap.size/\x≠E.β l/\((∃i,i<cs.length/\zbe own i/\K i x)\/w.heap.size<=x))->(S0 x\/w0.heap.size<=x)/\∀r R,st.root r=some R->R.ep=none->r∉ks->¬ E.φ r x:=(by intro x ⟨g,d,H⟩;rcases H with⟨i,hi,I,hk⟩|H;{obtain⟨q,hq,Q,g1,g2,g3⟩:=S i x I hk;exact⟨(G.mine q Q g1 g2).2 x g3,fun r R T V f8 z=>G.apart q Q r R g1 g2 T V (fun e=>f8 (by rw[<- e];exact hq)) x g3 z⟩};{exact⟨.inr (qX G.size H),fun r R T V f8 z=>by have:=G.rlt r R T x z;omega⟩});have d6:∀r R,zx (zg7 own cs' id) r=some R->Rep true w' (E1.ρ r) (.s R.t R.l) (E1.φ r):=(by intro r R A;obtain⟨g,d,H,M,t,F,h5,rfl⟩:=hA r R A;have hv:r-id<a8.size:=(by omega);have hu:=j7 hv;have:=(X _ _ _ h5 hu).1 M;rw[(c4 r g d).1,(c4 r g d).2,hu];exact this.weak (fun x z=>⟨H,z⟩));have d7:∀r R,zx (zc2 (zcN f) rs (id+12)) r=some R->Rep R.own w' (E1.ρ r) (.s R.t R.l) (E1.φ r):=(by intro r R A;obtain⟨g,d,H,t,F,h5,rfl⟩:=b0 r R A;have hv:r-(id+12)<ys.length:=(by rw[d3.1];exact H);have hu:=qB hv;rw[(c5 r g d).1,(c5 r g d).2,hu];exact(d3.2 _ _ _ h5 hu).weak (fun x z=>⟨H,z⟩));have J:∀r R,zx (zg7 own cs' id) r=some R->∀x,E1.φ r x->r-id<cs.length/\K' (r-id) x:=(by intro r R A x z;obtain⟨g,d,_⟩:=hA r R A;rw[(c4 r g d).2]at z;exact z);have L:∀r R,zx (zc2 (zcN f) rs (id+12)) r=some R->∀x,E1.φ r x->r-(id+12)<(zA rs).length/\Kr (r-(id+12)) x:=(by intro r R A x z;obtain⟨g,d,_⟩:=b0 r R A;rw[(c5 r g d).2]at z;exact z);have W:∀r R,(zx (zg7 own cs' id) r=some R\/zx (zc2 (zcN f) rs (id+12)) r=some R)->∀x,E1.φ r x->x<w'.heap.size/\x≠E.β l/\((∃i,i<cs.length/\zbe own i/\K i x)\/w.heap.size<=x):=(by intro r R A x z;rcases A with A|A;{obtain⟨g,d⟩:=J r R A x z;exact f1 _ x g d};{obtain⟨g,d⟩:=L r R A x z;exact f4 _ x g d});have e6:∀r R,zx (zg7 own cs' id) r=some R->R.own=true:=(by intro r R A;obtain⟨_,_,_,_,t,F,_,rfl⟩:=hA r R A;rfl);have a3:∀r R,(zx (zg7 own cs' id) r=some R\/zx (zc2 (zcN f) rs (id+12)) r=some R)->R.ep=none:=(by intro r R A;rcases A with A|A;{obtain⟨_,_,_,_,t,F,_,rfl⟩:=hA r R A;rfl};{obtain⟨_,_,_,t,F,_,rfl⟩:=b0 r R A;rfl});have D:∀r R,st1.root r=some R->(zx (zg7 own cs' id) r=some R\/zx (zc2 (zcN f) rs (id+12)) r=some R)\/(st.root r=some R/\R.ep=none/\r∉ks/\U r):=(by intro r R A;rcases b8 r R A with h|h|h;{exact .inl (.inl h)};{exact .inl (.inr h)};{exact .inr h});have c6:∀r R Z R',(zx (zg7 own cs' id) r=some R\/zx (zc2 (zcN f) rs (id+12)) r=some R)->(zx (zg7 own cs' id) Z=some R'\/zx (zc2 (zcN f) rs (id+12)) Z=some R')->R.own=true->r≠Z->∀x,E1.φ r x->¬ E1.φ Z x:=(by intro r R Z R' A a7 I b2 x z a9;rcases A with A|A<;>rcases a7 with a7|a7;{obtain⟨g,d⟩:=J r R A x z;obtain⟨N,O⟩:=J Z R' a7 x a9;obtain⟨g1,_⟩:=hA r R A;obtain⟨g1',_⟩:=hA Z R' a7;exact f0 _ _ x g N (by omega) d O};{obtain⟨g,d⟩:=J r R A x z;obtain⟨N,O⟩:=L Z R' a7 x a9;exact f2 _ _ x g N d O};{obtain⟨g,d⟩:=L r R A x z;obtain⟨N,O⟩:=J Z R' a7 x a9;exact f2 _ _ x N g O d};{obtain⟨g,d⟩:=L r R A x z;obtain⟨N,O⟩:=L Z R' a7 x a9;obtain⟨g1,_,_,t,F,g2,rfl⟩:=b0 r R A;obtain⟨g1',_⟩:=b0 Z R' a7;exact f3 _ _ _ x g2 I N (by omega) d O});have b7:∀F B,zx st1.lo F=some B->(F=l/\B=cells')\/(F≠l/\zx st.lo F=some B):=(by intro F B h;rw[d1]at h;simp only[zx]at h;split at h;{rename_i V;simp only[qK]at V;cases h;exact .inl ⟨V.symm,rfl⟩};{rename_i V;simp only[qK]at V;exact .inr ⟨fun e=>V e.symm,h⟩});have b3:∀F B,zx st1.lo F=some B->∃b6,zx st.lo F=some b6:=(by intro F B h;rcases b7 F B h with⟨rfl,_⟩|⟨_,h⟩;{exact⟨_,hcells⟩};{exact⟨_,h⟩});have hT:Trans st E w st1 E1 w' U:=(by refine⟨fun r hU R1 hR1=>?_,fun F hU B g=>⟨b3 F B g,rfl⟩,rfl⟩;rcases D r R1 hR1 with h|⟨g,d,H,M⟩;{exfalso;rcases h with h|h;{obtain⟨g1,g2,_⟩:=hA r R1 h;exact e0 r ⟨g1,by omega⟩ hU};{obtain⟨g1,g2,_⟩:=b0 r R1 h;exact e0 r ⟨by omega,g2⟩ hU}};{refine⟨R1,g,rfl,fun p u hp=>?_⟩;rw[(a0 r hU).1,zdw p (G.rep r R1 g) (f7 r R1 g d H)];exact hp});have f5:Mem w0 S0 st1 E1 w':=by refine⟨hos.trans G.os,htp.trans G.tape,g7.trans G.output,qX G.size g8,fun b hb e3=>?_,fun r R T=>?_,fun r R T x z=>?_,fun r R T I=>?_,fun hz r R T I V hf=>?_,fun r R Z R' T I f6 V b2 x z=>?_,fun F B a5=>?_,fun l1 l2 c1 c2 g d=>?_,fun F B r R a5 T=>?_,fun r R ee T V=>?_,G.κ⟩;{refine(b1 b (jI hb G.size) (fun h=>?_) (fun j hj I hk=>?_)).trans (G.keep b hb e3);{subst h;rcases f9 with h|h;{exact e3 h};{omega}};{obtain⟨q,hq,Q,g1,g2,g3⟩:=S j b I hk;rcases (G.mine q Q g1 g2).2 b g3 with h|h;{exact e3 h};{omega}}};{rcases b8 r R T with h|h|⟨g,d,H,M⟩;{have:=d6 r R h;rw[e6 r R h];exact this};{exact d7 r R h};{rw [(a0 r M).1,(a0 r M).2];exact(G.rep r R g).frame (f7 r R g d H)}};{rcases D r R T with h|⟨g,d,H,M⟩;{exact(W r R h x z).1};{rw [(a0 r M).2]at z;exact jI (G.rlt r R g x z) g8}};{rcases D r R T with h|⟨g,d,H,M⟩;{exact⟨a3 r R h,fun x z=>(a6 x (W r R h x z)).1⟩};{rw [(a0 r M).2];exact G.mine r R g I}};{rcases D r R T with h|⟨g,d,H,M⟩;{exact fun x z=>(a6 x (W r R h x z)).1};{rw [(a0 r M).2];exact G.frz hz r R g I V hf}};{rcases D r R T with h|⟨g,d,H,M⟩;{rcases D Z R' f6 with h'|⟨N,O,c0,c3⟩;{exact c6 r R Z R' h h' I b2 x z};{rw [(a0 Z c3).2];exact(a6 x (W r R h x z)).2 Z R' N O c0}};{rw [(a0 r M).2]at z;rcases D Z R' f6 with h'|⟨N,O,c0,c3⟩;{intro a9;exact(a6 x (W Z R' h' x a9)).2 r R g d H z};{rw [(a0 Z c3).2];exact G.apart r R Z R' g I N O b2 x z}}};{rcases b7 F B a5 with⟨rfl,rfl⟩|⟨b2,a5⟩;{refine⟨f9,a8,e',hb',by rw[g9,hn2,g5],fun j b u hbj hu=>?_⟩;rcases g6 j b hbj with⟨k,n,rfl,d⟩|⟨y,rfl,d⟩|⟨t,F,rfl,I,d⟩|⟨t,F,r,rfl,I,g,d⟩;{have:=X j _ u d hu;simp only at this;subst this;exact⟨rfl,rfl⟩};{have:=X j _ u d hu;simp only at this;subst this;exact⟨rfl,rfl⟩};{have Y:=(X j _ u d hu).1 I;have c9:=(qA.1 d).1;obtain⟨⟨a,d5,hv,_⟩,_⟩:=Y.len;refine⟨Y.one,⟨a,_,d5,hv⟩,fun R T=>?_⟩;have hij:id+j-id=j:=(by omega);have:=(c4 (id+j) (by omega) (by omega)).1;rw[hij,hu] at this;simp only[zba,this,j3]};{have hvj:=(X j _ u d hu).2 I;have a3:=g0 j _ u g hvj;exact⟨a3.1,VA.tr hT (fun n hn=>(hS.ids.lo _ cells hcells).2 _ (qJ g) n hn) a3.2⟩}};{obtain⟨g1,e9,e1,g2,g3,g4⟩:=G.loc F B a5;refine⟨g1,e9,e1,(b1 _ (b9 F B a5) (fun h=>b2 (G.linj F l B cells a5 hcells h)) (fun j hj I hk=>?_)).trans g2,g3,fun j b u hb hu=>⟨(g4 j b u hb hu).1,VA.tr hT (fun n hn=>(hS.ids.lo F B a5).2 b (qJ hb) n hn) (g4 j b u hb hu).2⟩⟩;obtain⟨q,hq,Q,g,d,H⟩:=S j _ I hk;exact G.lro F B q Q a5 g H}};{intro hb;obtain⟨h7,g⟩:=b3 l1 c1 g;obtain⟨h8,d⟩:=b3 l2 c2 d;exact G.linj l1 l2 h7 h8 g d hb};{obtain⟨b6,e2⟩:=b3 F B a5;rcases D r R T with h|⟨g,d,H,M⟩;{intro z;obtain⟨_,g2,g3⟩:=W r R h _ z;rcases g3 with⟨i,hi,I,hk⟩|g3;{obtain⟨q,hq,Q,q1,q2,q3⟩:=S i _ I hk;exact G.lro F b6 q Q e2 q1 q3};{have:=b9 F b6 e2;have e:E1.β F=E.β F:=rfl;omega}};{rw [(a0 r M).2];exact G.lro F b6 r R e2 g}};{rw [b4];rcases e7 r R T with h|h|⟨h,_⟩|⟨h,_⟩;{rw [a3 r R (.inl h)]at V;cases V};{rw [a3 r R (.inr h)]at V;cases V};{rw [h]at V;cases V;omega};{have:=G.epo r R ee h V;omega}}
              obtain⟨g1,g2⟩:=zh5 (w:=w') (st:=st1) (E:=E1) rs ys (id+12) d3.1 (fun i c u hc hu=>by
               have Y:=d3.2 i c u hc hu;refine⟨?_,Y.one⟩;have c9:i<(zA rs).length:=(qA.1 hc).1;cases c with
               |i k n=>exact Y.int_inv
               |b x=>exact Y.bool_inv
               |s t F =>
                obtain⟨⟨a,d5,hv,_⟩,_⟩:=Y.len;refine⟨⟨a,_,d5,hv⟩,fun R T=>?_⟩;have e:id+12+i-(id+12)=i:=by omega
                have:=(c5 (id+12+i) (by omega) (by omega)).1
                rw[e,hu] at this;simp only[zba,this,j3])
              have hnx:=Sim.next (U1:=fun n=>U n\/Mine id n) hS f5 hT (by rw[<- a4]) (by rw[<- a4]) (fun n h=>.inl h) (fun n R h=>by
               rcases e7 n R h with h|h|⟨_,Q,h⟩|⟨h,_⟩
               .obtain⟨g,d,_⟩:=hA n R h;exact .inr ⟨g,by omega⟩
               .obtain⟨g,d,_⟩:=b0 n R h;exact .inr ⟨by omega,d⟩
               .exact .inl (hS.ids.ro n Q h)
               .exact .inl (hS.ids.ro n R h))
               (fun n B hn=>by
                rcases b7 n B hn with⟨rfl,rfl⟩|⟨_,hn⟩
                .refine⟨.inl (hS.ids.lo _ cells hcells).1,fun a ha m hm=>?_⟩;obtain⟨j,hj⟩:=qT.1 ha;have hjl:j<B.length:=(qA.1 hj).1;have hj12:j<12:=by rw[g5]at hjl;omega
                 rcases g6 j a hj with⟨k,n,rfl,d⟩|⟨y,rfl,d⟩|⟨t,F,rfl,I,d⟩|⟨t,F,r,rfl,I,g,d⟩
                 .simp [At.ids,zbr,zbu]at hm
                 .simp [At.ids,zbr,zbu]at hm
                 .simp only [At.ids,zbr,zbu,jC,qF]at hm;subst hm;exact .inr ⟨by omega,by omega⟩
                 .exact .inl ((hS.ids.lo _ cells hcells).2 _ (qJ g) m hm)
                .exact⟨.inl (hS.ids.lo n B hn).1,fun a ha m hm=>.inl ((hS.ids.lo n B hn).2 a ha m hm)⟩)
               (dst:=o.dst) (zrg g1 g2) (fun n hn=>by
                simp only[MV.ids,qN]at hn;obtain⟨a,ha,hn⟩:=hn;obtain⟨x,z,ha⟩:=zrf ha;have:=zfX rs (id+12) n x a z ha hn;exact .inr ⟨by omega,by omega⟩)
              subst a4;exact e5 _ _ _ hnx
           {cases h}
          {cases h}
         {cases h}
        {cases h}
       {cases h}
      {cases h}
     {cases h}
    {cases h}
   {cases h}
  {cases h}
 {cases h}
end
def zMQ (P:Program)(f:FuncId)(own:List Bool)(h:Option (Nat×Nat×List (List Nat)))(r:List (Nat×Nat))(n:List AV->Option (Bool×List AV)):Prop :=
 FnOk P f/\∀(w:World) (K:Nat->zbd) (a:List AV) (e:List Value) (d:List AV),
  e.length=(zA a).length->own.length=(zA a).length->
  (∀(j:Nat) (c:CV) (u:Value),(zA a)[j]?=some c->e[j]?=some u->Rep ((own[j]?).getD false) w u c (K j))->
  (∀j x,j<(zA a).length->K j x->x<w.heap.size)->
  (∀i j x,i<(zA a).length->j<(zA a).length->zbe own i->i≠j->(j,i)∉r->K i x->¬ K j x)->
  (∀j i,(j,i)∈r->own[j]?=some false/\zbe own i/\e[j]?=e[i]?/\(zA a)[j]?=(zA a)[i]?/\∃t l,(zA a)[i]?=some (.s t l))->
  n a=some (true,d)->
  Calls P f (zbW a e).toArray w fun
   |.returned v,w'=>w'.os=w.os/\w'.tape=w.tape/\w'.output=w.output/\w.heap.size<=w'.heap.size/\
    (∀b,b<w.heap.size->(∀j,j<(zA a).length->zbe own j->¬ K j b)->w'.heap[b]?=w.heap[b]?)/\
    ∃(q:List Value) (g:Nat->zbd),zdz true w' (zA d) q g/\v=zmf (zbW d q)/\
     (∀i x,i<(zA d).length->g i x->x<w'.heap.size/\((∃j,j<(zA a).length/\zbe own j/\K j x)\/w.heap.size<=x))/\
     (∀i j x,i<(zA d).length->j<(zA d).length->i≠j->g i x->¬ g j x)/\
     (∀k m y,h=some (k,m,y)->∀t l u,(zA a)[k]?=some (.s t l)->e[k]?=some u->∃z,(zA d)[m]?=some (.s t z)/\q[m]?=some u/\
      ∀p v,zba w t u p=some v->y.any (λc=>c.isPrefixOf (cols p))=false->zba w' t u p=some v)
   |_,_=>False
def zeK (P:Program)(f:FuncId)(own:List Bool)(b:Option (Nat×Nat×List (List Nat)))(a:List AV->Option (Bool×List AV)):Prop :=
 match own with
 |[]=>zJw P f a
 |x::l=>∀c∈zjQ f,zMQ P f (x::l) b c a
theorem zeK.of {P:Program}{f:FuncId}{own:List Bool}{a:Option (Nat×Nat×List (List Nat))}{b:List AV->Option (Bool×List AV)}(c:own≠[])(h:∀d∈zjQ f,zMQ P f own a d b):zeK P f own a b:=by cases own with|nil=>exact absurd rfl c|cons x l=>exact h
theorem zeK.get {P:Program}{f:FuncId}{own:List Bool}{a:Option (Nat×Nat×List (List Nat))}{b:List AV->Option (Bool×List AV)}(h:zeK P f own a b)(c:own.isEmpty=false):∀d∈zjQ f,zMQ P f own a d b:=by cases own with|nil=>cases c|cons x l=>exact h
structure TctOk (C:Cfg):Prop where
 ok:∀f own inp run,C.tct f=some (own,inp,run)->zeK C.P f own inp run
section
variable {C:Cfg} {w0 w w1:World} {S0:zbd} {U:Nat->Prop} {st st1:St} {E E1:Env} {ts:Array Value} {sv:List (Array Value)}
structure Tks (st:St) (own:List Bool) (ats:List At) (cs:List CV) (ks:List Nat):Prop where
 len:cs.length=ats.length
 olen:own.length=ats.length
 ownk:∀r∈ks,∃j,zbe own j/\ats[j]?=some (.sl r [])
 get:∀(j:Nat) (a:At),ats[j]?=some a->(zbe own j/\∃r R,a = .sl r []/\st.root r=some R/\R.own=true/\r∈ks/\cs[j]?=some (.s R.t R.l))\/(own[j]?=some false/\∃c,st.cvOf a=some c/\cs[j]?=some c)
 inj:∀(i j r:Nat),zbe own i->zbe own j->ats[i]?=some (.sl r [])->ats[j]?=some (.sl r [])->i=j
theorem z2p:∀(own:List Bool) (w:List At) (C:List CV) (ks:List Nat),st.tks own w=some (C,ks)->Tks st own w C ks
 |[],[],C,ks,h=>by cases h;exact⟨rfl,rfl,fun r h=>by simp at h,fun j a h=>by simp at h,fun i j r h=>by simp[zbe]at h⟩
 |[],_::_,_,_,h=>by simp[St.tks]at h
 |_::_,[],_,_,h=>by simp[St.tks]at h
 |o::ms,a::r,C,ks,h=>by
  simp only[St.tks]at h;split at h;{cases h}
  .rename_i cs0 ks0 h0;have k:=z2p ms r cs0 ks0 h0;have p:∀(v:List Nat) (c:CV),(∀x∈ks0,x∈v)->∀(j:Nat) (b:At),r[j]?=some b ->
    (zbe (o::ms) (j+1)/\∃q R,b = .sl q []/\st.root q=some R/\R.own=true/\q∈v/\(c::cs0)[j+1]?=some (.s R.t R.l))\/((o::ms)[j+1]?=some false/\∃d,st.cvOf b=some d/\(c::cs0)[j+1]?=some d):=by
    intro v c F j b m;rcases k.get j b m with⟨e,q,R,y,D,H,E,I⟩|⟨e,d,y,D⟩
    .exact .inl ⟨by simpa [zbe] using e,q,R,y,D,H,F q E,by simpa using I⟩
    .exact .inr ⟨by simpa using e,d,y,by simpa using D⟩
   split at h;{split at h;{rename_i q;split at h;{rename_i R J;split at h;{rename_i f;simp only[qE,jB,jF,decide_eq_false_iff_not]at f;obtain⟨A,G⟩:=f;cases h;have B:∀(i:Nat),zbe ms i->r[i]?=some (.sl q [])->False:=(by intro i u L;rcases k.get i _ L with⟨_,N,M,y,_,_,E,_⟩|⟨e,_⟩;{cases y;exact G E};{rw [u]at e;cases e});refine⟨by simp[k.len],by simp[k.olen],fun x n=>?_,fun j b m=>?_,fun i j x u z e g=>?_⟩;{rcases qH.1 n with rfl|n;{exact⟨0,rfl,rfl⟩};{obtain⟨j,e,g⟩:=k.ownk x n;exact⟨j+1,by simpa [zbe] using e,by simpa using g⟩}};{cases j with|zero=>simp only[qG,qC]at m;subst m;exact .inl ⟨rfl,q,R,rfl,J,A,jQ,by simp⟩|succ j=>exact p _ _ (fun x n=>jE _ n) j b (by simpa using m)};{cases i with|zero=>(cases j with|zero=>rfl|succ j=>simp only[qG,qC,At.sl.injEq,and_true]at e;subst e;exact(B j (by simpa [zbe] using z) (by simpa using g)).elim)|succ i=>(cases j with|zero=>simp only[qG,qC,At.sl.injEq,and_true]at g;subst g;exact(B i (by simpa [zbe] using u) (by simpa using e)).elim|succ j=>have:=k.inj i j x (by simpa [zbe] using u) (by simpa [zbe] using z) (by simpa using e) (by simpa using g);omega)}};{cases h}};{cases h}};{cases h}};{split at h;{rename_i c K;cases h;refine⟨by simp[k.len],by simp[k.olen],fun x n=>?_,fun j b m=>?_,fun i j x u z e g=>?_⟩;{obtain⟨j,e,g⟩:=k.ownk x n;exact⟨j+1,by simpa [zbe] using e,by simpa using g⟩};{cases j with|zero=>simp only[qG,qC]at m;subst m;exact .inr ⟨rfl,c,K,by simp⟩|succ j=>exact p _ _ (fun x n=>n) j b (by simpa using m)};{cases i with|zero=>simp[zbe]at u|succ i=>(cases j with|zero=>simp[zbe]at z|succ j=>have:=k.inj i j x (by simpa [zbe] using u) (by simpa [zbe] using z) (by simpa using e) (by simpa using g);omega)}};{cases h}}
theorem zTU {ks:List Nat}{f:List (Nat×Nat)}:∀(n:Nat) (own:List Bool) (c:List At),zxl st ks f n own c=true->∀(j:Nat) (a:At),c[j]?=some a->own[j]?=some false->(∀i,(n+j,i)∉f)->z0o st ks a=true
 |_,[],_,_,j,a,_,e,_=>by simp at e
 |_,_::_,[],_,j,a,d,_,_=>by simp at d
 |n,o::ms,b::r,h,j,a,d,e,g=>by
  simp only[zxl,qE,jW]at h;cases j with
  |zero=>simp only[qG,qC]at d e;subst d e;rcases h.1 with h|h|h;{cases h};{obtain⟨x,l,k⟩:=uB.1 h;have:x.1=n:=jT k;exact absurd (by rw[uK,<- this];exact l) (g x.2)};{exact h}
  |succ j=>exact zTU (n+1) ms r h.2 j a (by simpa using d) (by simpa using e) (λi=>by have:=g i;rwa [show n+1+j=n+(j+1) by omega])
theorem zvt {own:List Bool}{a:List At}{b:List (Nat×Nat)}(h:zMR own a b=true){j i:Nat}(k:(j,i)∈b):∃q,a[j]?=some (.sl q [])/\a[i]?=some (.sl q [])/\own[j]?=some false/\zbe own i:=by have:=qQ.1 h _ k;dsimp only at this;split at this;{rename_i q r c d f g;have e:q=r:=jT this;subst e;exact⟨q,c,d,f,g⟩};{cases this}
theorem zWm (G:Sim w0 S0 U st E ts sv w):∀(l:List Operand) (f:List TV),zS9 st l=some f->
 ∃i:List Value,i.length=(f.flatMap zU).length/\(∀(j:Nat) (a:At) (u:Value),(f.flatMap zU)[j]?=some a->i[j]?=some u->VA w st E a u)/\
  ∀d:List CV,d.length=i.length->l.map ({tmps:=ts,defers:=[]}:Act).eval=zbW (zhF f d) i/\zA (zhF f d)=d
 |[],f,h=>by
  cases h;exact⟨[],rfl,λj a u h=>by simp at h,λd g=>by
   have:d=[]:=List.eq_nil_of_length_eq_zero (by simpa using g)
   subst this;exact⟨rfl,rfl⟩⟩
 |x::r,f,h=>by simp only[zS9]at h;split at h;{rename_i y q N M;cases h;obtain⟨i,C,D,F⟩:=zWm G r q M;obtain⟨H,-⟩:=zb9 G N;rcases y with a|l;{refine⟨({tmps:=ts,defers:=[]}:Act).eval x::i,by simp[zU,C],λj b u k m=>?_,λd g=>?_⟩;{cases j with|zero=>simp[zU]at k m;subst k m;exact H|succ j=>exact D j b u (by simpa [zU] using k) (by simpa using m)};{cases d with|nil=>simp at g|cons c d=>obtain⟨s,t⟩:=F d (by simpa using g);refine⟨by simp[zhF,zbW,s],?_⟩;have e:zA (zhF (TV.at a::q) (c::d))=c::zA (zhF q d):=(by simp[zhF,zA,AV.cvs]);rw[e,t]}};{obtain⟨p,A,n,B⟩:=H;have v:p.toList.length=l.length:=(by simp[n]);refine⟨p.toList++i,by simp[zU,C,n],λj b u k m=>?_,λd g=>?_⟩;{simp only [kA,zU]at k;by_cases L:j<l.length;{rw [qU L]at k;rw[qU (by omega)]at m;exact(B j b u k (by simpa using m)).2};{rw [qP (by omega)]at k;rw[qP (by omega),v]at m;exact D _ b u k m}};{have K:d.length=l.length+i.length:=(by simpa [n] using g);obtain⟨s,t⟩:=F (d.drop l.length) (by simp;omega);have z:(d.take l.length).length=l.length:=(by simp;omega);refine⟨?_,?_⟩;{have I:List.take l.length (p.toList++i)=p.toList:=(by rw[<- v];exact kU rfl);have J:List.drop l.length (p.toList++i)=i:=(by rw[<- v];exact kY rfl);simp only[jK,zhF,zbW,A,z,I,J,s,jN]};{have e:zA (zhF (TV.agg l::q) d)=d.take l.length++zA (zhF q<|d.drop l.length):=(by simp[zhF,zA,AV.cvs]);rw[e,t,List.take_append_drop]}}}};{cases h}
theorem z1z {f:At->At}(T:∀a v,(∀n∈a.ids,U n)->VA w st E a v->VA w1 st1 E1 (f a) v){x:TV}{v:Value}(g:∀a∈zU x,∀n∈a.ids,U n)(h:VT w st E x v):VT w1 st1 E1 (zrV f x) v:=by rcases x with a|l;{exact T a v (g a (by simp[zU])) h};{obtain⟨p,k,m,e⟩:=h;refine⟨p,k,by simp[m],λj a u c i=>?_⟩;rw[qO]at c;cases d:l[j]? with|none=>rw[d]at c;cases c|some b=>rw[d]at c;cases c;exact⟨(e j b u d i).1,T _ _ (g b (by simp only[zU];exact qJ d)) (e j b u d i).2⟩}
theorem z8C {f:At->At}(T:∀a v,(∀n∈a.ids,U n)->VA w st E a v->VA w1 st1 E1 (f a) v){m:MV}{v:Value}(p:∀n∈m.ids,U n)(h:VM w st E m v):VM w1 st1 E1 (zls f m) v:=by have d:∀a∈zby m,∀n∈a.ids,U n:=λa c n q=>p n (by simp only[MV.ids,qN];exact⟨a,c,q⟩);cases m with|und=>exact h|v x=>exact z1z T d h|tup l=>obtain⟨s,g,i,k⟩:=h;refine⟨s,g,by simp[i],λj a u c r=>?_⟩;rw[qO]at c;(cases e:l[j]? with|none=>rw[e]at c;cases c|some b=>rw[e]at c;cases c;refine z1z T (λa c=>d a ?_) (k j b u e r);simp only[zby,qN];exact⟨b,qJ e,c⟩)
theorem zQL {f:At->At}(T:∀a v,(∀n∈a.ids,U n)->VA w st E a v->VA w1 st1 E1 (f a) v){tm:List MV}{ts:Array Value}(e:∀m∈tm,∀n∈m.ids,U n)(h:Slots w st E tm ts):Slots w1 st1 E1 (tm.map<|zls f) ts:=by refine⟨by simp[h.1],λi m v c g=>?_⟩;rw[qO]at c;cases d:tm[i]? with|none=>rw[d]at c;cases c|some b=>rw[d]at c;cases c;exact z8C T (e b<|qJ d) (h.2 i b v d g)
theorem zQM {f:At->At}(T:∀a v,(∀n∈a.ids,U n)->VA w st E a v->VA w1 st1 E1 (f a) v):∀{l:List (List MV)} {s:List (Array Value)},(∀g∈l,∀m∈g,∀n∈m.ids,U n)->Stack w st E l s->Stack w1 st1 E1 (l.map λg=>g.map (zls f)) s
 |[],[],_,_=>trivial
 |g::l,ts::s,b,h=>⟨zQL T (b g (by simp)) h.1,zQM T (λc hg=>b c (by simp[hg])) h.2⟩
 |[],_::_,_,h=>h.elim
 |_::_,[],_,h=>h.elim
theorem zQK {f:At->At}{x:TV}{a:At}(h:a∈zU (zrV f x)):∃b∈zU x,a=f b:=by rcases x with b|l;{simp only [zrV,zU,qF]at h ⊢;exact⟨b,rfl,h⟩};{simp only [zrV,zU,jD]at h ⊢;obtain⟨b,c,rfl⟩:=h;exact⟨b,c,rfl⟩}
theorem zQJ {f:At->At}{m:MV}{n:Nat}(h:n∈(zls f m).ids):∃a∈zby m,n∈(f a).ids:=by simp only[MV.ids,qN]at h;obtain⟨a,c,e⟩:=h;have:∃b∈zby m,a=f b:=(by cases m with|und=>simp[zls,zby]at c|v x=>exact zQK c|tup l=>simp only[zls,zby,qN,jD]at c ⊢;obtain⟨y,⟨x,g,rfl⟩,c⟩:=c;obtain⟨b,d,rfl⟩:=zQK c;exact⟨b,⟨x,g,d⟩,rfl⟩);obtain⟨b,d,rfl⟩:=this;exact⟨b,d,e⟩
theorem zQT {q n k:Nat}{g:List (List Nat)}{a:At}(h:k∈(znt q n g a).ids):k∈a.ids\/k=n:=by cases a with|sl r p=>simp only[znt]at h;cases d:Nat.beq r q<;>rw [d]at h;{exact .inl h};{cases e:g.any (λm=>m.isPrefixOf (cols p))<;>rw [e]at h;{simp only [cond_true,cond_false,At.ids,zbr,zbu,jC,qF]at h;exact .inr h};{simp [At.ids,zbr,zbu]at h}}|ep r p i o=>simp only[znt]at h;cases d:Nat.beq r q<;>rw [d]at h;{exact .inl h};{cases e:g.any (λm=>m.isPrefixOf (cols p))<;>rw [e]at h;{simp only [cond_true,cond_false,At.ids,zbr,zbu,jC,qF]at h;exact .inr h};{simp [At.ids,zbr,zbu]at h}}|kp r J t=>simp only[znt]at h;cases d:Nat.beq r q<;>rw [d]at h;{exact .inl h};{cases e:coarse g J<;>rw [e]at h;{simp [At.ids,zbr,zbu]at h};{simp only [cond_true,At.ids,zbr,zbu,jC,qF]at h;exact .inr h}}|bad=>exact .inl h|i k n=>exact .inl h|b x=>exact .inl h|lp l o=>exact .inl h|fn f c=>exact .inl h
theorem z7m {U1:Nat->Prop}(F:Sim w0 S0 U st E ts sv w)(A:Mem w0 S0 st1 E1 w1)(hT:Trans st E w st1 E1 w1 U)(a0:st1.tm=st.tm)(P:st1.stk=st.stk)(s:st1.lo=st.lo)(hU:∀n,U n->U1 n)(a6:∀n R,zx st1.ro n=some R->U1 n)(V:∀l C,zx st.lo l=some C->w1.heap[E.β l]?=w.heap[E.β l]?){q n:Nat}{js:List (List Nat)}(hn:U1 n)(hq:∀I,st1.root n=some I->∃R,st.root q=some R/\I.t=R.t/\E1.ρ n=E.ρ q/\∀p u,zba w R.t (E.ρ q) p=some u->js.any (λc=>c.isPrefixOf (cols p))=false->zba w1 R.t (E.ρ q) p=some u) :
 Sim w0 S0 U1 (st1.ren<|some (q,n,js)) E1 ts sv w1:=by
 have a7:∀r,(st1.ren<|some (q,n,js)).root r=st1.root r:=λr=>rfl;have y:∀l C,zx (st1.ren<|some (q,n,js)).lo l=some C->∃d,zx st.lo l=some d/\C=d.map (znt q n js):=by intro l C h;simp only[St.ren,s]at h;rw[zmx]at h;cases X:zx st.lo l with|none=>rw[X]at h;cases h|some d=>rw[X]at h;cases h;exact⟨d,rfl,rfl⟩
 have hI:Trans st1 E1 w1 (st1.ren<|some (q,n,js)) E1 w1 (λ_=>True):=
  ⟨λr _ I z=>⟨I,z,rfl,λ_ _ h=>h⟩,λl _ a3 z=>⟨by obtain⟨d,B,_⟩:=y l a3 z;exact⟨d,by rw[s];exact B⟩,rfl⟩,rfl⟩
 have T:∀a v,(∀k∈a.ids,U k)->VA w st E a v->VA w1 (st1.ren<|some (q,n,js)) E1 (znt q n js a) v:=by
  intro a v ha L;have same:VA w1 (st1.ren<|some (q,n,js)) E1 a v:=VA.tr hI (λ_ _=>trivial) (VA.tr hT ha L);cases a with
  |bad=>trivial
  |i k n=>exact L
  |b x=>exact L
  |lp l o=>exact same
  |fn f c=>exact same
  |sl r p=>
   simp only[znt];cases N:Nat.beq r q with
   |false=>exact same
   |true=>rw[kI]at N;subst N;cases G:js.any (λm=>m.isPrefixOf (cols p)) with|true=>trivial|false=>refine⟨L.1,λI D=>?_⟩;obtain⟨R,z,B,S,M⟩:=hq I D;rw[B,S];exact M p v (L.2 R z) G
  |ep r p i o=>
   simp only[znt];cases N:Nat.beq r q with
   |false=>exact same
   |true=>rw[kI]at N;subst N;cases G:js.any (λm=>m.isPrefixOf (cols p)) with|true=>trivial|false=>refine⟨L.1,λI D=>?_⟩;obtain⟨R,z,B,S,M⟩:=hq I D;obtain⟨b,o',len,a2,t',Q,Z,g3⟩:=L.2 R z;exact⟨b,o',len,a2,t',by rw[B,S];exact M p _ Q G,by rw[B];exact Z,g3⟩
  |kp r J t=>simp only[znt];cases N:Nat.beq r q with|false=>exact same|true=>rw[kI]at N;subst N;(cases G:coarse js J with|false=>trivial|true=>refine⟨L.1,λI D=>?_⟩;obtain⟨R,z,B,S,M⟩:=hq I D;obtain⟨Q,Z,g3⟩:=L.2 R z;refine⟨B.trans Q,S.trans Z,λp u hp hJ=>?_⟩;rw[hT.κ]at hp;have:=M p u (by rw[Q,Z];exact g3 p u hp hJ) (zyk G hJ);rwa [Q,Z] at this)
 have O:∀{m:MV} {k:Nat},(∀j∈m.ids,U j)->k∈(zls (znt q n js) m).ids->U1 k:=by intro m k Y K;obtain⟨a,ha,K⟩:=zQJ K;rcases zQT K with h|rfl;{exact hU k (Y k (by simp only[MV.ids,qN];exact⟨a,ha,h⟩))};{exact hn}
 refine⟨⟨A.os,A.tape,A.output,A.size,A.keep,A.rep,A.rlt,A.mine,A.frz,A.apart,λl C X=>?_,λl l' C d z B he=>?_,λl C r R X hR=>?_,A.epo,A.κ⟩,⟨a6,λk C K=>?_,λm Y k K=>?_,λg hg m Y k K=>?_⟩,?_,?_⟩
 .obtain⟨d,hl',rfl⟩:=y l C X;obtain⟨z,a1,e,B,S,M⟩:=F.mem.loc l d hl';obtain⟨Q,_⟩:=A.loc l d (by rw[s];exact hl')
  have a8:E1.β l=E.β l:=(hT.lo l (F.ids.lo l d hl').1 d (by rw[s];exact hl')).2
  refine⟨Q,a1,e,by rw[a8,V l d hl'];exact B,by simp[S],λj c u G hu=>?_⟩
  rw[qO]at G;cases H:d[j]? with
  |none=>rw[H]at G;cases G
  |some c' =>rw[H]at G;cases G;exact⟨(M j c' u H hu).1,T _ _ ((F.ids.lo l d hl').2 c' (qJ H)) (M j c' u H hu).2⟩
 .obtain⟨c1,z,_⟩:=y l C z;obtain⟨c2,B,_⟩:=y l' d B;exact A.linj l l' c1 c2 (by rw[s];exact z) (by rw[s];exact B) he
 .obtain⟨c1,z,_⟩:=y l C X;exact A.lro l c1 r R (by rw[s];exact z) hR
 .obtain⟨d,z,rfl⟩:=y k C K;refine⟨hU k (F.ids.lo k d z).1,λa ha j hj=>?_⟩;obtain⟨a',a4,rfl⟩:=jD.1 ha;rcases zQT hj with h|rfl
  .exact hU j ((F.ids.lo k d z).2 a' a4 j h)
  .exact hn
 .simp only [St.ren,a0]at Y;obtain⟨m0,W,rfl⟩:=jD.1 Y;exact O (F.ids.tm m0 W) K
 .simp only [St.ren,P]at hg;obtain⟨g0,a5,rfl⟩:=jD.1 hg;obtain⟨m0,W,rfl⟩:=jD.1 Y;exact O (F.ids.stk g0 a5 m0 W) K
 .have:=zQL T F.ids.tm F.tm;simpa only [St.ren,a0] using this
 .have:=zQM T F.ids.stk F.stk;simpa only [St.ren,P] using this
theorem z4c (hH:TctOk C)(w0 w:World)(S0:zbd)(U:Nat->Prop)(st:St)(E:Env)(ts:Array Value)(sv:List (Array Value))(o:Oper)(id:Nat)(c:Bool)(f1:St)(mv:MV)(hS:Sim w0 S0 U st E ts sv w)(e4:∀n,Mine id n->¬ U n)(h:zS8 C st o id=some (c,f1,mv))(hc:c=true):Goes C w0 S0 U st ts sv w o id (λ_=>f1.put o.dst mv)/\f1.nid=st.nid:=by
 subst hc;unfold zS8 at h;split at h
 .rename_i cl T;split at h
  .rename_i f hcb;split at h
   .rename_i own inp run htct;cases e7:own.isEmpty with
    |true=>rw[e7]at h;cases h
    |false=>
    rw[e7]at h;simp only[cond_false]at h;unfold z2o at h;split at h
    .rename_i tvs htvs;split at h
     .rename_i cs ks htks;split at h;rotate_left;{cases h}
      rename_i x Y;cases a4:(zjQ f).any (λal=>zMR own (tvs.flatMap zU) al&&zxl st ks al 0 own (tvs.flatMap zU)) with
      |false=>rw[a4]at h;cases h
      |true=>
       rw[a4]at h;simp only[cond_true]at h;obtain⟨al,hal,b5⟩:=uB.1 a4;rw[qE]at b5;obtain⟨b4,e3⟩:=b5;split at h
       .rename_i cc rs hrun;split at h
        .rename_i hlen;simp only[qC,jR]at h;obtain⟨rfl,rfl,rfl⟩:=h;refine⟨?_,by cases x<;>rfl⟩;have hrsl:(zA rs).length<=31:=hlen;obtain⟨⟨fn,bd,hf,hbd,e5⟩,hHT⟩:=(hH.ok f own inp run htct).get e7 al hal;have hB:=z2p own _ cs ks htks;have F:=hS.mem;obtain⟨xs,c5,d0,hxp⟩:=zWm hS cl.args.toList tvs htvs;obtain⟨hxm,c0⟩:=hxp cs (by rw[hB.len,c5]);let Ka:zbd:=λx=>x<w.heap.size/\∀r∈ks,¬ E.φ r x
         have hks:∀r∈ks,∃j R,j<cs.length/\zbe own j/\(tvs.flatMap zU)[j]?=some (.sl r [])/\st.root r=some R/\R.own=true:=(by intro r O;obtain⟨j,g,z⟩:=hB.ownk r O;rcases hB.get j _ z with⟨_,q,R,h,L,V,_,_⟩|⟨h,_⟩;{cases h;exact⟨j,R,by rw[hB.len];exact(qA.1 z).1,g,z,L,V⟩};{rw [g]at h;cases h});let K:Nat->zbd:=λj=>@ite _ (own[j]?=some true\/∃i,(j,i)∈al) (Classical.propDecidable _) (cφ E (tvs.flatMap zU) j) Ka
         have c6:∀j,zbe own j->K j=cφ E (tvs.flatMap zU) j:=λj hj=>if_pos (.inl hj);have d6:∀j i,(j,i)∈al->K j=cφ E (tvs.flatMap zU) j:=λj i hj=>if_pos (.inr ⟨i,hj⟩);have d5:∀j,¬ zbe own j->(∀i,(j,i)∉al)->K j=Ka:=λj hj hn=>if_neg (λh=>h.elim hj λ⟨i,hi⟩=>hn i hi);have D:∀j x,zbe own j->K j x->∃r∈ks,∃R,(tvs.flatMap zU)[j]?=some (.sl r [])/\st.root r=some R/\R.own=true/\E.φ r x:=(by intro j x hj B;rw[c6 j hj]at B;obtain⟨a,ha,B⟩:=zun B;rcases hB.get j a ha with⟨_,r,R,rfl,L,V,Z,_⟩|⟨h,_⟩;{exact⟨r,Z,R,ha,L,V,B⟩};{rw [hj]at h;cases h});have c7:cl.args.map ({tmps:=ts,defers:=[]}:Act).eval=(zbW (zhF tvs cs) xs).toArray:=(by rw[<- hxm,<- uA,jN]);intro next Q c4;have c8:fn.name≠ "runtime.NumGoroutine":=(by simpa using e5);have e0:(execOp ({tmps:=ts,defers:=[]}:Act).eval o).run C.P w = .ok (.enter f (zbW (zhF tvs cs) xs).toArray) w:=(by have hfe:({tmps:=ts,defers:=[]}:Act).eval (.func f) = .func (.func f) #[] #[]:=rfl;simp[execOp,T,resolve,hcb,Deferred.ofValue,invoke,callFunc,hf,hbd,c8,c7,hfe]);unfold Oper.wp;rw[e0,Oper.upon_enter];have f5:(zA<|zhF tvs cs).length=cs.length:=(by rw[c0]);refine(hHT w K (zhF tvs cs) xs rs (by rw[c0,hB.len,c5]) (by rw[c0,hB.len,hB.olen]) (λj c u b9 hu=>?_) (λj x hj B=>?_) (λi j x hi hj T e6 hna B a3=>?_) (λj i W=>?_) hrun).mono ?_
         .rw [c0]at b9;have hj:j<(tvs.flatMap zU).length:=(by rw[<- hB.len];exact(qA.1 b9).1);have ha:=qB hj;have a6:=d0 j _ u ha hu;rcases hB.get j _ ha with⟨g,r,R,z,L,V,Z,g4⟩|⟨g,d,L,V⟩;{rw [b9] at g4;cases g4;have e:(own[j]?).getD false=true:=(by rw[show own[j]?=some true from g];rfl);rw[z]at a6 ha;have:=a6.2 R L;simp only[zba,qC] at this;subst this;have O:=F.rep r R L;rw[V]at O;rw[e];refine O.weak (λx B=>?_);rw[c6 j g,ziP ha];exact B}
          .rw [b9] at V;cases V;have e:(own[j]?).getD false=false:=(by rw[g];rfl);by_cases hA:∃i,(j,i)∈al;{obtain⟨i,W⟩:=hA;obtain⟨q,q1,q2,_,q4⟩:=zvt b4 W;rw[ha] at q1;have q1:=Option.some.inj q1;rw[q1]at ha a6 L;rcases hB.get i _ q2 with⟨_,r,R,e9,Z,g4,g5,g6⟩|⟨hb,_⟩;rotate_left;{rw [show own[i]?=some true from q4]at hb;cases hb};cases e9;have d9:st.cvOf (.sl q [])=some (.s R.t R.l):=(by simp[St.cvOf,St.node,Z,zik]);rw[d9] at L;cases L;have:=a6.2 R Z;simp only[zba,qC] at this;subst this;rw[e,d6 j i W];exact((F.rep q R Z).weak (λx B=>by rw[ziP ha];exact B)).ro};have g9:∀i,(j,i)∉al:=λi hi=>hA ⟨i,hi⟩;rw[e,d5 j (λh=>by rw[show own[j]?=some true from h]at g;cases g) g9]
           exact zB5 hS (ks:=ks) (λr R x M he O B=>⟨F.rlt r R M x B,λq hq hqx=>by
            obtain⟨_,Q',_,_,_,hQ,hQo⟩:=hks q hq;exact F.apart q Q' r R hQ hQo M he (λe=>O (by rw[<- e];exact hq)) x hqx B⟩) (zTU 0 own _ e3 j _ ha g (λi=>by rw[kB];exact g9 i)) L a6
         {by_cases c3:zbe own j;{obtain⟨r,_,R,_,z,_,S⟩:=D j x c3 B;exact F.rlt r R z x S};{by_cases hA:∃i,(j,i)∈al;{obtain⟨i,W⟩:=hA;obtain⟨q,q1,q2,_,q4⟩:=zvt b4 W;rw[d6 j i W,ziP q1]at B;have f0:K i x:=(by rw[c6 i q4,ziP q2];exact B);obtain⟨r,_,R,_,z,_,S⟩:=D i x q4 f0;exact F.rlt r R z x S};{rw [d5 j c3 λi hi=>hA ⟨i,hi⟩]at B;exact B.1}}};{obtain⟨r,O,R,g,z,I,S⟩:=D i x T B;by_cases c3:zbe own j;{obtain⟨r',_,R',a8,a9,b8,b0⟩:=D j x c3 a3;have:=F.own_apart z I a9 b8 S b0;subst this;exact e6 (hB.inj i j r T c3 g a8)};{by_cases hA:∃i,(j,i)∈al;{obtain⟨i',W⟩:=hA;obtain⟨q,q1,q2,_,q4⟩:=zvt b4 W;rw[d6 j i' W,ziP q1]at a3;have f0:K i' x:=(by rw[c6 i' q4,ziP q2];exact a3);obtain⟨r',_,R',a8,a9,b8,b0⟩:=D i' x q4 f0;have:=F.own_apart z I a9 b8 S b0;subst this;have:=hB.inj i i' r T q4 g a8;subst this;exact hna W};{rw [d5 j c3 λi hi=>hA ⟨i,hi⟩]at a3;exact a3.2 r O S}}};{obtain⟨q,q1,q2,q3,q4⟩:=zvt b4 W;rcases hB.get i _ q2 with⟨_,r,R,e9,Z,g4,g5,g6⟩|⟨hb,_⟩;rotate_left;{rw [show own[i]?=some true from q4]at hb;cases hb};cases e9;have b9:cs[j]?=some (.s R.t R.l):=(by rcases hB.get j _ q1 with⟨T,_⟩|⟨_,d,L,V⟩;{rw [show own[j]?=some true from T] at q3;cases q3};{have d9:st.cvOf (.sl q [])=some (.s R.t R.l):=(by simp[St.cvOf,St.node,Z,zik]);rw[d9] at L;cases L;exact V});rw[c0];refine⟨q3,q4,?_,by rw[b9,g6],_,_,g6⟩;have f9:j<xs.length:=(by rw[c5];exact(qA.1 q1).1);have f7:i<xs.length:=(by rw[c5];exact(qA.1 q2).1);have e1:=(d0 j _ _ q1<|qB f9).2 R Z;have e2:=(d0 i _ _ q2<|qB f7).2 R Z;simp only[zba,qC] at e1 e2;rw[qB f9,qB f7,<- e1,<- e2]}
         .intro ex w' he;cases ex with
          |panicked chain=>exact he.elim
          |outgrown=>exact he.elim
          |returned v=>
           obtain⟨hos,htp,h6,h9,X,ys,Kr,d1,rfl,d2,f3,f8⟩:=he;rw[f5]at X d2;let E1:Env:={E with ρ:=λn=>if id<=n/\n<id+32 then (ys[n-id]?).getD undef else E.ρ n,φ:=λn=>if id<=n/\n<id+32 then (λx=>n-id<(zA rs).length/\Kr (n-id) x) else E.φ n}
           have a0:∀n,U n->E1.ρ n=E.ρ n/\E1.φ n=E.φ n:=(by intro n hn;have a1:¬ (id<=n/\n<id+32):=λh=>e4 n h hn;simp only[E1,if_neg a1,and_self]);have b1:∀n,id<=n->n<id+32->E1.ρ n=(ys[n-id]?).getD undef/\E1.φ n=λx=>n-id<(zA rs).length/\Kr (n-id) x:=(by intro n g z;simp only[E1,if_pos (show id<=n/\n<id+32 from ⟨g,z⟩),and_self]);generalize J:({st with ro:=zc2 zn3 rs id++(killed st ks++st.ro),ep:=st.ep+1}:St)=st1;have c9:st1.ro=zc2 zn3 rs id++(killed st ks++st.ro):=(by rw[<- J]);have H:st1.lo=st.lo:=(by rw[<- J]);have b7:st1.ep=st.ep+1:=(by rw[<- J]);have b3:∀l cs,zx st.lo l=some cs->E.β l<w.heap.size:=(by intro l cs h;obtain⟨_,vals,e,z,_⟩:=F.loc l cs h;exact(qS.1 z).1);have a7:∀r R,zx (zc2 zn3 rs id) r=some R->id<=r/\r<id+32/\r-id<(zA rs).length/\∃t l,(zA rs)[r-id]?=some (.s t l)/\R=⟨t,l,true,none⟩:=(by intro r R O;obtain⟨g,t,l',I,S⟩:=zfW zn3 rs id r R O;have g8:=(qA.1 I).1;exact⟨g,by omega,g8,t,l',I,S⟩);have e8:∀r R,zx st1.ro r=some R->zx (zc2 zn3 rs id) r=some R\/(R.ep=some st.ep/\∃Q,zx st.ro r=some Q)\/(zx st.ro r=some R/\r∉ks):=(by intro r R O;rw[c9,zbJ]at O;split at O;{rename_i Q hQ;cases O;exact .inl hQ};{rw [zbJ]at O;split at O;{rename_i Q hQ;cases O;exact .inr (.inl<|ztw ks r _ hQ)};{rename_i hn;exact .inr (.inr ⟨O,zrP ks r R hn O⟩)}});have A:∀r R,st1.root r=some R->zx (zc2 zn3 rs id) r=some R\/(st.root r=some R/\R.ep=none/\r∉ks/\U r):=(by intro r R O;obtain⟨g,z⟩:=zbw O;rw[b7]at z;rcases e8 r R g with h|⟨h,_⟩|⟨h,hk⟩;{exact .inl h};{rcases z with z|z;{rw [h]at z;cases z};{rw [h]at z;simp at z}};{rcases z with z|z;{exact .inr ⟨ziW h<|.inl z,z,hk,hS.ids.ro r R h⟩};{have:=F.epo r R _ h z;omega}});have f6:∀r R,st.root r=some R->R.ep=none->r∉ks->∀x,E.φ r x->w'.heap[x]?=w.heap[x]?:=(by intro r R M he hk x B;refine X x (F.rlt r R M x B) (λj hj T hkx=>?_);obtain⟨q,hq,Q',_,g,z,I⟩:=D j x T hkx;exact F.apart q Q' r R g z M he (λe=>hk (by rw[<- e];exact hq)) x I B);have a5:∀x,(x<w'.heap.size/\((∃i,i<cs.length/\zbe own i/\K i x)\/w.heap.size<=x))->(S0 x\/w0.heap.size<=x)/\∀r R,st.root r=some R->R.ep=none->r∉ks->¬ E.φ r x:=(by intro x ⟨g,I⟩;rcases I with⟨i,hi,T,hk⟩|I;{obtain⟨q,hq,Q',_,L,V,Z⟩:=D i x T hk;exact⟨(F.mine q Q' L V).2 x Z,λr R M he g0 B=>F.apart q Q' r R L V M he (λe=>g0 (by rw[<- e];exact hq)) x Z B⟩};{exact⟨.inr<|qX F.size I,λr R M he g0 B=>by have:=F.rlt r R M x B;omega⟩});have d8:∀r R,zx (zc2 zn3 rs id) r=some R->Rep true w' (E1.ρ r) (.s R.t R.l) (E1.φ r):=(by intro r R O;obtain⟨g,z,I,t,l',h5,rfl⟩:=a7 r R O;have hv:r-id<ys.length:=(by rw[d1.1];exact I);have hu:=qB hv;rw[(b1 r g z).1,(b1 r g z).2,hu];exact(d1.2 _ _ _ h5 hu).weak λx B=>⟨I,B⟩);have N:∀r R,zx (zc2 zn3 rs id) r=some R->∀x,E1.φ r x->x<w'.heap.size/\((∃i,i<cs.length/\zbe own i/\K i x)\/w.heap.size<=x):=(by intro r R O x B;obtain⟨g,z,I,_⟩:=a7 r R O;rw[(b1 r g z).2]at B;exact d2 _ x B.1 B.2);have b2:∀r R,zx (zc2 zn3 rs id) r=some R->R.own=true/\R.ep=none:=(by intro r R O;obtain⟨_,_,_,t,l',_,rfl⟩:=a7 r R O;exact⟨rfl,rfl⟩);have hT:Trans st E w st1 E1 w' U:=(by refine⟨λr hU R1 d7=>?_,λl' hU G g=>⟨⟨G,by rw[H]at g;exact g⟩,rfl⟩,rfl⟩;rcases A r R1 d7 with h|⟨g,z,I,S⟩;{obtain⟨L,V,_⟩:=a7 r R1 h;exact absurd hU (e4 r ⟨L,V⟩)};{refine⟨R1,g,rfl,λp u hp=>?_⟩;rw[(a0 r hU).1,zdw p (F.rep r R1 g)<|f6 r R1 g z I];exact hp});have d3:Mem w0 S0 st1 E1 w':=by refine⟨hos.trans F.os,htp.trans F.tape,h6.trans F.output,qX F.size h9,λb hb h0=>?_,λr R M=>?_,λr R M x B=>?_,λr R M T=>?_,λhz r R M T he hf=>?_,λr R r' R' M T f4 he e6 x B=>?_,λl' G a2=>?_,λl1 l2 c1 c2 g z=>?_,λl' G r R a2 M=>?_,λr R ee M he=>?_,F.κ⟩;{refine(X b (jI hb F.size) λj hj T hk=>?_).trans (F.keep b hb h0);obtain⟨q,hq,Q',_,L,V,Z⟩:=D j b T hk;rcases (F.mine q Q' L V).2 b Z with h|h;{exact h0 h};{omega}};{rcases A r R M with h|⟨g,z,I,S⟩;{have:=d8 r R h;rw[(b2 r R h).1];exact this};{rw [(a0 r S).1,(a0 r S).2];exact(F.rep r R g).frame (f6 r R g z I)}};{rcases A r R M with h|⟨g,z,I,S⟩;{exact(N r R h x B).1};{rw [(a0 r S).2]at B;exact jI (F.rlt r R g x B) h9}};{rcases A r R M with h|⟨g,z,I,S⟩;{exact⟨(b2 r R h).2,λx B=>(a5 x<|N r R h x B).1⟩};{rw [(a0 r S).2];exact F.mine r R g T}};{rcases A r R M with h|⟨g,z,I,S⟩;{exact λx B=>(a5 x<|N r R h x B).1};{rw [(a0 r S).2];exact F.frz hz r R g T he hf}};{rcases A r R M with h|⟨g,z,I,S⟩;{rcases A r' R' f4 with h'|⟨a8,a9,b8,b0⟩;{intro a3;obtain⟨L,V,Z,_⟩:=a7 r R h;obtain⟨g1',g2',g3',_⟩:=a7 r' R' h';rw[(b1 r L V).2]at B;rw[(b1 r' g1' g2').2]at a3;exact f3 _ _ x Z g3' (by omega) B.2 a3.2};{rw [(a0 r' b0).2];exact(a5 x<|N r R h x B).2 r' R' a8 a9 b8}};{rw [(a0 r S).2]at B;rcases A r' R' f4 with h'|⟨a8,a9,b8,b0⟩;{intro a3;exact(a5 x<|N r' R' h' x a3).2 r R g z I B};{rw [(a0 r' b0).2];exact F.apart r R r' R' g T a8 a9 e6 x B}}};{rw [H]at a2;obtain⟨L,f2,e1,V,Z,g4⟩:=F.loc l' G a2;refine⟨L,f2,e1,(X _ (b3 l' G a2) λj hj T hk=>?_).trans V,Z,λj b u hb hu=>⟨(g4 j b u hb hu).1,VA.tr hT (λn hn=>(hS.ids.lo l' G a2).2 b (qJ hb) n hn) (g4 j b u hb hu).2⟩⟩;obtain⟨q,hq,Q',_,g,z,I⟩:=D j _ T hk;exact F.lro l' G q Q' a2 g I};{rw [H]at g z;exact F.linj l1 l2 c1 c2 g z};{rw [H]at a2;rcases A r R M with h|⟨g,z,I,S⟩;{intro B;obtain⟨_,Z⟩:=N r R h _ B;rcases Z with⟨i,hi,T,hk⟩|Z;{obtain⟨q,hq,Q',_,q1,q2,q3⟩:=D i _ T hk;exact F.lro l' G q Q' a2 q1 q3};{have:=b3 l' G a2;have e:E1.β l'=E.β l':=rfl;omega}};{rw [(a0 r S).2];exact F.lro l' G r R a2 g}};{rw [b7];rcases e8 r R M with h|⟨h,_⟩|⟨h,_⟩;{rw [(b2 r R h).2]at he;cases he};{rw [h]at he;cases he;omega};{have:=F.epo r R ee h he;omega}}
           obtain⟨L,V⟩:=zh5 (w:=w') (st:=st1) (E:=E1) rs ys id d1.1 (λi c u hc hu=>by
            have b6:=d1.2 i c u hc hu;refine⟨?_,b6.one⟩;have g8:i<(zA rs).length:=(qA.1 hc).1;cases c with
            |i k n=>exact b6.int_inv
            |b x=>exact b6.bool_inv
            |s t l' =>
             obtain⟨⟨a,cap,hv,_⟩,_⟩:=b6.len;refine⟨⟨a,_,cap,hv⟩,λR M=>?_⟩;have e:id+i-id=i:=by omega
             have:=(b1 (id+i) (by omega) (by omega)).1
             rw[e,hu] at this;simp only[zba,this,j3])
           have d4:∀n R,zx st1.ro n=some R->U n\/Mine id n:=λn R h=>(by rcases e8 n R h with h|⟨_,Q,h⟩|⟨h,_⟩;{obtain⟨g,z,_⟩:=a7 n R h;exact .inr ⟨g,z⟩};{exact .inl (hS.ids.ro n Q h)};{exact .inl (hS.ids.ro n R h)});have hvi:∀n∈(zjz<|zc0 rs id).ids,U n\/Mine id n:=λn hn=>by simp only[MV.ids,qN]at hn;obtain⟨a,ha,hn⟩:=hn;obtain⟨x,B,ha⟩:=zrf ha;have:=zfX rs id n x a B ha hn;exact .inr ⟨by omega,by omega⟩
           cases x with
           |none=>
            have hnx:=Sim.next (U1:=λn=>U n\/Mine id n) hS d3 hT (by rw[<- J]) (by rw[<- J]) (λn h=>.inl h) d4
             (λn G hn=>by
              rw[H]at hn;exact⟨.inl (hS.ids.lo n G hn).1,λa ha m hm=>.inl ((hS.ids.lo n G hn).2 a ha m hm)⟩)
             (dst:=o.dst) (zrg L V) hvi
            subst J;exact c4 _ _ _ hnx
           |some y=>
            obtain⟨q,n,js⟩:=y;unfold z5Y at Y;split at Y;{cases Y}
            .rename_i ja jr js';split at Y
             .rename_i q' hoj haj;simp only[qC,jR]at Y;obtain⟨rfl,rfl,rfl⟩:=Y;rcases hB.get ja _ haj with⟨_,r,R,z,M,hRo,hrk,hcs⟩|⟨g,_⟩;rotate_left;{rw [hoj]at g;cases g};cases z;have hja:ja<xs.length:=(by rw[c5];exact(qA.1 haj).1);have hu:=qB hja;obtain⟨l',g7,hl2,hl3⟩:=f8 ja jr js' rfl R.t R.l _ (by rw[c0];exact hcs) hu
              have hjr:jr<(zA rs).length:=(qA.1 g7).1;have a6:=(d0 ja _ _ haj hu).2 R M;simp only[zba,qC]at a6;have h8:=z7m (U1:=λn=>U n\/Mine id n) (q:=q') (n:=id+jr) (js:=js') hS d3 hT (by rw[<- J]) (by rw[<- J]) H (λn h=>.inl h) d4
               (λl G hl=>X _ (b3 l G hl) (λj hj T hk=>by
                obtain⟨q2,hq2,Q',_,g,z,I⟩:=D j _ T hk;exact F.lro l G q2 Q' hl g I)) (.inr ⟨by omega,by omega⟩) (λR1 d7=>by
                rcases A _ R1 d7 with h|⟨_,_,_,S⟩
                .obtain⟨_,_,_,t2,l2,h5,rfl⟩:=a7 _ R1 h;have e:id+jr-id=jr:=by omega
                 rw[e,g7]at h5;cases h5;refine⟨R,M,rfl,?_,?_⟩
                 .rw [(b1 (id+jr) (by omega) (by omega)).1,e,hl2,a6]
                  rfl
                 .rw [a6];exact hl3
                .exact absurd S (e4 _ ⟨by omega,by omega⟩))
              have hI:Trans st1 E1 w' (st1.ren<|some (q',id+jr,js')) E1 w' (λ_=>True):=
               ⟨λr _ R1 g=>⟨R1,g,rfl,λ_ _ h=>h⟩,λl _ G g=>⟨by
                simp only[St.ren]at g;rw[zmx]at g;cases hl:zx st1.lo l with
                |none=>rw[hl]at g;cases g
                |some c=>exact⟨c,rfl⟩,rfl⟩,rfl⟩
              have h7:=h8.putV (dst:=o.dst) (VM.tr hI (λ_ _=>trivial)<|zrg L V) hvi;subst J;exact c4 _ _ _ h7
             {cases Y}
        {cases h}
       {cases h}
     {cases h}
    {cases h}
   {cases h}
  {cases h}
 {cases h}
theorem z3k (a:CfgOk C)(b:MctOk C)(c:PctOk C)(d:TctOk C):GraftOk C:=⟨z1j a,z3x b,z3G c,z4c d⟩
end
section
variable {C:Cfg} {st st':St}
structure Agree (st st':St) (L:List Operand):Prop where
 ep:st'.ep=st.ep
 op:∀x∈L,st'.opnd x=st.opnd x
 id:∀x∈L,∀m,st.opnd x=some m->∀a∈zby m,(∀n∈zbr a,zx st'.ro n=zx st.ro n)/\∀n∈zbu a,zx st'.lo n=zx st.lo n
variable {L:List Operand}
theorem Agree.at (h:Agree st st' L){x:Operand}(a:x∈L):st'.at x=st.at x:=by unfold St.at;rw[h.op x a]
theorem Agree.rootN (h:Agree st st' L){n:Nat}(a:zx st'.ro n=zx st.ro n):st'.root n=st.root n:=by unfold St.root;rw[a,h.ep]
def Held (st:St)(L:List Operand)(a:At):Prop:=∃x∈L,∃m,st.opnd x=some m/\a∈zby m
theorem Agree.held (h:Agree st st' L){a:At}(b:Held st L a):(∀n∈zbr a,zx st'.ro n=zx st.ro n)/\∀n∈zbu a,zx st'.lo n=zx st.lo n:=by obtain⟨x,d,m,c,b⟩:=b;exact h.id x d m c a b
theorem zep {x:Operand}{a:At}(b:x∈L)(h:st.at x=some a):Held st L a:=⟨x,b,_,zMS h,by simp[zby,zU]⟩
theorem Agree.root (h:Agree st st' L){r:Nat}{p:List (Int×Nat)}(a:Held st L (.sl r p)):st'.root r=st.root r :=
 h.rootN ((h.held a).1 r (by simp[zbr]))
theorem Agree.node (h:Agree st st' L){r:Nat}{p:List (Int×Nat)}(a:Held st L (.sl r p))(q:List (Int×Nat)):st'.node r q=st.node r q:=by unfold St.node;rw[h.root a]
theorem Agree.rootE (h:Agree st st' L){r:Nat}{p:List (Int×Nat)}{i:Int}{o:Nat}(a:Held st L (.ep r p i o)):st'.root r=st.root r :=
 h.rootN ((h.held a).1 r (by simp[zbr]))
theorem Agree.nodeE (h:Agree st st' L){r:Nat}{p:List (Int×Nat)}{i:Int}{o:Nat}(a:Held st L (.ep r p i o))(q:List (Int×Nat)):st'.node r q=st.node r q:=by unfold St.node;rw[h.rootE a]
theorem Agree.loc (h:Agree st st' L){l o:Nat}(a:Held st L (.lp l o)):zx st'.lo l=zx st.lo l :=
 (h.held a).2 l (by simp[zbu])
theorem Agree.cvOf (h:Agree st st' L){a:At}(b:Held st L a):st'.cvOf a=st.cvOf a:=by cases a with|sl r p=>exact h.node b p|_=>rfl
theorem zmN {c e:Type}{f g:c->Option e}:∀{l:List c},(∀a∈l,f a=g a)->zcq f l=zcq g l
 |[],_=>rfl
 |a::l,h=>by simp only[zcq];rw[h a (by simp),zmN (l:=l) λb d=>h b (by simp[d])]
theorem Agree.avOf (h:Agree st st' L){x:Operand}(c:x∈L){m:MV}(b:st.opnd x=some m):st'.avOf m=st.avOf m:=by
 cases m with
 |und=>rfl
 |tup l=>rfl
 |v y=>rcases y with a|l;{simp only [St.avOf];rw[h.cvOf ⟨x,c,_,b,by simp[zby,zU]⟩]};{simp only [St.avOf];rw[zmN (f:=st'.cvOf) (g:=st.cvOf) λa d=>h.cvOf ⟨x,c,_,b,by simpa [zby,zU] using d⟩]}
theorem Agree.give (h:Agree st st' L)(c:Option (Nat×List (Int×Nat)×Int)):∀(d:List At) (j:Nat),(∀a∈d,Held st L a)->st'.give c d j=st.give c d j
 |[],j,_=>rfl
 |a::d,j,g=>by have e:=Agree.give h c d (j+1) (λb i=>g b (by simp[i]));have f:=g a (by simp);cases a with|sl r q=>(cases q with|nil=>simp only[St.give,e,h.root f]|cons k q=>simp only[St.give,e,h.node f])|_=>simp only[St.give,e]
theorem Agree.giveV (h:Agree st st' L){x:Operand}(e:x∈L){y:TV}(d:st.opnd x=some (.v y))(b:Option (Nat×List (Int×Nat)×Int))(j:Nat):st'.give b (zU y) j=st.give b (zU y) j :=
 h.give b (zU y) j (λa c=>⟨x,e,_,d,by simpa [zby] using c⟩)
theorem Agree.layParts (h:Agree st st' L){T:TypeId}:∀(a:List (Nat×Operand)) (b:List At),(∀x∈a,x.2∈L)->layParts C T st' a b=layParts C T st a b
 |[],_,_=>rfl
 |(f,x)::r,b,c=>by simp only[E.layParts];rw[h.op x<|c (f,x) (by simp)];split;{split;{exact Agree.layParts h r _ (λy d=>c y (by simp[d]))};{rfl}};{rfl}
theorem Agree.rowParts (h:Agree st st' L){t:Ty}:∀(a:List (Nat×Operand)) (l:List t.den) (b:List Nat),(∀x∈a,x.2∈L)->rowParts st' t a l b=rowParts st t a l b
 |[],_,_,_=>rfl
 |(i,x)::r,l,b,c=>by have d:=c (i,x) (by simp);simp only[E.rowParts];rw[h.op x d];cases e:st.opnd x with|none=>rfl|some m=>(cases m with|und=>rfl|tup _=>rfl|v y=>simp only;rw[h.giveV d e];split;{split;{split;{exact Agree.rowParts h r _ _ (λy f=>c y (by simp[f]))};{rfl}};{rfl}};{rfl})
end
section
variable {C:Cfg} {st st':St}
theorem z7R {o:Oper}{id:Nat}{T:TypeId}{x:Operand}(b:o.op = .load T x){L:List Operand}(c:x∈L)(h:Agree st st' L):delta C st' o id=delta C st o id:=by have f:=h.at c;simp only[delta,b,f];cases j:C.cty T with|none=>rfl|some g=>(cases e:st.at x with|none=>rfl|some a=>(cases a with|lp l d=>simp only[h.loc<|zep c e]|ep r p i d=>simp only[h.nodeE<|zep c e]|_=>rfl))
theorem z6m {o:Oper}{id:Nat}{T:TypeId}{a x:Operand}(n:o.op = .store T a x){L:List Operand}(u:x∈L)(g:a∈L)(h:Agree st st' L):delta C st' o id=delta C st o id:=by
 have z:=h.at g;have D:=h.op x u;simp only[delta,n,z,D];cases E:C.cty T with
 |none=>rfl
 |some A=>
  cases B:st.opnd x with
  |none=>
   obtain⟨w,c⟩:=A;have q:c=[]\/(∃k,c=[.i k])\/c=[.b]\/(∃t,c=[.s t])\/∃d f r,c=d::f::r:=by
    match c with
    |[]=>exact .inl rfl
    |[.i k]=>exact .inr (.inl ⟨k,rfl⟩)
    |[.b]=>exact .inr (.inr (.inl rfl))
    |[.s t]=>exact .inr (.inr<|.inr<|.inl ⟨t,rfl⟩)
    |d::f::r=>exact .inr (.inr<|.inr<|.inr ⟨d,f,r,rfl⟩)
   cases e:st.at a with
   |none=>rcases q with rfl|⟨k,rfl⟩|rfl|⟨t,rfl⟩|⟨d,f,r,rfl⟩<;>first|rfl|(cases d<;>rfl)
   |some y=>
    cases y with
    |lp l j=>rcases q with rfl|⟨k,rfl⟩|rfl|⟨t,rfl⟩|⟨d,f,r,rfl⟩;{rfl};{rfl};{rfl};{simp only [h.loc<|zep g e]};{cases d<;>rfl}
    |_=>rcases q with rfl|⟨k,rfl⟩|rfl|⟨t,rfl⟩|⟨d,f,r,rfl⟩<;>first|rfl|(cases d<;>rfl)
  |some m=>cases m with|v y=>(cases e:st.at a with|none=>rfl|some b=>(cases b with|lp l j=>simp only[h.loc<|zep g e]|ep r p i j=>simp only[h.rootE<|zep g e,h.nodeE<|zep g e,h.giveV u B]|_=>rfl))|_=>rfl
theorem zoa (a:st'.ep=st.ep):∀(b:List Nat),(∀k∈b,zx st'.ro k=zx st.ro k)->moved st' b=moved st b
 |[],_=>rfl
 |k::b,c=>by simp only[moved];rw[c k (by simp),a,zoa a b λq d=>c q (by simp[d])]
theorem z6l {o:Oper}{id:Nat}{T:TypeId}{x:Operand}{lo i:Option Operand}(j:o.op = .slice T x lo i none){L:List Operand}(g:x∈L)(f:∀y,lo=some y->y∈L)(c:∀y,i=some y->y∈L)(h:Agree st st' L):delta C st' o id=delta C st o id:=by
 have m:=h.at g;have ep:=h.ep;have sub:∀R t l,zf3 st' R t l=zf3 st R t l:=λR t l=>by simp only[zf3,ep]
 simp only[delta,j,m];cases e:st.at x with
 |none=>rfl
 |some a=>
  cases a with
  |sl r p=>
   simp only[h.root<|zep g e,h.node<|zep g e,sub];cases lo with
   |none=>
    cases i with
    |none=>rfl
    |some y=>
     have b:∀R t l n,zGV C st' id r p R t l n=zGV C st id r p R t l n:=λR t l n=>by
      unfold zGV;rw[zoa h.ep [r] (λk d=>by
       simp only[qF]at d;subst d;exact(h.held<|zep g e).1 k (by simp[zbr]))]
      simp only[sub]
     simp only[h.at (c y rfl),b]
   |some z=>
    cases i with
    |none=>
     have b:∀R t l n,zMY st' id r p R t l n=zMY st id r p R t l n:=λR t l n=>by
      unfold zMY;rw[zoa h.ep [r] (λk d=>by
       simp only[qF]at d;subst d;exact(h.held<|zep g e).1 k (by simp[zbr]))]
      simp only[sub]
     simp only[h.at (f z rfl),b]
    |some y=>simp only[h.at (f z rfl),h.at (c y rfl)]
  |_=>rfl
theorem z3o {a:Type}{b:Bool}{x y:a}(h:(if b=true then some x else none)=some y):x=y:=by cases b with|true=>simpa using h|false=>simp at h
theorem zX5 {m:Option (Nat×List (Int×Nat)×Int)}:∀(f:List At) (j:Nat) (c:Bool) (g:List CV) (e:List Nat),st.give m f j=some (c,g,e)->∀k∈e,At.sl k []∈f
 |[],j,c,g,e,h,k,b=>by simp only[St.give,qC,jR]at h;obtain⟨_,_,rfl⟩:=h;simp at b
 |a::f,j,c,g,e,h,k,b=>by simp only[St.give]at h;split at h;{cases h};{rename_i n i l hg;have d:=zX5 f (j+1) n i l hg;split at h;{cases h;exact jE _ (d k b)};{cases h;exact jE _ (d k b)};{split at h;{have p:=z3o h;cases p;rcases qH.1 b with rfl|b;{simp};{exact jE _ (d k b)}};{cases h}};{split at h;{split at h;{split at h;{cases h;exact jE _ (d k b)};{cases h}};{cases h}};{cases h}};{cases h}}
theorem zGd {t:Ty}:∀(b:List (Nat×Operand)) (l:List t.den) (d:List Nat) (e:List t.den) (a:List Nat),rowParts st t b l d=some (e,a)->∀k∈a,k∈d\/∃x∈b,∃y,st.opnd x.2=some (.v y)/\At.sl k []∈zU y
 |[],l,d,e,a,h,k,f=>by simp only[rowParts,qC,jR]at h;obtain⟨_,rfl⟩:=h;exact .inl f
 |(i,x)::r,l,d,e,a,h,k,f=>by simp only[rowParts]at h;split at h;{rename_i y g;split at h;{rename_i m n hg;split at h;{split at h;{rcases zGd r _ _ e a h k f with c|⟨z,j,c⟩;{rcases jS.1 c with c|c;{exact .inr ⟨(i,x),by simp,y,g,zX5 _ _ _ _ _ hg k c⟩};{exact .inl c}};{exact .inr ⟨z,by simp[j],c⟩}};{cases h}};{cases h}};{cases h}};{cases h}
theorem zTv {o:Oper}{id:Nat}{T:TypeId}{n:Nat}{a:Array (Nat×Operand)}(c:o.op = .buildSlice T n a){L:List Operand}(d:∀x∈a.toList,x.2∈L)(h:Agree st st' L):delta C st' o id=delta C st o id:=by
 simp only[delta,c];cases p:C.sty T with
 |none=>rfl
 |some t=>
  simp only[h.rowParts a.toList _ _ d];cases e:rowParts st t a.toList (List.replicate n t.dflt) [] with
  |none=>rfl
  |some m=>
   obtain⟨l,j⟩:=m;simp only;rw[zoa h.ep j (λk f=>by
    rcases zGd _ _ _ _ _ e k f with b|⟨x,i,y,g,b⟩
    .simp at b
    .exact(h.held ⟨x.2,d x i,_,g,by simpa [zby] using b⟩).1 k (by simp[zbr]))]
theorem c_call {o:Oper}{id:Nat}{c:Call}(D:o.op = .call c){L:List Operand}(g:∀x∈c.args.toList,x∈L)(h:Agree st st' L):delta C st' o id=delta C st o id:=by
 simp only[delta,D];cases G:c.callee with
 |invoke r n=>rfl
 |value f=>
  cases f with
  |func f=>
   simp only;have e:zcq (λx=>match st'.opnd x with|some v=>st'.avOf v|none=>none) c.args.toList=zcq (λx=>match st.opnd x with|some v=>st.avOf v|none=>none) c.args.toList:=by
    refine zmN ?_;intro x i;simp only[h.op x<|g x i];cases e:st.opnd x with
    |none=>rfl
    |some m=>exact h.avOf (g x i) e
   cases C.ctr f with
   |some j=>
    exact congrArg (λA=>(match A with
     |some q=>(match j q with
      |some (c,s)=>if (s.flatMap AV.cvs).length<=31 then some ({c,v:=zjz (zc0 s id),ro:=zc2 (zcN f) s id}:Dl) else none
      |none=>none)
     |none=>none)) e
   |none=>
    cases d:c.args.toList with
    |nil=>cases C.tct f with|none=>rfl|some x=>obtain⟨own,E,j⟩:=x;cases own<;>rfl
    |cons F K=>
     rw[d] at e g;cases C.tct f with
     |none=>rfl
     |some x=>
      obtain⟨own,E,j⟩:=x;cases own with
      |cons y l=>rfl
      |nil=>
       dsimp only;rw[h.op F<|g F (by simp)]
       exact congrArg (λA=>(match st.opnd F,A with
        |some (.v I),some q=>(match j q with
         |some (c,s)=>if (s.flatMap AV.cvs).all CV.flat&&decide ((s.flatMap AV.cvs).length<=31) then some ({c,v:=zjz (I::zc0 s id)}:Dl) else none
         |none=>none)
        |_,_=>none)) e
  |_=>rfl
 |builtin b=>
  cases b with
  |len=>simp only;split;{rename_i x T d B;have i:=g x (by rw[d];simp);rw[h.at i];cases e:st.at x with|none=>rfl|some a=>(cases a with|sl r p=>simp only[h.node<|zep i e]|_=>rfl)};{rfl}
  |min=>simp only;split;{rename_i x y d;rw[h.at<|g x (by rw[d];simp),h.at<|g y (by rw[d];simp)]};{rfl}
  |max=>simp only;split;{rename_i x y d;rw[h.at<|g x (by rw[d];simp),h.at<|g y (by rw[d];simp)]};{rfl}
  |append=>
   simp only;split
   .rename_i x y T T2 d B;have i:=g x (by rw[d];simp);have w:=g y (by rw[d];simp);rw[h.at i,h.at w];split
    .cases hT:C.sty T with
     |none=>rfl
     |some t=>
      cases e:st.at x with
      |none=>rfl
      |some a=>
       cases a with
       |sl r p=>
        cases p with
        |nil=>
         cases z:st.at y with
         |none=>rfl
         |some b=>
          cases b with
          |sl H J=>
           simp only[h.root<|zep i e,h.root<|zep w z,h.node<|zep w z];rw[zoa h.ep (if t.flat=true then [r] else [r,H]) (λk u=>by
            split at u
            .simp only [qF]at u;subst u;exact(h.held<|zep i e).1 k (by simp[zbr])
            .simp only [qH,qY,or_false]at u;rcases u with rfl|rfl
             .exact(h.held<|zep i e).1 k (by simp[zbr])
             .exact(h.held<|zep w z).1 k (by simp[zbr]))]
          |_=>rfl
        |cons _ _=>rfl
       |_=>rfl
    {rfl}
   {rfl}
  |_=>rfl
theorem zWF {o:Oper}{id:Nat}(h:Agree st st' o.op.operands.toList):delta C st' o id=delta C st o id:=by
 cases d:o.op<;>rw [d]at h<;>simp only [Op.operands]at h
 case move x=>
  simp only[delta,d];split
  .rfl
  .rfl
  .rw [h.op x (by simp)]
 case assign x=>
  simp only[delta,d];split
  .rfl
  .rfl
  .rw [h.op x (by simp)]
 (case pick c a b=>simp only[delta,d,h.op a (by simp),h.op b (by simp),h.at (x:=c) (by simp)]);(case alloc T=>simp only[delta,d]);case box T x=>simp only[delta,d,h.op x (by simp)]
 case build T parts=>
  simp only[delta,d];have e:∀t,layParts C T st' parts.toList t=layParts C T st parts.toList t:=λt=>h.layParts parts.toList t (λx q=>by simp;exact⟨x.1,by simpa using q⟩)
  simp only[e]
 (case load T x=>exact z7R d (by simp) h);(case store T a x=>exact z6m d (by simp) (by simp) h);(case nilCheck x=>simp only[delta,d,h.at (x:=x) (by simp)]);(case binOp op T x y T2=>simp only[delta,d,h.op x (by simp),h.op y (by simp)]);(case unOp op T x=>simp only[delta,d,h.at (x:=x) (by simp)]);case convert a b x=>simp only[delta,d,h.at (x:=x) (by simp)]
 case makeFunc fn first caps=>
  cases fn with
  |func f=>
   simp only[delta,d];rw[zmN (g:=λx=>match st.at x with|some (.lp l 0)=>some l|_=>none) (l:=caps.toList)];{rfl};intro x q;simp only[h.at (x:=x) (by simp;exact .inr (by simpa using q))];rfl
  |_=>simp only[delta,d]
 case makeSlice T x y=>simp only[delta,d,h.at (x:=x) (by simp),h.at (x:=y) (by simp)]
 case slice T x lo hi mx=>
  cases mx with
  |none=>exact z6l d (by simp) (λy u=>by simp[u]) (λy u=>by simp[u]) h
  |some m=>simp only[delta,d]
 (case fieldAddr T x f=>simp only[delta,d,h.at (x:=x) (by simp)]);case field T x f=>simp only[delta,d,h.op x (by simp)]
 case index T x y=>
  cases x with
  |const v=>cases v with|string s=>simp only[delta,d,h.at (x:=y) (by simp)]|_=>simp only[delta,d]
  |_=>simp only[delta,d]
 case indexAddr T x y=>
  have q:x ∈ #[x,y].toList:=by simp
  simp only[delta,d,h.at q,h.at (x:=y) (by simp)]
  cases e:st.at x with
  |none=>rfl
  |some a=>
   cases a with
   |sl r p=>
    have w:=h.node (zep q e) p;cases z:st.at y with
    |none=>rfl
    |some b=>
     cases b with
     |i k n=>cases k<;>first|rfl|(simp only [w])
     |_=>rfl
   |_=>rfl
 (case extract x j=>simp only[delta,d,h.op x (by simp)]);(case call c=>exact c_call d (λx q=>by simp only[Call.operands,Array.toList_append,jS];exact .inr q) h);(case buildSlice T n parts=>exact zTv d (λx q=>by simp;exact⟨x.1,by simpa using q⟩) h);all_goals simp only [delta,d]
end
section
variable {C:Cfg} {w0 w w1:World} {S0:zbd} {U:Nat->Prop} {st st1:St} {E E1:Env} {ts:Array Value} {sv:List (Array Value)}
def zdf (ops:Array Oper)(o:Oper)(st:St):Option Bool :=
 match o.guard with
 |none=>some true
 |some (j,a)=>match guardOf st ops j with
  |some .und=>some false
  |some (.v<|.at<|.b x)=>some (x==a)
  |_=>none
theorem zWJ {a:Array Oper}{o:Oper}{d skip:St->Option Ans}{c:Ans}(h:guarded a o st d skip=some c) :
 (zdf a o st=some true/\d st=some c)\/(zdf a o st=some false/\skip (st.put o.dst .und)=some c):=by
 unfold guarded at h;split at h
 .rename_i hg;exact .inl ⟨by simp[zdf,hg],h⟩
 .rename_i j want hg;split at h
  .rename_i hm;exact .inr ⟨by simp[zdf,hg,hm],h⟩
  .rename_i x hm;have i:∃t,zkg a j=some t/\st.tm[t]?=some (.v<|.at<|.b x):=by unfold guardOf at hm;split at hm;{rename_i l e;split at hm;{rename_i t k;exact⟨t,by simp[zkg,e,k],hm⟩};{cases hm}};{cases hm}
   obtain⟨t,g,f⟩:=i;rw[g]at h;cases x<;>cases want<;>simp only [cond_true,cond_false]at h<;>rw [zIp f]at h
   .exact .inl ⟨by simp[zdf,hg,hm],h⟩
   .exact .inr ⟨by simp[zdf,hg,hm],h⟩
   .exact .inr ⟨by simp[zdf,hg,hm],h⟩
   .exact .inl ⟨by simp[zdf,hg,hm],h⟩
  .cases h
theorem zCe (p:Sim w0 S0 U st E ts sv w){a:Array Oper}{o:Oper}{b:Bool}(h:zdf a o st=some b):Region.wanted o (yielded a ts)=b:=by unfold zdf at h;split at h;{rename_i hg;cases h;simp[Region.wanted,hg]};{rename_i j q hg;have f:∀{m:MV},guardOf st a j=some m->∃e t v,a[j]?=some e/\e.dst=some t/\ts[t]?=some v/\VM w st E m v:=(by intro m c;unfold guardOf at c;split at c;{rename_i e l;split at c;{rename_i t r;have g:t<ts.size:=(by rw[p.tm.1];exact(qA.1 c).1);exact⟨e,t,ts[t],l,r,by simp[g],p.tm.2 t m _ c (by simp[g])⟩};{cases c}};{cases c});split at h;{rename_i c;cases h;obtain⟨e,t,v,i,k,n,d⟩:=f c;simp only[VM]at d;subst d;have:yielded a ts j=none:=(by simp[yielded,i,k,n,undef]);simp[Region.wanted,hg,this]};{rename_i x c;cases h;obtain⟨e,t,v,i,k,n,d⟩:=f c;simp only[VM,VT,VA]at d;subst d;have s:yielded a ts j=some x:=(by simp[yielded,i,k,n]);simp[Region.wanted,hg,s]};{cases h}}
abbrev Step:=Option Dl
def St.step (st:St)(b:Bool)(o:Oper):Step->St
 |some d=>st.effD b o.dst d
 |none=>st.put o.dst .und
inductive Trace (C:Cfg) (ops:Array Oper) (b:Bool) (base:Nat):Nat->List Step->List (Nat×Foot)->St->St->Prop
 |nil (i:Nat) (st:St):Trace C ops b base i [] [] st st
 |run {i:Nat} {o:Oper} {d:Dl} {ss:List Step} {fs:List (Nat×Foot)} {st st':St} (ho:ops[i]?=some o) (hg:zdf ops o st=some true) (hd:zlK C st o (base+32*i)=some d) (hc:d.c=true)
  (h:Trace C ops b base (i+1) ss fs (st.effD b o.dst d) st'):Trace C ops b base i (some d::ss) ((i,zfY C st ops o d)::fs) st st'
 |skip {i:Nat} {o:Oper} {ss:List Step} {fs:List (Nat×Foot)} {st st':St} (ho:ops[i]?=some o) (hg:zdf ops o st=some false)
  (h:Trace C ops b base (i+1) ss fs (st.put o.dst .und) st'):Trace C ops b base i (none::ss) ((i,zm3 ops o)::fs) st st'
theorem zsU {ops:Array Oper}{z:List (List Nat)}{b:Bool}{base I:Nat}{k:St->Option Ans}{N:App->St->Option Ans}{M:Nat->St->Option Ans}{t:Ans}:∀(m i:Nat) (G:List (Nat×Foot)) (st:St),ztU C ops z b base I k N M (List.range' i m) G st=some t->
 (∃ss g a,ss.length=m/\Trace C ops b base i ss g st a/\znc z (g.reverse++G)=true/\k a=some t)\/
 (∃ss g a o x,ss.length+1=m/\Trace C ops b base i ss g st a/\ops[i+ss.length]?=some o/\zrE C a o=some (true,x)/\b=true/\zxt ops z I (i+ss.length)=true/\x.dst<a.tm.length/\
  znc z ((i+ss.length,zgk a ops o zDl)::(g.reverse++G))=true/\N x (a.put o.dst<|.v<|.at .bad)=some t)\/
 (∃ss g a o,ss.length+1=m/\Trace C ops b base i ss g st a/\ops[i+ss.length]?=some o/\zra o=true/\zxt ops z I (i+ss.length)=true/\zHX ops z (znn z I<|i+ss.length) o=true/\
  znc z (g.reverse++G)=true/\M (i+ss.length) a=some t)
 | 0,i,G,st,h=>by simp only[List.range'_zero,ztU]at h;split at h;{rename_i s;exact .inl ⟨[],[],st,rfl,.nil i st,by simpa using s,h⟩};{cases h}
 |m+1,i,G,st,h=>by
  simp only[vA,ztU]at h;split at h;{cases h}
  .rename_i o ho;have O:=zWJ h;clear h;rcases O with⟨hg,h⟩|⟨hg,h⟩
   .split at h
    .rename_i d hd;cases A:d.c with
     |false=>rw[A]at h;cases h
     |true=>rw[A]at h;simp only[cond_true]at h;rcases zsU m (i+1) _ _ h with⟨ss,g,a,n,p,j,q⟩|⟨ss,g,a,F,x,n,p,j,q,u,r,B,w,y⟩|⟨ss,g,a,F,n,p,j,q,u,r,w,y⟩;{exact .inl ⟨some d::ss,(i,zfY C st ops o d)::g,a,by simp[n],.run ho hg hd A p,by simpa using j,q⟩};{have e:i+1+ss.length=i+(some d::ss).length:=(by simp only[qV];omega);rw[e]at j r w;exact .inr (.inl ⟨some d::ss,(i,zfY C st ops o d)::g,a,F,x,by simp[<- n],.run ho hg hd A p,j,q,u,r,B,by simpa using w,y⟩)};{have e:i+1+ss.length=i+(some d::ss).length:=(by simp only[qV];omega);rw[e]at j u r y;exact .inr (.inr ⟨some d::ss,(i,zfY C st ops o d)::g,a,F,by simp[<- n],.run ho hg hd A p,j,q,u,r,by simpa using w,y⟩)}
    {split at h;{rename_i c x l D;split at h;{rename_i f;simp only[qE,qZ]at f;obtain⟨⟨⟨P,E⟩,H⟩,s⟩:=f;cases A:c with|false=>rw[A]at h;cases h|true=>rw[A]at h D;simp only[cond_true]at h;have L:m=0:=(by simpa using l);subst L;exact .inr (.inl ⟨[],[],st,o,x,rfl,.nil i st,ho,D,P,E,H,by simpa using s,h⟩)};{cases h}};{rename_i l D;split at h;{rename_i f;simp only[qE]at f;obtain⟨⟨⟨J,E⟩,K⟩,s⟩:=f;have L:m=0:=(by simpa using l);subst L;exact .inr (.inr ⟨[],[],st,o,rfl,.nil i st,ho,J,E,K,by simpa using s,h⟩)};{cases h}};{cases h}}
   {rcases zsU m (i+1) _ _ h with⟨ss,g,a,n,p,j,q⟩|⟨ss,g,a,F,x,n,p,j,q,u,r,B,w,y⟩|⟨ss,g,a,F,n,p,j,q,u,r,w,y⟩;{exact .inl ⟨none::ss,(i,zm3 ops o)::g,a,by simp[n],.skip ho hg p,by simpa using j,q⟩};{have e:i+1+ss.length=i+((none:Step)::ss).length:=(by simp only[qV];omega);rw[e]at j r w;exact .inr (.inl ⟨none::ss,(i,zm3 ops o)::g,a,F,x,by simp[<- n],.skip ho hg p,j,q,u,r,B,by simpa using w,y⟩)};{have e:i+1+ss.length=i+((none:Step)::ss).length:=(by simp only[qV];omega);rw[e]at j u r y;exact .inr (.inr ⟨none::ss,(i,zm3 ops o)::g,a,F,by simp[<- n],.skip ho hg p,j,q,u,r,by simpa using w,y⟩)}}
end
inductive Key where
 |tm (t:Nat)
 |ro (n:Nat)
 |lo (n:Nat)
inductive Item where
 |tm (m:MV)
 |ro (R:Root)
 |lo (l:List At)
def St.get (st:St):Key->Option Item
 |.tm t=>st.tm[t]?.map .tm
 |.ro n=>(zx st.ro n).map .ro
 |.lo n=>(zx st.lo n).map .lo
def wr (o:Oper):Step->Key->Prop
 |_,.tm t=>o.dst=some t
 |none,_=>False
 |some d,.ro n=>n∈d.ro.map (·.1)
 |some d,.lo n=>n∈d.lo.map (·.1)
section
variable {st st':St} {b:Bool} {o:Oper}
theorem zBJ {a:Type}:∀{l:List (Nat×a)} {n:Nat},n∉l.map (·.1)->zx l n=none
 |[],_,_=>rfl
 |(k,v)::l,n,h=>by simp only[jK,qH,not_or]at h;simp only[zx];rw[if_neg (by simp;exact λe=>h.1 e.symm)];exact zBJ h.2
theorem zBK {b:Type}:∀{l:List (Nat×b)} {n:Nat},n∈l.map (·.1)->∃v,zx l n=some v
 |[],_,h=>by simp at h
 |(k,v)::l,n,h=>by simp only[zx];split;{exact⟨v,rfl⟩};{rename_i a;simp only[qK]at a;simp only[jK,qH]at h;exact zBK (h.resolve_left λe=>a e.symm)}
theorem z1U {m:MV}{d:Option Tmp}:(st.put d m).ro=st.ro:=by cases d<;>rfl
theorem z1T {m:MV}{d:Option Tmp}:(st.put d m).lo=st.lo:=by cases d<;>rfl
theorem zVt {m:MV}{d:Option Tmp}:(st.put d m).ep=st.ep:=by cases d<;>rfl
theorem zPn {m:MV}{d:Option Tmp}:(st.put d m).stk=st.stk:=by cases d<;>rfl
theorem zYl {m:MV}{d:Option Tmp}:(st.put d m).tm.length=st.tm.length:=by cases d<;>simp [St.put]
theorem z1V {m:MV}{d:Option Tmp}{t:Nat}:(st.put d m).tm[t]?=if d=some t then (if t<st.tm.length then some m else none) else st.tm[t]?:=by cases d with|none=>simp[St.put]|some e=>simp only[St.put,jH,qC];split;{rename_i e;subst e;rfl};{rfl}
def dv:Step->MV
 |some d=>d.v
 |none=>.und
theorem zYw {s:Step}{t:Nat}:(st.step b o s).tm[t]?=if o.dst=some t then (if t<st.tm.length then some (dv s) else none) else st.tm[t]?:=by cases s with|none=>exact z1V|some d=>exact z1V (st:={st with lo:=d.lo++st.lo,ro:=d.ro.map (λ(x:Nat×Root)=>(x.1,zgg b x.2))++st.ro})
theorem z3Z {s:Step}:(st.step b o s).tm.length=st.tm.length:=by cases s with|none=>exact zYl|some d=>exact zYl (st:={st with lo:=d.lo++st.lo,ro:=d.ro.map (λ(x:Nat×Root)=>(x.1,zgg b x.2))++st.ro})
theorem zPv {s:Step}:(st.step b o s).ep=st.ep:=by cases s with|none=>exact zVt|some d=>exact zVt (st:={st with lo:=d.lo++st.lo,ro:=d.ro.map (λ(x:Nat×Root)=>(x.1,zgg b x.2))++st.ro})
theorem zVS {s:Step}:(st.step b o s).stk=st.stk:=by cases s with|none=>exact zPn|some d=>exact zPn (st:={st with lo:=d.lo++st.lo,ro:=d.ro.map (λ(x:Nat×Root)=>(x.1,zgg b x.2))++st.ro})
theorem z4a {s:Step}:(st.step b o s).nid=st.nid:=by cases s with|none=>exact zgx|some d=>exact zgx (st:={st with lo:=d.lo++st.lo,ro:=d.ro.map (λ(x:Nat×Root)=>(x.1,zgg b x.2))++st.ro})
def dro (b:Bool):Step->List (Nat×Root)
 |some d=>d.ro.map (λ(x:Nat×Root)=>(x.1,zgg b x.2))
 |none=>[]
def dlo:Step->List (Nat×List At)
 |some d=>d.lo
 |none=>[]
theorem zPw {s:Step}:(st.step b o s).ro=dro b s++st.ro:=by cases s with|none=>exact z1U|some d=>exact z1U (st:={st with lo:=d.lo++st.lo,ro:=d.ro.map (λ(x:Nat×Root)=>(x.1,zgg b x.2))++st.ro})
theorem zYv {s:Step}:(st.step b o s).lo=dlo s++st.lo:=by cases s with|none=>exact z1T|some d=>exact z1T (st:={st with lo:=d.lo++st.lo,ro:=d.ro.map (λ(x:Nat×Root)=>(x.1,zgg b x.2))++st.ro})
theorem z6g {s:Step}{n:Nat}:wr o s (.ro n)↔n∈(dro b s).map (·.1):=by cases s with|none=>simp[wr,dro]|some d=>simp[wr,dro,List.map_map,Function.comp_def]
theorem z6f {s:Step}{n:Nat}:wr o s (.lo n)↔n∈(dlo s).map (·.1):=by cases s with|none=>simp[wr,dlo]|some d=>simp[wr,dlo]
theorem step_other {s:Step}{a:Key}(h:¬ wr o s a):(st.step b o s).get a=st.get a:=by cases a with|tm t=>have c:¬ o.dst=some t:=(by cases s<;>exact h);simp only[St.get,zYw,if_neg c]|ro n=>rw[z6g (b:=b)]at h;simp only[St.get,zPw,zbJ,zBJ h]|lo n=>rw[z6f]at h;simp only[St.get,zYv,zbJ,zBJ h]
theorem zDc {s:Step}{κ:Key}(h:wr o s κ)(d:st.tm.length=st'.tm.length):(st.step b o s).get κ=(st'.step b o s).get κ:=by cases κ with|tm t=>have c:o.dst=some t:=(by cases s<;>exact h);simp only[St.get,zYw,if_pos c,d]|ro n=>rw[z6g (b:=b)]at h;obtain⟨v,a⟩:=zBK h;simp only[St.get,zPw,zbJ,a]|lo n=>rw[z6f]at h;obtain⟨v,a⟩:=zBK h;simp only[St.get,zYv,zbJ,a]
theorem z0c {s:Step}{a:Key}(d:st.tm.length=st'.tm.length)(h:st.get a=st'.get a):(st.step b o s).get a=(st'.step b o s).get a:=by by_cases c:wr o s a;{exact zDc c d};{rw [step_other c,step_other c,h]}
def zbq (ops:Array Oper)(b:Bool)(X:Nat->Bool):Nat->List Step->St->St
 |_,[],st=>st
 |i,s::ss,st=>zbq ops b X (i+1) ss (if X i then (match ops[i]? with|some o=>st.step b o s|none=>st) else st)
def one (ops:Array Oper)(b:Bool)(X:Nat->Bool)(i:Nat)(s:Step)(st:St):St:=if X i then (match ops[i]? with|some o=>st.step b o s|none=>st) else st
theorem zDC {ops:Array Oper}{X:Nat->Bool}{i:Nat}{s:Step}:(one ops b X i s st).tm.length=st.tm.length:=by unfold one;split;{split;{exact z3Z};{rfl}};{rfl}
theorem zpr {ops:Array Oper}{X:Nat->Bool}:∀(ss:List Step) (i:Nat) (st:St),(zbq ops b X i ss st).tm.length=st.tm.length
 |[],_,_=>rfl
 |s::ss,i,st=>(zpr ss (i+1) _).trans (zDC (X:=X) (i:=i) (s:=s))
theorem zrM {ops:Array Oper}{X Y:Nat->Bool}{c:Key}:∀(ss:List Step) (i:Nat) (st st':St),st.tm.length=st'.tm.length->st.get c=st'.get c->
 (∀(k:Nat) (s:Step) (o:Oper),ss[k]?=some s->ops[i+k]?=some o->X (i+k)≠Y (i+k)->¬ wr o s c)->(zbq ops b X i ss st).get c=(zbq ops b Y i ss st').get c
 |[],_,_,_,_,h,_=>h
 |s::ss,i,st,st',g,h,j=>by
  have l:(one ops b X i s st).get c=(one ops b Y i s st').get c:=by unfold one;cases f:ops[i]? with|none=>cases X i<;>cases Y i<;>exact h|some o=>have a:=j 0 s o rfl f;simp only[uK]at a;cases m:X i<;>cases n:Y i<;>rw [m,n]at a;{exact h};{simp only [if_true,kR,if_false];rw[step_other<|a (by simp),h]};{simp only [if_true,kR,if_false];rw[step_other<|a (by simp),h]};{exact z0c g h}
  exact zrM ss (i+1) _ _ (((zDC (b:=b) (ops:=ops) (X:=X) (i:=i) (s:=s) (st:=st)).trans g).trans (zDC (b:=b) (ops:=ops) (X:=Y) (i:=i) (s:=s) (st:=st')).symm) l (λk r q p f d=>j (k+1) r q (by simpa using p) (by rw[<- f];congr 1;omega) (by
   have e:i+(k+1)=i+1+k:=by omega
   rw[e];exact d))
end
section
variable {st st':St} {b:Bool} {o:Oper}
theorem zJP {ops:Array Oper}{X:Nat->Bool}{κ:Key}:∀(ss:List Step) (i:Nat) (st:St),
 (∀(k:Nat) (s:Step) (o:Oper),ss[k]?=some s->ops[i+k]?=some o->X (i+k)=true->¬ wr o s κ)->(zbq ops b X i ss st).get κ=st.get κ
 |[],_,_,_=>rfl
 |s::ss,i,st,d=>by
  have f:(one ops b X i s st).get κ=st.get κ:=by unfold one;split;{rename_i a;split;{rename_i o c;exact step_other (d 0 s o rfl c a)};{rfl}};{rfl}
  exact(zJP ss (i+1) _ (λk j h g c a=>d (k+1) j h (by simpa using g) (by rw[<- c];congr 1;omega) (by
   have e:i+(k+1)=i+1+k:=by omega
   rw[e];exact a))).trans f
theorem zTT {ops:Array Oper}{X:Nat->Bool}{j:Nat}{s:Step}(r:X j=true)(t:ops[j]?=some o){κ:Key}(m:wr o s κ):∀(ss:List Step) (i:Nat) (st:St),i<=j->ss[j-i]?=some s->
 (∀(k:Nat) (c:Step) (u:Oper),ss[k]?=some c->ops[i+k]?=some u->j<i+k->X (i+k)=true->¬ wr u c κ)->(zbq ops b X i ss st).get κ=(st.step b o s).get κ
 |[],i,st,_,h,_=>by simp at h
 |c::ss,i,st,w,h,y=>by have a:∀(k:Nat) (l:Step) (g:Oper),ss[k]?=some l->ops[i+1+k]?=some g->j<i+1+k->X (i+1+k)=true->¬ wr g l κ:=(by intro k l g p f x d;have e:i+(k+1)=i+1+k:=(by omega);exact y (k+1) l g (by simpa using p) (by rw[e];exact f) (by omega) (by rw[e];exact d));by_cases v:i=j;{subst v;simp only[kQ,qG,qC]at h;subst h;have n:=zJP (b:=b) (ops:=ops) (X:=X) (κ:=κ) ss (i+1) (one ops b X i c st) (λk l g p f d=>a k l g p f (by omega) d);have q:one ops b X i c st=st.step b o c:=(by simp only[one,r,t,if_true]);rw[q]at n;show (zbq ops b X (i+1) ss<|one ops b X i c st).get κ=_;rw[q];exact n};{have e:j-i=(j-(i+1))+1:=(by omega);rw[e,jO]at h;have n:=zTT r t m ss (i+1) (one ops b X i c st) (by omega) h a;exact n.trans (zDc m zDC)}
theorem z1c {e:Array Oper}{X Y:Nat->Bool}{a j:Nat}{s:Step}(q:∀i,Y i=(X i||i==a+j))(r:e[a+j]?=some o){ss:List Step}{st:St}(t:ss[j]?=some s)(v:∀(k:Nat) (n:Step) (m:Oper),ss[k]?=some n->e[a+k]?=some m->j<k->X (a+k)=true->∀g,wr o s g->¬ wr m n g)(g:Key) :
 (zbq e b Y a ss st).get g=((zbq e b X a ss st).step b o s).get g:=by
 by_cases c:wr o s g
 .rw [zTT (X:=Y) (j:=a+j) (s:=s) (by rw[q];simp) r c ss a st (uD _ _) (by rw[Nat.add_sub_cancel_left];exact t) (fun k n m p d u f=>by
   refine v k n m p d (by omega) ?_ g c
   rw[q]at f;have:(a+k==a+j)=false:=by simp;omega
   rw[this,uI]at f;exact f)]
  exact zDc c (zpr ss a st).symm
 .rw [step_other c];refine zrM ss a st st rfl rfl (fun k n m p d l=>?_);have:k=j:=by rw[q]at l;by_cases h:k=j;{exact h};{have:(a+k==a+j)=false:=(by simp[h]);simp[this]at l}
  subst this;rw[r]at d;cases d;rw[t]at p;cases p;exact c
end
section
variable {C:Cfg} {w0 w w1:World} {S0:zbd} {U:Nat->Prop} {st st':St} {E E1:Env} {ts:Array Value} {sv:List (Array Value)}
theorem zJV {t:Nat}(h:st'.get (.tm t)=st.get (.tm t)):st'.tm[t]?=st.tm[t]?:=by simp only[St.get]at h;cases a:st'.tm[t]? <;> cases b:st.tm[t]? <;> rw [a,b]at h<;>simp at h;{rw [h]}
theorem zCc {n:Nat}(h:st'.get (.ro n)=st.get (.ro n)):zx st'.ro n=zx st.ro n:=by simp only[St.get]at h;cases a:zx st'.ro n<;>cases b:zx st.ro n<;>rw [a,b]at h<;>simp at h;{rw [h]}
theorem zJU {n:Nat}(h:st'.get (.lo n)=st.get (.lo n)):zx st'.lo n=zx st.lo n:=by simp only[St.get]at h;cases a:zx st'.lo n<;>cases b:zx st.lo n<;>rw [a,b]at h<;>simp at h;{rw [h]}
theorem Sim.fewer (s:Sim w0 S0 U st E ts sv w)(F:∀t:Nat,st'.tm[t]?=st.tm[t]?)(d:∀n,zx st'.lo n=zx st.lo n)(k:st'.stk=st.stk)(a:∀n R,st'.root n=some R->st.root n=some R)(C:∀n R,zx st'.ro n=some R->∃v,zx st.ro n=some v)(B:∀n R e,zx st'.ro n=some R->R.ep=some e->e<=st'.ep):Sim w0 S0 U st' E ts sv w:=by
 have b:=s.mem;have T:Trans st E w st' E w (λ_=>True):=⟨λr _ G h=>⟨G,a r G h,rfl,λ_ _ h=>h⟩,λl _ i h=>⟨⟨i,by rw[<- d];exact h⟩,rfl⟩,rfl⟩
 have g:st'.tm=st.tm:=k7 F;refine⟨⟨b.os,b.tape,b.output,b.size,b.keep,λr R h=>b.rep r R (a r R h),λr R h=>b.rlt r R (a r R h),λr R h=>b.mine r R (a r R h),λO r R h=>b.frz O r R (a r R h),
  λr R K v p q z=>b.apart r R K v (a r R p) q (a K v z),λl i M=>?_,λl P i y p q=>b.linj l P i y (by rw[<- d];exact p) (by rw[<- d];exact q),
  λl i r R p q=>b.lro l i r R (by rw[<- d];exact p) (a r R q),B,b.κ⟩,⟨λn R D=>?_,λn i D=>s.ids.lo n i (by rw[<- d];exact D),λm N=>s.ids.tm m (by rw[<- g];exact N),λf L=>s.ids.stk f (by rw[<- k];exact L)⟩,?_,?_⟩
 {obtain⟨p,x,e,q,z,H⟩:=b.loc l i (by rw[<- d];exact M);exact⟨p,x,e,q,z,λj c u I J=>⟨(H j c u I J).1,VA.tr T (λ_ _=>trivial) (H j c u I J).2⟩⟩};{obtain⟨v,A⟩:=C n R D;exact s.ids.ro n v A};{rw [g];exact Slots.tr T (λ_ _ _ _=>trivial) s.tm};{rw [k];exact Stack.tr T (λ_ _ _ _ _ _=>trivial) s.stk}
theorem Sim.same (d:Sim w0 S0 U st E ts sv w)(hg:∀f,st'.get f=st.get f)(b:st'.stk=st.stk)(a:st'.ep=st.ep):Sim w0 S0 U st' E ts sv w:=by have c:∀n,zx st'.ro n=zx st.ro n:=λn=>zCc (hg<|.ro n);refine d.fewer (λt=>zJV (hg<|.tm t)) (λn=>zJU (hg<|.lo n)) b (λn R h=>?_) (λn R h=>⟨R,by rw[<- c];exact h⟩) (λn R e h g=>by rw[a];exact d.mem.epo n R e (by rw[<- c];exact h) g);simpa only [St.root,c,a] using h
end
section
variable {C:Cfg} {ops:Array Oper} {b:Bool} {base:Nat}
theorem zU4 {s:List Nat}{x:Nat}:zo2 s x=true↔x∈s:=by unfold zo2;rw[uB];constructor;{rintro⟨y,a,h⟩;rw[jT h];exact a};{exact λh=>⟨x,h,Nat.beq_refl x⟩}
theorem zyW {s:List Nat}:∀{l:List Nat} {x:Nat},x∈addN l s↔x∈l\/x∈s
 |[],x=>by simp[addN]
 |a::l,x=>by
  have c:=λy=>@zyW s l y;show x∈cond (zo2 (addN l s) a) (addN l s) (a::addN l s)↔_
  cases h:zo2 (addN l s) a with
  |true=>rw[cond_true,c,qH];constructor;{rintro (b|b);{exact .inl (.inr b)};{exact .inr b}};{rintro ((b|b)|b);{rw [b];exact(c a).1 (zU4.1 h)};{exact .inl b};{exact .inr b}}
  |false=>rw[cond_false,qH,c,qH,or_assoc]
theorem zMM {b:List (List Nat)}:∀{l:List Edge} {e:Edge},e∈l->Region.binds .any e=true->
 e.on∈l.foldr (λe s=>cond (Region.binds .any e) (cond (zo2 s e.on) s<|addN (b.getD e.on []) (e.on::s)) s) []
 |a::l,e,c,f=>by rw[List.foldr_cons];generalize h:l.foldr (λe s=>cond (Region.binds .any e) (cond (zo2 s e.on) s<|addN (b.getD e.on []) (e.on::s)) s) []=s;have up:∀x,x∈s->x∈cond (Region.binds .any a) (cond (zo2 s a.on) s<|addN (b.getD a.on []) (a.on::s)) s:=λx d=>(by cases Region.binds .any a with|false=>exact d|true=>(cases zo2 s a.on with|true=>exact d|false=>exact zyW.2 (.inr<|jE _ d)));rcases qH.1 c with rfl|c;{rw [f,cond_true];cases g:zo2 s e.on with|true=>exact zU4.1 g|false=>exact zyW.2 (.inr jQ)};{exact up _ (h ▸ zMM c f)}
theorem zMN {b:List (List Nat)}:∀{l:List Edge} {j:Nat},j∈l.foldr (λe s=>cond (Region.binds .any e) (cond (zo2 s e.on) s<|addN (b.getD e.on []) (e.on::s)) s) []->
 ∃e∈l,Region.binds .any e=true/\(j=e.on\/j∈b.getD e.on [])
 |[],j,h=>by cases h
 |a::l,j,h=>by
  rw[List.foldr_cons]at h;have up:j∈l.foldr (λe s=>cond (Region.binds .any e) (cond (zo2 s e.on) s<|addN (b.getD e.on []) (e.on::s)) s) []->∃e∈a::l,Region.binds .any e=true/\(j=e.on\/j∈b.getD e.on []):=λh=>by obtain⟨e,f,g⟩:=zMN h;exact⟨e,jE _ f,g⟩
  cases c:Region.binds .any a with
  |false=>rw[c]at h;exact up h
  |true=>
   rw[c,cond_true]at h;cases d:zo2 (l.foldr (λe s=>cond (Region.binds .any e) (cond (zo2 s e.on) s<|addN (b.getD e.on []) (e.on::s)) s) []) a.on with
   |true=>rw[d]at h;exact up h
   |false=>rw[d,cond_false]at h;rcases zyW.1 h with h|h;{exact⟨a,jQ,c,.inr h⟩};{rcases qH.1 h with h|h;{exact⟨a,jQ,c,.inl h⟩};{exact up h}}
theorem zMV (i:Nat)(r:List Nat)(a:List (List Nat)):zjR ops (i::r) a=zjR ops r (a++[waits ops a i]):=rfl
theorem zxi:∀(m:Nat) (a:List (List Nat)),∃l,zjR ops (List.range' a.length m) a=a++l/\l.length=m/\
 ∀k,k<m->(a++l)[a.length+k]?=some (waits ops ((a++l).take (a.length+k))<|a.length+k)
 | 0,a=>⟨[],by simp[zjR],rfl,λk h=>by omega⟩
 |m+1,a=>by obtain⟨l,c,g,d⟩:=zxi m (a++[waits ops a a.length]);have b:(a++[waits ops a a.length]).length=a.length+1:=(by simp);rw[b]at c d;refine⟨waits ops a a.length::l,?_,by simp[g],λk h=>?_⟩;{rw [vA,zMV,c];simp};{have e:a++waits ops a a.length::l=(a++[waits ops a a.length])++l:=(by simp);cases k with|zero=>rw[uK,qP<|qW _,kQ,kU rfl];rfl|succ k=>have f:a.length+(k+1)=a.length+1+k:=(by omega);rw[e,f];exact d k (by omega)}
theorem zYM {i:Nat}(c:i<ops.size):(zjR ops (List.range ops.size) []).getD i []=waits ops ((zjR ops (List.range ops.size) []).take i) i:=by obtain⟨l,a,d,b⟩:=zxi (ops:=ops) ops.size [];simp only[kT,jM,kB]at a b;rw[List.range_eq_range',a,kE,b i c];rfl
structure Pinned (n:Nat) (cl:List (List Nat)) (m:Nat):Prop where
 full:∀j,j<m->j∈cl.getD m []
 wait:∀k,m<k->k<n->m∈cl.getD k []
theorem zwK {n m:Nat}{a:List (List Nat)}(h:pinned n a m=true):Pinned n a m:=by unfold pinned z1f at h;simp only[qE,qQ,kH,jF,qZ,List.mem_range']at h;refine⟨h.1,λk b c=>h.2 k ⟨k-(m+1),by omega,by omega⟩⟩
theorem zsA {n m:Nat}{a:List (List Nat)}{p:Bool}{r:List Bool}(h:p::r=(zjd n a).drop m):m<n/\p=pinned n a m/\r=(zjd n a).drop (m+1):=by have b:m<(zjd n a).length:=(by rcases uW m (zjd n a).length with c|c;{exact c};{rw [kO c]at h;cases h});rw[jZ b]at h;simp only[List.cons.injEq]at h;refine⟨by simpa [zjd] using b,?_,h.2⟩;rw[h.1];simp[zjd]
theorem zVp {n m:Nat}{a:List (List Nat)}(h:[]=(zjd n a).drop m):n<=m:=by have:=List.drop_eq_nil_iff.1 h.symm;simpa [zjd] using this
theorem zQR {n:Nat}{a:List (List Nat)}:∀(r:List Bool) (m:Nat),m<=n->r=(zjd n a).drop m->
 m+zb5 r<=n/\r.drop (zb5 r)=(zjd n a).drop (m+zb5 r)/\(m+zb5 r<n->Pinned n a (m+zb5 r))
 |[],m,c,h=>by have:=zVp h;refine⟨by simp[zb5];omega,by simpa [zb5] using h,λb=>?_⟩;simp[zb5]at b;omega
 |true::r,m,c,h=>by obtain⟨i,j,_⟩:=zsA h;refine⟨by simp[zb5];omega,by simpa [zb5] using h,λ_=>?_⟩;simp only[zb5,uK];exact zwK j.symm
 |false::r,m,c,h=>by obtain⟨i,_,k⟩:=zsA h;obtain⟨d,f,g⟩:=zQR r (m+1) (by omega) k;have e:m+zb5 (false::r)=m+1+zb5 r:=(by simp only[zb5];omega);rw[e];refine⟨d,?_,g⟩;rw[<- f];rfl
theorem zvJ {X:Nat->Bool}:∀(ss:List Step) (i:Nat) (a:St),(∀k,i<=k->X k=false)->zbq ops b X i ss a=a
 |[],_,_,_=>rfl
 |s::ss,i,a,h=>by simp only[zbq];rw[h i<|qW _];simp only[kR,if_false];exact zvJ ss (i+1) a (λk c=>h k (by omega))
theorem zkf {X Y:Nat->Bool}:∀(ss:List Step) (i:Nat) (a:St),(∀k,i<=k->k<i+ss.length->X k=Y k)->zbq ops b X i ss a=zbq ops b Y i ss a
 |[],_,_,_=>rfl
 |s::ss,i,a,h=>by simp only[zbq];rw[h i (qW _) (by simp)];exact zkf ss (i+1) _ (λk d c=>h k (by omega) (by simp only[qV];omega))
def At1 (C:Cfg)(ops:Array Oper)(base i:Nat)(o:Oper)(S:St)(f:Foot):Step->Prop
 |some d=>zdf ops o S=some true/\zlK C S o (base+32*i)=some d/\d.c=true/\f=zfY C S ops o d
 |none=>zdf ops o S=some false/\f=zm3 ops o
theorem zWl {i:Nat}{ss:List Step}{m:List (Nat×Foot)}{l c:St}(h:Trace C ops b base i ss m l c):∀(k:Nat) (s:Step),ss[k]?=some s->
 ∃o f,ops[i+k]?=some o/\(i+k,f)∈m/\At1 C ops base (i+k) o (zbq ops b (λj=>decide (j<i+k)) i ss l) f s:=by
 induction h with
 |nil i l=>intro k s a;simp at a
 |run g hg v u h r=>rename_i i o d ss m l c;intro k s a;cases k with|zero=>simp only[qG,qC]at a;subst a;refine⟨o,_,g,jQ,?_⟩;rw[zvJ _ _ _ (λk w=>by simp;omega)];exact⟨hg,v,u,rfl⟩|succ k=>obtain⟨t,f,n,p,q⟩:=r k s (by simpa using a);have e:i+(k+1)=i+1+k:=(by omega);refine⟨t,f,by rw[e];exact n,by rw[e];exact jE _ p,?_⟩;rw[e];simp only[zbq,g];rw[if_pos (by simp;omega)];exact q
 |skip g hg h r=>rename_i i o ss m l c;intro k s a;cases k with|zero=>simp only[qG,qC]at a;subst a;refine⟨o,_,g,jQ,?_⟩;rw[zvJ _ _ _ (λk w=>by simp;omega)];exact⟨hg,rfl⟩|succ k=>obtain⟨t,f,n,p,q⟩:=r k s (by simpa using a);have e:i+(k+1)=i+1+k:=(by omega);refine⟨t,f,by rw[e];exact n,by rw[e];exact jE _ p,?_⟩;rw[e];simp only[zbq,g];rw[if_pos (by simp;omega)];exact q
theorem zDg {i:Nat}{ss:List Step}{f:List (Nat×Foot)}{e a:St}(h:Trace C ops b base i ss f e a):a=zbq ops b (λ_=>true) i ss e:=by induction h with|nil i e=>rfl|run c hg j g h d=>simp only[zbq,c,if_true];exact d|skip c hg h d=>simp only[zbq,c,if_true];exact d
theorem z1I {X:Nat->Bool}{i:Nat}{s:Step}{a:St}:(one ops b X i s a).ep=a.ep:=by unfold one;split;{split;{exact zPv};{rfl}};{rfl}
theorem z7i {X:Nat->Bool}{i:Nat}{s:Step}{a:St}:(one ops b X i s a).stk=a.stk:=by unfold one;split;{split;{exact zVS};{rfl}};{rfl}
theorem z7h {X:Nat->Bool}{i:Nat}{s:Step}{a:St}:(one ops b X i s a).nid=a.nid:=by unfold one;split;{split;{exact z4a};{rfl}};{rfl}
theorem zgV {X:Nat->Bool}:∀(ss:List Step) (i:Nat) (a:St),(zbq ops b X i ss a).ep=a.ep
 |[],_,_=>rfl
 |s::ss,i,a=>(zgV ss (i+1) _).trans (z1I (X:=X) (i:=i) (s:=s))
theorem zmF {X:Nat->Bool}:∀(ss:List Step) (i:Nat) (a:St),(zbq ops b X i ss a).stk=a.stk
 |[],_,_=>rfl
 |s::ss,i,a=>(zmF ss (i+1) _).trans (z7i (X:=X) (i:=i) (s:=s))
theorem zvI {X:Nat->Bool}:∀(ss:List Step) (i:Nat) (a:St),(zbq ops b X i ss a).nid=a.nid
 |[],_,_=>rfl
 |s::ss,i,a=>(zvI ss (i+1) _).trans (z7h (X:=X) (i:=i) (s:=s))
def Dead (a:St):Prop:=∀n R e,zx a.ro n=some R->R.ep=some e->e<a.ep
theorem z2l {o:Oper}{s:Step}{c:St}(h:Dead c)(m:0<c.ep):Dead (c.step true o s):=by
 intro n R e b a;rw[zPv];rw[zPw,zbJ]at b;split at b
 .rename_i x hx;cases b;cases s with
  |none=>cases hx
  |some d=>
   have g:=zoX hx;simp only[dro,jD]at g;obtain⟨⟨k,i⟩,_,f⟩:=g;simp only[jR]at f;obtain⟨_,rfl⟩:=f;unfold zgg at a;split at a;{simp only [qC]at a;omega}
   .rename_i hne;exact absurd a (by
     cases l:i.ep with
     |none=>simp
     |some j=>exact absurd l (hne j rfl))
 {exact h n R e b a}
theorem zyw {X:Nat->Bool}:∀(ss:List Step) (i:Nat) (a:St),Dead a->0<a.ep->Dead (zbq ops true X i ss a)
 |[],_,_,h,_=>h
 |s::ss,i,a,h,b=>by refine zyw (X:=X) ss (i+1) (one ops true X i s a) ?_ (by rw[z1I];exact b);unfold one;split;{split;{exact z2l h b};{exact h}};{exact h}
end
end
end Go.Proofs.YtnnmbkjhakbicaaGreat.E
