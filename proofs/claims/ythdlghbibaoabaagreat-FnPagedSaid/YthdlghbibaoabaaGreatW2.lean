/- What is proved here: a part of the proof that the statement of this claim holds (several texts of wip/, laid together). -/
import Derived.Test.YthdlghbibaoabaaGreatW1
import Derived.Orders
namespace Go.Proofs.YthdlghbibaoabaaGreat.E
open Go
set_option linter.unusedVariables false
set_option maxRecDepth 100000
set_option linter.unusedSimpArgs false
set_option linter.unusedSectionVars false
noncomputable section
section
variable {C:Cfg} {w0 w w1:World} {S0:zX} {U:Nat->Prop} {st st1:St} {E E1:Env} {ts:Array Value} {sv:List (Array Value)}
structure CtrOk (C:Cfg):Prop where
 ok:∀f run,C.ctr f=some run->Holds C.P f run
 vok:∀f inp run,C.tct f=some ([],inp,run)->zTO C.P f run
theorem z3j (g:CfgOk C)(b:Sim w0 S0 U st E ts sv w){o:Oper}{id:Nat}(c:∀n,Mine id n->¬ U n){x:Operand}{d:Dl}(a:o.op = .move x\/o.op = .assign x)(h:delta C st o id=some d):Goes C w0 S0 U st ts sv w o id (fun st=>st.apply o.dst d):=by rcases a with a|a;{simp only [delta,a]at h;split at h;{cases h;exact zc0 b (v:=.pointer none) (by simp[execOp,a,Act.eval]) trivial (fun n e=>by simp[MV.ids,zbA,zS,At.ids,zbo,zbq]at e)};{split at h;{cases h;exact z9x b c (.inl a)};{cases h}};{split at h;{rename_i v f;cases h;exact z4D b (.inl a) f};{cases h}}};{simp only [delta,a]at h;split at h;{cases h;exact zc0 b (v:=.pointer none) (by simp[execOp,a,Act.eval]) trivial (fun n e=>by simp[MV.ids,zbA,zS,At.ids,zbo,zbq]at e)};{split at h;{cases h;exact z9x b c (.inr a)};{cases h}};{split at h;{rename_i v f;cases h;exact z4D b (.inr a) f};{cases h}}}
theorem zbac (z:CfgOk C)(A:Sim w0 S0 U st E ts sv w){o:Oper}{id:Nat}(B:∀n,Mine id n->¬ U n){T:TypeId}{a x:Operand}{d:Dl}(u:o.op = .store T a x)(h:delta C st o id=some d):Goes C w0 S0 U st ts sv w o id (fun st=>st.apply o.dst d):=by simp only[delta,u]at h;split at h;{rename_i f F y l s g v j;split at h;{rename_i H e;split at h;{rename_i G;cases h;exact z1X z A u g v j e G.1 G.2};{cases h}};{cases h}};{rename_i f F y r p i s g v j;split at h;{rename_i R t l c cvs I J hg;split at h;{rename_i b;simp only[qD,qK,q0]at b;split at h;{rename_i K q;split at h;{rename_i m k;cases h;exact z1W z A u g v j I J hg b.1.1 b.1.2 b.2 q k};{cases h}};{cases h}};{cases h}};{cases h}};{rename_i f t l s g v j;split at h;{split at h;{rename_i H e;split at h;{rename_i D;cases h;exact zYR z A B u g j e D};{cases h}};{cases h}};{cases h}};{cases h}
theorem zBk {t:Ty}{a b:CV}{m:List t.den}(h:zzA t a b=some m):∃c d:List t.den,a = .s t c/\b = .s t d/\m=ap c d:=by unfold zzA at h;split at h;{split at h;{rename_i f c g d e;obtain⟨rfl,rfl⟩:=e;cases h;exact⟨c,d,rfl,rfl,rfl⟩};{cases h}};{cases h}
theorem zbbF (P:CfgOk C)(Q:CtrOk C)(z:Sim w0 S0 U st E ts sv w){o:Oper}{id:Nat}(q:∀n,Mine id n->¬ U n){c:Call}{d:Dl}(u:o.op = .call c)(h:delta C st o id=some d)(D:d.c=true):Goes C w0 S0 U st ts sv w o id (fun st=>st.apply o.dst d):=by
 simp only[delta,u]at h;split at h;{rename_i g;split at h;{rename_i x T i k;split at h;{rename_i r p X;split at h;{rename_i t l M;split at h;{rename_i K;cases h;obtain⟨e,hE⟩:=P.sty T t K;exact zbcv z u g i k hE.und X M};{cases h}};{cases h}};{cases h}};{cases h}};{rename_i g;split at h;{rename_i x y i;split at h;{rename_i a b A B;cases h;exact zbcx z u g i A B};{cases h}};{cases h}};{rename_i g;split at h;{rename_i x y i;split at h;{rename_i a b A B;cases h;exact zbcw z u g i A B};{cases h}};{cases h}}
 .rename_i g;split at h
  .rename_i x y T T2 i k;split at h
   .rename_i hTT;subst hTT;split at h
    .rename_i t r r2 p2 K A B;split at h
     .rename_i R R2 cv2 hR hR2 M;split at h
      .rename_i hcond;split at h
       .rename_i m hm;cases h;obtain⟨Y,l2,H,V,rfl⟩:=zBk hm;subst V;simp only[qD,kF,List.isEmpty_iff,jE,beq_eq_false_iff_ne]at hcond;have J:R=⟨t,Y,R.own,R.ep⟩:=by cases R with|mk t0 l0 own ep=>simp only[CV.s.injEq] at H;obtain⟨rfl,H⟩:=H;cases H;rfl
        exact z6U P z q u g i k K A B hR hR2 hcond.1 (by
         rcases hcond.2 with h|h
         .exact .inl h
         .exact .inr ⟨h.1.1,h.1.2,h.2⟩) M J D
       {cases h}
      {cases h}
     {cases h}
    {cases h}
   {cases h}
  {cases h}
 {rename_i f g;split at h;{rename_i v F;split at h;{rename_i I L;split at h;{rename_i S Z N;split at h;{rename_i j;cases h;simp only at D;subst D;exact s_call z q u g (Q.ok f v F) L N j};{cases h}};{cases h}};{cases h}};{split at h;{rename_i O v x0 xr G i;split at h;{rename_i v0 I W L;split at h;{rename_i S Z N;split at h;{rename_i j;cases h;simp only at D;subst D;rw[qD,q0]at j;exact zbbZ z q u g (Q.vok f O v G) i W L N j.1 j.2};{cases h}};{cases h}};{cases h}};{cases h}}};{cases h}
theorem zHk (k:CfgOk C)(p:CtrOk C)(g:Sim w0 S0 U st E ts sv w){o:Oper}{id:Nat}(i:∀n,Mine id n->¬ U n){d:Dl}(h:delta C st o id=some d)(l:d.c=true):Goes C w0 S0 U st ts sv w o id (fun st=>st.apply o.dst d):=by
 cases e:o.op;(case move x=>exact z3j k g i (.inl e) h);(case assign x=>exact z3j k g i (.inr e) h);(case pick c a b=>exact zbbX g e h);(case alloc T=>exact zbaT k g i e h);(case box T x=>exact zbcu g i e h);(case build T parts=>exact zbaV k g i e h);(case load T x=>exact zbbW k g e h);(case store T a x=>exact zbac k g i e h);(case nilCheck x=>exact z1V g e h);(case binOp op T x y T2=>exact zbaU k g e h l);(case unOp op T x=>exact zbbY g e h);case convert a b x=>exact z4x k g e h
 case makeFunc fn first caps=>
  cases fn with
  |func f=>exact z1U g e h
  |_=>simp[delta,e]at h
 case makeSlice T x y=>exact zYQ k g i e h l
 case slice T x lo hi mx=>
  cases mx with
  |none=>exact zbaY k g i e h l
  |some m=>simp[delta,e]at h
 (case fieldAddr T x f=>exact zYw k g e h);case field T x f=>exact zbaW k g e h
 case index T x y=>
  cases x with
  |const v=>cases v with|string s=>exact zbaX g e h l|_=>simp[delta,e]at h
  |_=>simp[delta,e]at h
 (case indexAddr T x y=>exact zYx k g e h l);(case extract x j=>exact z4y g e h);(case call c=>exact zbbF k p g i e h l);(case buildSlice T len parts=>exact zWv k g i e h);all_goals simp [delta,e]at h
end
section
variable {C:Cfg} {w0 w w1:World} {S0:zX} {U:Nat->Prop} {st st1:St} {E E1:Env} {ts:Array Value} {sv:List (Array Value)}
structure GraftOk (C:Cfg):Prop where
 ok:∀(w0 w:World) (S0:zX) (U:Nat->Prop) (st:St) (E:Env) (ts:Array Value) (sv:List (Array Value)) (o:Oper) (id:Nat) (c:Bool) (st2:St),Sim w0 S0 U st E ts sv w->graft C st o=some (c,st2)->c=true->
  Goes C w0 S0 U st ts sv w o id (fun _=>st2.put o.dst .und)/\st2.nid=st.nid
 mok:∀(w0 w:World) (S0:zX) (U:Nat->Prop) (st:St) (E:Env) (ts:Array Value) (sv:List (Array Value)) (o:Oper) (id:Nat) (c:Bool) (st2:St) (m:MV),Sim w0 S0 U st E ts sv w->zTx C st o=some (c,st2,m)->c=true->
  Goes C w0 S0 U st ts sv w o id (fun _=>st2.put o.dst m)/\st2.nid=st.nid
 pok:∀(w0 w:World) (S0:zX) (U:Nat->Prop) (st:St) (E:Env) (ts:Array Value) (sv:List (Array Value)) (o:Oper) (id:Nat) (c:Bool) (st2:St) (m:MV),Sim w0 S0 U st E ts sv w->(∀n,Mine id n->¬ U n)->zFw C st o id=some (c,st2,m)->c=true->
  Goes C w0 S0 U st ts sv w o id (fun _=>st2.put o.dst m)/\st2.nid=st.nid
 tok:∀(w0 w:World) (S0:zX) (U:Nat->Prop) (st:St) (E:Env) (ts:Array Value) (sv:List (Array Value)) (o:Oper) (id:Nat) (c:Bool) (st2:St) (m:MV),Sim w0 S0 U st E ts sv w->(∀n,Mine id n->¬ U n)->zTD C st o id=some (c,st2,m)->c=true->
  Goes C w0 S0 U st ts sv w o id (fun _=>st2.put o.dst m)/\st2.nid=st.nid
structure MctOk (C:Cfg):Prop where
 ok:∀f run,C.mct f=some run->zKN C.P f run
structure NameOk (C:Cfg):Prop where
 ok:∀(f:FuncId) (fn:Func),C.P.funcs[f]?=some fn->(fn.name == "runtime.NumGoroutine")=false
def ztD (C:Cfg)(e:zgh):Prop :=
 ∀(f:FuncId) (j:List MV) (st:St) (k:List TV->St->Option Ans) (d:Ans),e f j st k=some d->
  ∀(w0:World) (S0:zX) (U:Nat->Prop) (E:Env) (ts:Array Value) (sv:List (Array Value)) (w:World) (c:Array Value) (R:Value->World->Prop),Sim w0 S0 U st E ts sv w->(∀n,st.nid<=n->¬ U n)->
   c.size=j.length->(∀(i:Nat) (m:MV) (v:Value),j[i]?=some m->c[i]?=some v->VM w st E m v)->(∀m∈j,∀n∈m.ids,U n)->
   (∀(h:Nat->Prop) (a:St) (p:Env) (g:World) (l:List TV) (v:Value),Sim w0 S0 h a p ts sv g->(∀n,h n->U n\/st.nid<=n)->st.nid<=a.nid->(∀n,a.nid<=n->¬ h n)->
    VM g a p (zhh l) v->(∀n∈(zhh l).ids,h n)->k l a=some d->R v g)->
   (∃q b,C.P.funcs[f]?=some q/\q.body=some b)/\Calls C.P f c w fun | .returned v,g=>R v g|_,_=>False
theorem zWq {d:Nat}{m:MV}(h:st.tm[d]?=some m):st.put (some d) m=st:=by have:st.tm.set d m=st.tm:=(by apply k5;intro k;rw[q9];split;{rename_i e;subst e;split;{exact h.symm};{rename_i a;rw[List.getElem?_eq_none (by omega)]at h;cases h}};{rfl});simp only[St.put,this]
theorem zRT (u:Sim w0 S0 U st E ts sv w){ops:Array Oper}{o:Oper}{l skip:St->Option Ans}{d:Ans}(h:guarded ops o st l skip=some d) :
 (Region.wanted o (yielded ops ts)=true/\l st=some d)\/(Region.wanted o (yielded ops ts)=false/\skip (st.put o.dst .und)=some d):=by
 unfold guarded at h;split at h
 .rename_i hg;exact .inl ⟨by simp[Region.wanted,hg],h⟩
 .rename_i j want hg;have f:∀{m:MV},guardOf st ops j=some m->∃e t,ops[j]?=some e/\e.dst=some t/\st.tm[t]?=some m/\zhW ops j=some t:=by intro m b;unfold guardOf at b;split at b;{rename_i e i;split at b;{rename_i t k;exact⟨e,t,i,k,b,by simp[zhW,i,k]⟩};{cases b}};{cases b}
  have c:∀{m:MV} {t:Nat},st.tm[t]?=some m->∃v,ts[t]?=some v/\VM w st E m v:=by intro m t k;have g:t<ts.size:=(by rw[u.tm.1];exact(qA.1 k).1);exact⟨ts[t],by simp[g],u.tm.2 t m _ k (by simp[g])⟩
  split at h
  .rename_i b;obtain⟨e,t,q,r,n,_⟩:=f b;obtain⟨v,s,a⟩:=c n;simp only[VM]at a;subst a;refine .inr ⟨?_,h⟩;have:yielded ops ts j=none:=by simp[yielded,q,r,s,undef]
   simp[Region.wanted,hg,this]
  .rename_i x b;obtain⟨e,t,q,r,n,y⟩:=f b;obtain⟨v,s,a⟩:=c n;simp only[VM,VT,VA]at a;subst a;have p:yielded ops ts j=some x:=by simp[yielded,q,r,s]
   rw[y]at h;cases x<;>cases want<;>simp only [cond_true,cond_false]at h<;>rw [zWq n]at h
   .exact .inl ⟨by simp[Region.wanted,hg,p],h⟩
   .exact .inr ⟨by simp[Region.wanted,hg,p],h⟩
   .exact .inr ⟨by simp[Region.wanted,hg,p],h⟩
   .exact .inl ⟨by simp[Region.wanted,hg,p],h⟩
  .cases h
theorem Sim.putV (a:Sim w0 S0 U st E ts sv w){dst:Option Tmp}{m:MV}{v:Value}(c:VM w st E m v)(b:∀n∈m.ids,U n):Sim w0 S0 U (st.put dst m) E (({tmps:=ts,defers:=[]}:Act).put dst v).tmps sv w :=
 Sim.next a a.mem Sim.trans_self rfl rfl (fun _ h=>h) a.ids.ro a.ids.lo c b
theorem zif (dst:Option Tmp)(v:Value):({tmps:=ts,defers:=[]}:Act).put dst v={tmps:=(({tmps:=ts,defers:=[]}:Act).put dst v).tmps,defers:=[]}:=by cases dst<;>rfl
theorem zLb {b:Type}(a:At)(k:At->b):zNZ a k=k a:=by cases a<;>rfl
theorem z0O {b:Type}(m:MV)(k:MV->b):zZl m k=k m:=by rcases m with _|x|l;{rfl};{rcases x with a|l;{exact zLb a (fun a=>k (.v (.at a)))};{rfl}};{rfl}
theorem zzV {a:Type}:∀(l:List MV) (k:List MV->a),zxZ l k=k l
 |[],_=>rfl
 |m::l,k=>by simp only[zxZ,z0O,zzV l]
theorem zqw {a:Type}(n:Nat)(k:Nat->a):zpF n k=k n:=by cases n<;>rfl
theorem z3s {a:Type}(b:Bool)(k:Bool->a):z3r b k=k b:=by cases b<;>rfl
theorem z0N {a:Type}(e:Option Nat)(k:Option Nat->a):zZk e k=k e:=by cases e with|none=>rfl|some n=>exact zqw n (fun n=>k (some n))
theorem zHo {b:Type}:∀(l:List At) (k:List At->b),zzU l k=k l
 |[],_=>rfl
 |a::l,k=>by simp only[zzU,zLb,zHo l]
theorem zLc {a:Type}:∀(l:List (Nat×List At)) (k:List (Nat×List At)->a),zFl l k=k l
 |[],_=>rfl
 |(n,b)::l,k=>by simp only[zFl,zqw,zHo,zLc l]
theorem zLd {a:Type}:∀(l:List (Nat×Root)) (k:List (Nat×Root)->a),zFm l k=k l
 |[],_=>rfl
 |(n,⟨t,x,own,ep⟩)::l,k=>by simp only[zFm,zqw,z3s,z0N,zLd l]
theorem zQ8 (k:St->Option Ans):st.forced k=k st:=by unfold St.forced;simp only[zzV,zLc,zLd,zqw]
theorem zET (k:St->Option Ans):st.shared k=k st:=by unfold St.shared;rw[zzV];split;{rename_i r R ro h;simp only[share];congr 1;cases st;simp only at h;subst h;rfl};{rfl}
theorem z7v (o:Oper)(d:Dl)(k:St->Option Ans):wrote o d st k=k st:=by unfold wrote;split;{exact zET k};{rfl}
theorem z3F {o:Oper}{f:FuncId}{b:List Nat}{a:Array Operand}(h:isIn C st o=some (f,b,a)):∃(c:Call) (x:Operand),o.op = .call c/\c.callee = .value x/\c.args=a/\st.at x=some (.fn f b):=by unfold isIn at h;split at h;{rename_i x d i k;split at h;{rename_i j e l;cases g:byName C x j with|true=>rw[g]at h;cases h|false=>rw[g]at h;cases h;exact⟨_,x,k,rfl,rfl,l⟩};{cases h}};{cases h}
theorem z2r {d:Dl}{dst:Option Tmp}:(st.apply dst d).nid=st.nid:=by cases dst<;>rfl
theorem zfl {m:MV}{dst:Option Tmp}:(st.put dst m).nid=st.nid:=by cases dst<;>rfl
theorem zZB {base i j n:Nat}(h:i≠j)(e:Mine (base+32*i) n):¬ Mine (base+32*j) n:=by intro f;obtain⟨a,b⟩:=e;obtain⟨c,d⟩:=f;omega
theorem znO (hC:CfgOk C)(hH:CtrOk C)(hG:GraftOk C)(hN:NameOk C){F:zgh}(u:ztD C F){ops:Array Oper}{base:Nat}{k:St->Option Ans}{N:Ans}{Q:Exit->Act->World->Prop}{V:Nat->Prop}{nid0:Nat}(hV:∀n,nid0<=n->V n)(hk:∀(U':Nat->Prop) (M:St) (E':Env) (a5:Array Value) (w':World),Sim w0 S0 U' M E' a5 sv w'->(∀n,U' n->V n)->nid0<=M.nid->(∀n,M.nid<=n->¬ U' n)->k M=some N->Q .normal {tmps:=a5,defers:=[]} w') :
 ∀(l:List Nat) (U:Nat->Prop) (st:St) (E:Env) (ts:Array Value) (w:World),Sim w0 S0 U st E ts sv w->(∀n,U n->V n)->(∀n,st.nid<=n->¬ U n)->(∀j∈l,∀n,Mine (base+32*j) n->¬ U n/\V n)->l.Nodup->nid0<=st.nid->(∀j∈l,base+32*j+32<=st.nid)->
  znN C F ops base k l st=some N->wpOps C.P ops Q l {tmps:=ts,defers:=[]} w
 |[],U,st,E,ts,w,D,hU,hF,_,_,a3,_,h=>hk U st E ts w D hU a3 hF h
 |i::rest,U,st,E,ts,w,D,hU,hF,hM,b6,a3,hb,h=>by
  simp only[znN]at h;split at h;{cases h}
  .rename_i o ho;have J:=List.nodup_cons.1 b6;have T:∀n,Mine (base+32*i) n->¬ U n:=fun n h=>(hM i (by simp) n h).1;have c2:=hb i (by simp);have next:∀{p:St} {E2:Env} {B:Array Value} {w2:World},Sim w0 S0 (fun n=>U n\/Mine (base+32*i) n) p E2 B sv w2->p.nid=st.nid->znN C F ops base k rest p=some N->wpOps C.P ops Q rest {tmps:=B,defers:=[]} w2:=by intro p E2 B w2 G b5 h2;refine znO hC hH hG hN u hV hk rest _ p E2 B w2 G ?_ ?_ ?_ J.2 (by omega) (fun j I=>by rw[b5];exact hb j (by simp[I])) h2;{rintro n (s|s);{exact hU n s};{exact(hM i (by simp) n s).2}};{rintro n s (h|h);{exact hF n (by omega) h};{have:=h.2;omega}};{intro j I n r;refine⟨?_,(hM j (by simp[I]) n r).2⟩;rintro (h|h);{exact(hM j (by simp[I]) n r).1 h};{exact zZB (i:=i) (j:=j) (fun e=>J.1 (by rw[e];exact I)) h r}}
   have weak:∀{p:St} {E2:Env} {B:Array Value} {w2:World},Sim w0 S0 U p E2 B sv w2->Sim w0 S0 (fun n=>U n\/Mine (base+32*i) n) p E2 B sv w2 :=
    fun h=>⟨h.mem,⟨fun n R s=>.inl (h.ids.ro n R s),fun n cs s=>⟨.inl (h.ids.lo n cs s).1,fun a ha m r=>.inl ((h.ids.lo n cs s).2 a ha m r)⟩,fun m r n s=>.inl (h.ids.tm m r n s),fun f hf m r n s=>.inl (h.ids.stk f hf m r n s)⟩,h.tm,h.stk⟩
   simp only[wpOps,ho];rcases zRT D h with⟨hw,g⟩|⟨hw,a0⟩
   .rw [if_pos hw];refine .inl ?_;split at g
    .rename_i f caps args hin;split at g
     .rename_i vs hvs;obtain⟨c,x,b7,a9,rfl,hx⟩:=z3F hin;obtain⟨c0,b9⟩:=zbG D hx;obtain⟨cv,b2,b1,b0⟩:=c0;obtain⟨a4,b8⟩:=zl8 hvs;have L:(c.args.map ({tmps:=ts,defers:=[]}:Act).eval++cv).size=(vs++caps.map fun l=>MV.v (.at (.lp l 0))).length:=(by simp[b1,<- a4]);have H:∀(i:Nat) (m:MV) (v:Value),(vs++caps.map fun l=>MV.v (.at (.lp l 0)))[i]?=some m->(c.args.map ({tmps:=ts,defers:=[]}:Act).eval++cv)[i]?=some v->VM w st E m v/\∀n∈m.ids,U n:=by intro i m v r K;have a1:(c.args.map ({tmps:=ts,defers:=[]}:Act).eval).size=vs.length:=(by simp[<- a4]);by_cases Y:i<vs.length;{rw [qV Y]at r;rw[j3 (by rw[a1];exact Y),vD]at K;cases ha:c.args[i]? with|none=>rw[ha]at K;cases K|some y=>rw[ha]at K;cases K;exact zb0 D (b8 i y m (by simpa using ha) r)};{rw [qR (by omega),qP]at r;rw[kE (by rw[a1];omega),a1]at K;cases hc:caps[i-vs.length]? with|none=>rw[hc]at r;cases r|some l=>rw[hc]at r;cases r;refine⟨b0 _ l v hc K,fun n s=>b9 n ?_⟩;rw[zdm]at s;simp only[At.ids,zbo,zbq,jU,qF]at s;subst s;simp only[At.ids,zbo,zbq,jU];exact qI hc}
      obtain⟨⟨fn,b,hf,a8⟩,O⟩:=u f _ st _ N g w0 S0 U E ts sv w (c.args.map ({tmps:=ts,defers:=[]}:Act).eval++cv) (fun v w'=>wpOps C.P ops Q rest (({tmps:=ts,defers:=[]}:Act).put o.dst v) w') D hF L
       (fun i m v r K=>(H i m v r K).1) (fun m r n s=>by
        obtain⟨i,Y⟩:=qT.1 r;have b4:i<(c.args.map ({tmps:=ts,defers:=[]}:Act).eval++cv).size:=by rw[L];exact(qA.1 Y).1
        exact(H i m _ Y (jH b4)).2 n s)
       (fun U' M E' w' rs v t a2 c1 a7 K Y b3=>by
        have G:=t.putV (dst:=o.dst) K Y;rw[zif];refine znO hC hH hG hN u hV hk rest U' _ E' _ w' G ?_ (by rw[zfl];exact a7) ?_ J.2 (by rw[zfl];omega) (fun j I=>by rw[zfl];have:=hb j (by simp[I]);omega) b3
        .intro n s;rcases a2 n s with h|h
         .exact hU n h
         .exact hV n (by omega)
        .intro j I n r;refine⟨fun s=>?_,(hM j (by simp[I]) n r).2⟩
         rcases a2 n s with h|h
         .exact(hM j (by simp[I]) n r).1 h
         .have:=hb j (by simp[I])
          have:=r.2;omega)
      have Z:=hN.ok f fn hf;have S:fn.name≠ "runtime.NumGoroutine":=(by simpa using Z);have X:(execOp ({tmps:=ts,defers:=[]}:Act).eval o).run C.P w = .ok (.enter f (c.args.map ({tmps:=ts,defers:=[]}:Act).eval++cv)) w:=(by simp[execOp,b7,resolve,a9,b2,Deferred.ofValue,invoke,callFunc,hf,a8,S]);unfold Oper.wp;rw[X,Oper.upon_enter];refine O.mono ?_;intro e w' he;cases e with|returned v=>exact he|panicked a6=>exact he.elim|outgrown=>exact he.elim
     {cases g}
    {unfold step1 at g;simp only[z7v,zET]at g;split at g;{rename_i d hd;cases W:d.c with|false=>rw[W]at g;cases g|true=>rw[W]at g;simp only[cond_true]at g;refine zHk hC hH D T hd W _ _ (fun E' v w' t=>?_);rw[zif];exact next t z2r g};{split at g;{rename_i c p hg;cases q:c with|false=>rw[q]at g;cases g|true=>rw[q]at g;simp only[cond_true]at g;obtain⟨A,z⟩:=hG.ok w0 w S0 U st E ts sv o (base+32*i) c p D hg q;refine A _ _ (fun E' v w' t=>?_);rw[zif];exact next t (by rw[zfl];exact z) g};{split at g;{rename_i c p m hg;cases q:c with|false=>rw[q]at g;cases g|true=>rw[q]at g;simp only[cond_true]at g;obtain⟨A,z⟩:=hG.mok w0 w S0 U st E ts sv o (base+32*i) c p m D hg q;refine A _ _ (fun E' v w' t=>?_);rw[zif];exact next t (by rw[zfl];exact z) g};{split at g;{rename_i c p m hg;cases q:c with|false=>rw[q]at g;cases g|true=>rw[q]at g;simp only[cond_true]at g;obtain⟨A,z⟩:=hG.pok w0 w S0 U st E ts sv o (base+32*i) c p m D T hg q;refine A _ _ (fun E' v w' t=>?_);rw[zif];exact next t (by rw[zfl];exact z) g};{split at g;{rename_i c p m hg;cases q:c with|false=>rw[q]at g;cases g|true=>rw[q]at g;simp only[cond_true]at g;obtain⟨A,z⟩:=hG.tok w0 w S0 U st E ts sv o (base+32*i) c p m D T hg q;refine A _ _ (fun E' v w' t=>?_);rw[zif];exact next t (by rw[zfl];exact z) g};{cases g}}}}}}
   {rw [if_neg (by simp[hw])];have G:=D.putV (dst:=o.dst) (m:=.und) (v:=undef) rfl (fun n s=>by simp[MV.ids,zbA]at s);rw[zif];exact next (weak G) zfl a0}
end
section
variable {C:Cfg} {w0 w w1:World} {S0:zX} {U:Nat->Prop} {st st1:St} {E E1:Env} {ts:Array Value} {sv:List (Array Value)}
def Ext (l a:List (Nat×Nat)):Prop:=∀k v,zl l k=some v->zl a k=some v
def Inj (l:List (Nat×Nat)):Prop:=∀k a v,zl l k=some v->zl l a=some v->k=a
theorem zKV {l g:List (Nat×Nat)}{k v:Nat}(h:zzC l k v=some g):Ext l g/\zl g k=some v/\(Inj l->Inj g):=by unfold zzC at h;split at h;{rename_i u r;split at h;{rename_i d;simp only[qK]at d;subst d;cases h;exact⟨fun _ _ h=>h,r,fun h=>h⟩};{cases h}};{rename_i q;split at h;{cases h};{rename_i c;cases h;have e:∀f,zl l f≠some v:=(by intro f i;have:=zmN i;exact c (uB.2 ⟨(f,v),this,by simp⟩));refine⟨fun f n h=>?_,by simp[zl],fun p s t n a b=>?_⟩;{simp only [zl];split;{rename_i d;simp only[qK]at d;subst d;rw[q]at h;cases h};{exact h}};{simp only [zl]at a b;split at a<;>split at b;{rename_i j m;simp only[qK] at j m;exact j.symm.trans m};{cases a;exact absurd b (e _)};{cases b;exact absurd a (e _)};{exact p s t n a b}}}}
theorem zKW {l b:List (Nat×Nat)}{k v:Nat}(h:zTr l k v=some b):Ext l b/\zl b k=some v:=by unfold zTr at h;split at h;{rename_i u d;split at h;{rename_i a;simp only[qK]at a;subst a;cases h;exact⟨fun _ _ h=>h,d⟩};{cases h}};{rename_i c;cases h;refine⟨fun e f h=>?_,by simp[zl]⟩;simp only[zl];split;{rename_i a;simp only[qK]at a;subst a;rw[c]at h;cases h};{exact h}}
structure ExtB (B B':Bnd):Prop where
 r:Ext B.r B'.r
 l:Ext B.l B'.l
 il:Inj B.l->Inj B'.l
theorem ExtB.refl (B:Bnd):ExtB B B:=⟨fun _ _ h=>h,fun _ _ h=>h,fun h=>h⟩
theorem ExtB.trans {A B D:Bnd}(h:ExtB A B)(a:ExtB B D):ExtB A D :=
 ⟨fun k v x=>a.r k v (h.r k v x),fun k v x=>a.l k v (h.l k v x),fun x=>a.il (h.il x)⟩
def zpq (B:Bnd)(base:Nat)(x:At):At->Prop
 |.bad=>True
 |.i k n=>x = .i k n
 |.b y=>x = .b y
 |.sl h p=>∃r d,x = .sl d p/\h=base+r/\zl B.r r=some d
 |.lp j e=>∃l g,x = .lp g e/\j=base+l/\zl B.l l=some g
 |.ep h p i e=>∃r d,x = .ep d p i e/\h=base+r/\zl B.r r=some d
 |.fn f c=>∃a,x = .fn f a/\c.length=a.length/\∀(k j g:Nat),c[k]?=some j->a[k]?=some g->∃l,j=base+l/\zl B.l l=some g
 |.kp h J t=>∃r d,x = .kp d J t/\h=base+r/\zl B.r r=some d
theorem zpq.mono {B s:Bnd}{base:Nat}{x x1:At}(h:zpq B base x x1)(e:ExtB B s):zpq s base x x1:=by cases x1 with|bad=>trivial|i k n=>exact h|b y=>exact h|sl w p=>obtain⟨r,g,a,c,d⟩:=h;exact⟨r,g,a,c,e.r _ _ d⟩|lp v q=>obtain⟨l,m,a,c,d⟩:=h;exact⟨l,m,a,c,e.l _ _ d⟩|ep w p i q=>obtain⟨r,g,a,c,d⟩:=h;exact⟨r,g,a,c,e.r _ _ d⟩|kp w J t=>obtain⟨r,g,a,c,d⟩:=h;exact⟨r,g,a,c,e.r _ _ d⟩|fn f u=>obtain⟨z,a,c,d⟩:=h;refine⟨z,a,c,fun k v m D j=>?_⟩;obtain⟨l,A,C⟩:=d k v m D j;exact⟨l,A,e.l _ _ C⟩
theorem zJi:∀{js:List Nat} {p:List (Int×Nat)} {cs:List CV},idx js p=some cs->∀a,zyg js (cs++a)=some (p,a)
 |[],[],cs,h,a=>by cases h;rfl
 |[],_::_,cs,h,_=>by simp[idx]at h
 |_::_,[],cs,h,_=>by simp[idx]at h
 |j::js,(i,e)::p,cs,h,a=>by simp only[idx]at h;split at h;{rename_i c;simp only[qK]at c;subst c;split at h;{rename_i d b;cases h;simp[zyg,zJi b a]};{cases h}};{cases h}
theorem z0M {l:List (Nat×Nat)}:l.foldl (fun (b:Option (List (Nat×Nat))) x=>match b with|some c=>zzC c x.1 x.2|none=>none) none=none:=by induction l with|nil=>rfl|cons a l d=>exact d
theorem zKX:∀{cs cs':List Nat} {l e:List (Nat×Nat)},cs.length=cs'.length->(cs.zip cs').foldl (fun (f:Option (List (Nat×Nat))) x=>match f with|some m=>zzC m x.1 x.2|none=>none) (some l)=some e->
 Ext l e/\(Inj l->Inj e)/\∀(k a b:Nat),cs[k]?=some a->cs'[k]?=some b->zl e a=some b
 |[],[],l,e,_,h=>by cases h;exact⟨fun _ _ h=>h,fun h=>h,fun k a b h=>by simp at h⟩
 |[],_::_,_,_,h,_=>by simp at h
 |_::_,[],_,_,h,_=>by simp at h
 |c::cs,c'::cs',l,e,t,h=>by simp only[List.zip_cons_cons,uK]at h;cases i:zzC l c c' with|none=>rw[i,z0M]at h;cases h|some u=>rw[i]at h;obtain⟨q,r,s⟩:=zKV i;obtain⟨j,n,p⟩:=zKX (by simpa using t) h;refine⟨fun k v x=>j k v (q k v x),fun x=>n (s x),fun k a b g d=>?_⟩;(cases k with|zero=>simp at g d;subst g d;exact j _ _ r|succ k=>exact p k a b (by simpa using g) (by simpa using d))
theorem zxF {B v:Bnd}{a:AT}{x:At}{cs:List CV}(base:Nat)(h:zE0 B a x=some (v,cs)):ExtB B v/\∀c,∃x1,putAt base a (cs++c)=some (x1,c)/\zpq v base x x1:=by unfold zE0 at h;split at h;{cases h;exact⟨ExtB.refl _,fun c=>⟨.bad,rfl,trivial⟩⟩};{split at h;{rename_i k K n s;subst s;cases h;exact⟨ExtB.refl _,fun c=>⟨.i k n,rfl,rfl⟩⟩};{cases h}};{rename_i y;cases h;exact⟨ExtB.refl _,fun c=>⟨.b y,rfl,rfl⟩⟩};{rename_i r I F p;split at h;{rename_i br w q C;cases h;obtain⟨j,m⟩:=zKW q;exact⟨⟨j,fun _ _ h=>h,fun h=>h⟩,fun c=>⟨.sl (base+r) p,by simp[putAt,zJi C c],r,F,rfl,rfl,m⟩⟩};{cases h}};{rename_i l t E u;split at h;{rename_i e;simp only[qK]at e;subst e;split at h;{rename_i H q;cases h;obtain⟨j,m,z⟩:=zKV q;exact⟨⟨fun _ _ h=>h,j,z⟩,fun c=>⟨.lp (base+l) t,rfl,l,E,rfl,rfl,m⟩⟩};{cases h}};{cases h}};{rename_i r I t F p i u;split at h;{rename_i e;simp only[qK]at e;subst e;split at h;{rename_i br w q C;cases h;obtain⟨j,m⟩:=zKW q;exact⟨⟨j,fun _ _ h=>h,fun h=>h⟩,fun c=>⟨.ep (base+r) p i t,by simp[putAt,zJi C],r,F,rfl,rfl,m⟩⟩};{cases h}};{cases h}};{rename_i f d J g;split at h;{rename_i e;simp only[qD,qK]at e;obtain⟨rfl,G⟩:=e;split at h;{rename_i H q;cases h;obtain⟨j,m,z⟩:=zKX G q;refine⟨⟨fun _ _ h=>h,j,m⟩,fun c=>⟨.fn f (d.map fun l=>base+l),rfl,g,rfl,by simpa using G,fun k L E s D=>?_⟩⟩;rw[qP]at s;cases A:d[k]? with|none=>rw[A]at s;cases s|some l=>rw[A]at s;cases s;exact⟨l,rfl,z k l E A D⟩};{cases h}};{cases h}};{cases h}
theorem zIb (base:Nat):∀{l:List (Nat×AT)} {B e:Bnd} {cs:List CV},zNq st B l=some (e,cs)->ExtB B e/\∀b tm,∃c,zTB base l (cs++b) tm=some (c,b)/\c.length=tm.length/\
 ∀(n:Nat) (d:MV),c[n]?=some d->tm[n]?=some d\/∃x x1,st.tm[n]?=some (.v (.at x))/\d = .v (.at x1)/\zpq e base x x1
 |[],B,e,cs,h=>by cases h;exact⟨ExtB.refl _,fun b tm=>⟨tm,rfl,rfl,fun n d h=>.inl h⟩⟩
 |(n,a)::r,B,e,cs,h=>by simp only[zNq]at h;split at h;{rename_i x u;split at h;{rename_i E j p;split at h;{rename_i F f q;cases h;obtain⟨m,w⟩:=zxF base p;obtain⟨g,y⟩:=zIb base q;refine⟨m.trans g,fun b tm=>?_⟩;obtain⟨x1,z,i⟩:=w (f++b);obtain⟨c,A,C,D⟩:=y b (tm.set n (.v (.at x1)));refine⟨c,by simp[zTB,j9,z,A],by simpa using C,fun k d t=>?_⟩;rcases D k d t with h|h;{rw [q9]at h;split at h;{rename_i s;subst s;split at h;{cases h;exact .inr ⟨x,x1,u,rfl,i.mono g⟩};{cases h}};{exact .inl h}};{exact .inr h}};{cases h}};{cases h}};{cases h}
theorem zzi (base:Nat):∀{l:List AT} {xs:List At} {B e:Bnd} {cs:List CV},znC B l xs=some (e,cs)->ExtB B e/\∀b,∃c,putCells base l (cs++b)=some (c,b)/\c.length=xs.length/\
 ∀(j:Nat) (x x1:At),xs[j]?=some x->c[j]?=some x1->zpq e base x x1
 |[],[],B,e,cs,h=>by cases h;exact⟨ExtB.refl _,fun b=>⟨[],rfl,rfl,fun j x x1 h=>by simp at h⟩⟩
 |[],_::_,_,_,_,h=>by simp[znC]at h
 |_::_,[],_,_,_,h=>by simp[znC]at h
 |a::r,x::y,B,e,cs,h=>by simp only[znC]at h;split at h;{rename_i D m p;split at h;{rename_i E f q;cases h;obtain⟨n,s⟩:=zxF base p;obtain⟨i,t⟩:=zzi base q;refine⟨n.trans i,fun b=>?_⟩;obtain⟨x1,u,k⟩:=s (f++b);obtain⟨c,v,w,A⟩:=t b;refine⟨x1::c,by simp[putCells,j9,u,v],by simp[w],fun j z C g d=>?_⟩;cases j with|zero=>simp at g d;subst g d;exact k.mono i|succ j=>exact A j z C (by simpa using g) (by simpa using d)};{cases h}};{cases h}
theorem zH9 (base:Nat):∀{l:List (Nat×List AT)} {B e:Bnd} {cs:List CV},zNm st B l=some (e,cs)->ExtB B e/\∀a,∃d,zTz base l (cs++a)=some (d,a)/\
 ∀(p:Nat) (b:List At),zl d p=some b->∃l g xs,p=base+l/\zl e.l l=some g/\zl st.lo g=some xs/\b.length=xs.length/\∀(j:Nat) (x x1:At),xs[j]?=some x->b[j]?=some x1->zpq e base x x1
 |[],B,e,cs,h=>by cases h;exact⟨ExtB.refl _,fun a=>⟨[],rfl,fun p b h=>by cases h⟩⟩
 |(l,K)::r,B,e,cs,h=>by simp only[zNm]at h;split at h;{rename_i g w;split at h;{rename_i cells c;split at h;{rename_i I t u;split at h;{rename_i J i v;cases h;obtain⟨q,z⟩:=zzi base u;obtain⟨m,A⟩:=zH9 base v;refine⟨q.trans m,fun a=>?_⟩;obtain⟨b,C,D,E⟩:=z (i++a);obtain⟨d,F,G⟩:=A a;refine⟨(base+l,b)::d,by simp[zTz,j9,C,F],fun k H f=>?_⟩;simp only[zl]at f;split at f;{rename_i s;simp only[qK]at s;cases f;exact⟨l,g,cells,s.symm,(q.trans m).l _ _ w,c,D,fun j x x1 y n=>(E j x x1 y n).mono m⟩};{exact G k H f}};{cases h}};{cases h}};{cases h}};{cases h}
theorem zIa (base:Nat){B:Bnd}:∀{l:List (Nat×Ty×Bool)} {cs:List CV},zNn st B l=some cs->∃a,zTA base l cs=some a/\
 ∀(g:Nat) (b:Root),zl a g=some b->∃r e o,g=base+r/\zl B.r r=some e/\zl st.ro e=some {b with own:=o}/\b.ep=none/\(b.own=true->o=true/\(r,b.t,true)∈l)
 |[],cs,h=>by cases h;exact⟨[],rfl,fun g b h=>by cases h⟩
 |(r,t,own)::rest,cs,h=>by simp only[zNn]at h;split at h;{rename_i e A;split at h;{rename_i R y;split at h;{rename_i z;split at h;{rename_i n f;cases h;obtain⟨a,C,D⟩:=zIa base f;refine⟨(base+r,⟨R.t,R.l,own,none⟩)::a,by simp[zTA,C],fun k b d=>?_⟩;simp only[zl]at d;split at d;{rename_i m;simp only[qK]at m;cases d;obtain⟨v,w,x⟩:=z;have:({ (⟨R.t,R.l,own,none⟩:Root) with own:=R.own}:Root)=R:=(by rw[<- x]);exact⟨r,e,R.own,m.symm,A,by rw[this];exact y,rfl,fun c=>⟨w c,by simp only at c;subst c;subst v;exact jA⟩⟩};{obtain⟨E,i,o,p,q,s,u,j⟩:=D k b d;exact⟨E,i,o,p,q,s,u,fun c=>⟨(j c).1,qX _ (j c).2⟩⟩}};{cases h}};{cases h}};{cases h}};{cases h}
theorem zkF:∀(sig:List CTy) (cs:List CV) (s:Dat sig),unpack sig cs=some s->packs sig s=cs
 |[],[],s,_=>rfl
 |[],_::_,s,h=>by simp[unpack]at h
 |.i k::sig,cs,s,h=>by cases cs with|nil=>simp[unpack]at h|cons c cs=>(cases c with|i f n=>simp only[unpack]at h;split at h;{rename_i e;subst e;split at h;{rename_i d a;cases h;simp[packs,zkF sig cs d a]};{cases h}};{cases h}|b x=>simp[unpack]at h|s t l=>simp[unpack]at h)
 |.b::sig,cs,s,h=>by cases cs with|nil=>simp[unpack]at h|cons c cs=>(cases c with|i f n=>simp[unpack]at h|b x=>simp only[unpack]at h;split at h;{rename_i d a;cases h;simp[packs,zkF sig cs d a]};{cases h}|s t l=>simp[unpack]at h)
 |.s t::sig,cs,s,h=>by cases cs with|nil=>simp[unpack]at h|cons c cs=>(cases c with|i f n=>simp[unpack]at h|b x=>simp[unpack]at h|s g l=>simp only[unpack]at h;split at h;{rename_i e;subst e;split at h;{rename_i d a;cases h;simp[packs,zkF sig cs d a]};{cases h}};{cases h})
def zbbg (l:List (List MV)):List (List MV):=l.map fun f=>f.map fun _=>.v (.at .bad)
theorem Stack.bad:∀{l:List (List MV)} {s:List (Array Value)},Stack w st E l s->∀(w1:World) (st1:St) (E1:Env),Stack w1 st1 E1 (zbbg l) s
 |[],[],_,_,_,_=>trivial
 |f::r,ts::s,h,w1,st1,E1=>by refine⟨⟨by simpa using h.1.1,fun i m v a c=>?_⟩,Stack.bad h.2 w1 st1 E1⟩;rw[qP]at a;cases b:f[i]? with|none=>rw[b]at a;cases a|some y=>rw[b]at a;cases a;trivial
 |[],_::_,h,_,_,_=>h.elim
 |_::_,[],h,_,_,_=>h.elim
def newEnv (B:Bnd)(base:Nat)(E:Env):Env where
 ρ n:=match zl B.r (n-base) with|some r=>E.ρ r|none=>undef
 φ n:=match zl B.r (n-base) with|some r=>E.φ r|none=>fun _=>False
 β n:=match zl B.l (n-base) with|some l=>E.β l|none=>0
 κ:=E.κ
theorem zpq.va {B:Bnd}{base:Nat}{x x1:At}{v:Value}(h:zpq B base x x1)(d:VA w st E x v)(I:∀(r e:Nat) (j:Root),zl B.r r=some e->st1.root (base+r)=some j->∃o,st.root e=some {j with own:=o})(O:∀(l z:Nat) (g:List At),zl B.l l=some z->zl st1.lo (base+l)=some g->∃xs,zl st.lo z=some xs):VA w st1 (newEnv B base E) x1 v:=by have F:∀{r e:Nat},zl B.r r=some e->(newEnv B base E).ρ (base+r)=E.ρ e:=fun h=>(by simp[newEnv,h]);have L:∀{l z:Nat},zl B.l l=some z->(newEnv B base E).β (base+l)=E.β z:=fun h=>(by simp[newEnv,h]);cases x1 with|bad=>trivial|i k n=>cases h;exact d|b y=>cases h;exact d|sl Q p=>obtain⟨r,e,rfl,rfl,a⟩:=h;refine⟨d.1,fun j c=>?_⟩;rw[F a];obtain⟨o,C⟩:=I r e j a c;have:=d.2 _ C;exact this|lp P K=>obtain⟨l,z,rfl,rfl,a⟩:=h;refine⟨d.1,fun g G=>?_⟩;rw[L a];obtain⟨xs,s⟩:=O l z g a G;exact d.2 xs s|ep Q p i K=>obtain⟨r,e,rfl,rfl,a⟩:=h;refine⟨d.1,fun j c=>?_⟩;rw[F a];obtain⟨o,C⟩:=I r e j a c;have:=d.2 _ C;exact this|fn f D=>obtain⟨q,rfl,m,a⟩:=h;obtain⟨X,R,S,T⟩:=d;refine⟨X,R,by rw[S,m],fun k P u N W=>?_⟩;have H:k<q.length:=(by rw[<- m];exact(qA.1 N).1);have A:=qB H;obtain⟨l,rfl,M⟩:=a k P _ N A;obtain⟨U,V⟩:=T k _ u A W;refine⟨U,fun g G=>?_⟩;rw[L M];obtain⟨xs,s⟩:=O l _ g M G;exact V xs s|kp Q J t=>obtain⟨r,e,rfl,rfl,a⟩:=h;refine⟨d.1,fun j c=>?_⟩;rw[F a];obtain⟨o,C⟩:=I r e j a c;have:=d.2 _ C;exact this
theorem zpq.ids {B:Bnd}{base:Nat}{x x1:At}(h:zpq B base x x1){n:Nat}(a:n∈x1.ids):∃k v,n=base+k/\(zl B.r k=some v\/zl B.l k=some v):=by cases x1 with|bad=>simp[At.ids,zbo,zbq]at a|i k m=>simp[At.ids,zbo,zbq]at a|b y=>simp[At.ids,zbo,zbq]at a|sl w p=>obtain⟨r,g,rfl,rfl,c⟩:=h;simp only[At.ids,zbo,zbq,jC,qF]at a;exact⟨r,g,a,.inl c⟩|lp D s=>obtain⟨l,C,rfl,rfl,c⟩:=h;simp only[At.ids,zbo,zbq,jU,qF]at a;exact⟨l,C,a,.inr c⟩|ep w p i s=>obtain⟨r,g,rfl,rfl,c⟩:=h;simp only[At.ids,zbo,zbq,jC,qF]at a;exact⟨r,g,a,.inl c⟩|fn f j=>obtain⟨d,rfl,e,c⟩:=h;simp only[At.ids,zbo,zbq,jU]at a;obtain⟨k,u⟩:=qT.1 a;have q:k<d.length:=(by rw[<- e];exact(qA.1 u).1);obtain⟨l,z,A⟩:=c k n _ u (qB q);exact⟨l,_,z,.inr A⟩|kp w J t=>obtain⟨r,g,rfl,rfl,c⟩:=h;simp only[At.ids,zbo,zbq,jC,qF]at a;exact⟨r,g,a,.inl c⟩
def zJT:At->At
 |.i k n=>.i k n
 |.b x=>.b x
 |_=>.bad
def zM9 (l:List (List MV)):List (List MV):=l.map fun f=>f.map (zi6 zJT)
theorem zDo:∀{p q:List (Int×Nat)},zij p q=true->p=q
 |[],[],_=>rfl
 |[(i,j)],[(e,d)],h=>by simp only[zij]at h;cases c:Nat.beq j d with|false=>rw[c]at h;cases h|true=>rw[c]at h;rw[kO]at c;simp only[cond_true,ieq,qK]at h;rw[c,h]
 |(i,j)::a::p,(e,d)::q,h=>by cases q with|nil=>simp only[zij]at h;cases c:Nat.beq j d<;>rw [c]at h<;>simp at h|cons b q=>simp only[zij]at h;(cases c:Nat.beq j d with|false=>rw[c]at h;cases h|true=>rw[c]at h;simp only[cond_true,qD,ieq,qK]at h;rw[kO]at c;rw[c,h.1,zDo h.2])
 |[(i,j)],(e,d)::b::q,h=>by simp only[zij]at h;cases c:Nat.beq j d<;>rw [c]at h<;>simp at h
 |[],_::_,h=>by simp[zij]at h
 |[_],[],h=>by simp[zij]at h
 |_::_::_,[],h=>by simp[zij]at h
theorem zIm {B:Bnd}{base b r:Nat}(h:zzI B base b r=true):∃k,r=base+k/\zl B.r k=some b:=by simp only[zzI,qD,Nat.ble_eq]at h;obtain⟨d,a⟩:=h;split at a;{rename_i v c;rw[kO]at a;subst a;exact⟨r-base,by omega,c⟩};{cases a}
theorem zHh {B:Bnd}{base:Nat}{a j:At}(h:zfR B base a j=true):(∃k n,j = .i k n)\/(∃x,j = .b x)\/j = .bad\/zpq B base a j:=by cases j with|bad=>exact .inr (.inr (.inl rfl))|i k n=>exact .inl ⟨k,n,rfl⟩|b x=>exact .inr (.inl ⟨x,rfl⟩)|sl r p=>(cases a with|sl g y =>simp only[zfR]at h;(cases e:zzI B base g r with|false=>rw[e]at h;cases h|true=>rw[e]at h;obtain⟨k,m,d⟩:=zIm e;exact .inr (.inr (.inr ⟨k,g,by rw[zDo h],m,d⟩)))|_=>simp[zfR]at h)|lp l o=>(cases a with|lp C s =>simp only[zfR,qD,Nat.ble_eq,kO]at h;obtain⟨⟨m,u⟩,d⟩:=h;subst u;split at d;{rename_i v w;rw[kO]at d;subst d;exact .inr (.inr (.inr ⟨l-base,v,rfl,by omega,w⟩))};{cases d}|_=>simp[zfR]at h)|ep r p i o=>(cases a with|ep g y A s =>simp only[zfR]at h;(cases e:zzI B base g r with|false=>rw[e]at h;cases h|true=>(cases q:Nat.beq s o with|false=>rw[e,q]at h;cases h|true=>rw[e,q]at h;simp only[Bool.and_self,cond_true,qD,ieq,qK]at h;rw[kO]at q;obtain⟨k,m,d⟩:=zIm e;exact .inr (.inr (.inr ⟨k,g,by rw[zDo h.2,h.1,q],m,d⟩))))|_=>simp[zfR]at h)|fn f c=>cases a<;>simp [zfR]at h|kp r J t=>(cases a with|kp g z D =>simp only[zfR,qD,qK,q0]at h;obtain⟨k,m,d⟩:=zIm h.1;exact .inr (.inr (.inr ⟨k,g,by rw[h.2.1,h.2.2],m,d⟩))|_=>simp[zfR]at h)
theorem zw8 {B:Bnd}{base:Nat}:∀{l m:List At},zFb B base l m=true->l.length=m.length/\∀(i:Nat) (a b:At),l[i]?=some a->m[i]?=some b->zfR B base a b=true
 |[],[],_=>⟨rfl,fun i a b h=>by simp at h⟩
 |a::l,b::m,h=>by simp only[zFb,qD]at h;obtain⟨e,f⟩:=zw8 h.2;refine⟨by simp[e],fun i x y c d=>?_⟩;cases i with|zero=>simp at c d;subst c d;exact h.1|succ i=>exact f i x y (by simpa using c) (by simpa using d)
 |[],_::_,h=>by cases h
 |_::_,[],h=>by cases h
theorem zw9 {B:Bnd}{base:Nat}:∀{l m:List TV},zFc B base l m=true->l.length=m.length/\∀(i:Nat) (a b:TV),l[i]?=some a->m[i]?=some b->zDf B base a b=true
 |[],[],_=>⟨rfl,fun i a b h=>by simp at h⟩
 |a::l,b::m,h=>by simp only[zFc,qD]at h;obtain⟨e,f⟩:=zw9 h.2;refine⟨by simp[e],fun i x y c d=>?_⟩;cases i with|zero=>simp at c d;subst c d;exact h.1|succ i=>exact f i x y (by simpa using c) (by simpa using d)
 |[],_::_,h=>by cases h
 |_::_,[],h=>by cases h
theorem zDe {B:Bnd}{base:Nat}:∀{l m:List MV},zTt B base l m=true->l.length=m.length/\∀(i:Nat) (a b:MV),l[i]?=some a->m[i]?=some b->zT8 B base a b=true
 |[],[],_=>⟨rfl,fun i a b h=>by simp at h⟩
 |a::l,b::m,h=>by simp only[zTt,qD]at h;obtain⟨e,f⟩:=zDe h.2;refine⟨by simp[e],fun i x y c d=>?_⟩;cases i with|zero=>simp at c d;subst c d;exact h.1|succ i=>exact f i x y (by simpa using c) (by simpa using d)
 |[],_::_,h=>by cases h
 |_::_,[],h=>by cases h
theorem zPC {a b:Type}{f:a->b}{l:List a}{i:Nat}{x:a}(h:l[i]?=some x):(l.map f)[i]?=some (f x):=by rw[qP,h];rfl
section
variable {B:Bnd} {base:Nat} {w2:World} {st2:St} {E2:Env}
theorem zZ6 {a b:At}{v:Value}(h:zfR B base a b=true)(p:VA w st E a v)(e:VA w2 st2 E2 (zJT b) v)(m:∀(r g:Nat) (d:Root),zl B.r r=some g->st1.root (base+r)=some d->∃o,st.root g=some {d with own:=o})(j:∀(l f:Nat) (c:List At),zl B.l l=some f->zl st1.lo (base+l)=some c->∃xs,zl st.lo f=some xs):VA w st1 (newEnv B base E) b v:=by rcases zHh h with⟨k,n,rfl⟩|⟨x,rfl⟩|rfl|i;{exact e};{exact e};{trivial};{exact i.va p m j}
theorem zZ7 {x x1:TV}{v:Value}(h:zDf B base x x1=true)(y:VT w st E x v)(t:VT w2 st2 E2 (zqF zJT x1) v)(s:∀(r A:Nat) (i:Root),zl B.r r=some A->st1.root (base+r)=some i->∃o,st.root A=some {i with own:=o})(q:∀(l z:Nat) (g:List At),zl B.l l=some z->zl st1.lo (base+l)=some g->∃xs,zl st.lo z=some xs):VT w st1 (newEnv B base E) x1 v:=by cases x1 with|«at» k=>(cases x with|«at» a=>exact zZ6 h y t s q|agg l=>cases h)|agg m=>(cases x with|«at» a=>cases h|agg l=>obtain⟨p,F⟩:=zw8 (l:=l) (m:=m) h;obtain⟨G,rfl,D,n⟩:=y;obtain⟨H,e,I,C⟩:=t;cases e;refine⟨G,rfl,by rw[D,p],fun j k u c f=>?_⟩;have d:j<l.length:=(by rw[p];exact(qA.1 c).1);have b:=qB d;exact⟨(n j _ u b f).1,zZ6 (F j _ k b c) (n j _ u b f).2 (C j _ u (zPC c) f).2 s q⟩)
theorem zbba {x x1:MV}{v:Value}(h:zT8 B base x x1=true)(d:VM w st E x v)(p:VM w2 st2 E2 (zi6 zJT x1) v)(n:∀(r t:Nat) (g:Root),zl B.r r=some t->st1.root (base+r)=some g->∃o,st.root t=some {g with own:=o})(k:∀(l s:Nat) (f:List At),zl B.l l=some s->zl st1.lo (base+l)=some f->∃xs,zl st.lo s=some xs):VM w st1 (newEnv B base E) x1 v:=by
 cases x1 with
 |und=>cases x with
  |und=>exact d
  |_=>cases h
 |v J=>cases x with
  |v y=>exact zZ7 h d p n k
  |_=>cases h
 |tup m=>cases x with|tup l=>obtain⟨i,F⟩:=zw9 (l:=l) (m:=m) h;obtain⟨G,rfl,C,D⟩:=d;obtain⟨H,e,I,A⟩:=p;cases e;refine⟨G,rfl,by rw[C,i],fun j z u b q=>?_⟩;have c:j<l.length:=(by rw[i];exact(qA.1 b).1);have a:=qB c;exact zZ7 (F j _ z a b) (D j _ u a q) (A j _ u (zPC b) q) n k|_=>cases h
theorem zNl (q:∀(r x:Nat) (j:Root),zl B.r r=some x->st1.root (base+r)=some j->∃o,st.root x=some {j with own:=o})(p:∀(l u:Nat) (e:List At),zl B.l l=some u->zl st1.lo (base+l)=some e->∃xs,zl st.lo u=some xs):∀{stk a:List (List MV)} {sv:List (Array Value)},zf1 B base stk a=true->Stack w st E stk sv->Stack w2 st2 E2 (zM9 a) sv->
 Stack w st1 (newEnv B base E) a sv
 |[],[],sv,_,h,_=>by cases sv<;>first|trivial|exact h.elim
 |f::stk,g::a,sv,b,h,s=>by cases sv with|nil=>exact h.elim|cons ts sv=>simp only[zf1,qD]at b;obtain⟨k,y⟩:=zDe b.1;refine⟨⟨by rw[h.1.1,k],fun i m v d t=>?_⟩,zNl q p b.2 h.2 s.2⟩;have c:i<f.length:=(by rw[k];exact(qA.1 d).1);have n:=qB c;exact zbba (y i _ m n d) (h.1.2 i _ v n t) (s.1.2 i _ v (zPC d) t) q p
 |[],_::_,_,b,_,_=>by cases b
 |_::_,[],_,b,_,_=>by cases b
theorem z0p {a c:At}(h:zfR B base a c=true){n:Nat}(b:n∈c.ids):∃k v,n=base+k/\(zl B.r k=some v\/zl B.l k=some v):=by rcases zHh h with⟨k,m,rfl⟩|⟨x,rfl⟩|rfl|d;{simp [At.ids,zbo,zbq]at b};{simp [At.ids,zbo,zbq]at b};{simp [At.ids,zbo,zbq]at b};{exact d.ids b}
theorem zK6 {x x1:TV}(h:zDf B base x x1=true){b:At}(c:b∈zS x1):∃a,zfR B base a b=true:=by cases x1 with|«at» j=>(cases x with|«at» a=>simp only[zS,qF]at c;subst c;exact⟨a,h⟩|agg l=>cases h)|agg m=>(cases x with|«at» a=>cases h|agg l=>obtain⟨f,g⟩:=zw8 (l:=l) (m:=m) h;obtain⟨i,e⟩:=qT.1 c;have d:i<l.length:=(by rw[f];exact(qA.1 e).1);exact⟨_,g i _ b (qB d) e⟩)
theorem zHi:∀{stk d:List (List MV)},zf1 B base stk d=true->∀f∈d,∀m∈f,∀n∈m.ids,∃k v,n=base+k/\(zl B.r k=some v\/zl B.l k=some v)
 |[],[],_,f,p,_,_,_,_=>by cases p
 |g::stk,I::d,e,f,p,m,z,n,q=>by simp only[zf1,qD]at e;rcases qG.1 p with rfl|p;{obtain⟨A,C⟩:=zDe e.1;obtain⟨i,u⟩:=qT.1 z;have t:i<g.length:=(by rw[A];exact(qA.1 u).1);have c:=C i _ m (qB t) u;simp only[MV.ids,qN]at q;obtain⟨b,h,q⟩:=q;have:∃a,zfR B base a b=true:=(by generalize g[i]=x at c;cases m with|und=>simp[zbA]at h|v J=>(cases x with|v y=>exact zK6 c h|_=>cases c)|tup H=>(cases x with|tup l=>obtain⟨F,G⟩:=zw9 (l:=l) (m:=H) c;simp only[zbA,qN]at h;obtain⟨y,E,h⟩:=h;obtain⟨j,w⟩:=qT.1 E;have s:j<l.length:=(by rw[F];exact(qA.1 w).1);exact zK6 (G j _ y (qB s) w) h|_=>cases c));obtain⟨a,D⟩:=this;exact z0p D q};{exact zHi e.2 f p m z n q}
 |[],_::_,e,_,_,_,_,_,_=>by cases e
 |_::_,[],e,_,_,_,_,_,_=>by cases e
theorem z9z {a:At}{v:Value}(h:VA w st E a v):VA w2 st2 E2 (zJT (zrJ B base a)) v:=by cases a with|i k n=>exact h|b x=>exact h|sl r p=>simp only[zrJ];split<;>trivial|lp l o=>simp only[zrJ];split<;>trivial|ep r p i o=>simp only[zrJ];split<;>trivial|kp r J t=>simp only[zrJ];split<;>trivial|_=>trivial
theorem z9B {x:TV}{v:Value}(h:VT w st E x v):VT w2 st2 E2 (zqF zJT (zqF (zrJ B base) x)) v:=by cases x with|«at» a=>exact z9z h|agg l=>obtain⟨k,g,i,e⟩:=h;refine⟨k,g,by simp[i],fun j a u c f=>?_⟩;rw[qP,qP]at c;(cases d:l[j]? with|none=>rw[d]at c;cases c|some b=>rw[d]at c;cases c;exact⟨(e j b u d f).1,z9z (e j b u d f).2⟩)
theorem zbcA {m:MV}{v:Value}(h:VM w st E m v):VM w2 st2 E2 (zi6 zJT (zi6 (zrJ B base) m)) v:=by cases m with|und=>exact h|v x=>exact z9B h|tup l=>obtain⟨k,e,f,g⟩:=h;refine⟨k,e,by simp[f],fun j a u c i=>?_⟩;rw[qP,qP]at c;(cases d:l[j]? with|none=>rw[d]at c;cases c|some b=>rw[d]at c;cases c;exact z9B (g j b u d i))
theorem zJW:∀{stk:List (List MV)} {sv:List (Array Value)},Stack w st E stk sv->Stack w2 st2 E2 (zM9 (ztv B base stk)) sv
 |[],[],_=>trivial
 |f::r,ts::s,h=>by refine⟨⟨by simp[h.1.1],fun i m v a c=>?_⟩,zJW h.2⟩;rw[qP,qP]at a;cases b:f[i]? with|none=>rw[b]at a;cases a|some y=>rw[b]at a;cases a;exact zbcA (h.1.2 i y v b c)
 |[],_::_,h=>h.elim
 |_::_,[],h=>h.elim
end
theorem zNp:∀{l:List (Nat×Nat×Nat×AT)} {B b:Bnd},zNo st B l=some b->ExtB B b
 |[],B,b,h=>by cases h;exact .refl B
 |(f,s,k,a)::r,B,b,h=>by simp only[zNo]at h;split at h;{split at h;{rename_i d c;exact(zxF 0 c).1.trans (zNp h)};{cases h}};{cases h}
theorem zW2 (hS:Sim w0 S0 U st E ts sv w){T:Tmpl}{B:Bnd}{cs:List CV}(h:T.takeB st=some (B,cs))(base:Nat){stk0:List (List MV)}(a6:∀(w1:World) (st1:St) (E1:Env),Stack w1 st1 E1 (zM9 stk0) sv)(a4:zf1 B base st.stk stk0=true) :
 ∃st1 E1,T.put base cs=some st1/\Sim w0 S0 (fun n=>base<=n/\n<base+1000) {st1 with stk:=stk0} E1 ts sv w/\st1.nid=base+1000:=by
 unfold Tmpl.takeB at h;split at h
 .rename_i hn;simp only[qK]at hn;split at h
  .rename_i B1 cs1 Y;split at h
   rotate_left
   .cases h
   rename_i Bk C;split at h
   .rename_i Bx cs2 h2;split at h
    .rename_i cs3 h3;split at h
     .rename_i K;cases h;obtain⟨e1,p1⟩:=zIb base Y;obtain⟨b0,p2⟩:=zH9 base h2;have e2:=(zNp C).trans b0;obtain⟨a8,q5,q6⟩:=zIa base h3;obtain⟨a3,q1,q2,q3⟩:=p1 (cs2++cs3) (List.replicate T.n (.v (.at .bad)));obtain⟨a7,q7,q8⟩:=p2 cs3;have a5:∀{l:List (Nat×Nat)},l=[]->Inj l:=fun h k k' v C=>by subst h;cases C
      have b1:Inj B.l:=(e1.trans e2).il (a5 rfl);rw[qD]at K;obtain⟨K,Z⟩:=K;simp only[z7z,qD,qM,q0]at K;have b2:∀{r s v:Nat} {t:Ty},(r,t,true)∈T.ro->zl B.r r=some v->zl B.r s=some v->r=s:=by intro r s v t M Y h2;have g:=qM.1 (qM.1 Z _ M) _ (zmN h2);simp only[Y,kF,kO,jE] at g;rcases g with g|g;{exact g.symm};{simp at g}
      have W:∀{k v:Nat},zl B.r k=some v->base<=base+k/\base+k<base+1000:=fun h=>⟨by omega,by have:=K.1 _ (zmN h);simp only at this;omega⟩
      have V:∀{k v:Nat},zl B.l k=some v->base<=base+k/\base+k<base+1000:=fun h=>⟨by omega,by have:=K.2 _ (zmN h);simp only at this;omega⟩
      refine⟨{tm:=a3,lo:=a7,ro:=a8,stk:=[],nid:=base+1000,ep:=0},newEnv B base E,?_,?_,rfl⟩
      .simp [Tmpl.put,j9,q1,q7,q5]
      .generalize hst:({tm:=a3,lo:=a7,ro:=a8,stk:=stk0,nid:=base+1000,ep:=0}:St)=st1;have b:∀(D:Nat) (y:Root),st1.root D=some y->∃r z o,D=base+r/\zl B.r r=some z/\st.root z=some {y with own:=o}/\y.ep=none/\(y.own=true->o=true/\(r,y.t,true)∈T.ro):=by intro D y p;have:=(zbw p).1;rw[<- hst] at this;obtain⟨r,z,o,g1,q,A,S,L⟩:=q6 D y this;exact⟨r,z,o,g1,q,zgN A (.inl S),S,L⟩
       have J:∀(O:Nat) (d:List At),zl st1.lo O=some d->∃l G H,O=base+l/\zl B.l l=some G/\zl st.lo G=some H/\d.length=H.length/\∀(j:Nat) (x x1:At),H[j]?=some x->d[j]?=some x1->zpq B base x x1:=by intro O d h;rw[<- hst]at h;exact q8 O d h
       have a2:∀(r z:Nat) (y:Root),zl B.r r=some z->st1.root (base+r)=some y->∃o,st.root z=some {y with own:=o}:=by intro r z y hb p;obtain⟨r2,b4,o,g1,q,A,_⟩:=b _ y p;have:r=r2:=(by omega);subst this;rw[hb] at q;cases q;exact⟨o,A⟩
       have a0:∀(l G:Nat) (d:List At),zl B.l l=some G->zl st1.lo (base+l)=some d->∃H,zl st.lo G=some H:=by intro l G d hb h;obtain⟨l2,b3,H,g1,q,A,_⟩:=J _ d h;have:l=l2:=(by omega);subst this;rw[hb] at q;cases q;exact⟨H,A⟩
       have F:∀{r z:Nat},zl B.r r=some z->(newEnv B base E).ρ (base+r)=E.ρ z/\(newEnv B base E).φ (base+r)=E.φ z:=fun h=>by simp[newEnv,h]
       have P:∀{l G:Nat},zl B.l l=some G->(newEnv B base E).β (base+l)=E.β G:=fun h=>by simp[newEnv,h]
       have I:=hS.mem;refine⟨⟨I.os,I.tape,I.output,I.size,I.keep,?_,?_,?_,?_,?_,?_,?_,?_,?_,I.κ⟩,⟨?_,?_,?_,?_⟩,⟨?_,?_⟩,?_⟩
       .intro D y p;obtain⟨r,z,o,rfl,q,A,_,L⟩:=b D y p;rw[(F q).1,(F q).2];have:=I.rep z _ A;cases ho:y.own with
        |true=>have e:=(L ho).1;subst e;exact this
        |false=>exact this.ro
       .intro D y p x N;obtain⟨r,z,o,rfl,q,A,_⟩:=b D y p;rw[(F q).2]at N;exact I.rlt z _ A x N
       .intro D y p ho;obtain⟨r,z,o,rfl,q,A,_,L⟩:=b D y p;rw[(F q).2];have:=I.mine z _ A (L ho).1;exact this
       .intro hz D y p ho he hf;obtain⟨r,z,o,rfl,q,A,_⟩:=b D y p;rw[(F q).2];cases o with
        |true=>exact(I.mine z _ A rfl).2
        |false=>exact I.frz hz z _ A rfl he hf
       .intro D y r2 R2 p ho hR2 he hne x N;obtain⟨r,z,o,rfl,q,A,_,L⟩:=b D y p;obtain⟨s,s',o2,rfl,Q,X,_⟩:=b r2 R2 hR2;rw[(F q).2]at N;rw[(F Q).2];exact I.apart z _ s' _ A (L ho).1 X he (fun e=>hne (by subst e;rw[b2 (L ho).2 q Q])) x N
       .intro O d hl1;obtain⟨l,G,H,rfl,q,A,S,L⟩:=J O d hl1;obtain⟨f1,a9,e,Q,X,f4⟩:=I.loc G H A;rw[P q];refine⟨f1,a9,e,Q,by rw[X,S],fun j c u hc hu=>?_⟩
        have a1:j<H.length:=by rw[<- S];exact(qA.1 hc).1
        have N:=qB a1;obtain⟨f5,f6⟩:=f4 j _ u N hu;exact⟨f5,(L j _ c N hc).va f6 a2 a0⟩
       .intro O l2 d xs2 Y h2 he;obtain⟨l,G,H,rfl,q,A,_⟩:=J O d Y;obtain⟨s,s',ys,rfl,Q,X,_⟩:=J l2 xs2 h2;rw[P q,P Q]at he;have:=I.linj G s' H ys A X he;subst this;rw[b1 l s G q Q]
       .intro O d D y Y p;obtain⟨l,G,H,rfl,q,A,_⟩:=J O d Y;obtain⟨r,z,o,rfl,Q,X,_⟩:=b D y p;rw[P q,(F Q).2];exact I.lro G H z _ A X
       .intro D y e hr1 he;rw[<- hst]at hr1;obtain⟨_,_,_,_,_,_,S,_⟩:=q6 D y hr1;rw[S]at he;cases he
       .intro n R hn';rw[<- hst]at hn';obtain⟨r,z,o,rfl,q,_⟩:=q6 n R hn';exact W q
       .intro n d hn';obtain⟨l,G,H,rfl,q,A,S,L⟩:=J n d hn';refine⟨V q,fun a ha m M=>?_⟩;obtain⟨j,hj⟩:=qT.1 ha;have a1:j<H.length:=by rw[<- S];exact(qA.1 hj).1
        obtain⟨k,v,rfl,C⟩:=(L j _ a (qB a1) hj).ids M;rcases C with C|C
        .exact W C
        .exact V C
       .intro m M n hn';rw[<- hst]at M;obtain⟨i,hi⟩:=qT.1 M;rcases q3 i m hi with h|⟨x,x1,_,rfl,hc⟩
        .rw [kC]at h;split at h
         .cases h;simp[MV.ids,zbA,zS,At.ids,zbo,zbq]at hn'
         .cases h
        .rw [zdm]at hn';obtain⟨k,v,rfl,C⟩:=(hc.mono e2).ids hn';rcases C with C|C
         .exact W C
         .exact V C
       .intro f hf m M n hn';rw[<- hst]at hf;obtain⟨k,v,rfl,C⟩:=zHi a4 f hf m M n hn';rcases C with C|C
        .exact W C
        .exact V C
       .rw [<- hst]
        show ts.size=a3.length
        rw[q2,List.length_replicate,hn];exact hS.tm.1
       .intro i m v M hv;rw[<- hst]at M;rcases q3 i m M with h|⟨x,x1,N,rfl,hc⟩
        .rw [kC]at h;split at h
         .cases h;trivial
         .cases h
        .have:=hS.tm.2 i _ v N hv;exact(hc.mono e2).va this a2 a0
       .have e:st1.stk=stk0:=by rw[<- hst]
        rw[e];exact zNl a2 a0 a4 hS.stk (a6 w st1 E)
     .cases h
    .cases h
   .cases h
  .cases h
 .cases h
end
section
variable {C:Cfg} {w0 w w1:World} {S0:zX} {U:Nat->Prop} {st st1:St} {E E1:Env} {ts:Array Value} {sv:List (Array Value)}
structure DrawOk (C:Cfg):Prop where
 ok:∀(call:zgh),ztD C call->∀(ops:Array Oper) (k:St->Option Ans) (ans:Ans) (Q:Exit->Act->World->Prop) (w0:World) (S0:zX) (sv:List (Array Value)) (U0:Nat->Prop) (nid0:Nat) (U:Nat->Prop) (st:St) (E:Env) (ts:Array Value) (w:World),
  (∀(U':Nat->Prop) (st':St) (E':Env) (ts':Array Value) (w':World),Sim w0 S0 U' st' E' ts' sv w'->(∀n,U' n->U0 n\/nid0<=n)->nid0<=st'.nid->(∀n,st'.nid<=n->¬ U' n)->k st'=some ans->Q .normal {tmps:=ts',defers:=[]} w')->
  Sim w0 S0 U st E ts sv w->(∀n,U n->U0 n\/nid0<=n)->(∀n,st.nid<=n->¬ U n)->nid0<=st.nid->
  zIz C call ops k st=some ans->
  ∀t,wpOps C.P ops Q (Region.schedule (C.P.follows .mixedOrders) ops t) {tmps:=ts,defers:=[]} {w with drawn:=w.drawn+1}
structure EngOk (C:Cfg):Prop where
 cfg:CfgOk C
 ctr:CtrOk C
 graft:GraftOk C
 name:NameOk C
 draw:DrawOk C
def zXp:Ex->Exit
 |.normal=>.normal
 |.exit id=>.exit id
 |.ret=>.ret
theorem Sim.nid (b:Sim w0 S0 U st E ts sv w)(n:Nat):Sim w0 S0 U {st with nid:=n} E ts sv w:=by
 have T:Trans st E w {st with nid:=n} E w (fun _=>True):=⟨fun _ _ R h=>⟨R,h,rfl,fun _ _ h=>h⟩,fun _ _ f h=>⟨⟨f,h⟩,rfl⟩,rfl⟩;have a:=b.mem;exact⟨⟨a.os,a.tape,a.output,a.size,a.keep,a.rep,a.rlt,a.mine,a.frz,a.apart,
  fun l f r=>by obtain⟨m,d,e,p,q,g⟩:=a.loc l f r;exact⟨m,d,e,p,q,fun j c u i k=>⟨(g j c u i k).1,VA.tr T (fun _ _=>trivial) (g j c u i k).2⟩⟩,
  a.linj,a.lro,a.epo,a.κ⟩,⟨b.ids.ro,b.ids.lo,b.ids.tm,b.ids.stk⟩,Slots.tr T (fun _ _ _ _=>trivial) b.tm,Stack.tr T (fun _ _ _ _ _ _=>trivial) b.stk⟩
def Conts (d:Ans)(w0:World)(S0:zX)(sv:List (Array Value))(h:Nat->Prop)(nid0:Nat)(k:Ex->St->Option Ans)(Q:Exit->Act->World->Prop):Prop :=
 ∀(e:Ex) (c:Nat->Prop) (a:St) (g:Env) (b:Array Value) (f:World),Sim w0 S0 c a g b sv f->(∀n,c n->h n\/nid0<=n)->nid0<=a.nid->(∀n,a.nid<=n->¬ c n)->k e a=some d->Q (zXp e) {tmps:=b,defers:=[]} f
def Sound (C:Cfg)(tm:Nat->Option Tmpl)(N:Nat)(d:zgh)(b:Code):Prop :=
 ∀(k:Ex->St->Option Ans) (c:Ans) (Q:Exit->Act->World->Prop) (w0:World) (S0:zX) (sv:List (Array Value)) (e:Nat->Prop) (a:Nat),Conts c w0 S0 sv e a k Q->
  ∀(U:Nat->Prop) (st:St) (E:Env) (ts:Array Value) (w:World),Sim w0 S0 U st E ts sv w->(∀n,U n->e n\/a<=n)->a<=st.nid->(∀n,st.nid<=n->¬ U n)->
   zgT C tm N d b st k=some c->b.wp C.P Q {tmps:=ts,defers:=[]} w
theorem z2c {tm:Nat->Option Tmpl}{N:Nat}{g:zgh}{c:Code}(hb:Sound C tm N g c)(id:Nat):Sound C tm N g (.block id (.loop c)):=by
 intro k z Q w0 S0 sv U0 p S U st E ts w hS hU hn hF h;simp only[zgT]at h;split at h;{cases h}
 .rename_i T hT;split at h;{cases h}
  .rename_i B0 y hcs;split at h;{cases h}
   .rename_i s0 hs0;generalize x:ztv B0 st.nid st.stk=b at h;cases v:zf1 B0 st.nid st.stk b with
    |false=>rw[v]at h;cases h
    |true=>
    rw[v,cond_true]at h;refine wp_block (wp_loop_rounds N ?_);have W:∀(w1:World) (st1:St) (E1:Env),Stack w1 st1 E1 (zM9 b) sv:=fun w1 st1 E1=>by rw[<- x];exact zJW hS.stk
    have Z:∀(n:Nat) (s:Dat T.sig) (B:Bnd) (y:List CV) (M:Nat->Prop) (st1:St) (E1:Env) (i:Array Value) (w1:World),Sim w0 S0 M st1 E1 i sv w1->T.takeB st1=some (B,y)->zf1 B st.nid st1.stk b=true->unpack T.sig y=some s->
     iter n (fun rec s=>
      match T.put st.nid (packs T.sig s) with
      |none=>none
      |some st1=>zgT C tm N g c {st1 with stk:=b} fun e a=>match e with
       |.normal=>match T.takeB a with
        |none=>none
        |some (I,q)=>match unpack T.sig q with
         |none=>none
         |some s'=>cond (zf1 I st.nid a.stk b) (rec s') none
       |.exit l=>if l==id then k .normal a else k (.exit l) a
       |.ret=>k .ret a) s=some z->
     Code.rounds C.P c (Exit.inBlock id Q) n {tmps:=i,defers:=[]} w1:=by
     intro n
     induction n with
     |zero=>intro s B y M st1 E1 i w1 _ _ _ _ h;cases h
     |succ n ih=>
      intro s B y M st1 E1 i w1 O X A Y h;simp only[iter]at h;obtain⟨H,E2,G,R,a0⟩:=zW2 O X st.nid (stk0:=b) W A;rw[zkF _ _ _ Y,G]at h;simp only at h;rw[rounds_succ];refine hb _ z _ w0 S0 sv U0 p ?_ _ _ E2 i w1 R (fun n f=>.inr (by omega)) (by show p<=H.nid;omega) (fun n f h=>by
       have:H.nid<=n:=f;omega) h
      intro e K a J m L j t f r d;cases e with|normal=>simp only at d;split at d;{cases d};{rename_i I q D;split at d;{cases d};{rename_i s' V;cases u:zf1 I st.nid a.stk b with|false=>rw[u]at d;cases d|true=>rw[u,cond_true]at d;exact ih s' I q K a J m L j D u V d}}|exit l =>simp only at d;simp only[zXp,Exit.then,Exit.inBlock];split at d;{rename_i F;simp only[qK]at F;rw[if_pos F];exact S .normal K a J m L j t f r d};{rename_i F;simp only[qK]at F;rw[if_neg F];exact S (.exit l) K a J m L j t f r d}|ret=>exact S .ret K a J m L j t f r d
    exact Z N s0 B0 y U st E ts w hS hcs v hs0 h
theorem z0F {tm:Nat->Option Tmpl}{N:Nat}{c:zgh}{id:Nat}{a:Code}(g:∀b,a≠.loop b)(st:St)(k:Ex->St->Option Ans) :
 zgT C tm N c (.block id a) st k=zgT C tm N c a st fun e d=>match e with
  |.exit f=>if f==id then k .normal d else k (.exit f) d
  |e=>k e d:=by
 rw[zgT]
 .rfl
 .intro b hb;exact g b hb
theorem zd2 {tm:Nat->Option Tmpl}{N:Nat}{l:zgh}{a:Code}(D:Sound C tm N l a)(v:∀b,a≠.loop b)(id:Nat):Sound C tm N l (.block id a):=by intro k u Q w0 S0 sv y p s U st E ts w A B F z h;rw[z0F v]at h;refine wp_block (D _ u _ w0 S0 sv y p ?_ U st E ts w A B F z h);intro e r i q j t d f g c m;cases e with|normal=>exact s .normal r i q j t d f g c m|exit x =>simp only at m;simp only[zXp,Exit.inBlock];split at m;{rename_i n;simp only[qK]at n;rw[if_pos n];exact s .normal r i q j t d f g c m};{rename_i n;simp only[qK]at n;rw[if_neg n];exact s (.exit x) r i q j t d f g c m}|ret=>exact s .ret r i q j t d f g c m
theorem zcM (t:EngOk C){tm:Nat->Option Tmpl}{N:Nat}{M:zgh}(g:ztD C M):∀(a1:Code),Sound C tm N M a1
 |.skip=>by intro k r Q w0 S0 sv L m G U st E ts w H J K I h;simp only[zgT]at h;exact wp_skip (G .normal U st E ts w H J K I h)
 |.exit id=>by intro k r Q w0 S0 sv L m G U st E ts w H J K I h;simp only[zgT]at h;exact wp_exit (G (.exit id) U st E ts w H J K I h)
 |.ret=>by intro k r Q w0 S0 sv L m G U st E ts w H J K I h;simp only[zgT]at h;exact wp_ret (G .ret U st E ts w H J K I h)
 |.region id W false=>by
  intro k r Q w0 S0 sv L m G U st E ts w H J K I h;simp only[zgT,zQ8]at h;refine wp_region (znO t.cfg t.ctr t.graft t.name g (base:=st.nid) (V:=fun n=>L n\/m<=n) (fun n q=>.inr q) (fun S v R z P u F q D A=>G .normal S v R z P u F q D A)
   (List.range W.size) U _ E ts w (H.nid _) J (fun n q=>I n (qU (uD _ _) q)) (fun j _ n hm=>⟨I n (by have:=hm.1;omega),.inr (by have:=hm.1;omega)⟩) List.nodup_range (qU K (uD _ _)) (fun j hj=>?_) h)
  have:=kI.1 hj;show st.nid+32*j+32<=st.nid+32*W.size;omega
 |.region id W true=>by intro k r Q w0 S0 sv L m G U st E ts w H J K I h;simp only[zgT,zQ8]at h;exact wp_region_draw (t.draw.ok M g W _ r Q w0 S0 sv L m U st E ts w (fun S v R z P u F q D A=>G .normal S v R z P u F q D A) H J I K h)
 |.seq a b=>by
  intro k r Q w0 S0 sv L m G U st E ts w H J K I h;simp only[zgT]at h;split at h;{refine wp_seq (zcM t g a _ r _ w0 S0 sv L m ?_ U st E ts w H J K I h);intro e S v R z P u F q D A;cases e with|normal=>exact zcM t g b k r Q w0 S0 sv L m G S v R z P u F q D A|exit Z=>exact G (.exit Z) S v R z P u F q D A|ret=>exact G .ret S v R z P u F q D A}
  .rename_i T hT;simp only[share]at h;generalize Y:zOR T st=O at h;have a5:∀(w1:World) (st1:St) (E1:Env),Stack w1 st1 E1 (zM9 O) sv:=fun w1 st1 E1=>by rw[<- Y];exact zJW H.stk
   refine wp_seq (zcM t g a _ r _ w0 S0 sv L m ?_ U st E ts w H J K I h);intro e S v R z P u F q D A;cases e with
   |normal=>
    simp only[z8V]at A;split at A;{cases A}
    .rename_i B cs hcs;split at A;{cases A}
     .rename_i s hs;cases X:zf1 B st.nid v.stk O with
      |false=>rw[X]at A;cases A
      |true=>
       rw[X,cond_true]at A;obtain⟨a3,E2,a2,a4,a6⟩:=zW2 u hcs st.nid (stk0:=O) a5 X;simp only[z8W]at A;rw[zkF _ _ _ hs,a2]at A;exact zcM t g b k r Q w0 S0 sv L m G _ _ E2 z P a4 (fun n q=>.inr (by omega)) (by show m<=a3.nid;omega) (fun n q h=>by
        have:a3.nid<=n:=q;omega) A
   |exit Z=>exact G (.exit Z) S v R z P u F q D A
   |ret=>exact G .ret S v R z P u F q D A
 |.cond c a b=>by intro k r Q w0 S0 sv L m G U st E ts w H J K I h;simp only[zgT]at h;split at h;{rename_i x hx;have hv:=(zbG H hx).1;simp only[VA]at hv;cases x with|true=>exact wp_cond_true hv (zcM t g a k r Q w0 S0 sv L m G U st E ts w H J K I h)|false=>exact wp_cond_false hv (zcM t g b k r Q w0 S0 sv L m G U st E ts w H J K I h)};{cases h}
 |.block id (.loop a0)=>z2c (zcM t g a0) id
 |.block id .skip=>zd2 (zcM t g .skip) (fun _=>Code.noConfusion) id
 |.block id (.region i o d)=>zd2 (zcM t g (.region i o d)) (fun _=>Code.noConfusion) id
 |.block id (.seq a b)=>zd2 (zcM t g (.seq a b)) (fun _=>Code.noConfusion) id
 |.block id (.cond c a b)=>zd2 (zcM t g (.cond c a b)) (fun _=>Code.noConfusion) id
 |.block id (.block i b)=>zd2 (zcM t g (.block i b)) (fun _=>Code.noConfusion) id
 |.block id (.exit i)=>zd2 (zcM t g (.exit i)) (fun _=>Code.noConfusion) id
 |.block id .ret=>zd2 (zcM t g .ret) (fun _=>Code.noConfusion) id
 |.block id (.rangeFunc f p a b)=>zd2 (zcM t g (.rangeFunc f p a b)) (fun _=>Code.noConfusion) id
 |.block id (.scope b)=>zd2 (zcM t g (.scope b)) (fun _=>Code.noConfusion) id
 |.block id (.label l)=>zd2 (zcM t g (.label l)) (fun _=>Code.noConfusion) id
 |.block id (.goto l)=>zd2 (zcM t g (.goto l)) (fun _=>Code.noConfusion) id
 |.block id (.refuse y)=>zd2 (zcM t g (.refuse y)) (fun _=>Code.noConfusion) id
 |.loop _ | .rangeFunc .. | .scope _ | .label _ | .goto _ | .refuse _=>by intro k r Q w0 S0 sv L m G U st E ts w H J K I h;simp[zgT]at h
def zD5 (ts:Array Value):ResultVar->Sem Value
 |.tmp t=>pure (ts.getD t undef)
 |.cell a t=>do loadVar t (<- asAddr (ts.getD a undef))
theorem zsh (Q:CfgOk C)(s:Sim w0 S0 U st E ts sv w):∀(l:List ResultVar) (rs:List TV),ziP C st l=some rs->
 ∃A:List Value,(l.mapM (zD5 ts)).run C.P w = .ok A w/\rs.length=A.length/\
  (∀(k:Nat) (x:TV) (u:Value),rs[k]?=some x->A[k]?=some u->VT w st E x u)/\∀x∈rs,∀a∈zS x,∀n∈a.ids,U n
 |[],rs,h=>by cases h;exact⟨[],by simp,rfl,fun k x u h=>by simp at h,fun x h=>by simp at h⟩
 |.tmp t::r,rs,h=>by simp only[ziP]at h;split at h;{rename_i x W I S;cases h;obtain⟨A,K,L,M,N⟩:=zsh Q s r W S;have p:t<ts.size:=(by rw[s.tm.1];exact(qA.1 I).1);have Z:ts.getD t undef=ts[t]:=(by simp[Array.getD,p]);refine⟨ts[t]::A,by simp[vC,zD5,K,p],by simp[L],fun k y u c g=>?_,fun y c a i n z=>?_⟩;{cases k with|zero=>simp at c g;subst c g;exact s.tm.2 t _ _ I (by simp[p])|succ k=>exact M k y u (by simpa using c) (by simpa using g)};{rcases qG.1 c with rfl|c;{exact s.ids.tm _ (qI I) n (by simp only[MV.ids,zbA,qN];exact⟨a,i,z⟩)};{exact N y c a i n z}}};{cases h}
 |.cell t T::r,rs,h=>by simp only[ziP]at h;split at h;{rename_i l d G J W I hT S;obtain⟨A,K,L,M,N⟩:=zsh Q s r W S;obtain⟨V,_⟩:=zbG s I;have H:=Q.cty T G J hT;split at h;{rename_i O B;have F:=V.2 O B;simp only[Act.eval]at F;obtain⟨_,f,e,X,g2,Y⟩:=s.mem.loc l O B;have v:=(s.ids.lo l O B).2;split at h;{rename_i m;cases m;split at h;{rename_i a0;cases h;have q:=zoe (P:=C.P) (w:=w) H X (by omega:d+J.length<=f.size);have D:ts[t]?.getD undef = .pointer (some ⟨E.β l,d,none⟩):=(by simpa using F);refine⟨_::A,by simp[vC,zD5,K,D,asAddr,q];rfl,by simp[L],fun k y u c g=>?_,fun y c a i n z=>?_⟩;{cases k with|zero=>simp at c g;subst c g;refine⟨_,rfl,by simp;omega,fun j a u i g=>?_⟩;simp only[jI,jQ]at i;simp only[jF,jI,jQ,kU]at g;split at i;{rename_i hj;rw[if_pos hj]at g;exact Y (d+j) a u i g};{cases i}|succ k=>exact M k y u (by simpa using c) (by simpa using g)};{rcases qG.1 c with rfl|c;{exact v a (kM (jV i)) n z};{exact N y c a i n z}}};{cases h}};{rename_i m;have:G=false:=(by simpa using m);subst this;split at h;{rename_i a i;cases h;have p:d<f.size:=(by rw[g2];exact(qA.1 i).1);have hv:f[d]?=some f[d]:=(by simp[p]);have q:=zof (P:=C.P) (w:=w) H X hv;have D:ts[t]?.getD undef = .pointer (some ⟨E.β l,d,none⟩):=(by simpa using F);refine⟨f[d]::A,by simp[vC,zD5,K,D,asAddr,q],by simp[L],fun k y u c g=>?_,fun y c b R n z=>?_⟩;{cases k with|zero=>simp at c g;subst c g;exact(Y d a _ i hv).2|succ k=>exact M k y u (by simpa using c) (by simpa using g)};{rcases qG.1 c with rfl|c;{simp only [zS,qF]at R;subst R;exact v _ (qI i) n z};{exact N y c b R n z}}};{cases h}}};{cases h}};{cases h}
theorem zbaR (a:List Value):(if h:a.toArray.size=1 then a.toArray[0] else Value.tuple a.toArray)=zjb a:=by
 match a with
 |[]=>rfl
 |[x]=>rfl
 |x::y::l=>simp[zjb]
theorem zYu (l:CfgOk C)(m:Sim w0 S0 U st E ts sv w){c:Func}{rs:List TV}(h:ziP C st c.results.toList=some rs) :
 ∃b:List Value,(results c ts).run C.P w = .ok (zjb b) w/\VM w st E (zhh rs) (zjb b)/\(∀n∈(zhh rs).ids,U n):=by
 obtain⟨b,g,i,j,k⟩:=zsh l m _ rs h;refine⟨b,?_,zpN i j,fun n d=>?_⟩
 .have e:results c ts=(do let b <- c.results.mapM (zD5 ts);pure (if h:b.size=1 then b[0] else .tuple b)):=by unfold results;congr 1
  rw[e];simp only[Array.mapM_eq_mapM_toList,Sem.run_bind,Sem.run_map,g]
  show Result.ok _ w=Result.ok _ w
  rw[<- zbaR]
 .simp only [MV.ids,qN]at d;obtain⟨a,f,d⟩:=d;obtain⟨x,p,f⟩:=zpM f;exact k x p a f n d
end
section
variable {C:Cfg} {w0 w w1:World} {S0:zX} {U:Nat->Prop} {st st1:St} {E E1:Env} {ts:Array Value} {sv:List (Array Value)}
theorem zjP (hO:EngOk C){tms:FuncId->Nat->Option Tmpl}{N:Nat}{s:zgh}(B:ztD C s):ztD C (zvp C tms N s):=by
 intro f K st k G h w0 S0 U E ts sv w d R A hF Z hv hi hk;unfold zvp at h;split at h
 .rename_i fn t;split at h
  .rename_i body hb;refine ⟨⟨fn,body,t,hb⟩,calls_of_wp t hb ?_⟩;have S:Sim w0 S0 U { st with tm:=K++List.replicate (fn.ntmps-K.length) .und,stk:=st.tm :: st.stk } E (d++Array.replicate (fn.ntmps-d.size) undef) (ts :: sv) w:=by
    have T:Trans st E w {st with tm:=K++List.replicate (fn.ntmps-K.length) .und,stk:=st.tm::st.stk} E w (fun _=>True):=⟨fun _ _ R h=>⟨R,h,rfl,fun _ _ h=>h⟩,fun _ _ x h=>⟨⟨x,h⟩,rfl⟩,rfl⟩;have a:=A.mem;refine⟨⟨a.os,a.tape,a.output,a.size,a.keep,a.rep,a.rlt,a.mine,a.frz,a.apart,
     fun l x W=>by obtain⟨O,d,e,y,H,z⟩:=a.loc l x W;exact⟨O,d,e,y,H,fun j c u I J=>⟨(z j c u I J).1,VA.tr T (fun _ _=>trivial) (z j c u I J).2⟩⟩,
     a.linj,a.lro,a.epo,a.κ⟩,⟨A.ids.ro,A.ids.lo,fun m b n r=>?_,fun f t m b n r=>?_⟩,⟨?_,fun i m v b p=>?_⟩,Slots.tr T (fun _ _ _ _=>trivial) A.tm,Stack.tr T (fun _ _ _ _ _ _=>trivial) A.stk⟩
    {rcases jJ.1 b with b|b;{exact hi m b n r};{have:=(uO.1 b).2;subst this;simp[MV.ids,zbA]at r}};{rcases qG.1 t with rfl|t;{exact A.ids.tm m b n r};{exact A.ids.stk f t m b n r}};{simp [Z]};{simp only at b;by_cases X:i<K.length;{rw [qV X]at b;rw[j3 (by omega)]at p;exact VM.tr T (fun _ _=>trivial) (hv i m v b p)};{rw [qR (by omega),kC]at b;rw[kE (by omega),Array.getElem?_replicate]at p;split at b;{cases b;split at p;{cases p;rfl};{cases p}};{cases b}}}
   refine zcM hO B body _ G _ w0 S0 (ts::sv) U st.nid ?_ U _ E _ w S (fun n r=>.inl r) (qZ _) hF h;intro e U' q L a0 F g V Y Q M;have done:(match ziP C q fn.results.toList,q.stk with
    |some rs,tm::stk=>k rs {q with tm,stk}
    |_,_=>none)=some G->([]:List Deferred)=[]/\∃v,(results fn a0).run C.P F = .ok v F/\R v F:=by
    intro y;split at y
    .rename_i rs tm stk hrs hstk;obtain ⟨us,H,z,h5⟩:=zYu hO.cfg g hrs;refine ⟨rfl,zjb us,H,?_⟩;have T:Trans q L F { q with tm,stk } L F (fun _=>True):=⟨fun _ _ R h=>⟨R,h,rfl,fun _ _ h=>h⟩,fun _ _ x h=>⟨⟨x,h⟩,rfl⟩,rfl⟩;have a:=g.mem;have D:=g.stk;rw[hstk]at D;refine hk U' { q with tm,stk } L F rs (zjb us) ⟨⟨a.os,a.tape,a.output,a.size,a.keep,a.rep,a.rlt,a.mine,a.frz,a.apart,
      fun l x W=>by obtain⟨O,d,e,y,H,z⟩:=a.loc l x W;exact⟨O,d,e,y,H,fun j c u I J=>⟨(z j c u I J).1,VA.tr T (fun _ _=>trivial) (z j c u I J).2⟩⟩,
      a.linj,a.lro,a.epo,a.κ⟩,⟨g.ids.ro,g.ids.lo,fun m b n r=>g.ids.stk tm (by rw[hstk];simp) m b n r,fun f t m b n r=>g.ids.stk f (by rw[hstk];exact qX _ t) m b n r⟩,
      Slots.tr T (fun _ _ _ _=>trivial) D.1,Stack.tr T (fun _ _ _ _ _ _=>trivial) D.2⟩ V Y Q (VM.tr T (fun _ _=>trivial) z) h5 y
    .cases y
   cases e with|normal=>exact done M|exit id=>cases M|ret=>exact done M
  {cases h}
 {cases h}
theorem zNH (z:Sim w0 S0 U st E ts sv w):∀(p:List MV) (avs:List AV) (d:List Value),zco st.avOf p=some avs->d.length=p.length->(∀(i:Nat) (m:MV) (v:Value),p[i]?=some m->d[i]?=some v->VM w st E m v)->
 ∃xs,zdf false w (zA avs) xs (fun _ b=>b<w.heap.size)/\d=zbQ avs xs
 |[],avs,d,h,k,_=>by cases h;have:d=[]:=uS.1 k;subst this;exact⟨[],⟨rfl,fun i c x h=>by simp[zA]at h⟩,rfl⟩
 |K::r,avs,[],h,k,_=>by simp at k
 |K::r,avs,x::d,h,k,I=>by simp only[zco]at h;split at h;{rename_i Q f;split at h;{rename_i g P;cases h;obtain⟨xs,q,H⟩:=zNH z r g d P (by simpa using k) (fun i m v y F=>I (i+1) m v (by simpa using y) (by simpa using F));have J:=I 0 K x rfl rfl;unfold St.avOf at f;split at f;{rename_i a;split at f;{rename_i c M;cases f;obtain⟨y,F⟩:=zsV z M J;refine⟨x::xs,?_,by simp[zbQ,H]⟩;have e:zA (AV.one c::g)=[c]++zA g:=(by simp[zA,AV.cvs]);rw[e];refine zdf.append (x1:=[x]) ⟨rfl,fun i L u j s=>?_⟩ q;cases i with|zero=>simp at j s;subst j s;exact y|succ i=>simp at j};{cases f}};{rename_i l;split at f;{rename_i t A;cases f;obtain⟨p,C,B,D⟩:=J;obtain⟨k,N⟩:=zl8 A;have n:p.toList.length=t.length:=(by simp[B,k]);refine⟨p.toList++xs,?_,?_⟩;{have e:zA (AV.agg t::g)=t++zA g:=(by simp[zA,AV.cvs]);rw[e];refine zdf.append ⟨n,fun i L u j s=>?_⟩ q;have O:i<l.length:=(by rw[k];exact(qA.1 j).1);have G:=qB O;exact(zsV z (N i _ _ G j) (D i _ u G (by simpa using s)).2).1};{simp only [zbQ,C,<- n,kN,kY,H,jR]}};{cases f}};{cases f}};{cases h}};{cases h}
theorem zXF (hH:CtrOk C){f:FuncId}{I:List AV->Option (Bool×List AV)}(hf:C.ctr f=some I)(X:List MV)(st:St)(k:List TV->St->Option Ans)(L:Ans)(h:z0r f X st k I=some L) :
 ∀(w0:World) (S0:zX) (U:Nat->Prop) (E:Env) (ts:Array Value) (sv:List (Array Value)) (w:World) (d:Array Value) (R:Value->World->Prop),Sim w0 S0 U st E ts sv w->(∀n,st.nid<=n->¬ U n)->
  d.size=X.length->(∀(i:Nat) (m:MV) (v:Value),X[i]?=some m->d[i]?=some v->VM w st E m v)->(∀m∈X,∀n∈m.ids,U n)->
  (∀(Y:Nat->Prop) (y:St) (E':Env) (w':World) (rs:List TV) (v:Value),Sim w0 S0 Y y E' ts sv w'->(∀n,Y n->U n\/st.nid<=n)->st.nid<=y.nid->(∀n,y.nid<=n->¬ Y n)->
   VM w' y E' (zhh rs) v->(∀n∈(zhh rs).ids,Y n)->k rs y=some L->R v w')->
  (∃fn b,C.P.funcs[f]?=some fn/\fn.body=some b)/\Calls C.P f d w fun | .returned v,w'=>R v w'|_,_=>False:=by
 intro w0 S0 U E ts sv w d R F hF a8 hv hi hk;unfold z0r at h;split at h
 .rename_i avs G;split at h
  .rename_i c rs hr;split at h
   .rename_i S;cases N:c with
    |false=>rw[N]at h;cases h
    |true=>
     rw[N]at h hr;simp only[cond_true]at h;have S:(zA rs).length<=31:=S;obtain⟨⟨fn,b,a5,hb,a7⟩,hH⟩:=hH.ok f I hf;refine⟨⟨fn,b,a5,hb⟩,?_⟩;obtain⟨xs,a9,q⟩:=zNH F X avs d.toList G (by simpa using a8) (fun i m v D B=>hv i m v D (by simpa using B));have H:d=(zbQ avs xs).toArray:=by rw[<- q,jR]
     rw[H];refine(hH w avs xs rs a9 hr).mono ?_;intro e w' he;cases e with
     |panicked a1=>exact he.elim
     |outgrown=>exact he.elim
     |returned v=>
      obtain⟨hg,J,K,A,rfl,O⟩:=he;generalize b0:st.nid=id at *;have M:∀n,(id<=n/\n<id+31)->¬ U n:=fun n h=>hF n h.1;obtain⟨hM,hT⟩:=F.mem.addRootsO F.ids.mem (dro:=zcN (zcE f) rs id) (w1:=w')
       (E1:={E with ρ:=fun n=>if id<=n/\n<id+31 then (J[n-id]?).getD undef else E.ρ n,φ:=fun n=>if id<=n/\n<id+31 then (fun x=>n-id<(zA rs).length/\K (n-id) x) else E.φ n})
       hg.os hg.tape hg.output hg.size hg.keep (fun r R hR=>by
        obtain⟨D,t,l,B,rfl⟩:=zeG (zcE f) rs id r R hR;have p:r-id<(zA rs).length:=(qA.1 B).1;have q:id<=r/\r<id+31:=⟨D,by omega⟩
        have hy:r-id<J.length:=by rw[A.1];exact p
        refine⟨M r q,rfl,?_,fun x z=>?_⟩
        .simp only [if_pos q,qB hy,jZ];exact(A.2 _ _ _ B (qB hy)).weak (fun x z=>⟨p,z⟩)
        .simp only [if_pos q]at z;exact O.lt _ x p z.2)
       (fun r R r' R' D ho B b1 x z W=>by
        obtain⟨g1,t,l,g2,rfl⟩:=zeG (zcE f) rs id r R D;obtain⟨a2,t',l',a3,rfl⟩:=zeG (zcE f) rs id r' R' B;have p:r-id<(zA rs).length:=(qA.1 g2).1;have V:r'-id<(zA rs).length:=(qA.1 a3).1;have q:id<=r/\r<id+31:=⟨g1,by omega⟩
        have a6:id<=r'/\r'<id+31:=⟨a2,by omega⟩
        simp only[if_pos q]at z;simp only[if_pos a6]at W;have:=O.dis _ _ _ x g2 ho V z.2 W.2;omega)
       (fun n g=>by
        have q:¬ (id<=n/\n<id+31):=fun h=>M n h g;simp only[if_neg q];exact⟨trivial,trivial,trivial⟩)
      obtain⟨g1,g2⟩:=zge (w:=w') (st:={st with ro:=zcN (zcE f) rs id++st.ro}) (E:={E with ρ:=fun n=>if id<=n/\n<id+31 then (J[n-id]?).getD undef else E.ρ n,φ:=fun n=>if id<=n/\n<id+31 then (fun x=>n-id<(zA rs).length/\K (n-id) x) else E.φ n})
       rs J id A.1 (fun i c u N hu=>by
        have j:=A.2 i c u N hu;refine⟨?_,j.one⟩;have p:i<(zA rs).length:=(qA.1 N).1;cases c with
        |i k n=>exact j.int_inv
        |b x=>exact j.bool_inv
        |s t l=>
         obtain⟨⟨a,a0,hv,_⟩,_⟩:=j.len;refine⟨⟨a,_,a0,hv⟩,fun R hR=>?_⟩;have q:id<=id+i/\id+i<id+31:=⟨by omega,by omega⟩
         have e:id+i-id=i:=by omega
         simp only[zZ,if_pos q,e,hu,jZ])
      have hN:=Sim.next (dst:=none) (mv:=.und) (v:=undef) (U1:=fun n=>U n\/(id<=n/\n<id+31)) F hM hT rfl rfl (fun n h=>.inl h) (fun n R h=>by
       simp only[zbO]at h;split at h
       .rename_i Q hQ;obtain⟨D,t,l,B,_⟩:=zeG (zcE f) rs id n Q hQ;have p:n-id<(zA rs).length:=(qA.1 B).1;exact .inr ⟨D,by omega⟩
       .exact .inl (F.ids.ro n R h))
       (fun n Z g=>⟨.inl (F.ids.lo n Z g).1,fun a G m q=>.inl ((F.ids.lo n Z g).2 a G m q)⟩) rfl (fun n g=>by simp[MV.ids,zbA]at g)
      have a4:=hN.nid (id+32);have T:Trans {st with ro:=zcN (zcE f) rs id++st.ro} {E with ρ:=fun n=>if id<=n/\n<id+31 then (J[n-id]?).getD undef else E.ρ n,φ:=fun n=>if id<=n/\n<id+31 then (fun x=>n-id<(zA rs).length/\K (n-id) x) else E.φ n} w'
       {st with ro:=zcN (zcE f) rs id++st.ro,nid:=id+32} {E with ρ:=fun n=>if id<=n/\n<id+31 then (J[n-id]?).getD undef else E.ρ n,φ:=fun n=>if id<=n/\n<id+31 then (fun x=>n-id<(zA rs).length/\K (n-id) x) else E.φ n} w' (fun _=>True):=⟨fun _ _ R h=>⟨R,h,rfl,fun _ _ h=>h⟩,fun _ _ Z h=>⟨⟨Z,h⟩,rfl⟩,rfl⟩
      refine hk _ _ _ _ (zcK rs id) _ a4 (fun n h=>h.imp (fun x=>x) (fun h=>h.1)) (by show id<=id+32;omega) (fun n g h=>?_) (VM.tr T (fun _ _=>trivial) (zpN g1 g2)) (fun n g=>?_) h;{have g:id+32<=n:=g;rcases h with h|h;{exact hF n (by omega) h};{omega}};{simp only [MV.ids,qN]at g;obtain⟨a,G,g⟩:=g;obtain⟨x,z,G⟩:=zpM G;have:=zeH rs id n x a z G g;exact .inr ⟨this.1,by omega⟩}
   .cases h
  .cases h
 .cases h
theorem zii (b:EngOk C){tms:FuncId->Nat->Option Tmpl}{N:Nat}:∀D,ztD C (zru C tms N D)
 | 0=>fun f c st k a h=>by cases h
 |D+1=>fun f c st k a h=>by simp only[zru]at h;split at h;{rename_i e d;exact zXF b.ctr d c st k a h};{exact zjP b (zii b D) f c st k a h}
theorem Given.append {x1 y:List At}{u c2:List CV}{q s:List Nat}(f:Given st x1 u q)(i:Given st y c2 s)(v:∀k∈q,k∉s):Given st (x1++y) (u++c2) (q++s):=by have mem:∀{x:List At} {c:List CV} {t:List Nat},Given st x c t->∀{k r:Nat},x[k]?=some (At.sl r [])->r∈t:=(by intro x c t z k r e;rcases z.get k _ e with⟨_,_,h,_⟩|⟨_,h,_⟩|⟨C,_,h,_,A,_⟩;{cases h};{cases h};{cases h;exact A});refine⟨by simp[f.len,i.len],fun r B=>(jJ.1 B).elim (f.own r) (i.own r),fun k a j=>?_,fun k w r e b=>?_⟩;{by_cases d:k<x1.length;{rw [qV d]at j;rw[qV (by rw[f.len];exact d)];rcases f.get k a j with h|h|⟨r,R,l,m,n,p⟩;{exact .inl h};{exact .inr (.inl h)};{exact .inr (.inr ⟨r,R,l,m,by simp[n],p⟩)}};{rw [qR (by omega)]at j;rw[qR (by rw[f.len];omega),f.len];rcases i.get _ a j with h|h|⟨r,R,l,m,n,p⟩;{exact .inl h};{exact .inr (.inl h)};{exact .inr (.inr ⟨r,R,l,m,by simp[n],p⟩)}}};{by_cases d:k<x1.length<;>by_cases g:w<x1.length;{rw [qV d]at e;rw[qV g]at b;exact f.inj k w r e b};{rw [qV d]at e;rw[qR (by omega)]at b;exact absurd (mem i b) (v r (mem f e))};{rw [qR (by omega)]at e;rw[qV g]at b;exact absurd (mem i e) (v r (mem f b))};{rw [qR (by omega)]at e;rw[qR (by omega)]at b;have:=i.inj _ _ r e b;omega}}
theorem zhS:∀(l:List TV) (seen:List Nat) (rs:Ans) (us:List Value),zqn st l seen=some rs->l.length=us.length->(∀(k:Nat) (x:TV) (u:Value),l[k]?=some x->us[k]?=some u->VT w st E x u)->
 ∃(f:List At) (t:List Value) (ks:List Nat),Given st f (zA rs) ks/\t.length=f.length/\(∀(k:Nat) (a:At) (u:Value),f[k]?=some a->t[k]?=some u->VA w st E a u)/\us=zbQ rs t/\(∀k∈ks,k∉seen)/\f=l.flatMap zS
 |[],seen,rs,us,h,A,_=>by
  cases h;cases us with
  |nil=>exact⟨[],[],[],⟨rfl,fun r T=>by simp at T,fun k a h=>by simp at h,fun k U r h=>by simp at h⟩,rfl,fun k a u h=>by simp at h,rfl,fun k h=>by simp at h,rfl⟩
  |cons u us=>simp at A
 |x::r,seen,rs,us,h,A,Q=>by
  cases us with
  |nil=>simp at A
  |cons u us=>have D:=Q 0 x u rfl rfl;have F:∀(k:Nat) (y:TV) (z:Value),r[k]?=some y->us[k]?=some z->VT w st E y z:=fun k y z R S=>Q (k+1) y z (by simpa using R) (by simpa using S);rcases x with a|P;{simp only [zqn]at h;split at h;{rename_i c ks hg;split at h;{rename_i d;split at h;{rename_i s p;cases h;obtain⟨_,G⟩:=zrA _ _ _ _ _ hg;obtain⟨f,t,q,I,J,K,L,v,M⟩:=zhS r _ s us p (by simpa using A) F;refine⟨a::f,u::t,ks++q,?_,by simp[J],fun k b z m j=>?_,by simp[zbQ,L],fun k g=>?_,by simp[M,zS]⟩;{have e:zA (AV.one c::s)=[c]++zA s:=(by simp[zA,AV.cvs]);rw[e];exact Given.append (x1:=[a]) G I (fun k g n=>v k n (j5 _ g))};{cases k with|zero=>simp at m j;subst m j;exact D|succ k=>exact K k b z (by simpa using m) (by simpa using j)};{rcases jJ.1 g with g|g;{simp only [qM,jE,jN,decide_eq_false_iff_not]at d;exact d k g};{exact fun h=>v k g (kH _ h)}}};{cases h}};{cases h}};{cases h}};{simp only [zqn]at h;split at h;{rename_i H ks hg;split at h;{rename_i d;split at h;{rename_i s p;cases h;obtain⟨_,G⟩:=zrA _ _ _ _ _ hg;obtain⟨f,t,q,I,J,K,L,v,M⟩:=zhS r _ s us p (by simpa using A) F;obtain⟨O,rfl,i,N⟩:=D;have B:O.toList.length=H.length:=(by rw[G.len];simpa using i);refine⟨P++f,O.toList++t,ks++q,?_,by simp[J,i],fun k b z m j=>?_,?_,fun k g=>?_,by simp[M,zS]⟩;{have e:zA (AV.agg H::s)=H++zA s:=(by simp[zA,AV.cvs]);rw[e];exact Given.append G I (fun k g n=>v k n (j5 _ g))};{by_cases C:k<P.length;{rw [qV C]at m;rw[qV (by simp[i];exact C)]at j;exact(N k b z m (by simpa using j)).2};{rw [qR (by omega)]at m;rw[qR (by simp[i];omega)]at j;have e:O.toList.length=P.length:=(by simp[i]);rw[e]at j;exact K _ b z m j}};{simp only [zbQ,<- B,kN,kY,<- L,jR]};{rcases jJ.1 g with g|g;{simp only [qM,jE,jN,decide_eq_false_iff_not]at d;exact d k g};{exact fun h=>v k g (kH _ h)}}};{cases h}};{cases h}};{cases h}}
theorem zzm {l:List TV}{v:Value}(h:VM w st E (zhh l) v):∃us:List Value,v=zjb us/\l.length=us.length/\∀(k:Nat) (x:TV) (u:Value),l[k]?=some x->us[k]?=some u->VT w st E x u:=by
 match l,h with
 |[],h=>obtain⟨d,rfl,c,_⟩:=h;have:d = #[]:=Array.eq_empty_of_size_eq_zero (by simpa using c);subst this;exact⟨[],rfl,rfl,fun k x u h=>by simp at h⟩
 |[x],h=>exact⟨[v],rfl,rfl,fun k y u g e=>by
  cases k with
  |zero=>simp at g e;subst g e;exact h
  |succ k=>simp at g⟩
 |x::y::l,h=>
  obtain⟨d,rfl,c,i⟩:=h;refine⟨d.toList,?_,by simp[c],fun k z u j e=>i k z u j (by simpa using e)⟩
  match f:d.toList,c with
  | [],c=>have:d.toList.length=0:=by rw[f];rfl
          simp[c] at this
  | [a],c=>have:d.toList.length=1:=by rw[f];rfl
           simp[c] at this
  |a::b::r,_=>simp only[zjb];rw[<- f,jR]
theorem ziU {f:Bool}{r:Nat}{b:Root}(h:(st.thaw f).root r=some b):∃R,st.root r=some R/\b.t=R.t/\(b=R\/(f=true/\zFt R.t=true/\R.ep=none/\b={R with own:=true})):=by cases f with|false=>exact⟨b,h,rfl,.inl rfl⟩|true=>obtain⟨i,c⟩:=zbw h;have j:∀l:List (Nat×Root),zl (l.map fun x=>(x.1,zFH x.2)) r=some b->∃R,zl l r=some R/\b=zFH R:=(by intro l;induction l with|nil=>intro h;cases h|cons a l m=>obtain⟨k,v⟩:=a;intro h;simp only[jB,zl]at h ⊢;split at h;{rename_i e;rw[if_pos e];cases h;exact⟨v,rfl,rfl⟩};{rename_i e;rw[if_neg e];exact m h});obtain⟨R,g,rfl⟩:=j st.ro i;have c:(zFH R).ep=none\/(zFH R).ep=some st.ep:=c;unfold zFH at c ⊢;(cases d:zFt R.t&&R.ep.isNone with|false=>rw[d]at c;exact⟨R,zgN g c,rfl,.inl rfl⟩|true=>rw[d]at c;simp only[qD,kK]at d;exact⟨R,zgN g (.inl d.2),rfl,.inr ⟨rfl,d.1,d.2,rfl⟩⟩)
theorem zNs (c:Bool):Trans st E w (st.thaw c) E w (fun _=>True):=
 ⟨fun r _ f b=>by
  obtain⟨R,d,e,_⟩:=ziU b;exact⟨R,d,e,fun p u h=>h⟩,fun l _ a b=>⟨⟨a,by cases c<;>exact b⟩,rfl⟩,rfl⟩
theorem zV6 {f:FuncId}{t:Ty}{l:List t.den}(b:zhi f=true)(a:zFt t=true):zob f (.s t l)=false:=by simp[zob,zcE,b,a]
theorem zZF {f:FuncId}{j:List At}{cs:List CV}{ks:List Nat}(D:Mem w0 S0 st E w)(z:Given (st.thaw (zhi f)) j cs ks){k:Nat}{a:At}{c:CV}{u:Value}(F:j[k]?=some a)(p:cs[k]?=some c)(v:VA w st E a u):Rep (zob f c) w u c (aφ E a):=by rcases z.get k a F with⟨J,n,rfl,h⟩|⟨x,rfl,h⟩|⟨r,y,rfl,m,G,h⟩;{rw [p]at h;cases h;cases v;exact .i _ _ _};{rw [p]at h;cases h;cases v;exact .b _ _};{rw [p]at h;cases h;obtain⟨C,d,I⟩:=z.own r G;rw[m]at d;cases d;obtain⟨R,A,_,e⟩:=ziU m;have:=v.2 R A;simp only[zZ,qC] at this;subst this;have g:=D.rep r R A;rcases e with rfl|⟨H,q,_,rfl⟩;{rw [I]at g;cases zob f (.s y.t y.l) with|true=>exact g|false=>exact g.ro};{rw [zV6 H q];cases B:R.own with|true=>rw[B]at g;exact g.ro|false=>rw[B]at g;exact g}}
theorem z1h {t:Ty}(h:zFt t=true):t.flat=false:=by cases t<;>first|cases h|rfl
theorem z4g {f:FuncId}{e:List At}{cs:List CV}{ks:List Nat}(B:zhi f=true->¬ S0 w0.heap.size)(i:Mem w0 S0 st E w)(m:Given (st.thaw (zhi f)) e cs ks){k:Nat}{a:At}{x:Nat}(t:e[k]?=some a)(c:aφ E a x):(S0 x\/w0.heap.size<=x)/\x<w.heap.size:=by rcases m.get k a t with⟨C,n,rfl,h⟩|⟨y,rfl,h⟩|⟨r,q,rfl,g,v,h⟩;{exact c.elim};{exact c.elim};{obtain⟨s,b,A⟩:=m.own r v;rw[g]at b;cases b;obtain⟨R,j,_,d⟩:=ziU g;have c:E.φ r x:=c;refine⟨?_,i.rlt r R j x c⟩;rcases d with rfl|⟨z,l,u,rfl⟩;{exact(i.mine r q j A).2 x c};{cases p:R.own with|true=>exact(i.mine r R j p).2 x c|false=>exact i.frz (B z) r R j p u (z1h l) x c}}
theorem zZE {f:FuncId}{m:List At}{cs:List CV}{ks:List Nat}(K:Mem w0 S0 st E w)(s:Given (st.thaw (zhi f)) m cs ks){i j:Nat}{a b:At}{c:CV}{x:Nat}(L:m[i]?=some a)(M:m[j]?=some b)(V:cs[i]?=some c)(P:zob f c=true)(A:aφ E a x)(d:aφ E b x):i=j:=by rcases s.get i a L with⟨X,n,rfl,h⟩|⟨y,rfl,h⟩|⟨r,Y,rfl,u,W,h⟩;{exact A.elim};{exact A.elim};{rcases s.get j b M with⟨X,n,rfl,J⟩|⟨y,rfl,J⟩|⟨q,S,rfl,v,D,J⟩;{exact d.elim};{exact d.elim};{obtain⟨Q,k,F⟩:=s.own r W;rw[u]at k;cases k;obtain⟨T,l,G⟩:=s.own q D;rw[v]at l;cases l;obtain⟨R,U,_,p⟩:=ziU u;obtain⟨I,t,_,g⟩:=ziU v;have A:E.φ r x:=A;have d:E.φ q x:=d;have B:R.own=true:=(by rcases p with rfl|⟨O,z,N,rfl⟩;{exact F};{rw [V]at h;cases h;rw[zV6 O z]at P;cases P});have C:I.ep=none:=(by rcases g with rfl|⟨O,z,N,rfl⟩;{exact(K.mine q S t G).1};{exact N});have H:r=q:=(by by_cases e:r=q;{exact e};{exact absurd d (K.apart r R q I U B t C e x A)});subst H;exact s.inj i j r L M}}
theorem zBo (hO:EngOk C){f:FuncId}{a4:List AV->Option (Bool×List AV)}(hf:FnOk C.P f)(h:∀(avs:List AV) (rs:List AV),(∃w xs,zdf false w (zA avs) xs (fun _ b=>b<w.heap.size))->a4 avs=some (true,rs)->∃tms N D,evalFn C tms N D f avs=some rs):Holds C.P f a4:=by
 refine⟨hf,fun w avs xs rs y a1=>?_⟩;obtain⟨tms,N,D,F⟩:=h avs rs ⟨w,xs,y⟩ a1;unfold evalFn at F;cases L:zhi f && !(zpE avs) with
 |true=>rw[L]at F;cases F
 |false=>
 rw[L,cond_false]at F;have p:∀(r:Nat) (R:Root),zl (zcN zug avs 0) r=some R->∃t l,(zA avs)[r]?=some (.s t l)/\R=⟨t,l,false,none⟩:=(by intro r R q;obtain⟨_,t,l,h2,h3⟩:=zeG zug avs 0 r R q;exact⟨t,l,by simpa using h2,h3⟩);generalize d:({tm:=[],lo:=[],ro:=zcN zug avs 0,stk:=[],nid:=(avs.flatMap AV.cvs).length,ep:=0}:St)=st at F;have M:∀(r:Nat) (R:Root),st.root r=some R->∃t l,(zA avs)[r]?=some (.s t l)/\R=⟨t,l,false,none⟩:=(by intro r R q;have:=(zbw q).1;rw[<- d] at this;exact p r R this);have J:∀l,zl st.lo l=none:=fun l=>(by rw[<- d];rfl);let E:Env:={ρ:=fun n=>(xs[n]?).getD undef,φ:=fun _ b=>b<w.heap.size,β:=fun _=>0,κ:=w}
 have hS:Sim w (fun x=>zhi f=false/\x=w.heap.size) (fun n=>n<(zA avs).length) st E #[] [] w:=by
  refine⟨⟨rfl,rfl,rfl,qZ _,fun _ _ _=>rfl,fun r R q=>?_,fun r R _ x g=>g,fun r R q X=>?_,fun hz r R q X V b1=>?_,fun r R r' R' q X=>?_,fun l cs Q=>?_,fun l l' cs c3 Q=>?_,fun l cs r R Q=>?_,fun r R e q V=>?_,rfl⟩,⟨fun n R H=>?_,fun n cs H=>?_,fun m B=>?_,fun f hf=>?_⟩,⟨?_,fun i m v B=>?_⟩,?_⟩;{obtain⟨t,l,G,rfl⟩:=M r R q;have b4:r<xs.length:=(by rw[y.1];exact(qA.1 G).1);have g:=qB b4;show Rep false w ((xs[r]?).getD undef) (.s t l) _;rw[g];exact y.2 r _ _ G g};{obtain⟨t,l,G,rfl⟩:=M r R q;cases X}
  .obtain⟨t,l,G,rfl⟩:=M r R q;exfalso;cases hq:zhi f with
   |false=>exact hz ⟨hq,rfl⟩
   |true=>
    rw[hq,uH]at L;have b0:zpE avs=true:=(by simpa using L);have:=qM.1 b0 (.s t l) (qI G);simp only at this;rw[show t.flat=false from b1] at this;cases this
  {obtain⟨t,l,G,rfl⟩:=M r R q;cases X};{rw [J]at Q;cases Q};{rw [J]at Q;cases Q};{rw [J]at Q;cases Q};{rw [<- d]at q;obtain⟨t,l,G,rfl⟩:=p r R q;cases V};{rw [<- d]at H;obtain⟨t,l,G,_⟩:=p n R H;exact(qA.1 G).1};{rw [J]at H;cases H};{rw [<- d]at B;simp at B};{rw [<- d]at hf;simp at hf};{rw [<- d];rfl};{rw [<- d]at B;simp at B};{rw [<- d];trivial}
 obtain⟨b2,b3⟩:=zge (w:=w) (st:=st) (E:=E) avs xs 0 y.1 (fun i c u hc Y=>by
  have hr:=y.2 i c u hc Y;refine⟨?_,hr.one⟩;cases c with
  |i k n=>exact hr.int_inv
  |b x=>exact hr.bool_inv
  |s t l=>
   obtain⟨⟨a,a6,hv,_⟩,_⟩:=hr.len;refine⟨⟨a,_,a6,hv⟩,fun R q=>?_⟩;have e:0+i=i:=by omega
   show some ((xs[0+i]?).getD undef)=some u
   rw[e,Y];rfl)
 have c2:st.nid=(zA avs).length:=by rw[<- d];rfl
 obtain⟨_,I⟩:=zjP hO (zii hO (tms:=tms) (N:=N) D) f _ st _ rs F w (fun x=>zhi f=false/\x=w.heap.size) _ E #[] [] w (zbQ avs xs).toArray
  (fun v T=>Grown w T/\∃(ys:List Value) (K:Nat->zX),ztp (zob f) T (zA rs) ys K/\v=zjb (zbQ rs ys)/\FreshO (zob f) w T (zA rs) K) hS (fun n H h=>by omega)
  (by simp[b2]) (fun i m v B hv=>by
   rw[qP]at B;cases g:(zcK avs 0)[i]? with
   |none=>rw[g]at B;cases B
   |some x=>rw[g]at B;cases B;exact b3 i x v g (by simpa using hv))
  (fun m B n H=>by
   obtain⟨x,g,rfl⟩:=jD.1 B;simp only[MV.ids,zbA,qN]at H;obtain⟨a,z,H⟩:=H;have:=(zeH avs 0 n x a g z H).2;omega)
  (fun U' a5 E' T c0 v a9 _ _ _ hv _ a0=>by
   obtain⟨us,rfl,b5,b6⟩:=zzm hv;have TT:=zNs (st:=a5) (E:=E') (w:=T) (zhi f);obtain⟨S,ys,ks,U,b7,b8,rfl,_,c1⟩:=zhS c0 [] rs us a0 b5 (fun k x u g Y=>VT.tr TT (fun _ _ _ _=>trivial) (b6 k x u g Y));have O:=a9.mem;have A:∀i,i<(zA rs).length->∃a,S[i]?=some a:=fun i W=>⟨_,qB (by rw[<- U.len];exact W)⟩
   have a3:∀(k:Nat) (a:At) (u:Value),S[k]?=some a->ys[k]?=some u->VA T a5 E' a u:=fun k a u z Y=>by have h:=b8 k a u z Y;rcases U.get k a z with⟨_,_,rfl,_⟩|⟨_,rfl,_⟩|⟨r,R1,rfl,Z,B,_⟩;{exact h};{exact h};{obtain⟨R0,a8,ht,_⟩:=ziU Z;refine⟨h.1,fun R q=>?_⟩;rw[a8]at q;cases q;have:=h.2 R1 Z;simpa [zZ] using this}
   have b9:zhi f=true->¬ (zhi f=false/\w.heap.size=w.heap.size):=fun h h'=>by rw[h]at h';cases h'.1
   refine⟨⟨O.os,O.tape,O.output,O.size,fun b hb=>O.keep b hb (fun h=>by have:=h.2;omega)⟩,ys,fun i=>match S[i]? with|some a=>aφ E' a|none=>fun _=>False,⟨by rw[b7,U.len],fun i c x hc g=>?_⟩,rfl,⟨fun i x W g=>?_,fun i j c x W X hj g a2=>?_⟩⟩
   .obtain⟨a,z⟩:=A i (qA.1 hc).1;simp only[z];exact zZF O U z hc (a3 i a x z g)
   .obtain⟨a,z⟩:=A i W;simp only[z]at g;obtain⟨G,h2⟩:=z4g b9 O U z g;exact⟨G.elim (fun h=>by omega) (fun h=>h),h2⟩
   .obtain⟨a,z⟩:=A i (qA.1 W).1;obtain⟨b,hb⟩:=A j hj;simp only[z]at g;simp only[hb]at a2;exact zZE O U z hb W X g a2)
 refine I.mono ?_;intro e T V;cases e with|returned v=>exact V|panicked a7=>exact V.elim|outgrown=>exact V.elim
end
section
variable {C:Cfg} {w0 w w1:World} {S0:zX} {U:Nat->Prop} {st st1:St} {E E1:Env} {ts:Array Value} {sv:List (Array Value)}
theorem zsD:∀{p q:List (Int×Nat)},zna p q=some true->p=q
 |[],[],_=>rfl
 |[],_::_,h=>by simp[zna]at h
 |_::_,[],h=>by simp[zna]at h
 |(i,j)::p,(f,g)::q,h=>by simp only[zna]at h;split at h;{rename_i a;simp only[qK]at a;split at h;{rename_i c e;simp only[qC,qD,ieq,qK]at h;obtain⟨b,d⟩:=h;subst d;rw[zsD e,b,a]};{cases h}};{cases h}
structure GivenT (st:St) (xs:List At) (cs:List CV) (ks:List Nat) (r:Nat) (p:List (Int×Nat)) (i:Int) (off:Nat):Prop where
 len:cs.length=xs.length
 own:∀q∈ks,q≠r/\∃R,st.root q=some R/\R.own=true
 get:∀(k:Nat) (a:At),xs[k]?=some a->(∃k' n,a = .i k' n/\cs[k]?=some (.i k' n))\/(∃x,a = .b x/\cs[k]?=some (.b x))\/
  (∃q R,a = .sl q []/\st.root q=some R/\q∈ks/\cs[k]?=some (.s R.t R.l))\/∃cv,a = .sl r (p++[(i,off+k)])/\st.node r (p++[(i,off+k)])=some cv/\cs[k]?=some cv
 inj:∀(k k' q:Nat),xs[k]?=some (.sl q [])->xs[k']?=some (.sl q [])->k=k'
theorem GivenT.mem {xs:List At}{cs:List CV}{ks:List Nat}{r:Nat}{p:List (Int×Nat)}{i:Int}{off:Nat}(a:GivenT st xs cs ks r p i off){k q:Nat}(b:xs[k]?=some (At.sl q [])):q∈ks:=by rcases a.get k _ b with⟨_,_,h,_⟩|⟨_,h,_⟩|⟨d,_,h,_,c,_⟩|⟨_,h,_⟩;{cases h};{cases h};{cases h;exact c};{simp at h}
theorem zrB {r:Nat}{p:List (Int×Nat)}{i:Int}:∀(xs:List At) (off:Nat) (cs:List CV) (ks:List Nat),st.give (some (r,p,i)) xs off=some (true,cs,ks)->GivenT st xs cs ks r p i off
 |[],off,cs,ks,h=>by simp only[St.give,qC,jT]at h;obtain⟨_,rfl,rfl⟩:=h;exact⟨rfl,fun q B=>by simp at B,fun k a h=>by simp at h,fun k w q h=>by simp at h⟩
 |a::xs,off,cs,ks,h=>by
  have cons:∀{y:CV} {g:List CV} {m u:List Nat},GivenT st xs g m r p i (off+1)->(∀q∈m,q∈u)->(∀q∈u,q≠r/\∃R,st.root q=some R/\R.own=true)->
   ((∃w n,a = .i w n/\y = .i w n)\/(∃x,a = .b x/\y = .b x)\/(∃q R,a = .sl q []/\st.root q=some R/\q∈u/\q∉m/\y = .s R.t R.l)\/(a = .sl r (p++[(i,off)])/\st.node r (p++[(i,off)])=some y))->
   GivenT st (a::xs) (y::g) u r p i off:=by
   intro y g m u j E D K;refine⟨by simp[j.len],D,fun k b F=>?_,fun k w q A v=>?_⟩
   .cases k with
    |zero=>simp only[qH,qC]at F;subst F;rcases K with⟨w,n,c,f⟩|⟨x,c,f⟩|⟨q,R,c,f,z,_,C⟩|⟨c,f⟩;{exact .inl ⟨w,n,c,by simp[f]⟩};{exact .inr (.inl ⟨x,c,by simp[f]⟩)};{exact .inr (.inr (.inl ⟨q,R,c,f,z,by simp[C]⟩))};{exact .inr (.inr (.inr ⟨y,c,f,by simp⟩))}
    |succ k=>rcases j.get k b (by simpa using F) with h|h|⟨q,R,c,f,z,C⟩|⟨I,c,f,z⟩;{exact .inl h};{exact .inr (.inl h)};{exact .inr (.inr (.inl ⟨q,R,c,f,E q z,C⟩))};{have e:off+1+k=off+(k+1):=(by omega);rw[e]at c f;exact .inr (.inr (.inr ⟨I,c,f,z⟩))}
   .have hnew:∀(k q:Nat),a=At.sl q []->xs[k]?≠some (At.sl q []):=by intro k q B A;rcases K with⟨w,n,c,f⟩|⟨x,c,f⟩|⟨H,R,c,f,z,C,_⟩|⟨c,f⟩;{rw [B]at c;cases c};{rw [B]at c;cases c};{rw [B]at c;cases c;exact C (j.mem A)};{rw [B]at c;simp at c}
    cases k<;>cases w<;>simp at A v
    .rfl
    .exact absurd v (hnew _ q A)
    .exact absurd A (hnew _ q v)
    .exact congrArg _ (j.inj _ _ q A v)
  simp only[St.give]at h;split at h;{cases h};{rename_i P g m hg;split at h;{rename_i k n;cases h;have j:=zrB xs (off+1) g ks hg;exact cons j (fun _ h=>h) j.own (.inl ⟨k,n,rfl,rfl⟩)};{rename_i x;cases h;have j:=zrB xs (off+1) g ks hg;exact cons j (fun _ h=>h) j.own (.inr (.inl ⟨x,rfl,rfl⟩))};{rename_i q;split at h;{rename_i R J;split at h;{rename_i d;cases h;have j:=zrB xs (off+1) g m hg;simp only[qD,jE,jN,decide_eq_false_iff_not,beq_eq_false_iff_ne]at d;refine cons j (fun H h=>by simp[h]) (fun H h=>?_) (.inr (.inr (.inl ⟨q,R,rfl,J,by simp,d.1.2,rfl⟩)));rcases qG.1 h with rfl|h;{exact⟨d.2,R,J,d.1.1⟩};{exact j.own H h}};{cases h}};{cases h}};{rename_i q Q N;split at h;{rename_i L;simp only[qK]at L;subst L;split at h;{rename_i e I M G;simp only[qC,jT,qD]at h;obtain⟨⟨c,f⟩,rfl,rfl⟩:=h;subst c f;have O:=zsD M;subst O;have j:=zrB xs (off+1) g m hg;exact cons j (fun _ h=>h) j.own (.inr (.inr (.inr ⟨rfl,G⟩)))};{cases h}};{cases h}};{cases h}}
theorem zRa:∀(p:List (Int×Nat)) {t c:Ty} {l:List t.den} {e:List c.den} {i:Int} {j:Nat} {d:CV},zgm t l p=some (.s c e)->zgm t l (p++[(i,j)])=some d->(c.cells (ix e i c.dflt))[j]?=some d
 |[],t,c,l,e,i,j,d,b,a=>by simp only[zgm,qC]at b;cases b;simp only[jU,zgm]at a;split at a;{rename_i h g f;cases a;exact f};{cases a}
 |(k,m)::p,t,c,l,e,i,j,d,b,a=>by simp only[kG,zgm]at b a;split at b;{rename_i h g f;rw[f]at a;exact zRa p b a};{cases b}
theorem zHv:∀{xs:List At} {cs:List CV} {off k:Nat} {a:At} {c:CV},xs[k]?=some a->cs[k]?=some c->c.flat=false->(∃r p,a = .sl r p/\p≠[])\/off+k∈ziv xs cs off
 |[],_,_,_,_,_,h,_,_=>by simp at h
 |_::_,[],_,_,_,_,_,h,_=>by simp at h
 |m::xs,d::cs,off,k,a,c,g,j,f=>by
  cases k with
  |zero=>simp only[qH,qC]at g j;subst g j;cases m with|sl r p=>(cases p with|nil=>right;(cases d with|i k n=>cases f|b x=>cases f|s t l=>simp[ziv])|cons q p=>exact .inl ⟨r,_,rfl,by simp⟩)|_=>right;(cases d with|i k n=>cases f|b x=>cases f|s t l=>simp[ziv])
  |succ k=>rcases zHv (xs:=xs) (cs:=cs) (off:=off+1) (k:=k) (by simpa using g) (by simpa using j) f with h|h;{exact .inl h};{right;have e:off+1+k=off+(k+1):=(by omega);rw[e]at h;cases m with|sl r p=>(cases p with|nil=>cases d<;>simp [ziv,h]|cons q p=>cases d<;>simp [ziv,h])|_=>cases d<;>simp [ziv,h]}
theorem zqq (p:List (Int×Nat))(i:Int)(j:Nat)(q:List (Int×Nat)):(cols p++[j]).isPrefixOf (cols (p++(i,j)::q))=true:=by rw[kV];exact⟨cols q,by simp[cols]⟩
theorem zki {a b:Type}(f:a->b):∀(l:List (Nat×a)) (n:Nat),zl (l.map fun x=>(x.1,f x.2)) n=(zl l n).map f
 |[],_=>rfl
 |(k,v)::l,n=>by simp only[jB,zl];split;{rfl};{exact zki f l n}
theorem zxC {r:Nat}{js:List (List Nat)}{a:At}{n:Nat}(h:n∈(zcR r js a).ids):n∈a.ids:=by cases a with|sl d q=>simp only[zcR]at h;split at h;{simp [At.ids,zbo,zbq]at h};{exact h}|ep d q i o=>simp only[zcR]at h;split at h;{simp [At.ids,zbo,zbq]at h};{exact h}|bad=>exact h|i k n=>exact h|b x=>exact h|lp l o=>exact h|fn f c=>exact h|kp d J t=>simp only[zcR]at h;cases e:Nat.beq r d<;>rw [e]at h;{exact h};{cases g:coarse js J<;>rw [g]at h;{simp [At.ids,zbo,zbq]at h};{exact h}}
theorem zzH {js J:List (List Nat)}{q:List Nat}(h:coarse js J=true)(b:J.any (fun c=>c.isPrefixOf q)=false):js.any (fun c=>c.isPrefixOf q)=false:=by rw[kP]at b ⊢;intro m e f;obtain⟨c,d,a⟩:=uB.1 (qM.1 h m e);exact b c d (kV.2 ((kV.1 a).trans (kV.1 f)))
theorem zWW {w1:World}{d:St}{E1:Env}{r:Nat}{js:List (List Nat)}(T:∀a v,VA w st E a v->VA w1 d E1 (zcR r js a) v){x:TV}{v:Value}(h:VT w st E x v):VT w1 d E1 (zlJ r js x) v:=by rcases x with a|l;{exact T a v h};{obtain⟨m,i,k,f⟩:=h;refine⟨m,i,by simp[k],fun j a u c g=>?_⟩;rw[qP]at c;cases e:l[j]? with|none=>rw[e]at c;cases c|some b=>rw[e]at c;cases c;exact⟨(f j b u e g).1,T _ _ (f j b u e g).2⟩}
theorem z7m {w1:World}{d:St}{E1:Env}{r:Nat}{js:List (List Nat)}(T:∀a v,VA w st E a v->VA w1 d E1 (zcR r js a) v){m:MV}{v:Value}(h:VM w st E m v):VM w1 d E1 (zfB r js m) v:=by cases m with|und=>exact h|v x=>exact zWW T h|tup l=>obtain⟨n,f,g,i⟩:=h;refine⟨n,f,by simp[g],fun j a u c k=>?_⟩;rw[qP]at c;(cases e:l[j]? with|none=>rw[e]at c;cases c|some b=>rw[e]at c;cases c;exact zWW T (i j b u e k))
theorem zxD {w1:World}{d:St}{E1:Env}{r:Nat}{js:List (List Nat)}(T:∀a v,VA w st E a v->VA w1 d E1 (zcR r js a) v){tm:List MV}{ts:Array Value}(h:Slots w st E tm ts):Slots w1 d E1 (tm.map (zfB r js)) ts:=by refine⟨by simp[h.1],fun i m v c f=>?_⟩;rw[qP]at c;cases e:tm[i]? with|none=>rw[e]at c;cases c|some b=>rw[e]at c;cases c;exact z7m T (h.2 i b v e f)
theorem zxE {w1:World}{b:St}{E1:Env}{r:Nat}{js:List (List Nat)}(T:∀a v,VA w st E a v->VA w1 b E1 (zcR r js a) v):∀{l:List (List MV)} {s:List (Array Value)},Stack w st E l s->Stack w1 b E1 (l.map fun f=>f.map (zfB r js)) s
 |[],[],_=>trivial
 |f::l,ts::s,h=>⟨zxD T h.1,zxE T h.2⟩
 |[],_::_,h=>h.elim
 |_::_,[],h=>h.elim
theorem zH8 {r:Nat}{js:List (List Nat)}{x:TV}{a:At}(h:a∈zS (zlJ r js x)):∃b∈zS x,a=zcR r js b:=by rcases x with b|l;{simp only [zlJ,zS,qF]at h ⊢;exact⟨b,rfl,h⟩};{simp only [zlJ,zS,jD]at h ⊢;obtain⟨b,c,rfl⟩:=h;exact⟨b,c,rfl⟩}
theorem zrn {r:Nat}{js:List (List Nat)}{m:MV}{n:Nat}(h:n∈(zfB r js m).ids):n∈m.ids:=by simp only[MV.ids,qN]at h ⊢;obtain⟨a,c,e⟩:=h;have:∃b∈zbA m,a=zcR r js b:=(by cases m with|und=>simp[zfB,zbA]at c|v x=>exact zH8 c|tup l=>simp only[zfB,zbA,qN,jD]at c ⊢;obtain⟨y,⟨x,f,rfl⟩,c⟩:=c;obtain⟨b,d,rfl⟩:=zH8 c;exact⟨b,⟨x,f,d⟩,rfl⟩);obtain⟨b,d,rfl⟩:=this;exact⟨b,d,zxC e⟩
end
section
variable {C:Cfg} {w0 w w1:World} {S0:zX} {U:Nat->Prop} {st st1:St} {E E1:Env} {ts:Array Value} {sv:List (Array Value)}
def zgH (st:St)(r:Nat)(R:Root)(m:List R.t.den)(ks:List Nat)(js:List (List Nat)):St :=
 {st with
  tm:=st.tm.map (zfB r js)
  stk:=st.stk.map fun f=>f.map (zfB r js)
  lo:=st.lo.map fun x=>(x.1,x.2.map (zcR r js))
  ro:=(r,{R with l:=m})::(moved st ks++st.ro)
  ep:=st.ep+1}
theorem zRd (hS:Sim w0 S0 U st E ts sv w){r:Nat}{R:Root}(hR:st.root r=some R)(ho:R.own=true){m:List R.t.den}{ks:List Nat}{js:List (List Nat)}{b:Nat}{S3:zX}(b7:∀q∈ks,q≠r/\∃R,st.root q=some R/\R.own=true)(d3:w1.os=w.os)(d4:w1.tape=w.tape)(b8:w1.output=w.output)(c4:w1.heap.size=w.heap.size)(hb:E.φ r b)(W:∀x,x≠b->w1.heap[x]?=w.heap[x]?)(b0:∀x,S3 x->E.φ r x\/∃q∈ks,E.φ q x)(c0:Rep true w1 (E.ρ r) (.s R.t m) S3)(b6:∀q u,zZ w R.t (E.ρ r) q=some u->js.any (fun c=>c.isPrefixOf (cols q))=false->zZ w1 R.t (E.ρ r) q=some u) :
 Sim w0 S0 U (zgH st r R m ks js) {E with φ:=fun n=>if n=r then S3 else E.φ n} ts sv w1:=by
 have C:=hS.mem;obtain⟨b9,c3⟩:=C.mine r R hR ho;have z:∀q Q,(zgH st r R m ks js).root q=some Q->
  (q=r/\Q={R with l:=m})\/(q≠r/\q∈ks/\∃B,st.root q=some B/\B.own=true/\Q={B with own:=false,ep:=some (st.ep+1)})\/(q≠r/\q∉ks/\st.root q=some Q/\Q.ep=none):=by
  intro q Q F;obtain⟨D,G⟩:=zbw F;simp only[zgH,zl]at D G;split at D
  .rename_i he;simp only[qK]at he;cases D;exact .inl ⟨he.symm,rfl⟩
  .rename_i he;simp only[qK]at he;have d:q≠r:=fun h=>he h.symm;rw[zbO]at D;split at D
   .rename_i Q' hQ';cases D;obtain⟨hm,B,g,rfl⟩:=zlg ks q _ hQ';obtain⟨_,R2,M,b4⟩:=b7 q hm;have:=(zbw M).1;rw[g] at this;cases this;exact .inr (.inl ⟨d,hm,B,M,b4,rfl⟩)
   .rename_i hnone;have I:q∉ks:=fun hm=>by have:=zMB ks q hnone hm;rw[this]at D;cases D
    refine .inr (.inr ⟨d,I,?_⟩);rcases G with G|G
    .exact⟨zgN D (.inl G),G⟩
    .have:=C.epo q Q _ D G;omega
 have a4:∀q Q,q≠r->st.root q=some Q->Q.ep=none->∀x,E.φ q x->w1.heap[x]?=w.heap[x]? :=
  fun q Q d F S x K=>W x (fun e=>C.apart r R q Q hR ho F S (fun e=>d e.symm) b hb (e ▸ K))
 have b1:∀q∈ks,∃Q,q≠r/\st.root q=some Q/\Q.own=true/\Q.ep=none:=fun q F=>by obtain⟨D,Q,G,V⟩:=b7 q F;exact⟨Q,D,G,V,(C.mine q Q G V).1⟩
 have a8:∀x,S3 x->(S0 x\/w0.heap.size<=x)/\x<w.heap.size:=by intro x K;rcases b0 x K with h|⟨q,F,h⟩;{exact⟨c3 x h,C.rlt r R hR x h⟩};{obtain⟨Q,_,G,V,_⟩:=b1 q F;exact⟨(C.mine q Q G V).2 x h,C.rlt q Q G x h⟩}
 have a7:∀q Q,q≠r->q∉ks->st.root q=some Q->Q.ep=none->∀x,S3 x->¬ E.φ q x:=by intro q Q d I F S x K;rcases b0 x K with h|⟨q2,a6,h⟩;{exact C.apart r R q Q hR ho F S (fun e=>d e.symm) x h};{obtain⟨Q2,_,G,V,_⟩:=b1 q2 a6;exact C.apart q2 Q2 q Q G V F S (fun e=>I (e ▸ a6)) x h}
 have T:∀a v,VA w st E a v->VA w1 (zgH st r R m ks js) {E with φ:=fun n=>if n=r then S3 else E.φ n} (zcR r js a) v:=by
  have a2:∀H q u Q,(r=H->js.any (fun c=>c.isPrefixOf (cols q))=false)->(zgH st r R m ks js).root H=some Q->(∀B,st.root H=some B->zZ w B.t (E.ρ H) q=some u)->zZ w1 Q.t (E.ρ H) q=some u:=(by intro H q u Q d1 S a0;rcases z H Q S with⟨rfl,rfl⟩|⟨d,X,B,g,O,rfl⟩|⟨d,I,A,L⟩;{exact b6 q u (a0 R hR) (d1 rfl)};{have:=zda (w':=w1) q (C.rep H B g) (a4 H B d g (C.mine H B g O).1);rw[this];exact a0 B g};{have:=zda (w':=w1) q (C.rep H Q A) (a4 H Q d A L);rw[this];exact a0 Q A});have c6:∀H Q,(zgH st r R m ks js).root H=some Q->∃B,st.root H=some B/\B.t=Q.t:=(by intro H Q S;rcases z H Q S with⟨rfl,rfl⟩|⟨d,X,B,g,O,rfl⟩|⟨d,I,A,L⟩;{exact⟨R,hR,rfl⟩};{exact⟨B,g,rfl⟩};{exact⟨Q,A,rfl⟩});have loc:∀l P,zl (zgH st r R m ks js).lo l=some P->∃y,zl st.lo l=some y:=by intro l P h;simp only[zgH]at h;rw[zki]at h;cases hl:zl st.lo l with|none=>rw[hl]at h;cases h|some y=>exact⟨y,rfl⟩
  intro a v hv;cases a with
  |bad=>trivial
  |i k n=>exact hv
  |b x=>exact hv
  |sl H q=>simp only[zcR];split;{trivial};{rename_i b3;refine⟨hv.1,fun Q S=>a2 H q v Q (fun e=>?_) S hv.2⟩;subst e;simpa using b3}
  |lp l d6=>refine⟨hv.1,fun P h=>?_⟩;obtain⟨y,h'⟩:=loc l P h;exact hv.2 y h'
  |ep H q i o=>simp only[zcR];split;{trivial};{rename_i b3;refine⟨hv.1,fun Q S=>?_⟩;obtain⟨B,g,ht⟩:=c6 H Q S;obtain⟨b',o',len,c8,t',D,G,V⟩:=hv.2 B g;refine⟨b',o',len,c8,t',a2 H q _ Q (fun e=>?_) S (fun R2 M=>?_),by rw[<- ht];exact G,V⟩;{subst e;simpa using b3};{rw [g]at M;cases M;exact D}}
  |kp H J t=>
   have c5:(r=H->coarse js J=true)->VA w1 (zgH st r R m ks js) {E with φ:=fun n=>if n=r then S3 else E.φ n} (.kp H J t) v:=fun hc=>by
    refine⟨hv.1,fun Q S=>?_⟩;obtain⟨B,g,ht⟩:=c6 H Q S;obtain⟨D,G,V⟩:=hv.2 B g;refine⟨ht.symm.trans D,G,fun p u hp hJ=>?_⟩;have:=a2 H p u Q (fun e=>zzH (hc e) hJ) S (fun R2 M=>by
     rw[g]at M;cases M;rw[D,G];exact V p u hp hJ)
    rw[<- ht,D] at this;rw[show E.ρ H=v from G] at this
    exact this
   simp only[zcR];cases hb:Nat.beq r H with
   |false=>exact c5 (fun e=>by subst e;simp at hb)
   |true=>cases hc:coarse js J with
    |true=>exact c5 (fun _=>hc)
    |false=>trivial
  |fn f d5=>obtain⟨vs,D,G,V⟩:=hv;refine⟨vs,D,G,fun k l u X hu=>⟨(V k l u X hu).1,fun P h=>?_⟩⟩;obtain⟨y,h'⟩:=loc l P h;exact(V k l u X hu).2 y h'
 have Z:∀l P,zl (zgH st r R m ks js).lo l=some P->∃y,zl st.lo l=some y/\P=y.map (zcR r js):=by intro l P h;simp only[zgH]at h;rw[zki]at h;cases hl:zl st.lo l with|none=>rw[hl]at h;cases h|some y=>rw[hl]at h;cases h;exact⟨y,rfl,rfl⟩
 refine⟨⟨d3.trans C.os,d4.trans C.tape,b8.trans C.output,by rw[c4];exact C.size,?_,?_,?_,?_,?_,?_,?_,?_,?_,?_,C.κ⟩,⟨?_,?_,?_,?_⟩,zxD T hS.tm,zxE T hS.stk⟩
 .intro x K hnS;refine(W x (fun e=>?_)).trans (C.keep x K hnS);subst e;rcases c3 x hb with h|h
  .exact hnS h
  .omega
 .intro q Q F;rcases z q Q F with⟨rfl,rfl⟩|⟨d,X,B,g,O,rfl⟩|⟨d,I,A,L⟩
  .simp only [if_true,ho];exact c0
  .simp only [if_neg d];exact((C.rep q B g).frame (a4 q B d g (C.mine q B g O).1)).ro
  .simp only [if_neg d];exact(C.rep q Q A).frame (a4 q Q d A L)
 .intro q Q F x K;rw[c4];rcases z q Q F with⟨rfl,rfl⟩|⟨d,X,B,g,O,rfl⟩|⟨d,I,A,L⟩
  .simp only [if_true]at K;exact(a8 x K).2
  .simp only [if_neg d]at K;exact C.rlt q B g x K
  .simp only [if_neg d]at K;exact C.rlt q Q A x K
 .intro q Q F hoq;rcases z q Q F with⟨rfl,rfl⟩|⟨d,X,B,g,O,rfl⟩|⟨d,I,A,L⟩
  .refine⟨b9,fun x K=>?_⟩;simp only[if_true]at K;exact(a8 x K).1
  .cases hoq
  .simp only [if_neg d];exact C.mine q Q A hoq
 .intro hz q Q F hoq he hf;rcases z q Q F with⟨rfl,rfl⟩|⟨d,X,B,g,O,rfl⟩|⟨d,I,A,L⟩
  .exact absurd (show R.own=false from hoq) (by rw[ho];exact Bool.noConfusion)
  .cases he
  .simp only [if_neg d];exact C.frz hz q Q A hoq he hf
 .intro q Q q' Q' F hoq hq' he hnn x K;rcases z q Q F with⟨rfl,rfl⟩|⟨d,X,B,g,O,rfl⟩|⟨d,I,A,L⟩
  .rcases z q' Q' hq' with⟨rfl,rfl⟩|⟨N,d2,R2,M,b5,rfl⟩|⟨N,a9,a1,Y⟩
   .exact absurd rfl hnn
   .cases he
   .simp only [if_true]at K;simp only[if_neg N];exact a7 q' Q' N a9 a1 Y x K
  .cases hoq
  .simp only [if_neg d]at K;rcases z q' Q' hq' with⟨rfl,rfl⟩|⟨N,d2,R2,M,b5,rfl⟩|⟨N,a9,a1,Y⟩
   .simp only [if_true];exact fun h=>a7 q Q d I A L x h K
   .cases he
   .simp only [if_neg N];exact C.apart q Q q' Q' A hoq a1 Y hnn x K
 .intro l P hl;obtain⟨y,a5,rfl⟩:=Z l P hl;obtain⟨D,c7,e,G,V,h4⟩:=C.loc l y a5;refine⟨D,c7,e,(W _ (fun e=>C.lro l y r R a5 hR (by rw[e];exact hb))).trans G,by simp[V],fun j c u hc hu=>?_⟩
  rw[qP]at hc;cases a3:y[j]? with
  |none=>rw[a3]at hc;cases hc
  |some c'=>rw[a3]at hc;cases hc;exact⟨(h4 j c' u a3 hu).1,T _ _ (h4 j c' u a3 hu).2⟩
 .intro l l' P y hl a5 he;obtain⟨c1,D,_⟩:=Z l P hl;obtain⟨c2,G,_⟩:=Z l' y a5;exact C.linj l l' c1 c2 D G he
 .intro l P q Q hl F;obtain⟨c1,D,_⟩:=Z l P hl;rcases z q Q F with⟨rfl,rfl⟩|⟨d,X,B,g,O,rfl⟩|⟨d,I,A,L⟩
  .simp only [if_true];intro K;rcases b0 _ K with h|⟨q2,a6,h⟩
   .exact C.lro l c1 q R D hR h
   .obtain⟨Q2,_,G,_,_⟩:=b1 q2 a6;exact C.lro l c1 q2 Q2 D G h
  .simp only [if_neg d];exact C.lro l c1 q B D g
  .simp only [if_neg d];exact C.lro l c1 q Q D A
 .intro q Q e F he;simp only[zgH,zl]at F
  show e<=st.ep+1
  split at F
  .cases F;simp only[b9]at he;cases he
  .rw [zbO]at F;split at F
   .rename_i Q' hQ';cases F;obtain⟨_,B,_,rfl⟩:=zlg ks q _ hQ';simp only[qC]at he;subst he;exact qZ _
   .exact uW (C.epo q Q e F he)
 .intro n Q hn;simp only[zgH,zl]at hn;split at hn
  .rename_i he;simp only[qK]at he;subst he;exact hS.ids.ro _ R (zbw hR).1
  .rw [zbO]at hn;split at hn
   .rename_i Q' hQ';obtain⟨_,B,g,_⟩:=zlg ks n Q' hQ';exact hS.ids.ro n B g
   .exact hS.ids.ro n Q hn
 .intro n P hn;obtain⟨y,D,rfl⟩:=Z n P hn;refine⟨(hS.ids.lo n y D).1,fun a ha k X=>?_⟩;obtain⟨a',c9,rfl⟩:=jD.1 ha;exact(hS.ids.lo n y D).2 a' c9 k (zxC X)
 .intro m' hm n hn;obtain⟨m0,b2,rfl⟩:=jD.1 hm;exact hS.ids.tm m0 b2 n (zrn hn)
 .intro f hf m' hm n hn;obtain⟨f0,d0,rfl⟩:=jD.1 hf;obtain⟨m0,b2,rfl⟩:=jD.1 hm;exact hS.ids.stk f0 d0 m0 b2 n (zrn hn)
theorem z3z (hC:CfgOk C)(w0 w:World)(S0:zX)(U:Nat->Prop)(st:St)(E:Env)(ts:Array Value)(sv:List (Array Value))(o:Oper)(id:Nat)(c:Bool)(c6:St)(hS:Sim w0 S0 U st E ts sv w)(h:zLk C st o=some (c,c6))(hc:c=true) :
 Goes C w0 S0 U st ts sv w o id (fun _=>c6.put o.dst .und)/\c6.nid=st.nid:=by
 subst hc;unfold zLk at h;split at h
 .rename_i T a x ho;split at h
  .rename_i agg tys y r p i off hT d I;split at h
   .rename_i R t l c cvs ks hRr X hg;split at h
    .rename_i hcond;simp only[qD,qK,q0]at hcond;obtain⟨⟨a4,d5⟩,d2⟩:=hcond;split at h
     .rename_i l' hset;split at h
      .rename_i m hput;simp only[qC,jT]at h;obtain⟨rfl,rfl⟩:=h;refine⟨?_,rfl⟩;have hG:=zrB _ _ _ _ hg;obtain⟨h1,h7⟩:=zb0 hS d;obtain⟨f6,h6⟩:=zbG hS I;obtain⟨a6,b6⟩:=VT.cells h1 (ztx d);obtain⟨b,o2,len,e9,t1,e1,e2,e3,M,e5⟩:=f6.2 R hRr;have hM:=hS.mem;have a9:=hM.rep r R hRr;rw[a4]at a9;obtain⟨t',l0,S1,f1,f2,f3,f4,f5⟩:=Rep.focus p a9 e1;have d4:zgm R.t R.l p=some (.s t l):=by obtain⟨R',a0,f9⟩:=zfo X;rw[hRr]at a0;cases a0;exact f9
       rw[d4] at f1;cases f1;rw[e2] at f2;cases f2;obtain⟨_,_,_,_,b3⟩:=f5 w l S1 (fun _ _ _=>rfl) (fun _ h _=>h) f3;generalize hv:({tmps:=ts,defers:=[]}:Act).eval x=v at *;cases f3 with
       |void _ _ _ ho=>cases ho
       |sl _ _ _ _ _ b2 e' fz V K _ hb f8 c0 a7 e8 b4 D a2 c5 d0=>
       have d3:=f8 rfl;subst d3;have a1:Rows true w t l b2 o2 b V K S1:=⟨D,a2,c5,d0⟩;have c4:v.cells.toList.length=cvs.length:=by rw[hG.len];simpa using a6
       have b1:v.cells.size=tys.length:=by rw[a6,d5]
       have a3:off+v.cells.toList.length<=t.width:=by simp[b1];exact d2
       have e6:(i.toNat+1)*t.width<=e9*t.width:=qS _ (by omega)
       rw[jL]at e6;have f0:∀u∈v.cells.toList,u.oneCell'=true:=by intro u hu;obtain⟨j,J⟩:=qT.1 hu;have g3:j<(zS y).length:=(by rw[<- a6];have:=(qA.1 J).1;simpa using this);exact(b6 j _ u (qB g3) (by simpa using J)).1
       have b0:=zoq (w:=w) (off:=o2+i.toNat*t.width+off) (hC.cty T agg tys hT) hb b1 (by omega) f0
       generalize W:w.setRow b (splice b2.toList (o2+i.toNat*t.width+off) v.cells.toList).toArray=w1 at b0;have c9:w1.heap[b]?=some (.cells (splice b2.toList (o2+i.toNat*t.width+off) v.cells.toList).toArray e' (0,0)):=by rw[<- W];exact setRow_heap w b _ _ e' _ hb
       have H:∀x,x≠b->w1.heap[x]?=w.heap[x]?:=fun x d=>by rw[<- W];exact setRow_other w b x _ d
       have c1:E.φ r b:=f4 b b4;have A:∀q∈ks,∀x,E.φ q x->¬ E.φ r x:=by intro q L x d F;obtain⟨d8,Q,hQ,Z⟩:=hG.own q L;exact d8 (hM.own_apart hQ Z hRr a4 d F)
       have a8:∀N j,N<l.length->j<t.width->¬ Hit i.toNat off v.cells.toList.length N j->∀x,K N j x->w1.heap[x]?=w.heap[x]?:=fun N j S J _ x d=>H x ((D N j x S J d).2 rfl)
       let Kn:Nat->zX:=fun k=>match (zS y)[k]? with
        |some (.sl q [])=>E.φ q
        |some (.sl _ (_::_))=>K i.toNat (off+k)
        |_=>fun _=>False
       have b5:∀k,k<v.cells.toList.length->∃a,(zS y)[k]?=some a:=fun k G=>⟨_,qB (by rw[<- a6];simpa using G)⟩
       have Y:∀k x,k<v.cells.toList.length->Kn k x->(∃q∈ks,(zS y)[k]?=some (.sl q [])/\E.φ q x)\/K i.toNat (off+k) x:=by intro k x G d;obtain⟨a,I⟩:=b5 k G;simp only[Kn,I]at d;rcases hG.get k a I with⟨_,_,rfl,_⟩|⟨_,rfl,_⟩|⟨q,Q,rfl,O,h3,h4⟩|⟨cv,rfl,_,_⟩;{exact d.elim};{exact d.elim};{exact .inl ⟨q,h3,I,d⟩};{right;cases p<;>exact d}
       have B:∀k,k<v.cells.toList.length->off+k<t.width:=fun k G=>by omega
       have c3:=Rep.setCells (w:=w) (w1:=w1) (Kn:=Kn) c0 a7 e8 a1 M c4 a3 hset c9 (fun k c u hc hu=>by
        have G:k<v.cells.toList.length:=(qA.1 hu).1;obtain⟨a,I⟩:=b5 k G;have P:=(b6 k a u I (by simpa using hu)).2
        rcases hG.get k a I with⟨_,_,rfl,O⟩|⟨_,rfl,O⟩|⟨q,Q,rfl,O,h3,h4⟩|⟨cv,rfl,O,h3⟩
        .rw [hc]at O;cases O;cases P;exact .i _ _ _
        .rw [hc]at O;cases O;cases P;exact .b _ _
        .rw [hc]at h4;cases h4;have:=P.2 Q O;simp only[zZ,qC] at this;subst this;obtain⟨d8,Q',a5,Z⟩:=hG.own q h3;rw[O]at a5;cases a5;have hr:=hM.rep q Q O;rw[Z]at hr;have b9:Kn k=E.φ q:=by simp only[Kn,I]
         rw[b9];exact hr.frame (fun x d=>H x (fun e=>A q h3 x d (e ▸ c1)))
        .have hcv:cv=c:=by rw[hc]at h3;cases h3;rfl
         subst hcv;have z:=P.2 R hRr;rw[b3]at z;obtain⟨R',a0,g0⟩:=zfo O;rw[hRr]at a0;cases a0;have b7:=zRa p d4 g0;have J:=B k G;have c2:=d0 i.toNat _ (zld M) (off+k) cv b7;have hV:=c5 i.toNat (off+k) M J;simp only[zZ]at z;rw[if_pos ⟨e3,M⟩]at z;split at z
         .rw [cell_of_block hb,hV]at z;simp only[qC]at z;subst z;have b9:Kn k=K i.toNat (off+k):=by simp only[Kn,I];cases p<;>rfl
          rw[b9];exact c2.frame (fun x d=>H x ((D _ _ x M J d).2 rfl))
         .cases z)
        a8
        (fun k x G d=>by
         rcases Y k x G d with⟨q,L,_,d⟩|d
         .exact fun e=>A q L x d (e ▸ c1)
         .exact(D _ _ x M (B k G) d).2 rfl)
        (fun k k' x G b8 d F=>by
         rcases Y k x G d with⟨q,L,g9,d⟩|d<;>rcases Y k' x b8 F with⟨q',d9,e0,F⟩|F
         .obtain⟨_,Q,hQ,Z⟩:=hG.own q L;obtain⟨_,Q',a5,c7⟩:=hG.own q' d9;have:=hM.own_apart hQ Z a5 c7 d F;subst this;exact hG.inj k k' q g9 e0
         .exact absurd (f4 x (D _ _ x M (B k' b8) F).1) (A q L x d)
         .exact absurd (f4 x (D _ _ x M (B k G) d).1) (A q' d9 x F)
         .have:=(a2 rfl _ _ _ _ x M (B k G) M (B k' b8) d F).2;omega)
        (fun k x N j G d S J g4 F=>by
         rcases Y k x G d with⟨q,L,_,d⟩|d
         .exact A q L x d (f4 x (D _ _ x S J F).1)
         .have:=a2 rfl _ _ _ _ x M (B k G) S J d F;exact g4 ⟨this.1.symm,by omega,by omega⟩)
       have c8:∀x,(x=b\/(∃N j,N<l.length/\j<t.width/\¬ Hit i.toNat off v.cells.toList.length N j/\K N j x)\/∃k,k<v.cells.toList.length/\Kn k x)->S1 x\/∃q∈ks,E.φ q x:=by intro x d;rcases d with rfl|⟨N,j,S,J,_,G⟩|⟨k,G,d⟩;{exact .inl b4};{exact .inl (D N j x S J G).1};{rcases Y k x G d with⟨q,L,_,d⟩|d;{exact .inr ⟨q,L,d⟩};{exact .inl (D _ _ x M (B k G) d).1}}
       obtain⟨m',d6,h0,g1,g2⟩:=f5 w1 l' _ (fun x d g7=>H x (fun e=>g7 (e ▸ b4))) (fun x d F=>by
        rcases c8 x d with h|⟨q,L,h⟩
        .exact h
        .exact absurd F (A q L x h)) c3
       rw[hput]at d6;cases d6;have e7:=zRd (w1:=w1) (m:=m) (js:=(ziv (zS y) cvs off).map fun j=>cols p++[j]) hS hRr a4 hG.own (by rw[<- W];rfl) (by rw[<- W];rfl) (by rw[<- W];rfl) (by rw[<- W];simp) c1 H (fun x d=>by
        rcases d with⟨d,_⟩|d
        .exact .inl d
        .rcases c8 x d with h|h
         .exact .inl (f4 x h)
         .exact .inr h) h0 (fun q u L g6=>by
        rcases zs8 p q with⟨q',rfl⟩|g5
        .rw [g2 q'];rw[b3 q']at L;refine znV a7 e8 a1 hb M c4 a3 hset c9 a8 q' (fun N j h5 he k c J d1=>?_) H L;subst he J;cases f7:c.flat with
         |true=>exact .inl rfl
         |false=>have G:k<v.cells.toList.length:=(by rw[c4];exact(qA.1 d1).1);obtain⟨a,I⟩:=b5 k G;rcases zHv (off:=off) I d1 f7 with⟨r2,p2,rfl,g8⟩|d7;{right;intro _;rcases hG.get k _ I with⟨_,_,h,_⟩|⟨_,h,_⟩|⟨q2,Q,h,_,_,_⟩|⟨cv,h,O,h3⟩;{cases h};{cases h};{cases h;exact absurd rfl g8};{cases h;obtain⟨u9,hu⟩:∃u9,v.cells.toList[k]?=some u9:=⟨_,qB G⟩;have P:=(b6 k _ u9 I (by simpa using hu)).2;have z:=P.2 R hRr;rw[b3]at z;have J:=B k G;have hV:=c5 i.toNat (off+k) M J;simp only[zZ]at z;rw[if_pos ⟨e3,M⟩]at z;split at z;{rw [cell_of_block hb,hV]at z;simp only[qC]at z;rw[hu,z]};{cases z}}};{exfalso;have h9:=kP.1 g6 (cols p++[off+k]) (jD.2 ⟨off+k,d7,rfl⟩);exact absurd (zqq p N (off+k) h5) h9}
        .exact g1 q u L (fun q' he=>absurd ⟨q',he⟩ g5))
       have g:=e7.putV (dst:=o.dst) (m:=.und) (v:=undef) rfl (fun n X=>by simp[MV.ids,zbA]at X)
       refine zvv (w':=w1) ?_ ⟨g.mem,⟨fun n R X=>.inl (g.ids.ro n R X),fun n cs X=>⟨.inl (g.ids.lo n cs X).1,fun a I m hm=>.inl ((g.ids.lo n cs X).2 a I m hm)⟩,fun m hm n X=>.inl (g.ids.tm m hm n X),fun f hf m hm n X=>.inl (g.ids.stk f hf m hm n X)⟩,g.tm,g.stk⟩;simp[execOp,ho,Instr.storeAt,e5,Instr.sureAddr,hv,b0]
      .cases h
     .cases h
    .cases h
   .cases h
  .cases h
 .cases h
theorem zXQ (hC:CfgOk C)(w0 w:World)(S0:zX)(U:Nat->Prop)(st:St)(E:Env)(ts:Array Value)(sv:List (Array Value))(o:Oper)(id:Nat)(c:Bool)(W:St)(hS:Sim w0 S0 U st E ts sv w)(h:zIE C st o=some (c,W)) :
 Goes C w0 S0 U st ts sv w o id (fun _=>W.put o.dst .und)/\W.nid=st.nid:=by
 unfold zIE at h;split at h
 .rename_i T a ho;split at h
  .rename_i agg t1 r p i off hT ha;split at h
   .rename_i R t l hRr B;split at h
    .rename_i hcond;simp only[qD,q0]at hcond;obtain⟨L,a3⟩:=hcond;split at h
     .rename_i l' hset;split at h
      .rename_i m hput;simp only[qC,jT]at h;obtain⟨rfl,rfl⟩:=h;refine⟨?_,rfl⟩;obtain⟨b6,d1⟩:=zbG hS ha;obtain⟨b,o2,len,b3,t2,e1,e2,e3,e4,e5⟩:=b6.2 R hRr;have hM:=hS.mem;have M:=hM.rep r R hRr;rw[L]at M;obtain⟨t',l0,S1,f1,f2,f3,f4,f5⟩:=Rep.focus p M e1;have c1:zgm R.t R.l p=some (.s t l):=by obtain⟨R',Z,c0⟩:=zfo B;rw[hRr]at Z;cases Z;exact c0
       rw[c1] at f1;cases f1;rw[e2] at f2;cases f2;obtain⟨_,_,_,_,b4⟩:=f5 w l S1 (fun _ _ _=>rfl) (fun _ h _=>h) f3;have hv:({tmps:=ts,defers:=[]}:Act).eval (.const (.slice none 0 0)) = .slice none 0 0:=rfl;have b1:(Value.slice none 0 0).cells.toList=[.slice none 0 0]:=rfl;cases f3 with
       |void _ _ _ ho=>cases ho
       |sl _ _ _ _ _ O e' fz V K _ hb b9 Q I a8 P G a2 c9 b7=>
       have a4:=b9 rfl;subst a4;have D:Rows true w t l O o2 b V K S1:=⟨G,a2,c9,b7⟩;have a9:(Value.slice none 0 0).cells.toList.length=[CV.s t1 []].length:=rfl;have b0:(Value.slice none 0 0).cells.size=[CTy.s t1].length:=rfl;have F:off+(Value.slice none 0 0).cells.toList.length<=t.width:=a3;have a6:(i.toNat+1)*t.width<=b3*t.width:=qS _ (by omega)
       rw[jL]at a6;have b5:∀u∈(Value.slice none 0 0).cells.toList,u.oneCell'=true:=by intro u Y;rw[b1,qF]at Y;subst Y;rfl
       have N:=zoq (w:=w) (off:=o2+i.toNat*t.width+off) (hC.cty T agg _ hT) hb b0 (by simp only[k8];omega) b5
       generalize A:w.setRow b (splice O.toList (o2+i.toNat*t.width+off) (Value.slice none 0 0).cells.toList).toArray=w1 at N;have a1:w1.heap[b]?=some (.cells (splice O.toList (o2+i.toNat*t.width+off) (Value.slice none 0 0).cells.toList).toArray e' (0,0)):=by rw[<- A];exact setRow_heap w b _ _ e' _ hb
       have y:∀x,x≠b->w1.heap[x]?=w.heap[x]?:=fun x g=>by rw[<- A];exact setRow_other w b x _ g
       have c7:E.φ r b:=f4 b P;have J:∀z j,z<l.length->j<t.width->¬ Hit i.toNat off (Value.slice none 0 0).cells.toList.length z j->∀x,K z j x->w1.heap[x]?=w.heap[x]?:=fun z j H X _ x g=>y x ((G z j x H X g).2 rfl);have S:=Rep.setCells (w:=w) (w1:=w1) (Kn:=fun _ _=>False) Q I a8 D e4 a9 F hset a1 (fun k c u hc Y=>by
        rw[b1]at Y;cases k with
        |zero=>simp at hc Y;subst hc Y;exact .nil _ _
        |succ k=>simp at hc)
        J (fun k x hk g=>g.elim) (fun k k' x hk d2 g b2=>g.elim) (fun k x z j hk g H X d3 b2=>g.elim)
       have a0:∀x,(x=b\/(∃z j,z<l.length/\j<t.width/\¬ Hit i.toNat off (Value.slice none 0 0).cells.toList.length z j/\K z j x)\/∃k,k<(Value.slice none 0 0).cells.toList.length/\False)->S1 x:=by intro x g;rcases g with rfl|⟨z,j,H,X,_,hk⟩|⟨k,hk,g⟩;{exact P};{exact(G z j x H X hk).1};{exact g.elim}
       obtain⟨m',a5,c8,c2,c3⟩:=f5 w1 l' _ (fun x g c6=>y x (fun e=>c6 (e ▸ P))) (fun x g b2=>a0 x g) S;rw[hput]at a5;cases a5;have a7:=zRd (w1:=w1) (m:=m) (ks:=[]) (js:=[cols p++[off]]) hS hRr L (fun q hq=>by cases hq) (by rw[<- A];rfl) (by rw[<- A];rfl) (by rw[<- A];rfl) (by rw[<- A];simp) c7 y (fun x g=>by
        rcases g with⟨g,_⟩|g
        .exact .inl g
        .exact .inl (f4 x (a0 x g))) c8 (fun q u hq c5=>by
        rcases zs8 p q with⟨q',rfl⟩|c4
        .rw [c3 q'];rw[b4 q']at hq;refine znV I a8 D hb e4 a9 F hset a1 J q' (fun z j d0 he k c X b8=>?_) y hq;subst he X;exfalso;cases k with
         |succ k=>simp at b8
         |zero=>have h9:=kP.1 c5 (cols p++[off]) (qF.2 rfl);exact absurd (zqq p z off d0) h9
        .exact c2 q u hq (fun q' he=>absurd ⟨q',he⟩ c4))
       have d:=a7.putV (dst:=o.dst) (m:=.und) (v:=undef) rfl (fun n B=>by simp[MV.ids,zbA]at B)
       refine zvv (w':=w1) ?_ ⟨d.mem,⟨fun n R B=>.inl (d.ids.ro n R B),fun n cs B=>⟨.inl (d.ids.lo n cs B).1,fun a ha m hm=>.inl ((d.ids.lo n cs B).2 a ha m hm)⟩,fun m hm n B=>.inl (d.ids.tm m hm n B),fun f hf m hm n B=>.inl (d.ids.stk f hf m hm n B)⟩,d.tm,d.stk⟩;simp[execOp,ho,Instr.storeAt,e5,Instr.sureAddr,hv,N]
      .cases h
     .cases h
    .cases h
   .cases h
  .cases h
 .cases h
theorem z3A (d:CfgOk C)(w0 w:World)(S0:zX)(U:Nat->Prop)(st:St)(E:Env)(ts:Array Value)(sv:List (Array Value))(o:Oper)(id:Nat)(c:Bool)(a:St)(e:Sim w0 S0 U st E ts sv w)(h:graft C st o=some (c,a))(f:c=true) :
 Goes C w0 S0 U st ts sv w o id (fun _=>a.put o.dst .und)/\a.nid=st.nid:=by
 unfold graft at h;cases b:zLk C st o with
 |some x=>rw[b]at h;cases h;exact z3z d w0 w S0 U st E ts sv o id c a e b f
 |none=>rw[b]at h;exact zXQ d w0 w S0 U st E ts sv o id c a e h
theorem zDN {n0:Nat}(c4:w0.heap.size<=n0)(c6:∀q Q,st.root q=some Q->∀x,E.φ q x->x<n0)(c3:∀l cs,zl st.lo l=some cs->E.β l<n0)(hS:Sim w0 S0 U st E ts sv w){r:Nat}{R:Root}(hR:st.root r=some R)(ho:R.own=true){m:List R.t.den}{js:List (List Nat)}{S3:zX}(c5:w1.os=w.os)(c7:w1.tape=w.tape)(a9:w1.output=w.output)(b3:w.heap.size<=w1.heap.size)(L:∀x,x<w.heap.size->¬ E.φ r x->w1.heap[x]?=w.heap[x]?)(a0:∀x,S3 x->(E.φ r x\/n0<=x)/\x<w1.heap.size)(b1:Rep true w1 (E.ρ r) (.s R.t m) S3)(a8:∀q u,zZ w R.t (E.ρ r) q=some u->js.any (fun c=>c.isPrefixOf (cols q))=false->zZ w1 R.t (E.ρ r) q=some u) :
 Sim w0 S0 U (zhg st r R m js) {E with φ:=fun n=>if n=r then S3 else E.φ n} ts sv w1:=by
 have B:=hS.mem;obtain⟨b0,b2⟩:=B.mine r R hR ho;have g:∀q Q,(zhg st r R m js).root q=some Q->(q=r/\Q={R with l:=m})\/(q≠r/\st.root q=some Q/\Q.ep=none):=by intro q Q D;obtain⟨C,G⟩:=zbw D;simp only[zhg,zl]at C G;split at C;{rename_i I;simp only[qK]at I;cases C;exact .inl ⟨I.symm,rfl⟩};{rename_i I;simp only[qK]at I;refine .inr ⟨fun h=>I h.symm,?_⟩;rcases G with G|G;{exact⟨zgN C (.inl G),G⟩};{have:=B.epo q Q _ C G;omega}}
 have a7:∀q Q,q≠r->st.root q=some Q->Q.ep=none->∀x,E.φ q x->w1.heap[x]?=w.heap[x]? :=
  fun q Q y D K x F=>L x (B.rlt q Q D x F) (fun h=>B.apart r R q Q hR ho D K (fun e=>y e.symm) x h F)
 have a2:∀q Q,q≠r->st.root q=some Q->Q.ep=none->∀x,S3 x->¬ E.φ q x:=by intro q Q y D K x F b4;rcases (a0 x F).1 with h|h;{exact B.apart r R q Q hR ho D K (fun e=>y e.symm) x h b4};{have:=c6 q Q D x b4;omega}
 have T:∀a v,VA w st E a v->VA w1 (zhg st r R m js) {E with φ:=fun n=>if n=r then S3 else E.φ n} (zcR r js a) v:=by
  have Y:∀A q u Q,(r=A->js.any (fun c=>c.isPrefixOf (cols q))=false)->(zhg st r R m js).root A=some Q->(∀R',st.root A=some R'->zZ w R'.t (E.ρ A) q=some u)->zZ w1 Q.t (E.ρ A) q=some u:=(by intro A q u Q c0 K a3;rcases g A Q K with⟨rfl,rfl⟩|⟨y,z,H⟩;{exact a8 q u (a3 R hR) (c0 rfl)};{have:=zda (w':=w1) q (B.rep A Q z) (a7 A Q y z H);rw[this];exact a3 Q z});have b6:∀A Q,(zhg st r R m js).root A=some Q->∃R',st.root A=some R'/\R'.t=Q.t:=(by intro A Q K;rcases g A Q K with⟨rfl,rfl⟩|⟨y,z,H⟩;{exact⟨R,hR,rfl⟩};{exact⟨Q,z,rfl⟩});have loc:∀l cs,zl (zhg st r R m js).lo l=some cs->∃d,zl st.lo l=some d:=by intro l cs h;simp only[zhg]at h;rw[zki]at h;cases Z:zl st.lo l with|none=>rw[Z]at h;cases h|some d=>exact⟨d,rfl⟩
  intro a v X;cases a with
  |bad=>trivial
  |i k n=>exact X
  |b x=>exact X
  |sl A q=>simp only[zcR];split;{trivial};{rename_i a6;refine⟨X.1,fun Q K=>Y A q v Q (fun e=>?_) K X.2⟩;subst e;simpa using a6}
  |lp l d0=>refine⟨X.1,fun cs h=>?_⟩;obtain⟨d,h'⟩:=loc l cs h;exact X.2 d h'
  |ep A q i o=>simp only[zcR];split;{trivial};{rename_i a6;refine⟨X.1,fun Q K=>?_⟩;obtain⟨R',O,ht⟩:=b6 A Q K;obtain⟨b',o',len,b7,t',C,G,h3⟩:=X.2 R' O;refine⟨b',o',len,b7,t',Y A q _ Q (fun e=>?_) K (fun R2 P=>?_),by rw[<- ht];exact G,h3⟩;{subst e;simpa using a6};{rw [O]at P;cases P;exact C}}
  |kp A J t=>
   have b5:(r=A->coarse js J=true)->VA w1 (zhg st r R m js) {E with φ:=fun n=>if n=r then S3 else E.φ n} (.kp A J t) v:=fun hc=>by
    refine⟨X.1,fun Q K=>?_⟩;obtain⟨R',O,ht⟩:=b6 A Q K;obtain⟨C,G,h3⟩:=X.2 R' O;refine⟨ht.symm.trans C,G,fun p u hp hJ=>?_⟩;have:=Y A p u Q (fun e=>zzH (hc e) hJ) K (fun R2 P=>by
     rw[O]at P;cases P;rw[C,G];exact h3 p u hp hJ)
    rw[<- ht,C] at this;rw[show E.ρ A=v from G] at this
    exact this
   simp only[zcR];cases hb:Nat.beq r A with
   |false=>exact b5 (fun e=>by subst e;simp at hb)
   |true=>cases hc:coarse js J with
    |true=>exact b5 (fun _=>hc)
    |false=>trivial
  |fn f c9=>obtain⟨vs,C,G,h3⟩:=X;refine⟨vs,C,G,fun k l u hk hu=>⟨(h3 k l u hk hu).1,fun cs h=>?_⟩⟩;obtain⟨d,h'⟩:=loc l cs h;exact(h3 k l u hk hu).2 d h'
 have V:∀l cs,zl (zhg st r R m js).lo l=some cs->∃d,zl st.lo l=some d/\cs=d.map (zcR r js):=by intro l cs h;simp only[zhg]at h;rw[zki]at h;cases Z:zl st.lo l with|none=>rw[Z]at h;cases h|some d=>rw[Z]at h;cases h;exact⟨d,rfl,rfl⟩
 have c8:∀l cs,zl st.lo l=some cs->E.β l<w.heap.size:=by intro l cs h;obtain⟨_,a4,e,G,_⟩:=B.loc l cs h;exact(qQ.1 G).1
 refine⟨⟨c5.trans B.os,c7.trans B.tape,a9.trans B.output,qU B.size b3,?_,?_,?_,?_,?_,?_,?_,?_,?_,?_,B.κ⟩,⟨?_,?_,?_,?_⟩,zxD T hS.tm,zxE T hS.stk⟩
 .intro x F hnS;refine(L x (jK F B.size) (fun h=>?_)).trans (B.keep x F hnS);rcases b2 x h with h|h
  .exact hnS h
  .omega
 .intro q Q D;rcases g q Q D with⟨rfl,rfl⟩|⟨y,z,H⟩
  .simp only [if_true,ho];exact b1
  .simp only [if_neg y];exact(B.rep q Q z).frame (a7 q Q y z H)
 .intro q Q D x F;rcases g q Q D with⟨rfl,rfl⟩|⟨y,z,H⟩
  .simp only [if_true]at F;exact(a0 x F).2
  .simp only [if_neg y]at F;exact jK (B.rlt q Q z x F) b3
 .intro q Q D hoq;rcases g q Q D with⟨rfl,rfl⟩|⟨y,z,H⟩
  .refine⟨b0,fun x F=>?_⟩;simp only[if_true]at F;rcases (a0 x F).1 with h|h
   .exact b2 x h
   .exact .inr (qU c4 h)
  .simp only [if_neg y];exact B.mine q Q z hoq
 .intro hz q Q D hoq I hf;rcases g q Q D with⟨rfl,rfl⟩|⟨y,z,H⟩
  .exact absurd (show R.own=false from hoq) (by rw[ho];exact Bool.noConfusion)
  .simp only [if_neg y];exact B.frz hz q Q z hoq I hf
 .intro q Q q' Q' D hoq hq' I hnn x F;rcases g q Q D with⟨rfl,rfl⟩|⟨y,z,H⟩
  .rcases g q' Q' hq' with⟨rfl,rfl⟩|⟨M,W,N⟩
   .exact absurd rfl hnn
   .simp only [if_true]at F;simp only[if_neg M];exact a2 q' Q' M W N x F
  .simp only [if_neg y]at F;rcases g q' Q' hq' with⟨rfl,rfl⟩|⟨M,W,N⟩
   .simp only [if_true];exact fun h=>a2 q Q y z H x h F
   .simp only [if_neg M];exact B.apart q Q q' Q' z hoq W N hnn x F
 .intro l cs Z;obtain⟨d,S,rfl⟩:=V l cs Z;obtain⟨C,a4,e,G,h3,h4⟩:=B.loc l d S;refine⟨C,a4,e,(L _ (c8 l d S) (fun h=>B.lro l d r R S hR h)).trans G,by simp[h3],fun j c u hc hu=>?_⟩
  rw[qP]at hc;cases a1:d[j]? with
  |none=>rw[a1]at hc;cases hc
  |some c'=>rw[a1]at hc;cases hc;exact⟨(h4 j c' u a1 hu).1,T _ _ (h4 j c' u a1 hu).2⟩
 .intro l l' cs d Z S I;obtain⟨c1,C,_⟩:=V l cs Z;obtain⟨c2,G,_⟩:=V l' d S;exact B.linj l l' c1 c2 C G I
 .intro l cs q Q Z D;obtain⟨c1,C,_⟩:=V l cs Z;rcases g q Q D with⟨rfl,rfl⟩|⟨y,z,H⟩
  .simp only [if_true];intro F;rcases (a0 _ F).1 with h|h
   .exact B.lro l c1 q R C hR h
   .have:=c3 l c1 C;omega
  .simp only [if_neg y];exact B.lro l c1 q Q C z
 .intro q Q e D I;simp only[zhg,zl]at D
  show e<=st.ep+1
  split at D
  .cases D;simp only[b0]at I;cases I
  .exact uW (B.epo q Q e D I)
 .intro n Q hn;simp only[zhg,zl]at hn;split at hn
  .rename_i I;simp only[qK]at I;subst I;exact hS.ids.ro _ R (zbw hR).1
  .exact hS.ids.ro n Q hn
 .intro n cs hn;obtain⟨d,C,rfl⟩:=V n cs hn;refine⟨(hS.ids.lo n d C).1,fun a ha k hk=>?_⟩;obtain⟨a',b8,rfl⟩:=jD.1 ha;exact(hS.ids.lo n d C).2 a' b8 k (zxC hk)
 .intro m' hm n hn;obtain⟨m0,a5,rfl⟩:=jD.1 hm;exact hS.ids.tm m0 a5 n (zrn hn)
 .intro f hf m' hm n hn;obtain⟨f0,b9,rfl⟩:=jD.1 hf;obtain⟨m0,a5,rfl⟩:=jD.1 hm;exact hS.ids.stk f0 b9 m0 a5 n (zrn hn)
theorem zHt (g:Sim w0 S0 U st E ts sv w){r:Nat}{R:Root}(A:st.root r=some R)(B:R.own=true){m:List R.t.den}{js:List (List Nat)}{S3:zX}(j:w1.os=w.os)(p:w1.tape=w.tape)(d:w1.output=w.output)(k:w.heap.size<=w1.heap.size)(a:∀x,x<w.heap.size->¬ E.φ r x->w1.heap[x]?=w.heap[x]?)(i:∀x,S3 x->(E.φ r x\/w.heap.size<=x)/\x<w1.heap.size)(f:Rep true w1 (E.ρ r) (.s R.t m) S3)(b:∀q u,zZ w R.t (E.ρ r) q=some u->js.any (fun c=>c.isPrefixOf (cols q))=false->zZ w1 R.t (E.ρ r) q=some u) :
 Sim w0 S0 U (zhg st r R m js) {E with φ:=fun n=>if n=r then S3 else E.φ n} ts sv w1 :=
 zDN (n0:=w.heap.size) g.mem.size (fun q Q h x C=>g.mem.rlt q Q h x C) (fun l y h=>by
  obtain⟨_,v,e,z,_⟩:=g.mem.loc l y h;exact(qQ.1 z).1) g A B j p d k a i f b
theorem z6z (hH:MctOk C)(w0 w:World)(S0:zX)(U:Nat->Prop)(st:St)(E:Env)(ts:Array Value)(sv:List (Array Value))(o:Oper)(id:Nat)(c:Bool)(M:St)(mv:MV)(hS:Sim w0 S0 U st E ts sv w)(h:zTx C st o=some (c,M,mv))(hc:c=true) :
 Goes C w0 S0 U st ts sv w o id (fun _=>M.put o.dst mv)/\M.nid=st.nid:=by
 subst hc;unfold zTx at h;split at h
 .rename_i cl ho;split at h
  .rename_i f hcb;split at h
   .rename_i run x y hmct hargs;split at h
    .rename_i r p k hx hy;split at h
     .rename_i R t l hR g;split at h
      .rename_i cc t' l' k' hrun;split at h
       .rename_i hcond;obtain⟨F,rfl⟩:=hcond;split at h
        .rename_i m hput;simp only[qC,jT]at h;obtain⟨rfl,rfl,rfl⟩:=h;refine⟨?_,rfl⟩;obtain⟨⟨fn,bd,hf,a4,I⟩,a3⟩:=hH.ok f run hmct;obtain⟨b5,c0⟩:=zbG hS hx;have a0:=(zbG hS hy).1;simp only[VA]at a0;have N:=hS.mem;have G:=N.rep r R hR;rw[F]at G;have hh:=b5.2 R hR;obtain⟨t1,l0,S1,f1,f2,f3,f4,f5⟩:=Rep.focus p G hh;have a8:zgm R.t R.l p=some (.s t' l):=by obtain⟨R',O,a7⟩:=zfo g;rw[hR]at O;cases O;exact a7
         rw[a8] at f1;cases f1;obtain⟨_,_,_,_,a2⟩:=f5 w l S1 (fun _ _ _=>rfl) (fun _ h _=>h) f3;intro next Q J;have a5:cl.args = #[x,y]:=by rw[<- hargs]
         have D:fn.name≠ "runtime.NumGoroutine":=by simpa using I
         have H:(execOp ({tmps:=ts,defers:=[]}:Act).eval o).run C.P w = .ok (.enter f #[({tmps:=ts,defers:=[]}:Act).eval x,.int .i64 k]) w:=by have a6:({tmps:=ts,defers:=[]}:Act).eval (.func f) = .func (.func f) #[] #[]:=rfl;simp[execOp,ho,resolve,hcb,Deferred.ofValue,invoke,callFunc,hf,a4,D,a5,a0,a6]
         unfold Oper.wp;rw[H,Oper.upon_enter];refine(a3 w _ t' l k S1 _ k' f3 (fun z d=>N.rlt r R hR z (f4 z d)) hrun).mono ?_;intro e w1 T;cases e with
         |panicked a1=>exact T.elim
         |outgrown=>exact T.elim
         |returned u=>
          obtain⟨b1,b4,X,Z,A,rfl,S2,L,S⟩:=T;obtain⟨m',W,b2,a9,b9⟩:=f5 w1 l' S2 (fun z d K=>A z (N.rlt r R hR z d) K) (fun z d b6=>by
           rcases (S z d).1 with h|h
           .exact h
           .have:=N.rlt r R hR z b6;omega) L
          rw[hput]at W;cases W;have Y:=zHt (w1:=w1) (m:=m) (js:=(List.range t'.width).map fun j=>cols p++[j]) hS hR F b1 b4 X Z (fun z d K=>A z d (fun h=>K (f4 z h))) (fun z d=>by
           rcases d with⟨d,_⟩|d
           .exact⟨.inl d,jK (N.rlt r R hR z d) Z⟩
           .obtain⟨h1,h2⟩:=S z d;exact⟨h1.imp (f4 z) (fun h=>h),h2⟩) b2 (fun q u B b0=>by
           refine a9 q u B (fun q' T=>?_);subst T;cases q' with
           |nil=>rfl
           |cons ij b7 =>
            obtain⟨i',j⟩:=ij;exfalso;rw[a2]at B;have hj:j<t'.width:=by generalize ({tmps:=ts,defers:=[]}:Act).eval x=vx at B;cases vx with|slice a len b8=>(cases a with|none=>simp[zZ]at B|some a=>simp only[zZ]at B;split at B;{split at B;{rename_i b3;rw[<- zei];exact(qA.1 b3).1};{cases B}};{cases B})|_=>simp[zZ]at B
            have h9:=kP.1 b0 (cols p++[j]) (jD.2 ⟨j,kI.2 hj,rfl⟩);exact absurd (zqq p i' j b7) h9)
          have b:=Y.putV (dst:=o.dst) (m:=.v (.at (.i .i64 k'))) (v:=.int .i64 k') rfl (fun n g=>by simp[MV.ids,zbA,zS,At.ids,zbo,zbq]at g);exact J _ _ _ ⟨b.mem,⟨fun n R g=>.inl (b.ids.ro n R g),fun n cs g=>⟨.inl (b.ids.lo n cs g).1,fun a ha m V=>.inl ((b.ids.lo n cs g).2 a ha m V)⟩,fun m V n g=>.inl (b.ids.tm m V n g),fun f hf m V n g=>.inl (b.ids.stk f hf m V n g)⟩,b.tm,b.stk⟩
        .cases h
       .cases h
      .cases h
     .cases h
    .cases h
   .cases h
  .cases h
 .cases h
end
def zbb (own:List Bool)(j:Nat):Prop:=own[j]?=some true
def zbN (P:Program)(f:FuncId)(own:List Bool)(y:List CV->List AV->Option (Bool×List CV×List AV)):Prop :=
 FnOk P f/\∀(w:World) (blk:Nat) (g:Array Value) (e:TypeId) (a:List CV) (K:Nat->zX) (m:List AV) (A:List Value) (z:zX) (h:List CV) (p:List AV),
  w.heap[blk]?=some (.cells g e (0,0))->g.size=a.length->own.length=a.length->
  (∀(j:Nat) (c:CV) (u:Value),a[j]?=some c->g[j]?=some u->Rep ((own[j]?).getD false) w u c (K j))->
  (∀j x,j<a.length->K j x->x<w.heap.size/\x≠blk)->
  (∀i j x,i<a.length->j<a.length->zbb own i->i≠j->K i x->¬ K j x)->
  zdf false w (zA m) A (fun _=>z)->(∀x,z x->x<w.heap.size/\x≠blk/\∀j,j<a.length->zbb own j->¬ K j x)->
  y a m=some (true,h,p)->
  Calls P f (#[.pointer (some ⟨blk,0,none⟩)]++(zbQ m A).toArray) w fun
   |.returned v,w'=>w'.os=w.os/\w'.tape=w.tape/\w'.output=w.output/\w.heap.size<=w'.heap.size/\
    (∀b,b<w.heap.size->b≠blk->(∀j,j<a.length->zbb own j->¬ K j b)->w'.heap[b]?=w.heap[b]?)/\
    ∃(d:Array Value) (C:TypeId) (q:Nat->zX) (B:List Value) (r:Nat->zX),w'.heap[blk]?=some (.cells d C (0,0))/\d.size=h.length/\h.length=a.length/\
     (∀(j:Nat) (c:CV) (u:Value),h[j]?=some c->d[j]?=some u->match c with
      |.i k n=>u = .int k n
      |.b x=>u = .bool x
      |.s t l=>(zbb own j->Rep true w' u (.s t l) (q j))/\(¬ zbb own j->g[j]?=some u))/\
     ztp (zob f) w' (zA p) B r/\v=zjb (zbQ p B)/\
     (∀j x,j<a.length->q j x->x<w'.heap.size/\x≠blk/\((∃i,i<a.length/\zbb own i/\K i x)\/w.heap.size<=x))/\
     (∀i x,i<(zA p).length->r i x->x<w'.heap.size/\x≠blk/\((∃i,i<a.length/\zbb own i/\K i x)\/w.heap.size<=x))/\
     (∀i j x,i<a.length->j<a.length->i≠j->q i x->¬ q j x)/\
     (∀i j c x,(zA p)[i]?=some c->zob f c=true->j<(zA p).length->i≠j->r i x->¬ r j x)/\
     (∀i j x,i<a.length->j<(zA p).length->q i x->¬ r j x)
   |_,_=>False
structure PctOk (C:Cfg):Prop where
 ok:∀f own run,C.pct f=some (own,run)->zbN C.P f own run
section
variable {C:Cfg} {w0 w w1:World} {S0:zX} {U:Nat->Prop} {st st1:St} {E E1:Env} {ts:Array Value} {sv:List (Array Value)}
structure Blk (st:St) (own:List Bool) (cells:List At) (cs:List CV) (ks:List Nat):Prop where
 len:cs.length=cells.length
 olen:own.length=cells.length
 ownk:∀r∈ks,∃j,zbb own j/\cells[j]?=some (.sl r [])
 get:∀(j:Nat) (a:At),cells[j]?=some a->(∃k n,a = .i k n/\cs[j]?=some (.i k n))\/(∃x,a = .b x/\cs[j]?=some (.b x))\/
  ∃r R,a = .sl r []/\st.root r=some R/\R.ep=none/\own[j]?=some R.own/\cs[j]?=some (.s R.t R.l)/\(R.own=true->r∈ks)
 inj:∀(i j r:Nat),zbb own i->cells[i]?=some (.sl r [])->cells[j]?=some (.sl r [])->i=j
theorem zTY:∀(own:List Bool) (cells:List At) (cs:List CV) (ks:List Nat),st.blk own cells=some (cs,ks)->Blk st own cells cs ks
 |[],[],cs,ks,h=>by cases h;exact⟨rfl,rfl,fun r h=>by simp at h,fun j a h=>by simp at h,fun i j r h=>by simp[zbb]at h⟩
 |[],a::r,cs,ks,h=>by simp[St.blk]at h
 |o::ms,[],cs,ks,h=>by simp[St.blk]at h
 |o::ms,a::r,cs,ks,h=>by
  simp only[St.blk]at h;split at h;{cases h}
  .rename_i cs0 ks0 h0;have f:=zTY ms r cs0 ks0 h0;have flat:∀(c:CV),(∀q,a≠.sl q [])->((∃k n,a = .i k n/\c = .i k n)\/(∃x,a = .b x/\c = .b x))->Blk st (o :: ms) (a :: r) (c :: cs0) ks0:=by
    intro c w G;refine⟨by simp[f.len],by simp[f.olen],fun q E=>?_,fun j b p=>?_,fun i j q m e d=>?_⟩;{obtain⟨j,e,d⟩:=f.ownk q E;exact⟨j+1,by simpa [zbb] using e,by simpa using d⟩}
    .cases j with
     |zero=>simp only[qH,qC]at p;subst p;rcases G with⟨k,n,e,d⟩|⟨x,e,d⟩;{exact .inl ⟨k,n,e,by simp[d]⟩};{exact .inr (.inl ⟨x,e,by simp[d]⟩)}
     |succ j=>simpa using f.get j b (by simpa using p)
    {cases i with|zero=>simp only[qH,qC]at e;exact absurd e (w q)|succ i=>(cases j with|zero=>simp only[qH,qC]at d;exact absurd d (w q)|succ j=>have:=f.inj i j q (by simpa [zbb] using m) (by simpa using e) (by simpa using d);omega)}
   split at h;{rename_i k n;cases h;exact flat _ (fun q h=>by cases h) (.inl ⟨k,n,rfl,rfl⟩)};{rename_i x;cases h;exact flat _ (fun q h=>by cases h) (.inr ⟨x,rfl,rfl⟩)}
   .rename_i q;split at h
    .rename_i R hR;split at h
     .rename_i hcond;simp only[qD,jE,jN,decide_eq_false_iff_not,qK,kK]at hcond;obtain⟨⟨l,D⟩,y⟩:=hcond;cases h;have g:∀x,x∈cond o (q::ks0) ks0↔(o=true/\x=q)\/x∈ks0:=(by intro x;cases o<;>simp);refine⟨by simp[f.len],by simp[f.olen],fun x F=>?_,fun j b p=>?_,fun i j x m e d=>?_⟩;{rcases (g x).1 F with⟨rfl,rfl⟩|F;{exact⟨0,rfl,rfl⟩};{obtain⟨j,e,d⟩:=f.ownk x F;exact⟨j+1,by simpa [zbb] using e,by simpa using d⟩}}
      .cases j with
       |zero=>simp only[qH,qC]at p;subst p;exact .inr (.inr ⟨q,R,rfl,hR,D,by simp[l],by simp,fun h=>(g q).2 (.inl ⟨by rw[<- l];exact h,rfl⟩)⟩)
       |succ j=>rcases f.get j b (by simpa using p) with h|h|⟨A,z,s,t,B,u,C,v⟩;{exact .inl (by simpa using h)};{exact .inr (.inl (by simpa using h))};{exact .inr (.inr ⟨A,z,s,t,B,by simpa using u,by simpa using C,fun h=>(g A).2 (.inr (v h))⟩)}
      .have old:∀(i:Nat),zbb ms i->r[i]?=some (.sl q [])->False:=by intro i m E;rcases f.get i _ E with⟨_,_,h,_⟩|⟨_,h,_⟩|⟨A,z,s,t,B,u,C,v⟩;{cases h};{cases h};{cases s;have:z.own=true:=(by rw[m] at u;simpa using u.symm);exact y (v this)}
       cases i with
       |zero=>
        cases j with
        |zero=>rfl
        |succ j=>simp only[qH,qC,At.sl.injEq,and_true]at e;subst e;simp only[zbb,qH,qC]at m;subst m;simp only[jP]at d;exfalso;rcases f.get j _ d with⟨_,_,h,_⟩|⟨_,h,_⟩|⟨A,z,s,t,B,u,C,v⟩;{cases h};{cases h};{cases s;rw[hR] at t;cases t;exact y (v l)}
       |succ i=>cases j with|zero=>simp only[qH,qC,At.sl.injEq,and_true]at d;subst d;exact(old i (by simpa [zbb] using m) (by simpa using e)).elim|succ j=>have:=f.inj i j x (by simpa [zbb] using m) (by simpa using e) (by simpa using d);omega
     {cases h}
    {cases h}
   {cases h}
theorem zKY:∀(own:List Bool) (cells:List At) (cs':List CV) (id:Nat) (d:List At),znJ own cells cs' id=some d->d.length=cells.length/\cs'.length=cells.length/\
 ∀(j:Nat) (b:At),d[j]?=some b->(∃k n,b = .i k n/\cs'[j]?=some (.i k n))\/(∃x,b = .b x/\cs'[j]?=some (.b x))\/
  (∃t l,b = .sl (id+j) []/\zbb own j/\cs'[j]?=some (.s t l))\/(∃t l r,b = .sl r []/\¬ zbb own j/\cells[j]?=some (.sl r [])/\cs'[j]?=some (.s t l))
 |[],[],[],id,d,h=>by cases h;exact⟨rfl,rfl,fun j b h=>by simp at h⟩
 |o::ms,a::r,c::cs,id,d,h=>by
  simp only[znJ]at h;split at h;{cases h}
  .rename_i l0 h0;obtain ⟨m,p,u⟩:=zKY ms r cs (id+1) l0 h0;have g:∀(j:Nat) (b:At),l0[j]?=some b->(∃k n,b = .i k n/\(c :: cs)[j+1]?=some (.i k n))\/(∃x,b = .b x/\(c :: cs)[j+1]?=some (.b x)) \/
    (∃t l,b = .sl (id+(j+1)) []/\zbb (o::ms) (j+1)/\(c::cs)[j+1]?=some (.s t l))\/(∃t l q,b = .sl q []/\¬ zbb (o::ms) (j+1)/\(a::r)[j+1]?=some (.sl q [])/\(c::cs)[j+1]?=some (.s t l)):=by
    intro j b f;have:=u j b f;have e:id+1+j=id+(j+1):=by omega
    rw[e] at this;simpa [zbb] using this
   split at h;{split at h;{rename_i k w n v;cases h;refine⟨by simp[m],by simp[p],fun j b f=>?_⟩;cases j with|zero=>simp only[qH,qC]at f;subst f v;exact .inl ⟨_,_,rfl,rfl⟩|succ j=>exact g j b (by simpa using f)};{cases h}};{cases h;refine⟨by simp[m],by simp[p],fun j b f=>?_⟩;cases j with|zero=>simp only[qH,qC]at f;subst f;exact .inr (.inl ⟨_,rfl,rfl⟩)|succ j=>exact g j b (by simpa using f)};{rename_i q t l;cases h;refine⟨by cases o<;>simp [m],by simp[p],fun j b f=>?_⟩;cases j with|zero=>(cases o with|true=>simp only[cond_true,qH,qC]at f;subst f;exact .inr (.inr (.inl ⟨_,_,rfl,rfl,rfl⟩))|false=>simp only[cond_false,qH,qC]at f;subst f;exact .inr (.inr (.inr ⟨_,_,q,rfl,by simp[zbb],rfl,rfl⟩)))|succ j=>exact g j b (by cases o<;>simpa using f)};{cases h}
 |[],[],_::_,_,_,h=>by simp[znJ]at h
 |[],_::_,_,_,_,h=>by simp[znJ]at h
 |_::_,[],_,_,_,h=>by simp[znJ]at h
 |_::_,_::_,[],_,_,h=>by simp[znJ]at h
theorem zQN:∀(own:List Bool) (cs:List CV) (id n:Nat) (R:Root),zl (zfD own cs id) n=some R->id<=n/\zbb own (n-id)/\∃t l,cs[n-id]?=some (.s t l)/\R=zcP t l
 |[],_,_,_,_,h=>by cases h
 |o::ms,[],_,_,_,h=>by cases h
 |o::ms,c::cs,id,n,R,h=>by have a:zl (zfD ms cs (id+1)) n=some R->id<=n/\zbb (o::ms) (n-id)/\∃t l,(c::cs)[n-id]?=some (.s t l)/\R=zcP t l:=fun h=>(by obtain⟨m,f,t,l,g,j⟩:=zQN ms cs (id+1) n R h;have e:n-id=(n-(id+1))+1:=(by omega);exact⟨by omega,by rw[e];simpa [zbb] using f,t,l,by rw[e,jP];exact g,j⟩);cases c with|i k x=>exact a h|b x=>exact a h|s t l=>(cases o with|false=>exact a h|true=>simp only[zfD,cond_true,zl]at h;split at h;{rename_i d;simp only[qK]at d;subst d;cases h;exact⟨qZ _,by simp[zbb],t,l,by simp,rfl⟩};{exact a h})
theorem zsY:∀(ks:List Nat) (n:Nat) (R:Root),zl (killed st ks) n=some R->R.ep=some st.ep/\∃Q,zl st.ro n=some Q
 |[],_,_,h=>by cases h
 |k::ks,n,R,h=>by simp only[killed]at h;split at h;{rename_i Q b;simp only[zl]at h;split at h;{rename_i a;simp only[qK]at a;subst a;cases h;exact⟨rfl,Q,b⟩};{exact zsY ks n R h}};{exact zsY ks n R h}
theorem zqA:∀(ks:List Nat) (n:Nat) (Q:Root),zl (killed st ks) n=none->zl st.ro n=some Q->n∉ks
 |[],_,_,_,_=>by simp
 |k::ks,n,Q,h,b=>by simp only[killed]at h;intro a;rcases qG.1 a with rfl|a;{rw [b]at h;simp[zl]at h};{split at h;{simp only [zl]at h;split at h;{cases h};{exact zqA ks n Q h b a}};{exact zqA ks n Q h b a}}
theorem zDm (z:Sim w0 S0 U st E ts sv w){ks:List Nat}{Ka:zX}(g:∀r R x,st.root r=some R->R.ep=none->r∉ks->E.φ r x->Ka x){a:At}{u:Value}{c:CV}(h:(zbo a).all (fun r=>!ks.contains r&&(match st.root r with|some R=>R.ep.isNone|none=>false))=true)(d:st.cvOf a=some c)(j:VA w st E a u):Rep false w u c Ka:=by
 cases a with
 |i k n=>cases d;cases j;exact .i _ _ _
 |b x=>cases d;cases j;exact .b _ _
 |sl r p=>simp only[St.cvOf]at d;obtain⟨R,e,hg⟩:=zfo d;simp only[zbo,kW,List.all_nil,vE,e,qD,jE,jN,decide_eq_false_iff_not,kK]at h;obtain⟨F,D,B,s,C,v,y⟩:=Rep.at p (z.mem.rep r R e) (j.2 R e);rw[hg]at s;cases s;exact(v.weak (fun x A=>g r R x e h.2 h.1 (y x A))).ro
 |bad=>cases d
 |lp l m=>cases d
 |ep r p i m=>cases d
 |fn f q=>cases d
 |kp r J t=>cases d
theorem zHe (p:Sim w0 S0 U st E ts sv w){ks:List Nat}{Ka:zX}(m:∀r R x,st.root r=some R->R.ep=none->r∉ks->E.φ r x->Ka x):∀(l:List Operand) (avs:List AV),zco (fun x=>match st.opnd x with|some v=>st.avF ks v|none=>none) l=some avs->
 ∃xs,zdf false w (zA avs) xs (fun _=>Ka)/\l.map ({tmps:=ts,defers:=[]}:Act).eval=zbQ avs xs
 |[],avs,h=>by cases h;exact⟨[],⟨rfl,fun i c x h=>by simp[zA]at h⟩,rfl⟩
 |x::r,avs,h=>by simp only[zco]at h;split at h;{rename_i O b;split at h;{rename_i d N;cases h;obtain⟨xs,n,F⟩:=zHe p m r d N;split at b;{rename_i P z;obtain⟨G,-⟩:=zb0 p z;unfold St.avF at b;split at b;{rename_i j;have g:=qM.1 j;unfold St.avOf at b;split at b;{rename_i a;split at b;{rename_i c K;cases b;have J:=zDm p m (g a (by simp[zbA,zS])) K G;refine⟨({tmps:=ts,defers:=[]}:Act).eval x::xs,?_,by simp[zbQ,F]⟩;have e:zA (AV.one c::d)=[c]++zA d:=(by simp[zA,AV.cvs]);rw[e];refine zdf.append (x1:=[({tmps:=ts,defers:=[]}:Act).eval x]) ⟨rfl,fun i I u f q=>?_⟩ n;cases i with|zero=>simp at f q;subst f q;exact J|succ i=>simp at f};{cases b}};{rename_i l;split at b;{rename_i s y;cases b;obtain⟨H,B,A,C⟩:=G;obtain⟨D,L⟩:=zl8 y;have k:H.toList.length=s.length:=(by simp[A,D]);refine⟨H.toList++xs,?_,?_⟩;{have e:zA (AV.agg s::d)=s++zA d:=(by simp[zA,AV.cvs]);rw[e];refine zdf.append ⟨k,fun i I u f q=>?_⟩ n;have M:i<l.length:=(by rw[D];exact(qA.1 f).1);have t:=qB M;exact zDm p m (g _ (by simp only[zbA,zS];exact qI t)) (L i _ _ t f) (C i _ u t (by simpa using q)).2};{simp only [jB,zbQ,B,<- k,kN,kY,F,jR]}};{cases b}};{cases b}};{cases b}};{cases b}};{cases h}};{cases h}
def cφ (E:Env)(cells:List At)(j:Nat):zX:=match cells[j]? with
 |some a=>aφ E a
 |none=>fun _=>False
theorem zgE {cells:List At}{j:Nat}{a:At}(h:cells[j]?=some a):cφ E cells j=aφ E a:=by unfold cφ;rw[h]
theorem ztT {cells:List At}{j x:Nat}(h:cφ E cells j x):∃a,cells[j]?=some a/\aφ E a x:=by unfold cφ at h;cases b:cells[j]? with|some a=>rw[b]at h;exact⟨a,rfl,h⟩|none=>rw[b]at h;exact h.elim
theorem z6I (hH:PctOk C)(w0 w:World)(S0:zX)(U:Nat->Prop)(st:St)(E:Env)(ts:Array Value)(sv:List (Array Value))(o:Oper)(id:Nat)(c:Bool)(e8:St)(mv:MV)(hS:Sim w0 S0 U st E ts sv w)(e0:∀n,Mine id n->¬ U n)(h:zFw C st o id=some (c,e8,mv))(hc:c=true):Goes C w0 S0 U st ts sv w o id (fun _=>e8.put o.dst mv)/\e8.nid=st.nid:=by
 subst hc;unfold zFw at h;split at h
 .rename_i cl I;split at h
  .rename_i f hcb;split at h
   .rename_i own run hpct;generalize d8:cl.args.toList=h0 at h;unfold zV8 at h;split at h
    .rename_i x ys0;split at h
     .rename_i l z;split at h
      .rename_i cells hcells;split at h
       .rename_i cs ks hblk;split at h
        .rename_i avs havs;split at h
         .rename_i cc cs' rs hrun;split at h
          .rename_i cells' hnew;split at h
           .rename_i hlen;simp only[qC,jT]at h;obtain⟨rfl,rfl,rfl⟩:=h;refine⟨?_,rfl⟩;obtain⟨⟨fn,bd,hf,hbd,e4⟩,hHP⟩:=hH.ok f own run hpct;have hB:=zTY own cells cs ks hblk;obtain⟨g5,hn2,g6⟩:=zKY own cells cs' id cells' hnew;have hrsl:(zA rs).length<=16:=hlen.2;have G:=hS.mem;obtain⟨f9,d4,e,hl2,hl3,g0⟩:=G.loc l cells hcells;obtain⟨hxv,hxi⟩:=zbG hS z;have hxp:=hxv.2 cells hcells;have b9:∀l cs,zl st.lo l=some cs->E.β l<w.heap.size:=(by intro l cs h;obtain⟨_,d4,e,d,_⟩:=G.loc l cs h;exact(qQ.1 d).1);let K:Nat->zX:=cφ E cells
            have hK:∀j x,K j x->∃r R,cells[j]?=some (.sl r [])/\st.root r=some R/\R.ep=none/\own[j]?=some R.own/\(R.own=true->r∈ks)/\E.φ r x:=(by intro j x z;obtain⟨a,ha,z⟩:=ztT z;rcases hB.get j a ha with⟨_,_,rfl,_⟩|⟨_,rfl,_⟩|⟨r,R,rfl,g,d,H,_,h5⟩;{exact z.elim};{exact z.elim};{exact⟨r,R,ha,g,d,H,h5,z⟩});have S:∀j x,zbb own j->K j x->∃r∈ks,∃R,st.root r=some R/\R.own=true/\E.φ r x:=(by intro j x hj z;obtain⟨r,R,g,d,_,M,h5,h6⟩:=hK j x z;have:R.own=true:=(by rw[hj]at M;simpa using M.symm);exact⟨r,h5 this,R,d,this,h6⟩);have hks:∀r∈ks,∃j R,j<cs.length/\zbb own j/\cells[j]?=some (.sl r [])/\st.root r=some R/\R.own=true/\∀x,E.φ r x->K j x:=(by intro r A;obtain⟨j,g,d⟩:=hB.ownk r A;rcases hB.get j _ d with⟨_,_,h,_⟩|⟨_,h,_⟩|⟨Z,R,h,g1,g2,g3,_,_⟩;{cases h};{cases h};{cases h;refine⟨j,R,by rw[hB.len];exact(qA.1 d).1,g,d,g1,by rw[g] at g3;simpa using g3.symm,fun x z=>?_⟩;show cφ E cells j x;rw[zgE d];exact z});let Ka:zX:=fun x=>x<w.heap.size/\x≠E.β l/\∀r∈ks,¬ E.φ r x
            obtain⟨xs,hxs,hxm⟩:=zHe hS (ks:=ks) (Ka:=Ka) (fun r R x T V A z=>⟨G.rlt r R T x z,fun h=>G.lro l cells r R hcells T (by rw[<- h];exact z),fun q hq hqx=>by
             obtain⟨_,Q,_,_,_,hQ,hQo,_⟩:=hks q hq;exact G.apart q Q r R hQ hQo T V (fun e=>A (by rw[<- e];exact hq)) x hqx z⟩) ys0 avs havs
            have c7:cl.args.map ({tmps:=ts,defers:=[]}:Act).eval = #[.pointer (some ⟨E.β l,0,none⟩)]++(zbQ avs xs).toArray:=(by have e:cl.args=(x::ys0).toArray:=(by rw[<- d8,jR]);rw[e,List.map_toArray,jB,hxm,hxp];simp);intro next Q e5;have d0:fn.name≠ "runtime.NumGoroutine":=(by simpa using e4);have d9:(execOp ({tmps:=ts,defers:=[]}:Act).eval o).run C.P w = .ok (.enter f (#[.pointer (some ⟨E.β l,0,none⟩)]++(zbQ avs xs).toArray)) w:=(by have hfe:({tmps:=ts,defers:=[]}:Act).eval (.func f) = .func (.func f) #[] #[]:=rfl;simp[execOp,I,resolve,hcb,Deferred.ofValue,invoke,callFunc,hf,hbd,d0,c7,hfe]);unfold Oper.wp;rw[d9,Oper.upon_enter];refine(hHP w (E.β l) d4 e cs K avs xs Ka cs' rs hl2 (by rw[hl3,hB.len]) (by rw[hB.olen,hB.len]) (fun j c u c8 hu=>?_) (fun j x hj z=>?_) (fun i j x hi hj I b2 z a9=>?_) hxs (fun x z=>⟨z.1,z.2.1,fun j hj I hk=>?_⟩) hrun).mono ?_;{have hj:j<cells.length:=(by rw[<- hB.len];exact(qA.1 c8).1);have ha:=qB hj;obtain⟨_,b5⟩:=g0 j _ u ha hu;rcases hB.get j _ ha with⟨k,n,g,d⟩|⟨y,g,d⟩|⟨r,R,g,d,H,M,h5,_⟩;{rw [c8]at d;cases d;rw[g]at b5;cases b5;exact .i _ _ _};{rw [c8]at d;cases d;rw[g]at b5;cases b5;exact .b _ _};{rw [c8]at h5;cases h5;rw[g]at b5;have:=b5.2 R d;simp only[zZ,qC] at this;subst this;have A:=G.rep r R d;rw[M];refine A.weak (fun x z=>?_);show cφ E cells j x;rw[zgE ha,g];exact z}};{obtain⟨r,R,g,d,H,M,h5,h6⟩:=hK j x z;exact⟨G.rlt r R d x h6,fun h=>G.lro l cells r R hcells d (by rw[<- h];exact h6)⟩};{obtain⟨r,R,g,d,H,M,h5,h6⟩:=hK i x z;obtain⟨Z,R',N,O,c0,c3,h5',h6'⟩:=hK j x a9;have hRo:R.own=true:=(by rw[I]at M;simpa using M.symm);refine G.apart r R Z R' d hRo O c0 (fun e=>b2 (hB.inj i j r I g (by rw[e];exact N))) x h6 h6'};{obtain⟨r,A,R,g,d,H⟩:=S j x I hk;exact z.2.2 r A H}
            .intro ex w' V;cases ex with
             |panicked h9=>exact V.elim
             |outgrown=>exact V.elim
             |returned v=>
              obtain⟨hos,htp,g7,g8,b1,a8,e',K',ys,Kr,hb',g9,hcl,X,d3,rfl,f1,f4,f0,f3,f2⟩:=V;have hcs12:cs.length<=12:=by rw[hB.len];exact hlen.1
              let E1:Env:={ E with ρ:=fun n=>if id<=n/\n<id+12 then (a8[n-id]?).getD undef else if id+12<=n/\n<id+32 then (ys[n-(id+12)]?).getD undef else E.ρ n,
                                   φ:=fun n=>if id<=n/\n<id+12 then (fun x=>n-id<cs.length/\K' (n-id) x) else if id+12<=n/\n<id+32 then (fun x=>n-(id+12)<(zA rs).length/\Kr (n-(id+12)) x) else E.φ n}
              have a0:∀n,U n->E1.ρ n=E.ρ n/\E1.φ n=E.φ n:=(by intro n hn;have:¬ (id<=n/\n<id+32):=fun h=>e0 n h hn;have a1:¬ (id<=n/\n<id+12):=fun h=>this ⟨h.1,by omega⟩;have a2:¬ (id+12<=n/\n<id+32):=fun h=>this ⟨by omega,h.2⟩;simp only[E1,if_neg a1,if_neg a2,and_self]);have c4:∀n,id<=n->n<id+12->E1.ρ n=(a8[n-id]?).getD undef/\E1.φ n=fun x=>n-id<cs.length/\K' (n-id) x:=(by intro n g d;simp only[E1,if_pos (show id<=n/\n<id+12 from ⟨g,d⟩),and_self]);have c5:∀n,id+12<=n->n<id+32->E1.ρ n=(ys[n-(id+12)]?).getD undef/\E1.φ n=fun x=>n-(id+12)<(zA rs).length/\Kr (n-(id+12)) x:=(by intro n g d;have a1:¬ (id<=n/\n<id+12):=fun h=>(by omega);simp only[E1,if_neg a1,if_pos (show id+12<=n/\n<id+32 from ⟨g,d⟩),and_self]);generalize a4:({st with lo:=(l,cells')::st.lo,ro:=zfD own cs' id++(zcN (zcE f) rs (id+12)++(killed st ks++st.ro)),ep:=st.ep+1}:St)=st1;have d2:st1.ro=zfD own cs' id++(zcN (zcE f) rs (id+12)++(killed st ks++st.ro)):=(by rw[<- a4]);have d1:st1.lo=(l,cells')::st.lo:=(by rw[<- a4]);have b4:st1.ep=st.ep+1:=(by rw[<- a4]);have hA:∀r R,zl (zfD own cs' id) r=some R->id<=r/\r<id+12/\r-id<cs.length/\zbb own (r-id)/\∃t l,cs'[r-id]?=some (.s t l)/\R=zcP t l:=(by intro r R A;obtain⟨g,d,t,F,H,M⟩:=zQN own cs' id r R A;have c9:=(qA.1 H).1;exact⟨g,by omega,by omega,d,t,F,H,M⟩);have b0:∀r R,zl (zcN (zcE f) rs (id+12)) r=some R->id+12<=r/\r<id+32/\r-(id+12)<(zA rs).length/\∃t l,(zA rs)[r-(id+12)]?=some (.s t l)/\R=⟨t,l,zcE f t,none⟩:=(by intro r R A;obtain⟨g,t,F,H,M⟩:=zeG (zcE f) rs (id+12) r R A;have c9:=(qA.1 H).1;exact⟨g,by omega,c9,t,F,H,M⟩);have e7:∀r R,zl st1.ro r=some R->zl (zfD own cs' id) r=some R\/zl (zcN (zcE f) rs (id+12)) r=some R\/(R.ep=some st.ep/\∃Q,zl st.ro r=some Q)\/(zl st.ro r=some R/\r∉ks):=(by intro r R A;rw[d2,zbO]at A;split at A;{rename_i Q hQ;cases A;exact .inl hQ};{rw [zbO]at A;split at A;{rename_i Q hQ;cases A;exact .inr (.inl hQ)};{rw [zbO]at A;split at A;{rename_i Q hQ;cases A;exact .inr (.inr (.inl (zsY ks r _ hQ)))};{rename_i hn;exact .inr (.inr (.inr ⟨A,zqA ks r R hn A⟩))}}});have b8:∀r R,st1.root r=some R->zl (zfD own cs' id) r=some R\/zl (zcN (zcE f) rs (id+12)) r=some R\/(st.root r=some R/\R.ep=none/\r∉ks/\U r):=(by intro r R A;obtain⟨g,d⟩:=zbw A;rw[b4]at d;rcases e7 r R g with h|h|⟨h,_⟩|⟨h,hk⟩;{exact .inl h};{exact .inr (.inl h)};{rcases d with d|d;{rw [h]at d;cases d};{rw [h]at d;simp at d}};{rcases d with d|d;{exact .inr (.inr ⟨zgN h (.inl d),d,hk,hS.ids.ro r R h⟩)};{have:=G.epo r R _ h d;omega}});have f7:∀r R,st.root r=some R->R.ep=none->r∉ks->∀x,E.φ r x->w'.heap[x]?=w.heap[x]?:=(by intro r R T V hk x z;refine b1 x (G.rlt r R T x z) (fun h=>G.lro l cells r R hcells T (by rw[<- h];exact z)) (fun j hj I hkx=>?_);obtain⟨q,hq,Q,g,d,H⟩:=S j x I hkx;exact G.apart q Q r R g d T V (fun e=>hk (by rw[<- e];exact hq)) x H z);have a6:∀x,(x<w'.heap.size/\x≠E.β l/\((∃i,i<cs.length/\zbb own i/\K i x)\/w.heap.size<=x))->(S0 x\/w0.heap.size<=x)/\∀r R,st.root r=some R->R.ep=none->r∉ks->¬ E.φ r x:=(by intro x ⟨g,d,H⟩;rcases H with⟨i,hi,I,hk⟩|H;{obtain⟨q,hq,Q,g1,g2,g3⟩:=S i x I hk;exact⟨(G.mine q Q g1 g2).2 x g3,fun r R T V f8 z=>G.apart q Q r R g1 g2 T V (fun e=>f8 (by rw[<- e];exact hq)) x g3 z⟩};{exact⟨.inr (qU G.size H),fun r R T V f8 z=>by have:=G.rlt r R T x z;omega⟩});have d6:∀r R,zl (zfD own cs' id) r=some R->Rep true w' (E1.ρ r) (.s R.t R.l) (E1.φ r):=(by intro r R A;obtain⟨g,d,H,M,t,F,h5,rfl⟩:=hA r R A;have hv:r-id<a8.size:=(by omega);have hu:=jH hv;have:=(X _ _ _ h5 hu).1 M;rw[(c4 r g d).1,(c4 r g d).2,hu];exact this.weak (fun x z=>⟨H,z⟩));have d7:∀r R,zl (zcN (zcE f) rs (id+12)) r=some R->Rep R.own w' (E1.ρ r) (.s R.t R.l) (E1.φ r):=(by intro r R A;obtain⟨g,d,H,t,F,h5,rfl⟩:=b0 r R A;have hv:r-(id+12)<ys.length:=(by rw[d3.1];exact H);have hu:=qB hv;rw[(c5 r g d).1,(c5 r g d).2,hu];exact(d3.2 _ _ _ h5 hu).weak (fun x z=>⟨H,z⟩));have J:∀r R,zl (zfD own cs' id) r=some R->∀x,E1.φ r x->r-id<cs.length/\K' (r-id) x:=(by intro r R A x z;obtain⟨g,d,_⟩:=hA r R A;rw[(c4 r g d).2]at z;exact z);have L:∀r R,zl (zcN (zcE f) rs (id+12)) r=some R->∀x,E1.φ r x->r-(id+12)<(zA rs).length/\Kr (r-(id+12)) x:=(by intro r R A x z;obtain⟨g,d,_⟩:=b0 r R A;rw[(c5 r g d).2]at z;exact z);have W:∀r R,(zl (zfD own cs' id) r=some R\/zl (zcN (zcE f) rs (id+12)) r=some R)->∀x,E1.φ r x->x<w'.heap.size/\x≠E.β l/\((∃i,i<cs.length/\zbb own i/\K i x)\/w.heap.size<=x):=(by intro r R A x z;rcases A with A|A;{obtain⟨g,d⟩:=J r R A x z;exact f1 _ x g d};{obtain⟨g,d⟩:=L r R A x z;exact f4 _ x g d});have e6:∀r R,zl (zfD own cs' id) r=some R->R.own=true:=(by intro r R A;obtain⟨_,_,_,_,t,F,_,rfl⟩:=hA r R A;rfl);have a3:∀r R,(zl (zfD own cs' id) r=some R\/zl (zcN (zcE f) rs (id+12)) r=some R)->R.ep=none:=(by intro r R A;rcases A with A|A;{obtain⟨_,_,_,_,t,F,_,rfl⟩:=hA r R A;rfl};{obtain⟨_,_,_,t,F,_,rfl⟩:=b0 r R A;rfl});have D:∀r R,st1.root r=some R->(zl (zfD own cs' id) r=some R\/zl (zcN (zcE f) rs (id+12)) r=some R)\/(st.root r=some R/\R.ep=none/\r∉ks/\U r):=(by intro r R A;rcases b8 r R A with h|h|h;{exact .inl (.inl h)};{exact .inl (.inr h)};{exact .inr h});have c6:∀r R Z R',(zl (zfD own cs' id) r=some R\/zl (zcN (zcE f) rs (id+12)) r=some R)->(zl (zfD own cs' id) Z=some R'\/zl (zcN (zcE f) rs (id+12)) Z=some R')->R.own=true->r≠Z->∀x,E1.φ r x->¬ E1.φ Z x:=(by intro r R Z R' A a7 I b2 x z a9;rcases A with A|A<;>rcases a7 with a7|a7;{obtain⟨g,d⟩:=J r R A x z;obtain⟨N,O⟩:=J Z R' a7 x a9;obtain⟨g1,_⟩:=hA r R A;obtain⟨g1',_⟩:=hA Z R' a7;exact f0 _ _ x g N (by omega) d O};{obtain⟨g,d⟩:=J r R A x z;obtain⟨N,O⟩:=L Z R' a7 x a9;exact f2 _ _ x g N d O};{obtain⟨g,d⟩:=L r R A x z;obtain⟨N,O⟩:=J Z R' a7 x a9;exact f2 _ _ x N g O d};{obtain⟨g,d⟩:=L r R A x z;obtain⟨N,O⟩:=L Z R' a7 x a9;obtain⟨g1,_,_,t,F,g2,rfl⟩:=b0 r R A;obtain⟨g1',_⟩:=b0 Z R' a7;exact f3 _ _ _ x g2 I N (by omega) d O});have b7:∀F B,zl st1.lo F=some B->(F=l/\B=cells')\/(F≠l/\zl st.lo F=some B):=(by intro F B h;rw[d1]at h;simp only[zl]at h;split at h;{rename_i V;simp only[qK]at V;cases h;exact .inl ⟨V.symm,rfl⟩};{rename_i V;simp only[qK]at V;exact .inr ⟨fun e=>V e.symm,h⟩});have b3:∀F B,zl st1.lo F=some B->∃b6,zl st.lo F=some b6:=(by intro F B h;rcases b7 F B h with⟨rfl,_⟩|⟨_,h⟩;{exact⟨_,hcells⟩};{exact⟨_,h⟩});have hT:Trans st E w st1 E1 w' U:=(by refine⟨fun r hU R1 hR1=>?_,fun F hU B g=>⟨b3 F B g,rfl⟩,rfl⟩;rcases D r R1 hR1 with h|⟨g,d,H,M⟩;{exfalso;rcases h with h|h;{obtain⟨g1,g2,_⟩:=hA r R1 h;exact e0 r ⟨g1,by omega⟩ hU};{obtain⟨g1,g2,_⟩:=b0 r R1 h;exact e0 r ⟨by omega,g2⟩ hU}};{refine⟨R1,g,rfl,fun p u hp=>?_⟩;rw[(a0 r hU).1,zda p (G.rep r R1 g) (f7 r R1 g d H)];exact hp});have f5:Mem w0 S0 st1 E1 w':=by refine⟨hos.trans G.os,htp.trans G.tape,g7.trans G.output,qU G.size g8,fun b hb e3=>?_,fun r R T=>?_,fun r R T x z=>?_,fun r R T I=>?_,fun hz r R T I V hf=>?_,fun r R Z R' T I f6 V b2 x z=>?_,fun F B a5=>?_,fun l1 l2 c1 c2 g d=>?_,fun F B r R a5 T=>?_,fun r R ee T V=>?_,G.κ⟩;{refine(b1 b (jK hb G.size) (fun h=>?_) (fun j hj I hk=>?_)).trans (G.keep b hb e3);{subst h;rcases f9 with h|h;{exact e3 h};{omega}};{obtain⟨q,hq,Q,g1,g2,g3⟩:=S j b I hk;rcases (G.mine q Q g1 g2).2 b g3 with h|h;{exact e3 h};{omega}}};{rcases b8 r R T with h|h|⟨g,d,H,M⟩;{have:=d6 r R h;rw[e6 r R h];exact this};{exact d7 r R h};{rw [(a0 r M).1,(a0 r M).2];exact(G.rep r R g).frame (f7 r R g d H)}};{rcases D r R T with h|⟨g,d,H,M⟩;{exact(W r R h x z).1};{rw [(a0 r M).2]at z;exact jK (G.rlt r R g x z) g8}};{rcases D r R T with h|⟨g,d,H,M⟩;{exact⟨a3 r R h,fun x z=>(a6 x (W r R h x z)).1⟩};{rw [(a0 r M).2];exact G.mine r R g I}};{rcases D r R T with h|⟨g,d,H,M⟩;{exact fun x z=>(a6 x (W r R h x z)).1};{rw [(a0 r M).2];exact G.frz hz r R g I V hf}};{rcases D r R T with h|⟨g,d,H,M⟩;{rcases D Z R' f6 with h'|⟨N,O,c0,c3⟩;{exact c6 r R Z R' h h' I b2 x z};{rw [(a0 Z c3).2];exact(a6 x (W r R h x z)).2 Z R' N O c0}};{rw [(a0 r M).2]at z;rcases D Z R' f6 with h'|⟨N,O,c0,c3⟩;{intro a9;exact(a6 x (W Z R' h' x a9)).2 r R g d H z};{rw [(a0 Z c3).2];exact G.apart r R Z R' g I N O b2 x z}}};{rcases b7 F B a5 with⟨rfl,rfl⟩|⟨b2,a5⟩;{refine⟨f9,a8,e',hb',by rw[g9,hn2,g5],fun j b u hbj hu=>?_⟩;rcases g6 j b hbj with⟨k,n,rfl,d⟩|⟨y,rfl,d⟩|⟨t,F,rfl,I,d⟩|⟨t,F,r,rfl,I,g,d⟩;{have:=X j _ u d hu;simp only at this;subst this;exact⟨rfl,rfl⟩};{have:=X j _ u d hu;simp only at this;subst this;exact⟨rfl,rfl⟩};{have Y:=(X j _ u d hu).1 I;have c9:=(qA.1 d).1;obtain⟨⟨a,d5,hv,_⟩,_⟩:=Y.len;refine⟨Y.one,⟨a,_,d5,hv⟩,fun R T=>?_⟩;have hij:id+j-id=j:=(by omega);have:=(c4 (id+j) (by omega) (by omega)).1;rw[hij,hu] at this;simp only[zZ,this,jZ]};{have hvj:=(X j _ u d hu).2 I;have a3:=g0 j _ u g hvj;exact⟨a3.1,VA.tr hT (fun n hn=>(hS.ids.lo _ cells hcells).2 _ (qI g) n hn) a3.2⟩}};{obtain⟨g1,e9,e1,g2,g3,g4⟩:=G.loc F B a5;refine⟨g1,e9,e1,(b1 _ (b9 F B a5) (fun h=>b2 (G.linj F l B cells a5 hcells h)) (fun j hj I hk=>?_)).trans g2,g3,fun j b u hb hu=>⟨(g4 j b u hb hu).1,VA.tr hT (fun n hn=>(hS.ids.lo F B a5).2 b (qI hb) n hn) (g4 j b u hb hu).2⟩⟩;obtain⟨q,hq,Q,g,d,H⟩:=S j _ I hk;exact G.lro F B q Q a5 g H}};{intro hb;obtain⟨h7,g⟩:=b3 l1 c1 g;obtain⟨h8,d⟩:=b3 l2 c2 d;exact G.linj l1 l2 h7 h8 g d hb};{obtain⟨b6,e2⟩:=b3 F B a5;rcases D r R T with h|⟨g,d,H,M⟩;{intro z;obtain⟨_,g2,g3⟩:=W r R h _ z;rcases g3 with⟨i,hi,I,hk⟩|g3;{obtain⟨q,hq,Q,q1,q2,q3⟩:=S i _ I hk;exact G.lro F b6 q Q e2 q1 q3};{have:=b9 F b6 e2;have e:E1.β F=E.β F:=rfl;omega}};{rw [(a0 r M).2];exact G.lro F b6 r R e2 g}};{rw [b4];rcases e7 r R T with h|h|⟨h,_⟩|⟨h,_⟩;{rw [a3 r R (.inl h)]at V;cases V};{rw [a3 r R (.inr h)]at V;cases V};{rw [h]at V;cases V;omega};{have:=G.epo r R ee h V;omega}}
              obtain⟨g1,g2⟩:=zge (w:=w') (st:=st1) (E:=E1) rs ys (id+12) d3.1 (fun i c u hc hu=>by
               have Y:=d3.2 i c u hc hu;refine⟨?_,Y.one⟩;have c9:i<(zA rs).length:=(qA.1 hc).1;cases c with
               |i k n=>exact Y.int_inv
               |b x=>exact Y.bool_inv
               |s t F =>
                obtain⟨⟨a,d5,hv,_⟩,_⟩:=Y.len;refine⟨⟨a,_,d5,hv⟩,fun R T=>?_⟩;have e:id+12+i-(id+12)=i:=by omega
                have:=(c5 (id+12+i) (by omega) (by omega)).1
                rw[e,hu] at this;simp only[zZ,this,jZ])
              have hnx:=Sim.next (U1:=fun n=>U n\/Mine id n) hS f5 hT (by rw[<- a4]) (by rw[<- a4]) (fun n h=>.inl h) (fun n R h=>by
               rcases e7 n R h with h|h|⟨_,Q,h⟩|⟨h,_⟩
               .obtain⟨g,d,_⟩:=hA n R h;exact .inr ⟨g,by omega⟩
               .obtain⟨g,d,_⟩:=b0 n R h;exact .inr ⟨by omega,d⟩
               .exact .inl (hS.ids.ro n Q h)
               .exact .inl (hS.ids.ro n R h))
               (fun n B hn=>by
                rcases b7 n B hn with⟨rfl,rfl⟩|⟨_,hn⟩
                .refine⟨.inl (hS.ids.lo _ cells hcells).1,fun a ha m hm=>?_⟩;obtain⟨j,hj⟩:=qT.1 ha;have hjl:j<B.length:=(qA.1 hj).1;have hj12:j<12:=by rw[g5]at hjl;omega
                 rcases g6 j a hj with⟨k,n,rfl,d⟩|⟨y,rfl,d⟩|⟨t,F,rfl,I,d⟩|⟨t,F,r,rfl,I,g,d⟩
                 .simp [At.ids,zbo,zbq]at hm
                 .simp [At.ids,zbo,zbq]at hm
                 .simp only [At.ids,zbo,zbq,jC,qF]at hm;subst hm;exact .inr ⟨by omega,by omega⟩
                 .exact .inl ((hS.ids.lo _ cells hcells).2 _ (qI g) m hm)
                .exact⟨.inl (hS.ids.lo n B hn).1,fun a ha m hm=>.inl ((hS.ids.lo n B hn).2 a ha m hm)⟩)
               (dst:=o.dst) (zpN g1 g2) (fun n hn=>by
                simp only[MV.ids,qN]at hn;obtain⟨a,ha,hn⟩:=hn;obtain⟨x,z,ha⟩:=zpM ha;have:=zeH rs (id+12) n x a z ha hn;exact .inr ⟨by omega,by omega⟩)
              subst a4;exact e5 _ _ _ hnx
           {cases h}
          {cases h}
         {cases h}
        {cases h}
       {cases h}
      {cases h}
     {cases h}
    {cases h}
   {cases h}
  {cases h}
 {cases h}
end
def zNN (P:Program)(f:FuncId)(own:List Bool)(h:Option (Nat×Nat×List (List Nat)))(r:List (Nat×Nat))(n:List AV->Option (Bool×List AV)):Prop :=
 FnOk P f/\∀(w:World) (K:Nat->zX) (a:List AV) (e:List Value) (d:List AV),
  e.length=(zA a).length->own.length=(zA a).length->
  (∀(j:Nat) (c:CV) (u:Value),(zA a)[j]?=some c->e[j]?=some u->Rep ((own[j]?).getD false) w u c (K j))->
  (∀j x,j<(zA a).length->K j x->x<w.heap.size)->
  (∀i j x,i<(zA a).length->j<(zA a).length->zbb own i->i≠j->(j,i)∉r->K i x->¬ K j x)->
  (∀j i,(j,i)∈r->own[j]?=some false/\zbb own i/\e[j]?=e[i]?/\(zA a)[j]?=(zA a)[i]?/\∃t l,(zA a)[i]?=some (.s t l))->
  n a=some (true,d)->
  Calls P f (zbQ a e).toArray w fun
   |.returned v,w'=>w'.os=w.os/\w'.tape=w.tape/\w'.output=w.output/\w.heap.size<=w'.heap.size/\
    (∀b,b<w.heap.size->(∀j,j<(zA a).length->zbb own j->¬ K j b)->w'.heap[b]?=w.heap[b]?)/\
    ∃(q:List Value) (g:Nat->zX),zdf true w' (zA d) q g/\v=zjb (zbQ d q)/\
     (∀i x,i<(zA d).length->g i x->x<w'.heap.size/\((∃j,j<(zA a).length/\zbb own j/\K j x)\/w.heap.size<=x))/\
     (∀i j x,i<(zA d).length->j<(zA d).length->i≠j->g i x->¬ g j x)/\
     (∀k m y,h=some (k,m,y)->∀t l u,(zA a)[k]?=some (.s t l)->e[k]?=some u->∃z,(zA d)[m]?=some (.s t z)/\q[m]?=some u/\
      ∀p v,zZ w t u p=some v->y.any (fun c=>c.isPrefixOf (cols p))=false->zZ w' t u p=some v)
   |_,_=>False
def zdR (P:Program)(f:FuncId)(own:List Bool)(b:Option (Nat×Nat×List (List Nat)))(a:List AV->Option (Bool×List AV)):Prop :=
 match own with
 |[]=>zTO P f a
 |x::l=>∀c∈zhs f,zNN P f (x::l) b c a
theorem zdR.of {P:Program}{f:FuncId}{own:List Bool}{a:Option (Nat×Nat×List (List Nat))}{b:List AV->Option (Bool×List AV)}(c:own≠[])(h:∀d∈zhs f,zNN P f own a d b):zdR P f own a b:=by cases own with|nil=>exact absurd rfl c|cons x l=>exact h
theorem zdR.get {P:Program}{f:FuncId}{own:List Bool}{a:Option (Nat×Nat×List (List Nat))}{b:List AV->Option (Bool×List AV)}(h:zdR P f own a b)(c:own.isEmpty=false):∀d∈zhs f,zNN P f own a d b:=by cases own with|nil=>cases c|cons x l=>exact h
structure TctOk (C:Cfg):Prop where
 ok:∀f own inp run,C.tct f=some (own,inp,run)->zdR C.P f own inp run
section
variable {C:Cfg} {w0 w w1:World} {S0:zX} {U:Nat->Prop} {st st1:St} {E E1:Env} {ts:Array Value} {sv:List (Array Value)}
structure Tks (st:St) (own:List Bool) (ats:List At) (cs:List CV) (ks:List Nat):Prop where
 len:cs.length=ats.length
 olen:own.length=ats.length
 ownk:∀r∈ks,∃j,zbb own j/\ats[j]?=some (.sl r [])
 get:∀(j:Nat) (a:At),ats[j]?=some a->(zbb own j/\∃r R,a = .sl r []/\st.root r=some R/\R.own=true/\r∈ks/\cs[j]?=some (.s R.t R.l))\/(own[j]?=some false/\∃c,st.cvOf a=some c/\cs[j]?=some c)
 inj:∀(i j r:Nat),zbb own i->zbb own j->ats[i]?=some (.sl r [])->ats[j]?=some (.sl r [])->i=j
theorem z4Y:∀(own:List Bool) (w:List At) (cs:List CV) (ks:List Nat),st.tks own w=some (cs,ks)->Tks st own w cs ks
 |[],[],cs,ks,h=>by cases h;exact⟨rfl,rfl,fun r h=>by simp at h,fun j a h=>by simp at h,fun i j r h=>by simp[zbb]at h⟩
 |[],_::_,_,_,h=>by simp[St.tks]at h
 |_::_,[],_,_,h=>by simp[St.tks]at h
 |o::ms,a::r,cs,ks,h=>by
  simp only[St.tks]at h;split at h;{cases h}
  .rename_i cs0 ks0 h0;have k:=z4Y ms r cs0 ks0 h0;have p:∀(v:List Nat) (c:CV),(∀x∈ks0,x∈v)->∀(j:Nat) (b:At),r[j]?=some b ->
    (zbb (o::ms) (j+1)/\∃q R,b = .sl q []/\st.root q=some R/\R.own=true/\q∈v/\(c::cs0)[j+1]?=some (.s R.t R.l))\/((o::ms)[j+1]?=some false/\∃d,st.cvOf b=some d/\(c::cs0)[j+1]?=some d):=by
    intro v c E j b m;rcases k.get j b m with⟨e,q,R,y,C,G,D,H⟩|⟨e,d,y,C⟩
    .exact .inl ⟨by simpa [zbb] using e,q,R,y,C,G,E q D,by simpa using H⟩
    .exact .inr ⟨by simpa using e,d,y,by simpa using C⟩
   split at h;{split at h;{rename_i q;split at h;{rename_i R I;split at h;{rename_i f;simp only[qD,jE,jN,decide_eq_false_iff_not]at f;obtain⟨A,F⟩:=f;cases h;have B:∀(i:Nat),zbb ms i->r[i]?=some (.sl q [])->False:=(by intro i u K;rcases k.get i _ K with⟨_,M,L,y,_,_,D,_⟩|⟨e,_⟩;{cases y;exact F D};{rw [u]at e;cases e});refine⟨by simp[k.len],by simp[k.olen],fun x n=>?_,fun j b m=>?_,fun i j x u z e g=>?_⟩;{rcases qG.1 n with rfl|n;{exact⟨0,rfl,rfl⟩};{obtain⟨j,e,g⟩:=k.ownk x n;exact⟨j+1,by simpa [zbb] using e,by simpa using g⟩}};{cases j with|zero=>simp only[qH,qC]at m;subst m;exact .inl ⟨rfl,q,R,rfl,I,A,jA,by simp⟩|succ j=>exact p _ _ (fun x n=>qX _ n) j b (by simpa using m)};{cases i with|zero=>(cases j with|zero=>rfl|succ j=>simp only[qH,qC,At.sl.injEq,and_true]at e;subst e;exact(B j (by simpa [zbb] using z) (by simpa using g)).elim)|succ i=>(cases j with|zero=>simp only[qH,qC,At.sl.injEq,and_true]at g;subst g;exact(B i (by simpa [zbb] using u) (by simpa using e)).elim|succ j=>have:=k.inj i j x (by simpa [zbb] using u) (by simpa [zbb] using z) (by simpa using e) (by simpa using g);omega)}};{cases h}};{cases h}};{cases h}};{split at h;{rename_i c J;cases h;refine⟨by simp[k.len],by simp[k.olen],fun x n=>?_,fun j b m=>?_,fun i j x u z e g=>?_⟩;{obtain⟨j,e,g⟩:=k.ownk x n;exact⟨j+1,by simpa [zbb] using e,by simpa using g⟩};{cases j with|zero=>simp only[qH,qC]at m;subst m;exact .inr ⟨rfl,c,J,by simp⟩|succ j=>exact p _ _ (fun x n=>n) j b (by simpa using m)};{cases i with|zero=>simp[zbb]at u|succ i=>(cases j with|zero=>simp[zbb]at z|succ j=>have:=k.inj i j x (by simpa [zbb] using u) (by simpa [zbb] using z) (by simpa using e) (by simpa using g);omega)}};{cases h}}
theorem zUD {ks:List Nat}{f:List (Nat×Nat)}:∀(n:Nat) (own:List Bool) (c:List At),zx0 st ks f n own c=true->∀(j:Nat) (a:At),c[j]?=some a->own[j]?=some false->(∀i,(n+j,i)∉f)->z2t st ks a=true
 |_,[],_,_,j,a,_,e,_=>by simp at e
 |_,_::_,[],_,j,a,d,_,_=>by simp at d
 |n,o::ms,b::r,h,j,a,d,e,g=>by
  simp only[zx0,qD,kF]at h;cases j with
  |zero=>simp only[qH,qC]at d e;subst d e;rcases h.1 with h|h|h;{cases h};{obtain⟨x,l,k⟩:=uB.1 h;have:x.1=n:=kJ k;exact absurd (by rw[jY,<- this];exact l) (g x.2)};{exact h}
  |succ j=>exact zUD (n+1) ms r h.2 j a (by simpa using d) (by simpa using e) (fun i=>by have:=g i;rwa [show n+1+j=n+(j+1) by omega])
theorem zvh {own:List Bool}{a:List At}{b:List (Nat×Nat)}(h:zNO own a b=true){j i:Nat}(k:(j,i)∈b):∃q,a[j]?=some (.sl q [])/\a[i]?=some (.sl q [])/\own[j]?=some false/\zbb own i:=by have:=qM.1 h _ k;dsimp only at this;split at this;{rename_i q r c d f g;have e:q=r:=kJ this;subst e;exact⟨q,c,d,f,g⟩};{cases this}
theorem zXr (D:Sim w0 S0 U st E ts sv w):∀(l:List Operand) (d:List TV),zTE st l=some d->
 ∃xs:List Value,xs.length=(d.flatMap zS).length/\(∀(j:Nat) (a:At) (u:Value),(d.flatMap zS)[j]?=some a->xs[j]?=some u->VA w st E a u)/\
  ∀cs:List CV,cs.length=xs.length->l.map ({tmps:=ts,defers:=[]}:Act).eval=zbQ (zfT d cs) xs/\zA (zfT d cs)=cs
 |[],d,h=>by
  cases h;exact⟨[],rfl,fun j a u h=>by simp at h,fun cs f=>by
   have:cs=[]:=List.eq_nil_of_length_eq_zero (by simpa using f)
   subst this;exact⟨rfl,rfl⟩⟩
 |x::r,d,h=>by simp only[zTE]at h;split at h;{rename_i y n L K;cases h;obtain⟨xs,A,B,C⟩:=zXr D r n K;obtain⟨F,-⟩:=zb0 D L;rcases y with a|l;{refine⟨({tmps:=ts,defers:=[]}:Act).eval x::xs,by simp[zS,A],fun j b u g i=>?_,fun cs f=>?_⟩;{cases j with|zero=>simp[zS]at g i;subst g i;exact F|succ j=>exact B j b u (by simpa [zS] using g) (by simpa using i)};{cases cs with|nil=>simp at f|cons c cs=>obtain⟨p,q⟩:=C cs (by simpa using f);refine⟨by simp[zfT,zbQ,p],?_⟩;have e:zA (zfT (TV.at a::n) (c::cs))=c::zA (zfT n cs):=(by simp[zfT,zA,AV.cvs]);rw[e,q]}};{obtain⟨m,v,k,z⟩:=F;have s:m.toList.length=l.length:=(by simp[k]);refine⟨m.toList++xs,by simp[zS,A,k],fun j b u g i=>?_,fun cs f=>?_⟩;{simp only [j7,zS]at g;by_cases J:j<l.length;{rw [qV J]at g;rw[qV (by omega)]at i;exact(z j b u g (by simpa using i)).2};{rw [qR (by omega)]at g;rw[qR (by omega),s]at i;exact B _ b u g i}};{have I:cs.length=l.length+xs.length:=(by simpa [k] using f);obtain⟨p,q⟩:=C (cs.drop l.length) (by simp;omega);have t:(cs.take l.length).length=l.length:=(by simp;omega);refine⟨?_,?_⟩;{have G:List.take l.length (m.toList++xs)=m.toList:=(by rw[<- s];exact kN rfl);have H:List.drop l.length (m.toList++xs)=xs:=(by rw[<- s];exact kY rfl);simp only[jB,zfT,zbQ,v,t,G,H,p,jR]};{have e:zA (zfT (TV.agg l::n) cs)=cs.take l.length++zA (zfT n (cs.drop l.length)):=(by simp[zfT,zA,AV.cvs]);rw[e,q,List.take_append_drop]}}}};{cases h}
theorem z3T {f:At->At}(T:∀a v,(∀n∈a.ids,U n)->VA w st E a v->VA w1 st1 E1 (f a) v){x:TV}{v:Value}(g:∀a∈zS x,∀n∈a.ids,U n)(h:VT w st E x v):VT w1 st1 E1 (zqF f x) v:=by rcases x with a|l;{exact T a v (g a (by simp[zS])) h};{obtain⟨p,k,m,e⟩:=h;refine⟨p,k,by simp[m],fun j a u c i=>?_⟩;rw[qP]at c;cases d:l[j]? with|none=>rw[d]at c;cases c|some b=>rw[d]at c;cases c;exact⟨(e j b u d i).1,T _ _ (g b (by simp only[zS];exact qI d)) (e j b u d i).2⟩}
theorem zbbQ {f:At->At}(T:∀a v,(∀n∈a.ids,U n)->VA w st E a v->VA w1 st1 E1 (f a) v){m:MV}{v:Value}(p:∀n∈m.ids,U n)(h:VM w st E m v):VM w1 st1 E1 (zi6 f m) v:=by have d:∀a∈zbA m,∀n∈a.ids,U n:=fun a c n q=>p n (by simp only[MV.ids,qN];exact⟨a,c,q⟩);cases m with|und=>exact h|v x=>exact z3T T d h|tup l=>obtain⟨s,g,i,k⟩:=h;refine⟨s,g,by simp[i],fun j a u c r=>?_⟩;rw[qP]at c;(cases e:l[j]? with|none=>rw[e]at c;cases c|some b=>rw[e]at c;cases c;refine z3T T (fun a c=>d a ?_) (k j b u e r);simp only[zbA,qN];exact⟨b,qI e,c⟩)
theorem zRm {f:At->At}(T:∀a v,(∀n∈a.ids,U n)->VA w st E a v->VA w1 st1 E1 (f a) v){tm:List MV}{ts:Array Value}(e:∀m∈tm,∀n∈m.ids,U n)(h:Slots w st E tm ts):Slots w1 st1 E1 (tm.map (zi6 f)) ts:=by refine⟨by simp[h.1],fun i m v c g=>?_⟩;rw[qP]at c;cases d:tm[i]? with|none=>rw[d]at c;cases c|some b=>rw[d]at c;cases c;exact zbbQ T (e b (qI d)) (h.2 i b v d g)
theorem zRn {f:At->At}(T:∀a v,(∀n∈a.ids,U n)->VA w st E a v->VA w1 st1 E1 (f a) v):∀{l:List (List MV)} {s:List (Array Value)},(∀g∈l,∀m∈g,∀n∈m.ids,U n)->Stack w st E l s->Stack w1 st1 E1 (l.map fun g=>g.map (zi6 f)) s
 |[],[],_,_=>trivial
 |g::l,ts::s,b,h=>⟨zRm T (b g (by simp)) h.1,zRn T (fun c hg=>b c (by simp[hg])) h.2⟩
 |[],_::_,_,h=>h.elim
 |_::_,[],_,h=>h.elim
theorem zRk {f:At->At}{x:TV}{a:At}(h:a∈zS (zqF f x)):∃b∈zS x,a=f b:=by rcases x with b|l;{simp only [zqF,zS,qF]at h ⊢;exact⟨b,rfl,h⟩};{simp only [zqF,zS,jD]at h ⊢;obtain⟨b,c,rfl⟩:=h;exact⟨b,c,rfl⟩}
theorem zRj {f:At->At}{m:MV}{n:Nat}(h:n∈(zi6 f m).ids):∃a∈zbA m,n∈(f a).ids:=by simp only[MV.ids,qN]at h;obtain⟨a,c,e⟩:=h;have:∃b∈zbA m,a=f b:=(by cases m with|und=>simp[zi6,zbA]at c|v x=>exact zRk c|tup l=>simp only[zi6,zbA,qN,jD]at c ⊢;obtain⟨y,⟨x,g,rfl⟩,c⟩:=c;obtain⟨b,d,rfl⟩:=zRk c;exact⟨b,⟨x,g,d⟩,rfl⟩);obtain⟨b,d,rfl⟩:=this;exact⟨b,d,e⟩
theorem zRz {q n k:Nat}{js:List (List Nat)}{a:At}(h:k∈(zlk q n js a).ids):k∈a.ids\/k=n:=by cases a with|sl r p=>simp only[zlk]at h;cases d:Nat.beq r q<;>rw [d]at h;{exact .inl h};{cases e:js.any (fun m=>m.isPrefixOf (cols p))<;>rw [e]at h;{simp only [cond_true,cond_false,At.ids,zbo,zbq,jC,qF]at h;exact .inr h};{simp [At.ids,zbo,zbq]at h}}|ep r p i o=>simp only[zlk]at h;cases d:Nat.beq r q<;>rw [d]at h;{exact .inl h};{cases e:js.any (fun m=>m.isPrefixOf (cols p))<;>rw [e]at h;{simp only [cond_true,cond_false,At.ids,zbo,zbq,jC,qF]at h;exact .inr h};{simp [At.ids,zbo,zbq]at h}}|kp r J t=>simp only[zlk]at h;cases d:Nat.beq r q<;>rw [d]at h;{exact .inl h};{cases e:coarse js J<;>rw [e]at h;{simp [At.ids,zbo,zbq]at h};{simp only [cond_true,At.ids,zbo,zbq,jC,qF]at h;exact .inr h}}|bad=>exact .inl h|i k n=>exact .inl h|b x=>exact .inl h|lp l o=>exact .inl h|fn f c=>exact .inl h
theorem zbaQ {U1:Nat->Prop}(D:Sim w0 S0 U st E ts sv w)(A:Mem w0 S0 st1 E1 w1)(hT:Trans st E w st1 E1 w1 U)(a0:st1.tm=st.tm)(O:st1.stk=st.stk)(s:st1.lo=st.lo)(hU:∀n,U n->U1 n)(a6:∀n R,zl st1.ro n=some R->U1 n)(S:∀l cs,zl st.lo l=some cs->w1.heap[E.β l]?=w.heap[E.β l]?){q n:Nat}{js:List (List Nat)}(hn:U1 n)(hq:∀H,st1.root n=some H->∃R,st.root q=some R/\H.t=R.t/\E1.ρ n=E.ρ q/\∀p u,zZ w R.t (E.ρ q) p=some u->js.any (fun c=>c.isPrefixOf (cols p))=false->zZ w1 R.t (E.ρ q) p=some u) :
 Sim w0 S0 U1 (st1.ren (some (q,n,js))) E1 ts sv w1:=by
 have a7:∀r,(st1.ren (some (q,n,js))).root r=st1.root r:=fun r=>rfl;have y:∀l cs,zl (st1.ren (some (q,n,js))).lo l=some cs->∃d,zl st.lo l=some d/\cs=d.map (zlk q n js):=by intro l cs h;simp only[St.ren,s]at h;rw[zki]at h;cases W:zl st.lo l with|none=>rw[W]at h;cases h|some d=>rw[W]at h;cases h;exact⟨d,rfl,rfl⟩
 have hI:Trans st1 E1 w1 (st1.ren (some (q,n,js))) E1 w1 (fun _=>True):=
  ⟨fun r _ H z=>⟨H,z,rfl,fun _ _ h=>h⟩,fun l _ a3 z=>⟨by obtain⟨d,B,_⟩:=y l a3 z;exact⟨d,by rw[s];exact B⟩,rfl⟩,rfl⟩
 have T:∀a v,(∀k∈a.ids,U k)->VA w st E a v->VA w1 (st1.ren (some (q,n,js))) E1 (zlk q n js a) v:=by
  intro a v Z K;have same:VA w1 (st1.ren (some (q,n,js))) E1 a v:=VA.tr hI (fun _ _=>trivial) (VA.tr hT Z K);cases a with
  |bad=>trivial
  |i k n=>exact K
  |b x=>exact K
  |lp l o=>exact same
  |fn f c=>exact same
  |sl r p=>
   simp only[zlk];cases M:Nat.beq r q with
   |false=>exact same
   |true=>rw[kO]at M;subst M;cases F:js.any (fun m=>m.isPrefixOf (cols p)) with|true=>trivial|false=>refine⟨K.1,fun H C=>?_⟩;obtain⟨R,z,B,Q,L⟩:=hq H C;rw[B,Q];exact L p v (K.2 R z) F
  |ep r p i o=>
   simp only[zlk];cases M:Nat.beq r q with
   |false=>exact same
   |true=>rw[kO]at M;subst M;cases F:js.any (fun m=>m.isPrefixOf (cols p)) with|true=>trivial|false=>refine⟨K.1,fun H C=>?_⟩;obtain⟨R,z,B,Q,L⟩:=hq H C;obtain⟨b,o',len,a2,t',P,Y,g3⟩:=K.2 R z;exact⟨b,o',len,a2,t',by rw[B,Q];exact L p _ P F,by rw[B];exact Y,g3⟩
  |kp r J t=>simp only[zlk];cases M:Nat.beq r q with|false=>exact same|true=>rw[kO]at M;subst M;(cases F:coarse js J with|false=>trivial|true=>refine⟨K.1,fun H C=>?_⟩;obtain⟨R,z,B,Q,L⟩:=hq H C;obtain⟨P,Y,g3⟩:=K.2 R z;refine⟨B.trans P,Q.trans Y,fun p u hp hJ=>?_⟩;rw[hT.κ]at hp;have:=L p u (by rw[P,Y];exact g3 p u hp hJ) (zzH F hJ);rwa [P,Y] at this)
 have N:∀{m:MV} {k:Nat},(∀j∈m.ids,U j)->k∈(zi6 (zlk q n js) m).ids->U1 k:=by intro m k X I;obtain⟨a,Z,I⟩:=zRj I;rcases zRz I with h|rfl;{exact hU k (X k (by simp only[MV.ids,qN];exact⟨a,Z,h⟩))};{exact hn}
 refine⟨⟨A.os,A.tape,A.output,A.size,A.keep,A.rep,A.rlt,A.mine,A.frz,A.apart,fun l cs W=>?_,fun l l' cs d z B he=>?_,fun l cs r R W hR=>?_,A.epo,A.κ⟩,⟨a6,fun k cs I=>?_,fun m X k I=>?_,fun g hg m X k I=>?_⟩,?_,?_⟩
 .obtain⟨d,hl',rfl⟩:=y l cs W;obtain⟨z,a1,e,B,Q,L⟩:=D.mem.loc l d hl';obtain⟨P,_⟩:=A.loc l d (by rw[s];exact hl')
  have a8:E1.β l=E.β l:=(hT.lo l (D.ids.lo l d hl').1 d (by rw[s];exact hl')).2
  refine⟨P,a1,e,by rw[a8,S l d hl'];exact B,by simp[Q],fun j c u F hu=>?_⟩
  rw[qP]at F;cases G:d[j]? with
  |none=>rw[G]at F;cases F
  |some c' =>rw[G]at F;cases F;exact⟨(L j c' u G hu).1,T _ _ ((D.ids.lo l d hl').2 c' (qI G)) (L j c' u G hu).2⟩
 .obtain⟨c1,z,_⟩:=y l cs z;obtain⟨c2,B,_⟩:=y l' d B;exact A.linj l l' c1 c2 (by rw[s];exact z) (by rw[s];exact B) he
 .obtain⟨c1,z,_⟩:=y l cs W;exact A.lro l c1 r R (by rw[s];exact z) hR
 .obtain⟨d,z,rfl⟩:=y k cs I;refine⟨hU k (D.ids.lo k d z).1,fun a Z j hj=>?_⟩;obtain⟨a',a4,rfl⟩:=jD.1 Z;rcases zRz hj with h|rfl
  .exact hU j ((D.ids.lo k d z).2 a' a4 j h)
  .exact hn
 .simp only [St.ren,a0]at X;obtain⟨m0,V,rfl⟩:=jD.1 X;exact N (D.ids.tm m0 V) I
 .simp only [St.ren,O]at hg;obtain⟨g0,a5,rfl⟩:=jD.1 hg;obtain⟨m0,V,rfl⟩:=jD.1 X;exact N (D.ids.stk g0 a5 m0 V) I
 .have:=zRm T D.ids.tm D.tm;simpa only [St.ren,a0] using this
 .have:=zRn T D.ids.stk D.stk;simpa only [St.ren,O] using this
theorem z7q (hH:TctOk C)(w0 w:World)(S0:zX)(U:Nat->Prop)(st:St)(E:Env)(ts:Array Value)(sv:List (Array Value))(o:Oper)(id:Nat)(c:Bool)(f1:St)(mv:MV)(hS:Sim w0 S0 U st E ts sv w)(e4:∀n,Mine id n->¬ U n)(h:zTD C st o id=some (c,f1,mv))(hc:c=true):Goes C w0 S0 U st ts sv w o id (fun _=>f1.put o.dst mv)/\f1.nid=st.nid:=by
 subst hc;unfold zTD at h;split at h
 .rename_i cl T;split at h
  .rename_i f hcb;split at h
   .rename_i own inp run htct;cases e7:own.isEmpty with
    |true=>rw[e7]at h;cases h
    |false=>
    rw[e7]at h;simp only[cond_false]at h;unfold z4W at h;split at h
    .rename_i tvs htvs;split at h
     .rename_i cs ks htks;split at h;rotate_left;{cases h}
      rename_i x Y;cases a4:(zhs f).any (fun al=>zNO own (tvs.flatMap zS) al&&zx0 st ks al 0 own (tvs.flatMap zS)) with
      |false=>rw[a4]at h;cases h
      |true=>
       rw[a4]at h;simp only[cond_true]at h;obtain⟨al,hal,b5⟩:=uB.1 a4;rw[qD]at b5;obtain⟨b4,e3⟩:=b5;split at h
       .rename_i cc rs hrun;split at h
        .rename_i hlen;simp only[qC,jT]at h;obtain⟨rfl,rfl,rfl⟩:=h;refine⟨?_,by cases x<;>rfl⟩;have hrsl:(zA rs).length<=31:=hlen;obtain⟨⟨fn,bd,hf,hbd,e5⟩,hHT⟩:=(hH.ok f own inp run htct).get e7 al hal;have hB:=z4Y own _ cs ks htks;have F:=hS.mem;obtain⟨xs,c5,d0,hxp⟩:=zXr hS cl.args.toList tvs htvs;obtain⟨hxm,c0⟩:=hxp cs (by rw[hB.len,c5]);let Ka:zX:=fun x=>x<w.heap.size/\∀r∈ks,¬ E.φ r x
         have hks:∀r∈ks,∃j R,j<cs.length/\zbb own j/\(tvs.flatMap zS)[j]?=some (.sl r [])/\st.root r=some R/\R.own=true:=(by intro r O;obtain⟨j,g,z⟩:=hB.ownk r O;rcases hB.get j _ z with⟨_,q,R,h,L,V,_,_⟩|⟨h,_⟩;{cases h;exact⟨j,R,by rw[hB.len];exact(qA.1 z).1,g,z,L,V⟩};{rw [g]at h;cases h});let K:Nat->zX:=fun j=>@ite _ (own[j]?=some true\/∃i,(j,i)∈al) (Classical.propDecidable _) (cφ E (tvs.flatMap zS) j) Ka
         have c6:∀j,zbb own j->K j=cφ E (tvs.flatMap zS) j:=fun j hj=>if_pos (.inl hj);have d6:∀j i,(j,i)∈al->K j=cφ E (tvs.flatMap zS) j:=fun j i hj=>if_pos (.inr ⟨i,hj⟩);have d5:∀j,¬ zbb own j->(∀i,(j,i)∉al)->K j=Ka:=fun j hj hn=>if_neg (fun h=>h.elim hj (fun⟨i,hi⟩=>hn i hi));have D:∀j x,zbb own j->K j x->∃r∈ks,∃R,(tvs.flatMap zS)[j]?=some (.sl r [])/\st.root r=some R/\R.own=true/\E.φ r x:=(by intro j x hj B;rw[c6 j hj]at B;obtain⟨a,ha,B⟩:=ztT B;rcases hB.get j a ha with⟨_,r,R,rfl,L,V,Z,_⟩|⟨h,_⟩;{exact⟨r,Z,R,ha,L,V,B⟩};{rw [hj]at h;cases h});have c7:cl.args.map ({tmps:=ts,defers:=[]}:Act).eval=(zbQ (zfT tvs cs) xs).toArray:=(by rw[<- hxm,<- uA,jR]);intro next Q c4;have c8:fn.name≠ "runtime.NumGoroutine":=(by simpa using e5);have e0:(execOp ({tmps:=ts,defers:=[]}:Act).eval o).run C.P w = .ok (.enter f (zbQ (zfT tvs cs) xs).toArray) w:=(by have hfe:({tmps:=ts,defers:=[]}:Act).eval (.func f) = .func (.func f) #[] #[]:=rfl;simp[execOp,T,resolve,hcb,Deferred.ofValue,invoke,callFunc,hf,hbd,c8,c7,hfe]);unfold Oper.wp;rw[e0,Oper.upon_enter];have f5:(zA (zfT tvs cs)).length=cs.length:=(by rw[c0]);refine(hHT w K (zfT tvs cs) xs rs (by rw[c0,hB.len,c5]) (by rw[c0,hB.len,hB.olen]) (fun j c u b9 hu=>?_) (fun j x hj B=>?_) (fun i j x hi hj T e6 hna B a3=>?_) (fun j i W=>?_) hrun).mono ?_
         .rw [c0]at b9;have hj:j<(tvs.flatMap zS).length:=(by rw[<- hB.len];exact(qA.1 b9).1);have ha:=qB hj;have a6:=d0 j _ u ha hu;rcases hB.get j _ ha with⟨g,r,R,z,L,V,Z,g4⟩|⟨g,d,L,V⟩;{rw [b9] at g4;cases g4;have e:(own[j]?).getD false=true:=(by rw[show own[j]?=some true from g];rfl);rw[z]at a6 ha;have:=a6.2 R L;simp only[zZ,qC] at this;subst this;have O:=F.rep r R L;rw[V]at O;rw[e];refine O.weak (fun x B=>?_);rw[c6 j g,zgE ha];exact B}
          .rw [b9] at V;cases V;have e:(own[j]?).getD false=false:=(by rw[g];rfl);by_cases hA:∃i,(j,i)∈al;{obtain⟨i,W⟩:=hA;obtain⟨q,q1,q2,_,q4⟩:=zvh b4 W;rw[ha] at q1;have q1:=Option.some.inj q1;rw[q1]at ha a6 L;rcases hB.get i _ q2 with⟨_,r,R,e9,Z,g4,g5,g6⟩|⟨hb,_⟩;rotate_left;{rw [show own[i]?=some true from q4]at hb;cases hb};cases e9;have d9:st.cvOf (.sl q [])=some (.s R.t R.l):=(by simp[St.cvOf,St.node,Z,zgm]);rw[d9] at L;cases L;have:=a6.2 R Z;simp only[zZ,qC] at this;subst this;rw[e,d6 j i W];exact((F.rep q R Z).weak (fun x B=>by rw[zgE ha];exact B)).ro};have g9:∀i,(j,i)∉al:=fun i hi=>hA ⟨i,hi⟩;rw[e,d5 j (fun h=>by rw[show own[j]?=some true from h]at g;cases g) g9]
           exact zDm hS (ks:=ks) (fun r R x M he O B=>⟨F.rlt r R M x B,fun q hq hqx=>by
            obtain⟨_,Q',_,_,_,hQ,hQo⟩:=hks q hq;exact F.apart q Q' r R hQ hQo M he (fun e=>O (by rw[<- e];exact hq)) x hqx B⟩) (zUD 0 own _ e3 j _ ha g (fun i=>by rw[j4];exact g9 i)) L a6
         {by_cases c3:zbb own j;{obtain⟨r,_,R,_,z,_,S⟩:=D j x c3 B;exact F.rlt r R z x S};{by_cases hA:∃i,(j,i)∈al;{obtain⟨i,W⟩:=hA;obtain⟨q,q1,q2,_,q4⟩:=zvh b4 W;rw[d6 j i W,zgE q1]at B;have f0:K i x:=(by rw[c6 i q4,zgE q2];exact B);obtain⟨r,_,R,_,z,_,S⟩:=D i x q4 f0;exact F.rlt r R z x S};{rw [d5 j c3 (fun i hi=>hA ⟨i,hi⟩)]at B;exact B.1}}};{obtain⟨r,O,R,g,z,I,S⟩:=D i x T B;by_cases c3:zbb own j;{obtain⟨r',_,R',a8,a9,b8,b0⟩:=D j x c3 a3;have:=F.own_apart z I a9 b8 S b0;subst this;exact e6 (hB.inj i j r T c3 g a8)};{by_cases hA:∃i,(j,i)∈al;{obtain⟨i',W⟩:=hA;obtain⟨q,q1,q2,_,q4⟩:=zvh b4 W;rw[d6 j i' W,zgE q1]at a3;have f0:K i' x:=(by rw[c6 i' q4,zgE q2];exact a3);obtain⟨r',_,R',a8,a9,b8,b0⟩:=D i' x q4 f0;have:=F.own_apart z I a9 b8 S b0;subst this;have:=hB.inj i i' r T q4 g a8;subst this;exact hna W};{rw [d5 j c3 (fun i hi=>hA ⟨i,hi⟩)]at a3;exact a3.2 r O S}}};{obtain⟨q,q1,q2,q3,q4⟩:=zvh b4 W;rcases hB.get i _ q2 with⟨_,r,R,e9,Z,g4,g5,g6⟩|⟨hb,_⟩;rotate_left;{rw [show own[i]?=some true from q4]at hb;cases hb};cases e9;have b9:cs[j]?=some (.s R.t R.l):=(by rcases hB.get j _ q1 with⟨T,_⟩|⟨_,d,L,V⟩;{rw [show own[j]?=some true from T] at q3;cases q3};{have d9:st.cvOf (.sl q [])=some (.s R.t R.l):=(by simp[St.cvOf,St.node,Z,zgm]);rw[d9] at L;cases L;exact V});rw[c0];refine⟨q3,q4,?_,by rw[b9,g6],_,_,g6⟩;have f9:j<xs.length:=(by rw[c5];exact(qA.1 q1).1);have f7:i<xs.length:=(by rw[c5];exact(qA.1 q2).1);have e1:=(d0 j _ _ q1 (qB f9)).2 R Z;have e2:=(d0 i _ _ q2 (qB f7)).2 R Z;simp only[zZ,qC] at e1 e2;rw[qB f9,qB f7,<- e1,<- e2]}
         .intro ex w' he;cases ex with
          |panicked chain=>exact he.elim
          |outgrown=>exact he.elim
          |returned v=>
           obtain⟨hos,htp,h6,h9,X,ys,Kr,d1,rfl,d2,f3,f8⟩:=he;rw[f5]at X d2;let E1:Env:={E with ρ:=fun n=>if id<=n/\n<id+32 then (ys[n-id]?).getD undef else E.ρ n,φ:=fun n=>if id<=n/\n<id+32 then (fun x=>n-id<(zA rs).length/\Kr (n-id) x) else E.φ n}
           have a0:∀n,U n->E1.ρ n=E.ρ n/\E1.φ n=E.φ n:=(by intro n hn;have a1:¬ (id<=n/\n<id+32):=fun h=>e4 n h hn;simp only[E1,if_neg a1,and_self]);have b1:∀n,id<=n->n<id+32->E1.ρ n=(ys[n-id]?).getD undef/\E1.φ n=fun x=>n-id<(zA rs).length/\Kr (n-id) x:=(by intro n g z;simp only[E1,if_pos (show id<=n/\n<id+32 from ⟨g,z⟩),and_self]);generalize J:({st with ro:=zcN zlS rs id++(killed st ks++st.ro),ep:=st.ep+1}:St)=st1;have c9:st1.ro=zcN zlS rs id++(killed st ks++st.ro):=(by rw[<- J]);have H:st1.lo=st.lo:=(by rw[<- J]);have b7:st1.ep=st.ep+1:=(by rw[<- J]);have b3:∀l cs,zl st.lo l=some cs->E.β l<w.heap.size:=(by intro l cs h;obtain⟨_,vals,e,z,_⟩:=F.loc l cs h;exact(qQ.1 z).1);have a7:∀r R,zl (zcN zlS rs id) r=some R->id<=r/\r<id+32/\r-id<(zA rs).length/\∃t l,(zA rs)[r-id]?=some (.s t l)/\R=⟨t,l,true,none⟩:=(by intro r R O;obtain⟨g,t,l',I,S⟩:=zeG zlS rs id r R O;have g8:=(qA.1 I).1;exact⟨g,by omega,g8,t,l',I,S⟩);have e8:∀r R,zl st1.ro r=some R->zl (zcN zlS rs id) r=some R\/(R.ep=some st.ep/\∃Q,zl st.ro r=some Q)\/(zl st.ro r=some R/\r∉ks):=(by intro r R O;rw[c9,zbO]at O;split at O;{rename_i Q hQ;cases O;exact .inl hQ};{rw [zbO]at O;split at O;{rename_i Q hQ;cases O;exact .inr (.inl (zsY ks r _ hQ))};{rename_i hn;exact .inr (.inr ⟨O,zqA ks r R hn O⟩)}});have A:∀r R,st1.root r=some R->zl (zcN zlS rs id) r=some R\/(st.root r=some R/\R.ep=none/\r∉ks/\U r):=(by intro r R O;obtain⟨g,z⟩:=zbw O;rw[b7]at z;rcases e8 r R g with h|⟨h,_⟩|⟨h,hk⟩;{exact .inl h};{rcases z with z|z;{rw [h]at z;cases z};{rw [h]at z;simp at z}};{rcases z with z|z;{exact .inr ⟨zgN h (.inl z),z,hk,hS.ids.ro r R h⟩};{have:=F.epo r R _ h z;omega}});have f6:∀r R,st.root r=some R->R.ep=none->r∉ks->∀x,E.φ r x->w'.heap[x]?=w.heap[x]?:=(by intro r R M he hk x B;refine X x (F.rlt r R M x B) (fun j hj T hkx=>?_);obtain⟨q,hq,Q',_,g,z,I⟩:=D j x T hkx;exact F.apart q Q' r R g z M he (fun e=>hk (by rw[<- e];exact hq)) x I B);have a5:∀x,(x<w'.heap.size/\((∃i,i<cs.length/\zbb own i/\K i x)\/w.heap.size<=x))->(S0 x\/w0.heap.size<=x)/\∀r R,st.root r=some R->R.ep=none->r∉ks->¬ E.φ r x:=(by intro x ⟨g,I⟩;rcases I with⟨i,hi,T,hk⟩|I;{obtain⟨q,hq,Q',_,L,V,Z⟩:=D i x T hk;exact⟨(F.mine q Q' L V).2 x Z,fun r R M he g0 B=>F.apart q Q' r R L V M he (fun e=>g0 (by rw[<- e];exact hq)) x Z B⟩};{exact⟨.inr (qU F.size I),fun r R M he g0 B=>by have:=F.rlt r R M x B;omega⟩});have d8:∀r R,zl (zcN zlS rs id) r=some R->Rep true w' (E1.ρ r) (.s R.t R.l) (E1.φ r):=(by intro r R O;obtain⟨g,z,I,t,l',h5,rfl⟩:=a7 r R O;have hv:r-id<ys.length:=(by rw[d1.1];exact I);have hu:=qB hv;rw[(b1 r g z).1,(b1 r g z).2,hu];exact(d1.2 _ _ _ h5 hu).weak (fun x B=>⟨I,B⟩));have N:∀r R,zl (zcN zlS rs id) r=some R->∀x,E1.φ r x->x<w'.heap.size/\((∃i,i<cs.length/\zbb own i/\K i x)\/w.heap.size<=x):=(by intro r R O x B;obtain⟨g,z,I,_⟩:=a7 r R O;rw[(b1 r g z).2]at B;exact d2 _ x B.1 B.2);have b2:∀r R,zl (zcN zlS rs id) r=some R->R.own=true/\R.ep=none:=(by intro r R O;obtain⟨_,_,_,t,l',_,rfl⟩:=a7 r R O;exact⟨rfl,rfl⟩);have hT:Trans st E w st1 E1 w' U:=(by refine⟨fun r hU R1 d7=>?_,fun l' hU G g=>⟨⟨G,by rw[H]at g;exact g⟩,rfl⟩,rfl⟩;rcases A r R1 d7 with h|⟨g,z,I,S⟩;{obtain⟨L,V,_⟩:=a7 r R1 h;exact absurd hU (e4 r ⟨L,V⟩)};{refine⟨R1,g,rfl,fun p u hp=>?_⟩;rw[(a0 r hU).1,zda p (F.rep r R1 g) (f6 r R1 g z I)];exact hp});have d3:Mem w0 S0 st1 E1 w':=by refine⟨hos.trans F.os,htp.trans F.tape,h6.trans F.output,qU F.size h9,fun b hb h0=>?_,fun r R M=>?_,fun r R M x B=>?_,fun r R M T=>?_,fun hz r R M T he hf=>?_,fun r R r' R' M T f4 he e6 x B=>?_,fun l' G a2=>?_,fun l1 l2 c1 c2 g z=>?_,fun l' G r R a2 M=>?_,fun r R ee M he=>?_,F.κ⟩;{refine(X b (jK hb F.size) (fun j hj T hk=>?_)).trans (F.keep b hb h0);obtain⟨q,hq,Q',_,L,V,Z⟩:=D j b T hk;rcases (F.mine q Q' L V).2 b Z with h|h;{exact h0 h};{omega}};{rcases A r R M with h|⟨g,z,I,S⟩;{have:=d8 r R h;rw[(b2 r R h).1];exact this};{rw [(a0 r S).1,(a0 r S).2];exact(F.rep r R g).frame (f6 r R g z I)}};{rcases A r R M with h|⟨g,z,I,S⟩;{exact(N r R h x B).1};{rw [(a0 r S).2]at B;exact jK (F.rlt r R g x B) h9}};{rcases A r R M with h|⟨g,z,I,S⟩;{exact⟨(b2 r R h).2,fun x B=>(a5 x (N r R h x B)).1⟩};{rw [(a0 r S).2];exact F.mine r R g T}};{rcases A r R M with h|⟨g,z,I,S⟩;{exact fun x B=>(a5 x (N r R h x B)).1};{rw [(a0 r S).2];exact F.frz hz r R g T he hf}};{rcases A r R M with h|⟨g,z,I,S⟩;{rcases A r' R' f4 with h'|⟨a8,a9,b8,b0⟩;{intro a3;obtain⟨L,V,Z,_⟩:=a7 r R h;obtain⟨g1',g2',g3',_⟩:=a7 r' R' h';rw[(b1 r L V).2]at B;rw[(b1 r' g1' g2').2]at a3;exact f3 _ _ x Z g3' (by omega) B.2 a3.2};{rw [(a0 r' b0).2];exact(a5 x (N r R h x B)).2 r' R' a8 a9 b8}};{rw [(a0 r S).2]at B;rcases A r' R' f4 with h'|⟨a8,a9,b8,b0⟩;{intro a3;exact(a5 x (N r' R' h' x a3)).2 r R g z I B};{rw [(a0 r' b0).2];exact F.apart r R r' R' g T a8 a9 e6 x B}}};{rw [H]at a2;obtain⟨L,f2,e1,V,Z,g4⟩:=F.loc l' G a2;refine⟨L,f2,e1,(X _ (b3 l' G a2) (fun j hj T hk=>?_)).trans V,Z,fun j b u hb hu=>⟨(g4 j b u hb hu).1,VA.tr hT (fun n hn=>(hS.ids.lo l' G a2).2 b (qI hb) n hn) (g4 j b u hb hu).2⟩⟩;obtain⟨q,hq,Q',_,g,z,I⟩:=D j _ T hk;exact F.lro l' G q Q' a2 g I};{rw [H]at g z;exact F.linj l1 l2 c1 c2 g z};{rw [H]at a2;rcases A r R M with h|⟨g,z,I,S⟩;{intro B;obtain⟨_,Z⟩:=N r R h _ B;rcases Z with⟨i,hi,T,hk⟩|Z;{obtain⟨q,hq,Q',_,q1,q2,q3⟩:=D i _ T hk;exact F.lro l' G q Q' a2 q1 q3};{have:=b3 l' G a2;have e:E1.β l'=E.β l':=rfl;omega}};{rw [(a0 r S).2];exact F.lro l' G r R a2 g}};{rw [b7];rcases e8 r R M with h|⟨h,_⟩|⟨h,_⟩;{rw [(b2 r R h).2]at he;cases he};{rw [h]at he;cases he;omega};{have:=F.epo r R ee h he;omega}}
           obtain⟨L,V⟩:=zge (w:=w') (st:=st1) (E:=E1) rs ys id d1.1 (fun i c u hc hu=>by
            have b6:=d1.2 i c u hc hu;refine⟨?_,b6.one⟩;have g8:i<(zA rs).length:=(qA.1 hc).1;cases c with
            |i k n=>exact b6.int_inv
            |b x=>exact b6.bool_inv
            |s t l' =>
             obtain⟨⟨a,cap,hv,_⟩,_⟩:=b6.len;refine⟨⟨a,_,cap,hv⟩,fun R M=>?_⟩;have e:id+i-id=i:=by omega
             have:=(b1 (id+i) (by omega) (by omega)).1
             rw[e,hu] at this;simp only[zZ,this,jZ])
           have d4:∀n R,zl st1.ro n=some R->U n\/Mine id n:=fun n R h=>(by rcases e8 n R h with h|⟨_,Q,h⟩|⟨h,_⟩;{obtain⟨g,z,_⟩:=a7 n R h;exact .inr ⟨g,z⟩};{exact .inl (hS.ids.ro n Q h)};{exact .inl (hS.ids.ro n R h)});have hvi:∀n∈(zhh (zcK rs id)).ids,U n\/Mine id n:=fun n hn=>by simp only[MV.ids,qN]at hn;obtain⟨a,ha,hn⟩:=hn;obtain⟨x,B,ha⟩:=zpM ha;have:=zeH rs id n x a B ha hn;exact .inr ⟨by omega,by omega⟩
           cases x with
           |none=>
            have hnx:=Sim.next (U1:=fun n=>U n\/Mine id n) hS d3 hT (by rw[<- J]) (by rw[<- J]) (fun n h=>.inl h) d4
             (fun n G hn=>by
              rw[H]at hn;exact⟨.inl (hS.ids.lo n G hn).1,fun a ha m hm=>.inl ((hS.ids.lo n G hn).2 a ha m hm)⟩)
             (dst:=o.dst) (zpN L V) hvi
            subst J;exact c4 _ _ _ hnx
           |some y=>
            obtain⟨q,n,js⟩:=y;unfold z9w at Y;split at Y;{cases Y}
            .rename_i ja jr js';split at Y
             .rename_i q' hoj haj;simp only[qC,jT]at Y;obtain⟨rfl,rfl,rfl⟩:=Y;rcases hB.get ja _ haj with⟨_,r,R,z,M,hRo,hrk,hcs⟩|⟨g,_⟩;rotate_left;{rw [hoj]at g;cases g};cases z;have hja:ja<xs.length:=(by rw[c5];exact(qA.1 haj).1);have hu:=qB hja;obtain⟨l',g7,hl2,hl3⟩:=f8 ja jr js' rfl R.t R.l _ (by rw[c0];exact hcs) hu
              have hjr:jr<(zA rs).length:=(qA.1 g7).1;have a6:=(d0 ja _ _ haj hu).2 R M;simp only[zZ,qC]at a6;have h8:=zbaQ (U1:=fun n=>U n\/Mine id n) (q:=q') (n:=id+jr) (js:=js') hS d3 hT (by rw[<- J]) (by rw[<- J]) H (fun n h=>.inl h) d4
               (fun l G hl=>X _ (b3 l G hl) (fun j hj T hk=>by
                obtain⟨q2,hq2,Q',_,g,z,I⟩:=D j _ T hk;exact F.lro l G q2 Q' hl g I)) (.inr ⟨by omega,by omega⟩) (fun R1 d7=>by
                rcases A _ R1 d7 with h|⟨_,_,_,S⟩
                .obtain⟨_,_,_,t2,l2,h5,rfl⟩:=a7 _ R1 h;have e:id+jr-id=jr:=by omega
                 rw[e,g7]at h5;cases h5;refine⟨R,M,rfl,?_,?_⟩
                 .rw [(b1 (id+jr) (by omega) (by omega)).1,e,hl2,a6]
                  rfl
                 .rw [a6];exact hl3
                .exact absurd S (e4 _ ⟨by omega,by omega⟩))
              have hI:Trans st1 E1 w' (st1.ren (some (q',id+jr,js'))) E1 w' (fun _=>True):=
               ⟨fun r _ R1 g=>⟨R1,g,rfl,fun _ _ h=>h⟩,fun l _ G g=>⟨by
                simp only[St.ren]at g;rw[zki]at g;cases hl:zl st1.lo l with
                |none=>rw[hl]at g;cases g
                |some c=>exact⟨c,rfl⟩,rfl⟩,rfl⟩
              have h7:=h8.putV (dst:=o.dst) (VM.tr hI (fun _ _=>trivial) (zpN L V)) hvi;subst J;exact c4 _ _ _ h7
             {cases Y}
        {cases h}
       {cases h}
     {cases h}
    {cases h}
   {cases h}
  {cases h}
 {cases h}
theorem z6l (a:CfgOk C)(b:MctOk C)(c:PctOk C)(d:TctOk C):GraftOk C:=⟨z3A a,z6z b,z6I c,z7q d⟩
end
section
variable {C:Cfg} {st st':St}
structure Agree (st st':St) (L:List Operand):Prop where
 ep:st'.ep=st.ep
 op:∀x∈L,st'.opnd x=st.opnd x
 id:∀x∈L,∀m,st.opnd x=some m->∀a∈zbA m,(∀n∈zbo a,zl st'.ro n=zl st.ro n)/\∀n∈zbq a,zl st'.lo n=zl st.lo n
variable {L:List Operand}
theorem Agree.at (h:Agree st st' L){x:Operand}(a:x∈L):st'.at x=st.at x:=by unfold St.at;rw[h.op x a]
theorem Agree.rootN (h:Agree st st' L){n:Nat}(a:zl st'.ro n=zl st.ro n):st'.root n=st.root n:=by unfold St.root;rw[a,h.ep]
def Held (st:St)(L:List Operand)(a:At):Prop:=∃x∈L,∃m,st.opnd x=some m/\a∈zbA m
theorem Agree.held (h:Agree st st' L){a:At}(b:Held st L a):(∀n∈zbo a,zl st'.ro n=zl st.ro n)/\∀n∈zbq a,zl st'.lo n=zl st.lo n:=by obtain⟨x,d,m,c,b⟩:=b;exact h.id x d m c a b
theorem zdD {x:Operand}{a:At}(b:x∈L)(h:st.at x=some a):Held st L a:=⟨x,b,_,zNP h,by simp[zbA,zS]⟩
theorem Agree.root (h:Agree st st' L){r:Nat}{p:List (Int×Nat)}(a:Held st L (.sl r p)):st'.root r=st.root r :=
 h.rootN ((h.held a).1 r (by simp[zbo]))
theorem Agree.node (h:Agree st st' L){r:Nat}{p:List (Int×Nat)}(a:Held st L (.sl r p))(q:List (Int×Nat)):st'.node r q=st.node r q:=by unfold St.node;rw[h.root a]
theorem Agree.rootE (h:Agree st st' L){r:Nat}{p:List (Int×Nat)}{i:Int}{o:Nat}(a:Held st L (.ep r p i o)):st'.root r=st.root r :=
 h.rootN ((h.held a).1 r (by simp[zbo]))
theorem Agree.nodeE (h:Agree st st' L){r:Nat}{p:List (Int×Nat)}{i:Int}{o:Nat}(a:Held st L (.ep r p i o))(q:List (Int×Nat)):st'.node r q=st.node r q:=by unfold St.node;rw[h.rootE a]
theorem Agree.loc (h:Agree st st' L){l o:Nat}(a:Held st L (.lp l o)):zl st'.lo l=zl st.lo l :=
 (h.held a).2 l (by simp[zbq])
theorem Agree.cvOf (h:Agree st st' L){a:At}(b:Held st L a):st'.cvOf a=st.cvOf a:=by cases a with|sl r p=>exact h.node b p|_=>rfl
theorem zkE {c e:Type}{f g:c->Option e}:∀{l:List c},(∀a∈l,f a=g a)->zco f l=zco g l
 |[],_=>rfl
 |a::l,h=>by simp only[zco];rw[h a (by simp),zkE (l:=l) (fun b d=>h b (by simp[d]))]
theorem Agree.avOf (h:Agree st st' L){x:Operand}(c:x∈L){m:MV}(b:st.opnd x=some m):st'.avOf m=st.avOf m:=by
 cases m with
 |und=>rfl
 |tup l=>rfl
 |v y=>rcases y with a|l;{simp only [St.avOf];rw[h.cvOf ⟨x,c,_,b,by simp[zbA,zS]⟩]};{simp only [St.avOf];rw[zkE (f:=st'.cvOf) (g:=st.cvOf) (fun a d=>h.cvOf ⟨x,c,_,b,by simpa [zbA,zS] using d⟩)]}
theorem Agree.give (h:Agree st st' L)(c:Option (Nat×List (Int×Nat)×Int)):∀(xs:List At) (j:Nat),(∀a∈xs,Held st L a)->st'.give c xs j=st.give c xs j
 |[],j,_=>rfl
 |a::xs,j,f=>by have d:=Agree.give h c xs (j+1) (fun b g=>f b (by simp[g]));have e:=f a (by simp);cases a with|sl r q=>(cases q with|nil=>simp only[St.give,d,h.root e]|cons i q=>simp only[St.give,d,h.node e])|_=>simp only[St.give,d]
theorem Agree.giveV (h:Agree st st' L){x:Operand}(e:x∈L){y:TV}(d:st.opnd x=some (.v y))(b:Option (Nat×List (Int×Nat)×Int))(j:Nat):st'.give b (zS y) j=st.give b (zS y) j :=
 h.give b (zS y) j (fun a c=>⟨x,e,_,d,by simpa [zbA] using c⟩)
theorem Agree.layParts (h:Agree st st' L){T:TypeId}:∀(a:List (Nat×Operand)) (cs:List At),(∀x∈a,x.2∈L)->layParts C T st' a cs=layParts C T st a cs
 |[],_,_=>rfl
 |(f,x)::r,cs,b=>by simp only[E.layParts];rw[h.op x (b (f,x) (by simp))];split;{split;{exact Agree.layParts h r _ (fun y c=>b y (by simp[c]))};{rfl}};{rfl}
theorem Agree.rowParts (h:Agree st st' L){t:Ty}:∀(a:List (Nat×Operand)) (l:List t.den) (ks:List Nat),(∀x∈a,x.2∈L)->rowParts st' t a l ks=rowParts st t a l ks
 |[],_,_,_=>rfl
 |(i,x)::r,l,ks,b=>by have c:=b (i,x) (by simp);simp only[E.rowParts];rw[h.op x c];cases d:st.opnd x with|none=>rfl|some m=>(cases m with|und=>rfl|tup _=>rfl|v y=>simp only;rw[h.giveV c d];split;{split;{split;{exact Agree.rowParts h r _ _ (fun y e=>b y (by simp[e]))};{rfl}};{rfl}};{rfl})
end
section
variable {C:Cfg} {st st':St}
theorem zbbh {o:Oper}{id:Nat}{T:TypeId}{x:Operand}(b:o.op = .load T x){L:List Operand}(c:x∈L)(h:Agree st st' L):delta C st' o id=delta C st o id:=by have f:=h.at c;simp only[delta,b,f];cases j:C.cty T with|none=>rfl|some g=>(cases e:st.at x with|none=>rfl|some a=>(cases a with|lp l d=>simp only[h.loc (zdD c e)]|ep r p i d=>simp only[h.nodeE (zdD c e)]|_=>rfl))
theorem z9K {o:Oper}{id:Nat}{T:TypeId}{a x:Operand}(n:o.op = .store T a x){L:List Operand}(u:x∈L)(g:a∈L)(h:Agree st st' L):delta C st' o id=delta C st o id:=by
 have z:=h.at g;have D:=h.op x u;simp only[delta,n,z,D];cases E:C.cty T with
 |none=>rfl
 |some A=>
  cases B:st.opnd x with
  |none=>
   obtain⟨w,c⟩:=A;have q:c=[]\/(∃k,c=[.i k])\/c=[.b]\/(∃t,c=[.s t])\/∃d f r,c=d::f::r:=by
    match c with
    |[]=>exact .inl rfl
    |[.i k]=>exact .inr (.inl ⟨k,rfl⟩)
    |[.b]=>exact .inr (.inr (.inl rfl))
    |[.s t]=>exact .inr (.inr (.inr (.inl ⟨t,rfl⟩)))
    |d::f::r=>exact .inr (.inr (.inr (.inr ⟨d,f,r,rfl⟩)))
   cases e:st.at a with
   |none=>rcases q with rfl|⟨k,rfl⟩|rfl|⟨t,rfl⟩|⟨d,f,r,rfl⟩<;>first|rfl|(cases d<;>rfl)
   |some y=>
    cases y with
    |lp l j=>rcases q with rfl|⟨k,rfl⟩|rfl|⟨t,rfl⟩|⟨d,f,r,rfl⟩;{rfl};{rfl};{rfl};{simp only [h.loc (zdD g e)]};{cases d<;>rfl}
    |_=>rcases q with rfl|⟨k,rfl⟩|rfl|⟨t,rfl⟩|⟨d,f,r,rfl⟩<;>first|rfl|(cases d<;>rfl)
  |some m=>cases m with|v y=>(cases e:st.at a with|none=>rfl|some b=>(cases b with|lp l j=>simp only[h.loc (zdD g e)]|ep r p i j=>simp only[h.rootE (zdD g e),h.nodeE (zdD g e),h.giveV u B]|_=>rfl))|_=>rfl
theorem zl7 (a:st'.ep=st.ep):∀(ks:List Nat),(∀k∈ks,zl st'.ro k=zl st.ro k)->moved st' ks=moved st ks
 |[],_=>rfl
 |k::ks,b=>by simp only[moved];rw[b k (by simp),a,zl7 a ks (fun q c=>b q (by simp[c]))]
theorem z9J {o:Oper}{id:Nat}{T:TypeId}{x:Operand}{lo i:Option Operand}(j:o.op = .slice T x lo i none){L:List Operand}(g:x∈L)(f:∀y,lo=some y->y∈L)(c:∀y,i=some y->y∈L)(h:Agree st st' L):delta C st' o id=delta C st o id:=by
 have m:=h.at g;have ep:=h.ep;have sub:∀R t l,zeN st' R t l=zeN st R t l:=fun R t l=>by simp only[zeN,ep]
 simp only[delta,j,m];cases e:st.at x with
 |none=>rfl
 |some a=>
  cases a with
  |sl r p=>
   simp only[h.root (zdD g e),h.node (zdD g e),sub];cases lo with
   |none=>
    cases i with
    |none=>rfl
    |some y=>
     have b:∀R t l n,zIy C st' id r p R t l n=zIy C st id r p R t l n:=fun R t l n=>by
      unfold zIy;rw[zl7 h.ep [r] (fun k d=>by
       simp only[qF]at d;subst d;exact(h.held (zdD g e)).1 k (by simp[zbo]))]
      simp only[sub]
     simp only[h.at (c y rfl),b]
   |some z=>
    cases i with
    |none=>
     have b:∀R t l n,zNU st' id r p R t l n=zNU st id r p R t l n:=fun R t l n=>by
      unfold zNU;rw[zl7 h.ep [r] (fun k d=>by
       simp only[qF]at d;subst d;exact(h.held (zdD g e)).1 k (by simp[zbo]))]
      simp only[sub]
     simp only[h.at (f z rfl),b]
    |some y=>simp only[h.at (f z rfl),h.at (c y rfl)]
  |_=>rfl
theorem z6p {a:Type}{b:Bool}{x y:a}(h:(if b=true then some x else none)=some y):x=y:=by cases b with|true=>simpa using h|false=>simp at h
theorem zZo {g:Option (Nat×List (Int×Nat)×Int)}:∀(xs:List At) (j:Nat) (c:Bool) (cs:List CV) (ks:List Nat),st.give g xs j=some (c,cs,ks)->∀k∈ks,At.sl k []∈xs
 |[],j,c,cs,ks,h,k,b=>by simp only[St.give,qC,jT]at h;obtain⟨_,_,rfl⟩:=h;simp at b
 |a::xs,j,c,cs,ks,h,k,b=>by simp only[St.give]at h;split at h;{cases h};{rename_i i e f hg;have d:=zZo xs (j+1) i e f hg;split at h;{cases h;exact qX _ (d k b)};{cases h;exact qX _ (d k b)};{split at h;{have l:=z6p h;cases l;rcases qG.1 b with rfl|b;{simp};{exact qX _ (d k b)}};{cases h}};{split at h;{split at h;{split at h;{cases h;exact qX _ (d k b)};{cases h}};{cases h}};{cases h}};{cases h}}
theorem zHB {t:Ty}:∀(b:List (Nat×Operand)) (l:List t.den) (ks:List Nat) (d:List t.den) (a:List Nat),rowParts st t b l ks=some (d,a)->∀k∈a,k∈ks\/∃x∈b,∃y,st.opnd x.2=some (.v y)/\At.sl k []∈zS y
 |[],l,ks,d,a,h,k,e=>by simp only[rowParts,qC,jT]at h;obtain⟨_,rfl⟩:=h;exact .inl e
 |(i,x)::r,l,ks,d,a,h,k,e=>by simp only[rowParts]at h;split at h;{rename_i y f;split at h;{rename_i j m hg;split at h;{split at h;{rcases zHB r _ _ d a h k e with c|⟨z,g,c⟩;{rcases jJ.1 c with c|c;{exact .inr ⟨(i,x),by simp,y,f,zZo _ _ _ _ _ hg k c⟩};{exact .inl c}};{exact .inr ⟨z,by simp[g],c⟩}};{cases h}};{cases h}};{cases h}};{cases h}
theorem zT2 {o:Oper}{id:Nat}{T:TypeId}{n:Nat}{a:Array (Nat×Operand)}(c:o.op = .buildSlice T n a){L:List Operand}(d:∀x∈a.toList,x.2∈L)(h:Agree st st' L):delta C st' o id=delta C st o id:=by
 simp only[delta,c];cases p:C.sty T with
 |none=>rfl
 |some t=>
  simp only[h.rowParts a.toList _ _ d];cases e:rowParts st t a.toList (List.replicate n t.dflt) [] with
  |none=>rfl
  |some m=>
   obtain⟨l,j⟩:=m;simp only;rw[zl7 h.ep j (fun k f=>by
    rcases zHB _ _ _ _ _ e k f with b|⟨x,i,y,g,b⟩
    .simp at b
    .exact(h.held ⟨x.2,d x i,_,g,by simpa [zbA] using b⟩).1 k (by simp[zbo]))]
theorem c_call {o:Oper}{id:Nat}{c:Call}(D:o.op = .call c){L:List Operand}(g:∀x∈c.args.toList,x∈L)(h:Agree st st' L):delta C st' o id=delta C st o id:=by
 simp only[delta,D];cases G:c.callee with
 |invoke r n=>rfl
 |value f=>
  cases f with
  |func f=>
   simp only;have e:zco (fun x=>match st'.opnd x with|some v=>st'.avOf v|none=>none) c.args.toList=zco (fun x=>match st.opnd x with|some v=>st.avOf v|none=>none) c.args.toList:=by
    refine zkE ?_;intro x i;simp only[h.op x (g x i)];cases e:st.opnd x with
    |none=>rfl
    |some m=>exact h.avOf (g x i) e
   cases C.ctr f with
   |some j=>
    exact congrArg (fun A=>(match A with
     |some q=>(match j q with
      |some (c,s)=>if (s.flatMap AV.cvs).length<=31 then some ({c,v:=zhh (zcK s id),ro:=zcN (zcE f) s id}:Dl) else none
      |none=>none)
     |none=>none)) e
   |none=>
    cases d:c.args.toList with
    |nil=>cases C.tct f with|none=>rfl|some x=>obtain⟨own,E,j⟩:=x;cases own<;>rfl
    |cons F K=>
     rw[d] at e g;cases C.tct f with
     |none=>rfl
     |some x=>
      obtain⟨own,E,j⟩:=x;cases own with
      |cons y l=>rfl
      |nil=>
       dsimp only;rw[h.op F (g F (by simp))]
       exact congrArg (fun A=>(match st.opnd F,A with
        |some (.v I),some q=>(match j q with
         |some (c,s)=>if (s.flatMap AV.cvs).all CV.flat&&decide ((s.flatMap AV.cvs).length<=31) then some ({c,v:=zhh (I::zcK s id)}:Dl) else none
         |none=>none)
        |_,_=>none)) e
  |_=>rfl
 |builtin b=>
  cases b with
  |len=>simp only;split;{rename_i x T d B;have i:=g x (by rw[d];simp);rw[h.at i];cases e:st.at x with|none=>rfl|some a=>(cases a with|sl r p=>simp only[h.node (zdD i e)]|_=>rfl)};{rfl}
  |min=>simp only;split;{rename_i x y d;rw[h.at (g x (by rw[d];simp)),h.at (g y (by rw[d];simp))]};{rfl}
  |max=>simp only;split;{rename_i x y d;rw[h.at (g x (by rw[d];simp)),h.at (g y (by rw[d];simp))]};{rfl}
  |append=>
   simp only;split
   .rename_i x y T T2 d B;have i:=g x (by rw[d];simp);have w:=g y (by rw[d];simp);rw[h.at i,h.at w];split
    .cases hT:C.sty T with
     |none=>rfl
     |some t=>
      cases e:st.at x with
      |none=>rfl
      |some a=>
       cases a with
       |sl r p=>
        cases p with
        |nil=>
         cases z:st.at y with
         |none=>rfl
         |some b=>
          cases b with
          |sl H J=>
           simp only[h.root (zdD i e),h.root (zdD w z),h.node (zdD w z)];rw[zl7 h.ep (if t.flat=true then [r] else [r,H]) (fun k u=>by
            split at u
            .simp only [qF]at u;subst u;exact(h.held (zdD i e)).1 k (by simp[zbo])
            .simp only [qG,qO,or_false]at u;rcases u with rfl|rfl
             .exact(h.held (zdD i e)).1 k (by simp[zbo])
             .exact(h.held (zdD w z)).1 k (by simp[zbo]))]
          |_=>rfl
        |cons _ _=>rfl
       |_=>rfl
    {rfl}
   {rfl}
  |_=>rfl
theorem zXK {o:Oper}{id:Nat}(h:Agree st st' o.op.operands.toList):delta C st' o id=delta C st o id:=by
 cases d:o.op<;>rw [d]at h<;>simp only [Op.operands]at h
 case move x=>
  simp only[delta,d];split
  .rfl
  .rfl
  .rw [h.op x (by simp)]
 case assign x=>
  simp only[delta,d];split
  .rfl
  .rfl
  .rw [h.op x (by simp)]
 (case pick c a b=>simp only[delta,d,h.op a (by simp),h.op b (by simp),h.at (x:=c) (by simp)]);(case alloc T=>simp only[delta,d]);case box T x=>simp only[delta,d,h.op x (by simp)]
 case build T parts=>
  simp only[delta,d];have e:∀t,layParts C T st' parts.toList t=layParts C T st parts.toList t:=fun t=>h.layParts parts.toList t (fun x q=>by simp;exact⟨x.1,by simpa using q⟩)
  simp only[e]
 (case load T x=>exact zbbh d (by simp) h);(case store T a x=>exact z9K d (by simp) (by simp) h);(case nilCheck x=>simp only[delta,d,h.at (x:=x) (by simp)]);(case binOp op T x y T2=>simp only[delta,d,h.op x (by simp),h.op y (by simp)]);(case unOp op T x=>simp only[delta,d,h.at (x:=x) (by simp)]);case convert a b x=>simp only[delta,d,h.at (x:=x) (by simp)]
 case makeFunc fn first caps=>
  cases fn with
  |func f=>
   simp only[delta,d];rw[zkE (g:=fun x=>match st.at x with|some (.lp l 0)=>some l|_=>none) (l:=caps.toList)];{rfl};intro x q;simp only[h.at (x:=x) (by simp;exact .inr (by simpa using q))];rfl
  |_=>simp only[delta,d]
 case makeSlice T x y=>simp only[delta,d,h.at (x:=x) (by simp),h.at (x:=y) (by simp)]
 case slice T x lo hi mx=>
  cases mx with
  |none=>exact z9J d (by simp) (fun y u=>by simp[u]) (fun y u=>by simp[u]) h
  |some m=>simp only[delta,d]
 (case fieldAddr T x f=>simp only[delta,d,h.at (x:=x) (by simp)]);case field T x f=>simp only[delta,d,h.op x (by simp)]
 case index T x y=>
  cases x with
  |const v=>cases v with|string s=>simp only[delta,d,h.at (x:=y) (by simp)]|_=>simp only[delta,d]
  |_=>simp only[delta,d]
 case indexAddr T x y=>
  have q:x ∈ #[x,y].toList:=by simp
  simp only[delta,d,h.at q,h.at (x:=y) (by simp)]
  cases e:st.at x with
  |none=>rfl
  |some a=>
   cases a with
   |sl r p=>
    have w:=h.node (zdD q e) p;cases z:st.at y with
    |none=>rfl
    |some b=>
     cases b with
     |i k n=>cases k<;>first|rfl|(simp only [w])
     |_=>rfl
   |_=>rfl
 (case extract x j=>simp only[delta,d,h.op x (by simp)]);(case call c=>exact c_call d (fun x q=>by simp only[Call.operands,Array.toList_append,jJ];exact .inr q) h);(case buildSlice T n parts=>exact zT2 d (fun x q=>by simp;exact⟨x.1,by simpa using q⟩) h);all_goals simp only [delta,d]
end
section
variable {C:Cfg} {w0 w w1:World} {S0:zX} {U:Nat->Prop} {st st1:St} {E E1:Env} {ts:Array Value} {sv:List (Array Value)}
def zdd (ops:Array Oper)(o:Oper)(st:St):Option Bool :=
 match o.guard with
 |none=>some true
 |some (j,a)=>match guardOf st ops j with
  |some .und=>some false
  |some (.v (.at (.b x)))=>some (x==a)
  |_=>none
theorem zXR {ops:Array Oper}{o:Oper}{c skip:St->Option Ans}{a:Ans}(h:guarded ops o st c skip=some a) :
 (zdd ops o st=some true/\c st=some a)\/(zdd ops o st=some false/\skip (st.put o.dst .und)=some a):=by
 unfold guarded at h;split at h
 .rename_i hg;exact .inl ⟨by simp[zdd,hg],h⟩
 .rename_i j want hg;split at h
  .rename_i hm;exact .inr ⟨by simp[zdd,hg,hm],h⟩
  .rename_i x hm;have g:∃t,zhW ops j=some t/\st.tm[t]?=some (.v (.at (.b x))):=by unfold guardOf at hm;split at hm;{rename_i k d;split at hm;{rename_i t i;exact⟨t,by simp[zhW,d,i],hm⟩};{cases hm}};{cases hm}
   obtain⟨t,f,e⟩:=g;rw[f]at h;cases x<;>cases want<;>simp only [cond_true,cond_false]at h<;>rw [zWq e]at h
   .exact .inl ⟨by simp[zdd,hg,hm],h⟩
   .exact .inr ⟨by simp[zdd,hg,hm],h⟩
   .exact .inr ⟨by simp[zdd,hg,hm],h⟩
   .exact .inl ⟨by simp[zdd,hg,hm],h⟩
  .cases h
theorem zDu (n:Sim w0 S0 U st E ts sv w){ops:Array Oper}{o:Oper}{b:Bool}(h:zdd ops o st=some b):Region.wanted o (yielded ops ts)=b:=by unfold zdd at h;split at h;{rename_i hg;cases h;simp[Region.wanted,hg]};{rename_i j p hg;have e:∀{m:MV},guardOf st ops j=some m->∃d t v,ops[j]?=some d/\d.dst=some t/\ts[t]?=some v/\VM w st E m v:=(by intro m a;unfold guardOf at a;split at a;{rename_i d k;split at a;{rename_i t q;have f:t<ts.size:=(by rw[n.tm.1];exact(qA.1 a).1);exact⟨d,t,ts[t],k,q,by simp[f],n.tm.2 t m _ a (by simp[f])⟩};{cases a}};{cases a});split at h;{rename_i a;cases h;obtain⟨d,t,v,g,i,l,c⟩:=e a;simp only[VM]at c;subst c;have:yielded ops ts j=none:=(by simp[yielded,g,i,l,undef]);simp[Region.wanted,hg,this]};{rename_i x a;cases h;obtain⟨d,t,v,g,i,l,c⟩:=e a;simp only[VM,VT,VA]at c;subst c;have r:yielded ops ts j=some x:=(by simp[yielded,g,i,l]);simp[Region.wanted,hg,r]};{cases h}}
abbrev Step:=Option Dl
def St.step (st:St)(b:Bool)(o:Oper):Step->St
 |some d=>st.effD b o.dst d
 |none=>st.put o.dst .und
inductive Trace (C:Cfg) (ops:Array Oper) (b:Bool) (base:Nat):Nat->List Step->List (Nat×Foot)->St->St->Prop
 |nil (i:Nat) (st:St):Trace C ops b base i [] [] st st
 |run {i:Nat} {o:Oper} {d:Dl} {ss:List Step} {fs:List (Nat×Foot)} {st st':St} (ho:ops[i]?=some o) (hg:zdd ops o st=some true) (hd:zjv C st o (base+32*i)=some d) (hc:d.c=true)
  (h:Trace C ops b base (i+1) ss fs (st.effD b o.dst d) st'):Trace C ops b base i (some d::ss) ((i,zeI C st ops o d)::fs) st st'
 |skip {i:Nat} {o:Oper} {ss:List Step} {fs:List (Nat×Foot)} {st st':St} (ho:ops[i]?=some o) (hg:zdd ops o st=some false)
  (h:Trace C ops b base (i+1) ss fs (st.put o.dst .und) st'):Trace C ops b base i (none::ss) ((i,zkX ops o)::fs) st st'
theorem zsb {ops:Array Oper}{z:List (List Nat)}{b:Bool}{base H:Nat}{k:St->Option Ans}{M:App->St->Option Ans}{L:Nat->St->Option Ans}{t:Ans}:∀(m i:Nat) (fs:List (Nat×Foot)) (st:St),zts C ops z b base H k M L (List.range' i m) fs st=some t->
 (∃ss g a,ss.length=m/\Trace C ops b base i ss g st a/\znh z (g.reverse++fs)=true/\k a=some t)\/
 (∃ss g a o x,ss.length+1=m/\Trace C ops b base i ss g st a/\ops[i+ss.length]?=some o/\zqo C a o=some (true,x)/\b=true/\zDS ops z H (i+ss.length)=true/\x.dst<a.tm.length/\
  znh z ((i+ss.length,ze8 a ops o zE9)::(g.reverse++fs))=true/\M x (a.put o.dst (.v (.at .bad)))=some t)\/
 (∃ss g a o,ss.length+1=m/\Trace C ops b base i ss g st a/\ops[i+ss.length]?=some o/\zZw o=true/\zDS ops z H (i+ss.length)=true/\zU3 ops z (z1a z H (i+ss.length)) o=true/\
  znh z (g.reverse++fs)=true/\L (i+ss.length) a=some t)
 | 0,i,fs,st,h=>by simp only[List.range'_zero,zts]at h;split at h;{rename_i s;exact .inl ⟨[],[],st,rfl,.nil i st,by simpa using s,h⟩};{cases h}
 |m+1,i,fs,st,h=>by
  simp only[u1,zts]at h;split at h;{cases h}
  .rename_i o ho;have N:=zXR h;clear h;rcases N with⟨hg,h⟩|⟨hg,h⟩
   .split at h
    .rename_i d hd;cases A:d.c with
     |false=>rw[A]at h;cases h
     |true=>rw[A]at h;simp only[cond_true]at h;rcases zsb m (i+1) _ _ h with⟨ss,g,a,n,p,j,q⟩|⟨ss,g,a,F,x,n,p,j,q,u,r,B,w,y⟩|⟨ss,g,a,F,n,p,j,q,u,r,w,y⟩;{exact .inl ⟨some d::ss,(i,zeI C st ops o d)::g,a,by simp[n],.run ho hg hd A p,by simpa using j,q⟩};{have e:i+1+ss.length=i+(some d::ss).length:=(by simp only[qY];omega);rw[e]at j r w;exact .inr (.inl ⟨some d::ss,(i,zeI C st ops o d)::g,a,F,x,by simp[<- n],.run ho hg hd A p,j,q,u,r,B,by simpa using w,y⟩)};{have e:i+1+ss.length=i+(some d::ss).length:=(by simp only[qY];omega);rw[e]at j u r y;exact .inr (.inr ⟨some d::ss,(i,zeI C st ops o d)::g,a,F,by simp[<- n],.run ho hg hd A p,j,q,u,r,by simpa using w,y⟩)}
    {split at h;{rename_i c x l D;split at h;{rename_i f;simp only[qD,q0]at f;obtain⟨⟨⟨O,E⟩,G⟩,s⟩:=f;cases A:c with|false=>rw[A]at h;cases h|true=>rw[A]at h D;simp only[cond_true]at h;have K:m=0:=(by simpa using l);subst K;exact .inr (.inl ⟨[],[],st,o,x,rfl,.nil i st,ho,D,O,E,G,by simpa using s,h⟩)};{cases h}};{rename_i l D;split at h;{rename_i f;simp only[qD]at f;obtain⟨⟨⟨I,E⟩,J⟩,s⟩:=f;have K:m=0:=(by simpa using l);subst K;exact .inr (.inr ⟨[],[],st,o,rfl,.nil i st,ho,I,E,J,by simpa using s,h⟩)};{cases h}};{cases h}}
   {rcases zsb m (i+1) _ _ h with⟨ss,g,a,n,p,j,q⟩|⟨ss,g,a,F,x,n,p,j,q,u,r,B,w,y⟩|⟨ss,g,a,F,n,p,j,q,u,r,w,y⟩;{exact .inl ⟨none::ss,(i,zkX ops o)::g,a,by simp[n],.skip ho hg p,by simpa using j,q⟩};{have e:i+1+ss.length=i+((none:Step)::ss).length:=(by simp only[qY];omega);rw[e]at j r w;exact .inr (.inl ⟨none::ss,(i,zkX ops o)::g,a,F,x,by simp[<- n],.skip ho hg p,j,q,u,r,B,by simpa using w,y⟩)};{have e:i+1+ss.length=i+((none:Step)::ss).length:=(by simp only[qY];omega);rw[e]at j u r y;exact .inr (.inr ⟨none::ss,(i,zkX ops o)::g,a,F,by simp[<- n],.skip ho hg p,j,q,u,r,by simpa using w,y⟩)}}
end
inductive Key where
 |tm (t:Nat)
 |ro (n:Nat)
 |lo (n:Nat)
inductive Item where
 |tm (m:MV)
 |ro (R:Root)
 |lo (l:List At)
def St.get (st:St):Key->Option Item
 |.tm t=>st.tm[t]?.map .tm
 |.ro n=>(zl st.ro n).map .ro
 |.lo n=>(zl st.lo n).map .lo
def wr (o:Oper):Step->Key->Prop
 |_,.tm t=>o.dst=some t
 |none,_=>False
 |some d,.ro n=>n∈d.ro.map (·.1)
 |some d,.lo n=>n∈d.lo.map (·.1)
section
variable {st st':St} {b:Bool} {o:Oper}
theorem zC7 {a:Type}:∀{l:List (Nat×a)} {n:Nat},n∉l.map (·.1)->zl l n=none
 |[],_,_=>rfl
 |(k,v)::l,n,h=>by simp only[jB,qG,not_or]at h;simp only[zl];rw[if_neg (by simp;exact fun e=>h.1 e.symm)];exact zC7 h.2
theorem zC8 {b:Type}:∀{l:List (Nat×b)} {n:Nat},n∈l.map (·.1)->∃v,zl l n=some v
 |[],_,h=>by simp at h
 |(k,v)::l,n,h=>by simp only[zl];split;{exact⟨v,rfl⟩};{rename_i a;simp only[qK]at a;simp only[jB,qG]at h;exact zC8 (h.resolve_left (fun e=>a e.symm))}
theorem z4r {m:MV}{d:Option Tmp}:(st.put d m).ro=st.ro:=by cases d<;>rfl
theorem z4q {m:MV}{d:Option Tmp}:(st.put d m).lo=st.lo:=by cases d<;>rfl
theorem z4p {m:MV}{d:Option Tmp}:(st.put d m).ep=st.ep:=by cases d<;>rfl
theorem zZL {m:MV}{d:Option Tmp}:(st.put d m).stk=st.stk:=by cases d<;>rfl
theorem zZK {m:MV}{d:Option Tmp}:(st.put d m).tm.length=st.tm.length:=by cases d<;>simp [St.put]
theorem z4s {m:MV}{d:Option Tmp}{t:Nat}:(st.put d m).tm[t]?=if d=some t then (if t<st.tm.length then some m else none) else st.tm[t]?:=by cases d with|none=>simp[St.put]|some e=>simp only[St.put,q9,qC];split;{rename_i e;subst e;rfl};{rfl}
def dv:Step->MV
 |some d=>d.v
 |none=>.und
theorem zZ0 {s:Step}{t:Nat}:(st.step b o s).tm[t]?=if o.dst=some t then (if t<st.tm.length then some (dv s) else none) else st.tm[t]?:=by cases s with|none=>exact z4s|some d=>exact z4s (st:={st with lo:=d.lo++st.lo,ro:=d.ro.map (fun (x:Nat×Root)=>(x.1,ze2 b x.2))++st.ro})
theorem z7n {s:Step}:(st.step b o s).tm.length=st.tm.length:=by cases s with|none=>exact zZK|some d=>exact zZK (st:={st with lo:=d.lo++st.lo,ro:=d.ro.map (fun (x:Nat×Root)=>(x.1,ze2 b x.2))++st.ro})
theorem zPW {s:Step}:(st.step b o s).ep=st.ep:=by cases s with|none=>exact z4p|some d=>exact z4p (st:={st with lo:=d.lo++st.lo,ro:=d.ro.map (fun (x:Nat×Root)=>(x.1,ze2 b x.2))++st.ro})
theorem zWZ {s:Step}:(st.step b o s).stk=st.stk:=by cases s with|none=>exact zZL|some d=>exact zZL (st:={st with lo:=d.lo++st.lo,ro:=d.ro.map (fun (x:Nat×Root)=>(x.1,ze2 b x.2))++st.ro})
theorem z7o {s:Step}:(st.step b o s).nid=st.nid:=by cases s with|none=>exact zfl|some d=>exact zfl (st:={st with lo:=d.lo++st.lo,ro:=d.ro.map (fun (x:Nat×Root)=>(x.1,ze2 b x.2))++st.ro})
def dro (b:Bool):Step->List (Nat×Root)
 |some d=>d.ro.map (fun (x:Nat×Root)=>(x.1,ze2 b x.2))
 |none=>[]
def dlo:Step->List (Nat×List At)
 |some d=>d.lo
 |none=>[]
theorem zPX {s:Step}:(st.step b o s).ro=dro b s++st.ro:=by cases s with|none=>exact z4r|some d=>exact z4r (st:={st with lo:=d.lo++st.lo,ro:=d.ro.map (fun (x:Nat×Root)=>(x.1,ze2 b x.2))++st.ro})
theorem zZZ {s:Step}:(st.step b o s).lo=dlo s++st.lo:=by cases s with|none=>exact z4q|some d=>exact z4q (st:={st with lo:=d.lo++st.lo,ro:=d.ro.map (fun (x:Nat×Root)=>(x.1,ze2 b x.2))++st.ro})
theorem z9D {s:Step}{n:Nat}:wr o s (.ro n)↔n∈(dro b s).map (·.1):=by cases s with|none=>simp[wr,dro]|some d=>simp[wr,dro,List.map_map,Function.comp_def]
theorem z9C {s:Step}{n:Nat}:wr o s (.lo n)↔n∈(dlo s).map (·.1):=by cases s with|none=>simp[wr,dlo]|some d=>simp[wr,dlo]
theorem step_other {s:Step}{κ:Key}(h:¬ wr o s κ):(st.step b o s).get κ=st.get κ:=by cases κ with|tm t=>have a:¬ o.dst=some t:=(by cases s<;>exact h);simp only[St.get,zZ0,if_neg a]|ro n=>rw[z9D (b:=b)]at h;simp only[St.get,zPX,zbO,zC7 h]|lo n=>rw[z9C]at h;simp only[St.get,zZZ,zbO,zC7 h]
theorem zEX {s:Step}{κ:Key}(h:wr o s κ)(d:st.tm.length=st'.tm.length):(st.step b o s).get κ=(st'.step b o s).get κ:=by cases κ with|tm t=>have c:o.dst=some t:=(by cases s<;>exact h);simp only[St.get,zZ0,if_pos c,d]|ro n=>rw[z9D (b:=b)]at h;obtain⟨v,a⟩:=zC8 h;simp only[St.get,zPX,zbO,a]|lo n=>rw[z9C]at h;obtain⟨v,a⟩:=zC8 h;simp only[St.get,zZZ,zbO,a]
theorem z2e {s:Step}{κ:Key}(c:st.tm.length=st'.tm.length)(h:st.get κ=st'.get κ):(st.step b o s).get κ=(st'.step b o s).get κ:=by by_cases a:wr o s κ;{exact zEX a c};{rw [step_other a,step_other a,h]}
def zbx (ops:Array Oper)(b:Bool)(X:Nat->Bool):Nat->List Step->St->St
 |_,[],st=>st
 |i,s::ss,st=>zbx ops b X (i+1) ss (if X i then (match ops[i]? with|some o=>st.step b o s|none=>st) else st)
def one (ops:Array Oper)(b:Bool)(X:Nat->Bool)(i:Nat)(s:Step)(st:St):St:=if X i then (match ops[i]? with|some o=>st.step b o s|none=>st) else st
theorem zFu {ops:Array Oper}{X:Nat->Bool}{i:Nat}{s:Step}:(one ops b X i s st).tm.length=st.tm.length:=by unfold one;split;{split;{exact z7n};{rfl}};{rfl}
theorem znk {ops:Array Oper}{X:Nat->Bool}:∀(ss:List Step) (i:Nat) (st:St),(zbx ops b X i ss st).tm.length=st.tm.length
 |[],_,_=>rfl
 |s::ss,i,st=>(znk ss (i+1) _).trans (zFu (X:=X) (i:=i) (s:=s))
theorem zqu {ops:Array Oper}{X Y:Nat->Bool}{κ:Key}:∀(ss:List Step) (i:Nat) (st st':St),st.tm.length=st'.tm.length->st.get κ=st'.get κ->
 (∀(k:Nat) (s:Step) (o:Oper),ss[k]?=some s->ops[i+k]?=some o->X (i+k)≠Y (i+k)->¬ wr o s κ)->(zbx ops b X i ss st).get κ=(zbx ops b Y i ss st').get κ
 |[],_,_,_,_,h,_=>h
 |s::ss,i,st,st',f,h,g=>by
  have j:(one ops b X i s st).get κ=(one ops b Y i s st').get κ:=by unfold one;cases d:ops[i]? with|none=>cases X i<;>cases Y i<;>exact h|some o=>have a:=g 0 s o rfl d;simp only[jY]at a;cases l:X i<;>cases m:Y i<;>rw [l,m]at a;{exact h};{simp only [if_true,kB,if_false];rw[step_other (a (by simp)),h]};{simp only [if_true,kB,if_false];rw[step_other (a (by simp)),h]};{exact z2e f h}
  exact zqu ss (i+1) _ _ (((zFu (b:=b) (ops:=ops) (X:=X) (i:=i) (s:=s) (st:=st)).trans f).trans (zFu (b:=b) (ops:=ops) (X:=Y) (i:=i) (s:=s) (st:=st')).symm) j (fun k q p n d c=>g (k+1) q p (by simpa using n) (by rw[<- d];congr 1;omega) (by
   have e:i+(k+1)=i+1+k:=by omega
   rw[e];exact c))
end
section
variable {st st':St} {b:Bool} {o:Oper}
theorem zLa {ops:Array Oper}{X:Nat->Bool}{κ:Key}:∀(ss:List Step) (i:Nat) (st:St),
 (∀(k:Nat) (s:Step) (o:Oper),ss[k]?=some s->ops[i+k]?=some o->X (i+k)=true->¬ wr o s κ)->(zbx ops b X i ss st).get κ=st.get κ
 |[],_,_,_=>rfl
 |s::ss,i,st,d=>by
  have f:(one ops b X i s st).get κ=st.get κ:=by unfold one;split;{rename_i a;split;{rename_i o c;exact step_other (d 0 s o rfl c a)};{rfl}};{rfl}
  exact(zLa ss (i+1) _ (fun k j h g c a=>d (k+1) j h (by simpa using g) (by rw[<- c];congr 1;omega) (by
   have e:i+(k+1)=i+1+k:=by omega
   rw[e];exact a))).trans f
theorem zUC {ops:Array Oper}{X:Nat->Bool}{j:Nat}{s:Step}(r:X j=true)(t:ops[j]?=some o){κ:Key}(m:wr o s κ):∀(ss:List Step) (i:Nat) (st:St),i<=j->ss[j-i]?=some s->
 (∀(k:Nat) (c:Step) (u:Oper),ss[k]?=some c->ops[i+k]?=some u->j<i+k->X (i+k)=true->¬ wr u c κ)->(zbx ops b X i ss st).get κ=(st.step b o s).get κ
 |[],i,st,_,h,_=>by simp at h
 |c::ss,i,st,w,h,y=>by have a:∀(k:Nat) (l:Step) (g:Oper),ss[k]?=some l->ops[i+1+k]?=some g->j<i+1+k->X (i+1+k)=true->¬ wr g l κ:=(by intro k l g p f x d;have e:i+(k+1)=i+1+k:=(by omega);exact y (k+1) l g (by simpa using p) (by rw[e];exact f) (by omega) (by rw[e];exact d));by_cases v:i=j;{subst v;simp only[k6,qH,qC]at h;subst h;have n:=zLa (b:=b) (ops:=ops) (X:=X) (κ:=κ) ss (i+1) (one ops b X i c st) (fun k l g p f d=>a k l g p f (by omega) d);have q:one ops b X i c st=st.step b o c:=(by simp only[one,r,t,if_true]);rw[q]at n;show (zbx ops b X (i+1) ss (one ops b X i c st)).get κ=_;rw[q];exact n};{have e:j-i=(j-(i+1))+1:=(by omega);rw[e,jP]at h;have n:=zUC r t m ss (i+1) (one ops b X i c st) (by omega) h a;exact n.trans (zEX m zFu)}
theorem z3q {ops:Array Oper}{X Y:Nat->Bool}{a j:Nat}{s:Step}(n:∀i,Y i=(X i||i==a+j))(p:ops[a+j]?=some o){ss:List Step}{st:St}(q:ss[j]?=some s)(t:∀(k:Nat) (l:Step) (h:Oper),ss[k]?=some l->ops[a+k]?=some h->j<k->X (a+k)=true->∀κ,wr o s κ->¬ wr h l κ)(κ:Key) :
 (zbx ops b Y a ss st).get κ=((zbx ops b X a ss st).step b o s).get κ:=by
 by_cases c:wr o s κ
 .rw [zUC (X:=Y) (j:=a+j) (s:=s) (by rw[n];simp) p c ss a st (uD _ _) (by rw[Nat.add_sub_cancel_left];exact q) (fun k l h m d r e=>by
   refine t k l h m d (by omega) ?_ κ c
   rw[n]at e;have:(a+k==a+j)=false:=by simp;omega
   rw[this,u0]at e;exact e)]
  exact zEX c (znk ss a st).symm
 .rw [step_other c];refine zqu ss a st st rfl rfl (fun k l h m d g=>?_);have:k=j:=by rw[n]at g;by_cases f:k=j;{exact f};{have:(a+k==a+j)=false:=(by simp[f]);simp[this]at g}
  subst this;rw[p]at d;cases d;rw[q]at m;cases m;exact c
end
section
variable {C:Cfg} {w0 w w1:World} {S0:zX} {U:Nat->Prop} {st st':St} {E E1:Env} {ts:Array Value} {sv:List (Array Value)}
theorem zLh {t:Nat}(h:st'.get (.tm t)=st.get (.tm t)):st'.tm[t]?=st.tm[t]?:=by simp only[St.get]at h;cases a:st'.tm[t]? <;> cases b:st.tm[t]? <;> rw [a,b]at h<;>simp at h;{rw [h]}
theorem zDt {n:Nat}(h:st'.get (.ro n)=st.get (.ro n)):zl st'.ro n=zl st.ro n:=by simp only[St.get]at h;cases a:zl st'.ro n<;>cases b:zl st.ro n<;>rw [a,b]at h<;>simp at h;{rw [h]}
theorem zLg {n:Nat}(h:st'.get (.lo n)=st.get (.lo n)):zl st'.lo n=zl st.lo n:=by simp only[St.get]at h;cases a:zl st'.lo n<;>cases b:zl st.lo n<;>rw [a,b]at h<;>simp at h;{rw [h]}
theorem Sim.fewer (s:Sim w0 S0 U st E ts sv w)(F:∀t:Nat,st'.tm[t]?=st.tm[t]?)(d:∀n,zl st'.lo n=zl st.lo n)(k:st'.stk=st.stk)(a:∀n R,st'.root n=some R->st.root n=some R)(C:∀n R,zl st'.ro n=some R->∃v,zl st.ro n=some v)(B:∀n R e,zl st'.ro n=some R->R.ep=some e->e<=st'.ep):Sim w0 S0 U st' E ts sv w:=by
 have b:=s.mem;have T:Trans st E w st' E w (fun _=>True):=⟨fun r _ G h=>⟨G,a r G h,rfl,fun _ _ h=>h⟩,fun l _ i h=>⟨⟨i,by rw[<- d];exact h⟩,rfl⟩,rfl⟩
 have g:st'.tm=st.tm:=k5 F;refine⟨⟨b.os,b.tape,b.output,b.size,b.keep,fun r R h=>b.rep r R (a r R h),fun r R h=>b.rlt r R (a r R h),fun r R h=>b.mine r R (a r R h),fun O r R h=>b.frz O r R (a r R h),
  fun r R K v p q z=>b.apart r R K v (a r R p) q (a K v z),fun l i M=>?_,fun l P i y p q=>b.linj l P i y (by rw[<- d];exact p) (by rw[<- d];exact q),
  fun l i r R p q=>b.lro l i r R (by rw[<- d];exact p) (a r R q),B,b.κ⟩,⟨fun n R D=>?_,fun n i D=>s.ids.lo n i (by rw[<- d];exact D),fun m N=>s.ids.tm m (by rw[<- g];exact N),fun f L=>s.ids.stk f (by rw[<- k];exact L)⟩,?_,?_⟩
 {obtain⟨p,x,e,q,z,H⟩:=b.loc l i (by rw[<- d];exact M);exact⟨p,x,e,q,z,fun j c u I J=>⟨(H j c u I J).1,VA.tr T (fun _ _=>trivial) (H j c u I J).2⟩⟩};{obtain⟨v,A⟩:=C n R D;exact s.ids.ro n v A};{rw [g];exact Slots.tr T (fun _ _ _ _=>trivial) s.tm};{rw [k];exact Stack.tr T (fun _ _ _ _ _ _=>trivial) s.stk}
theorem Sim.same (d:Sim w0 S0 U st E ts sv w)(hg:∀κ,st'.get κ=st.get κ)(b:st'.stk=st.stk)(a:st'.ep=st.ep):Sim w0 S0 U st' E ts sv w:=by have c:∀n,zl st'.ro n=zl st.ro n:=fun n=>zDt (hg (.ro n));refine d.fewer (fun t=>zLh (hg (.tm t))) (fun n=>zLg (hg (.lo n))) b (fun n R h=>?_) (fun n R h=>⟨R,by rw[<- c];exact h⟩) (fun n R e h f=>by rw[a];exact d.mem.epo n R e (by rw[<- c];exact h) f);simpa only [St.root,c,a] using h
end
section
variable {C:Cfg} {ops:Array Oper} {b:Bool} {base:Nat}
theorem zVW {s:List Nat}{x:Nat}:zmQ s x=true↔x∈s:=by unfold zmQ;rw[uB];constructor;{rintro⟨y,a,h⟩;rw[kJ h];exact a};{exact fun h=>⟨x,h,Nat.beq_refl x⟩}
theorem zAn {s:List Nat}:∀{l:List Nat} {x:Nat},x∈addN l s↔x∈l\/x∈s
 |[],x=>by simp[addN]
 |a::l,x=>by
  have c:=fun y=>@zAn s l y;show x∈cond (zmQ (addN l s) a) (addN l s) (a::addN l s)↔_
  cases h:zmQ (addN l s) a with
  |true=>rw[cond_true,c,qG];constructor;{rintro (b|b);{exact .inl (.inr b)};{exact .inr b}};{rintro ((b|b)|b);{rw [b];exact(c a).1 (zVW.1 h)};{exact .inl b};{exact .inr b}}
  |false=>rw[cond_false,qG,c,qG,or_assoc]
theorem zNI {b:List (List Nat)}:∀{l:List Edge} {e:Edge},e∈l->Region.binds .any e=true->
 e.on∈l.foldr (fun e s=>cond (Region.binds .any e) (cond (zmQ s e.on) s (addN (b.getD e.on []) (e.on::s))) s) []
 |a::l,e,c,f=>by rw[List.foldr_cons];generalize h:l.foldr (fun e s=>cond (Region.binds .any e) (cond (zmQ s e.on) s (addN (b.getD e.on []) (e.on::s))) s) []=s;have up:∀x,x∈s->x∈cond (Region.binds .any a) (cond (zmQ s a.on) s (addN (b.getD a.on []) (a.on::s))) s:=fun x d=>(by cases Region.binds .any a with|false=>exact d|true=>(cases zmQ s a.on with|true=>exact d|false=>exact zAn.2 (.inr (qX _ d))));rcases qG.1 c with rfl|c;{rw [f,cond_true];cases g:zmQ s e.on with|true=>exact zVW.1 g|false=>exact zAn.2 (.inr jA)};{exact up _ (h ▸ zNI c f)}
theorem zNJ {b:List (List Nat)}:∀{l:List Edge} {j:Nat},j∈l.foldr (fun e s=>cond (Region.binds .any e) (cond (zmQ s e.on) s (addN (b.getD e.on []) (e.on::s))) s) []->
 ∃e∈l,Region.binds .any e=true/\(j=e.on\/j∈b.getD e.on [])
 |[],j,h=>by cases h
 |a::l,j,h=>by
  rw[List.foldr_cons]at h;have up:j∈l.foldr (fun e s=>cond (Region.binds .any e) (cond (zmQ s e.on) s (addN (b.getD e.on []) (e.on::s))) s) []->∃e∈a::l,Region.binds .any e=true/\(j=e.on\/j∈b.getD e.on []):=fun h=>by obtain⟨e,f,g⟩:=zNJ h;exact⟨e,qX _ f,g⟩
  cases c:Region.binds .any a with
  |false=>rw[c]at h;exact up h
  |true=>
   rw[c,cond_true]at h;cases d:zmQ (l.foldr (fun e s=>cond (Region.binds .any e) (cond (zmQ s e.on) s (addN (b.getD e.on []) (e.on::s))) s) []) a.on with
   |true=>rw[d]at h;exact up h
   |false=>rw[d,cond_false]at h;rcases zAn.1 h with h|h;{exact⟨a,jA,c,.inr h⟩};{rcases qG.1 h with h|h;{exact⟨a,jA,c,.inl h⟩};{exact up h}}
theorem zNR (i:Nat)(r:List Nat)(a:List (List Nat)):zhu ops (i::r) a=zhu ops r (a++[waits ops a i]):=rfl
theorem zxV:∀(m:Nat) (a:List (List Nat)),∃l,zhu ops (List.range' a.length m) a=a++l/\l.length=m/\
 ∀k,k<m->(a++l)[a.length+k]?=some (waits ops ((a++l).take (a.length+k)) (a.length+k))
 | 0,a=>⟨[],by simp[zhu],rfl,fun k h=>by omega⟩
 |m+1,a=>by obtain⟨l,c,g,d⟩:=zxV m (a++[waits ops a a.length]);have b:(a++[waits ops a a.length]).length=a.length+1:=(by simp);rw[b]at c d;refine⟨waits ops a a.length::l,?_,by simp[g],fun k h=>?_⟩;{rw [u1,zNR,c];simp};{have e:a++waits ops a a.length::l=(a++[waits ops a a.length])++l:=(by simp);cases k with|zero=>rw[jY,qR (qZ _),k6,kN rfl];rfl|succ k=>have f:a.length+(k+1)=a.length+1+k:=(by omega);rw[e,f];exact d k (by omega)}
theorem z0l {i:Nat}(c:i<ops.size):(zhu ops (List.range ops.size) []).getD i []=waits ops ((zhu ops (List.range ops.size) []).take i) i:=by obtain⟨l,a,d,b⟩:=zxV (ops:=ops) ops.size [];simp only[uJ,jU,j4]at a b;rw[u4,a,j8,b i c];rfl
structure Pinned (n:Nat) (cl:List (List Nat)) (m:Nat):Prop where
 full:∀j,j<m->j∈cl.getD m []
 wait:∀k,m<k->k<n->m∈cl.getD k []
theorem zxd {n m:Nat}{a:List (List Nat)}(h:pinned n a m=true):Pinned n a m:=by unfold pinned z3u at h;simp only[qD,qM,kI,jN,q0,List.mem_range']at h;refine⟨h.1,fun k b c=>h.2 k ⟨k-(m+1),by omega,by omega⟩⟩
theorem zrL {n m:Nat}{a:List (List Nat)}{p:Bool}{r:List Bool}(h:p::r=(zgX n a).drop m):m<n/\p=pinned n a m/\r=(zgX n a).drop (m+1):=by have b:m<(zgX n a).length:=(by rcases u3 m (zgX n a).length with c|c;{exact c};{rw [List.drop_eq_nil_of_le c]at h;cases h});rw[kL b]at h;simp only[List.cons.injEq]at h;refine⟨by simpa [zgX] using b,?_,h.2⟩;rw[h.1];simp[zgX]
theorem zWn {n m:Nat}{a:List (List Nat)}(h:[]=(zgX n a).drop m):n<=m:=by have:=List.drop_eq_nil_iff.1 h.symm;simpa [zgX] using this
theorem zRx {n:Nat}{a:List (List Nat)}:∀(r:List Bool) (m:Nat),m<=n->r=(zgX n a).drop m->
 m+zcj r<=n/\r.drop (zcj r)=(zgX n a).drop (m+zcj r)/\(m+zcj r<n->Pinned n a (m+zcj r))
 |[],m,c,h=>by have:=zWn h;refine⟨by simp[zcj];omega,by simpa [zcj] using h,fun b=>?_⟩;simp[zcj]at b;omega
 |true::r,m,c,h=>by obtain⟨i,j,_⟩:=zrL h;refine⟨by simp[zcj];omega,by simpa [zcj] using h,fun _=>?_⟩;simp only[zcj,jY];exact zxd j.symm
 |false::r,m,c,h=>by obtain⟨i,_,k⟩:=zrL h;obtain⟨d,f,g⟩:=zRx r (m+1) (by omega) k;have e:m+zcj (false::r)=m+1+zcj r:=(by simp only[zcj];omega);rw[e];refine⟨d,?_,g⟩;rw[<- f];rfl
theorem zvt {X:Nat->Bool}:∀(ss:List Step) (i:Nat) (st:St),(∀k,i<=k->X k=false)->zbx ops b X i ss st=st
 |[],_,_,_=>rfl
 |s::ss,i,st,h=>by simp only[zbx];rw[h i (qZ _)];simp only[kB,if_false];exact zvt ss (i+1) st (fun k a=>h k (by omega))
theorem zqv {X Y:Nat->Bool}:∀(ss:List Step) (i:Nat) (st:St),(∀k,i<=k->k<i+ss.length->X k=Y k)->zbx ops b X i ss st=zbx ops b Y i ss st
 |[],_,_,_=>rfl
 |s::ss,i,st,h=>by simp only[zbx];rw[h i (qZ _) (by simp)];exact zqv ss (i+1) _ (fun k c a=>h k (by omega) (by simp only[qY];omega))
def At1 (C:Cfg)(ops:Array Oper)(base i:Nat)(o:Oper)(S:St)(f:Foot):Step->Prop
 |some d=>zdd ops o S=some true/\zjv C S o (base+32*i)=some d/\d.c=true/\f=zeI C S ops o d
 |none=>zdd ops o S=some false/\f=zkX ops o
theorem zXq {i:Nat}{ss:List Step}{fs:List (Nat×Foot)}{st c:St}(h:Trace C ops b base i ss fs st c):∀(k:Nat) (s:Step),ss[k]?=some s->
 ∃o f,ops[i+k]?=some o/\(i+k,f)∈fs/\At1 C ops base (i+k) o (zbx ops b (fun j=>decide (j<i+k)) i ss st) f s:=by
 induction h with
 |nil i st=>intro k s a;simp at a
 |run g hg t r h p=>rename_i i o d ss fs st c;intro k s a;cases k with|zero=>simp only[qH,qC]at a;subst a;refine⟨o,_,g,jA,?_⟩;rw[zvt _ _ _ (fun k u=>by simp;omega)];exact⟨hg,t,r,rfl⟩|succ k=>obtain⟨q,f,l,m,n⟩:=p k s (by simpa using a);have e:i+(k+1)=i+1+k:=(by omega);refine⟨q,f,by rw[e];exact l,by rw[e];exact qX _ m,?_⟩;rw[e];simp only[zbx,g];rw[if_pos (by simp;omega)];exact n
 |skip g hg h p=>rename_i i o ss fs st c;intro k s a;cases k with|zero=>simp only[qH,qC]at a;subst a;refine⟨o,_,g,jA,?_⟩;rw[zvt _ _ _ (fun k u=>by simp;omega)];exact⟨hg,rfl⟩|succ k=>obtain⟨q,f,l,m,n⟩:=p k s (by simpa using a);have e:i+(k+1)=i+1+k:=(by omega);refine⟨q,f,by rw[e];exact l,by rw[e];exact qX _ m,?_⟩;rw[e];simp only[zbx,g];rw[if_pos (by simp;omega)];exact n
theorem zRM {i:Nat}{ss:List Step}{fs:List (Nat×Foot)}{st a:St}(h:Trace C ops b base i ss fs st a):a=zbx ops b (fun _=>true) i ss st:=by induction h with|nil i st=>rfl|run c hg f e h d=>simp only[zbx,c,if_true];exact d|skip c hg h d=>simp only[zbx,c,if_true];exact d
theorem z4e {X:Nat->Bool}{i:Nat}{s:Step}{st:St}:(one ops b X i s st).ep=st.ep:=by unfold one;split;{split;{exact zPW};{rfl}};{rfl}
theorem zbaJ {X:Nat->Bool}{i:Nat}{s:Step}{st:St}:(one ops b X i s st).stk=st.stk:=by unfold one;split;{split;{exact zWZ};{rfl}};{rfl}
theorem zbaI {X:Nat->Bool}{i:Nat}{s:Step}{st:St}:(one ops b X i s st).nid=st.nid:=by unfold one;split;{split;{exact z7o};{rfl}};{rfl}
theorem zgV {X:Nat->Bool}:∀(ss:List Step) (i:Nat) (st:St),(zbx ops b X i ss st).ep=st.ep
 |[],_,_=>rfl
 |s::ss,i,st=>(zgV ss (i+1) _).trans (z4e (X:=X) (i:=i) (s:=s))
theorem zry {X:Nat->Bool}:∀(ss:List Step) (i:Nat) (st:St),(zbx ops b X i ss st).stk=st.stk
 |[],_,_=>rfl
 |s::ss,i,st=>(zry ss (i+1) _).trans (zbaJ (X:=X) (i:=i) (s:=s))
theorem zDr {X:Nat->Bool}:∀(ss:List Step) (i:Nat) (st:St),(zbx ops b X i ss st).nid=st.nid
 |[],_,_=>rfl
 |s::ss,i,st=>(zDr ss (i+1) _).trans (zbaI (X:=X) (i:=i) (s:=s))
def Dead (st:St):Prop:=∀n R e,zl st.ro n=some R->R.ep=some e->e<st.ep
theorem z4U {o:Oper}{s:Step}{st:St}(h:Dead st)(l:0<st.ep):Dead (st.step true o s):=by
 intro n R e b a;rw[zPW];rw[zPX,zbO]at b;split at b
 .rename_i x hx;cases b;cases s with
  |none=>cases hx
  |some d=>
   have f:=zmN hx;simp only[dro,jD]at f;obtain⟨⟨k,g⟩,_,c⟩:=f;simp only[jT]at c;obtain⟨_,rfl⟩:=c;unfold ze2 at a;split at a;{simp only [qC]at a;omega}
   .rename_i hne;exact absurd a (by
     cases j:g.ep with
     |none=>simp
     |some i=>exact absurd j (hne i rfl))
 {exact h n R e b a}
theorem zzT {X:Nat->Bool}:∀(ss:List Step) (i:Nat) (st:St),Dead st->0<st.ep->Dead (zbx ops true X i ss st)
 |[],_,_,h,_=>h
 |s::ss,i,st,h,a=>by refine zzT (X:=X) ss (i+1) (one ops true X i s st) ?_ (by rw[z4e];exact a);unfold one;split;{split;{exact z4U h a};{exact h}};{exact h}
end
end
end Go.Proofs.YthdlghbibaoabaaGreat.E
