/- What is proved here: a part of the proof of the claim. -/
import Derived.Test.YtapgkefgcbapcaaGreatQ1
namespace Go.Proofs.YtapgkefgcbapcaaGreat.E
open Go
set_option linter.defProp false
set_option linter.constructorNameAsVariable false
set_option linter.unusedVariables false
set_option maxRecDepth 100000
set_option linter.unusedSimpArgs false
set_option linter.unusedSectionVars false
noncomputable section
def zeb (o:Bool)(w:World)(cvs:LC)(a:List Value)(K:Nat->zbd):Prop :=
 a.length=cvs.length/\∀(i:Nat) (c:CV) (x:Value),cvs[i]?=some c->a[i]?=some x->Rep o w x c (K i)
def zrp (f:FuncId):CV->Bool
 |.s t _=>zdj f t
 |_=>true
def zvX (o:CV->Bool)(w:World)(cvs:LC)(a:List Value)(K:Nat->zbd):Prop :=
 a.length=cvs.length/\∀(i:Nat) (c:CV) (x:Value),cvs[i]?=some c->a[i]?=some x->Rep (o c) w x c (K i)
def zeb.o {o:CV->Bool}{w:World}{cvs:LC}{d:List Value}{K:Nat->zbd}(h:zeb true w cvs d K):zvX o w cvs d K :=
 ⟨h.1,λi c x a b=>by cases o c;exact(h.2 i c x a b).ro;exact h.2 i c x a b⟩
def zI (rs:LA):LC:=rs.flatMap AV.cvs
def zb6:LA->List Value->List Value
 |[],_=>[]
 |.one _::r,a=>a.headD undef::zb6 r (a.drop 1)
 |.agg b::r,a=>.agg (a.take b.length).toArray::zb6 r (a.drop b.length)
def zmk:List Value->Value
 |[x]=>x
 |l=>.tuple l.toArray
structure Grown (w w':World):Prop where
 os:w'.os=w.os
 tape:w'.tape=w.tape
 output:w'.output=w.output
 size:w.heap.size<=w'.heap.size
 keep:∀b,b<w.heap.size->w'.heap[b]?=w.heap[b]?
structure FnOk (P:Program) (f:FuncId):Prop where
 ok:∃fn b,P.funcs[f]?=some fn/\fn.body=some b/\(fn.name == "runtime.NumGoroutine")=false
structure Fresh (w w':World) (n:Nat) (K:Nat->zbd):Prop where
 lt:∀i x,i<n->K i x->w.heap.size<=x/\x<w'.heap.size
 dis:∀i j x,i<n->j<n->K i x->K j x->i=j
structure FreshO (o:CV->Bool) (w w':World) (cvs:List CV) (K:Nat->zbd):Prop where
 lt:∀i x,i<cvs.length->K i x->w.heap.size<=x/\x<w'.heap.size
 dis:∀i j c x,cvs[i]?=some c->o c=true->j<cvs.length->K i x->K j x->i=j
def Fresh.o {o:CV->Bool}{w w':World}{cvs:LC}{K:Nat->zbd}(h:Fresh w w' cvs.length K):FreshO o w w' cvs K :=
 ⟨h.lt,λi j c x b _ d e a=>h.dis i j x (qA.1 b).1 d e a⟩
def Holds (P:Program)(f:FuncId)(d:LW):Prop :=
 FnOk P f/\∀(w:World) (a:LA) (e:List Value) (c:LA),zeb false w (zI a) e (λ_ b=>b<w.heap.size)->d a=some (true,c)->
  Calls P f (zb6 a e).toArray w fun
   |.returned v,w'=>Grown w w'/\∃(g:List Value) (K:Nat->zbd),zvX (zrp f) w' (zI c) g K/\v=zmk (zb6 c g)/\FreshO (zrp f) w w' (zI c) K
   |_,_=>False
def zNe (P:Program)(f:FuncId)(d:LW):Prop :=
 FnOk P f/\∀(w:World) (a:LA) (e:List Value) (c:LA),zeb false w (zI a) e (λ_ b=>b<w.heap.size)->d a=some (true,c)->
  Calls P f (zb6 a e).toArray w fun
   |.returned v,w'=>Grown w w'/\∃(g:List Value),zeb true w' (zI c) g (λ_ _=>False)/\v=zmk ((zb6 a e).headD undef::zb6 c g)
   |_,_=>False
def zNd (P:Program)(f:FuncId)(a:CV->Int->Option (Bool×CV×Int)):Prop :=
 FnOk P f/\∀(w:World) (v:Value) (t:Ty) (l:List t.den) (k:Int) (S:zbd) (d:CV) (e:Int),Rep true w v (.s t l) S->(∀x,S x->x<w.heap.size)->a (.s t l) k=some (true,d,e)->
  Calls P f #[v,.int .i64 k] w fun
   |.returned u,w'=>w'.os=w.os/\w'.tape=w.tape/\w'.output=w.output/\w.heap.size<=w'.heap.size/\(∀b,b<w.heap.size->¬ S b->w'.heap[b]?=w.heap[b]?)/\u = .int .i64 e/\
    ∃c:zbd,Rep true w' v d c/\∀x,c x->(S x\/w.heap.size<=x)/\x<w'.heap.size
   |_,_=>False
section
variable {C:Cfg} {w0 w w1:World} {S0:zbd} {U:Nat->Prop} {st st1:St} {E E1:Env} {ts:Array Value} {sv:List (Array Value)}
def zeb.append {o:Bool}{a g:LC}{x1 k:List Value}{K:Nat->zbd}(b:zeb o w a x1 K)(h:zeb o w g k λi=>K (a.length+i)):zeb o w (a++g) (x1++k) K:=by refine⟨by simp[b.1,h.1],λi c x d f=>?_⟩;by_cases j:i<a.length;{rw [qW j]at d;rw[qW (by rw[b.1];exact j)]at f;exact b.2 i c x d f};{rw [qU (by omega)]at d;rw[qU (by rw[b.1];omega),b.1]at f;have:=h.2 _ c x d f;have e:a.length+(i-a.length)=i:=(by omega);simp only at this;rw[e] at this;exact this}
def zvn (s:Sim w0 S0 U st E ts sv w){a:At}{u:Value}{c:CV}(d:st.cvOf a=some c)(g:VA w st E a u):Rep false w u c (λb=>b<w.heap.size)/\u.oneCell'=true:=by
 cases a with
 |i k n=>cases d;cases g;exact⟨.i _ _ _,rfl⟩
 |b x=>cases d;cases g;exact⟨.b _ _,rfl⟩
 |sl r p=>simp only[St.cvOf]at d;obtain⟨R,e,hg⟩:=zg7 d;obtain⟨C,B,z,m,A,q,v⟩:=Rep.at p (s.mem.rep r R e) (g.2 R e);rw[hg]at m;cases m;exact⟨(q.weak λx y=>s.mem.rlt r R e x (v x y)).ro,q.one⟩
 |bad=>cases d
 |lp l h=>cases d
 |ep r p i h=>cases d
 |fn f j=>cases d
 |kp r J t=>cases d
def zA7 (p:Sim w0 S0 U st E ts sv w):∀(l:List Operand) (j:LA),zcR (λx=>match st.opnd x with|some v=>st.avOf v|none=>none) l=some j->
 ∃n,zeb false w (zI j) n (λ_ b=>b<w.heap.size)/\l.map ({tmps:=ts,defers:=[]}:Act).eval=zb6 j n
 |[],j,h=>by cases h;exact⟨[],⟨rfl,λi c x h=>by simp[zI]at h⟩,rfl⟩
 |x::r,j,h=>by simp only[zcR]at h;split at h;{rename_i O d;split at h;{rename_i f N;cases h;obtain⟨n,m,F⟩:=zA7 p r f N;split at d;{rename_i Q y;obtain⟨G,-⟩:=zcn p y;unfold St.avOf at d;split at d;{rename_i a;split at d;{rename_i c K;cases d;obtain⟨J,P⟩:=zvn p K G;refine⟨({tmps:=ts,defers:=[]}:Act).eval x::n,?_,by simp[zb6,F]⟩;have e:zI (AV.one c::f)=[c]++zI f:=(by simp[zI,AV.cvs]);rw[e];refine zeb.append (x1:=[({tmps:=ts,defers:=[]}:Act).eval x]) ⟨rfl,λi I u g q=>?_⟩ m;cases i with|zero=>simp at g q;subst g q;exact J|succ i=>simp at g};{cases d}};{rename_i l;split at d;{rename_i s t;cases d;obtain⟨H,A,z,B⟩:=G;obtain⟨D,L⟩:=zpi t;have k:H.toList.length=s.length:=(by simp[z,D]);refine⟨H.toList++n,?_,?_⟩;{have e:zI (AV.agg s::f)=s++zI f:=(by simp[zI,AV.cvs]);rw[e];refine zeb.append ⟨k,λi I u g q=>?_⟩ m;have M:i<l.length:=(by rw[D];exact(qA.1 g).1);have C:=qB M;exact(zvn p (L i _ _ C g) (B i _ u C (by simpa using q)).2).1};{simp only [jG,zb6,A,<- k,kU,uE,F,jX]}};{cases d}};{cases d}};{cases d}};{cases h}};{cases h}
def zAe (n:Nat):CV->At
 |.i k x=>.i k x
 |.b x=>.b x
 |.s _ _=>.sl n []
def zwP:∀(a:LC) (id k:Nat),(ziI a id)[k]?=a[k]?.map (zAe<|id+k)
 |[],id,k=>by simp[ziI]
 |c::a,id,k=>by have e:ziI (c::a) id=zAe id c::ziI a (id+1):=(by cases c<;>rfl);rw[e];cases k with|zero=>simp|succ k=>simp only[jS];rw[zwP a (id+1) k];congr 2;omega
def zBH:∀(a:LC) (id:Nat),(ziI a id).length=a.length
 |[],_=>rfl
 |c::a,id=>by cases c<;>simp [ziI,zBH a<|id+1]
def zZq (own:Ty->Bool):∀(a:LC) (id n:Nat) (R:Root),zy (zLQ own a id) n=some R->id<=n/\∃t l,a[n-id]?=some (.s t l)/\R=⟨t,l,own t,none⟩
 |[],_,_,_,h=>by cases h
 |c::a,id,n,R,h=>by have d:zy (zLQ own a<|id+1) n=some R->id<=n/\∃t l,(c::a)[n-id]?=some (.s t l)/\R=⟨t,l,own t,none⟩:=λh=>(by obtain⟨m,t,l,g,j⟩:=zZq own a (id+1) n R h;have e:n-id=(n-(id+1))+1:=(by omega);exact⟨by omega,t,l,by rw[e,jS];exact g,j⟩);cases c with|i k x=>exact d h|b x=>exact d h|s t l=>simp only[zLQ,zy]at h;split at h;{rename_i f;simp only[qK]at f;subst f;cases h;exact⟨qX _,t,l,by simp,rfl⟩};{exact d h}
def zgx (own:Ty->Bool):∀(a:LA) (id n:Nat) (R:Root),zy (zdy own a id) n=some R->id<=n/\∃t l,(zI a)[n-id]?=some (.s t l)/\R=⟨t,l,own t,none⟩
 |[],_,_,_,h=>by cases h
 |x::a,id,n,R,h=>by have e:zI (x::a)=x.cvs++zI a:=(by simp[zI]);have h:zy (zLQ own x.cvs id++zdy own a (id+x.cvs.length)) n=some R:=h;rw[zbM]at h;rw[e];split at h;{rename_i Q g;cases h;obtain⟨d,t,l,b,c⟩:=zZq own x.cvs id n R g;refine⟨d,t,l,?_,c⟩;rw[qW (qA.1 b).1];exact b};{obtain⟨d,t,l,b,c⟩:=zgx own a (id+x.cvs.length) n R h;refine⟨by omega,t,l,?_,c⟩;rw[qU (by omega)];have f:n-id-x.cvs.length=n-(id+x.cvs.length):=(by omega);rw[f];exact b}
def ziH:∀(d:LA) (f:List Value) (id:Nat),f.length=(zI d).length->(∀(i:Nat) (c:CV) (u:Value),(zI d)[i]?=some c->f[i]?=some u->VA w st E (zAe (id+i) c) u/\u.oneCell'=true)->
 (zdw d id).length=(zb6 d f).length/\∀(k:Nat) (x:TV) (u:Value),(zdw d id)[k]?=some x->(zb6 d f)[k]?=some u->VT w st E x u
 |[],f,id,_,_=>⟨rfl,λk x u h=>by simp[zdw]at h⟩
 |.one c::d,f,id,p,m=>by
  have e:zI (AV.one c::d)=c::zI d:=by simp[zI,AV.cvs]
  rw[e]at p m;cases f with
  |nil=>simp at p
  |cons y f=>
   obtain⟨r,s⟩:=ziH d f (id+1) (by simpa using p) (λi c u l b=>by
    have:=m (i+1) c u (by simpa using l) (by simpa using b)
    have e:id+(i+1)=id+1+i:=by omega
    rw[e] at this;exact this)
   refine⟨by simp[zdw,zb6,r],λk x u n b=>?_⟩;cases k with|zero=>simp only[zdw,zb6,qI,qC,List.headD_cons]at n b;subst n b;have:=(m 0 c y (by simp) (by simp)).1;cases c<;>exact this|succ k=>exact s k x u (by simpa [zdw] using n) (by simpa [zb6] using b)
 |.agg g::d,f,id,p,m=>by
  have e:zI (AV.agg g::d)=g++zI d:=by simp[zI,AV.cvs]
  rw[e]at p m;rw[kL]at p;obtain⟨r,s⟩:=ziH d (f.drop g.length) (id+g.length) (by simp;omega) (λi c u l b=>by
   have:=m (g.length+i) c u (by rw[qU (by omega)];simpa using l) (by rw[jV]at b;exact b)
   have e:id+(g.length+i)=id+g.length+i:=by omega
   rw[e] at this;exact this)
  refine⟨by simp[zdw,zb6,r],λk x u n b=>?_⟩;cases k with|zero=>simp only[zdw,zb6,qI,qC]at n b;subst n b;refine⟨_,rfl,by simp[zBH];omega,λj a u q b=>?_⟩;rw[zwP]at q;(cases l:g[j]? with|none=>rw[l]at q;cases q|some c=>rw[l]at q;cases q;have t:j<g.length:=(qA.1 l).1;simp only[jL,jP,if_pos t]at b;have:=m j c u (by rw[qW t];exact l) b;exact⟨this.2,this.1⟩)|succ k=>exact s k x u (by simpa [zdw] using n) (by simpa [zb6] using b)
def zsQ {l:List TV}{us:List Value}(a:l.length=us.length)(b:∀(k:Nat) (x:TV) (u:Value),l[k]?=some x->us[k]?=some u->VT w st E x u):VM w st E (zj9 l) (zmk us):=by
 match l,us,a,b with
 |[],[],_,_=>exact⟨#[],rfl,rfl,λj x u h=>by simp at h⟩
 |[x],[u],_,b=>exact b 0 x u rfl rfl
 |x::y::l,u::v::us,a,b=>exact⟨_,rfl,by simpa using a.symm,λj f e c d=>b j f e c (by simpa using d)⟩
 |[x],u::v::us,a,_=>simp at a
 |x::y::l,[u],a,_=>simp at a
 |[],u::us,a,_=>simp at a
 |x::l,[],a,_=>simp at a
def zBI {n m:Nat}{c:CV}(h:m∈(zAe n c).ids):m=n:=by cases c<;>simp [zAe,At.ids,zby,zbG]at h;exact h
def zgy:∀(b:LA) (id m:Nat) (x:TV) (a:At),x∈zdw b id->a∈zZ x->m∈a.ids->id<=m/\m<id+(zI b).length
 |[],_,_,_,_,h,_,_=>by simp[zdw]at h
 |.one c::b,id,m,x,a,d,f,g=>by have e:(zI (AV.one c::b)).length=1+(zI b).length:=(by simp[zI,AV.cvs];omega);rw[e];simp only[zdw,qG]at d;rcases d with rfl|d;{simp only [zZ,qF]at f;subst f;have:(ziI [c] id).headD .bad=zAe id c:=(by cases c<;>rfl);rw[this]at g;rw[zBI g];omega};{have:=zgy b (id+1) m x a d f g;omega}
 |.agg i::b,id,m,x,a,d,f,g=>by have e:(zI (AV.agg i::b)).length=i.length+(zI b).length:=(by simp[zI,AV.cvs]);rw[e];simp only[zdw,qG]at d;rcases d with rfl|d;{simp only [zZ]at f;obtain⟨k,j⟩:=qV.1 f;rw[zwP]at j;cases l:i[k]? with|none=>rw[l]at j;cases j|some c=>rw[l]at j;cases j;have n:k<i.length:=(qA.1 l).1;rw[zBI g];omega};{have:=zgy b (id+i.length) m x a d f g;omega}
def zsP {l:List TV}{a:At}(h:a∈zbL (zj9 l)):∃x∈l,a∈zZ x:=by
 match l,h with
 |[],h=>simp[zj9,zbL]at h
 |[x],h=>exact⟨x,by simp,h⟩
 |x::y::l,h=>simpa [zj9,zbL] using h
def s_call (D:Sim w0 S0 U st E ts sv w){o:Oper}{id:Nat}(a3:∀n,Mine id n->¬ U n){c:Call}{f:FuncId}{T:LW}(ho:o.op = .call c)(a2:c.callee = .value (.func f))(hH:Holds C.P f T){j d:LA}(F:zcR (λx=>match st.opnd x with|some v=>st.avOf v|none=>none) c.args.toList=some j)(hr:T j=some (true,d))(a6:(zI d).length<=31) :
 Goes C w0 S0 U st ts sv w o id (λst=>st.apply o.dst {c:=true,v:=zj9 (zdw d id),ro:=zdy (zdj f) d id}):=by
 intro next Q y;obtain⟨⟨fn,b,hf,hb,I⟩,hH⟩:=hH;obtain⟨xs,a5,q⟩:=zA7 D c.args.toList j F;have G:c.args.map ({tmps:=ts,defers:=[]}:Act).eval=(zb6 j xs).toArray:=by rw[<- q,<- uB,jX]
 have H:(execOp ({tmps:=ts,defers:=[]}:Act).eval o).run C.P w = .ok (.enter f (zb6 j xs).toArray) w:=by have z:fn.name≠ "runtime.NumGoroutine":=(by simpa using I);simp[execOp,ho,resolve,a2,Act.eval,Deferred.ofValue,invoke,callFunc,hf,hb,z,G]
 unfold Oper.wp;rw[H,Oper.upon_enter];refine(hH w j xs d a5 hr).mono ?_;intro e w' he;cases e with
 |panicked Z=>exact he.elim
 |outgrown=>exact he.elim
 |returned v=>
  obtain⟨hg,X,K,B,rfl,N⟩:=he;have M:∀n,(id<=n/\n<id+31)->¬ U n:=λn h=>a3 n ⟨h.1,by omega⟩
  obtain⟨hM,hT⟩:=D.mem.addRootsO D.ids.mem (dro:=zdy (zdj f) d id) (w1:=w')
   (E1:={E with ρ:=λn=>if id<=n/\n<id+31 then (X[n-id]?).getD undef else E.ρ n,φ:=λn=>if id<=n/\n<id+31 then (λx=>n-id<(zI d).length/\K (n-id) x) else E.φ n})
   hg.os hg.tape hg.output hg.size hg.keep (λr R hR=>by
    obtain⟨L,t,l,J,rfl⟩:=zgx (zdj f) d id r R hR;have p:r-id<(zI d).length:=(qA.1 J).1;have q:id<=r/\r<id+31:=⟨L,by omega⟩
    have hy:r-id<X.length:=by rw[B.1];exact p
    refine⟨M r q,rfl,?_,λx A=>?_⟩
    .simp only [if_pos q,qB hy,kC];exact(B.2 _ _ _ J<|qB hy).weak (λx A=>⟨p,A⟩)
    .simp only [if_pos q]at A;exact N.lt _ x p A.2)
   (λr R W R' L ho J a7 x A S=>by
    obtain⟨g1,t,l,V,rfl⟩:=zgx (zdj f) d id r R L;obtain⟨a0,t',l',a1,rfl⟩:=zgx (zdj f) d id W R' J;have p:r-id<(zI d).length:=(qA.1 V).1;have O:W-id<(zI d).length:=(qA.1 a1).1;have q:id<=r/\r<id+31:=⟨g1,by omega⟩
    have a4:id<=W/\W<id+31:=⟨a0,by omega⟩
    simp only[if_pos q]at A;simp only[if_pos a4]at S;have:=N.dis _ _ _ x V ho O A.2 S.2;omega)
   (λn y=>by
    have q:¬ (id<=n/\n<id+31):=λh=>M n h y;simp only[if_neg q];exact⟨trivial,trivial,trivial⟩)
  obtain⟨g1,V⟩:=ziH (w:=w') (st:={st with ro:=zdy (zdj f) d id++st.ro}) (E:={E with ρ:=λn=>if id<=n/\n<id+31 then (X[n-id]?).getD undef else E.ρ n,φ:=λn=>if id<=n/\n<id+31 then (λx=>n-id<(zI d).length/\K (n-id) x) else E.φ n})
   d X id B.1 (λi c u hc hu=>by
    have g:=B.2 i c u hc hu;refine⟨?_,g.one⟩;have p:i<(zI d).length:=(qA.1 hc).1;cases c with
    |i k n=>exact g.int_inv
    |b x=>exact g.bool_inv
    |s t l=>
     obtain⟨⟨a,Y,hv,_⟩,_⟩:=g.len;refine⟨⟨a,_,Y,hv⟩,λR hR=>?_⟩;have q:id<=id+i/\id+i<id+31:=⟨by omega,by omega⟩
     have e:id+i-id=i:=by omega
     simp only[zbg,if_pos q,e,hu,kC])
  exact y _ _ _ (Sim.next D hM hT rfl rfl (λn h=>.inl h) (λn R h=>by
   simp only[zbM]at h;split at h
   .rename_i Q hQ;obtain⟨L,t,l,J,_⟩:=zgx (zdj f) d id n Q hQ;have p:n-id<(zI d).length:=(qA.1 J).1;exact .inr ⟨L,by omega⟩
   .exact .inl (D.ids.ro n R h))
   (λn cs y=>⟨.inl (D.ids.lo n cs y).1,λa F m q=>.inl ((D.ids.lo n cs y).2 a F m q)⟩) (zsQ g1 V) (λn y=>by
    simp only[MV.ids,qR]at y;obtain⟨a,F,y⟩:=y;obtain⟨x,A,F⟩:=zsP F;have:=zgy d id n x a A F y;exact .inr ⟨this.1,by omega⟩))
def zbe5 (q:Sim w0 S0 U st E ts sv w){o:Oper}{id:Nat}(a5:∀n,Mine id n->¬ U n){c:Call}{f:FuncId}{O:LW}(ho:o.op = .call c)(a0:c.callee = .value (.func f))(X:zNe C.P f O){H:Operand}{xr:List Operand}(Z:c.args.toList=H::xr){v0:TV}(h0:st.opnd H=some (.v v0)){d j:LA}(y:zcR (λx=>match st.opnd x with|some v=>st.avOf v|none=>none) (H::xr)=some d)(hr:O d=some (true,j))(a2:(zI j).all CV.flat=true)(a6:(zI j).length<=31) :
 Goes C w0 S0 U st ts sv w o id (λst=>st.apply o.dst {c:=true,v:=zj9 (v0::zdw j id)}):=by
 intro next Q G;obtain⟨⟨fn,b,hf,hb,F⟩,X⟩:=X;obtain⟨V,a4,T⟩:=zA7 q (H::xr) d y;obtain⟨a3,J⟩:=zcn q h0;have D:(zb6 d V).headD undef=({tmps:=ts,defers:=[]}:Act).eval H:=by rw[<- T];rfl
 have z:c.args.map ({tmps:=ts,defers:=[]}:Act).eval=(zb6 d V).toArray:=by rw[<- T,<- Z,<- uB,jX]
 have A:(execOp ({tmps:=ts,defers:=[]}:Act).eval o).run C.P w = .ok (.enter f (zb6 d V).toArray) w:=by have p:fn.name≠ "runtime.NumGoroutine":=(by simpa using F);simp[execOp,ho,resolve,a0,Act.eval,Deferred.ofValue,invoke,callFunc,hf,hb,p,z]
 unfold Oper.wp;rw[A,Oper.upon_enter];refine(X w d V j a4 hr).mono ?_;intro e w' he;cases e with
 |panicked W=>exact he.elim
 |outgrown=>exact he.elim
 |returned v=>
  obtain⟨hg,ys,N,rfl⟩:=he;rw[D];obtain⟨hM,hT⟩:=q.mem.addRoots q.ids.mem (dro:=[]) (w1:=w') (E1:=E) hg.os hg.tape hg.output hg.size hg.keep (λr R Y=>by cases Y) (λr R _ _ Y=>by cases Y) (λ_ _=>⟨rfl,rfl,rfl⟩)
  have B:∀(i:Nat) (c:CV),(zI j)[i]?=some c->c.flat=true:=λi c S=>qP.1 a2 c (qJ S);obtain⟨g1,g2⟩:=ziH (w:=w') (st:=st) (E:=E) j ys id N.1 (λi c u S M=>by
   have g:=N.2 i c u S M;refine⟨?_,g.one⟩;have a1:=B i c S;cases c with
   |i k n=>exact g.int_inv
   |b x=>exact g.bool_inv
   |s t l=>cases a1)
  exact G _ _ _ (Sim.next q (st1:=st) hM hT rfl rfl (λn h=>.inl h) (λn R h=>.inl (q.ids.ro n R h))
   (λn cs G=>⟨.inl (q.ids.lo n cs G).1,λa y m T=>.inl ((q.ids.lo n cs G).2 a y m T)⟩) (zsQ (l:=v0::zdw j id) (us:=({tmps:=ts,defers:=[]}:Act).eval H::zb6 j ys) (by simp[g1]) (λk x u hk M=>by
    cases k with
    |zero=>simp only[qI,qC]at hk M;subst hk M;exact VT.tr hT (λa y n G=>J n (by simp only[MV.ids,zbL,qR];exact⟨a,y,G⟩)) a3
    |succ k=>exact g2 k x u (by simpa using hk) (by simpa using M))) (λn K=>by
    simp only[MV.ids,qR]at K;obtain⟨a,y,L⟩:=K;obtain⟨x,hx,I⟩:=zsP y;rcases qG.1 hx with rfl|hx
    .exact .inl (J n (by simp only[MV.ids,zbL,qR];exact⟨a,I,L⟩))
    .have:=zgy j id n x a hx I L;exact .inr ⟨this.1,by omega⟩))
end
section
variable {C:Cfg} {w0 w w1:World} {S0:zbd} {U:Nat->Prop} {st st1:St} {E E1:Env} {ts:Array Value} {sv:List (Array Value)}
def Hit (i a n b j:Nat):Prop:=b=i/\a<=j/\j<a+n
def zJN {t:Ty}{l b:List t.den}{i:Int}{a:Nat}{cvs:LC}(h:setRow t l i a cvs=some b) :
 ∃d,t.cells d=C0 (t.cells<|ix l i t.dflt) a cvs/\b=up l i d:=by
 unfold setRow at h;split at h
 .rename_i d hd;cases h;exact⟨d,zkh hd,rfl⟩
 .cases h
def Rep.setCells {t:Ty}{l l':List t.den}{b off A:Nat}{z:LV}{e':TypeId}{V:Nat->Nat->Value}{K:Nat->Nat->zbd}{S:zbd}{i:Int}{f:Nat}{cvs:LC}{us:List Value}{Kn:Nat->zbd}(a4:l.length<=big)(a3:l.length<=A)(Y:off+A*t.wi<=z.size)(J:Rows true w t l z off b V K S)(hi:i.toNat<l.length)(hl:us.length=cvs.length)(M:f+us.length<=t.wi)(R:setRow t l i f cvs=some l')(X:w1.heap[b]?=some (.cells (C0 z.toList (off+i.toNat*t.wi+f) us).toArray e' (0,0)))(Z:∀(k:Nat) (c:CV) (u:Value),cvs[k]?=some c->us[k]?=some u->Rep true w1 u c (Kn k))(D:∀a j,a<l.length->j<t.wi->¬ Hit i.toNat f us.length a j->∀x,K a j x->w1.heap[x]?=w.heap[x]?)(U:∀k x,k<us.length->Kn k x->x≠b)(W:∀k k' x,k<us.length->k'<us.length->Kn k x->Kn k' x->k=k')(I:∀k x a j,k<us.length->Kn k x->a<l.length->j<t.wi->¬ Hit i.toNat f us.length a j->¬ K a j x) :
 Rep true w1 (.slice (some ⟨b,off,none⟩) l.length A) (.s t l') (fun x=>x=b\/(∃a j,a<l.length/\j<t.wi/\¬ Hit i.toNat f us.length a j/\K a j x)\/∃k,k<us.length/\Kn k x):=by
 obtain⟨d,hd,rfl⟩:=zJN R;have Q:(i.toNat+1)*t.wi<=A*t.wi:=qS _ (by omega)
 rw[jO]at Q;have F:off+i.toNat*t.wi+f+us.length<=z.toList.length:=by simp;omega
 have L:f+cvs.length<=(t.cells (ix l i t.dflt)).length:=by rw[zdG,<- hl];exact M
 have B:(up l i d).length=l.length:=zfB l i d;have a0:∀a j,Decidable (Hit i.toNat f us.length a j):=fun a j=>by unfold Hit;exact inferInstance
 have T:=Rep.sl (o:=true) (w:=w1) t (up l i d) b off A (C0 z.toList (off+i.toNat*t.wi+f) us).toArray e' (0,0)
  (fun a j=>if Hit i.toNat f us.length a j then (us[j-f]?).getD undef else V a j) (fun a j=>if Hit i.toNat f us.length a j then Kn (j-f) else K a j)
  (fun x=>x=b\/(∃a j,a<l.length/\j<t.wi/\¬ Hit i.toNat f us.length a j/\K a j x)\/∃k,k<us.length/\Kn k x)
  X (fun _=>rfl) (by omega) (by omega) (by rw[kD,zi5 _ _ _ F];simpa using Y) (.inl rfl)
  (fun a j x g H v=>by
   rw[B]at g
   by_cases m:Hit i.toNat f us.length a j
   .simp only [if_pos m]at v;obtain⟨_,E,h3⟩:=m;exact⟨.inr (.inr ⟨j-f,by omega,v⟩),fun _=>U _ x (by omega) v⟩
   .simp only [if_neg m]at v;exact⟨.inr (.inl ⟨a,j,g,H,m,v⟩),(J.sub a j x g H v).2⟩)
  (fun _ i1 j1 i2 j2 x C O E P n p=>by
   rw[B]at C E
   by_cases q:Hit i.toNat f us.length i1 j1<;>by_cases r:Hit i.toNat f us.length i2 j2
   .simp only [if_pos q]at n;simp only[if_pos r]at p;obtain⟨a1,b1,c1⟩:=q;obtain⟨a2,b2,c2⟩:=r;have:=W _ _ x (by omega) (by omega) n p
    exact⟨a1.trans a2.symm,by omega⟩
   .simp only [if_pos q]at n;simp only[if_neg r]at p;exact absurd p (I _ x i2 j2 (by have:=q.2;omega) n E P r)
   .simp only [if_neg q]at n;simp only[if_pos r]at p;exact absurd n (I _ x i1 j1 (by have:=r.2;omega) p C O q)
   .simp only [if_neg q]at n;simp only[if_neg r]at p;exact J.dis rfl i1 j1 i2 j2 x C O E P n p)
  (fun a j g H=>by
   rw[B]at g;rw[jL]
   by_cases m:Hit i.toNat f us.length a j
   .simp only [if_pos m];obtain⟨rfl,E,h3⟩:=m;rw[zfA _ _ _ F _ (by omega) (by omega)]
    have e:off+i.toNat*t.wi+j-(off+i.toNat*t.wi+f)=j-f:=by omega
    rw[e,qB (by omega)]
    rfl
   .simp only [if_neg m];rw[zfl _ _ _ F _ (by
     rcases Nat.lt_trichotomy a i.toNat with h|h|h
     .have:(a+1)*t.wi<=i.toNat*t.wi:=qS _ h;rw[jO] at this;omega
     .subst h
      by_cases N:j<f
      .omega
      .have:¬ j<f+us.length:=fun G=>m ⟨rfl,by omega,G⟩
       omega
     .have:(i.toNat+1)*t.wi<=a*t.wi:=qS _ h;rw[jO] at this;omega)]
    simpa using J.val a j g H)
  (fun a x v j c y=>by
   have g:a<l.length:=by have:=(qA.1 v).1;rw[B] at this;exact this
   have H:j<t.wi:=by have:=(qA.1 y).1;rw[zdG] at this;exact this
   rw[zbcH g]at v
   by_cases m:Hit i.toNat f us.length a j
   .simp only [if_pos m];obtain⟨C,E,h3⟩:=m;rw[if_pos C.symm]at v;cases v;rw[hd,zfA _ _ _ L j E (by omega)]at y
    have hk:j-f<us.length:=by omega
    rw[qB hk];exact Z _ c _ y (qB hk)
   .simp only [if_neg m];split at v
    .rename_i C;cases v;rw[hd,zfl _ _ _ L j (by
      by_cases N:j<f
      .exact .inl N
      .have:¬ j<f+us.length:=fun G=>m ⟨C.symm,by omega,G⟩
       right;omega)]at y
     rw[<- C]at g m ⊢;exact(J.con i.toNat _ (zon hi) j c y).frame (D i.toNat j hi H m)
    .exact(J.con a x v j c y).frame (D a j g H m))
 rw[B] at T;exact T
def zq8 {t:Ty}{l l':List t.den}{b off m:Nat}{g:LV}{e R:TypeId}{V:Nat->Nat->Value}{K:Nat->Nat->zbd}{S:zbd}{i:Int}{f:Nat}{cvs:LC}{us:List Value}(O:l.length<=m)(a0:off+m*t.wi<=g.size)(B:Rows true w t l g off b V K S)(N:w.heap[b]?=some (.cells g e (0,0)))(hi:i.toNat<l.length)(Z:us.length=cvs.length)(v:f+us.length<=t.wi)(A:setRow t l i f cvs=some l')(D:w1.heap[b]?=some (.cells (C0 g.toList (off+i.toNat*t.wi+f) us).toArray R (0,0)))(Q:∀a j,a<l.length->j<t.wi->¬ Hit i.toNat f us.length a j->∀x,K a j x->w1.heap[x]?=w.heap[x]?)(q:List (Int×Nat))(hq:∀a j q',q=(a,j)::q'->∀(k:Nat) (c:CV),j=f+k->cvs[k]?=some c->c.flat=true\/(a.toNat=i.toNat->us[k]?=some (V i.toNat j)))(y:∀x,x≠b->w1.heap[x]?=w.heap[x]?){u:Value}(h:zbg w t (.slice (some ⟨b,off,none⟩) l.length m) q=some u):zbg w1 t (.slice (some ⟨b,off,none⟩) l.length m) q=some u:=by
 obtain⟨d,W,rfl⟩:=zJN A;have z:(i.toNat+1)*t.wi<=m*t.wi:=qS _ (by omega);rw[jO]at z;have r:off+i.toNat*t.wi+f+us.length<=g.toList.length:=(by simp;omega);have E:f+cvs.length<=(t.cells (ix l i t.dflt)).length:=by rw[zdG,<- Z];exact v
 cases q with
 |nil=>exact h
 |cons ij q=>
  obtain⟨a,j⟩:=ij;simp only[zbg]at h ⊢;split at h
  .rename_i hi';rw[if_pos hi'];split at h
   .rename_i t' ht';have I:j<t.wi:=by rw[<- zf7];exact(qA.1 ht').1
    have p:w1.cell? ⟨b,off+a.toNat*t.wi+j,none⟩=w.cell? ⟨b,off+a.toNat*t.wi+j,none⟩:=by
     rw[D0 N,D0 D,jL];by_cases n:Hit i.toNat f us.length a.toNat j;{obtain⟨C,T,M⟩:=n;have Y:j-f<cvs.length:=(by omega);have s:=qB Y;rcases hq a j q rfl (j-f) _ (by omega) s with P|J;{exfalso;have F:(t.cells d)[j]?=some cvs[j-f]:=(by rw[W,zfA _ _ _ E j T (by omega)];exact s);have:=zMb F;rw[ht'] at this;have hs:=(Option.some.inj this).symm;obtain⟨l3,M⟩:=zoh hs;rw[M]at P;cases P};{have J:=J C;rw[C,zfA _ _ _ r _ (by omega) (by omega),B.val _ _ (by rw[<- C];exact hi'.2) I];have e:off+i.toNat*t.wi+j-(off+i.toNat*t.wi+f)=j-f:=(by omega);rw[e,J]}}
     .rw [zfl _ _ _ r _ (by
       rcases Nat.lt_trichotomy a.toNat i.toNat with h|h|h
       .have:(a.toNat+1)*t.wi<=i.toNat*t.wi:=qS _ h;rw[jO] at this;omega
       .rw [h]
        by_cases X:j<f
        .omega
        .have:¬ j<f+us.length:=fun H=>n ⟨h,by omega,H⟩
         omega
       .have:(i.toNat+1)*t.wi<=a.toNat*t.wi:=qS _ h;rw[jO] at this;omega)]
      simp
    rw[p];rw[D0 N,B.val _ _ hi'.2 I]at h ⊢;simp only at h ⊢;have L:l[a.toNat]?=some (l[a.toNat]'hi'.2):=qB hi'.2;obtain⟨c,U,G⟩:=zCd (x:=l[a.toNat]'hi'.2) ht';obtain⟨l3,rfl⟩:=zoh G;rw[zdB q (B.con _ _ L j _ U) (fun x L=>y x ((B.sub _ j x hi'.2 I L).2 rfl))];exact h
   {cases h}
  {cases h}
def zrY {P:Program}{T:TypeId}{f:Bool}{c:List CTy}{b off:Nat}{a:LV}{e:TypeId}{v:Value}(k:TypeOk P T f c)(l:w.heap[b]?=some (.cells a e (0,0)))(i:v.cells.size=c.length)(h:off+c.length<=a.size)(j:∀u∈v.cells.toList,u.oneCell'=true) :
 (storeVar T ⟨b,off,none⟩ v).run P w = .ok () (w.setRow b (C0 a.toList off v.cells.toList).toArray):=by
 have d:=run_storeCells_at (P:=P) b off e v.cells.toList 0 a w l (by simp[i];omega) j
 have g:(a.toList.take (off+0)++v.cells.toList++a.toList.drop (off+0+v.cells.toList.length))=C0 a.toList off v.cells.toList:=by simp[C0]
 rw[g]at d;simp[storeVar,zBW k,i,d]
def zNE {e:List At}{b:LC}(d:Given st e b []){k:Nat}{c:CV}(h:b[k]?=some c):c.flat=true:=by have f:k<e.length:=(by rw[<- d.len];exact(qA.1 h).1);rcases d.get k _ (qB f) with⟨_,_,_,a⟩|⟨_,_,a⟩|⟨_,_,_,_,a,_⟩;{rw [h]at a;cases a;rfl};{rw [h]at a;cases a;rfl};{cases a}
def zvC (p q:List (Int×Nat)):(∃a,q=p++a)\/¬ ∃a,q=p++a:=Classical.em _
def z5X (hC:CfgOk C)(D:Sim w0 S0 U st E ts sv w){o:Oper}{id:Nat}{T:TypeId}{a x:Operand}{a2:Bool}{H:List CTy}{y:TV}{r:Nat}{p:List (Int×Nat)}{i:Int}{off:Nat}(ho:o.op = .store T a x)(hT:C.cty T=some (a2,H))(d:st.opnd x=some (.v y))(ha:st.at a=some (.ep r p i off)){R:Root}(B:st.root r=some R){t:Ty}{l l':List t.den}(I:st.node r p=some (.s t l)){c:Bool}{cvs:LC}(hg:st.give none (zZ y) 0=some (c,cvs,[]))(P:R.own=true)(b0:(zZ y).length=H.length)(a8:off+H.length<=t.wi)(W:setRow t l i off cvs=some l'){m:List R.t.den}(b2:zsU R.t R.l p (.s t l')=some m){c':Bool} :
 Goes C w0 S0 U st ts sv w o id (λs=>s.apply o.dst {c:=c',v:=.und,ro:=[(r,{R with l:=m})],bump:=true}):=by
 obtain⟨d3,d5⟩:=zcn D d;obtain⟨c1,d4⟩:=zbN D ha;obtain⟨_,hG⟩:=zqD _ _ _ _ _ hg;obtain⟨Z,a6⟩:=VT.cells d3 (zsR d);obtain⟨b,o2,len,b7,t1,e1,e2,e3,e4,e5⟩:=c1.2 R B;have Q:=D.mem.rep r R B;rw[P]at Q;obtain⟨t',l0,S1,f1,f2,f3,f4,f5⟩:=Rep.focus p Q e1;have c5:ziZ R.t R.l p=some (.s t l):=by obtain⟨R',a3,c4⟩:=zg7 I;rw[B]at a3;cases a3;exact c4
 rw[c5] at f1;cases f1;rw[e2] at f2;cases f2;have fw:=f5 w l S1 (λ_ _ _=>rfl) (λ_ h _=>h) f3;obtain⟨_,_,_,_,b8⟩:=fw;generalize hv:({tmps:=ts,defers:=[]}:Act).eval x=v at *;cases f3 with
 |void _ _ _ ho=>cases ho
 |sl _ _ _ _ _ Y e' fz V K _ hb c3 a0 M b5 J g a7 d2 c2=>
 have a9:=c3 rfl;subst a9;have A:Rows true w t l Y o2 b V K S1:=⟨g,a7,d2,c2⟩;have b6:v.cells.toList.length=cvs.length:=by rw[hG.len];simpa using Z
 have X:v.cells.size=H.length:=by rw[Z,b0]
 have F:off+v.cells.toList.length<=t.wi:=by simp[X];exact a8
 have b4:(i.toNat+1)*t.wi<=b7*t.wi:=qS _ (by omega)
 rw[jO]at b4;have b9:∀u∈v.cells.toList,u.oneCell'=true:=by intro u hu;obtain⟨j,N⟩:=qV.1 hu;have c8:j<(zZ y).length:=(by rw[<- Z];have:=(qA.1 N).1;simpa using this);exact(a6 j _ u (qB c8) (by simpa using N)).1
 have S:=zrY (w:=w) (off:=o2+i.toNat*t.wi+off) (hC.cty T a2 H hT) hb X (by omega) b9
 generalize z:w.setRow b (C0 Y.toList (o2+i.toNat*t.wi+off) v.cells.toList).toArray=w1 at S;have a5:w1.heap[b]?=some (.cells (C0 Y.toList (o2+i.toNat*t.wi+off) v.cells.toList).toArray e' (0,0)):=by rw[<- z];exact setRow_heap w b _ _ e' _ hb
 have f:∀x,x≠b->w1.heap[x]?=w.heap[x]?:=λx d=>by rw[<- z];exact setRow_other w b x _ d
 have O:∀L j,L<l.length->j<t.wi->¬ Hit i.toNat off v.cells.toList.length L j->∀x,K L j x->w1.heap[x]?=w.heap[x]?:=λL j G N _ x d=>f x ((g L j x G N d).2 rfl);have a1:=Rep.setCells (w:=w) (w1:=w1) (Kn:=λ_ _=>False) a0 M b5 A e4 b6 F W a5 (λk c u hc hu=>by
  have hk:k<(zZ y).length:=by rw[<- hG.len];exact(qA.1 hc).1
  have a4:=qB hk;exact(hG.rep D.mem a4 hc (a6 k _ u a4 (by simpa using hu)).2).flat (zNE hG hc)) O (λ_ _ _ h=>h.elim) (λ_ _ _ _ _ h=>h.elim) (λ_ _ _ _ _ h=>h.elim)
 obtain⟨m',b1,d1,c6,c7⟩:=f5 w1 l' _ (λx d d0=>f x λe=>d0 (e ▸ J)) (λx d _=>by
  rcases d with rfl|⟨L,j,G,N,_,hk⟩|⟨_,_,h⟩
  .exact J
  .exact(g L j x G N hk).1
  .exact h.elim) a1
 rw[b2]at b1;cases b1;have b3:=d1.weak (S':=E.φ r) (λx d=>by
  rcases d with⟨d,_⟩|rfl|⟨L,j,G,N,_,hk⟩|⟨_,_,h⟩
  .exact d
  .exact f4 _ J
  .exact f4 _ (g L j x G N hk).1
  .exact h.elim)
 obtain⟨hM,c0⟩:=D.mem.mut D.ids.mem B P (w1:=w1) (m:=m) (by rw[<- z];rfl) (by rw[<- z];rfl) (by rw[<- z];rfl) (by rw[<- z];simp) (λx d=>f x λe=>d (e ▸ f4 b J)) b3 (λq u hq=>by
  rcases zvC p q with⟨q',rfl⟩|c9
  .rw [c7 q'];rw[b8 q']at hq;exact zq8 M b5 A hb e4 b6 F W a5 O q' (λ_ _ _ _ k c _ hc=>.inl (zNE hG hc)) f hq
  .exact c6 q u hq λq' he=>absurd ⟨q',he⟩ c9)
 refine zma D (v:=undef) (mv:=.und) (n:=.skip) ?_ (.inr ⟨rfl,rfl⟩) hM c0 rfl rfl rfl (λn R' I=>?_) (λn cs I=>⟨.inl (D.ids.lo n cs I).1,λa ha m hm=>.inl ((D.ids.lo n cs I).2 a ha m hm)⟩) rfl (λn I=>by simp[MV.ids,zbL]at I)
 .simp [execOp,ho,Instr.storeAt,e5,Instr.sureAddr,hv,S]
 .simp only [zy]at I;split at I
  .rename_i he;simp only[qK]at he;subst he;exact .inl (D.ids.ro _ R (zbD B).1)
  .exact .inl (D.ids.ro n R' I)
end
section
variable {C:Cfg} {w0 w w1:World} {S0:zbd} {U:Nat->Prop} {st st1:St} {E E1:Env} {ts:Array Value} {sv:List (Array Value)}
structure CtrOk (C:Cfg):Prop where
 ok:∀f run,C.ctr f=some run->Holds C.P f run
 vok:∀f inp run,C.tct f=some ([],inp,run)->zNe C.P f run
def z7h (g:CfgOk C)(b:Sim w0 S0 U st E ts sv w){o:Oper}{id:Nat}(c:∀n,Mine id n->¬ U n){x:Operand}{d:Dl}(a:o.op = .move x\/o.op = .assign x)(h:z0 C st o id=some d):Goes C w0 S0 U st ts sv w o id (λst=>st.apply o.dst d):=by rcases a with a|a;{simp only [z0,a]at h;split at h;{cases h;exact zdR b (v:=.pointer none) (by simp[execOp,a,Act.eval]) trivial (λn e=>by simp[MV.ids,zbL,zZ,At.ids,zby,zbG]at e)};{split at h;{cases h;exact zbcG b c (.inl a)};{cases h}};{split at h;{rename_i v f;cases h;exact z8x b (.inl a) f};{cases h}}};{simp only [z0,a]at h;split at h;{cases h;exact zdR b (v:=.pointer none) (by simp[execOp,a,Act.eval]) trivial (λn e=>by simp[MV.ids,zbL,zZ,At.ids,zby,zbG]at e)};{split at h;{cases h;exact zbcG b c (.inr a)};{cases h}};{split at h;{rename_i v f;cases h;exact z8x b (.inr a) f};{cases h}}}
def zbdj (z:CfgOk C)(A:Sim w0 S0 U st E ts sv w){o:Oper}{id:Nat}(B:∀n,Mine id n->¬ U n){T:TypeId}{a x:Operand}{d:Dl}(u:o.op = .store T a x)(h:z0 C st o id=some d):Goes C w0 S0 U st ts sv w o id (λst=>st.apply o.dst d):=by simp only[z0,u]at h;split at h;{rename_i f F y l s g v j;split at h;{rename_i H e;split at h;{rename_i G;cases h;exact z5Y z A u g v j e G.1 G.2};{cases h}};{cases h}};{rename_i f F y r p i s g v j;split at h;{rename_i R t l c cvs I J hg;split at h;{rename_i b;simp only[qE,qK,jA]at b;split at h;{rename_i K q;split at h;{rename_i m k;cases h;exact z5X z A u g v j I J hg b.1.1 b.1.2 b.2 q k};{cases h}};{cases h}};{cases h}};{cases h}};{rename_i f t l s g v j;split at h;{split at h;{rename_i H e;split at h;{rename_i D;cases h;exact z2v z A B u g j e D};{cases h}};{cases h}};{cases h}};{cases h}
def zCL {t:Ty}{a b:CV}{m:List t.den}(h:zA6 t a b=some m):∃c d:List t.den,a = .s t c/\b = .s t d/\m=ap c d:=by unfold zA6 at h;split at h;{split at h;{rename_i f c g d e;obtain⟨rfl,rfl⟩:=e;cases h;exact⟨c,d,rfl,rfl,rfl⟩};{cases h}};{cases h}
def zbeH (S:CfgOk C)(hH:CtrOk C)(A:Sim w0 S0 U st E ts sv w){o:Oper}{id:Nat}(v:∀n,Mine id n->¬ U n){c:Call}{d:Dl}(z:o.op = .call c)(h:z0 C st o id=some d)(G:d.c=true):Goes C w0 S0 U st ts sv w o id (λst=>st.apply o.dst d):=by simp only[z0,z]at h;split at h;{rename_i g;split at h;{rename_i x T i q;split at h;{rename_i r p hx;split at h;{rename_i t l P;split at h;{rename_i O;cases h;obtain⟨e,hE⟩:=S.sty T t O;exact zbfK A z g i q hE.und hx P};{cases h}};{cases h}};{cases h}};{cases h}};{rename_i g;split at h;{rename_i x y i;split at h;{rename_i a b D F;cases h;exact zbfM A z g i D F};{cases h}};{cases h}};{rename_i g;split at h;{rename_i x y i;split at h;{rename_i a b D F;cases h;exact zbfL A z g i D F};{cases h}};{cases h}};{rename_i g;split at h;{rename_i x y T T2 i q;split at h;{rename_i V;subst V;split at h;{rename_i t r r2 p2 O D F;split at h;{rename_i R R2 a1 hR I P;split at h;{rename_i j;split at h;{rename_i m hm;cases h;obtain⟨l1,l2,N,e2,rfl⟩:=zCL hm;subst e2;simp only[qE,j6,List.isEmpty_iff,jZ,jE,beq_eq_false_iff_ne]at j;have H:R=⟨t,l1,R.own,R.ep⟩:=(by cases R with|mk t0 l0 own ep=>simp only[CV.s.injEq] at N;obtain⟨rfl,N⟩:=N;cases N;rfl);cases u:t.flat with|true=>have:=zZ3 S A v z g i q O D F hR I j.1 (.inl u) P H G;rw[u] at this;exact this|false=>obtain⟨⟨Y,X⟩,K⟩:=j.2.resolve_left (by rw[u];exact Bool.false_ne_true);(cases J:R2.own with|true=>have:=zZ3 S A v z g i q O D F hR I j.1 (.inr ⟨J,Y,X⟩) P H G;rw[u] at this;exact this|false=>rw[J]at K;cases K)};{cases h}};{cases h}};{cases h}};{cases h}};{cases h}};{cases h}};{rename_i f g;split at h;{rename_i B L;split at h;{rename_i Q W;split at h;{rename_i c2 rs Z;split at h;{rename_i k;cases h;simp only at G;subst G;exact s_call A v z g (hH.ok f B L) W Z k};{cases h}};{cases h}};{cases h}};{split at h;{rename_i a0 B x0 xr M i;split at h;{rename_i v0 Q h0 W;split at h;{rename_i c2 rs Z;split at h;{rename_i k;cases h;simp only at G;subst G;rw[qE,jA]at k;exact zbe5 A v z g (hH.vok f a0 B M) i h0 W Z k.1 k.2};{cases h}};{cases h}};{cases h}};{cases h}}};{cases h}
def zI8 (k:CfgOk C)(p:CtrOk C)(g:Sim w0 S0 U st E ts sv w){o:Oper}{id:Nat}(i:∀n,Mine id n->¬ U n){d:Dl}(h:z0 C st o id=some d)(l:d.c=true):Goes C w0 S0 U st ts sv w o id (λst=>st.apply o.dst d):=by
 cases e:o.op;(case move x=>exact z7h k g i (.inl e) h);(case assign x=>exact z7h k g i (.inr e) h);(case pick c a b=>exact zbe3 g e h);(case alloc T=>exact zbdP k g i e h);(case box T x=>exact zbfJ g i e h);(case build T parts=>exact zbdR k g i e h);(case load T x=>exact zbe2 k g e h);(case store T a x=>exact zbdj k g i e h);(case nilCheck x=>exact z5W g e h);(case binOp op T x y T2=>exact zbdQ k g e h l);(case unOp op T x=>exact zbe4 g e h);case convert a b x=>exact z8s k g e h
 case makeFunc fn first caps=>
  cases fn with
  |func f=>exact z5V g e h
  |_=>simp[z0,e]at h
 case makeSlice T x y=>exact z2u k g i e h l
 case slice T x lo hi mx=>
  cases mx with
  |none=>exact zbdU k g i e h l
  |some m=>simp[z0,e]at h
 (case fieldAddr T x f=>exact z2a k g e h);case field T x f=>exact zbdS k g e h
 case index T x y=>
  cases x with
  |const v=>cases v with|string s=>exact zbdT g e h l|_=>simp[z0,e]at h
  |_=>simp[z0,e]at h
 (case indexAddr T x y=>exact z2c k g e h l);(case extract x j=>exact z8t g e h);(case call c=>exact zbeH k p g i e h l);(case buildSlice T len parts=>exact zZ4 k g i e h);all_goals simp [z0,e]at h
end
section
variable {C:Cfg} {w0 w w1:World} {S0:zbd} {U:Nat->Prop} {st st1:St} {E E1:Env} {ts:Array Value} {sv:List (Array Value)}
structure GraftOk (C:Cfg):Prop where
 ok:∀(w0 w:World) (S0:zbd) (U:Nat->Prop) (st:St) (E:Env) (ts:Array Value) (sv:List (Array Value)) (o:Oper) (id:Nat) (c:Bool) (st2:St),Sim w0 S0 U st E ts sv w->graft C st o=some (c,st2)->c=true->
  Goes C w0 S0 U st ts sv w o id (fun _=>st2.put o.dst .und)/\st2.nid=st.nid
 mok:∀(w0 w:World) (S0:zbd) (U:Nat->Prop) (st:St) (E:Env) (ts:Array Value) (sv:List (Array Value)) (o:Oper) (id:Nat) (c:Bool) (st2:St) (m:MV),Sim w0 S0 U st E ts sv w->zXl C st o=some (c,st2,m)->c=true->
  Goes C w0 S0 U st ts sv w o id (fun _=>st2.put o.dst m)/\st2.nid=st.nid
 pok:∀(w0 w:World) (S0:zbd) (U:Nat->Prop) (st:St) (E:Env) (ts:Array Value) (sv:List (Array Value)) (o:Oper) (id:Nat) (c:Bool) (st2:St) (m:MV),Sim w0 S0 U st E ts sv w->(∀n,Mine id n->¬ U n)->zGL C st o id=some (c,st2,m)->c=true->
  Goes C w0 S0 U st ts sv w o id (fun _=>st2.put o.dst m)/\st2.nid=st.nid
 tok:∀(w0 w:World) (S0:zbd) (U:Nat->Prop) (st:St) (E:Env) (ts:Array Value) (sv:List (Array Value)) (o:Oper) (id:Nat) (c:Bool) (st2:St) (m:MV),Sim w0 S0 U st E ts sv w->(∀n,Mine id n->¬ U n)->zXq C st o id=some (c,st2,m)->c=true->
  Goes C w0 S0 U st ts sv w o id (fun _=>st2.put o.dst m)/\st2.nid=st.nid
structure MctOk (C:Cfg):Prop where
 ok:∀f run,C.mct f=some run->zNd C.P f run
structure NameOk (C:Cfg):Prop where
 ok:∀(f:FuncId) (fn:Func),C.P.funcs[f]?=some fn->(fn.name == "runtime.NumGoroutine")=false
def ztT (C:Cfg)(e:zh6):Prop :=
 ∀(f:FuncId) (j:List MV) (st:St) (k:List TV->St->Option Ans) (d:Ans),e f j st k=some d->
  ∀(w0:World) (S0:zbd) (U:Nat->Prop) (E:Env) (ts:LV) (sv:List LV) (w:World) (c:LV) (R:Value->World->Prop),Sim w0 S0 U st E ts sv w->(∀n,st.nid<=n->¬ U n)->
   c.size=j.length->(∀(i:Nat) (m:MV) (v:Value),j[i]?=some m->c[i]?=some v->VM w st E m v)->(∀m∈j,∀n∈m.ids,U n)->
   (∀(h:Nat->Prop) (a:St) (p:Env) (g:World) (l:List TV) (v:Value),Sim w0 S0 h a p ts sv g->(∀n,h n->U n\/st.nid<=n)->st.nid<=a.nid->(∀n,a.nid<=n->¬ h n)->
    VM g a p (zj9 l) v->(∀n∈(zj9 l).ids,h n)->k l a=some d->R v g)->
   (∃q b,C.P.funcs[f]?=some q/\q.body=some b)/\Calls C.P f c w λ| .returned v,g=>R v g|_,_=>False
def zL3 {d:Nat}{m:MV}(h:st.tm[d]?=some m):st.put (some d) m=st:=by have:st.tm.set d m=st.tm:=(by apply uH;intro k;rw[jC];split;{rename_i e;subst e;split;{exact h.symm};{rename_i a;rw[List.getElem?_eq_none (by omega)]at h;cases h}};{rfl});simp only[St.put,this]
def zVj (y:Sim w0 S0 U st E ts sv w){a:Array Oper}{o:Oper}{n skip:St->Option Ans}{e:Ans}(h:guarded a o st n skip=some e) :
 (Region.wanted o (yielded a ts)=true/\n st=some e)\/(Region.wanted o (yielded a ts)=false/\skip (st.put o.dst .und)=some e):=by
 unfold guarded at h;split at h
 .rename_i hg;exact .inl ⟨by simp[Region.wanted,hg],h⟩
 .rename_i j want hg;have g:∀{m:MV},guardOf st a j=some m->∃f t,a[j]?=some f/\f.dst=some t/\st.tm[t]?=some m/\zkU a j=some t:=by intro m c;unfold guardOf at c;split at c;{rename_i f k;split at c;{rename_i t l;exact⟨f,t,k,l,c,by simp[zkU,k,l]⟩};{cases c}};{cases c}
  have d:∀{m:MV} {t:Nat},st.tm[t]?=some m->∃v,ts[t]?=some v/\VM w st E m v:=by intro m t l;have i:t<ts.size:=(by rw[y.tm.1];exact(qA.1 l).1);exact⟨ts[t],by simp[i],y.tm.2 t m _ l (by simp[i])⟩
  split at h
  .rename_i c;obtain⟨f,t,r,s,p,_⟩:=g c;obtain⟨v,u,b⟩:=d p;simp only[VM]at b;subst b;refine .inr ⟨?_,h⟩;have:yielded a ts j=none:=by simp[yielded,r,s,u,undef]
   simp[Region.wanted,hg,this]
  .rename_i x c;obtain⟨f,t,r,s,p,z⟩:=g c;obtain⟨v,u,b⟩:=d p;simp only[VM,VT,VA]at b;subst b;have q:yielded a ts j=some x:=by simp[yielded,r,s,u]
   rw[z]at h;cases x<;>cases want<;>simp only [cond_true,cond_false]at h<;>rw [zL3 p]at h
   .exact .inl ⟨by simp[Region.wanted,hg,q],h⟩
   .exact .inr ⟨by simp[Region.wanted,hg,q],h⟩
   .exact .inr ⟨by simp[Region.wanted,hg,q],h⟩
   .exact .inl ⟨by simp[Region.wanted,hg,q],h⟩
  .cases h
def Sim.putV (a:Sim w0 S0 U st E ts sv w){dst:Option Tmp}{m:MV}{v:Value}(c:VM w st E m v)(b:∀n∈m.ids,U n):Sim w0 S0 U (st.put dst m) E (({tmps:=ts,defers:=[]}:Act).put dst v).tmps sv w :=
 Sim.next a a.mem Sim.trans_self rfl rfl (λ_ h=>h) a.ids.ro a.ids.lo c b
def zkd (dst:Option Tmp)(v:Value):({tmps:=ts,defers:=[]}:Act).put dst v={tmps:=(({tmps:=ts,defers:=[]}:Act).put dst v).tmps,defers:=[]}:=by cases dst<;>rfl
def zNx {b:Type}(a:At)(k:At->b):zQS a k=k a:=by cases a<;>rfl
def z4C {b:Type}(m:MV)(k:MV->b):z3b m k=k m:=by rcases m with _|x|l;{rfl};{rcases x with a|l;{exact zNx a (λa=>k (.v<|.at a))};{rfl}};{rfl}
def zBt {a:Type}:∀(l:List MV) (k:List MV->a),zzS l k=k l
 |[],_=>rfl
 |m::l,k=>by simp only[zzS,z4C,zBt l]
def ztj {a:Type}(n:Nat)(k:Nat->a):zsK n k=k n:=by cases n<;>rfl
def z7p {a:Type}(b:Bool)(k:Bool->a):z7o b k=k b:=by cases b<;>rfl
def z4B {a:Type}(e:Option Nat)(k:Option Nat->a):z3a e k=k e:=by cases e with|none=>rfl|some n=>exact ztj n (λn=>k (some n))
def zJc {b:Type}:∀(l:List At) (k:List At->b),zBs l k=k l
 |[],_=>rfl
 |a::l,k=>by simp only[zBs,zNx,zJc l]
def zNy {a:Type}:∀(l:List (Nat×List At)) (k:List (Nat×List At)->a),zGB l k=k l
 |[],_=>rfl
 |(n,b)::l,k=>by simp only[zGB,ztj,zJc,zNy l]
def zNz {a:Type}:∀(l:List (Nat×Root)) (k:List (Nat×Root)->a),zGC l k=k l
 |[],_=>rfl
 |(n,⟨t,x,own,ep⟩)::l,k=>by simp only[zGC,ztj,z7p,z4B,zNz l]
def zUD (k:St->Option Ans):st.forced k=k st:=by unfold St.forced;simp only[zBt,zNy,zNz,ztj]
def zGa (k:St->Option Ans):st.shared k=k st:=by unfold St.shared;rw[zBt];split;{rename_i r R ro h;simp only[p0];congr 1;cases st;simp only at h;subst h;rfl};{rfl}
def zbaP (o:Oper)(d:Dl)(k:St->Option Ans):wrote o d st k=k st:=by unfold wrote;split;{exact zGa k};{rfl}
def z7x {o:Oper}{f:FuncId}{b:List Nat}{a:Array Operand}(h:isIn C st o=some (f,b,a)):∃(c:Call) (x:Operand),o.op = .call c/\c.callee = .value x/\c.args=a/\st.at x=some (.fn f b):=by unfold isIn at h;split at h;{rename_i x d i k;split at h;{rename_i j e l;cases g:byName C x j with|true=>rw[g]at h;cases h|false=>rw[g]at h;cases h;exact⟨_,x,k,rfl,rfl,l⟩};{cases h}};{cases h}
def z6r {d:Dl}{dst:Option Tmp}:(st.apply dst d).nid=st.nid:=by cases dst<;>rfl
def zg4 {m:MV}{dst:Option Tmp}:(st.put dst m).nid=st.nid:=by cases dst<;>rfl
def z3m {e i j n:Nat}(h:i≠j)(f:Mine (e+32*i) n):¬ Mine (e+32*j) n:=by intro g;obtain⟨a,b⟩:=f;obtain⟨c,d⟩:=g;omega
def znz (hC:CfgOk C)(hH:CtrOk C)(hG:GraftOk C)(hN:NameOk C){G:zh6}(u:ztT C G){ops:Array Oper}{base:Nat}{k:St->Option Ans}{O:Ans}{Q:Exit->Act->World->Prop}{V:Nat->Prop}{nid0:Nat}(hV:∀n,nid0<=n->V n)(hk:∀(U':Nat->Prop) (N:St) (W:Env) (a6:LV) (F:World),Sim w0 S0 U' N W a6 sv F->(∀n,U' n->V n)->nid0<=N.nid->(∀n,N.nid<=n->¬ U' n)->k N=some O->Q .normal {tmps:=a6,defers:=[]} F) :
 ∀(l:List Nat) (U:Nat->Prop) (st:St) (E:Env) (ts:LV) (w:World),Sim w0 S0 U st E ts sv w->(∀n,U n->V n)->(∀n,st.nid<=n->¬ U n)->(∀j∈l,∀n,Mine (base+32*j) n->¬ U n/\V n)->l.Nodup->nid0<=st.nid->(∀j∈l,base+32*j+32<=st.nid)->
  zpc C G ops base k l st=some O->wpOps C.P ops Q l {tmps:=ts,defers:=[]} w
 |[],U,st,E,ts,w,D,hU,hF,_,_,a4,_,h=>hk U st E ts w D hU a4 hF h
 |i::rest,U,st,E,ts,w,D,hU,hF,hM,b7,a4,hb,h=>by
  simp only[zpc]at h;split at h;{cases h}
  .rename_i o ho;have K:=List.nodup_cons.1 b7;have X:∀n,Mine (base+32*i) n->¬ U n:=λn h=>(hM i (by simp) n h).1;have c3:=hb i (by simp);have next:∀{p:St} {E2:Env} {B:LV} {w2:World},Sim w0 S0 (λn=>U n\/Mine (base+32*i) n) p E2 B sv w2->p.nid=st.nid->zpc C G ops base k rest p=some O->wpOps C.P ops Q rest {tmps:=B,defers:=[]} w2:=by intro p E2 B w2 H b6 h2;refine znz hC hH hG hN u hV hk rest _ p E2 B w2 H ?_ ?_ ?_ K.2 (by omega) (λj J=>by rw[b6];exact hb j (by simp[J])) h2;{rintro n (s|s);{exact hU n s};{exact(hM i (by simp) n s).2}};{rintro n s (h|h);{exact hF n (by omega) h};{have:=h.2;omega}};{intro j J n r;refine⟨?_,(hM j (by simp[J]) n r).2⟩;rintro (h|h);{exact(hM j (by simp[J]) n r).1 h};{exact z3m (i:=i) (j:=j) (λe=>K.1 (by rw[e];exact J)) h r}}
   have weak:∀{p:St} {E2:Env} {B:LV} {w2:World},Sim w0 S0 U p E2 B sv w2->Sim w0 S0 (λn=>U n\/Mine (base+32*i) n) p E2 B sv w2 :=
    λh=>⟨h.mem,⟨λn R s=>.inl (h.ids.ro n R s),λn cs s=>⟨.inl (h.ids.lo n cs s).1,λa ha m r=>.inl ((h.ids.lo n cs s).2 a ha m r)⟩,λm r n s=>.inl (h.ids.tm m r n s),λf hf m r n s=>.inl (h.ids.stk f hf m r n s)⟩,h.tm,h.stk⟩
   simp only[wpOps,ho];rcases zVj D h with⟨hw,g⟩|⟨hw,a1⟩
   .rw [if_pos hw];refine .inl ?_;split at g
    .rename_i f caps args hin;split at g
     .rename_i vs hvs;obtain⟨c,x,b8,b0,rfl,hx⟩:=z7x hin;obtain⟨c1,c0⟩:=zbN D hx;obtain⟨cv,b3,b2,b1⟩:=c1;obtain⟨a5,b9⟩:=zpi hvs;have M:(c.args.map ({tmps:=ts,defers:=[]}:Act).eval++cv).size=(vs++caps.map λl=>MV.v (.at<|.lp l 0)).length:=(by simp[b2,<- a5]);have I:∀(i:Nat) (m:MV) (v:Value),(vs++caps.map λl=>MV.v (.at<|.lp l 0))[i]?=some m->(c.args.map ({tmps:=ts,defers:=[]}:Act).eval++cv)[i]?=some v->VM w st E m v/\∀n∈m.ids,U n:=by intro i m v r L;have a2:(c.args.map ({tmps:=ts,defers:=[]}:Act).eval).size=vs.length:=(by simp[<- a5]);by_cases hi:i<vs.length;{rw [qW hi]at r;rw[kE (by rw[a2];exact hi),vG]at L;cases ha:c.args[i]? with|none=>rw[ha]at L;cases L|some y=>rw[ha]at L;cases L;exact zcn D (b9 i y m (by simpa using ha) r)};{rw [qU (by omega),qQ]at r;rw[kO (by rw[a2];omega),a2]at L;cases hc:caps[i-vs.length]? with|none=>rw[hc]at r;cases r|some l=>rw[hc]at r;cases r;refine⟨b1 _ l v hc L,λn s=>c0 n ?_⟩;rw[zeo]at s;simp only[At.ids,zby,zbG,jW,qF]at s;subst s;simp only[At.ids,zby,zbG,jW];exact qJ hc}
      obtain⟨⟨fn,b,hf,a9⟩,S⟩:=u f _ st _ O g w0 S0 U E ts sv w (c.args.map ({tmps:=ts,defers:=[]}:Act).eval++cv) (λv F=>wpOps C.P ops Q rest (({tmps:=ts,defers:=[]}:Act).put o.dst v) F) D hF M
       (λi m v r L=>(I i m v r L).1) (λm r n s=>by
        obtain⟨i,hi⟩:=qV.1 r;have b5:i<(c.args.map ({tmps:=ts,defers:=[]}:Act).eval++cv).size:=by rw[M];exact(qA.1 hi).1
        exact(I i m _ hi<|jM b5).2 n s)
       (λU' N W F rs v t a3 c2 a8 L hi b4=>by
        have H:=t.putV (dst:=o.dst) L hi;rw[zkd];refine znz hC hH hG hN u hV hk rest U' _ W _ F H ?_ (by rw[zg4];exact a8) ?_ K.2 (by rw[zg4];omega) (λj J=>by rw[zg4];have:=hb j (by simp[J]);omega) b4
        .intro n s;rcases a3 n s with h|h
         .exact hU n h
         .exact hV n (by omega)
        .intro j J n r;refine⟨λs=>?_,(hM j (by simp[J]) n r).2⟩
         rcases a3 n s with h|h
         .exact(hM j (by simp[J]) n r).1 h
         .have:=hb j (by simp[J])
          have:=r.2;omega)
      have a0:=hN.ok f fn hf;have T:fn.name≠ "runtime.NumGoroutine":=(by simpa using a0);have Z:(execOp ({tmps:=ts,defers:=[]}:Act).eval o).run C.P w = .ok (.enter f<|c.args.map ({tmps:=ts,defers:=[]}:Act).eval++cv) w:=(by simp[execOp,b8,resolve,b0,b3,Deferred.ofValue,invoke,callFunc,hf,a9,T]);unfold Oper.wp;rw[Z,Oper.upon_enter];refine S.mono ?_;intro e F he;cases e with|returned v=>exact he|panicked a7=>exact he.elim|outgrown=>exact he.elim
     {cases g}
    {unfold step1 at g;simp only[zbaP,zGa]at g;split at g;{rename_i d hd;cases Y:d.c with|false=>rw[Y]at g;cases g|true=>rw[Y]at g;simp only[cond_true]at g;refine zI8 hC hH D X hd Y _ _ (λW v F t=>?_);rw[zkd];exact next t z6r g};{split at g;{rename_i c p hg;cases q:c with|false=>rw[q]at g;cases g|true=>rw[q]at g;simp only[cond_true]at g;obtain⟨A,z⟩:=hG.ok w0 w S0 U st E ts sv o (base+32*i) c p D hg q;refine A _ _ (λW v F t=>?_);rw[zkd];exact next t (by rw[zg4];exact z) g};{split at g;{rename_i c p m hg;cases q:c with|false=>rw[q]at g;cases g|true=>rw[q]at g;simp only[cond_true]at g;obtain⟨A,z⟩:=hG.mok w0 w S0 U st E ts sv o (base+32*i) c p m D hg q;refine A _ _ (λW v F t=>?_);rw[zkd];exact next t (by rw[zg4];exact z) g};{split at g;{rename_i c p m hg;cases q:c with|false=>rw[q]at g;cases g|true=>rw[q]at g;simp only[cond_true]at g;obtain⟨A,z⟩:=hG.pok w0 w S0 U st E ts sv o (base+32*i) c p m D X hg q;refine A _ _ (λW v F t=>?_);rw[zkd];exact next t (by rw[zg4];exact z) g};{split at g;{rename_i c p m hg;cases q:c with|false=>rw[q]at g;cases g|true=>rw[q]at g;simp only[cond_true]at g;obtain⟨A,z⟩:=hG.tok w0 w S0 U st E ts sv o (base+32*i) c p m D X hg q;refine A _ _ (λW v F t=>?_);rw[zkd];exact next t (by rw[zg4];exact z) g};{cases g}}}}}}
   {rw [if_neg (by simp[hw])];have H:=D.putV (dst:=o.dst) (m:=.und) (v:=undef) rfl (λn s=>by simp[MV.ids,zbL]at s);rw[zkd];exact next (weak H) zg4 a1}
end
section
variable {C:Cfg} {w0 w w1:World} {S0:zbd} {U:Nat->Prop} {st st1:St} {E E1:Env} {ts:Array Value} {sv:List (Array Value)}
def Ext (l a:List (Nat×Nat)):Prop:=∀k v,zy l k=some v->zy a k=some v
def Inj (l:List (Nat×Nat)):Prop:=∀k a v,zy l k=some v->zy l a=some v->k=a
def zNi {l g:List (Nat×Nat)}{k v:Nat}(h:zBb l k v=some g):Ext l g/\zy g k=some v/\(Inj l->Inj g):=by unfold zBb at h;split at h;{rename_i u r;split at h;{rename_i d;simp only[qK]at d;subst d;cases h;exact⟨λ_ _ h=>h,r,λh=>h⟩};{cases h}};{rename_i q;split at h;{cases h};{rename_i c;cases h;have e:∀f,zy l f≠some v:=(by intro f i;have:=zp6 i;exact c (uJ.2 ⟨(f,v),this,by simp⟩));refine⟨λf n h=>?_,by simp[zy],λp s t n a b=>?_⟩;{simp only [zy];split;{rename_i d;simp only[qK]at d;subst d;rw[q]at h;cases h};{exact h}};{simp only [zy]at a b;split at a<;>split at b;{rename_i j m;simp only[qK] at j m;exact j.symm.trans m};{cases a;exact absurd b (e _)};{cases b;exact absurd a (e _)};{exact p s t n a b}}}}
def zNj {l b:List (Nat×Nat)}{k v:Nat}(h:zXf l k v=some b):Ext l b/\zy b k=some v:=by unfold zXf at h;split at h;{rename_i u d;split at h;{rename_i a;simp only[qK]at a;subst a;cases h;exact⟨λ_ _ h=>h,d⟩};{cases h}};{rename_i c;cases h;refine⟨λe f h=>?_,by simp[zy]⟩;simp only[zy];split;{rename_i a;simp only[qK]at a;subst a;rw[c]at h;cases h};{exact h}}
structure ExtB (B B':Bnd):Prop where
 r:Ext B.r B'.r
 l:Ext B.l B'.l
 il:Inj B.l->Inj B'.l
def ExtB.refl (B:Bnd):ExtB B B:=⟨λ_ _ h=>h,λ_ _ h=>h,λh=>h⟩
def ExtB.trans {A B D:Bnd}(h:ExtB A B)(a:ExtB B D):ExtB A D :=
 ⟨λk v x=>a.r k v (h.r k v x),λk v x=>a.l k v (h.l k v x),λx=>a.il (h.il x)⟩
def zsz (B:Bnd)(a:Nat)(x:At):At->Prop
 |.bad=>True
 |.i k n=>x = .i k n
 |.b y=>x = .b y
 |.sl j p=>∃r e,x = .sl e p/\j=a+r/\zy B.r r=some e
 |.lp m g=>∃l h,x = .lp h g/\m=a+l/\zy B.l l=some h
 |.ep j p i g=>∃r e,x = .ep e p i g/\j=a+r/\zy B.r r=some e
 |.fn f d=>∃c,x = .fn f c/\d.length=c.length/\∀(k m h:Nat),d[k]?=some m->c[k]?=some h->∃l,m=a+l/\zy B.l l=some h
 |.kp j J t=>∃r e,x = .kp e J t/\j=a+r/\zy B.r r=some e
def zsz.mono {B v:Bnd}{e:Nat}{x u:At}(h:zsz B e x u)(g:ExtB B v):zsz v e x u:=by cases u with|bad=>trivial|i k n=>exact h|b y=>exact h|sl A p=>obtain⟨r,j,a,c,d⟩:=h;exact⟨r,j,a,c,g.r _ _ d⟩|lp z s=>obtain⟨l,q,a,c,d⟩:=h;exact⟨l,q,a,c,g.l _ _ d⟩|ep A p i s=>obtain⟨r,j,a,c,d⟩:=h;exact⟨r,j,a,c,g.r _ _ d⟩|kp A J t=>obtain⟨r,j,a,c,d⟩:=h;exact⟨r,j,a,c,g.r _ _ d⟩|fn f w=>obtain⟨C,a,c,d⟩:=h;refine⟨C,a,c,λk z q F m=>?_⟩;obtain⟨l,D,E⟩:=d k z q F m;exact⟨l,D,g.l _ _ E⟩
def zLw:∀{d:List Nat} {p:List (Int×Nat)} {b:LC},idx d p=some b->∀a,zz4 d (b++a)=some (p,a)
 |[],[],b,h,a=>by cases h;rfl
 |[],_::_,b,h,_=>by simp[idx]at h
 |_::_,[],b,h,_=>by simp[idx]at h
 |j::d,(i,g)::p,b,h,a=>by simp only[idx]at h;split at h;{rename_i e;simp only[qK]at e;subst e;split at h;{rename_i f c;cases h;simp[zz4,zLw c a]};{cases h}};{cases h}
def z4A {l:List (Nat×Nat)}:l.foldl (λ(b:Option (List<|Nat×Nat)) x=>match b with|some c=>zBb c x.1 x.2|none=>none) none=none:=by induction l with|nil=>rfl|cons a l d=>exact d
def zNk:∀{g d:List Nat} {l f:List (Nat×Nat)},g.length=d.length->(g.zip d).foldl (λ(i:Option (List<|Nat×Nat)) x=>match i with|some p=>zBb p x.1 x.2|none=>none) (some l)=some f->
 Ext l f/\(Inj l->Inj f)/\∀(k a b:Nat),g[k]?=some a->d[k]?=some b->zy f a=some b
 |[],[],l,f,_,h=>by cases h;exact⟨λ_ _ h=>h,λh=>h,λk a b h=>by simp at h⟩
 |[],_::_,_,_,h,_=>by simp at h
 |_::_,[],_,_,h,_=>by simp at h
 |c::g,c'::d,l,f,w,h=>by simp only[List.zip_cons_cons,uP]at h;cases m:zBb l c c' with|none=>rw[m,z4A]at h;cases h|some y=>rw[m]at h;obtain⟨s,t,u⟩:=zNi m;obtain⟨n,q,r⟩:=zNk (by simpa using w) h;refine⟨λk v x=>n k v (s k v x),λx=>q (u x),λk a b j e=>?_⟩;(cases k with|zero=>simp at j e;subst j e;exact n _ _ t|succ k=>exact r k a b (by simpa using j) (by simpa using e))
def zzp {B w:Bnd}{a:AT}{x:At}{H:LC}(d:Nat)(h:zGi B a x=some (w,H)):ExtB B w/\∀c,∃J,putAt d a (H++c)=some (J,c)/\zsz w d x J:=by unfold zGi at h;split at h;{cases h;exact⟨ExtB.refl _,λc=>⟨.bad,rfl,trivial⟩⟩};{split at h;{rename_i k N n t;subst t;cases h;exact⟨ExtB.refl _,λc=>⟨.i k n,rfl,rfl⟩⟩};{cases h}};{rename_i y;cases h;exact⟨ExtB.refl _,λc=>⟨.b y,rfl,rfl⟩⟩};{rename_i r L G p;split at h;{rename_i br z s D;cases h;obtain⟨m,q⟩:=zNj s;exact⟨⟨m,λ_ _ h=>h,λh=>h⟩,λc=>⟨.sl (d+r) p,by simp[putAt,zLw D c],r,G,rfl,rfl,q⟩⟩};{cases h}};{rename_i l u F v;split at h;{rename_i g;simp only[qK]at g;subst g;split at h;{rename_i K s;cases h;obtain⟨m,q,A⟩:=zNi s;exact⟨⟨λ_ _ h=>h,m,A⟩,λc=>⟨.lp (d+l) u,rfl,l,F,rfl,rfl,q⟩⟩};{cases h}};{cases h}};{rename_i r L u G p i v;split at h;{rename_i g;simp only[qK]at g;subst g;split at h;{rename_i br z s D;cases h;obtain⟨m,q⟩:=zNj s;exact⟨⟨m,λ_ _ h=>h,λh=>h⟩,λc=>⟨.ep (d+r) p i u,by simp[putAt,zLw D],r,G,rfl,rfl,q⟩⟩};{cases h}};{cases h}};{rename_i f e M j;split at h;{rename_i g;simp only[qE,qK]at g;obtain⟨rfl,I⟩:=g;split at h;{rename_i K s;cases h;obtain⟨m,q,A⟩:=zNk I s;refine⟨⟨λ_ _ h=>h,m,q⟩,λc=>⟨.fn f (e.map λl=>d+l),rfl,j,rfl,by simpa using I,λk O F t E=>?_⟩⟩;rw[qQ]at t;cases C:e[k]? with|none=>rw[C]at t;cases t|some l=>rw[C]at t;cases t;exact⟨l,rfl,A k l F C E⟩};{cases h}};{cases h}};{cases h}
def zJX (c:Nat):∀{l:List (Nat×AT)} {B f:Bnd} {i:LC},zQe st B l=some (f,i)->ExtB B f/\∀b tm,∃d,zXp c l (i++b) tm=some (d,b)/\d.length=tm.length/\
 ∀(n:Nat) (e:MV),d[n]?=some e->tm[n]?=some e\/∃x g,st.tm[n]?=some (.v<|.at x)/\e = .v (.at g)/\zsz f c x g
 |[],B,f,i,h=>by cases h;exact⟨ExtB.refl _,λb tm=>⟨tm,rfl,rfl,λn e h=>.inl h⟩⟩
 |(n,a)::r,B,f,i,h=>by simp only[zQe]at h;split at h;{rename_i x z;split at h;{rename_i H q t;split at h;{rename_i I j u;cases h;obtain⟨s,A⟩:=zzp c t;obtain⟨m,C⟩:=zJX c u;refine⟨s.trans m,λb tm=>?_⟩;obtain⟨g,D,p⟩:=A (j++b);obtain⟨d,E,F,G⟩:=C b (tm.set n<|.v<|.at g);refine⟨d,by simp[zXp,kJ,D,E],by simpa using F,λk e y=>?_⟩;rcases G k e y with h|h;{rw [jC]at h;split at h;{rename_i w;subst w;split at h;{cases h;exact .inr ⟨x,g,z,rfl,p.mono m⟩};{cases h}};{exact .inl h}};{exact .inr h}};{cases h}};{cases h}};{cases h}
def zAO (c:Nat):∀{l:List AT} {n:List At} {B f:Bnd} {i:LC},zqQ B l n=some (f,i)->ExtB B f/\∀b,∃d,putCells c l (i++b)=some (d,b)/\d.length=n.length/\
 ∀(j:Nat) (x g:At),n[j]?=some x->d[j]?=some g->zsz f c x g
 |[],[],B,f,i,h=>by cases h;exact⟨ExtB.refl _,λb=>⟨[],rfl,rfl,λj x g h=>by simp at h⟩⟩
 |[],_::_,_,_,_,h=>by simp[zqQ]at h
 |_::_,[],_,_,_,h=>by simp[zqQ]at h
 |a::r,x::y,B,f,i,h=>by simp only[zqQ]at h;split at h;{rename_i H s u;split at h;{rename_i I k v;cases h;obtain⟨t,w⟩:=zzp c u;obtain⟨p,A⟩:=zAO c v;refine⟨t.trans p,λb=>?_⟩;obtain⟨g,C,q⟩:=w (k++b);obtain⟨d,D,E,F⟩:=A b;refine⟨g::d,by simp[putCells,kJ,C,D],by simp[E],λj z G m e=>?_⟩;cases j with|zero=>simp at m e;subst m e;exact q.mono p|succ j=>exact F j z G (by simpa using m) (by simpa using e)};{cases h}};{cases h}
def zJV (a:Nat):∀{l:List (Nat×List AT)} {B f:Bnd} {g:LC},zQa st B l=some (f,g)->ExtB B f/\∀b,∃e,zXn a l (g++b)=some (e,b)/\
 ∀(t:Nat) (c:List At),zy e t=some c->∃l m u,t=a+l/\zy f.l l=some m/\zy st.lo m=some u/\c.length=u.length/\∀(j:Nat) (x n:At),u[j]?=some x->c[j]?=some n->zsz f a x n
 |[],B,f,g,h=>by cases h;exact⟨ExtB.refl _,λb=>⟨[],rfl,λt c h=>by cases h⟩⟩
 |(l,O)::r,B,f,g,h=>by simp only[zQa]at h;split at h;{rename_i m C;split at h;{rename_i cells d;split at h;{rename_i M y z;split at h;{rename_i N p A;cases h;obtain⟨v,E⟩:=zAO a z;obtain⟨q,F⟩:=zJV a A;refine⟨v.trans q,λb=>?_⟩;obtain⟨c,G,H,I⟩:=E (p++b);obtain⟨e,J,K⟩:=F b;refine⟨(a+l,c)::e,by simp[zXn,kJ,G,J],λk L i=>?_⟩;simp only[zy]at i;split at i;{rename_i w;simp only[qK]at w;cases i;exact⟨l,m,cells,w.symm,(v.trans q).l _ _ C,d,H,λj x n D s=>(I j x n D s).mono q⟩};{exact K k L i}};{cases h}};{cases h}};{cases h}};{cases h}
def zJW (a:Nat){B:Bnd}:∀{l:List (Nat×Ty×Bool)} {e:LC},zQb st B l=some e->∃b,zXo a l e=some b/\
 ∀(j:Nat) (c:Root),zy b j=some c->∃r g o,j=a+r/\zy B.r r=some g/\zy st.ro g=some {c with own:=o}/\c.ep=none/\(c.own=true->o=true/\(r,c.t,true)∈l)
 |[],e,h=>by cases h;exact⟨[],rfl,λj c h=>by cases h⟩
 |(r,t,own)::rest,e,h=>by simp only[zQb]at h;split at h;{rename_i g D;split at h;{rename_i R A;split at h;{rename_i C;split at h;{rename_i q i;cases h;obtain⟨b,E,F⟩:=zJW a i;refine⟨(a+r,⟨R.t,R.l,own,none⟩)::b,by simp[zXo,E],λk c f=>?_⟩;simp only[zy]at f;split at f;{rename_i p;simp only[qK]at p;cases f;obtain⟨x,y,z⟩:=C;have:({ (⟨R.t,R.l,own,none⟩:Root) with own:=R.own}:Root)=R:=(by rw[<- z]);exact⟨r,g,R.own,p.symm,D,by rw[this];exact A,rfl,λd=>⟨y d,by simp only at d;subst d;subst x;exact jJ⟩⟩};{obtain⟨G,m,o,s,u,v,w,n⟩:=F k c f;exact⟨G,m,o,s,u,v,w,λd=>⟨(n d).1,qZ _ (n d).2⟩⟩}};{cases h}};{cases h}};{cases h}};{cases h}
def znJ:∀(sig:List CTy) (a:LC) (s:Dat sig),unpack sig a=some s->packs sig s=a
 |[],[],s,_=>rfl
 |[],_::_,s,h=>by simp[unpack]at h
 |.i k::sig,a,s,h=>by cases a with|nil=>simp[unpack]at h|cons c a=>(cases c with|i g n=>simp only[unpack]at h;split at h;{rename_i f;subst f;split at h;{rename_i d e;cases h;simp[packs,znJ sig a d e]};{cases h}};{cases h}|b x=>simp[unpack]at h|s t l=>simp[unpack]at h)
 |.b::sig,a,s,h=>by cases a with|nil=>simp[unpack]at h|cons c a=>(cases c with|i g n=>simp[unpack]at h|b x=>simp only[unpack]at h;split at h;{rename_i d e;cases h;simp[packs,znJ sig a d e]};{cases h}|s t l=>simp[unpack]at h)
 |.s t::sig,a,s,h=>by cases a with|nil=>simp[unpack]at h|cons c a=>(cases c with|i g n=>simp[unpack]at h|b x=>simp[unpack]at h|s j l=>simp only[unpack]at h;split at h;{rename_i f;subst f;split at h;{rename_i d e;cases h;simp[packs,znJ sig a d e]};{cases h}};{cases h})
def zbek (l:List (List MV)):List (List MV):=l.map λf=>f.map λ_=>.v (.at .bad)
def Stack.bad:∀{l:List (List MV)} {s:List LV},Stack w st E l s->∀(w1:World) (st1:St) (E1:Env),Stack w1 st1 E1 (zbek l) s
 |[],[],_,_,_,_=>trivial
 |f::r,ts::s,h,w1,st1,E1=>by refine⟨⟨by simpa using h.1.1,λi m v a c=>?_⟩,Stack.bad h.2 w1 st1 E1⟩;rw[qQ]at a;cases b:f[i]? with|none=>rw[b]at a;cases a|some y=>rw[b]at a;cases a;trivial
 |[],_::_,h,_,_,_=>h.elim
 |_::_,[],h,_,_,_=>h.elim
def newEnv (B:Bnd)(a:Nat)(E:Env):Env where
 ρ n:=match zy B.r (n-a) with|some r=>E.ρ r|none=>undef
 φ n:=match zy B.r (n-a) with|some r=>E.φ r|none=>λ_=>False
 β n:=match zy B.l (n-a) with|some l=>E.β l|none=>0
 κ:=E.κ
def zsz.va {B:Bnd}{a:Nat}{x N:At}{v:Value}(h:zsz B a x N)(e:VA w st E x v)(L:∀(r g:Nat) (m:Root),zy B.r r=some g->st1.root (a+r)=some m->∃o,st.root g=some {m with own:=o})(R:∀(l A:Nat) (j:List At),zy B.l l=some A->zy st1.lo (a+l)=some j->∃F,zy st.lo A=some F):VA w st1 (newEnv B a E) N v:=by have H:∀{r g:Nat},zy B.r r=some g->(newEnv B a E).ρ (a+r)=E.ρ g:=λh=>(by simp[newEnv,h]);have O:∀{l A:Nat},zy B.l l=some A->(newEnv B a E).β (a+l)=E.β A:=λh=>(by simp[newEnv,h]);cases N with|bad=>trivial|i k n=>cases h;exact e|b y=>cases h;exact e|sl T p=>obtain⟨r,g,rfl,rfl,c⟩:=h;refine⟨e.1,λm d=>?_⟩;rw[H c];obtain⟨o,D⟩:=L r g m c d;have:=e.2 _ D;exact this|lp S M=>obtain⟨l,A,rfl,rfl,c⟩:=h;refine⟨e.1,λj I=>?_⟩;rw[O c];obtain⟨F,z⟩:=R l A j c I;exact e.2 F z|ep T p i M=>obtain⟨r,g,rfl,rfl,c⟩:=h;refine⟨e.1,λm d=>?_⟩;rw[H c];obtain⟨o,D⟩:=L r g m c d;have:=e.2 _ D;exact this|fn f G=>obtain⟨s,rfl,q,c⟩:=h;obtain⟨vs,U,V,W⟩:=e;refine⟨vs,U,by rw[V,q],λk S u Q Z=>?_⟩;have K:k<s.length:=(by rw[<- q];exact(qA.1 Q).1);have C:=qB K;obtain⟨l,rfl,P⟩:=c k S _ Q C;obtain⟨X,Y⟩:=W k _ u C Z;refine⟨X,λj I=>?_⟩;rw[O P];obtain⟨F,z⟩:=R l _ j P I;exact Y F z|kp T J t=>obtain⟨r,g,rfl,rfl,c⟩:=h;refine⟨e.1,λm d=>?_⟩;rw[H c];obtain⟨o,D⟩:=L r g m c d;have:=e.2 _ D;exact this
def zsz.ids {B:Bnd}{d:Nat}{x w:At}(h:zsz B d x w){n:Nat}(a:n∈w.ids):∃k v,n=d+k/\(zy B.r k=some v\/zy B.l k=some v):=by cases w with|bad=>simp[At.ids,zby,zbG]at a|i k m=>simp[At.ids,zby,zbG]at a|b y=>simp[At.ids,zby,zbG]at a|sl A p=>obtain⟨r,j,rfl,rfl,c⟩:=h;simp only[At.ids,zby,zbG,jF,qF]at a;exact⟨r,j,a,.inl c⟩|lp F u=>obtain⟨l,E,rfl,rfl,c⟩:=h;simp only[At.ids,zby,zbG,jW,qF]at a;exact⟨l,E,a,.inr c⟩|ep A p i u=>obtain⟨r,j,rfl,rfl,c⟩:=h;simp only[At.ids,zby,zbG,jF,qF]at a;exact⟨r,j,a,.inl c⟩|fn f q=>obtain⟨e,rfl,g,c⟩:=h;simp only[At.ids,zby,zbG,jW]at a;obtain⟨k,z⟩:=qV.1 a;have s:k<e.length:=(by rw[<- g];exact(qA.1 z).1);obtain⟨l,C,D⟩:=c k n _ z (qB s);exact⟨l,_,C,.inr D⟩|kp A J t=>obtain⟨r,j,rfl,rfl,c⟩:=h;simp only[At.ids,zby,zbG,jF,qF]at a;exact⟨r,j,a,.inl c⟩
def zMa:At->At
 |.i k n=>.i k n
 |.b x=>.b x
 |_=>.bad
def zPZ (l:List (List MV)):List (List MV):=l.map λf=>f.map (zmf zMa)
def ztX:∀{p q:List (Int×Nat)},zln p q=true->p=q
 |[],[],_=>rfl
 |[(i,j)],[(e,d)],h=>by simp only[zln]at h;cases c:Nat.beq j d with|false=>rw[c]at h;cases h|true=>rw[c]at h;rw[kV]at c;simp only[cond_true,ieq,qK]at h;rw[c,h]
 |(i,j)::a::p,(e,d)::q,h=>by cases q with|nil=>simp only[zln]at h;cases c:Nat.beq j d<;>rw [c]at h<;>simp at h|cons b q=>simp only[zln]at h;(cases c:Nat.beq j d with|false=>rw[c]at h;cases h|true=>rw[c]at h;simp only[cond_true,qE,ieq,qK]at h;rw[kV]at c;rw[c,h.1,ztX h.2])
 |[(i,j)],(e,d)::b::q,h=>by simp only[zln]at h;cases c:Nat.beq j d<;>rw [c]at h<;>simp at h
 |[],_::_,h=>by simp[zln]at h
 |[_],[],h=>by simp[zln]at h
 |_::_::_,[],h=>by simp[zln]at h
def zKc {B:Bnd}{a c r:Nat}(h:zBf B a c r=true):∃k,r=a+k/\zy B.r k=some c:=by simp only[zBf,qE,Nat.ble_eq]at h;obtain⟨e,b⟩:=h;split at b;{rename_i v d;rw[kV]at b;subst b;exact⟨r-a,by omega,d⟩};{cases b}
def zI4 {B:Bnd}{d:Nat}{a m:At}(h:zh7 B d a m=true):(∃k n,m = .i k n)\/(∃x,m = .b x)\/m = .bad\/zsz B d a m:=by cases m with|bad=>exact .inr (.inr (.inl rfl))|i k n=>exact .inl ⟨k,n,rfl⟩|b x=>exact .inr (.inl ⟨x,rfl⟩)|sl r p=>(cases a with|sl j z =>simp only[zh7]at h;(cases g:zBf B d j r with|false=>rw[g]at h;cases h|true=>rw[g]at h;obtain⟨k,q,e⟩:=zKc g;exact .inr (.inr<|.inr ⟨k,j,by rw[ztX h],q,e⟩))|_=>simp[zh7]at h)|lp l o=>(cases a with|lp D u =>simp only[zh7,qE,Nat.ble_eq,kV]at h;obtain⟨⟨q,w⟩,e⟩:=h;subst w;split at e;{rename_i v y;rw[kV]at e;subst e;exact .inr (.inr<|.inr ⟨l-d,v,rfl,by omega,y⟩)};{cases e}|_=>simp[zh7]at h)|ep r p i o=>(cases a with|ep j z C u =>simp only[zh7]at h;(cases g:zBf B d j r with|false=>rw[g]at h;cases h|true=>(cases s:Nat.beq u o with|false=>rw[g,s]at h;cases h|true=>rw[g,s]at h;simp only[Bool.and_self,cond_true,qE,ieq,qK]at h;rw[kV]at s;obtain⟨k,q,e⟩:=zKc g;exact .inr (.inr<|.inr ⟨k,j,by rw[ztX h.2,h.1,s],q,e⟩)))|_=>simp[zh7]at h)|fn f c=>cases a<;>simp [zh7]at h|kp r J t=>(cases a with|kp j A E =>simp only[zh7,qE,qK,jA]at h;obtain⟨k,q,e⟩:=zKc h.1;exact .inr (.inr<|.inr ⟨k,j,by rw[h.2.1,h.2.2],q,e⟩)|_=>simp[zh7]at h)
def zy0 {B:Bnd}{c:Nat}:∀{l m:List At},zGt B c l m=true->l.length=m.length/\∀(i:Nat) (a b:At),l[i]?=some a->m[i]?=some b->zh7 B c a b=true
 |[],[],_=>⟨rfl,λi a b h=>by simp at h⟩
 |a::l,b::m,h=>by simp only[zGt,qE]at h;obtain⟨f,g⟩:=zy0 h.2;refine⟨by simp[f],λi x y d e=>?_⟩;cases i with|zero=>simp at d e;subst d e;exact h.1|succ i=>exact g i x y (by simpa using d) (by simpa using e)
 |[],_::_,h=>by cases h
 |_::_,[],h=>by cases h
def zy1 {B:Bnd}{c:Nat}:∀{l m:List TV},zGu B c l m=true->l.length=m.length/\∀(i:Nat) (a b:TV),l[i]?=some a->m[i]?=some b->zEU B c a b=true
 |[],[],_=>⟨rfl,λi a b h=>by simp at h⟩
 |a::l,b::m,h=>by simp only[zGu,qE]at h;obtain⟨f,g⟩:=zy1 h.2;refine⟨by simp[f],λi x y d e=>?_⟩;cases i with|zero=>simp at d e;subst d e;exact h.1|succ i=>exact g i x y (by simpa using d) (by simpa using e)
 |[],_::_,h=>by cases h
 |_::_,[],h=>by cases h
def zET {B:Bnd}{c:Nat}:∀{l m:List MV},zXh B c l m=true->l.length=m.length/\∀(i:Nat) (a b:MV),l[i]?=some a->m[i]?=some b->zXT B c a b=true
 |[],[],_=>⟨rfl,λi a b h=>by simp at h⟩
 |a::l,b::m,h=>by simp only[zXh,qE]at h;obtain⟨f,g⟩:=zET h.2;refine⟨by simp[f],λi x y d e=>?_⟩;cases i with|zero=>simp at d e;subst d e;exact h.1|succ i=>exact g i x y (by simpa using d) (by simpa using e)
 |[],_::_,h=>by cases h
 |_::_,[],h=>by cases h
def zS7 {a b:Type}{f:a->b}{l:List a}{i:Nat}{x:a}(h:l[i]?=some x):(l.map f)[i]?=some (f x):=by rw[qQ,h];rfl
section
variable {B:Bnd} {base:Nat} {w2:World} {st2:St} {E2:Env}
def z3O {a b:At}{v:Value}(h:zh7 B base a b=true)(p:VA w st E a v)(e:VA w2 st2 E2 (zMa b) v)(m:∀(r g:Nat) (d:Root),zy B.r r=some g->st1.root (base+r)=some d->∃o,st.root g=some {d with own:=o})(j:∀(l f:Nat) (c:List At),zy B.l l=some f->zy st1.lo (base+l)=some c->∃q,zy st.lo f=some q):VA w st1 (newEnv B base E) b v:=by rcases zI4 h with⟨k,n,rfl⟩|⟨x,rfl⟩|rfl|i;{exact e};{exact e};{trivial};{exact i.va p m j}
def z3P {x c:TV}{v:Value}(h:zEU B base x c=true)(z:VT w st E x v)(y:VT w2 st2 E2 (ztn zMa c) v)(t:∀(r C:Nat) (k:Root),zy B.r r=some C->st1.root (base+r)=some k->∃o,st.root C=some {k with own:=o})(s:∀(l A:Nat) (i:List At),zy B.l l=some A->zy st1.lo (base+l)=some i->∃J,zy st.lo A=some J):VT w st1 (newEnv B base E) c v:=by rcases c with n|m;{rcases x with a|l;{exact z3O h z y t s};{cases h}};{rcases x with a|l;{cases h};{obtain⟨q,G⟩:=zy0 (l:=l) (m:=m) h;obtain⟨H,rfl,F,p⟩:=z;obtain⟨I,e,K,D⟩:=y;cases e;refine⟨H,rfl,by rw[F,q],λj n u d g=>?_⟩;have f:j<l.length:=(by rw[q];exact(qA.1 d).1);have b:=qB f;exact⟨(p j _ u b g).1,z3O (G j _ n b d) (p j _ u b g).2 (D j _ u (zS7 d) g).2 t s⟩}}
def zbd5 {x b:MV}{v:Value}(h:zXT B base x b=true)(f:VM w st E x v)(q:VM w2 st2 E2 (zmf zMa b) v)(p:∀(r z:Nat) (i:Root),zy B.r r=some z->st1.root (base+r)=some i->∃o,st.root z=some {i with own:=o})(n:∀(l t:Nat) (g:List At),zy B.l l=some t->zy st1.lo (base+l)=some g->∃J,zy st.lo t=some J):VM w st1 (newEnv B base E) b v:=by
 cases b with
 |und=>cases x with
  |und=>exact f
  |_=>cases h
 |v L=>cases x with
  |v y=>exact z3P h f q p n
  |_=>cases h
 |tup m=>cases x with|tup l=>obtain⟨k,G⟩:=zy1 (l:=l) (m:=m) h;obtain⟨H,rfl,D,F⟩:=f;obtain⟨I,e,K,C⟩:=q;cases e;refine⟨H,rfl,by rw[D,k],λj A u c s=>?_⟩;have d:j<l.length:=(by rw[k];exact(qA.1 c).1);have a:=qB d;exact z3P (G j _ A a c) (F j _ u a s) (C j _ u (zS7 c) s) p n|_=>cases h
def zP8 (q:∀(r x:Nat) (j:Root),zy B.r r=some x->st1.root (base+r)=some j->∃o,st.root x=some {j with own:=o})(p:∀(l u:Nat) (e:List At),zy B.l l=some u->zy st1.lo (base+l)=some e->∃z,zy st.lo u=some z):∀{stk a:List (List MV)} {sv:List LV},ziq B base stk a=true->Stack w st E stk sv->Stack w2 st2 E2 (zPZ a) sv->
 Stack w st1 (newEnv B base E) a sv
 |[],[],sv,_,h,_=>by cases sv<;>first|trivial|exact h.elim
 |f::stk,g::a,sv,b,h,s=>by cases sv with|nil=>exact h.elim|cons ts sv=>simp only[ziq,qE]at b;obtain⟨k,y⟩:=zET b.1;refine⟨⟨by rw[h.1.1,k],λi m v d t=>?_⟩,zP8 q p b.2 h.2 s.2⟩;have c:i<f.length:=(by rw[k];exact(qA.1 d).1);have n:=qB c;exact zbd5 (y i _ m n d) (h.1.2 i _ v n t) (s.1.2 i _ v (zS7 d) t) q p
 |[],_::_,_,b,_,_=>by cases b
 |_::_,[],_,b,_,_=>by cases b
def z4d {a c:At}(h:zh7 B base a c=true){n:Nat}(b:n∈c.ids):∃k v,n=base+k/\(zy B.r k=some v\/zy B.l k=some v):=by rcases zI4 h with⟨k,m,rfl⟩|⟨x,rfl⟩|rfl|d;{simp [At.ids,zby,zbG]at b};{simp [At.ids,zby,zbG]at b};{simp [At.ids,zby,zbG]at b};{exact d.ids b}
def zNs {x e:TV}(h:zEU B base x e=true){b:At}(c:b∈zZ e):∃a,zh7 B base a b=true:=by rcases e with k|m;{rcases x with a|l;{simp only [zZ,qF]at c;subst c;exact⟨a,h⟩};{cases h}};{rcases x with a|l;{cases h};{obtain⟨g,j⟩:=zy0 (l:=l) (m:=m) h;obtain⟨i,f⟩:=qV.1 c;have d:i<l.length:=(by rw[g];exact(qA.1 f).1);exact⟨_,j i _ b (qB d) f⟩}}
def zI5:∀{stk d:List (List MV)},ziq B base stk d=true->∀f∈d,∀m∈f,∀n∈m.ids,∃k v,n=base+k/\(zy B.r k=some v\/zy B.l k=some v)
 |[],[],_,f,p,_,_,_,_=>by cases p
 |g::stk,I::d,e,f,p,m,z,n,q=>by simp only[ziq,qE]at e;rcases qG.1 p with rfl|p;{obtain⟨A,C⟩:=zET e.1;obtain⟨i,u⟩:=qV.1 z;have t:i<g.length:=(by rw[A];exact(qA.1 u).1);have c:=C i _ m (qB t) u;simp only[MV.ids,qR]at q;obtain⟨b,h,q⟩:=q;have:∃a,zh7 B base a b=true:=(by generalize g[i]=x at c;cases m with|und=>simp[zbL]at h|v J=>(cases x with|v y=>exact zNs c h|_=>cases c)|tup H=>(cases x with|tup l=>obtain⟨F,G⟩:=zy1 (l:=l) (m:=H) c;simp only[zbL,qR]at h;obtain⟨y,E,h⟩:=h;obtain⟨j,w⟩:=qV.1 E;have s:j<l.length:=(by rw[F];exact(qA.1 w).1);exact zNs (G j _ y (qB s) w) h|_=>cases c));obtain⟨a,D⟩:=this;exact z4d D q};{exact zI5 e.2 f p m z n q}
 |[],_::_,e,_,_,_,_,_,_=>by cases e
 |_::_,[],e,_,_,_,_,_,_=>by cases e
def zbcI {a:At}{v:Value}(h:VA w st E a v):VA w2 st2 E2 (zMa<|zt9 B base a) v:=by cases a with|i k n=>exact h|b x=>exact h|sl r p=>simp only[zt9];split<;>trivial|lp l o=>simp only[zt9];split<;>trivial|ep r p i o=>simp only[zt9];split<;>trivial|kp r J t=>simp only[zt9];split<;>trivial|_=>trivial
def zbcK {x:TV}{v:Value}(h:VT w st E x v):VT w2 st2 E2 (ztn zMa<|ztn (zt9 B base) x) v:=by rcases x with a|l;{exact zbcI h};{obtain⟨k,g,i,e⟩:=h;refine⟨k,g,by simp[i],λj a u c f=>?_⟩;rw[qQ,qQ]at c;cases d:l[j]? with|none=>rw[d]at c;cases c|some b=>rw[d]at c;cases c;exact⟨(e j b u d f).1,zbcI (e j b u d f).2⟩}
def zbfP {m:MV}{v:Value}(h:VM w st E m v):VM w2 st2 E2 (zmf zMa<|zmf (zt9 B base) m) v:=by cases m with|und=>exact h|v x=>exact zbcK h|tup l=>obtain⟨k,e,f,g⟩:=h;refine⟨k,e,by simp[f],λj a u c i=>?_⟩;rw[qQ,qQ]at c;(cases d:l[j]? with|none=>rw[d]at c;cases c|some b=>rw[d]at c;cases c;exact zbcK (g j b u d i))
def zMd:∀{stk:List (List MV)} {sv:List LV},Stack w st E stk sv->Stack w2 st2 E2 (zPZ<|zv2 B base stk) sv
 |[],[],_=>trivial
 |f::r,ts::s,h=>by refine⟨⟨by simp[h.1.1],λi m v a c=>?_⟩,zMd h.2⟩;rw[qQ,qQ]at a;cases b:f[i]? with|none=>rw[b]at a;cases a|some y=>rw[b]at a;cases a;exact zbfP (h.1.2 i y v b c)
 |[],_::_,h=>h.elim
 |_::_,[],h=>h.elim
end
def zQd:∀{l:List (Nat×Nat×Nat×AT)} {B b:Bnd},zQc st B l=some b->ExtB B b
 |[],B,b,h=>by cases h;exact .refl B
 |(f,s,k,a)::r,B,b,h=>by simp only[zQc]at h;split at h;{split at h;{rename_i d c;exact(zzp 0 c).1.trans (zQd h)};{cases h}};{cases h}
def z0A (hS:Sim w0 S0 U st E ts sv w){T:Tmpl}{B:Bnd}{cs:LC}(h:T.takeB st=some (B,cs))(base:Nat){stk0:List (List MV)}(a6:∀(w1:World) (st1:St) (E1:Env),Stack w1 st1 E1 (zPZ stk0) sv)(a4:ziq B base st.stk stk0=true) :
 ∃st1 E1,T.put base cs=some st1/\Sim w0 S0 (λn=>base<=n/\n<base+1000) {st1 with stk:=stk0} E1 ts sv w/\st1.nid=base+1000:=by
 unfold Tmpl.takeB at h;split at h
 .rename_i hn;simp only[qK]at hn;split at h
  .rename_i B1 cs1 Y;split at h
   rotate_left
   .cases h
   rename_i Bk C;split at h
   .rename_i Bx cs2 h2;split at h
    .rename_i cs3 h3;split at h
     .rename_i K;cases h;obtain⟨e1,p1⟩:=zJX base Y;obtain⟨b0,p2⟩:=zJV base h2;have e2:=(zQd C).trans b0;obtain⟨a8,q5,q6⟩:=zJW base h3;obtain⟨a3,q1,q2,q3⟩:=p1 (cs2++cs3) (List.replicate T.n<|.v<|.at .bad);obtain⟨a7,q7,q8⟩:=p2 cs3;have a5:∀{l:List (Nat×Nat)},l=[]->Inj l:=λh k k' v C=>by subst h;cases C
      have b1:Inj B.l:=(e1.trans e2).il (a5 rfl);rw[qE]at K;obtain⟨K,Z⟩:=K;simp only[zbaU,qE,qP,jA]at K;have b2:∀{r s v:Nat} {t:Ty},(r,t,true)∈T.ro->zy B.r r=some v->zy B.r s=some v->r=s:=by intro r s v t M Y h2;have g:=qP.1 (qP.1 Z _ M) _ (zp6 h2);simp only[Y,j6,kV,jE] at g;rcases g with g|g;{exact g.symm};{simp at g}
      have W:∀{k v:Nat},zy B.r k=some v->base<=base+k/\base+k<base+1000:=λh=>⟨by omega,by have:=K.1 _ (zp6 h);simp only at this;omega⟩
      have V:∀{k v:Nat},zy B.l k=some v->base<=base+k/\base+k<base+1000:=λh=>⟨by omega,by have:=K.2 _ (zp6 h);simp only at this;omega⟩
      refine⟨{tm:=a3,lo:=a7,ro:=a8,stk:=[],nid:=base+1000,ep:=0},newEnv B base E,?_,?_,rfl⟩
      .simp [Tmpl.put,kJ,q1,q7,q5]
      .generalize hst:({tm:=a3,lo:=a7,ro:=a8,stk:=stk0,nid:=base+1000,ep:=0}:St)=st1;have b:∀(D:Nat) (y:Root),st1.root D=some y->∃r z o,D=base+r/\zy B.r r=some z/\st.root z=some {y with own:=o}/\y.ep=none/\(y.own=true->o=true/\(r,y.t,true)∈T.ro):=by intro D y p;have:=(zbD p).1;rw[<- hst] at this;obtain⟨r,z,o,g1,q,A,S,L⟩:=q6 D y this;exact⟨r,z,o,g1,q,zg5 A<|.inl S,S,L⟩
       have J:∀(O:Nat) (d:List At),zy st1.lo O=some d->∃l G H,O=base+l/\zy B.l l=some G/\zy st.lo G=some H/\d.length=H.length/\∀(j:Nat) (x x1:At),H[j]?=some x->d[j]?=some x1->zsz B base x x1:=by intro O d h;rw[<- hst]at h;exact q8 O d h
       have a2:∀(r z:Nat) (y:Root),zy B.r r=some z->st1.root (base+r)=some y->∃o,st.root z=some {y with own:=o}:=by intro r z y hb p;obtain⟨r2,b4,o,g1,q,A,_⟩:=b _ y p;have:r=r2:=(by omega);subst this;rw[hb] at q;cases q;exact⟨o,A⟩
       have a0:∀(l G:Nat) (d:List At),zy B.l l=some G->zy st1.lo (base+l)=some d->∃H,zy st.lo G=some H:=by intro l G d hb h;obtain⟨l2,b3,H,g1,q,A,_⟩:=J _ d h;have:l=l2:=(by omega);subst this;rw[hb] at q;cases q;exact⟨H,A⟩
       have F:∀{r z:Nat},zy B.r r=some z->(newEnv B base E).ρ (base+r)=E.ρ z/\(newEnv B base E).φ (base+r)=E.φ z:=λh=>by simp[newEnv,h]
       have P:∀{l G:Nat},zy B.l l=some G->(newEnv B base E).β (base+l)=E.β G:=λh=>by simp[newEnv,h]
       have I:=hS.mem;refine⟨⟨I.os,I.tape,I.output,I.size,I.keep,?_,?_,?_,?_,?_,?_,?_,?_,?_,I.κ⟩,⟨?_,?_,?_,?_⟩,⟨?_,?_⟩,?_⟩
       .intro D y p;obtain⟨r,z,o,rfl,q,A,_,L⟩:=b D y p;rw[(F q).1,(F q).2];have:=I.rep z _ A;cases ho:y.own with
        |true=>have e:=(L ho).1;subst e;exact this
        |false=>exact this.ro
       .intro D y p x N;obtain⟨r,z,o,rfl,q,A,_⟩:=b D y p;rw[(F q).2]at N;exact I.rlt z _ A x N
       .intro D y p ho;obtain⟨r,z,o,rfl,q,A,_,L⟩:=b D y p;rw[(F q).2];have:=I.mine z _ A (L ho).1;exact this
       .intro hz D y p ho he hf;obtain⟨r,z,o,rfl,q,A,_⟩:=b D y p;rw[(F q).2];cases o with
        |true=>exact(I.mine z _ A rfl).2
        |false=>exact I.frz hz z _ A rfl he hf
       .intro D y r2 R2 p ho hR2 he hne x N;obtain⟨r,z,o,rfl,q,A,_,L⟩:=b D y p;obtain⟨s,s',o2,rfl,Q,X,_⟩:=b r2 R2 hR2;rw[(F q).2]at N;rw[(F Q).2];exact I.apart z _ s' _ A (L ho).1 X he (λe=>hne (by subst e;rw[b2 (L ho).2 q Q])) x N
       .intro O d hl1;obtain⟨l,G,H,rfl,q,A,S,L⟩:=J O d hl1;obtain⟨f1,a9,e,Q,X,f4⟩:=I.loc G H A;rw[P q];refine⟨f1,a9,e,Q,by rw[X,S],λj c u hc hu=>?_⟩
        have a1:j<H.length:=by rw[<- S];exact(qA.1 hc).1
        have N:=qB a1;obtain⟨f5,f6⟩:=f4 j _ u N hu;exact⟨f5,(L j _ c N hc).va f6 a2 a0⟩
       .intro O l2 d xs2 Y h2 he;obtain⟨l,G,H,rfl,q,A,_⟩:=J O d Y;obtain⟨s,s',ys,rfl,Q,X,_⟩:=J l2 xs2 h2;rw[P q,P Q]at he;have:=I.linj G s' H ys A X he;subst this;rw[b1 l s G q Q]
       .intro O d D y Y p;obtain⟨l,G,H,rfl,q,A,_⟩:=J O d Y;obtain⟨r,z,o,rfl,Q,X,_⟩:=b D y p;rw[P q,(F Q).2];exact I.lro G H z _ A X
       .intro D y e hr1 he;rw[<- hst]at hr1;obtain⟨_,_,_,_,_,_,S,_⟩:=q6 D y hr1;rw[S]at he;cases he
       .intro n R hn';rw[<- hst]at hn';obtain⟨r,z,o,rfl,q,_⟩:=q6 n R hn';exact W q
       .intro n d hn';obtain⟨l,G,H,rfl,q,A,S,L⟩:=J n d hn';refine⟨V q,λa ha m M=>?_⟩;obtain⟨j,hj⟩:=qV.1 ha;have a1:j<H.length:=by rw[<- S];exact(qA.1 hj).1
        obtain⟨k,v,rfl,C⟩:=(L j _ a (qB a1) hj).ids M;rcases C with C|C
        .exact W C
        .exact V C
       .intro m M n hn';rw[<- hst]at M;obtain⟨i,hi⟩:=qV.1 M;rcases q3 i m hi with h|⟨x,x1,_,rfl,hc⟩
        .rw [kH]at h;split at h
         .cases h;simp[MV.ids,zbL,zZ,At.ids,zby,zbG]at hn'
         .cases h
        .rw [zeo]at hn';obtain⟨k,v,rfl,C⟩:=(hc.mono e2).ids hn';rcases C with C|C
         .exact W C
         .exact V C
       .intro f hf m M n hn';rw[<- hst]at hf;obtain⟨k,v,rfl,C⟩:=zI5 a4 f hf m M n hn';rcases C with C|C
        .exact W C
        .exact V C
       .rw [<- hst]
        show ts.size=a3.length
        rw[q2,List.length_replicate,hn];exact hS.tm.1
       .intro i m v M hv;rw[<- hst]at M;rcases q3 i m M with h|⟨x,x1,N,rfl,hc⟩
        .rw [kH]at h;split at h
         .cases h;trivial
         .cases h
        .have:=hS.tm.2 i _ v N hv;exact(hc.mono e2).va this a2 a0
       .have e:st1.stk=stk0:=by rw[<- hst]
        rw[e];exact zP8 a2 a0 a4 hS.stk (a6 w st1 E)
     .cases h
    .cases h
   .cases h
  .cases h
 .cases h
end
section
variable {C:Cfg} {w0 w w1:World} {S0:zbd} {U:Nat->Prop} {st st1:St} {E E1:Env} {ts:Array Value} {sv:List (Array Value)}
structure DrawOk (C:Cfg):Prop where
 ok:∀(call:zh6),ztT C call->∀(ops:Array Oper) (k:St->Option Ans) (ans:Ans) (Q:Exit->Act->World->Prop) (w0:World) (S0:zbd) (sv:List (Array Value)) (U0:Nat->Prop) (nid0:Nat) (U:Nat->Prop) (st:St) (E:Env) (ts:Array Value) (w:World),
  (∀(U':Nat->Prop) (st':St) (E':Env) (ts':Array Value) (w':World),Sim w0 S0 U' st' E' ts' sv w'->(∀n,U' n->U0 n\/nid0<=n)->nid0<=st'.nid->(∀n,st'.nid<=n->¬ U' n)->k st'=some ans->Q .normal {tmps:=ts',defers:=[]} w')->
  Sim w0 S0 U st E ts sv w->(∀n,U n->U0 n\/nid0<=n)->(∀n,st.nid<=n->¬ U n)->nid0<=st.nid->
  zKq C call ops k st=some ans->
  ∀t,wpOps C.P ops Q (Region.schedule (C.P.follows .mixedOrders) ops t) {tmps:=ts,defers:=[]} {w with drawn:=w.drawn+1}
structure EngOk (C:Cfg):Prop where
 cfg:CfgOk C
 ctr:CtrOk C
 graft:GraftOk C
 name:NameOk C
 draw:DrawOk C
def z01:Ex->Exit
 |.normal=>.normal
 |.exit id=>.exit id
 |.ret=>.ret
def Sim.nid (b:Sim w0 S0 U st E ts sv w)(n:Nat):Sim w0 S0 U {st with nid:=n} E ts sv w:=by
 have T:Trans st E w {st with nid:=n} E w (λ_=>True):=⟨λ_ _ R h=>⟨R,h,rfl,λ_ _ h=>h⟩,λ_ _ f h=>⟨⟨f,h⟩,rfl⟩,rfl⟩;have a:=b.mem;exact⟨⟨a.os,a.tape,a.output,a.size,a.keep,a.rep,a.rlt,a.mine,a.frz,a.apart,
  λl f r=>by obtain⟨m,d,e,p,q,g⟩:=a.loc l f r;exact⟨m,d,e,p,q,λj c u i k=>⟨(g j c u i k).1,VA.tr T (λ_ _=>trivial) (g j c u i k).2⟩⟩,
  a.linj,a.lro,a.epo,a.κ⟩,⟨b.ids.ro,b.ids.lo,b.ids.tm,b.ids.stk⟩,az.tr T (λ_ _ _ _=>trivial) b.tm,Stack.tr T (λ_ _ _ _ _ _=>trivial) b.stk⟩
def Conts (f:Ans)(w0:World)(S0:zbd)(sv:List LV)(i:Nat->Prop)(b:Nat)(k:Ex->St->Option Ans)(Q:Exit->Act->World->Prop):Prop :=
 ∀(e:Ex) (d:Nat->Prop) (a:St) (h:Env) (c:LV) (g:World),Sim w0 S0 d a h c sv g->(∀n,d n->i n\/b<=n)->b<=a.nid->(∀n,a.nid<=n->¬ d n)->k e a=some f->Q (z01 e) {tmps:=c,defers:=[]} g
def Sound (C:Cfg)(tm:Nat->Option Tmpl)(N:Nat)(d:zh6)(b:Code):Prop :=
 ∀(k:Ex->St->Option Ans) (c:Ans) (Q:Exit->Act->World->Prop) (w0:World) (S0:zbd) (sv:List LV) (e:Nat->Prop) (a:Nat),Conts c w0 S0 sv e a k Q->
  ∀(U:Nat->Prop) (st:St) (E:Env) (ts:LV) (w:World),Sim w0 S0 U st E ts sv w->(∀n,U n->e n\/a<=n)->a<=st.nid->(∀n,st.nid<=n->¬ U n)->
   zjH C tm N d b st k=some c->b.wp C.P Q {tmps:=ts,defers:=[]} w
def z6e {tm:Nat->Option Tmpl}{N:Nat}{g:zh6}{c:Code}(hb:Sound C tm N g c)(id:Nat):Sound C tm N g (.block id<|.loop c):=by
 intro k z Q w0 S0 sv U0 p S U st E ts w hS hU hn hF h;simp only[zjH]at h;split at h;{cases h}
 .rename_i T hT;split at h;{cases h}
  .rename_i B0 y hcs;split at h;{cases h}
   .rename_i s0 hs0;generalize x:zv2 B0 st.nid st.stk=b at h;cases v:ziq B0 st.nid st.stk b with
    |false=>rw[v]at h;cases h
    |true=>
    rw[v,cond_true]at h;refine wp_block (wp_loop_rounds N ?_);have W:∀(w1:World) (st1:St) (E1:Env),Stack w1 st1 E1 (zPZ b) sv:=λw1 st1 E1=>by rw[<- x];exact zMd hS.stk
    have Z:∀(n:Nat) (s:Dat T.sig) (B:Bnd) (y:LC) (M:Nat->Prop) (st1:St) (E1:Env) (i:LV) (w1:World),Sim w0 S0 M st1 E1 i sv w1->T.takeB st1=some (B,y)->ziq B st.nid st1.stk b=true->unpack T.sig y=some s->
     q0 n (λrec s=>
      match T.put st.nid (packs T.sig s) with
      |none=>none
      |some st1=>zjH C tm N g c {st1 with stk:=b} λe a=>match e with
       |.normal=>match T.takeB a with
        |none=>none
        |some (I,q)=>match unpack T.sig q with
         |none=>none
         |some s'=>cond (ziq I st.nid a.stk b) (rec s') none
       |.exit l=>if l==id then k .normal a else k (.exit l) a
       |.ret=>k .ret a) s=some z->
     Code.rounds C.P c (Exit.inBlock id Q) n {tmps:=i,defers:=[]} w1:=by
     intro n
     induction n with
     |zero=>intro s B y M st1 E1 i w1 _ _ _ _ h;cases h
     |succ n ih=>
      intro s B y M st1 E1 i w1 O X A Y h;simp only[q0]at h;obtain⟨H,E2,G,R,a0⟩:=z0A O X st.nid (stk0:=b) W A;rw[znJ _ _ _ Y,G]at h;simp only at h;rw[rounds_succ];refine hb _ z _ w0 S0 sv U0 p ?_ _ _ E2 i w1 R (λn f=>.inr (by omega)) (by show p<=H.nid;omega) (λn f h=>by
       have:H.nid<=n:=f;omega) h
      intro e K a J m L j t f r d;cases e with|normal=>simp only at d;split at d;{cases d};{rename_i I q D;split at d;{cases d};{rename_i s' V;cases u:ziq I st.nid a.stk b with|false=>rw[u]at d;cases d|true=>rw[u,cond_true]at d;exact ih s' I q K a J m L j D u V d}}|exit l =>simp only at d;simp only[z01,Exit.then,Exit.inBlock];split at d;{rename_i F;simp only[qK]at F;rw[if_pos F];exact S .normal K a J m L j t f r d};{rename_i F;simp only[qK]at F;rw[if_neg F];exact S (.exit l) K a J m L j t f r d}|ret=>exact S .ret K a J m L j t f r d
    exact Z N s0 B0 y U st E ts w hS hcs v hs0 h
def z4v {tm:Nat->Option Tmpl}{N:Nat}{c:zh6}{id:Nat}{a:Code}(g:∀b,a≠.loop b)(st:St)(k:Ex->St->Option Ans) :
 zjH C tm N c (.block id a) st k=zjH C tm N c a st λe d=>match e with
  |.exit f=>if f==id then k .normal d else k (.exit f) d
  |e=>k e d:=by
 rw[zjH]
 .rfl
 .intro b hb;exact g b hb
def zfI {tm:Nat->Option Tmpl}{N:Nat}{l:zh6}{a:Code}(D:Sound C tm N l a)(v:∀b,a≠.loop b)(id:Nat):Sound C tm N l (.block id a):=by intro k u Q w0 S0 sv y p s U st E ts w A B F z h;rw[z4v v]at h;refine wp_block (D _ u _ w0 S0 sv y p ?_ U st E ts w A B F z h);intro e r i q j t d f g c m;cases e with|normal=>exact s .normal r i q j t d f g c m|exit x =>simp only at m;simp only[z01,Exit.inBlock];split at m;{rename_i n;simp only[qK]at n;rw[if_pos n];exact s .normal r i q j t d f g c m};{rename_i n;simp only[qK]at n;rw[if_neg n];exact s (.exit x) r i q j t d f g c m}|ret=>exact s .ret r i q j t d f g c m
def zdx (t:EngOk C){tm:Nat->Option Tmpl}{N:Nat}{M:zh6}(g:ztT C M):∀(a1:Code),Sound C tm N M a1
 |.skip=>by intro k r Q w0 S0 sv L m G U st E ts w H J K I h;simp only[zjH]at h;exact wp_skip (G .normal U st E ts w H J K I h)
 |.exit id=>by intro k r Q w0 S0 sv L m G U st E ts w H J K I h;simp only[zjH]at h;exact wp_exit (G (.exit id) U st E ts w H J K I h)
 |.ret=>by intro k r Q w0 S0 sv L m G U st E ts w H J K I h;simp only[zjH]at h;exact wp_ret (G .ret U st E ts w H J K I h)
 |.region id W false=>by
  intro k r Q w0 S0 sv L m G U st E ts w H J K I h;simp only[zjH,zUD]at h;refine wp_region (znz t.cfg t.ctr t.graft t.name g (base:=st.nid) (V:=λn=>L n\/m<=n) (λn q=>.inr q) (λS v R z P u F q D A=>G .normal S v R z P u F q D A)
   (List.range W.size) U _ E ts w (H.nid _) J (λn q=>I n (qT (uK _ _) q)) (λj _ n hm=>⟨I n (by have:=hm.1;omega),.inr (by have:=hm.1;omega)⟩) List.nodup_range (qT K<|uK _ _) (λj hj=>?_) h)
  have:=kR.1 hj;show st.nid+32*j+32<=st.nid+32*W.size;omega
 |.region id W true=>by intro k r Q w0 S0 sv L m G U st E ts w H J K I h;simp only[zjH,zUD]at h;exact wp_region_draw (t.draw.ok M g W _ r Q w0 S0 sv L m U st E ts w (λS v R z P u F q D A=>G .normal S v R z P u F q D A) H J I K h)
 |.seq a b=>by
  intro k r Q w0 S0 sv L m G U st E ts w H J K I h;simp only[zjH]at h;split at h;{refine wp_seq (zdx t g a _ r _ w0 S0 sv L m ?_ U st E ts w H J K I h);intro e S v R z P u F q D A;cases e with|normal=>exact zdx t g b k r Q w0 S0 sv L m G S v R z P u F q D A|exit Z=>exact G (.exit Z) S v R z P u F q D A|ret=>exact G .ret S v R z P u F q D A}
  .rename_i T hT;simp only[p0]at h;generalize Y:zSe T st=O at h;have a5:∀(w1:World) (st1:St) (E1:Env),Stack w1 st1 E1 (zPZ O) sv:=λw1 st1 E1=>by rw[<- Y];exact zMd H.stk
   refine wp_seq (zdx t g a _ r _ w0 S0 sv L m ?_ U st E ts w H J K I h);intro e S v R z P u F q D A;cases e with
   |normal=>
    simp only[zbb5]at A;split at A;{cases A}
    .rename_i B cs hcs;split at A;{cases A}
     .rename_i s hs;cases X:ziq B st.nid v.stk O with
      |false=>rw[X]at A;cases A
      |true=>
       rw[X,cond_true]at A;obtain⟨a3,E2,a2,a4,a6⟩:=z0A u hcs st.nid (stk0:=O) a5 X;simp only[zbb6]at A;rw[znJ _ _ _ hs,a2]at A;exact zdx t g b k r Q w0 S0 sv L m G _ _ E2 z P a4 (λn q=>.inr (by omega)) (by show m<=a3.nid;omega) (λn q h=>by
        have:a3.nid<=n:=q;omega) A
   |exit Z=>exact G (.exit Z) S v R z P u F q D A
   |ret=>exact G .ret S v R z P u F q D A
 |.cond c a b=>by intro k r Q w0 S0 sv L m G U st E ts w H J K I h;simp only[zjH]at h;split at h;{rename_i x hx;have hv:=(zbN H hx).1;simp only[VA]at hv;cases x with|true=>exact wp_cond_true hv (zdx t g a k r Q w0 S0 sv L m G U st E ts w H J K I h)|false=>exact wp_cond_false hv (zdx t g b k r Q w0 S0 sv L m G U st E ts w H J K I h)};{cases h}
 |.block id (.loop a0)=>z6e (zdx t g a0) id
 |.block id .skip=>zfI (zdx t g .skip) (λ_=>Code.noConfusion) id
 |.block id (.region i o d)=>zfI (zdx t g<|.region i o d) (λ_=>Code.noConfusion) id
 |.block id (.seq a b)=>zfI (zdx t g<|.seq a b) (λ_=>Code.noConfusion) id
 |.block id (.cond c a b)=>zfI (zdx t g<|.cond c a b) (λ_=>Code.noConfusion) id
 |.block id (.block i b)=>zfI (zdx t g<|.block i b) (λ_=>Code.noConfusion) id
 |.block id (.exit i)=>zfI (zdx t g<|.exit i) (λ_=>Code.noConfusion) id
 |.block id .ret=>zfI (zdx t g .ret) (λ_=>Code.noConfusion) id
 |.block id (.rangeFunc f p a b)=>zfI (zdx t g<|.rangeFunc f p a b) (λ_=>Code.noConfusion) id
 |.block id (.scope b)=>zfI (zdx t g<|.scope b) (λ_=>Code.noConfusion) id
 |.block id (.label l)=>zfI (zdx t g<|.label l) (λ_=>Code.noConfusion) id
 |.block id (.goto l)=>zfI (zdx t g<|.goto l) (λ_=>Code.noConfusion) id
 |.block id (.refuse y)=>zfI (zdx t g<|.refuse y) (λ_=>Code.noConfusion) id
 |.loop _ | .rangeFunc .. | .scope _ | .label _ | .goto _ | .refuse _=>by intro k r Q w0 S0 sv L m G U st E ts w H J K I h;simp[zjH]at h
def zFS (ts:LV):ResultVar->Sem Value
 |.tmp t=>pure (ts.getD t undef)
 |.cell a t=>do loadVar t (<- asAddr (ts.getD a undef))
def zuQ (R:CfgOk C)(s:Sim w0 S0 U st E ts sv w):∀(l:List ResultVar) (G:List TV),zlZ C st l=some G->
 ∃A:List Value,(l.mapM<|zFS ts).run C.P w = .ok A w/\G.length=A.length/\
  (∀(k:Nat) (x:TV) (u:Value),G[k]?=some x->A[k]?=some u->VT w st E x u)/\∀x∈G,∀a∈zZ x,∀n∈a.ids,U n
 |[],G,h=>by cases h;exact⟨[],by simp,rfl,λk x u h=>by simp at h,λx h=>by simp at h⟩
 |.tmp t::r,G,h=>by simp only[zlZ]at h;split at h;{rename_i x X J V;cases h;obtain⟨A,L,M,N,O⟩:=zuQ R s r X V;have p:t<ts.size:=(by rw[s.tm.1];exact(qA.1 J).1);have a0:ts.getD t undef=ts[t]:=(by simp[Array.getD,p]);refine⟨ts[t]::A,by simp[vF,zFS,L,p],by simp[M],λk y u c g=>?_,λy c a i n z=>?_⟩;{cases k with|zero=>simp at c g;subst c g;exact s.tm.2 t _ _ J (by simp[p])|succ k=>exact N k y u (by simpa using c) (by simpa using g)};{rcases qG.1 c with rfl|c;{exact s.ids.tm _ (qJ J) n (by simp only[MV.ids,zbL,qR];exact⟨a,i,z⟩)};{exact O y c a i n z}}};{cases h}
 |.cell t T::r,G,h=>by simp only[zlZ]at h;split at h;{rename_i l d H K X J hT V;obtain⟨A,L,M,N,O⟩:=zuQ R s r X V;obtain⟨W,_⟩:=zbN s J;have I:=R.cty T H K hT;split at h;{rename_i Q B;have F:=W.2 Q B;simp only[Act.eval]at F;obtain⟨_,f,e,Y,g2,Z⟩:=s.mem.loc l Q B;have v:=(s.ids.lo l Q B).2;split at h;{rename_i m;cases m;split at h;{rename_i a1;cases h;have q:=zrv (P:=C.P) (w:=w) I Y (by omega:d+K.length<=f.size);have D:ts[t]?.getD undef = .pointer (some ⟨E.β l,d,none⟩):=(by simpa using F);refine⟨_::A,by simp[vF,zFS,L,D,asAddr,q];rfl,by simp[M],λk y u c g=>?_,λy c a i n z=>?_⟩;{cases k with|zero=>simp at c g;subst c g;refine⟨_,rfl,by simp;omega,λj a u i g=>?_⟩;simp only[jP,jV]at i;simp only[jL,jP,jV,k6]at g;split at i;{rename_i hj;rw[if_pos hj]at g;exact Z (d+j) a u i g};{cases i}|succ k=>exact N k y u (by simpa using c) (by simpa using g)};{rcases qG.1 c with rfl|c;{exact v a (uA<|j8 i) n z};{exact O y c a i n z}}};{cases h}};{rename_i m;have:H=false:=(by simpa using m);subst this;split at h;{rename_i a i;cases h;have p:d<f.size:=(by rw[g2];exact(qA.1 i).1);have hv:f[d]?=some f[d]:=(by simp[p]);have q:=zrx (P:=C.P) (w:=w) I Y hv;have D:ts[t]?.getD undef = .pointer (some ⟨E.β l,d,none⟩):=(by simpa using F);refine⟨f[d]::A,by simp[vF,zFS,L,D,asAddr,q],by simp[M],λk y u c g=>?_,λy c b S n z=>?_⟩;{cases k with|zero=>simp at c g;subst c g;exact(Z d a _ i hv).2|succ k=>exact N k y u (by simpa using c) (by simpa using g)};{rcases qG.1 c with rfl|c;{simp only [zZ,qF]at S;subst S;exact v _ (qJ i) n z};{exact O y c b S n z}}};{cases h}}};{cases h}};{cases h}
def zbdN (a:List Value):(if h:a.toArray.size=1 then a.toArray[0] else Value.tuple a.toArray)=zmk a:=by
 match a with
 |[]=>rfl
 |[x]=>rfl
 |x::y::l=>simp[zmk]
def z18 (m:CfgOk C)(p:Sim w0 S0 U st E ts sv w){c:Func}{f:List TV}(h:zlZ C st c.results.toList=some f) :
 ∃b:List Value,(results c ts).run C.P w = .ok (zmk b) w/\VM w st E (zj9 f) (zmk b)/\(∀n∈(zj9 f).ids,U n):=by
 obtain⟨b,i,j,k,l⟩:=zuQ m p _ f h;refine⟨b,?_,zsQ j k,λn d=>?_⟩
 .have e:results c ts=(do let b <- c.results.mapM (zFS ts);pure (if h:b.size=1 then b[0] else .tuple b)):=by unfold results;congr 1
  rw[e];simp only[Array.mapM_eq_mapM_toList,Sem.run_bind,Sem.run_map,i]
  show Result.ok _ w=Result.ok _ w
  rw[<- zbdN]
 .simp only [MV.ids,qR]at d;obtain⟨a,g,d⟩:=d;obtain⟨x,q,g⟩:=zsP g;exact l x q a g n d
end
section
variable {C:Cfg} {w0 w w1:World} {S0:zbd} {U:Nat->Prop} {st st1:St} {E E1:Env} {ts:Array Value} {sv:List (Array Value)}
def zmW (hO:EngOk C){tms:FuncId->Nat->Option Tmpl}{N:Nat}{s:zh6}(B:ztT C s):ztT C (zxG C tms N s):=by
 intro f K st k G h w0 S0 U E ts sv w d R A hF Z hv hi hk;unfold zxG at h;split at h
 .rename_i fn t;split at h
  .rename_i body hb;refine ⟨⟨fn,body,t,hb⟩,calls_of_wp t hb ?_⟩;have S:Sim w0 S0 U { st with tm:=K++List.replicate (fn.ntmps-K.length) .und,stk:=st.tm :: st.stk } E (d++Array.replicate (fn.ntmps-d.size) undef) (ts :: sv) w:=by
    have T:Trans st E w {st with tm:=K++List.replicate (fn.ntmps-K.length) .und,stk:=st.tm::st.stk} E w (fun _=>True):=⟨fun _ _ R h=>⟨R,h,rfl,fun _ _ h=>h⟩,fun _ _ x h=>⟨⟨x,h⟩,rfl⟩,rfl⟩;have a:=A.mem;refine⟨⟨a.os,a.tape,a.output,a.size,a.keep,a.rep,a.rlt,a.mine,a.frz,a.apart,
     fun l x W=>by obtain⟨O,d,e,y,H,z⟩:=a.loc l x W;exact⟨O,d,e,y,H,fun j c u I J=>⟨(z j c u I J).1,VA.tr T (fun _ _=>trivial) (z j c u I J).2⟩⟩,
     a.linj,a.lro,a.epo,a.κ⟩,⟨A.ids.ro,A.ids.lo,fun m b n r=>?_,fun f t m b n r=>?_⟩,⟨?_,fun i m v b p=>?_⟩,az.tr T (fun _ _ _ _=>trivial) A.tm,Stack.tr T (fun _ _ _ _ _ _=>trivial) A.stk⟩
    {rcases jK.1 b with b|b;{exact hi m b n r};{have:=(List.mem_replicate.1 b).2;subst this;simp[MV.ids,zbL]at r}};{rcases qG.1 t with rfl|t;{exact A.ids.tm m b n r};{exact A.ids.stk f t m b n r}};{simp [Z]};{simp only at b;by_cases X:i<K.length;{rw [qW X]at b;rw[kE (by omega)]at p;exact VM.tr T (fun _ _=>trivial) (hv i m v b p)};{rw [qU (by omega),kH]at b;rw[kO (by omega),Array.getElem?_replicate]at p;split at b;{cases b;split at p;{cases p;rfl};{cases p}};{cases b}}}
   refine zdx hO B body _ G _ w0 S0 (ts::sv) U st.nid ?_ U _ E _ w S (fun n r=>.inl r) (qX _) hF h;intro e U' q L a0 F g V Y Q M;have done:(match zlZ C q fn.results.toList,q.stk with
    |some rs,tm::stk=>k rs {q with tm,stk}
    |_,_=>none)=some G->([]:List Deferred)=[]/\∃v,(results fn a0).run C.P F = .ok v F/\R v F:=by
    intro y;split at y
    .rename_i rs tm stk hrs hstk;obtain ⟨us,H,z,h5⟩:=z18 hO.cfg g hrs;refine ⟨rfl,zmk us,H,?_⟩;have T:Trans q L F { q with tm,stk } L F (fun _=>True):=⟨fun _ _ R h=>⟨R,h,rfl,fun _ _ h=>h⟩,fun _ _ x h=>⟨⟨x,h⟩,rfl⟩,rfl⟩;have a:=g.mem;have D:=g.stk;rw[hstk]at D;refine hk U' { q with tm,stk } L F rs (zmk us) ⟨⟨a.os,a.tape,a.output,a.size,a.keep,a.rep,a.rlt,a.mine,a.frz,a.apart,
      fun l x W=>by obtain⟨O,d,e,y,H,z⟩:=a.loc l x W;exact⟨O,d,e,y,H,fun j c u I J=>⟨(z j c u I J).1,VA.tr T (fun _ _=>trivial) (z j c u I J).2⟩⟩,
      a.linj,a.lro,a.epo,a.κ⟩,⟨g.ids.ro,g.ids.lo,fun m b n r=>g.ids.stk tm (by rw[hstk];simp) m b n r,fun f t m b n r=>g.ids.stk f (by rw[hstk];exact qZ _ t) m b n r⟩,
      az.tr T (fun _ _ _ _=>trivial) D.1,Stack.tr T (fun _ _ _ _ _ _=>trivial) D.2⟩ V Y Q (VM.tr T (fun _ _=>trivial) z) h5 y
    .cases y
   cases e with|normal=>exact done M|exit id=>cases M|ret=>exact done M
  {cases h}
 {cases h}
def zQB (B:Sim w0 S0 U st E ts sv w):∀(q:List MV) (j:LA) (d:List Value),zcR st.avOf q=some j->d.length=q.length->(∀(i:Nat) (m:MV) (v:Value),q[i]?=some m->d[i]?=some v->VM w st E m v)->
 ∃t,zeb false w (zI j) t (λ_ b=>b<w.heap.size)/\d=zb6 j t
 |[],j,d,h,n,_=>by cases h;have:d=[]:=uU.1 n;subst this;exact⟨[],⟨rfl,λi c x h=>by simp[zI]at h⟩,rfl⟩
 |M::r,j,[],h,n,_=>by simp at n
 |M::r,j,x::d,h,n,K=>by simp only[zcR]at h;split at h;{rename_i S f;split at h;{rename_i g R;cases h;obtain⟨t,s,J⟩:=zQB B r g d R (by simpa using n) (λi m v A H=>K (i+1) m v (by simpa using A) (by simpa using H));have L:=K 0 M x rfl rfl;unfold St.avOf at f;split at f;{rename_i a;split at f;{rename_i c O;cases f;obtain⟨A,H⟩:=zvn B O L;refine⟨x::t,?_,by simp[zb6,J]⟩;have e:zI (AV.one c::g)=[c]++zI g:=(by simp[zI,AV.cvs]);rw[e];refine zeb.append (x1:=[x]) ⟨rfl,λi N u k y=>?_⟩ s;cases i with|zero=>simp at k y;subst k y;exact A|succ i=>simp at k};{cases f}};{rename_i l;split at f;{rename_i z C;cases f;obtain⟨q,F,D,G⟩:=L;obtain⟨n,P⟩:=zpi C;have p:q.toList.length=z.length:=(by simp[D,n]);refine⟨q.toList++t,?_,?_⟩;{have e:zI (AV.agg z::g)=z++zI g:=(by simp[zI,AV.cvs]);rw[e];refine zeb.append ⟨p,λi N u k y=>?_⟩ s;have Q:i<l.length:=(by rw[n];exact(qA.1 k).1);have I:=qB Q;exact(zvn B (P i _ _ I k) (G i _ u I (by simpa using y)).2).1};{simp only [zb6,F,<- p,kU,uE,J,jX]}};{cases f}};{cases f}};{cases h}};{cases h}
def z1h (hH:CtrOk C){f:FuncId}{L:LW}(hf:C.ctr f=some L)(Z:List MV)(st:St)(k:List TV->St->Option Ans)(N:Ans)(h:z4g f Z st k L=some N) :
 ∀(w0:World) (S0:zbd) (U:Nat->Prop) (E:Env) (ts:LV) (sv:List LV) (w:World) (g:LV) (R:Value->World->Prop),Sim w0 S0 U st E ts sv w->(∀n,st.nid<=n->¬ U n)->
  g.size=Z.length->(∀(i:Nat) (m:MV) (v:Value),Z[i]?=some m->g[i]?=some v->VM w st E m v)->(∀m∈Z,∀n∈m.ids,U n)->
  (∀(U':Nat->Prop) (z:St) (E':Env) (A:World) (d:List TV) (v:Value),Sim w0 S0 U' z E' ts sv A->(∀n,U' n->U n\/st.nid<=n)->st.nid<=z.nid->(∀n,z.nid<=n->¬ U' n)->
   VM A z E' (zj9 d) v->(∀n∈(zj9 d).ids,U' n)->k d z=some N->R v A)->
  (∃fn b,C.P.funcs[f]?=some fn/\fn.body=some b)/\Calls C.P f g w λ| .returned v,A=>R v A|_,_=>False:=by
 intro w0 S0 U E ts sv w g R H hF a8 hv hi hk;unfold z4g at h;split at h
 .rename_i avs I;split at h
  .rename_i c d hr;split at h
   .rename_i W;cases S:c with
    |false=>rw[S]at h;cases h
    |true=>
     rw[S]at h hr;simp only[cond_true]at h;have W:(zI d).length<=31:=W;obtain⟨⟨fn,b,a5,hb,a7⟩,hH⟩:=hH.ok f L hf;refine⟨⟨fn,b,a5,hb⟩,?_⟩;obtain⟨xs,a9,y⟩:=zQB H Z avs g.toList I (by simpa using a8) (λi m v G F=>hv i m v G (by simpa using F));have J:g=(zb6 avs xs).toArray:=by rw[<- y,jX]
     rw[J];refine(hH w avs xs d a9 hr).mono ?_;intro e A he;cases e with
     |panicked a1=>exact he.elim
     |outgrown=>exact he.elim
     |returned v=>
      obtain⟨hg,M,K,D,rfl,V⟩:=he;generalize b0:st.nid=id at *;have O:∀n,(id<=n/\n<id+31)->¬ U n:=λn h=>hF n h.1;obtain⟨hM,hT⟩:=H.mem.addRootsO H.ids.mem (dro:=zdy (zdj f) d id) (w1:=A)
       (E1:={E with ρ:=λn=>if id<=n/\n<id+31 then (M[n-id]?).getD undef else E.ρ n,φ:=λn=>if id<=n/\n<id+31 then (λx=>n-id<(zI d).length/\K (n-id) x) else E.φ n})
       hg.os hg.tape hg.output hg.size hg.keep (λr R hR=>by
        obtain⟨G,t,l,F,rfl⟩:=zgx (zdj f) d id r R hR;have q:r-id<(zI d).length:=(qA.1 F).1;have y:id<=r/\r<id+31:=⟨G,by omega⟩
        have hy:r-id<M.length:=by rw[D.1];exact q
        refine⟨O r y,rfl,?_,λx B=>?_⟩
        .simp only [if_pos y,qB hy,kC];exact(D.2 _ _ _ F<|qB hy).weak (λx B=>⟨q,B⟩)
        .simp only [if_pos y]at B;exact V.lt _ x q B.2)
       (λr R r' R' G ho F b1 x B Y=>by
        obtain⟨g1,t,l,g2,rfl⟩:=zgx (zdj f) d id r R G;obtain⟨a2,t',l',a3,rfl⟩:=zgx (zdj f) d id r' R' F;have q:r-id<(zI d).length:=(qA.1 g2).1;have X:r'-id<(zI d).length:=(qA.1 a3).1;have y:id<=r/\r<id+31:=⟨g1,by omega⟩
        have a6:id<=r'/\r'<id+31:=⟨a2,by omega⟩
        simp only[if_pos y]at B;simp only[if_pos a6]at Y;have:=V.dis _ _ _ x g2 ho X B.2 Y.2;omega)
       (λn j=>by
        have y:¬ (id<=n/\n<id+31):=λh=>O n h j;simp only[if_neg y];exact⟨trivial,trivial,trivial⟩)
      obtain⟨g1,g2⟩:=ziH (w:=A) (st:={st with ro:=zdy (zdj f) d id++st.ro}) (E:={E with ρ:=λn=>if id<=n/\n<id+31 then (M[n-id]?).getD undef else E.ρ n,φ:=λn=>if id<=n/\n<id+31 then (λx=>n-id<(zI d).length/\K (n-id) x) else E.φ n})
       d M id D.1 (λi c u S hu=>by
        have p:=D.2 i c u S hu;refine⟨?_,p.one⟩;have q:i<(zI d).length:=(qA.1 S).1;cases c with
        |i k n=>exact p.int_inv
        |b x=>exact p.bool_inv
        |s t l=>
         obtain⟨⟨a,a0,hv,_⟩,_⟩:=p.len;refine⟨⟨a,_,a0,hv⟩,λR hR=>?_⟩;have y:id<=id+i/\id+i<id+31:=⟨by omega,by omega⟩
         have e:id+i-id=i:=by omega
         simp only[zbg,if_pos y,e,hu,kC])
      have hN:=Sim.next (dst:=none) (mv:=.und) (v:=undef) (U1:=λn=>U n\/(id<=n/\n<id+31)) H hM hT rfl rfl (λn h=>.inl h) (λn R h=>by
       simp only[zbM]at h;split at h
       .rename_i Q hQ;obtain⟨G,t,l,F,_⟩:=zgx (zdj f) d id n Q hQ;have q:n-id<(zI d).length:=(qA.1 F).1;exact .inr ⟨G,by omega⟩
       .exact .inl (H.ids.ro n R h))
       (λn cs j=>⟨.inl (H.ids.lo n cs j).1,λa I m y=>.inl ((H.ids.lo n cs j).2 a I m y)⟩) rfl (λn j=>by simp[MV.ids,zbL]at j)
      have a4:=hN.nid (id+32);have T:Trans {st with ro:=zdy (zdj f) d id++st.ro} {E with ρ:=λn=>if id<=n/\n<id+31 then (M[n-id]?).getD undef else E.ρ n,φ:=λn=>if id<=n/\n<id+31 then (λx=>n-id<(zI d).length/\K (n-id) x) else E.φ n} A
       {st with ro:=zdy (zdj f) d id++st.ro,nid:=id+32} {E with ρ:=λn=>if id<=n/\n<id+31 then (M[n-id]?).getD undef else E.ρ n,φ:=λn=>if id<=n/\n<id+31 then (λx=>n-id<(zI d).length/\K (n-id) x) else E.φ n} A (λ_=>True):=⟨λ_ _ R h=>⟨R,h,rfl,λ_ _ h=>h⟩,λ_ _ cs h=>⟨⟨cs,h⟩,rfl⟩,rfl⟩
      refine hk _ _ _ _ (zdw d id) _ a4 (λn h=>h.imp (λx=>x) λh=>h.1) (by show id<=id+32;omega) (λn j h=>?_) (VM.tr T (λ_ _=>trivial)<|zsQ g1 g2) (λn j=>?_) h;{have j:id+32<=n:=j;rcases h with h|h;{exact hF n (by omega) h};{omega}};{simp only [MV.ids,qR]at j;obtain⟨a,I,j⟩:=j;obtain⟨x,B,I⟩:=zsP I;have:=zgy d id n x a B I j;exact .inr ⟨this.1,by omega⟩}
   .cases h
  .cases h
 .cases h
def zll (b:EngOk C){tms:FuncId->Nat->Option Tmpl}{N:Nat}:∀D,ztT C (ztU C tms N D)
 | 0=>λf c st k a h=>by cases h
 |D+1=>λf c st k a h=>by simp only[ztU]at h;split at h;{rename_i e d;exact z1h b.ctr d c st k a h};{exact zmW b (zll b D) f c st k a h}
def Given.append {x1 z:List At}{u v:LC}{q s:List Nat}(f:Given st x1 u q)(i:Given st z v s)(w:∀k∈q,k∉s):Given st (x1++z) (u++v) (q++s):=by have mem:∀{x:List At} {c:LC} {t:List Nat},Given st x c t->∀{k r:Nat},x[k]?=some (At.sl r [])->r∈t:=(by intro x c t A k r e;rcases A.get k _ e with⟨_,_,h,_⟩|⟨_,h,_⟩|⟨D,_,h,_,B,_⟩;{cases h};{cases h};{cases h;exact B});refine⟨by simp[f.len,i.len],λr C=>(jK.1 C).elim (f.own r) (i.own r),λk a j=>?_,λk y r e b=>?_⟩;{by_cases d:k<x1.length;{rw [qW d]at j;rw[qW (by rw[f.len];exact d)];rcases f.get k a j with h|h|⟨r,R,l,m,n,p⟩;{exact .inl h};{exact .inr (.inl h)};{exact .inr (.inr ⟨r,R,l,m,by simp[n],p⟩)}};{rw [qU (by omega)]at j;rw[qU (by rw[f.len];omega),f.len];rcases i.get _ a j with h|h|⟨r,R,l,m,n,p⟩;{exact .inl h};{exact .inr (.inl h)};{exact .inr (.inr ⟨r,R,l,m,by simp[n],p⟩)}}};{by_cases d:k<x1.length<;>by_cases g:y<x1.length;{rw [qW d]at e;rw[qW g]at b;exact f.inj k y r e b};{rw [qW d]at e;rw[qU (by omega)]at b;exact absurd (mem i b) (w r<|mem f e)};{rw [qU (by omega)]at e;rw[qW g]at b;exact absurd (mem i e) (w r<|mem f b)};{rw [qU (by omega)]at e;rw[qU (by omega)]at b;have:=i.inj _ _ r e b;omega}}
def zkR:∀(l:List TV) (seen:List Nat) (I:Ans) (i:List Value),ztb st l seen=some I->l.length=i.length->(∀(k:Nat) (x:TV) (u:Value),l[k]?=some x->i[k]?=some u->VT w st E x u)->
 ∃(f:List At) (v:List Value) (A:List Nat),Given st f (zI I) A/\v.length=f.length/\(∀(k:Nat) (a:At) (u:Value),f[k]?=some a->v[k]?=some u->VA w st E a u)/\i=zb6 I v/\(∀k∈A,k∉seen)/\f=l.flatMap zZ
 |[],seen,I,i,h,C,_=>by
  cases h;cases i with
  |nil=>exact⟨[],[],[],⟨rfl,λr W=>by simp at W,λk a h=>by simp at h,λk X r h=>by simp at h⟩,rfl,λk a u h=>by simp at h,rfl,λk h=>by simp at h,rfl⟩
  |cons u i=>simp at C
 |x::r,seen,I,i,h,C,T=>by
  cases i with
  |nil=>simp at C
  |cons u i=>have G:=T 0 x u rfl rfl;have H:∀(k:Nat) (y:TV) (z:Value),r[k]?=some y->i[k]?=some z->VT w st E y z:=λk y z U V=>T (k+1) y z (by simpa using U) (by simpa using V);rcases x with a|S;{simp only [ztb]at h;split at h;{rename_i c A hg;split at h;{rename_i d;split at h;{rename_i t q;cases h;obtain⟨_,J⟩:=zqD _ _ _ _ _ hg;obtain⟨f,v,s,L,M,N,O,B,P⟩:=zkR r _ t i q (by simpa using C) H;refine⟨a::f,u::v,A++s,?_,by simp[M],λk b z n m=>?_,by simp[zb6,O],λk g=>?_,by simp[P,zZ]⟩;{have e:zI (AV.one c::t)=[c]++zI t:=(by simp[zI,AV.cvs]);rw[e];exact Given.append (x1:=[a]) J L (λk g p=>B k p (j9 _ g))};{cases k with|zero=>simp at n m;subst n m;exact G|succ k=>exact N k b z (by simpa using n) (by simpa using m)};{rcases jK.1 g with g|g;{simp only [qP,jE,jN,decide_eq_false_iff_not]at d;exact d k g};{exact λh=>B k g (kK _ h)}}};{cases h}};{cases h}};{cases h}};{simp only [ztb]at h;split at h;{rename_i K A hg;split at h;{rename_i d;split at h;{rename_i t q;cases h;obtain⟨_,J⟩:=zqD _ _ _ _ _ hg;obtain⟨f,v,s,L,M,N,O,B,P⟩:=zkR r _ t i q (by simpa using C) H;obtain⟨R,rfl,j,Q⟩:=G;have D:R.toList.length=K.length:=(by rw[J.len];simpa using j);refine⟨S++f,R.toList++v,A++s,?_,by simp[M,j],λk b z n m=>?_,?_,λk g=>?_,by simp[P,zZ]⟩;{have e:zI (AV.agg K::t)=K++zI t:=(by simp[zI,AV.cvs]);rw[e];exact Given.append J L (λk g p=>B k p (j9 _ g))};{by_cases F:k<S.length;{rw [qW F]at n;rw[qW (by simp[j];exact F)]at m;exact(Q k b z n (by simpa using m)).2};{rw [qU (by omega)]at n;rw[qU (by simp[j];omega)]at m;have e:R.toList.length=S.length:=(by simp[j]);rw[e]at m;exact N _ b z n m}};{simp only [zb6,<- D,kU,uE,<- O,jX]};{rcases jK.1 g with g|g;{simp only [qP,jE,jN,decide_eq_false_iff_not]at d;exact d k g};{exact λh=>B k g (kK _ h)}}};{cases h}};{cases h}};{cases h}}
def zAR {l:List TV}{v:Value}(h:VM w st E (zj9 l) v):∃i:List Value,v=zmk i/\l.length=i.length/\∀(k:Nat) (x:TV) (u:Value),l[k]?=some x->i[k]?=some u->VT w st E x u:=by
 match l,h with
 |[],h=>obtain⟨d,rfl,c,_⟩:=h;have:d = #[]:=Array.eq_empty_of_size_eq_zero (by simpa using c);subst this;exact⟨[],rfl,rfl,fun k x u h=>by simp at h⟩
 |[x],h=>exact⟨[v],rfl,rfl,fun k y u g e=>by
  cases k with
  |zero=>simp at g e;subst g e;exact h
  |succ k=>simp at g⟩
 |x::y::l,h=>
  obtain⟨d,rfl,c,j⟩:=h;refine⟨d.toList,?_,by simp[c],fun k z u m e=>j k z u m (by simpa using e)⟩
  match f:d.toList,c with
  | [],c=>have:d.toList.length=0:=by rw[f];rfl
          simp[c] at this
  | [a],c=>have:d.toList.length=1:=by rw[f];rfl
           simp[c] at this
  |a::b::r,_=>simp only[zmk];rw[<- f,jX]
def zl6 {f:Bool}{r:Nat}{b:Root}(h:(st.thaw f).root r=some b):∃R,st.root r=some R/\b.t=R.t/\(b=R\/(f=true/\zGI R.t=true/\R.ep=none/\b={R with own:=true})):=by cases f with|false=>exact⟨b,h,rfl,.inl rfl⟩|true=>obtain⟨i,c⟩:=zbD h;have j:∀l:List (Nat×Root),zy (l.map λx=>(x.1,zGX x.2)) r=some b->∃R,zy l r=some R/\b=zGX R:=(by intro l;induction l with|nil=>intro h;cases h|cons a l m=>obtain⟨k,v⟩:=a;intro h;simp only[jG,zy]at h ⊢;split at h;{rename_i e;rw[if_pos e];cases h;exact⟨v,rfl,rfl⟩};{rename_i e;rw[if_neg e];exact m h});obtain⟨R,g,rfl⟩:=j st.ro i;have c:(zGX R).ep=none\/(zGX R).ep=some st.ep:=c;unfold zGX at c ⊢;(cases d:zGI R.t&&R.ep.isNone with|false=>rw[d]at c;exact⟨R,zg5 g c,rfl,.inl rfl⟩|true=>rw[d]at c;simp only[qE,jZ]at d;exact⟨R,zg5 g<|.inl d.2,rfl,.inr ⟨rfl,d.1,d.2,rfl⟩⟩)
def zQg (c:Bool):Trans st E w (st.thaw c) E w (λ_=>True):=
 ⟨λr _ f b=>by
  obtain⟨R,d,e,_⟩:=zl6 b;exact⟨R,d,e,λp u h=>h⟩,λl _ a b=>⟨⟨a,by cases c<;>exact b⟩,rfl⟩,rfl⟩
def zZA {f:FuncId}{t:Ty}{l:List t.den}(b:zka f=true)(a:zGI t=true):zrp f (.s t l)=false:=by simp[zrp,zdj,b,a]
def z3r {f:FuncId}{j:List At}{z:LC}{K:List Nat}(F:Mem w0 S0 st E w)(A:Given (st.thaw<|zka f) j z K){k:Nat}{a:At}{c:CV}{u:Value}(G:j[k]?=some a)(p:z[k]?=some c)(v:VA w st E a u):Rep (zrp f c) w u c (aφ E a):=by rcases A.get k a G with⟨L,n,rfl,h⟩|⟨x,rfl,h⟩|⟨r,y,rfl,m,H,h⟩;{rw [p]at h;cases h;cases v;exact .i _ _ _};{rw [p]at h;cases h;cases v;exact .b _ _};{rw [p]at h;cases h;obtain⟨D,d,J⟩:=A.own r H;rw[m]at d;cases d;obtain⟨R,B,_,e⟩:=zl6 m;have:=v.2 R B;simp only[zbg,qC] at this;subst this;have g:=F.rep r R B;rcases e with rfl|⟨I,q,_,rfl⟩;{rw [J]at g;cases zrp f (.s y.t y.l) with|true=>exact g|false=>exact g.ro};{rw [zZA I q];cases C:R.own with|true=>rw[C]at g;exact g.ro|false=>rw[C]at g;exact g}}
def z5d {t:Ty}(h:zGI t=true):t.flat=false:=by cases t<;>first|rfl|cases h
def z7Y {f:FuncId}{e:List At}{t:LC}{D:List Nat}(C:zka f=true->¬ S0 w0.heap.size)(i:Mem w0 S0 st E w)(m:Given (st.thaw<|zka f) e t D){k:Nat}{a:At}{x:Nat}(u:e[k]?=some a)(c:aφ E a x):(S0 x\/w0.heap.size<=x)/\x<w.heap.size:=by rcases m.get k a u with⟨F,n,rfl,h⟩|⟨y,rfl,h⟩|⟨r,q,rfl,g,z,h⟩;{exact c.elim};{exact c.elim};{obtain⟨s,b,B⟩:=m.own r z;rw[g]at b;cases b;obtain⟨R,j,_,d⟩:=zl6 g;have c:E.φ r x:=c;refine⟨?_,i.rlt r R j x c⟩;rcases d with rfl|⟨A,l,v,rfl⟩;{exact(i.mine r q j B).2 x c};{cases p:R.own with|true=>exact(i.mine r R j p).2 x c|false=>exact i.frz (C A) r R j p v (z5d l) x c}}
def z3q {f:FuncId}{m:List At}{J:LC}{Z:List Nat}(L:Mem w0 S0 st E w)(s:Given (st.thaw<|zka f) m J Z){i j:Nat}{a b:At}{c:CV}{x:Nat}(M:m[i]?=some a)(N:m[j]?=some b)(W:J[i]?=some c)(Q:zrp f c=true)(A:aφ E a x)(d:aφ E b x):i=j:=by rcases s.get i a M with⟨Y,n,rfl,h⟩|⟨y,rfl,h⟩|⟨r,R1,rfl,u,X,h⟩;{exact A.elim};{exact A.elim};{rcases s.get j b N with⟨Y,n,rfl,K⟩|⟨y,rfl,K⟩|⟨q,T,rfl,v,D,K⟩;{exact d.elim};{exact d.elim};{obtain⟨S,k,F⟩:=s.own r X;rw[u]at k;cases k;obtain⟨U,l,G⟩:=s.own q D;rw[v]at l;cases l;obtain⟨R,V,_,p⟩:=zl6 u;obtain⟨I,t,_,g⟩:=zl6 v;have A:E.φ r x:=A;have d:E.φ q x:=d;have B:R.own=true:=(by rcases p with rfl|⟨P,z,O,rfl⟩;{exact F};{rw [W]at h;cases h;rw[zZA P z]at Q;cases Q});have C:I.ep=none:=(by rcases g with rfl|⟨P,z,O,rfl⟩;{exact(L.mine q T t G).1};{exact O});have H:r=q:=(by by_cases e:r=q;{exact e};{exact absurd d (L.apart r R q I V B t C e x A)});subst H;exact s.inj i j r M N}}
def aC (w0:World)(S0:zbd)(w:World)(c:CV)(u:Value):Prop:=∃K:zbd,Rep false w u c K/\∀x,K x->(S0 x\/w0.heap.size<=x)/\x<w.heap.size
def zCP (hO:EngOk C){f:FuncId}{a5:LW}(hf:FnOk C.P f)(h:∀(d:LA) (J:LA),(∃w S,zeb false w (zI d) S λ_ b=>b<w.heap.size)->a5 d=some (true,J)->∃tms N D,evalFn C tms N D f d=some J):Holds C.P f a5:=by
 refine⟨hf,λw d S J z a2=>?_⟩;obtain⟨tms,N,D,G⟩:=h d J ⟨w,S,z⟩ a2;unfold evalFn at G;cases O:zka f && !(zsJ d) with
 |true=>rw[O]at G;cases G
 |false=>
 rw[O,cond_false]at G;have q:∀(r:Nat) (R:Root),zy (zdy zwS d 0) r=some R->∃t l,(zI d)[r]?=some (.s t l)/\R=⟨t,l,false,none⟩:=(by intro r R y;obtain⟨_,t,l,h2,h3⟩:=zgx zwS d 0 r R y;exact⟨t,l,by simpa using h2,h3⟩);generalize g:({tm:=[],lo:=[],ro:=zdy zwS d 0,stk:=[],nid:=(d.flatMap AV.cvs).length,ep:=0}:St)=st at G;have Q:∀(r:Nat) (R:Root),st.root r=some R->∃t l,(zI d)[r]?=some (.s t l)/\R=⟨t,l,false,none⟩:=(by intro r R y;have:=(zbD y).1;rw[<- g] at this;exact q r R this);have M:∀l,zy st.lo l=none:=λl=>(by rw[<- g];rfl);let E:Env:={ρ:=λn=>(S[n]?).getD undef,φ:=λ_ b=>b<w.heap.size,β:=λ_=>0,κ:=w}
 have hS:Sim w (λx=>zka f=false/\x=w.heap.size) (λn=>n<(zI d).length) st E #[] [] w:=by
  refine⟨⟨rfl,rfl,rfl,qX _,λ_ _ _=>rfl,λr R y=>?_,λr R _ x p=>p,λr R y ho=>?_,λhz r R y ho Y b2=>?_,λr R r' R' y ho=>?_,λl cs U=>?_,λl l' cs c4 U=>?_,λl cs r R U=>?_,λr R e y Y=>?_,rfl⟩,⟨λn R I=>?_,λn cs I=>?_,λm F=>?_,λf hf=>?_⟩,⟨?_,λi m v F=>?_⟩,?_⟩;{obtain⟨t,l,H,rfl⟩:=Q r R y;have b5:r<S.length:=(by rw[z.1];exact(qA.1 H).1);have p:=qB b5;show Rep false w ((S[r]?).getD undef) (.s t l) _;rw[p];exact z.2 r _ _ H p};{obtain⟨t,l,H,rfl⟩:=Q r R y;cases ho}
  .obtain⟨t,l,H,rfl⟩:=Q r R y;exfalso;cases hq:zka f with
   |false=>exact hz ⟨hq,rfl⟩
   |true=>
    rw[hq,uN]at O;have b1:zsJ d=true:=(by simpa using O);have:=qP.1 b1 (.s t l) (qJ H);simp only at this;rw[show t.flat=false from b2] at this;cases this
  {obtain⟨t,l,H,rfl⟩:=Q r R y;cases ho};{rw [M]at U;cases U};{rw [M]at U;cases U};{rw [M]at U;cases U};{rw [<- g]at y;obtain⟨t,l,H,rfl⟩:=q r R y;cases Y};{rw [<- g]at I;obtain⟨t,l,H,_⟩:=q n R I;exact(qA.1 H).1};{rw [M]at I;cases I};{rw [<- g]at F;simp at F};{rw [<- g]at hf;simp at hf};{rw [<- g];rfl};{rw [<- g]at F;simp at F};{rw [<- g];trivial}
 obtain⟨b3,b4⟩:=ziH (w:=w) (st:=st) (E:=E) d S 0 z.1 (λi c u hc hu=>by
  have hr:=z.2 i c u hc hu;refine⟨?_,hr.one⟩;cases c with
  |i k n=>exact hr.int_inv
  |b x=>exact hr.bool_inv
  |s t l=>
   obtain⟨⟨a,a7,hv,_⟩,_⟩:=hr.len;refine⟨⟨a,_,a7,hv⟩,λR y=>?_⟩;have e:0+i=i:=by omega
   show some ((S[0+i]?).getD undef)=some u
   rw[e,hu];rfl)
 have c3:st.nid=(zI d).length:=by rw[<- g];rfl
 obtain⟨_,L⟩:=zmW hO (zll hO (tms:=tms) (N:=N) D) f _ st _ J G w (λx=>zka f=false/\x=w.heap.size) _ E #[] [] w (zb6 d S).toArray
  (λv W=>Grown w W/\∃(ys:List Value) (K:Nat->zbd),zvX (zrp f) W (zI J) ys K/\v=zmk (zb6 J ys)/\FreshO (zrp f) w W (zI J) K) hS (λn I h=>by omega)
  (by simp[b3]) (λi m v F hv=>by
   rw[qQ]at F;cases p:(zdw d 0)[i]? with
   |none=>rw[p]at F;cases F
   |some x=>rw[p]at F;cases F;exact b4 i x v p (by simpa using hv))
  (λm F n I=>by
   obtain⟨x,p,rfl⟩:=jH.1 F;simp only[MV.ids,zbL,qR]at I;obtain⟨a,A,I⟩:=I;have:=(zgy d 0 n x a p A I).2;omega)
  (λU' a6 E' W c1 v b0 _ _ _ hv _ a1=>by
   obtain⟨us,rfl,b6,b7⟩:=zAR hv;have TT:=zQg (st:=a6) (E:=E') (w:=W) (zka f);have T:=b0.mem;obtain⟨V,ys,ks,X,b8,b9,rfl,_,c2⟩:=zkR c1 [] J us a1 b6 (λk x u p hu=>VT.tr TT (λ_ _ _ _=>trivial) (b7 k x u p hu));have B:∀i,i<(zI J).length->∃a,V[i]?=some a:=λi Z=>⟨_,qB (by rw[<- X.len];exact Z)⟩
   have a4:∀(k:Nat) (a:At) (u:Value),V[k]?=some a->ys[k]?=some u->VA W a6 E' a u:=λk a u A hu=>by have h:=b9 k a u A hu;rcases X.get k a A with⟨_,_,rfl,_⟩|⟨_,rfl,_⟩|⟨r,R1,rfl,a0,F,_⟩;{exact h};{exact h};{obtain⟨R0,a9,ht,_⟩:=zl6 a0;refine⟨h.1,λR y=>?_⟩;rw[a9]at y;cases y;have:=h.2 R1 a0;simpa [zbg] using this}
   have c0:zka f=true->¬ (zka f=false/\w.heap.size=w.heap.size):=λh h'=>by rw[h]at h';cases h'.1
   refine⟨⟨T.os,T.tape,T.output,T.size,λb hb=>T.keep b hb (λh=>by have:=h.2;omega)⟩,ys,λi=>match V[i]? with|some a=>aφ E' a|none=>λ_=>False,⟨by rw[b8,X.len],λi c x hc p=>?_⟩,rfl,⟨λi x Z p=>?_,λi j c x Z ho hj p a3=>?_⟩⟩
   .obtain⟨a,A⟩:=B i (qA.1 hc).1;simp only[A];exact z3r T X A hc (a4 i a x A p)
   .obtain⟨a,A⟩:=B i Z;simp only[A]at p;obtain⟨H,h2⟩:=z7Y c0 T X A p;exact⟨H.elim (λh=>by omega) λh=>h,h2⟩
   .obtain⟨a,A⟩:=B i (qA.1 Z).1;obtain⟨b,hb⟩:=B j hj;simp only[A]at p;simp only[hb]at a3;exact z3q T X A hb Z ho p a3)
 refine L.mono ?_;intro e W Y;cases e with|returned v=>exact Y|panicked a8=>exact Y.elim|outgrown=>exact Y.elim
end
section
variable {C:Cfg} {w0 w w1:World} {S0:zbd} {U:Nat->Prop} {st st1:St} {E E1:Env} {ts:Array Value} {sv:List (Array Value)}
def zu0:∀{p q:List (Int×Nat)},zqq p q=some true->p=q
 |[],[],_=>rfl
 |[],_::_,h=>by simp[zqq]at h
 |_::_,[],h=>by simp[zqq]at h
 |(i,j)::p,(f,g)::q,h=>by simp only[zqq]at h;split at h;{rename_i a;simp only[qK]at a;split at h;{rename_i c e;simp only[qC,qE,ieq,qK]at h;obtain⟨b,d⟩:=h;subst d;rw[zu0 e,b,a]};{cases h}};{cases h}
structure GivenT (st:St) (xs:List At) (cs:List CV) (ks:List Nat) (r:Nat) (p:List (Int×Nat)) (i:Int) (off:Nat):Prop where
 len:cs.length=xs.length
 own:∀q∈ks,q≠r/\∃R,st.root q=some R/\R.own=true
 get:∀(k:Nat) (a:At),xs[k]?=some a->(∃k' n,a = .i k' n/\cs[k]?=some (.i k' n))\/(∃x,a = .b x/\cs[k]?=some (.b x))\/
  (∃q R,a = .sl q []/\st.root q=some R/\q∈ks/\cs[k]?=some (.s R.t R.l))\/∃cv,a = .sl r (p++[(i,off+k)])/\st.node r (p++[(i,off+k)])=some cv/\cs[k]?=some cv
 inj:∀(k k' q:Nat),xs[k]?=some (.sl q [])->xs[k']?=some (.sl q [])->k=k'
def GivenT.mem {a:List At}{b:LC}{ks:List Nat}{r:Nat}{p:List (Int×Nat)}{i:Int}{off:Nat}(c:GivenT st a b ks r p i off){k q:Nat}(d:a[k]?=some (At.sl q [])):q∈ks:=by rcases c.get k _ d with⟨_,_,h,_⟩|⟨_,h,_⟩|⟨f,_,h,_,e,_⟩|⟨_,h,_⟩;{cases h};{cases h};{cases h;exact e};{simp at h}
def ztZ {r:Nat}{p:List (Int×Nat)}{i:Int}:∀(v:List At) (off:Nat) (H:LC) (D:List Nat),st.give (some (r,p,i)) v off=some (true,H,D)->GivenT st v H D r p i off
 |[],off,H,D,h=>by simp only[St.give,qC,jT]at h;obtain⟨_,rfl,rfl⟩:=h;exact⟨rfl,λq C=>by simp at C,λk a h=>by simp at h,λk y q h=>by simp at h⟩
 |a::v,off,H,D,h=>by
  have cons:∀{z:CV} {g:LC} {m u:List Nat},GivenT st v g m r p i (off+1)->(∀q∈m,q∈u)->(∀q∈u,q≠r/\∃R,st.root q=some R/\R.own=true)->
   ((∃y n,a = .i y n/\z = .i y n)\/(∃x,a = .b x/\z = .b x)\/(∃q R,a = .sl q []/\st.root q=some R/\q∈u/\q∉m/\z = .s R.t R.l)\/(a = .sl r (p++[(i,off)])/\st.node r (p++[(i,off)])=some z))->
   GivenT st (a::v) (z::g) u r p i off:=by
   intro z g m u j G F N;refine⟨by simp[j.len],F,λk b I=>?_,λk y q B w=>?_⟩
   .cases k with
    |zero=>simp only[qI,qC]at I;subst I;rcases N with⟨y,n,c,f⟩|⟨x,c,f⟩|⟨q,R,c,f,A,_,E⟩|⟨c,f⟩;{exact .inl ⟨y,n,c,by simp[f]⟩};{exact .inr (.inl ⟨x,c,by simp[f]⟩)};{exact .inr (.inr<|.inl ⟨q,R,c,f,A,by simp[E]⟩)};{exact .inr (.inr<|.inr ⟨z,c,f,by simp⟩)}
    |succ k=>rcases j.get k b (by simpa using I) with h|h|⟨q,R,c,f,A,E⟩|⟨L,c,f,A⟩;{exact .inl h};{exact .inr (.inl h)};{exact .inr (.inr<|.inl ⟨q,R,c,f,G q A,E⟩)};{have e:off+1+k=off+(k+1):=(by omega);rw[e]at c f;exact .inr (.inr<|.inr ⟨L,c,f,A⟩)}
   .have hnew:∀(k q:Nat),a=At.sl q []->v[k]?≠some (At.sl q []):=by intro k q C B;rcases N with⟨y,n,c,f⟩|⟨x,c,f⟩|⟨K,R,c,f,A,E,_⟩|⟨c,f⟩;{rw [C]at c;cases c};{rw [C]at c;cases c};{rw [C]at c;cases c;exact E (j.mem B)};{rw [C]at c;simp at c}
    cases k<;>cases y<;>simp at B w
    .rfl
    .exact absurd w (hnew _ q B)
    .exact absurd B (hnew _ q w)
    .exact congrArg _ (j.inj _ _ q B w)
  simp only[St.give]at h;split at h;{cases h};{rename_i T g m hg;split at h;{rename_i k n;cases h;have j:=ztZ v (off+1) g D hg;exact cons j (λ_ h=>h) j.own (.inl ⟨k,n,rfl,rfl⟩)};{rename_i x;cases h;have j:=ztZ v (off+1) g D hg;exact cons j (λ_ h=>h) j.own (.inr<|.inl ⟨x,rfl,rfl⟩)};{rename_i q;split at h;{rename_i R M;split at h;{rename_i d;cases h;have j:=ztZ v (off+1) g m hg;simp only[qE,jE,jN,decide_eq_false_iff_not,beq_eq_false_iff_ne]at d;refine cons j (λK h=>by simp[h]) (λK h=>?_) (.inr<|.inr<|.inl ⟨q,R,rfl,M,by simp,d.1.2,rfl⟩);rcases qG.1 h with rfl|h;{exact⟨d.2,R,M,d.1.1⟩};{exact j.own K h}};{cases h}};{cases h}};{rename_i q U Q;split at h;{rename_i O;simp only[qK]at O;subst O;split at h;{rename_i e L P J;simp only[qC,jT,qE]at h;obtain⟨⟨c,f⟩,rfl,rfl⟩:=h;subst c f;have S:=zu0 P;subst S;have j:=ztZ v (off+1) g m hg;exact cons j (λ_ h=>h) j.own (.inr<|.inr<|.inr ⟨rfl,J⟩)};{cases h}};{cases h}};{cases h}}
def zUF:∀(p:List (Int×Nat)) {t c:Ty} {l:List t.den} {e:List c.den} {i:Int} {j:Nat} {d:CV},ziZ t l p=some (.s c e)->ziZ t l (p++[(i,j)])=some d->(c.cells<|ix e i c.dflt)[j]?=some d
 |[],t,c,l,e,i,j,d,b,a=>by simp only[ziZ,qC]at b;cases b;simp only[jW,ziZ]at a;split at a;{rename_i h g f;cases a;exact f};{cases a}
 |(k,m)::p,t,c,l,e,i,j,d,b,a=>by simp only[kF,ziZ]at b a;split at b;{rename_i h g f;rw[f]at a;exact zUF p b a};{cases b}
def zJq:∀{xs:List At} {cs:LC} {off k:Nat} {a:At} {c:CV},xs[k]?=some a->cs[k]?=some c->c.flat=false->(∃r p,a = .sl r p/\p≠[])\/off+k∈zlx xs cs off
 |[],_,_,_,_,_,h,_,_=>by simp at h
 |_::_,[],_,_,_,_,_,h,_=>by simp at h
 |m::xs,d::cs,off,k,a,c,g,j,f=>by
  cases k with
  |zero=>simp only[qI,qC]at g j;subst g j;cases m with|sl r p=>(cases p with|nil=>right;(cases d with|i k n=>cases f|b x=>cases f|s t l=>simp[zlx])|cons q p=>exact .inl ⟨r,_,rfl,by simp⟩)|_=>right;(cases d with|i k n=>cases f|b x=>cases f|s t l=>simp[zlx])
  |succ k=>rcases zJq (xs:=xs) (cs:=cs) (off:=off+1) (k:=k) (by simpa using g) (by simpa using j) f with h|h;{exact .inl h};{right;have e:off+1+k=off+(k+1):=(by omega);rw[e]at h;cases m with|sl r p=>(cases p with|nil=>cases d<;>simp [zlx,h]|cons q p=>cases d<;>simp [zlx,h])|_=>cases d<;>simp [zlx,h]}
def ztf (p:List (Int×Nat))(i:Int)(j:Nat)(q:List (Int×Nat)):(cols p++[j]).isPrefixOf (cols (p++(i,j)::q))=true:=by rw[k8];exact⟨cols q,by simp[cols]⟩
def znt {a b:Type}(f:a->b):∀(l:List (Nat×a)) (n:Nat),zy (l.map λx=>(x.1,f x.2)) n=(zy l n).map f
 |[],_=>rfl
 |(k,v)::l,n=>by simp only[jG,zy];split;{rfl};{exact znt f l n}
def zzm {r:Nat}{e:List (List Nat)}{a:At}{n:Nat}(h:n∈(zdA r e a).ids):n∈a.ids:=by cases a with|sl d q=>simp only[zdA]at h;split at h;{simp [At.ids,zby,zbG]at h};{exact h}|ep d q i o=>simp only[zdA]at h;split at h;{simp [At.ids,zby,zbG]at h};{exact h}|bad=>exact h|i k n=>exact h|b x=>exact h|lp l o=>exact h|fn f c=>exact h|kp d J t=>simp only[zdA]at h;cases g:Nat.beq r d<;>rw [g]at h;{exact h};{cases j:coarse e J<;>rw [j]at h;{simp [At.ids,zby,zbG]at h};{exact h}}
def zBe {d J:List (List Nat)}{q:List Nat}(h:coarse d J=true)(b:J.any (λc=>c.isPrefixOf q)=false):d.any (λc=>c.isPrefixOf q)=false:=by rw[kW]at b ⊢;intro m f g;obtain⟨c,e,a⟩:=uJ.1 (qP.1 h m f);exact b c e (k8.2<|(k8.1 a).trans (k8.1 g))
def z0y {w1:World}{d:St}{E1:Env}{r:Nat}{i:List (List Nat)}(T:∀a v,VA w st E a v->VA w1 d E1 (zdA r i a) v){x:TV}{v:Value}(h:VT w st E x v):VT w1 d E1 (zoZ r i x) v:=by rcases x with a|l;{exact T a v h};{obtain⟨n,k,m,f⟩:=h;refine⟨n,k,by simp[m],λj a u c g=>?_⟩;rw[qQ]at c;cases e:l[j]? with|none=>rw[e]at c;cases c|some b=>rw[e]at c;cases c;exact⟨(f j b u e g).1,T _ _ (f j b u e g).2⟩}
def zbaH {w1:World}{d:St}{E1:Env}{r:Nat}{f:List (List Nat)}(T:∀a v,VA w st E a v->VA w1 d E1 (zdA r f a) v){m:MV}{v:Value}(h:VM w st E m v):VM w1 d E1 (zhD r f m) v:=by cases m with|und=>exact h|v x=>exact z0y T h|tup l=>obtain⟨p,g,i,k⟩:=h;refine⟨p,g,by simp[i],λj a u c n=>?_⟩;rw[qQ]at c;(cases e:l[j]? with|none=>rw[e]at c;cases c|some b=>rw[e]at c;cases c;exact z0y T (k j b u e n))
def zzn {w1:World}{d:St}{E1:Env}{r:Nat}{f:List (List Nat)}(T:∀a v,VA w st E a v->VA w1 d E1 (zdA r f a) v){tm:List MV}{ts:LV}(h:az w st E tm ts):az w1 d E1 (tm.map<|zhD r f) ts:=by refine⟨by simp[h.1],λi m v c g=>?_⟩;rw[qQ]at c;cases e:tm[i]? with|none=>rw[e]at c;cases c|some b=>rw[e]at c;cases c;exact zbaH T (h.2 i b v e g)
def zzo {w1:World}{b:St}{E1:Env}{r:Nat}{c:List (List Nat)}(T:∀a v,VA w st E a v->VA w1 b E1 (zdA r c a) v):∀{l:List (List MV)} {s:List LV},Stack w st E l s->Stack w1 b E1 (l.map λf=>f.map (zhD r c)) s
 |[],[],_=>trivial
 |f::l,ts::s,h=>⟨zzn T h.1,zzo T h.2⟩
 |[],_::_,h=>h.elim
 |_::_,[],h=>h.elim
def zJU {r:Nat}{c:List (List Nat)}{x:TV}{a:At}(h:a∈zZ (zoZ r c x)):∃b∈zZ x,a=zdA r c b:=by rcases x with b|l;{simp only [zoZ,zZ,qF]at h ⊢;exact⟨b,rfl,h⟩};{simp only [zoZ,zZ,jH]at h ⊢;obtain⟨b,d,rfl⟩:=h;exact⟨b,d,rfl⟩}
def ztS {r:Nat}{e:List (List Nat)}{m:MV}{n:Nat}(h:n∈(zhD r e m).ids):n∈m.ids:=by simp only[MV.ids,qR]at h ⊢;obtain⟨a,c,f⟩:=h;have:∃b∈zbL m,a=zdA r e b:=(by cases m with|und=>simp[zhD,zbL]at c|v x=>exact zJU c|tup l=>simp only[zhD,zbL,qR,jH]at c ⊢;obtain⟨y,⟨x,g,rfl⟩,c⟩:=c;obtain⟨b,d,rfl⟩:=zJU c;exact⟨b,⟨x,g,d⟩,rfl⟩);obtain⟨b,d,rfl⟩:=this;exact⟨b,d,zzm f⟩
end
section
variable {C:Cfg} {w0 w w1:World} {S0:zbd} {U:Nat->Prop} {st st1:St} {E E1:Env} {ts:Array Value} {sv:List (Array Value)}
def zju (st:St)(r:Nat)(R:Root)(m:List R.t.den)(b:List Nat)(a:List (List Nat)):St :=
 {st with
  tm:=st.tm.map (zhD r a)
  stk:=st.stk.map λf=>f.map (zhD r a)
  lo:=st.lo.map λx=>(x.1,x.2.map<|zdA r a)
  ro:=(r,{R with l:=m})::(moved st b++st.ro)
  ep:=st.ep+1}
def zUH (hS:Sim w0 S0 U st E ts sv w){r:Nat}{R:Root}(hR:st.root r=some R)(ho:R.own=true){m:List R.t.den}{ks:List Nat}{js:List (List Nat)}{b:Nat}{S3:zbd}(b7:∀q∈ks,q≠r/\∃R,st.root q=some R/\R.own=true)(d3:w1.os=w.os)(d4:w1.tape=w.tape)(b8:w1.output=w.output)(c4:w1.heap.size=w.heap.size)(hb:E.φ r b)(W:∀x,x≠b->w1.heap[x]?=w.heap[x]?)(b0:∀x,S3 x->E.φ r x\/∃q∈ks,E.φ q x)(c0:Rep true w1 (E.ρ r) (.s R.t m) S3)(b6:∀q u,zbg w R.t (E.ρ r) q=some u->js.any (λc=>c.isPrefixOf (cols q))=false->zbg w1 R.t (E.ρ r) q=some u) :
 Sim w0 S0 U (zju st r R m ks js) {E with φ:=λn=>if n=r then S3 else E.φ n} ts sv w1:=by
 have C:=hS.mem;obtain⟨b9,c3⟩:=C.mine r R hR ho;have z:∀q Q,(zju st r R m ks js).root q=some Q->
  (q=r/\Q={R with l:=m})\/(q≠r/\q∈ks/\∃B,st.root q=some B/\B.own=true/\Q={B with own:=false,ep:=some (st.ep+1)})\/(q≠r/\q∉ks/\st.root q=some Q/\Q.ep=none):=by
  intro q Q F;obtain⟨D,G⟩:=zbD F;simp only[zju,zy]at D G;split at D
  .rename_i he;simp only[qK]at he;cases D;exact .inl ⟨he.symm,rfl⟩
  .rename_i he;simp only[qK]at he;have d:q≠r:=λh=>he h.symm;rw[zbM]at D;split at D
   .rename_i Q' hQ';cases D;obtain⟨hm,B,g,rfl⟩:=zor ks q _ hQ';obtain⟨_,R2,M,b4⟩:=b7 q hm;have:=(zbD M).1;rw[g] at this;cases this;exact .inr (.inl ⟨d,hm,B,M,b4,rfl⟩)
   .rename_i hnone;have I:q∉ks:=λhm=>by have:=zPs ks q hnone hm;rw[this]at D;cases D
    refine .inr (.inr ⟨d,I,?_⟩);rcases G with G|G
    .exact⟨zg5 D<|.inl G,G⟩
    .have:=C.epo q Q _ D G;omega
 have a4:∀q Q,q≠r->st.root q=some Q->Q.ep=none->∀x,E.φ q x->w1.heap[x]?=w.heap[x]? :=
  λq Q d F S x K=>W x (λe=>C.apart r R q Q hR ho F S (λe=>d e.symm) b hb (e ▸ K))
 have b1:∀q∈ks,∃Q,q≠r/\st.root q=some Q/\Q.own=true/\Q.ep=none:=λq F=>by obtain⟨D,Q,G,V⟩:=b7 q F;exact⟨Q,D,G,V,(C.mine q Q G V).1⟩
 have a8:∀x,S3 x->(S0 x\/w0.heap.size<=x)/\x<w.heap.size:=by intro x K;rcases b0 x K with h|⟨q,F,h⟩;{exact⟨c3 x h,C.rlt r R hR x h⟩};{obtain⟨Q,_,G,V,_⟩:=b1 q F;exact⟨(C.mine q Q G V).2 x h,C.rlt q Q G x h⟩}
 have a7:∀q Q,q≠r->q∉ks->st.root q=some Q->Q.ep=none->∀x,S3 x->¬ E.φ q x:=by intro q Q d I F S x K;rcases b0 x K with h|⟨q2,a6,h⟩;{exact C.apart r R q Q hR ho F S (λe=>d e.symm) x h};{obtain⟨Q2,_,G,V,_⟩:=b1 q2 a6;exact C.apart q2 Q2 q Q G V F S (λe=>I (e ▸ a6)) x h}
 have T:∀a v,VA w st E a v->VA w1 (zju st r R m ks js) {E with φ:=λn=>if n=r then S3 else E.φ n} (zdA r js a) v:=by
  have a2:∀H q u Q,(r=H->js.any (λc=>c.isPrefixOf (cols q))=false)->(zju st r R m ks js).root H=some Q->(∀B,st.root H=some B->zbg w B.t (E.ρ H) q=some u)->zbg w1 Q.t (E.ρ H) q=some u:=(by intro H q u Q d1 S a0;rcases z H Q S with⟨rfl,rfl⟩|⟨d,X,B,g,O,rfl⟩|⟨d,I,A,L⟩;{exact b6 q u (a0 R hR) (d1 rfl)};{have:=zdB (w':=w1) q (C.rep H B g) (a4 H B d g (C.mine H B g O).1);rw[this];exact a0 B g};{have:=zdB (w':=w1) q (C.rep H Q A) (a4 H Q d A L);rw[this];exact a0 Q A});have c6:∀H Q,(zju st r R m ks js).root H=some Q->∃B,st.root H=some B/\B.t=Q.t:=(by intro H Q S;rcases z H Q S with⟨rfl,rfl⟩|⟨d,X,B,g,O,rfl⟩|⟨d,I,A,L⟩;{exact⟨R,hR,rfl⟩};{exact⟨B,g,rfl⟩};{exact⟨Q,A,rfl⟩});have loc:∀l P,zy (zju st r R m ks js).lo l=some P->∃y,zy st.lo l=some y:=by intro l P h;simp only[zju]at h;rw[znt]at h;cases hl:zy st.lo l with|none=>rw[hl]at h;cases h|some y=>exact⟨y,rfl⟩
  intro a v hv;cases a with
  |bad=>trivial
  |i k n=>exact hv
  |b x=>exact hv
  |sl H q=>simp only[zdA];split;{trivial};{rename_i b3;refine⟨hv.1,λQ S=>a2 H q v Q (λe=>?_) S hv.2⟩;subst e;simpa using b3}
  |lp l d6=>refine⟨hv.1,λP h=>?_⟩;obtain⟨y,h'⟩:=loc l P h;exact hv.2 y h'
  |ep H q i o=>simp only[zdA];split;{trivial};{rename_i b3;refine⟨hv.1,λQ S=>?_⟩;obtain⟨B,g,ht⟩:=c6 H Q S;obtain⟨b',o',len,c8,t',D,G,V⟩:=hv.2 B g;refine⟨b',o',len,c8,t',a2 H q _ Q (λe=>?_) S λR2 M=>?_,by rw[<- ht];exact G,V⟩;{subst e;simpa using b3};{rw [g]at M;cases M;exact D}}
  |kp H J t=>
   have c5:(r=H->coarse js J=true)->VA w1 (zju st r R m ks js) {E with φ:=λn=>if n=r then S3 else E.φ n} (.kp H J t) v:=λhc=>by
    refine⟨hv.1,λQ S=>?_⟩;obtain⟨B,g,ht⟩:=c6 H Q S;obtain⟨D,G,V⟩:=hv.2 B g;refine⟨ht.symm.trans D,G,λp u hp hJ=>?_⟩;have:=a2 H p u Q (λe=>zBe (hc e) hJ) S (λR2 M=>by
     rw[g]at M;cases M;rw[D,G];exact V p u hp hJ)
    rw[<- ht,D] at this;rw[show E.ρ H=v from G] at this
    exact this
   simp only[zdA];cases hb:Nat.beq r H with
   |false=>exact c5 (λe=>by subst e;simp at hb)
   |true=>cases hc:coarse js J with
    |true=>exact c5 (λ_=>hc)
    |false=>trivial
  |fn f d5=>obtain⟨vs,D,G,V⟩:=hv;refine⟨vs,D,G,λk l u X hu=>⟨(V k l u X hu).1,λP h=>?_⟩⟩;obtain⟨y,h'⟩:=loc l P h;exact(V k l u X hu).2 y h'
 have Z:∀l P,zy (zju st r R m ks js).lo l=some P->∃y,zy st.lo l=some y/\P=y.map (zdA r js):=by intro l P h;simp only[zju]at h;rw[znt]at h;cases hl:zy st.lo l with|none=>rw[hl]at h;cases h|some y=>rw[hl]at h;cases h;exact⟨y,rfl,rfl⟩
 refine⟨⟨d3.trans C.os,d4.trans C.tape,b8.trans C.output,by rw[c4];exact C.size,?_,?_,?_,?_,?_,?_,?_,?_,?_,?_,C.κ⟩,⟨?_,?_,?_,?_⟩,zzn T hS.tm,zzo T hS.stk⟩
 .intro x K hnS;refine(W x λe=>?_).trans (C.keep x K hnS);subst e;rcases c3 x hb with h|h
  .exact hnS h
  .omega
 .intro q Q F;rcases z q Q F with⟨rfl,rfl⟩|⟨d,X,B,g,O,rfl⟩|⟨d,I,A,L⟩
  .simp only [if_true,ho];exact c0
  .simp only [if_neg d];exact((C.rep q B g).frame (a4 q B d g (C.mine q B g O).1)).ro
  .simp only [if_neg d];exact(C.rep q Q A).frame (a4 q Q d A L)
 .intro q Q F x K;rw[c4];rcases z q Q F with⟨rfl,rfl⟩|⟨d,X,B,g,O,rfl⟩|⟨d,I,A,L⟩
  .simp only [if_true]at K;exact(a8 x K).2
  .simp only [if_neg d]at K;exact C.rlt q B g x K
  .simp only [if_neg d]at K;exact C.rlt q Q A x K
 .intro q Q F hoq;rcases z q Q F with⟨rfl,rfl⟩|⟨d,X,B,g,O,rfl⟩|⟨d,I,A,L⟩
  .refine⟨b9,λx K=>?_⟩;simp only[if_true]at K;exact(a8 x K).1
  .cases hoq
  .simp only [if_neg d];exact C.mine q Q A hoq
 .intro hz q Q F hoq he hf;rcases z q Q F with⟨rfl,rfl⟩|⟨d,X,B,g,O,rfl⟩|⟨d,I,A,L⟩
  .exact absurd (show R.own=false from hoq) (by rw[ho];exact Bool.noConfusion)
  .cases he
  .simp only [if_neg d];exact C.frz hz q Q A hoq he hf
 .intro q Q q' Q' F hoq hq' he hnn x K;rcases z q Q F with⟨rfl,rfl⟩|⟨d,X,B,g,O,rfl⟩|⟨d,I,A,L⟩
  .rcases z q' Q' hq' with⟨rfl,rfl⟩|⟨N,d2,R2,M,b5,rfl⟩|⟨N,a9,a1,Y⟩
   .exact absurd rfl hnn
   .cases he
   .simp only [if_true]at K;simp only[if_neg N];exact a7 q' Q' N a9 a1 Y x K
  .cases hoq
  .simp only [if_neg d]at K;rcases z q' Q' hq' with⟨rfl,rfl⟩|⟨N,d2,R2,M,b5,rfl⟩|⟨N,a9,a1,Y⟩
   .simp only [if_true];exact λh=>a7 q Q d I A L x h K
   .cases he
   .simp only [if_neg N];exact C.apart q Q q' Q' A hoq a1 Y hnn x K
 .intro l P hl;obtain⟨y,a5,rfl⟩:=Z l P hl;obtain⟨D,c7,e,G,V,h4⟩:=C.loc l y a5;refine⟨D,c7,e,(W _ λe=>C.lro l y r R a5 hR (by rw[e];exact hb)).trans G,by simp[V],λj c u hc hu=>?_⟩
  rw[qQ]at hc;cases a3:y[j]? with
  |none=>rw[a3]at hc;cases hc
  |some c'=>rw[a3]at hc;cases hc;exact⟨(h4 j c' u a3 hu).1,T _ _ (h4 j c' u a3 hu).2⟩
 .intro l l' P y hl a5 he;obtain⟨c1,D,_⟩:=Z l P hl;obtain⟨c2,G,_⟩:=Z l' y a5;exact C.linj l l' c1 c2 D G he
 .intro l P q Q hl F;obtain⟨c1,D,_⟩:=Z l P hl;rcases z q Q F with⟨rfl,rfl⟩|⟨d,X,B,g,O,rfl⟩|⟨d,I,A,L⟩
  .simp only [if_true];intro K;rcases b0 _ K with h|⟨q2,a6,h⟩
   .exact C.lro l c1 q R D hR h
   .obtain⟨Q2,_,G,_,_⟩:=b1 q2 a6;exact C.lro l c1 q2 Q2 D G h
  .simp only [if_neg d];exact C.lro l c1 q B D g
  .simp only [if_neg d];exact C.lro l c1 q Q D A
 .intro q Q e F he;simp only[zju,zy]at F
  show e<=st.ep+1
  split at F
  .cases F;simp only[b9]at he;cases he
  .rw [zbM]at F;split at F
   .rename_i Q' hQ';cases F;obtain⟨_,B,_,rfl⟩:=zor ks q _ hQ';simp only[qC]at he;subst he;exact qX _
   .exact uY (C.epo q Q e F he)
 .intro n Q hn;simp only[zju,zy]at hn;split at hn
  .rename_i he;simp only[qK]at he;subst he;exact hS.ids.ro _ R (zbD hR).1
  .rw [zbM]at hn;split at hn
   .rename_i Q' hQ';obtain⟨_,B,g,_⟩:=zor ks n Q' hQ';exact hS.ids.ro n B g
   .exact hS.ids.ro n Q hn
 .intro n P hn;obtain⟨y,D,rfl⟩:=Z n P hn;refine⟨(hS.ids.lo n y D).1,λa ha k X=>?_⟩;obtain⟨a',c9,rfl⟩:=jH.1 ha;exact(hS.ids.lo n y D).2 a' c9 k (zzm X)
 .intro m' hm n hn;obtain⟨m0,b2,rfl⟩:=jH.1 hm;exact hS.ids.tm m0 b2 n (ztS hn)
 .intro f hf m' hm n hn;obtain⟨f0,d0,rfl⟩:=jH.1 hf;obtain⟨m0,b2,rfl⟩:=jH.1 hm;exact hS.ids.stk f0 d0 m0 b2 n (ztS hn)
def z7t (hC:CfgOk C)(w0 w:World)(S0:zbd)(U:Nat->Prop)(st:St)(E:Env)(ts:LV)(sv:List LV)(o:Oper)(id:Nat)(c:Bool)(c6:St)(hS:Sim w0 S0 U st E ts sv w)(h:zNG C st o=some (c,c6))(hc:c=true) :
 Goes C w0 S0 U st ts sv w o id (λ_=>c6.put o.dst .und)/\c6.nid=st.nid:=by
 subst hc;unfold zNG at h;split at h
 .rename_i T a x ho;split at h
  .rename_i agg tys y r p i off hT d I;split at h
   .rename_i R t l c cvs ks hRr X hg;split at h
    .rename_i hcond;simp only[qE,qK,jA]at hcond;obtain⟨⟨a4,d5⟩,d2⟩:=hcond;split at h
     .rename_i l' hset;split at h
      .rename_i m hput;simp only[qC,jT]at h;obtain⟨rfl,rfl⟩:=h;refine⟨?_,rfl⟩;have hG:=ztZ _ _ _ _ hg;obtain⟨h1,h7⟩:=zcn hS d;obtain⟨f6,h6⟩:=zbN hS I;obtain⟨a6,b6⟩:=VT.cells h1 (zsR d);obtain⟨b,o2,len,e9,t1,e1,e2,e3,M,e5⟩:=f6.2 R hRr;have hM:=hS.mem;have a9:=hM.rep r R hRr;rw[a4]at a9;obtain⟨t',l0,S1,f1,f2,f3,f4,f5⟩:=Rep.focus p a9 e1;have d4:ziZ R.t R.l p=some (.s t l):=by obtain⟨R',a0,f9⟩:=zg7 X;rw[hRr]at a0;cases a0;exact f9
       rw[d4] at f1;cases f1;rw[e2] at f2;cases f2;obtain⟨_,_,_,_,b3⟩:=f5 w l S1 (λ_ _ _=>rfl) (λ_ h _=>h) f3;generalize hv:({tmps:=ts,defers:=[]}:Act).eval x=v at *;cases f3 with
       |void _ _ _ ho=>cases ho
       |sl _ _ _ _ _ b2 e' fz V K _ hb f8 c0 a7 e8 b4 D a2 c5 d0=>
       have d3:=f8 rfl;subst d3;have a1:Rows true w t l b2 o2 b V K S1:=⟨D,a2,c5,d0⟩;have c4:v.cells.toList.length=cvs.length:=by rw[hG.len];simpa using a6
       have b1:v.cells.size=tys.length:=by rw[a6,d5]
       have a3:off+v.cells.toList.length<=t.wi:=by simp[b1];exact d2
       have e6:(i.toNat+1)*t.wi<=e9*t.wi:=qS _ (by omega)
       rw[jO]at e6;have f0:∀u∈v.cells.toList,u.oneCell'=true:=by intro u hu;obtain⟨j,J⟩:=qV.1 hu;have g3:j<(zZ y).length:=(by rw[<- a6];have:=(qA.1 J).1;simpa using this);exact(b6 j _ u (qB g3) (by simpa using J)).1
       have b0:=zrY (w:=w) (off:=o2+i.toNat*t.wi+off) (hC.cty T agg tys hT) hb b1 (by omega) f0
       generalize W:w.setRow b (C0 b2.toList (o2+i.toNat*t.wi+off) v.cells.toList).toArray=w1 at b0;have c9:w1.heap[b]?=some (.cells (C0 b2.toList (o2+i.toNat*t.wi+off) v.cells.toList).toArray e' (0,0)):=by rw[<- W];exact setRow_heap w b _ _ e' _ hb
       have H:∀x,x≠b->w1.heap[x]?=w.heap[x]?:=λx d=>by rw[<- W];exact setRow_other w b x _ d
       have c1:E.φ r b:=f4 b b4;have A:∀q∈ks,∀x,E.φ q x->¬ E.φ r x:=by intro q L x d F;obtain⟨d8,Q,hQ,Z⟩:=hG.own q L;exact d8 (hM.own_apart hQ Z hRr a4 d F)
       have a8:∀N j,N<l.length->j<t.wi->¬ Hit i.toNat off v.cells.toList.length N j->∀x,K N j x->w1.heap[x]?=w.heap[x]?:=λN j S J _ x d=>H x ((D N j x S J d).2 rfl)
       let Kn:Nat->zbd:=λk=>match (zZ y)[k]? with
        |some (.sl q [])=>E.φ q
        |some (.sl _ (_::_))=>K i.toNat (off+k)
        |_=>λ_=>False
       have b5:∀k,k<v.cells.toList.length->∃a,(zZ y)[k]?=some a:=λk G=>⟨_,qB (by rw[<- a6];simpa using G)⟩
       have Y:∀k x,k<v.cells.toList.length->Kn k x->(∃q∈ks,(zZ y)[k]?=some (.sl q [])/\E.φ q x)\/K i.toNat (off+k) x:=by intro k x G d;obtain⟨a,I⟩:=b5 k G;simp only[Kn,I]at d;rcases hG.get k a I with⟨_,_,rfl,_⟩|⟨_,rfl,_⟩|⟨q,Q,rfl,O,h3,h4⟩|⟨cv,rfl,_,_⟩;{exact d.elim};{exact d.elim};{exact .inl ⟨q,h3,I,d⟩};{right;cases p<;>exact d}
       have B:∀k,k<v.cells.toList.length->off+k<t.wi:=λk G=>by omega
       have c3:=Rep.setCells (w:=w) (w1:=w1) (Kn:=Kn) c0 a7 e8 a1 M c4 a3 hset c9 (λk c u hc hu=>by
        have G:k<v.cells.toList.length:=(qA.1 hu).1;obtain⟨a,I⟩:=b5 k G;have P:=(b6 k a u I (by simpa using hu)).2
        rcases hG.get k a I with⟨_,_,rfl,O⟩|⟨_,rfl,O⟩|⟨q,Q,rfl,O,h3,h4⟩|⟨cv,rfl,O,h3⟩
        .rw [hc]at O;cases O;cases P;exact .i _ _ _
        .rw [hc]at O;cases O;cases P;exact .b _ _
        .rw [hc]at h4;cases h4;have:=P.2 Q O;simp only[zbg,qC] at this;subst this;obtain⟨d8,Q',a5,Z⟩:=hG.own q h3;rw[O]at a5;cases a5;have hr:=hM.rep q Q O;rw[Z]at hr;have b9:Kn k=E.φ q:=by simp only[Kn,I]
         rw[b9];exact hr.frame (λx d=>H x λe=>A q h3 x d (e ▸ c1))
        .have hcv:cv=c:=by rw[hc]at h3;cases h3;rfl
         subst hcv;have z:=P.2 R hRr;rw[b3]at z;obtain⟨R',a0,g0⟩:=zg7 O;rw[hRr]at a0;cases a0;have b7:=zUF p d4 g0;have J:=B k G;have c2:=d0 i.toNat _ (zon M) (off+k) cv b7;have hV:=c5 i.toNat (off+k) M J;simp only[zbg]at z;rw[if_pos ⟨e3,M⟩]at z;split at z
         .rw [D0 hb,hV]at z;simp only[qC]at z;subst z;have b9:Kn k=K i.toNat (off+k):=by simp only[Kn,I];cases p<;>rfl
          rw[b9];exact c2.frame (λx d=>H x ((D _ _ x M J d).2 rfl))
         .cases z)
        a8
        (λk x G d=>by
         rcases Y k x G d with⟨q,L,_,d⟩|d
         .exact λe=>A q L x d (e ▸ c1)
         .exact(D _ _ x M (B k G) d).2 rfl)
        (λk k' x G b8 d F=>by
         rcases Y k x G d with⟨q,L,g9,d⟩|d<;>rcases Y k' x b8 F with⟨q',d9,e0,F⟩|F
         .obtain⟨_,Q,hQ,Z⟩:=hG.own q L;obtain⟨_,Q',a5,c7⟩:=hG.own q' d9;have:=hM.own_apart hQ Z a5 c7 d F;subst this;exact hG.inj k k' q g9 e0
         .exact absurd (f4 x (D _ _ x M (B k' b8) F).1) (A q L x d)
         .exact absurd (f4 x (D _ _ x M (B k G) d).1) (A q' d9 x F)
         .have:=(a2 rfl _ _ _ _ x M (B k G) M (B k' b8) d F).2;omega)
        (λk x N j G d S J g4 F=>by
         rcases Y k x G d with⟨q,L,_,d⟩|d
         .exact A q L x d (f4 x (D _ _ x S J F).1)
         .have:=a2 rfl _ _ _ _ x M (B k G) S J d F;exact g4 ⟨this.1.symm,by omega,by omega⟩)
       have c8:∀x,(x=b\/(∃N j,N<l.length/\j<t.wi/\¬ Hit i.toNat off v.cells.toList.length N j/\K N j x)\/∃k,k<v.cells.toList.length/\Kn k x)->S1 x\/∃q∈ks,E.φ q x:=by intro x d;rcases d with rfl|⟨N,j,S,J,_,G⟩|⟨k,G,d⟩;{exact .inl b4};{exact .inl (D N j x S J G).1};{rcases Y k x G d with⟨q,L,_,d⟩|d;{exact .inr ⟨q,L,d⟩};{exact .inl (D _ _ x M (B k G) d).1}}
       obtain⟨m',d6,h0,g1,g2⟩:=f5 w1 l' _ (λx d g7=>H x λe=>g7 (e ▸ b4)) (λx d F=>by
        rcases c8 x d with h|⟨q,L,h⟩
        .exact h
        .exact absurd F (A q L x h)) c3
       rw[hput]at d6;cases d6;have e7:=zUH (w1:=w1) (m:=m) (js:=(zlx (zZ y) cvs off).map λj=>cols p++[j]) hS hRr a4 hG.own (by rw[<- W];rfl) (by rw[<- W];rfl) (by rw[<- W];rfl) (by rw[<- W];simp) c1 H (λx d=>by
        rcases d with⟨d,_⟩|d
        .exact .inl d
        .rcases c8 x d with h|h
         .exact .inl (f4 x h)
         .exact .inr h) h0 (λq u L g6=>by
        rcases zvC p q with⟨q',rfl⟩|g5
        .rw [g2 q'];rw[b3 q']at L;refine zq8 a7 e8 a1 hb M c4 a3 hset c9 a8 q' (λN j h5 he k c J d1=>?_) H L;subst he J;cases f7:c.flat with
         |true=>exact .inl rfl
         |false=>have G:k<v.cells.toList.length:=(by rw[c4];exact(qA.1 d1).1);obtain⟨a,I⟩:=b5 k G;rcases zJq (off:=off) I d1 f7 with⟨r2,p2,rfl,g8⟩|d7;{right;intro _;rcases hG.get k _ I with⟨_,_,h,_⟩|⟨_,h,_⟩|⟨q2,Q,h,_,_,_⟩|⟨cv,h,O,h3⟩;{cases h};{cases h};{cases h;exact absurd rfl g8};{cases h;obtain⟨u9,hu⟩:∃u9,v.cells.toList[k]?=some u9:=⟨_,qB G⟩;have P:=(b6 k _ u9 I (by simpa using hu)).2;have z:=P.2 R hRr;rw[b3]at z;have J:=B k G;have hV:=c5 i.toNat (off+k) M J;simp only[zbg]at z;rw[if_pos ⟨e3,M⟩]at z;split at z;{rw [D0 hb,hV]at z;simp only[qC]at z;rw[hu,z]};{cases z}}};{exfalso;have h9:=kW.1 g6 (cols p++[off+k]) (jH.2 ⟨off+k,d7,rfl⟩);exact absurd (ztf p N (off+k) h5) h9}
        .exact g1 q u L λq' he=>absurd ⟨q',he⟩ g5)
       have g:=e7.putV (dst:=o.dst) (m:=.und) (v:=undef) rfl (λn X=>by simp[MV.ids,zbL]at X)
       refine zxP (w':=w1) ?_ ⟨g.mem,⟨λn R X=>.inl (g.ids.ro n R X),λn cs X=>⟨.inl (g.ids.lo n cs X).1,λa I m hm=>.inl ((g.ids.lo n cs X).2 a I m hm)⟩,λm hm n X=>.inl (g.ids.tm m hm n X),λf hf m hm n X=>.inl (g.ids.stk f hf m hm n X)⟩,g.tm,g.stk⟩;simp[execOp,ho,Instr.storeAt,e5,Instr.sureAddr,hv,b0]
      .cases h
     .cases h
    .cases h
   .cases h
  .cases h
 .cases h
def z1r (hC:CfgOk C)(w0 w:World)(S0:zbd)(U:Nat->Prop)(st:St)(E:Env)(ts:LV)(sv:List LV)(o:Oper)(id:Nat)(c:Bool)(W:St)(hS:Sim w0 S0 U st E ts sv w)(h:zKx C st o=some (c,W)) :
 Goes C w0 S0 U st ts sv w o id (λ_=>W.put o.dst .und)/\W.nid=st.nid:=by
 unfold zKx at h;split at h
 .rename_i T a ho;split at h
  .rename_i agg t1 r p i off hT ha;split at h
   .rename_i R t l hRr B;split at h
    .rename_i hcond;simp only[qE,jA]at hcond;obtain⟨L,a3⟩:=hcond;split at h
     .rename_i l' hset;split at h
      .rename_i m hput;simp only[qC,jT]at h;obtain⟨rfl,rfl⟩:=h;refine⟨?_,rfl⟩;obtain⟨b6,d1⟩:=zbN hS ha;obtain⟨b,o2,len,b3,t2,e1,e2,e3,e4,e5⟩:=b6.2 R hRr;have hM:=hS.mem;have M:=hM.rep r R hRr;rw[L]at M;obtain⟨t',l0,S1,f1,f2,f3,f4,f5⟩:=Rep.focus p M e1;have c1:ziZ R.t R.l p=some (.s t l):=by obtain⟨R',Z,c0⟩:=zg7 B;rw[hRr]at Z;cases Z;exact c0
       rw[c1] at f1;cases f1;rw[e2] at f2;cases f2;obtain⟨_,_,_,_,b4⟩:=f5 w l S1 (λ_ _ _=>rfl) (λ_ h _=>h) f3;have hv:({tmps:=ts,defers:=[]}:Act).eval (.const<|.slice none 0 0) = .slice none 0 0:=rfl;have b1:(Value.slice none 0 0).cells.toList=[.slice none 0 0]:=rfl;cases f3 with
       |void _ _ _ ho=>cases ho
       |sl _ _ _ _ _ O e' fz V K _ hb b9 Q I a8 P G a2 c9 b7=>
       have a4:=b9 rfl;subst a4;have D:Rows true w t l O o2 b V K S1:=⟨G,a2,c9,b7⟩;have a9:(Value.slice none 0 0).cells.toList.length=[CV.s t1 []].length:=rfl;have b0:(Value.slice none 0 0).cells.size=[CTy.s t1].length:=rfl;have F:off+(Value.slice none 0 0).cells.toList.length<=t.wi:=a3;have a6:(i.toNat+1)*t.wi<=b3*t.wi:=qS _ (by omega)
       rw[jO]at a6;have b5:∀u∈(Value.slice none 0 0).cells.toList,u.oneCell'=true:=by intro u Y;rw[b1,qF]at Y;subst Y;rfl
       have N:=zrY (w:=w) (off:=o2+i.toNat*t.wi+off) (hC.cty T agg _ hT) hb b0 (by simp only[List.length_singleton];omega) b5
       generalize A:w.setRow b (C0 O.toList (o2+i.toNat*t.wi+off) (Value.slice none 0 0).cells.toList).toArray=w1 at N;have a1:w1.heap[b]?=some (.cells (C0 O.toList (o2+i.toNat*t.wi+off) (Value.slice none 0 0).cells.toList).toArray e' (0,0)):=by rw[<- A];exact setRow_heap w b _ _ e' _ hb
       have y:∀x,x≠b->w1.heap[x]?=w.heap[x]?:=λx g=>by rw[<- A];exact setRow_other w b x _ g
       have c7:E.φ r b:=f4 b P;have J:∀z j,z<l.length->j<t.wi->¬ Hit i.toNat off (Value.slice none 0 0).cells.toList.length z j->∀x,K z j x->w1.heap[x]?=w.heap[x]?:=λz j H X _ x g=>y x ((G z j x H X g).2 rfl);have S:=Rep.setCells (w:=w) (w1:=w1) (Kn:=λ_ _=>False) Q I a8 D e4 a9 F hset a1 (λk c u hc Y=>by
        rw[b1]at Y;cases k with
        |zero=>simp at hc Y;subst hc Y;exact .nil _ _
        |succ k=>simp at hc)
        J (λk x hk g=>g.elim) (λk k' x hk d2 g b2=>g.elim) (λk x z j hk g H X d3 b2=>g.elim)
       have a0:∀x,(x=b\/(∃z j,z<l.length/\j<t.wi/\¬ Hit i.toNat off (Value.slice none 0 0).cells.toList.length z j/\K z j x)\/∃k,k<(Value.slice none 0 0).cells.toList.length/\False)->S1 x:=by intro x g;rcases g with rfl|⟨z,j,H,X,_,hk⟩|⟨k,hk,g⟩;{exact P};{exact(G z j x H X hk).1};{exact g.elim}
       obtain⟨m',a5,c8,c2,c3⟩:=f5 w1 l' _ (λx g c6=>y x λe=>c6 (e ▸ P)) (λx g b2=>a0 x g) S;rw[hput]at a5;cases a5;have a7:=zUH (w1:=w1) (m:=m) (ks:=[]) (js:=[cols p++[off]]) hS hRr L (λq hq=>by cases hq) (by rw[<- A];rfl) (by rw[<- A];rfl) (by rw[<- A];rfl) (by rw[<- A];simp) c7 y (λx g=>by
        rcases g with⟨g,_⟩|g
        .exact .inl g
        .exact .inl (f4 x<|a0 x g)) c8 (λq u hq c5=>by
        rcases zvC p q with⟨q',rfl⟩|c4
        .rw [c3 q'];rw[b4 q']at hq;refine zq8 I a8 D hb e4 a9 F hset a1 J q' (λz j d0 he k c X b8=>?_) y hq;subst he X;exfalso;cases k with
         |succ k=>simp at b8
         |zero=>have h9:=kW.1 c5 (cols p++[off]) (qF.2 rfl);exact absurd (ztf p z off d0) h9
        .exact c2 q u hq λq' he=>absurd ⟨q',he⟩ c4)
       have d:=a7.putV (dst:=o.dst) (m:=.und) (v:=undef) rfl (λn B=>by simp[MV.ids,zbL]at B)
       refine zxP (w':=w1) ?_ ⟨d.mem,⟨λn R B=>.inl (d.ids.ro n R B),λn cs B=>⟨.inl (d.ids.lo n cs B).1,λa ha m hm=>.inl ((d.ids.lo n cs B).2 a ha m hm)⟩,λm hm n B=>.inl (d.ids.tm m hm n B),λf hf m hm n B=>.inl (d.ids.stk f hf m hm n B)⟩,d.tm,d.stk⟩;simp[execOp,ho,Instr.storeAt,e5,Instr.sureAddr,hv,N]
      .cases h
     .cases h
    .cases h
   .cases h
  .cases h
 .cases h
def z7u (d:CfgOk C)(w0 w:World)(S0:zbd)(U:Nat->Prop)(st:St)(E:Env)(ts:LV)(sv:List LV)(o:Oper)(id:Nat)(c:Bool)(a:St)(e:Sim w0 S0 U st E ts sv w)(h:graft C st o=some (c,a))(f:c=true) :
 Goes C w0 S0 U st ts sv w o id (λ_=>a.put o.dst .und)/\a.nid=st.nid:=by
 unfold graft at h;cases b:zNG C st o with
 |some x=>rw[b]at h;cases h;exact z7t d w0 w S0 U st E ts sv o id c a e b f
 |none=>rw[b]at h;exact z1r d w0 w S0 U st E ts sv o id c a e h
def zFx {n0:Nat}(c4:w0.heap.size<=n0)(c6:∀q Q,st.root q=some Q->∀x,E.φ q x->x<n0)(c3:∀l C,zy st.lo l=some C->E.β l<n0)(hS:Sim w0 S0 U st E ts sv w){r:Nat}{R:Root}(hR:st.root r=some R)(ho:R.own=true){m:List R.t.den}{js:List (List Nat)}{S3:zbd}(c5:w1.os=w.os)(c7:w1.tape=w.tape)(a9:w1.output=w.output)(b3:w.heap.size<=w1.heap.size)(M:∀x,x<w.heap.size->¬ E.φ r x->w1.heap[x]?=w.heap[x]?)(a0:∀x,S3 x->(E.φ r x\/n0<=x)/\x<w1.heap.size)(b1:Rep true w1 (E.ρ r) (.s R.t m) S3)(a8:∀q u,zbg w R.t (E.ρ r) q=some u->js.any (λc=>c.isPrefixOf (cols q))=false->zbg w1 R.t (E.ρ r) q=some u) :
 Sim w0 S0 U (zj8 st r R m js) {E with φ:=λn=>if n=r then S3 else E.φ n} ts sv w1:=by
 have B:=hS.mem;obtain⟨b0,b2⟩:=B.mine r R hR ho;have g:∀q Q,(zj8 st r R m js).root q=some Q->(q=r/\Q={R with l:=m})\/(q≠r/\st.root q=some Q/\Q.ep=none):=by intro q Q F;obtain⟨D,H⟩:=zbD F;simp only[zj8,zy]at D H;split at D;{rename_i K;simp only[qK]at K;cases D;exact .inl ⟨K.symm,rfl⟩};{rename_i K;simp only[qK]at K;refine .inr ⟨λh=>K h.symm,?_⟩;rcases H with H|H;{exact⟨zg5 D<|.inl H,H⟩};{have:=B.epo q Q _ D H;omega}}
 have a7:∀q Q,q≠r->st.root q=some Q->Q.ep=none->∀x,E.φ q x->w1.heap[x]?=w.heap[x]? :=
  λq Q y F L x G=>M x (B.rlt q Q F x G) (λh=>B.apart r R q Q hR ho F L (λe=>y e.symm) x h G)
 have a2:∀q Q,q≠r->st.root q=some Q->Q.ep=none->∀x,S3 x->¬ E.φ q x:=by intro q Q y F L x G b4;rcases (a0 x G).1 with h|h;{exact B.apart r R q Q hR ho F L (λe=>y e.symm) x h b4};{have:=c6 q Q F x b4;omega}
 have T:∀a v,VA w st E a v->VA w1 (zj8 st r R m js) {E with φ:=λn=>if n=r then S3 else E.φ n} (zdA r js a) v:=by
  have Z:∀A q u Q,(r=A->js.any (λc=>c.isPrefixOf (cols q))=false)->(zj8 st r R m js).root A=some Q->(∀R',st.root A=some R'->zbg w R'.t (E.ρ A) q=some u)->zbg w1 Q.t (E.ρ A) q=some u:=(by intro A q u Q c0 L a3;rcases g A Q L with⟨rfl,rfl⟩|⟨y,z,I⟩;{exact a8 q u (a3 R hR) (c0 rfl)};{have:=zdB (w':=w1) q (B.rep A Q z) (a7 A Q y z I);rw[this];exact a3 Q z});have b6:∀A Q,(zj8 st r R m js).root A=some Q->∃R',st.root A=some R'/\R'.t=Q.t:=(by intro A Q L;rcases g A Q L with⟨rfl,rfl⟩|⟨y,z,I⟩;{exact⟨R,hR,rfl⟩};{exact⟨Q,z,rfl⟩});have loc:∀l C,zy (zj8 st r R m js).lo l=some C->∃d,zy st.lo l=some d:=by intro l C h;simp only[zj8]at h;rw[znt]at h;cases hl:zy st.lo l with|none=>rw[hl]at h;cases h|some d=>exact⟨d,rfl⟩
  intro a v Y;cases a with
  |bad=>trivial
  |i k n=>exact Y
  |b x=>exact Y
  |sl A q=>simp only[zdA];split;{trivial};{rename_i a6;refine⟨Y.1,λQ L=>Z A q v Q (λe=>?_) L Y.2⟩;subst e;simpa using a6}
  |lp l d0=>refine⟨Y.1,λC h=>?_⟩;obtain⟨d,h'⟩:=loc l C h;exact Y.2 d h'
  |ep A q i o=>simp only[zdA];split;{trivial};{rename_i a6;refine⟨Y.1,λQ L=>?_⟩;obtain⟨R',P,ht⟩:=b6 A Q L;obtain⟨b',o',len,b7,t',D,H,h3⟩:=Y.2 R' P;refine⟨b',o',len,b7,t',Z A q _ Q (λe=>?_) L λR2 S=>?_,by rw[<- ht];exact H,h3⟩;{subst e;simpa using a6};{rw [P]at S;cases S;exact D}}
  |kp A J t=>
   have b5:(r=A->coarse js J=true)->VA w1 (zj8 st r R m js) {E with φ:=λn=>if n=r then S3 else E.φ n} (.kp A J t) v:=λhc=>by
    refine⟨Y.1,λQ L=>?_⟩;obtain⟨R',P,ht⟩:=b6 A Q L;obtain⟨D,H,h3⟩:=Y.2 R' P;refine⟨ht.symm.trans D,H,λp u hp hJ=>?_⟩;have:=Z A p u Q (λe=>zBe (hc e) hJ) L (λR2 S=>by
     rw[P]at S;cases S;rw[D,H];exact h3 p u hp hJ)
    rw[<- ht,D] at this;rw[show E.ρ A=v from H] at this
    exact this
   simp only[zdA];cases hb:Nat.beq r A with
   |false=>exact b5 (λe=>by subst e;simp at hb)
   |true=>cases hc:coarse js J with
    |true=>exact b5 (λ_=>hc)
    |false=>trivial
  |fn f c9=>obtain⟨vs,D,H,h3⟩:=Y;refine⟨vs,D,H,λk l u hk hu=>⟨(h3 k l u hk hu).1,λC h=>?_⟩⟩;obtain⟨d,h'⟩:=loc l C h;exact(h3 k l u hk hu).2 d h'
 have W:∀l C,zy (zj8 st r R m js).lo l=some C->∃d,zy st.lo l=some d/\C=d.map (zdA r js):=by intro l C h;simp only[zj8]at h;rw[znt]at h;cases hl:zy st.lo l with|none=>rw[hl]at h;cases h|some d=>rw[hl]at h;cases h;exact⟨d,rfl,rfl⟩
 have c8:∀l C,zy st.lo l=some C->E.β l<w.heap.size:=by intro l C h;obtain⟨_,a4,e,H,_⟩:=B.loc l C h;exact(qO.1 H).1
 refine⟨⟨c5.trans B.os,c7.trans B.tape,a9.trans B.output,qT B.size b3,?_,?_,?_,?_,?_,?_,?_,?_,?_,?_,B.κ⟩,⟨?_,?_,?_,?_⟩,zzn T hS.tm,zzo T hS.stk⟩
 .intro x G hnS;refine(M x (jB G B.size) λh=>?_).trans (B.keep x G hnS);rcases b2 x h with h|h
  .exact hnS h
  .omega
 .intro q Q F;rcases g q Q F with⟨rfl,rfl⟩|⟨y,z,I⟩
  .simp only [if_true,ho];exact b1
  .simp only [if_neg y];exact(B.rep q Q z).frame (a7 q Q y z I)
 .intro q Q F x G;rcases g q Q F with⟨rfl,rfl⟩|⟨y,z,I⟩
  .simp only [if_true]at G;exact(a0 x G).2
  .simp only [if_neg y]at G;exact jB (B.rlt q Q z x G) b3
 .intro q Q F hoq;rcases g q Q F with⟨rfl,rfl⟩|⟨y,z,I⟩
  .refine⟨b0,λx G=>?_⟩;simp only[if_true]at G;rcases (a0 x G).1 with h|h
   .exact b2 x h
   .exact .inr (qT c4 h)
  .simp only [if_neg y];exact B.mine q Q z hoq
 .intro hz q Q F hoq K hf;rcases g q Q F with⟨rfl,rfl⟩|⟨y,z,I⟩
  .exact absurd (show R.own=false from hoq) (by rw[ho];exact Bool.noConfusion)
  .simp only [if_neg y];exact B.frz hz q Q z hoq K hf
 .intro q Q q' Q' F hoq hq' K hnn x G;rcases g q Q F with⟨rfl,rfl⟩|⟨y,z,I⟩
  .rcases g q' Q' hq' with⟨rfl,rfl⟩|⟨N,X,O⟩
   .exact absurd rfl hnn
   .simp only [if_true]at G;simp only[if_neg N];exact a2 q' Q' N X O x G
  .simp only [if_neg y]at G;rcases g q' Q' hq' with⟨rfl,rfl⟩|⟨N,X,O⟩
   .simp only [if_true];exact λh=>a2 q Q y z I x h G
   .simp only [if_neg N];exact B.apart q Q q' Q' z hoq X O hnn x G
 .intro l C hl;obtain⟨d,V,rfl⟩:=W l C hl;obtain⟨D,a4,e,H,h3,h4⟩:=B.loc l d V;refine⟨D,a4,e,(M _ (c8 l d V) λh=>B.lro l d r R V hR h).trans H,by simp[h3],λj c u hc hu=>?_⟩
  rw[qQ]at hc;cases a1:d[j]? with
  |none=>rw[a1]at hc;cases hc
  |some c'=>rw[a1]at hc;cases hc;exact⟨(h4 j c' u a1 hu).1,T _ _ (h4 j c' u a1 hu).2⟩
 .intro l l' C d hl V K;obtain⟨c1,D,_⟩:=W l C hl;obtain⟨c2,H,_⟩:=W l' d V;exact B.linj l l' c1 c2 D H K
 .intro l C q Q hl F;obtain⟨c1,D,_⟩:=W l C hl;rcases g q Q F with⟨rfl,rfl⟩|⟨y,z,I⟩
  .simp only [if_true];intro G;rcases (a0 _ G).1 with h|h
   .exact B.lro l c1 q R D hR h
   .have:=c3 l c1 D;omega
  .simp only [if_neg y];exact B.lro l c1 q Q D z
 .intro q Q e F K;simp only[zj8,zy]at F
  show e<=st.ep+1
  split at F
  .cases F;simp only[b0]at K;cases K
  .exact uY (B.epo q Q e F K)
 .intro n Q hn;simp only[zj8,zy]at hn;split at hn
  .rename_i K;simp only[qK]at K;subst K;exact hS.ids.ro _ R (zbD hR).1
  .exact hS.ids.ro n Q hn
 .intro n C hn;obtain⟨d,D,rfl⟩:=W n C hn;refine⟨(hS.ids.lo n d D).1,λa ha k hk=>?_⟩;obtain⟨a',b8,rfl⟩:=jH.1 ha;exact(hS.ids.lo n d D).2 a' b8 k (zzm hk)
 .intro m' hm n hn;obtain⟨m0,a5,rfl⟩:=jH.1 hm;exact hS.ids.tm m0 a5 n (ztS hn)
 .intro f hf m' hm n hn;obtain⟨f0,b9,rfl⟩:=jH.1 hf;obtain⟨m0,a5,rfl⟩:=jH.1 hm;exact hS.ids.stk f0 b9 m0 a5 n (ztS hn)
def zJj (g:Sim w0 S0 U st E ts sv w){r:Nat}{R:Root}(A:st.root r=some R)(B:R.own=true){m:List R.t.den}{js:List (List Nat)}{S3:zbd}(j:w1.os=w.os)(p:w1.tape=w.tape)(d:w1.output=w.output)(k:w.heap.size<=w1.heap.size)(a:∀x,x<w.heap.size->¬ E.φ r x->w1.heap[x]?=w.heap[x]?)(i:∀x,S3 x->(E.φ r x\/w.heap.size<=x)/\x<w1.heap.size)(f:Rep true w1 (E.ρ r) (.s R.t m) S3)(b:∀q u,zbg w R.t (E.ρ r) q=some u->js.any (λc=>c.isPrefixOf (cols q))=false->zbg w1 R.t (E.ρ r) q=some u) :
 Sim w0 S0 U (zj8 st r R m js) {E with φ:=λn=>if n=r then S3 else E.φ n} ts sv w1 :=
 zFx (n0:=w.heap.size) g.mem.size (λq Q h x C=>g.mem.rlt q Q h x C) (λl y h=>by
  obtain⟨_,v,e,z,_⟩:=g.mem.loc l y h;exact(qO.1 z).1) g A B j p d k a i f b
def zbac (hH:MctOk C)(w0 w:World)(S0:zbd)(U:Nat->Prop)(st:St)(E:Env)(ts:LV)(sv:List LV)(o:Oper)(id:Nat)(c:Bool)(M:St)(mv:MV)(hS:Sim w0 S0 U st E ts sv w)(h:zXl C st o=some (c,M,mv))(hc:c=true) :
 Goes C w0 S0 U st ts sv w o id (λ_=>M.put o.dst mv)/\M.nid=st.nid:=by
 subst hc;unfold zXl at h;split at h
 .rename_i cl ho;split at h
  .rename_i f hcb;split at h
   .rename_i run x y hmct hargs;split at h
    .rename_i r p k hx hy;split at h
     .rename_i R t l hR g;split at h
      .rename_i cc t' l' k' hrun;split at h
       .rename_i hcond;obtain⟨F,rfl⟩:=hcond;split at h
        .rename_i m hput;simp only[qC,jT]at h;obtain⟨rfl,rfl,rfl⟩:=h;refine⟨?_,rfl⟩;obtain⟨⟨fn,bd,hf,a4,I⟩,a3⟩:=hH.ok f run hmct;obtain⟨b5,c0⟩:=zbN hS hx;have a0:=(zbN hS hy).1;simp only[VA]at a0;have N:=hS.mem;have G:=N.rep r R hR;rw[F]at G;have hh:=b5.2 R hR;obtain⟨t1,l0,S1,f1,f2,f3,f4,f5⟩:=Rep.focus p G hh;have a8:ziZ R.t R.l p=some (.s t' l):=by obtain⟨R',O,a7⟩:=zg7 g;rw[hR]at O;cases O;exact a7
         rw[a8] at f1;cases f1;obtain⟨_,_,_,_,a2⟩:=f5 w l S1 (λ_ _ _=>rfl) (λ_ h _=>h) f3;intro next Q J;have a5:cl.args = #[x,y]:=by rw[<- hargs]
         have D:fn.name≠ "runtime.NumGoroutine":=by simpa using I
         have H:(execOp ({tmps:=ts,defers:=[]}:Act).eval o).run C.P w = .ok (.enter f #[({tmps:=ts,defers:=[]}:Act).eval x,.int .i64 k]) w:=by have a6:({tmps:=ts,defers:=[]}:Act).eval (.func f) = .func (.func f) #[] #[]:=rfl;simp[execOp,ho,resolve,hcb,Deferred.ofValue,invoke,callFunc,hf,a4,D,a5,a0,a6]
         unfold Oper.wp;rw[H,Oper.upon_enter];refine(a3 w _ t' l k S1 _ k' f3 (λz d=>N.rlt r R hR z (f4 z d)) hrun).mono ?_;intro e w1 T;cases e with
         |panicked a1=>exact T.elim
         |outgrown=>exact T.elim
         |returned u=>
          obtain⟨b1,b4,X,Z,A,rfl,S2,L,S⟩:=T;obtain⟨m',W,b2,a9,b9⟩:=f5 w1 l' S2 (λz d K=>A z (N.rlt r R hR z d) K) (λz d b6=>by
           rcases (S z d).1 with h|h
           .exact h
           .have:=N.rlt r R hR z b6;omega) L
          rw[hput]at W;cases W;have Y:=zJj (w1:=w1) (m:=m) (js:=(List.range t'.wi).map λj=>cols p++[j]) hS hR F b1 b4 X Z (λz d K=>A z d λh=>K (f4 z h)) (λz d=>by
           rcases d with⟨d,_⟩|d
           .exact⟨.inl d,jB (N.rlt r R hR z d) Z⟩
           .obtain⟨h1,h2⟩:=S z d;exact⟨h1.imp (f4 z) λh=>h,h2⟩) b2 (λq u B b0=>by
           refine a9 q u B (λq' T=>?_);subst T;cases q' with
           |nil=>rfl
           |cons ij b7 =>
            obtain⟨i',j⟩:=ij;exfalso;rw[a2]at B;have hj:j<t'.wi:=by generalize ({tmps:=ts,defers:=[]}:Act).eval x=vx at B;cases vx with|slice a len b8=>(cases a with|none=>simp[zbg]at B|some a=>simp only[zbg]at B;split at B;{split at B;{rename_i b3;rw[<- zf7];exact(qA.1 b3).1};{cases B}};{cases B})|_=>simp[zbg]at B
            have h9:=kW.1 b0 (cols p++[j]) (jH.2 ⟨j,kR.2 hj,rfl⟩);exact absurd (ztf p i' j b7) h9)
          have b:=Y.putV (dst:=o.dst) (m:=.v (.at<|.i .i64 k')) (v:=.int .i64 k') rfl (λn g=>by simp[MV.ids,zbL,zZ,At.ids,zby,zbG]at g);exact J _ _ _ ⟨b.mem,⟨λn R g=>.inl (b.ids.ro n R g),λn cs g=>⟨.inl (b.ids.lo n cs g).1,λa ha m V=>.inl ((b.ids.lo n cs g).2 a ha m V)⟩,λm V n g=>.inl (b.ids.tm m V n g),λf hf m V n g=>.inl (b.ids.stk f hf m V n g)⟩,b.tm,b.stk⟩
        .cases h
       .cases h
      .cases h
     .cases h
    .cases h
   .cases h
  .cases h
 .cases h
end
def zbk (own:List Bool)(j:Nat):Prop:=own[j]?=some true
def zbU (P:Program)(f:FuncId)(own:List Bool)(y:LC->LA->Option (Bool×LC×LA)):Prop :=
 FnOk P f/\∀(w:World) (blk:Nat) (g:LV) (e:TypeId) (a:LC) (K:Nat->zbd) (m:LA) (A:List Value) (z:zbd) (h:LC) (p:LA),
  w.heap[blk]?=some (.cells g e (0,0))->g.size=a.length->own.length=a.length->
  (∀(j:Nat) (c:CV) (u:Value),a[j]?=some c->g[j]?=some u->Rep ((own[j]?).getD false) w u c (K j))->
  (∀j x,j<a.length->K j x->x<w.heap.size/\x≠blk)->
  (∀i j x,i<a.length->j<a.length->zbk own i->i≠j->K i x->¬ K j x)->
  zeb false w (zI m) A (λ_=>z)->(∀x,z x->x<w.heap.size/\x≠blk/\∀j,j<a.length->zbk own j->¬ K j x)->
  y a m=some (true,h,p)->
  Calls P f (#[.pointer<|some ⟨blk,0,none⟩]++(zb6 m A).toArray) w fun
   |.returned v,w'=>w'.os=w.os/\w'.tape=w.tape/\w'.output=w.output/\w.heap.size<=w'.heap.size/\
    (∀b,b<w.heap.size->b≠blk->(∀j,j<a.length->zbk own j->¬ K j b)->w'.heap[b]?=w.heap[b]?)/\
    ∃(d:LV) (C:TypeId) (q:Nat->zbd) (B:List Value) (r:Nat->zbd),w'.heap[blk]?=some (.cells d C (0,0))/\d.size=h.length/\h.length=a.length/\
     (∀(j:Nat) (c:CV) (u:Value),h[j]?=some c->d[j]?=some u->match c with
      |.i k n=>u = .int k n
      |.b x=>u = .bool x
      |.s t l=>(zbk own j->Rep true w' u (.s t l) (q j))/\(¬ zbk own j->g[j]?=some u))/\
     zvX (zrp f) w' (zI p) B r/\v=zmk (zb6 p B)/\
     (∀j x,j<a.length->q j x->x<w'.heap.size/\x≠blk/\((∃i,i<a.length/\zbk own i/\K i x)\/w.heap.size<=x))/\
     (∀i x,i<(zI p).length->r i x->x<w'.heap.size/\x≠blk/\((∃i,i<a.length/\zbk own i/\K i x)\/w.heap.size<=x))/\
     (∀i j x,i<a.length->j<a.length->i≠j->q i x->¬ q j x)/\
     (∀i j c x,(zI p)[i]?=some c->zrp f c=true->j<(zI p).length->i≠j->r i x->¬ r j x)/\
     (∀i j x,i<a.length->j<(zI p).length->q i x->¬ r j x)
   |_,_=>False
structure PctOk (C:Cfg):Prop where
 ok:∀f own run,C.pct f=some (own,run)->zbU C.P f own run
section
variable {C:Cfg} {w0 w w1:World} {S0:zbd} {U:Nat->Prop} {st st1:St} {E E1:Env} {ts:Array Value} {sv:List (Array Value)}
structure Blk (st:St) (own:List Bool) (cells:List At) (cs:List CV) (ks:List Nat):Prop where
 len:cs.length=cells.length
 olen:own.length=cells.length
 ownk:∀r∈ks,∃j,zbk own j/\cells[j]?=some (.sl r [])
 get:∀(j:Nat) (a:At),cells[j]?=some a->(∃k n,a = .i k n/\cs[j]?=some (.i k n))\/(∃x,a = .b x/\cs[j]?=some (.b x))\/
  ∃r R,a = .sl r []/\st.root r=some R/\R.ep=none/\own[j]?=some R.own/\cs[j]?=some (.s R.t R.l)/\(R.own=true->r∈ks)
 inj:∀(i j r:Nat),zbk own i->cells[i]?=some (.sl r [])->cells[j]?=some (.sl r [])->i=j
def zXM:∀(own:List Bool) (cells:List At) (s:LC) (ks:List Nat),st.blk own cells=some (s,ks)->Blk st own cells s ks
 |[],[],s,ks,h=>by cases h;exact⟨rfl,rfl,fun r h=>by simp at h,fun j a h=>by simp at h,fun i j r h=>by simp[zbk]at h⟩
 |[],a::r,s,ks,h=>by simp[St.blk]at h
 |o::ms,[],s,ks,h=>by simp[St.blk]at h
 |o::ms,a::r,s,ks,h=>by
  simp only[St.blk]at h;split at h;{cases h}
  .rename_i cs0 ks0 h0;have f:=zXM ms r cs0 ks0 h0;have flat:∀(c:CV),(∀q,a≠.sl q [])->((∃k n,a = .i k n/\c = .i k n)\/(∃x,a = .b x/\c = .b x))->Blk st (o :: ms) (a :: r) (c :: cs0) ks0:=by
    intro c y H;refine⟨by simp[f.len],by simp[f.olen],fun q F=>?_,fun j b p=>?_,fun i j q m e d=>?_⟩;{obtain⟨j,e,d⟩:=f.ownk q F;exact⟨j+1,by simpa [zbk] using e,by simpa using d⟩}
    .cases j with
     |zero=>simp only[qI,qC]at p;subst p;rcases H with⟨k,n,e,d⟩|⟨x,e,d⟩;{exact .inl ⟨k,n,e,by simp[d]⟩};{exact .inr (.inl ⟨x,e,by simp[d]⟩)}
     |succ j=>simpa using f.get j b (by simpa using p)
    {cases i with|zero=>simp only[qI,qC]at e;exact absurd e (y q)|succ i=>(cases j with|zero=>simp only[qI,qC]at d;exact absurd d (y q)|succ j=>have:=f.inj i j q (by simpa [zbk] using m) (by simpa using e) (by simpa using d);omega)}
   split at h;{rename_i k n;cases h;exact flat _ (fun q h=>by cases h) (.inl ⟨k,n,rfl,rfl⟩)};{rename_i x;cases h;exact flat _ (fun q h=>by cases h) (.inr ⟨x,rfl,rfl⟩)}
   .rename_i q;split at h
    .rename_i R hR;split at h
     .rename_i hcond;simp only[qE,jE,jN,decide_eq_false_iff_not,qK,jZ]at hcond;obtain⟨⟨l,E⟩,z⟩:=hcond;cases h;have g:∀x,x∈cond o (q::ks0) ks0↔(o=true/\x=q)\/x∈ks0:=(by intro x;cases o<;>simp);refine⟨by simp[f.len],by simp[f.olen],fun x G=>?_,fun j b p=>?_,fun i j x m e d=>?_⟩;{rcases (g x).1 G with⟨rfl,rfl⟩|G;{exact⟨0,rfl,rfl⟩};{obtain⟨j,e,d⟩:=f.ownk x G;exact⟨j+1,by simpa [zbk] using e,by simpa using d⟩}}
      .cases j with
       |zero=>simp only[qI,qC]at p;subst p;exact .inr (.inr ⟨q,R,rfl,hR,E,by simp[l],by simp,fun h=>(g q).2 (.inl ⟨by rw[<- l];exact h,rfl⟩)⟩)
       |succ j=>rcases f.get j b (by simpa using p) with h|h|⟨B,A,t,u,C,v,D,w⟩;{exact .inl (by simpa using h)};{exact .inr (.inl (by simpa using h))};{exact .inr (.inr ⟨B,A,t,u,C,by simpa using v,by simpa using D,fun h=>(g B).2 (.inr (w h))⟩)}
      .have old:∀(i:Nat),zbk ms i->r[i]?=some (.sl q [])->False:=by intro i m F;rcases f.get i _ F with⟨_,_,h,_⟩|⟨_,h,_⟩|⟨B,A,t,u,C,v,D,w⟩;{cases h};{cases h};{cases t;have:A.own=true:=(by rw[m] at v;simpa using v.symm);exact z (w this)}
       cases i with
       |zero=>
        cases j with
        |zero=>rfl
        |succ j=>simp only[qI,qC,At.sl.injEq,and_true]at e;subst e;simp only[zbk,qI,qC]at m;subst m;simp only[jS]at d;exfalso;rcases f.get j _ d with⟨_,_,h,_⟩|⟨_,h,_⟩|⟨B,A,t,u,C,v,D,w⟩;{cases h};{cases h};{cases t;rw[hR] at u;cases u;exact z (w l)}
       |succ i=>cases j with|zero=>simp only[qI,qC,At.sl.injEq,and_true]at d;subst d;exact(old i (by simpa [zbk] using m) (by simpa using e)).elim|succ j=>have:=f.inj i j x (by simpa [zbk] using m) (by simpa using e) (by simpa using d);omega
     {cases h}
    {cases h}
   {cases h}
def zNl:∀(own:List Bool) (cells:List At) (g:LC) (id:Nat) (d:List At),zq1 own cells g id=some d->d.length=cells.length/\g.length=cells.length/\
 ∀(j:Nat) (b:At),d[j]?=some b->(∃k n,b = .i k n/\g[j]?=some (.i k n))\/(∃x,b = .b x/\g[j]?=some (.b x))\/
  (∃t l,b = .sl (id+j) []/\zbk own j/\g[j]?=some (.s t l))\/(∃t l r,b = .sl r []/\¬ zbk own j/\cells[j]?=some (.sl r [])/\g[j]?=some (.s t l))
 |[],[],[],id,d,h=>by cases h;exact⟨rfl,rfl,fun j b h=>by simp at h⟩
 |o::ms,a::r,c::cs,id,d,h=>by
  simp only[zq1]at h;split at h;{cases h}
  .rename_i l0 h0;obtain ⟨p,u,v⟩:=zNl ms r cs (id+1) l0 h0;have m:∀(j:Nat) (b:At),l0[j]?=some b->(∃k n,b = .i k n/\(c :: cs)[j+1]?=some (.i k n))\/(∃x,b = .b x/\(c :: cs)[j+1]?=some (.b x)) \/
    (∃t l,b = .sl (id+(j+1)) []/\zbk (o::ms) (j+1)/\(c::cs)[j+1]?=some (.s t l))\/(∃t l q,b = .sl q []/\¬ zbk (o::ms) (j+1)/\(a::r)[j+1]?=some (.sl q [])/\(c::cs)[j+1]?=some (.s t l)):=by
    intro j b f;have:=v j b f;have e:id+1+j=id+(j+1):=by omega
    rw[e] at this;simpa [zbk] using this
   split at h;{split at h;{rename_i k y n w;cases h;refine⟨by simp[p],by simp[u],fun j b f=>?_⟩;cases j with|zero=>simp only[qI,qC]at f;subst f w;exact .inl ⟨_,_,rfl,rfl⟩|succ j=>exact m j b (by simpa using f)};{cases h}};{cases h;refine⟨by simp[p],by simp[u],fun j b f=>?_⟩;cases j with|zero=>simp only[qI,qC]at f;subst f;exact .inr (.inl ⟨_,rfl,rfl⟩)|succ j=>exact m j b (by simpa using f)};{rename_i q t l;cases h;refine⟨by cases o<;>simp [p],by simp[u],fun j b f=>?_⟩;cases j with|zero=>(cases o with|true=>simp only[cond_true,qI,qC]at f;subst f;exact .inr (.inr (.inl ⟨_,_,rfl,rfl,rfl⟩))|false=>simp only[cond_false,qI,qC]at f;subst f;exact .inr (.inr (.inr ⟨_,_,q,rfl,by simp[zbk],rfl,rfl⟩)))|succ j=>exact m j b (by cases o<;>simpa using f)};{cases h}
 |[],[],_::_,_,_,h=>by simp[zq1]at h
 |[],_::_,_,_,_,h=>by simp[zq1]at h
 |_::_,[],_,_,_,h=>by simp[zq1]at h
 |_::_,_::_,[],_,_,h=>by simp[zq1]at h
def zUn:∀(own:List Bool) (a:LC) (id n:Nat) (R:Root),zy (zhE own a id) n=some R->id<=n/\zbk own (n-id)/\∃t l,a[n-id]?=some (.s t l)/\R=zdN t l
 |[],_,_,_,_,h=>by cases h
 |o::ms,[],_,_,_,h=>by cases h
 |o::ms,c::a,id,n,R,h=>by have d:zy (zhE ms a<|id+1) n=some R->id<=n/\zbk (o::ms) (n-id)/\∃t l,(c::a)[n-id]?=some (.s t l)/\R=zdN t l:=λh=>(by obtain⟨p,g,t,l,j,m⟩:=zUn ms a (id+1) n R h;have e:n-id=(n-(id+1))+1:=(by omega);exact⟨by omega,by rw[e];simpa [zbk] using g,t,l,by rw[e,jS];exact j,m⟩);cases c with|i k x=>exact d h|b x=>exact d h|s t l=>(cases o with|false=>exact d h|true=>simp only[zhE,cond_true,zy]at h;split at h;{rename_i f;simp only[qK]at f;subst f;cases h;exact⟨qX _,by simp[zbk],t,l,by simp,rfl⟩};{exact d h})
def zvv:∀(ks:List Nat) (n:Nat) (R:Root),zy (killed st ks) n=some R->R.ep=some st.ep/\∃Q,zy st.ro n=some Q
 |[],_,_,h=>by cases h
 |k::ks,n,R,h=>by simp only[killed]at h;split at h;{rename_i Q b;simp only[zy]at h;split at h;{rename_i a;simp only[qK]at a;subst a;cases h;exact⟨rfl,Q,b⟩};{exact zvv ks n R h}};{exact zvv ks n R h}
def ztl:∀(ks:List Nat) (n:Nat) (Q:Root),zy (killed st ks) n=none->zy st.ro n=some Q->n∉ks
 |[],_,_,_,_=>by simp
 |k::ks,n,Q,h,b=>by simp only[killed]at h;intro a;rcases qG.1 a with rfl|a;{rw [b]at h;simp[zy]at h};{split at h;{simp only [zy]at h;split at h;{cases h};{exact ztl ks n Q h b a}};{exact ztl ks n Q h b a}}
def zE4 (A:Sim w0 S0 U st E ts sv w){ks:List Nat}{q:zbd}(g:∀r R x,st.root r=some R->R.ep=none->r∉ks->E.φ r x->q x){a:At}{u:Value}{c:CV}(h:(zby a).all (λr=>!ks.contains r&&(match st.root r with|some R=>R.ep.isNone|none=>false))=true)(d:st.cvOf a=some c)(j:VA w st E a u):Rep false w u c q:=by
 cases a with
 |i k n=>cases d;cases j;exact .i _ _ _
 |b x=>cases d;cases j;exact .b _ _
 |sl r p=>simp only[St.cvOf]at d;obtain⟨R,e,hg⟩:=zg7 d;simp only[zby,k9,List.all_nil,vH,e,qE,jE,jN,decide_eq_false_iff_not,jZ]at h;obtain⟨G,F,C,v,D,y,z⟩:=Rep.at p (A.mem.rep r R e) (j.2 R e);rw[hg]at v;cases v;exact(y.weak λx B=>g r R x e h.2 h.1 (z x B)).ro
 |bad=>cases d
 |lp l m=>cases d
 |ep r p i m=>cases d
 |fn f s=>cases d
 |kp r J t=>cases d
def zI1 (s:Sim w0 S0 U st E ts sv w){ks:List Nat}{Ka:zbd}(n:∀r R x,st.root r=some R->R.ep=none->r∉ks->E.φ r x->Ka x):∀(l:List Operand) (g:LA),zcR (λx=>match st.opnd x with|some v=>st.avF ks v|none=>none) l=some g->
 ∃q,zeb false w (zI g) q (λ_=>Ka)/\l.map ({tmps:=ts,defers:=[]}:Act).eval=zb6 g q
 |[],g,h=>by cases h;exact⟨[],⟨rfl,λi c x h=>by simp[zI]at h⟩,rfl⟩
 |x::r,g,h=>by simp only[zcR]at h;split at h;{rename_i Q b;split at h;{rename_i d P;cases h;obtain⟨q,p,H⟩:=zI1 s n r d P;split at b;{rename_i S B;obtain⟨I,-⟩:=zcn s B;unfold St.avF at b;split at b;{rename_i k;have j:=qP.1 k;unfold St.avOf at b;split at b;{rename_i a;split at b;{rename_i c M;cases b;have L:=zE4 s n (j a (by simp[zbL,zZ])) M I;refine⟨({tmps:=ts,defers:=[]}:Act).eval x::q,?_,by simp[zb6,H]⟩;have e:zI (AV.one c::d)=[c]++zI d:=(by simp[zI,AV.cvs]);rw[e];refine zeb.append (x1:=[({tmps:=ts,defers:=[]}:Act).eval x]) ⟨rfl,λi K u f t=>?_⟩ p;cases i with|zero=>simp at f t;subst f t;exact L|succ i=>simp at f};{cases b}};{rename_i l;split at b;{rename_i y A;cases b;obtain⟨J,D,C,F⟩:=I;obtain⟨G,N⟩:=zpi A;have m:J.toList.length=y.length:=(by simp[C,G]);refine⟨J.toList++q,?_,?_⟩;{have e:zI (AV.agg y::d)=y++zI d:=(by simp[zI,AV.cvs]);rw[e];refine zeb.append ⟨m,λi K u f t=>?_⟩ p;have O:i<l.length:=(by rw[G];exact(qA.1 f).1);have z:=qB O;exact zE4 s n (j _ (by simp only[zbL,zZ];exact qJ z)) (N i _ _ z f) (F i _ u z (by simpa using t)).2};{simp only [jG,zb6,D,<- m,kU,uE,H,jX]}};{cases b}};{cases b}};{cases b}};{cases b}};{cases h}};{cases h}
def cφ (E:Env)(cells:List At)(j:Nat):zbd:=match cells[j]? with
 |some a=>aφ E a
 |none=>λ_=>False
def zjs {cells:List At}{j:Nat}{a:At}(h:cells[j]?=some a):cφ E cells j=aφ E a:=by unfold cφ;rw[h]
def zwr {cells:List At}{j x:Nat}(h:cφ E cells j x):∃a,cells[j]?=some a/\aφ E a x:=by unfold cφ at h;cases b:cells[j]? with|some a=>rw[b]at h;exact⟨a,rfl,h⟩|none=>rw[b]at h;exact h.elim
def zbam (hH:PctOk C)(w0 w:World)(S0:zbd)(U:Nat->Prop)(st:St)(E:Env)(ts:LV)(sv:List LV)(o:Oper)(id:Nat)(c:Bool)(e8:St)(mv:MV)(hS:Sim w0 S0 U st E ts sv w)(e0:∀n,Mine id n->¬ U n)(h:zGL C st o id=some (c,e8,mv))(hc:c=true):Goes C w0 S0 U st ts sv w o id (fun _=>e8.put o.dst mv)/\e8.nid=st.nid:=by
 subst hc;unfold zGL at h;split at h
 .rename_i cl I;split at h
  .rename_i f hcb;split at h
   .rename_i own run hpct;generalize d8:cl.args.toList=h0 at h;unfold zZE at h;split at h
    .rename_i x ys0;split at h
     .rename_i l z;split at h
      .rename_i cells hcells;split at h
       .rename_i cs ks hblk;split at h
        .rename_i avs havs;split at h
         .rename_i cc cs' rs hrun;split at h
          .rename_i cells' hnew;split at h
           .rename_i hlen;simp only[qC,jT]at h;obtain⟨rfl,rfl,rfl⟩:=h;refine⟨?_,rfl⟩;obtain⟨⟨fn,bd,hf,hbd,e4⟩,hHP⟩:=hH.ok f own run hpct;have hB:=zXM own cells cs ks hblk;obtain⟨g5,hn2,g6⟩:=zNl own cells cs' id cells' hnew;have hrsl:(zI rs).length<=16:=hlen.2;have G:=hS.mem;obtain⟨f9,d4,e,hl2,hl3,g0⟩:=G.loc l cells hcells;obtain⟨hxv,hxi⟩:=zbN hS z;have hxp:=hxv.2 cells hcells;have b9:∀l cs,zy st.lo l=some cs->E.β l<w.heap.size:=(by intro l cs h;obtain⟨_,d4,e,d,_⟩:=G.loc l cs h;exact(qO.1 d).1);let K:Nat->zbd:=cφ E cells
            have hK:∀j x,K j x->∃r R,cells[j]?=some (.sl r [])/\st.root r=some R/\R.ep=none/\own[j]?=some R.own/\(R.own=true->r∈ks)/\E.φ r x:=(by intro j x z;obtain⟨a,ha,z⟩:=zwr z;rcases hB.get j a ha with⟨_,_,rfl,_⟩|⟨_,rfl,_⟩|⟨r,R,rfl,g,d,H,_,h5⟩;{exact z.elim};{exact z.elim};{exact⟨r,R,ha,g,d,H,h5,z⟩});have S:∀j x,zbk own j->K j x->∃r∈ks,∃R,st.root r=some R/\R.own=true/\E.φ r x:=(by intro j x hj z;obtain⟨r,R,g,d,_,M,h5,h6⟩:=hK j x z;have:R.own=true:=(by rw[hj]at M;simpa using M.symm);exact⟨r,h5 this,R,d,this,h6⟩);have hks:∀r∈ks,∃j R,j<cs.length/\zbk own j/\cells[j]?=some (.sl r [])/\st.root r=some R/\R.own=true/\∀x,E.φ r x->K j x:=(by intro r A;obtain⟨j,g,d⟩:=hB.ownk r A;rcases hB.get j _ d with⟨_,_,h,_⟩|⟨_,h,_⟩|⟨Z,R,h,g1,g2,g3,_,_⟩;{cases h};{cases h};{cases h;refine⟨j,R,by rw[hB.len];exact(qA.1 d).1,g,d,g1,by rw[g] at g3;simpa using g3.symm,fun x z=>?_⟩;show cφ E cells j x;rw[zjs d];exact z});let Ka:zbd:=fun x=>x<w.heap.size/\x≠E.β l/\∀r∈ks,¬ E.φ r x
            obtain⟨xs,hxs,hxm⟩:=zI1 hS (ks:=ks) (Ka:=Ka) (fun r R x T V A z=>⟨G.rlt r R T x z,fun h=>G.lro l cells r R hcells T (by rw[<- h];exact z),fun q hq hqx=>by
             obtain⟨_,Q,_,_,_,hQ,hQo,_⟩:=hks q hq;exact G.apart q Q r R hQ hQo T V (fun e=>A (by rw[<- e];exact hq)) x hqx z⟩) ys0 avs havs
            have c7:cl.args.map ({tmps:=ts,defers:=[]}:Act).eval = #[.pointer (some ⟨E.β l,0,none⟩)]++(zb6 avs xs).toArray:=(by have e:cl.args=(x::ys0).toArray:=(by rw[<- d8,jX]);rw[e,List.map_toArray,jG,hxm,hxp];simp);intro next Q e5;have d0:fn.name≠ "runtime.NumGoroutine":=(by simpa using e4);have d9:(execOp ({tmps:=ts,defers:=[]}:Act).eval o).run C.P w = .ok (.enter f (#[.pointer (some ⟨E.β l,0,none⟩)]++(zb6 avs xs).toArray)) w:=(by have hfe:({tmps:=ts,defers:=[]}:Act).eval (.func f) = .func (.func f) #[] #[]:=rfl;simp[execOp,I,resolve,hcb,Deferred.ofValue,invoke,callFunc,hf,hbd,d0,c7,hfe]);unfold Oper.wp;rw[d9,Oper.upon_enter];refine(hHP w (E.β l) d4 e cs K avs xs Ka cs' rs hl2 (by rw[hl3,hB.len]) (by rw[hB.olen,hB.len]) (fun j c u c8 hu=>?_) (fun j x hj z=>?_) (fun i j x hi hj I b2 z a9=>?_) hxs (fun x z=>⟨z.1,z.2.1,fun j hj I hk=>?_⟩) hrun).mono ?_;{have hj:j<cells.length:=(by rw[<- hB.len];exact(qA.1 c8).1);have ha:=qB hj;obtain⟨_,b5⟩:=g0 j _ u ha hu;rcases hB.get j _ ha with⟨k,n,g,d⟩|⟨y,g,d⟩|⟨r,R,g,d,H,M,h5,_⟩;{rw [c8]at d;cases d;rw[g]at b5;cases b5;exact .i _ _ _};{rw [c8]at d;cases d;rw[g]at b5;cases b5;exact .b _ _};{rw [c8]at h5;cases h5;rw[g]at b5;have:=b5.2 R d;simp only[zbg,qC] at this;subst this;have A:=G.rep r R d;rw[M];refine A.weak (fun x z=>?_);show cφ E cells j x;rw[zjs ha,g];exact z}};{obtain⟨r,R,g,d,H,M,h5,h6⟩:=hK j x z;exact⟨G.rlt r R d x h6,fun h=>G.lro l cells r R hcells d (by rw[<- h];exact h6)⟩};{obtain⟨r,R,g,d,H,M,h5,h6⟩:=hK i x z;obtain⟨Z,R',N,O,c0,c3,h5',h6'⟩:=hK j x a9;have hRo:R.own=true:=(by rw[I]at M;simpa using M.symm);refine G.apart r R Z R' d hRo O c0 (fun e=>b2 (hB.inj i j r I g (by rw[e];exact N))) x h6 h6'};{obtain⟨r,A,R,g,d,H⟩:=S j x I hk;exact z.2.2 r A H}
            .intro ex w' V;cases ex with
             |panicked h9=>exact V.elim
             |outgrown=>exact V.elim
             |returned v=>
              obtain⟨hos,htp,g7,g8,b1,a8,e',K',ys,Kr,hb',g9,hcl,X,d3,rfl,f1,f4,f0,f3,f2⟩:=V;have hcs12:cs.length<=12:=by rw[hB.len];exact hlen.1
              let E1:Env:={ E with ρ:=fun n=>if id<=n/\n<id+12 then (a8[n-id]?).getD undef else if id+12<=n/\n<id+32 then (ys[n-(id+12)]?).getD undef else E.ρ n,
                                   φ:=fun n=>if id<=n/\n<id+12 then (fun x=>n-id<cs.length/\K' (n-id) x) else if id+12<=n/\n<id+32 then (fun x=>n-(id+12)<(zI rs).length/\Kr (n-(id+12)) x) else E.φ n}
              have a0:∀n,U n->E1.ρ n=E.ρ n/\E1.φ n=E.φ n:=(by intro n hn;have:¬ (id<=n/\n<id+32):=fun h=>e0 n h hn;have a1:¬ (id<=n/\n<id+12):=fun h=>this ⟨h.1,by omega⟩;have a2:¬ (id+12<=n/\n<id+32):=fun h=>this ⟨by omega,h.2⟩;simp only[E1,if_neg a1,if_neg a2,and_self]);have c4:∀n,id<=n->n<id+12->E1.ρ n=(a8[n-id]?).getD undef/\E1.φ n=fun x=>n-id<cs.length/\K' (n-id) x:=(by intro n g d;simp only[E1,if_pos (show id<=n/\n<id+12 from ⟨g,d⟩),and_self]);have c5:∀n,id+12<=n->n<id+32->E1.ρ n=(ys[n-(id+12)]?).getD undef/\E1.φ n=fun x=>n-(id+12)<(zI rs).length/\Kr (n-(id+12)) x:=(by intro n g d;have a1:¬ (id<=n/\n<id+12):=fun h=>(by omega);simp only[E1,if_neg a1,if_pos (show id+12<=n/\n<id+32 from ⟨g,d⟩),and_self]);generalize a4:({st with lo:=(l,cells')::st.lo,ro:=zhE own cs' id++(zdy (zdj f) rs (id+12)++(killed st ks++st.ro)),ep:=st.ep+1}:St)=st1;have d2:st1.ro=zhE own cs' id++(zdy (zdj f) rs (id+12)++(killed st ks++st.ro)):=(by rw[<- a4]);have d1:st1.lo=(l,cells')::st.lo:=(by rw[<- a4]);have b4:st1.ep=st.ep+1:=(by rw[<- a4]);have hA:∀r R,zy (zhE own cs' id) r=some R->id<=r/\r<id+12/\r-id<cs.length/\zbk own (r-id)/\∃t l,cs'[r-id]?=some (.s t l)/\R=zdN t l:=(by intro r R A;obtain⟨g,d,t,F,H,M⟩:=zUn own cs' id r R A;have c9:=(qA.1 H).1;exact⟨g,by omega,by omega,d,t,F,H,M⟩);have b0:∀r R,zy (zdy (zdj f) rs (id+12)) r=some R->id+12<=r/\r<id+32/\r-(id+12)<(zI rs).length/\∃t l,(zI rs)[r-(id+12)]?=some (.s t l)/\R=⟨t,l,zdj f t,none⟩:=(by intro r R A;obtain⟨g,t,F,H,M⟩:=zgx (zdj f) rs (id+12) r R A;have c9:=(qA.1 H).1;exact⟨g,by omega,c9,t,F,H,M⟩);have e7:∀r R,zy st1.ro r=some R->zy (zhE own cs' id) r=some R\/zy (zdy (zdj f) rs (id+12)) r=some R\/(R.ep=some st.ep/\∃Q,zy st.ro r=some Q)\/(zy st.ro r=some R/\r∉ks):=(by intro r R A;rw[d2,zbM]at A;split at A;{rename_i Q hQ;cases A;exact .inl hQ};{rw [zbM]at A;split at A;{rename_i Q hQ;cases A;exact .inr (.inl hQ)};{rw [zbM]at A;split at A;{rename_i Q hQ;cases A;exact .inr (.inr (.inl (zvv ks r _ hQ)))};{rename_i hn;exact .inr (.inr (.inr ⟨A,ztl ks r R hn A⟩))}}});have b8:∀r R,st1.root r=some R->zy (zhE own cs' id) r=some R\/zy (zdy (zdj f) rs (id+12)) r=some R\/(st.root r=some R/\R.ep=none/\r∉ks/\U r):=(by intro r R A;obtain⟨g,d⟩:=zbD A;rw[b4]at d;rcases e7 r R g with h|h|⟨h,_⟩|⟨h,hk⟩;{exact .inl h};{exact .inr (.inl h)};{rcases d with d|d;{rw [h]at d;cases d};{rw [h]at d;simp at d}};{rcases d with d|d;{exact .inr (.inr ⟨zg5 h (.inl d),d,hk,hS.ids.ro r R h⟩)};{have:=G.epo r R _ h d;omega}});have f7:∀r R,st.root r=some R->R.ep=none->r∉ks->∀x,E.φ r x->w'.heap[x]?=w.heap[x]?:=(by intro r R T V hk x z;refine b1 x (G.rlt r R T x z) (fun h=>G.lro l cells r R hcells T (by rw[<- h];exact z)) (fun j hj I hkx=>?_);obtain⟨q,hq,Q,g,d,H⟩:=S j x I hkx;exact G.apart q Q r R g d T V (fun e=>hk (by rw[<- e];exact hq)) x H z);have a6:∀x,(x<w'.heap.size/\x≠E.β l/\((∃i,i<cs.length/\zbk own i/\K i x)\/w.heap.size<=x))->(S0 x\/w0.heap.size<=x)/\∀r R,st.root r=some R->R.ep=none->r∉ks->¬ E.φ r x:=(by intro x ⟨g,d,H⟩;rcases H with⟨i,hi,I,hk⟩|H;{obtain⟨q,hq,Q,g1,g2,g3⟩:=S i x I hk;exact⟨(G.mine q Q g1 g2).2 x g3,fun r R T V f8 z=>G.apart q Q r R g1 g2 T V (fun e=>f8 (by rw[<- e];exact hq)) x g3 z⟩};{exact⟨.inr (qT G.size H),fun r R T V f8 z=>by have:=G.rlt r R T x z;omega⟩});have d6:∀r R,zy (zhE own cs' id) r=some R->Rep true w' (E1.ρ r) (.s R.t R.l) (E1.φ r):=(by intro r R A;obtain⟨g,d,H,M,t,F,h5,rfl⟩:=hA r R A;have hv:r-id<a8.size:=(by omega);have hu:=jM hv;have:=(X _ _ _ h5 hu).1 M;rw[(c4 r g d).1,(c4 r g d).2,hu];exact this.weak (fun x z=>⟨H,z⟩));have d7:∀r R,zy (zdy (zdj f) rs (id+12)) r=some R->Rep R.own w' (E1.ρ r) (.s R.t R.l) (E1.φ r):=(by intro r R A;obtain⟨g,d,H,t,F,h5,rfl⟩:=b0 r R A;have hv:r-(id+12)<ys.length:=(by rw[d3.1];exact H);have hu:=qB hv;rw[(c5 r g d).1,(c5 r g d).2,hu];exact(d3.2 _ _ _ h5 hu).weak (fun x z=>⟨H,z⟩));have J:∀r R,zy (zhE own cs' id) r=some R->∀x,E1.φ r x->r-id<cs.length/\K' (r-id) x:=(by intro r R A x z;obtain⟨g,d,_⟩:=hA r R A;rw[(c4 r g d).2]at z;exact z);have L:∀r R,zy (zdy (zdj f) rs (id+12)) r=some R->∀x,E1.φ r x->r-(id+12)<(zI rs).length/\Kr (r-(id+12)) x:=(by intro r R A x z;obtain⟨g,d,_⟩:=b0 r R A;rw[(c5 r g d).2]at z;exact z);have W:∀r R,(zy (zhE own cs' id) r=some R\/zy (zdy (zdj f) rs (id+12)) r=some R)->∀x,E1.φ r x->x<w'.heap.size/\x≠E.β l/\((∃i,i<cs.length/\zbk own i/\K i x)\/w.heap.size<=x):=(by intro r R A x z;rcases A with A|A;{obtain⟨g,d⟩:=J r R A x z;exact f1 _ x g d};{obtain⟨g,d⟩:=L r R A x z;exact f4 _ x g d});have e6:∀r R,zy (zhE own cs' id) r=some R->R.own=true:=(by intro r R A;obtain⟨_,_,_,_,t,F,_,rfl⟩:=hA r R A;rfl);have a3:∀r R,(zy (zhE own cs' id) r=some R\/zy (zdy (zdj f) rs (id+12)) r=some R)->R.ep=none:=(by intro r R A;rcases A with A|A;{obtain⟨_,_,_,_,t,F,_,rfl⟩:=hA r R A;rfl};{obtain⟨_,_,_,t,F,_,rfl⟩:=b0 r R A;rfl});have D:∀r R,st1.root r=some R->(zy (zhE own cs' id) r=some R\/zy (zdy (zdj f) rs (id+12)) r=some R)\/(st.root r=some R/\R.ep=none/\r∉ks/\U r):=(by intro r R A;rcases b8 r R A with h|h|h;{exact .inl (.inl h)};{exact .inl (.inr h)};{exact .inr h});have c6:∀r R Z R',(zy (zhE own cs' id) r=some R\/zy (zdy (zdj f) rs (id+12)) r=some R)->(zy (zhE own cs' id) Z=some R'\/zy (zdy (zdj f) rs (id+12)) Z=some R')->R.own=true->r≠Z->∀x,E1.φ r x->¬ E1.φ Z x:=(by intro r R Z R' A a7 I b2 x z a9;rcases A with A|A<;>rcases a7 with a7|a7;{obtain⟨g,d⟩:=J r R A x z;obtain⟨N,O⟩:=J Z R' a7 x a9;obtain⟨g1,_⟩:=hA r R A;obtain⟨g1',_⟩:=hA Z R' a7;exact f0 _ _ x g N (by omega) d O};{obtain⟨g,d⟩:=J r R A x z;obtain⟨N,O⟩:=L Z R' a7 x a9;exact f2 _ _ x g N d O};{obtain⟨g,d⟩:=L r R A x z;obtain⟨N,O⟩:=J Z R' a7 x a9;exact f2 _ _ x N g O d};{obtain⟨g,d⟩:=L r R A x z;obtain⟨N,O⟩:=L Z R' a7 x a9;obtain⟨g1,_,_,t,F,g2,rfl⟩:=b0 r R A;obtain⟨g1',_⟩:=b0 Z R' a7;exact f3 _ _ _ x g2 I N (by omega) d O});have b7:∀F B,zy st1.lo F=some B->(F=l/\B=cells')\/(F≠l/\zy st.lo F=some B):=(by intro F B h;rw[d1]at h;simp only[zy]at h;split at h;{rename_i V;simp only[qK]at V;cases h;exact .inl ⟨V.symm,rfl⟩};{rename_i V;simp only[qK]at V;exact .inr ⟨fun e=>V e.symm,h⟩});have b3:∀F B,zy st1.lo F=some B->∃b6,zy st.lo F=some b6:=(by intro F B h;rcases b7 F B h with⟨rfl,_⟩|⟨_,h⟩;{exact⟨_,hcells⟩};{exact⟨_,h⟩});have hT:Trans st E w st1 E1 w' U:=(by refine⟨fun r hU R1 hR1=>?_,fun F hU B g=>⟨b3 F B g,rfl⟩,rfl⟩;rcases D r R1 hR1 with h|⟨g,d,H,M⟩;{exfalso;rcases h with h|h;{obtain⟨g1,g2,_⟩:=hA r R1 h;exact e0 r ⟨g1,by omega⟩ hU};{obtain⟨g1,g2,_⟩:=b0 r R1 h;exact e0 r ⟨by omega,g2⟩ hU}};{refine⟨R1,g,rfl,fun p u hp=>?_⟩;rw[(a0 r hU).1,zdB p (G.rep r R1 g) (f7 r R1 g d H)];exact hp});have f5:Mem w0 S0 st1 E1 w':=by refine⟨hos.trans G.os,htp.trans G.tape,g7.trans G.output,qT G.size g8,fun b hb e3=>?_,fun r R T=>?_,fun r R T x z=>?_,fun r R T I=>?_,fun hz r R T I V hf=>?_,fun r R Z R' T I f6 V b2 x z=>?_,fun F B a5=>?_,fun l1 l2 c1 c2 g d=>?_,fun F B r R a5 T=>?_,fun r R ee T V=>?_,G.κ⟩;{refine(b1 b (jB hb G.size) (fun h=>?_) (fun j hj I hk=>?_)).trans (G.keep b hb e3);{subst h;rcases f9 with h|h;{exact e3 h};{omega}};{obtain⟨q,hq,Q,g1,g2,g3⟩:=S j b I hk;rcases (G.mine q Q g1 g2).2 b g3 with h|h;{exact e3 h};{omega}}};{rcases b8 r R T with h|h|⟨g,d,H,M⟩;{have:=d6 r R h;rw[e6 r R h];exact this};{exact d7 r R h};{rw [(a0 r M).1,(a0 r M).2];exact(G.rep r R g).frame (f7 r R g d H)}};{rcases D r R T with h|⟨g,d,H,M⟩;{exact(W r R h x z).1};{rw [(a0 r M).2]at z;exact jB (G.rlt r R g x z) g8}};{rcases D r R T with h|⟨g,d,H,M⟩;{exact⟨a3 r R h,fun x z=>(a6 x (W r R h x z)).1⟩};{rw [(a0 r M).2];exact G.mine r R g I}};{rcases D r R T with h|⟨g,d,H,M⟩;{exact fun x z=>(a6 x (W r R h x z)).1};{rw [(a0 r M).2];exact G.frz hz r R g I V hf}};{rcases D r R T with h|⟨g,d,H,M⟩;{rcases D Z R' f6 with h'|⟨N,O,c0,c3⟩;{exact c6 r R Z R' h h' I b2 x z};{rw [(a0 Z c3).2];exact(a6 x (W r R h x z)).2 Z R' N O c0}};{rw [(a0 r M).2]at z;rcases D Z R' f6 with h'|⟨N,O,c0,c3⟩;{intro a9;exact(a6 x (W Z R' h' x a9)).2 r R g d H z};{rw [(a0 Z c3).2];exact G.apart r R Z R' g I N O b2 x z}}};{rcases b7 F B a5 with⟨rfl,rfl⟩|⟨b2,a5⟩;{refine⟨f9,a8,e',hb',by rw[g9,hn2,g5],fun j b u hbj hu=>?_⟩;rcases g6 j b hbj with⟨k,n,rfl,d⟩|⟨y,rfl,d⟩|⟨t,F,rfl,I,d⟩|⟨t,F,r,rfl,I,g,d⟩;{have:=X j _ u d hu;simp only at this;subst this;exact⟨rfl,rfl⟩};{have:=X j _ u d hu;simp only at this;subst this;exact⟨rfl,rfl⟩};{have Y:=(X j _ u d hu).1 I;have c9:=(qA.1 d).1;obtain⟨⟨a,d5,hv,_⟩,_⟩:=Y.len;refine⟨Y.one,⟨a,_,d5,hv⟩,fun R T=>?_⟩;have hij:id+j-id=j:=(by omega);have:=(c4 (id+j) (by omega) (by omega)).1;rw[hij,hu] at this;simp only[zbg,this,kC]};{have hvj:=(X j _ u d hu).2 I;have a3:=g0 j _ u g hvj;exact⟨a3.1,VA.tr hT (fun n hn=>(hS.ids.lo _ cells hcells).2 _ (qJ g) n hn) a3.2⟩}};{obtain⟨g1,e9,e1,g2,g3,g4⟩:=G.loc F B a5;refine⟨g1,e9,e1,(b1 _ (b9 F B a5) (fun h=>b2 (G.linj F l B cells a5 hcells h)) (fun j hj I hk=>?_)).trans g2,g3,fun j b u hb hu=>⟨(g4 j b u hb hu).1,VA.tr hT (fun n hn=>(hS.ids.lo F B a5).2 b (qJ hb) n hn) (g4 j b u hb hu).2⟩⟩;obtain⟨q,hq,Q,g,d,H⟩:=S j _ I hk;exact G.lro F B q Q a5 g H}};{intro hb;obtain⟨h7,g⟩:=b3 l1 c1 g;obtain⟨h8,d⟩:=b3 l2 c2 d;exact G.linj l1 l2 h7 h8 g d hb};{obtain⟨b6,e2⟩:=b3 F B a5;rcases D r R T with h|⟨g,d,H,M⟩;{intro z;obtain⟨_,g2,g3⟩:=W r R h _ z;rcases g3 with⟨i,hi,I,hk⟩|g3;{obtain⟨q,hq,Q,q1,q2,q3⟩:=S i _ I hk;exact G.lro F b6 q Q e2 q1 q3};{have:=b9 F b6 e2;have e:E1.β F=E.β F:=rfl;omega}};{rw [(a0 r M).2];exact G.lro F b6 r R e2 g}};{rw [b4];rcases e7 r R T with h|h|⟨h,_⟩|⟨h,_⟩;{rw [a3 r R (.inl h)]at V;cases V};{rw [a3 r R (.inr h)]at V;cases V};{rw [h]at V;cases V;omega};{have:=G.epo r R ee h V;omega}}
              obtain⟨g1,g2⟩:=ziH (w:=w') (st:=st1) (E:=E1) rs ys (id+12) d3.1 (fun i c u hc hu=>by
               have Y:=d3.2 i c u hc hu;refine⟨?_,Y.one⟩;have c9:i<(zI rs).length:=(qA.1 hc).1;cases c with
               |i k n=>exact Y.int_inv
               |b x=>exact Y.bool_inv
               |s t F =>
                obtain⟨⟨a,d5,hv,_⟩,_⟩:=Y.len;refine⟨⟨a,_,d5,hv⟩,fun R T=>?_⟩;have e:id+12+i-(id+12)=i:=by omega
                have:=(c5 (id+12+i) (by omega) (by omega)).1
                rw[e,hu] at this;simp only[zbg,this,kC])
              have hnx:=Sim.next (U1:=fun n=>U n\/Mine id n) hS f5 hT (by rw[<- a4]) (by rw[<- a4]) (fun n h=>.inl h) (fun n R h=>by
               rcases e7 n R h with h|h|⟨_,Q,h⟩|⟨h,_⟩
               .obtain⟨g,d,_⟩:=hA n R h;exact .inr ⟨g,by omega⟩
               .obtain⟨g,d,_⟩:=b0 n R h;exact .inr ⟨by omega,d⟩
               .exact .inl (hS.ids.ro n Q h)
               .exact .inl (hS.ids.ro n R h))
               (fun n B hn=>by
                rcases b7 n B hn with⟨rfl,rfl⟩|⟨_,hn⟩
                .refine⟨.inl (hS.ids.lo _ cells hcells).1,fun a ha m hm=>?_⟩;obtain⟨j,hj⟩:=qV.1 ha;have hjl:j<B.length:=(qA.1 hj).1;have hj12:j<12:=by rw[g5]at hjl;omega
                 rcases g6 j a hj with⟨k,n,rfl,d⟩|⟨y,rfl,d⟩|⟨t,F,rfl,I,d⟩|⟨t,F,r,rfl,I,g,d⟩
                 .simp [At.ids,zby,zbG]at hm
                 .simp [At.ids,zby,zbG]at hm
                 .simp only [At.ids,zby,zbG,jF,qF]at hm;subst hm;exact .inr ⟨by omega,by omega⟩
                 .exact .inl ((hS.ids.lo _ cells hcells).2 _ (qJ g) m hm)
                .exact⟨.inl (hS.ids.lo n B hn).1,fun a ha m hm=>.inl ((hS.ids.lo n B hn).2 a ha m hm)⟩)
               (dst:=o.dst) (zsQ g1 g2) (fun n hn=>by
                simp only[MV.ids,qR]at hn;obtain⟨a,ha,hn⟩:=hn;obtain⟨x,z,ha⟩:=zsP ha;have:=zgy rs (id+12) n x a z ha hn;exact .inr ⟨by omega,by omega⟩)
              subst a4;exact e5 _ _ _ hnx
           {cases h}
          {cases h}
         {cases h}
        {cases h}
       {cases h}
      {cases h}
     {cases h}
    {cases h}
   {cases h}
  {cases h}
 {cases h}
end
def zQG (P:Program)(f:FuncId)(own:List Bool)(h:Option (Nat×Nat×List (List Nat)))(r:List (Nat×Nat))(n:LW):Prop :=
 FnOk P f/\∀(w:World) (K:Nat->zbd) (a:LA) (e:List Value) (d:LA),
  e.length=(zI a).length->own.length=(zI a).length->
  (∀(j:Nat) (c:CV) (u:Value),(zI a)[j]?=some c->e[j]?=some u->Rep ((own[j]?).getD false) w u c (K j))->
  (∀j x,j<(zI a).length->K j x->x<w.heap.size)->
  (∀i j x,i<(zI a).length->j<(zI a).length->zbk own i->i≠j->(j,i)∉r->K i x->¬ K j x)->
  (∀j i,(j,i)∈r->own[j]?=some false/\zbk own i/\e[j]?=e[i]?/\(zI a)[j]?=(zI a)[i]?/\∃t l,(zI a)[i]?=some (.s t l))->
  n a=some (true,d)->
  Calls P f (zb6 a e).toArray w fun
   |.returned v,w'=>w'.os=w.os/\w'.tape=w.tape/\w'.output=w.output/\w.heap.size<=w'.heap.size/\
    (∀b,b<w.heap.size->(∀j,j<(zI a).length->zbk own j->¬ K j b)->w'.heap[b]?=w.heap[b]?)/\
    ∃(q:List Value) (g:Nat->zbd),zeb true w' (zI d) q g/\v=zmk (zb6 d q)/\
     (∀i x,i<(zI d).length->g i x->x<w'.heap.size/\((∃j,j<(zI a).length/\zbk own j/\K j x)\/w.heap.size<=x))/\
     (∀i j x,i<(zI d).length->j<(zI d).length->i≠j->g i x->¬ g j x)/\
     (∀k m y,h=some (k,m,y)->∀t l u,(zI a)[k]?=some (.s t l)->e[k]?=some u->∃z,(zI d)[m]?=some (.s t z)/\q[m]?=some u/\
      ∀p v,zbg w t u p=some v->y.any (λc=>c.isPrefixOf (cols p))=false->zbg w' t u p=some v)
   |_,_=>False
def zfg (P:Program)(f:FuncId)(own:List Bool)(b:Option (Nat×Nat×List (List Nat)))(a:LW):Prop :=
 match own with
 |[]=>zNe P f a
 |x::l=>∀c∈zkr f,zQG P f (x::l) b c a
def zfg.of {P:Program}{f:FuncId}{own:List Bool}{a:Option (Nat×Nat×List (List Nat))}{b:LW}(c:own≠[])(h:∀d∈zkr f,zQG P f own a d b):zfg P f own a b:=by cases own with|nil=>exact absurd rfl c|cons x l=>exact h
def zfg.get {P:Program}{f:FuncId}{own:List Bool}{a:Option (Nat×Nat×List (List Nat))}{b:LW}(h:zfg P f own a b)(c:own.isEmpty=false):∀d∈zkr f,zQG P f own a d b:=by cases own with|nil=>cases c|cons x l=>exact h
structure TctOk (C:Cfg):Prop where
 ok:∀f own inp run,C.tct f=some (own,inp,run)->zfg C.P f own inp run
section
variable {C:Cfg} {w0 w w1:World} {S0:zbd} {U:Nat->Prop} {st st1:St} {E E1:Env} {ts:Array Value} {sv:List (Array Value)}
structure Tks (st:St) (own:List Bool) (ats:List At) (cs:List CV) (ks:List Nat):Prop where
 len:cs.length=ats.length
 olen:own.length=ats.length
 ownk:∀r∈ks,∃j,zbk own j/\ats[j]?=some (.sl r [])
 get:∀(j:Nat) (a:At),ats[j]?=some a->(zbk own j/\∃r R,a = .sl r []/\st.root r=some R/\R.own=true/\r∈ks/\cs[j]?=some (.s R.t R.l))\/(own[j]?=some false/\∃c,st.cvOf a=some c/\cs[j]?=some c)
 inj:∀(i j r:Nat),zbk own i->zbk own j->ats[i]?=some (.sl r [])->ats[j]?=some (.sl r [])->i=j
def z8P:∀(own:List Bool) (w:List At) (C:LC) (ks:List Nat),st.tks own w=some (C,ks)->Tks st own w C ks
 |[],[],C,ks,h=>by cases h;exact⟨rfl,rfl,fun r h=>by simp at h,fun j a h=>by simp at h,fun i j r h=>by simp[zbk]at h⟩
 |[],_::_,_,_,h=>by simp[St.tks]at h
 |_::_,[],_,_,h=>by simp[St.tks]at h
 |o::ms,a::r,C,ks,h=>by
  simp only[St.tks]at h;split at h;{cases h}
  .rename_i cs0 ks0 h0;have k:=z8P ms r cs0 ks0 h0;have p:∀(v:List Nat) (c:CV),(∀x∈ks0,x∈v)->∀(j:Nat) (b:At),r[j]?=some b ->
    (zbk (o::ms) (j+1)/\∃q R,b = .sl q []/\st.root q=some R/\R.own=true/\q∈v/\(c::cs0)[j+1]?=some (.s R.t R.l))\/((o::ms)[j+1]?=some false/\∃d,st.cvOf b=some d/\(c::cs0)[j+1]?=some d):=by
    intro v c F j b m;rcases k.get j b m with⟨e,q,R,y,D,H,E,I⟩|⟨e,d,y,D⟩
    .exact .inl ⟨by simpa [zbk] using e,q,R,y,D,H,F q E,by simpa using I⟩
    .exact .inr ⟨by simpa using e,d,y,by simpa using D⟩
   split at h;{split at h;{rename_i q;split at h;{rename_i R J;split at h;{rename_i f;simp only[qE,jE,jN,decide_eq_false_iff_not]at f;obtain⟨A,G⟩:=f;cases h;have B:∀(i:Nat),zbk ms i->r[i]?=some (.sl q [])->False:=(by intro i u L;rcases k.get i _ L with⟨_,N,M,y,_,_,E,_⟩|⟨e,_⟩;{cases y;exact G E};{rw [u]at e;cases e});refine⟨by simp[k.len],by simp[k.olen],fun x n=>?_,fun j b m=>?_,fun i j x u z e g=>?_⟩;{rcases qG.1 n with rfl|n;{exact⟨0,rfl,rfl⟩};{obtain⟨j,e,g⟩:=k.ownk x n;exact⟨j+1,by simpa [zbk] using e,by simpa using g⟩}};{cases j with|zero=>simp only[qI,qC]at m;subst m;exact .inl ⟨rfl,q,R,rfl,J,A,jJ,by simp⟩|succ j=>exact p _ _ (fun x n=>qZ _ n) j b (by simpa using m)};{cases i with|zero=>(cases j with|zero=>rfl|succ j=>simp only[qI,qC,At.sl.injEq,and_true]at e;subst e;exact(B j (by simpa [zbk] using z) (by simpa using g)).elim)|succ i=>(cases j with|zero=>simp only[qI,qC,At.sl.injEq,and_true]at g;subst g;exact(B i (by simpa [zbk] using u) (by simpa using e)).elim|succ j=>have:=k.inj i j x (by simpa [zbk] using u) (by simpa [zbk] using z) (by simpa using e) (by simpa using g);omega)}};{cases h}};{cases h}};{cases h}};{split at h;{rename_i c K;cases h;refine⟨by simp[k.len],by simp[k.olen],fun x n=>?_,fun j b m=>?_,fun i j x u z e g=>?_⟩;{obtain⟨j,e,g⟩:=k.ownk x n;exact⟨j+1,by simpa [zbk] using e,by simpa using g⟩};{cases j with|zero=>simp only[qI,qC]at m;subst m;exact .inr ⟨rfl,c,K,by simp⟩|succ j=>exact p _ _ (fun x n=>n) j b (by simpa using m)};{cases i with|zero=>simp[zbk]at u|succ i=>(cases j with|zero=>simp[zbk]at z|succ j=>have:=k.inj i j x (by simpa [zbk] using u) (by simpa [zbk] using z) (by simpa using e) (by simpa using g);omega)}};{cases h}}
def zYj {ks:List Nat}{f:List (Nat×Nat)}:∀(n:Nat) (own:List Bool) (c:List At),zzT st ks f n own c=true->∀(j:Nat) (a:At),c[j]?=some a->own[j]?=some false->(∀i,(n+j,i)∉f)->z6s st ks a=true
 |_,[],_,_,j,a,_,e,_=>by simp at e
 |_,_::_,[],_,j,a,d,_,_=>by simp at d
 |n,o::ms,b::r,h,j,a,d,e,g=>by
  simp only[zzT,qE,j6]at h;cases j with
  |zero=>simp only[qI,qC]at d e;subst d e;rcases h.1 with h|h|h;{cases h};{obtain⟨x,l,k⟩:=uJ.1 h;have:x.1=n:=jY k;exact absurd (by rw[kA,<- this];exact l) (g x.2)};{exact h}
  |succ j=>exact zYj (n+1) ms r h.2 j a (by simpa using d) (by simpa using e) (λi=>by have:=g i;rwa [show n+1+j=n+(j+1) by omega])
def zxw {own:List Bool}{a:List At}{b:List (Nat×Nat)}(h:zQH own a b=true){j i:Nat}(k:(j,i)∈b):∃q,a[j]?=some (.sl q [])/\a[i]?=some (.sl q [])/\own[j]?=some false/\zbk own i:=by have:=qP.1 h _ k;dsimp only at this;split at this;{rename_i q r c d f g;have e:q=r:=jY this;subst e;exact⟨q,c,d,f,g⟩};{cases this}
def z03 (G:Sim w0 S0 U st E ts sv w):∀(l:List Operand) (f:List TV),zXr st l=some f->
 ∃i:List Value,i.length=(f.flatMap zZ).length/\(∀(j:Nat) (a:At) (u:Value),(f.flatMap zZ)[j]?=some a->i[j]?=some u->VA w st E a u)/\
  ∀d:LC,d.length=i.length->l.map ({tmps:=ts,defers:=[]}:Act).eval=zb6 (zia f d) i/\zI (zia f d)=d
 |[],f,h=>by
  cases h;exact⟨[],rfl,λj a u h=>by simp at h,λd g=>by
   have:d=[]:=List.eq_nil_of_length_eq_zero (by simpa using g)
   subst this;exact⟨rfl,rfl⟩⟩
 |x::r,f,h=>by simp only[zXr]at h;split at h;{rename_i y q N M;cases h;obtain⟨i,C,D,F⟩:=z03 G r q M;obtain⟨H,-⟩:=zcn G N;rcases y with a|l;{refine⟨({tmps:=ts,defers:=[]}:Act).eval x::i,by simp[zZ,C],λj b u k m=>?_,λd g=>?_⟩;{cases j with|zero=>simp[zZ]at k m;subst k m;exact H|succ j=>exact D j b u (by simpa [zZ] using k) (by simpa using m)};{cases d with|nil=>simp at g|cons c d=>obtain⟨s,t⟩:=F d (by simpa using g);refine⟨by simp[zia,zb6,s],?_⟩;have e:zI (zia (TV.at a::q) (c::d))=c::zI (zia q d):=(by simp[zia,zI,AV.cvs]);rw[e,t]}};{obtain⟨p,A,n,B⟩:=H;have v:p.toList.length=l.length:=(by simp[n]);refine⟨p.toList++i,by simp[zZ,C,n],λj b u k m=>?_,λd g=>?_⟩;{simp only [kG,zZ]at k;by_cases L:j<l.length;{rw [qW L]at k;rw[qW (by omega)]at m;exact(B j b u k (by simpa using m)).2};{rw [qU (by omega)]at k;rw[qU (by omega),v]at m;exact D _ b u k m}};{have K:d.length=l.length+i.length:=(by simpa [n] using g);obtain⟨s,t⟩:=F (d.drop l.length) (by simp;omega);have z:(d.take l.length).length=l.length:=(by simp;omega);refine⟨?_,?_⟩;{have I:List.take l.length (p.toList++i)=p.toList:=(by rw[<- v];exact kU rfl);have J:List.drop l.length (p.toList++i)=i:=(by rw[<- v];exact uE rfl);simp only[jG,zia,zb6,A,z,I,J,s,jX]};{have e:zI (zia (TV.agg l::q) d)=d.take l.length++zI (zia q<|d.drop l.length):=(by simp[zia,zI,AV.cvs]);rw[e,t,List.take_append_drop]}}}};{cases h}
def z7K {f:At->At}(T:∀a v,(∀n∈a.ids,U n)->VA w st E a v->VA w1 st1 E1 (f a) v){x:TV}{v:Value}(g:∀a∈zZ x,∀n∈a.ids,U n)(h:VT w st E x v):VT w1 st1 E1 (ztn f x) v:=by rcases x with a|l;{exact T a v (g a (by simp[zZ])) h};{obtain⟨p,k,m,e⟩:=h;refine⟨p,k,by simp[m],λj a u c i=>?_⟩;rw[qQ]at c;cases d:l[j]? with|none=>rw[d]at c;cases c|some b=>rw[d]at c;cases c;exact⟨(e j b u d i).1,T _ _ (g b (by simp only[zZ];exact qJ d)) (e j b u d i).2⟩}
def zbeW {f:At->At}(T:∀a v,(∀n∈a.ids,U n)->VA w st E a v->VA w1 st1 E1 (f a) v){m:MV}{v:Value}(p:∀n∈m.ids,U n)(h:VM w st E m v):VM w1 st1 E1 (zmf f m) v:=by have d:∀a∈zbL m,∀n∈a.ids,U n:=λa c n q=>p n (by simp only[MV.ids,qR];exact⟨a,c,q⟩);cases m with|und=>exact h|v x=>exact z7K T d h|tup l=>obtain⟨s,g,i,k⟩:=h;refine⟨s,g,by simp[i],λj a u c r=>?_⟩;rw[qQ]at c;(cases e:l[j]? with|none=>rw[e]at c;cases c|some b=>rw[e]at c;cases c;refine z7K T (λa c=>d a ?_) (k j b u e r);simp only[zbL,qR];exact⟨b,qJ e,c⟩)
def zUP {f:At->At}(T:∀a v,(∀n∈a.ids,U n)->VA w st E a v->VA w1 st1 E1 (f a) v){tm:List MV}{ts:LV}(e:∀m∈tm,∀n∈m.ids,U n)(h:az w st E tm ts):az w1 st1 E1 (tm.map<|zmf f) ts:=by refine⟨by simp[h.1],λi m v c g=>?_⟩;rw[qQ]at c;cases d:tm[i]? with|none=>rw[d]at c;cases c|some b=>rw[d]at c;cases c;exact zbeW T (e b<|qJ d) (h.2 i b v d g)
def zUQ {f:At->At}(T:∀a v,(∀n∈a.ids,U n)->VA w st E a v->VA w1 st1 E1 (f a) v):∀{l:List (List MV)} {s:List LV},(∀g∈l,∀m∈g,∀n∈m.ids,U n)->Stack w st E l s->Stack w1 st1 E1 (l.map λg=>g.map (zmf f)) s
 |[],[],_,_=>trivial
 |g::l,ts::s,b,h=>⟨zUP T (b g (by simp)) h.1,zUQ T (λc hg=>b c (by simp[hg])) h.2⟩
 |[],_::_,_,h=>h.elim
 |_::_,[],_,h=>h.elim
def zUN {f:At->At}{x:TV}{a:At}(h:a∈zZ (ztn f x)):∃b∈zZ x,a=f b:=by rcases x with b|l;{simp only [ztn,zZ,qF]at h ⊢;exact⟨b,rfl,h⟩};{simp only [ztn,zZ,jH]at h ⊢;obtain⟨b,c,rfl⟩:=h;exact⟨b,c,rfl⟩}
def zUM {f:At->At}{m:MV}{n:Nat}(h:n∈(zmf f m).ids):∃a∈zbL m,n∈(f a).ids:=by simp only[MV.ids,qR]at h;obtain⟨a,c,e⟩:=h;have:∃b∈zbL m,a=f b:=(by cases m with|und=>simp[zmf,zbL]at c|v x=>exact zUN c|tup l=>simp only[zmf,zbL,qR,jH]at c ⊢;obtain⟨y,⟨x,g,rfl⟩,c⟩:=c;obtain⟨b,d,rfl⟩:=zUN c;exact⟨b,⟨x,g,d⟩,rfl⟩);obtain⟨b,d,rfl⟩:=this;exact⟨b,d,e⟩
def zUY {q n k:Nat}{g:List (List Nat)}{a:At}(h:k∈(zou q n g a).ids):k∈a.ids\/k=n:=by cases a with|sl r p=>simp only[zou]at h;cases d:Nat.beq r q<;>rw [d]at h;{exact .inl h};{cases e:g.any (λm=>m.isPrefixOf (cols p))<;>rw [e]at h;{simp only [cond_true,cond_false,At.ids,zby,zbG,jF,qF]at h;exact .inr h};{simp [At.ids,zby,zbG]at h}}|ep r p i o=>simp only[zou]at h;cases d:Nat.beq r q<;>rw [d]at h;{exact .inl h};{cases e:g.any (λm=>m.isPrefixOf (cols p))<;>rw [e]at h;{simp only [cond_true,cond_false,At.ids,zby,zbG,jF,qF]at h;exact .inr h};{simp [At.ids,zby,zbG]at h}}|kp r J t=>simp only[zou]at h;cases d:Nat.beq r q<;>rw [d]at h;{exact .inl h};{cases e:coarse g J<;>rw [e]at h;{simp [At.ids,zby,zbG]at h};{simp only [cond_true,At.ids,zby,zbG,jF,qF]at h;exact .inr h}}|bad=>exact .inl h|i k n=>exact .inl h|b x=>exact .inl h|lp l o=>exact .inl h|fn f c=>exact .inl h
def zbdM {U1:Nat->Prop}(F:Sim w0 S0 U st E ts sv w)(A:Mem w0 S0 st1 E1 w1)(hT:Trans st E w st1 E1 w1 U)(a0:st1.tm=st.tm)(P:st1.stk=st.stk)(s:st1.lo=st.lo)(hU:∀n,U n->U1 n)(a6:∀n R,zy st1.ro n=some R->U1 n)(V:∀l C,zy st.lo l=some C->w1.heap[E.β l]?=w.heap[E.β l]?){q n:Nat}{js:List (List Nat)}(hn:U1 n)(hq:∀I,st1.root n=some I->∃R,st.root q=some R/\I.t=R.t/\E1.ρ n=E.ρ q/\∀p u,zbg w R.t (E.ρ q) p=some u->js.any (λc=>c.isPrefixOf (cols p))=false->zbg w1 R.t (E.ρ q) p=some u) :
 Sim w0 S0 U1 (st1.ren<|some (q,n,js)) E1 ts sv w1:=by
 have a7:∀r,(st1.ren<|some (q,n,js)).root r=st1.root r:=λr=>rfl;have y:∀l C,zy (st1.ren<|some (q,n,js)).lo l=some C->∃d,zy st.lo l=some d/\C=d.map (zou q n js):=by intro l C h;simp only[St.ren,s]at h;rw[znt]at h;cases X:zy st.lo l with|none=>rw[X]at h;cases h|some d=>rw[X]at h;cases h;exact⟨d,rfl,rfl⟩
 have hI:Trans st1 E1 w1 (st1.ren<|some (q,n,js)) E1 w1 (λ_=>True):=
  ⟨λr _ I z=>⟨I,z,rfl,λ_ _ h=>h⟩,λl _ a3 z=>⟨by obtain⟨d,B,_⟩:=y l a3 z;exact⟨d,by rw[s];exact B⟩,rfl⟩,rfl⟩
 have T:∀a v,(∀k∈a.ids,U k)->VA w st E a v->VA w1 (st1.ren<|some (q,n,js)) E1 (zou q n js a) v:=by
  intro a v ha L;have same:VA w1 (st1.ren<|some (q,n,js)) E1 a v:=VA.tr hI (λ_ _=>trivial) (VA.tr hT ha L);cases a with
  |bad=>trivial
  |i k n=>exact L
  |b x=>exact L
  |lp l o=>exact same
  |fn f c=>exact same
  |sl r p=>
   simp only[zou];cases N:Nat.beq r q with
   |false=>exact same
   |true=>rw[kV]at N;subst N;cases G:js.any (λm=>m.isPrefixOf (cols p)) with|true=>trivial|false=>refine⟨L.1,λI D=>?_⟩;obtain⟨R,z,B,S,M⟩:=hq I D;rw[B,S];exact M p v (L.2 R z) G
  |ep r p i o=>
   simp only[zou];cases N:Nat.beq r q with
   |false=>exact same
   |true=>rw[kV]at N;subst N;cases G:js.any (λm=>m.isPrefixOf (cols p)) with|true=>trivial|false=>refine⟨L.1,λI D=>?_⟩;obtain⟨R,z,B,S,M⟩:=hq I D;obtain⟨b,o',len,a2,t',Q,Z,g3⟩:=L.2 R z;exact⟨b,o',len,a2,t',by rw[B,S];exact M p _ Q G,by rw[B];exact Z,g3⟩
  |kp r J t=>simp only[zou];cases N:Nat.beq r q with|false=>exact same|true=>rw[kV]at N;subst N;(cases G:coarse js J with|false=>trivial|true=>refine⟨L.1,λI D=>?_⟩;obtain⟨R,z,B,S,M⟩:=hq I D;obtain⟨Q,Z,g3⟩:=L.2 R z;refine⟨B.trans Q,S.trans Z,λp u hp hJ=>?_⟩;rw[hT.κ]at hp;have:=M p u (by rw[Q,Z];exact g3 p u hp hJ) (zBe G hJ);rwa [Q,Z] at this)
 have O:∀{m:MV} {k:Nat},(∀j∈m.ids,U j)->k∈(zmf (zou q n js) m).ids->U1 k:=by intro m k Y K;obtain⟨a,ha,K⟩:=zUM K;rcases zUY K with h|rfl;{exact hU k (Y k (by simp only[MV.ids,qR];exact⟨a,ha,h⟩))};{exact hn}
 refine⟨⟨A.os,A.tape,A.output,A.size,A.keep,A.rep,A.rlt,A.mine,A.frz,A.apart,λl C X=>?_,λl l' C d z B he=>?_,λl C r R X hR=>?_,A.epo,A.κ⟩,⟨a6,λk C K=>?_,λm Y k K=>?_,λg hg m Y k K=>?_⟩,?_,?_⟩
 .obtain⟨d,hl',rfl⟩:=y l C X;obtain⟨z,a1,e,B,S,M⟩:=F.mem.loc l d hl';obtain⟨Q,_⟩:=A.loc l d (by rw[s];exact hl')
  have a8:E1.β l=E.β l:=(hT.lo l (F.ids.lo l d hl').1 d (by rw[s];exact hl')).2
  refine⟨Q,a1,e,by rw[a8,V l d hl'];exact B,by simp[S],λj c u G hu=>?_⟩
  rw[qQ]at G;cases H:d[j]? with
  |none=>rw[H]at G;cases G
  |some c' =>rw[H]at G;cases G;exact⟨(M j c' u H hu).1,T _ _ ((F.ids.lo l d hl').2 c' (qJ H)) (M j c' u H hu).2⟩
 .obtain⟨c1,z,_⟩:=y l C z;obtain⟨c2,B,_⟩:=y l' d B;exact A.linj l l' c1 c2 (by rw[s];exact z) (by rw[s];exact B) he
 .obtain⟨c1,z,_⟩:=y l C X;exact A.lro l c1 r R (by rw[s];exact z) hR
 .obtain⟨d,z,rfl⟩:=y k C K;refine⟨hU k (F.ids.lo k d z).1,λa ha j hj=>?_⟩;obtain⟨a',a4,rfl⟩:=jH.1 ha;rcases zUY hj with h|rfl
  .exact hU j ((F.ids.lo k d z).2 a' a4 j h)
  .exact hn
 .simp only [St.ren,a0]at Y;obtain⟨m0,W,rfl⟩:=jH.1 Y;exact O (F.ids.tm m0 W) K
 .simp only [St.ren,P]at hg;obtain⟨g0,a5,rfl⟩:=jH.1 hg;obtain⟨m0,W,rfl⟩:=jH.1 Y;exact O (F.ids.stk g0 a5 m0 W) K
 .have:=zUP T F.ids.tm F.tm;simpa only [St.ren,a0] using this
 .have:=zUQ T F.ids.stk F.stk;simpa only [St.ren,P] using this
def zbaL (hH:TctOk C)(w0 w:World)(S0:zbd)(U:Nat->Prop)(st:St)(E:Env)(ts:LV)(sv:List LV)(o:Oper)(id:Nat)(c:Bool)(f1:St)(mv:MV)(hS:Sim w0 S0 U st E ts sv w)(e4:∀n,Mine id n->¬ U n)(h:zXq C st o id=some (c,f1,mv))(hc:c=true):Goes C w0 S0 U st ts sv w o id (λ_=>f1.put o.dst mv)/\f1.nid=st.nid:=by
 subst hc;unfold zXq at h;split at h
 .rename_i cl T;split at h
  .rename_i f hcb;split at h
   .rename_i own inp run htct;cases e7:own.isEmpty with
    |true=>rw[e7]at h;cases h
    |false=>
    rw[e7]at h;simp only[cond_false]at h;unfold z8O at h;split at h
    .rename_i tvs htvs;split at h
     .rename_i cs ks htks;split at h;rotate_left;{cases h}
      rename_i x Y;cases a4:(zkr f).any (λal=>zQH own (tvs.flatMap zZ) al&&zzT st ks al 0 own (tvs.flatMap zZ)) with
      |false=>rw[a4]at h;cases h
      |true=>
       rw[a4]at h;simp only[cond_true]at h;obtain⟨al,hal,b5⟩:=uJ.1 a4;rw[qE]at b5;obtain⟨b4,e3⟩:=b5;split at h
       .rename_i cc rs hrun;split at h
        .rename_i hlen;simp only[qC,jT]at h;obtain⟨rfl,rfl,rfl⟩:=h;refine⟨?_,by cases x<;>rfl⟩;have hrsl:(zI rs).length<=31:=hlen;obtain⟨⟨fn,bd,hf,hbd,e5⟩,hHT⟩:=(hH.ok f own inp run htct).get e7 al hal;have hB:=z8P own _ cs ks htks;have F:=hS.mem;obtain⟨xs,c5,d0,hxp⟩:=z03 hS cl.args.toList tvs htvs;obtain⟨hxm,c0⟩:=hxp cs (by rw[hB.len,c5]);let Ka:zbd:=λx=>x<w.heap.size/\∀r∈ks,¬ E.φ r x
         have hks:∀r∈ks,∃j R,j<cs.length/\zbk own j/\(tvs.flatMap zZ)[j]?=some (.sl r [])/\st.root r=some R/\R.own=true:=(by intro r O;obtain⟨j,g,z⟩:=hB.ownk r O;rcases hB.get j _ z with⟨_,q,R,h,L,V,_,_⟩|⟨h,_⟩;{cases h;exact⟨j,R,by rw[hB.len];exact(qA.1 z).1,g,z,L,V⟩};{rw [g]at h;cases h});let K:Nat->zbd:=λj=>@ite _ (own[j]?=some true\/∃i,(j,i)∈al) (Classical.propDecidable _) (cφ E (tvs.flatMap zZ) j) Ka
         have c6:∀j,zbk own j->K j=cφ E (tvs.flatMap zZ) j:=λj hj=>if_pos (.inl hj);have d6:∀j i,(j,i)∈al->K j=cφ E (tvs.flatMap zZ) j:=λj i hj=>if_pos (.inr ⟨i,hj⟩);have d5:∀j,¬ zbk own j->(∀i,(j,i)∉al)->K j=Ka:=λj hj hn=>if_neg (λh=>h.elim hj λ⟨i,hi⟩=>hn i hi);have D:∀j x,zbk own j->K j x->∃r∈ks,∃R,(tvs.flatMap zZ)[j]?=some (.sl r [])/\st.root r=some R/\R.own=true/\E.φ r x:=(by intro j x hj B;rw[c6 j hj]at B;obtain⟨a,ha,B⟩:=zwr B;rcases hB.get j a ha with⟨_,r,R,rfl,L,V,Z,_⟩|⟨h,_⟩;{exact⟨r,Z,R,ha,L,V,B⟩};{rw [hj]at h;cases h});have c7:cl.args.map ({tmps:=ts,defers:=[]}:Act).eval=(zb6 (zia tvs cs) xs).toArray:=(by rw[<- hxm,<- uB,jX]);intro next Q c4;have c8:fn.name≠ "runtime.NumGoroutine":=(by simpa using e5);have e0:(execOp ({tmps:=ts,defers:=[]}:Act).eval o).run C.P w = .ok (.enter f (zb6 (zia tvs cs) xs).toArray) w:=(by have hfe:({tmps:=ts,defers:=[]}:Act).eval (.func f) = .func (.func f) #[] #[]:=rfl;simp[execOp,T,resolve,hcb,Deferred.ofValue,invoke,callFunc,hf,hbd,c8,c7,hfe]);unfold Oper.wp;rw[e0,Oper.upon_enter];have f5:(zI<|zia tvs cs).length=cs.length:=(by rw[c0]);refine(hHT w K (zia tvs cs) xs rs (by rw[c0,hB.len,c5]) (by rw[c0,hB.len,hB.olen]) (λj c u b9 hu=>?_) (λj x hj B=>?_) (λi j x hi hj T e6 hna B a3=>?_) (λj i W=>?_) hrun).mono ?_
         .rw [c0]at b9;have hj:j<(tvs.flatMap zZ).length:=(by rw[<- hB.len];exact(qA.1 b9).1);have ha:=qB hj;have a6:=d0 j _ u ha hu;rcases hB.get j _ ha with⟨g,r,R,z,L,V,Z,g4⟩|⟨g,d,L,V⟩;{rw [b9] at g4;cases g4;have e:(own[j]?).getD false=true:=(by rw[show own[j]?=some true from g];rfl);rw[z]at a6 ha;have:=a6.2 R L;simp only[zbg,qC] at this;subst this;have O:=F.rep r R L;rw[V]at O;rw[e];refine O.weak (λx B=>?_);rw[c6 j g,zjs ha];exact B}
          .rw [b9] at V;cases V;have e:(own[j]?).getD false=false:=(by rw[g];rfl);by_cases hA:∃i,(j,i)∈al;{obtain⟨i,W⟩:=hA;obtain⟨q,q1,q2,_,q4⟩:=zxw b4 W;rw[ha] at q1;have q1:=Option.some.inj q1;rw[q1]at ha a6 L;rcases hB.get i _ q2 with⟨_,r,R,e9,Z,g4,g5,g6⟩|⟨hb,_⟩;rotate_left;{rw [show own[i]?=some true from q4]at hb;cases hb};cases e9;have d9:st.cvOf (.sl q [])=some (.s R.t R.l):=(by simp[St.cvOf,St.node,Z,ziZ]);rw[d9] at L;cases L;have:=a6.2 R Z;simp only[zbg,qC] at this;subst this;rw[e,d6 j i W];exact((F.rep q R Z).weak (λx B=>by rw[zjs ha];exact B)).ro};have g9:∀i,(j,i)∉al:=λi hi=>hA ⟨i,hi⟩;rw[e,d5 j (λh=>by rw[show own[j]?=some true from h]at g;cases g) g9]
           exact zE4 hS (ks:=ks) (λr R x M he O B=>⟨F.rlt r R M x B,λq hq hqx=>by
            obtain⟨_,Q',_,_,_,hQ,hQo⟩:=hks q hq;exact F.apart q Q' r R hQ hQo M he (λe=>O (by rw[<- e];exact hq)) x hqx B⟩) (zYj 0 own _ e3 j _ ha g (λi=>by rw[kB];exact g9 i)) L a6
         {by_cases c3:zbk own j;{obtain⟨r,_,R,_,z,_,S⟩:=D j x c3 B;exact F.rlt r R z x S};{by_cases hA:∃i,(j,i)∈al;{obtain⟨i,W⟩:=hA;obtain⟨q,q1,q2,_,q4⟩:=zxw b4 W;rw[d6 j i W,zjs q1]at B;have f0:K i x:=(by rw[c6 i q4,zjs q2];exact B);obtain⟨r,_,R,_,z,_,S⟩:=D i x q4 f0;exact F.rlt r R z x S};{rw [d5 j c3 λi hi=>hA ⟨i,hi⟩]at B;exact B.1}}};{obtain⟨r,O,R,g,z,I,S⟩:=D i x T B;by_cases c3:zbk own j;{obtain⟨r',_,R',a8,a9,b8,b0⟩:=D j x c3 a3;have:=F.own_apart z I a9 b8 S b0;subst this;exact e6 (hB.inj i j r T c3 g a8)};{by_cases hA:∃i,(j,i)∈al;{obtain⟨i',W⟩:=hA;obtain⟨q,q1,q2,_,q4⟩:=zxw b4 W;rw[d6 j i' W,zjs q1]at a3;have f0:K i' x:=(by rw[c6 i' q4,zjs q2];exact a3);obtain⟨r',_,R',a8,a9,b8,b0⟩:=D i' x q4 f0;have:=F.own_apart z I a9 b8 S b0;subst this;have:=hB.inj i i' r T q4 g a8;subst this;exact hna W};{rw [d5 j c3 λi hi=>hA ⟨i,hi⟩]at a3;exact a3.2 r O S}}};{obtain⟨q,q1,q2,q3,q4⟩:=zxw b4 W;rcases hB.get i _ q2 with⟨_,r,R,e9,Z,g4,g5,g6⟩|⟨hb,_⟩;rotate_left;{rw [show own[i]?=some true from q4]at hb;cases hb};cases e9;have b9:cs[j]?=some (.s R.t R.l):=(by rcases hB.get j _ q1 with⟨T,_⟩|⟨_,d,L,V⟩;{rw [show own[j]?=some true from T] at q3;cases q3};{have d9:st.cvOf (.sl q [])=some (.s R.t R.l):=(by simp[St.cvOf,St.node,Z,ziZ]);rw[d9] at L;cases L;exact V});rw[c0];refine⟨q3,q4,?_,by rw[b9,g6],_,_,g6⟩;have f9:j<xs.length:=(by rw[c5];exact(qA.1 q1).1);have f7:i<xs.length:=(by rw[c5];exact(qA.1 q2).1);have e1:=(d0 j _ _ q1<|qB f9).2 R Z;have e2:=(d0 i _ _ q2<|qB f7).2 R Z;simp only[zbg,qC] at e1 e2;rw[qB f9,qB f7,<- e1,<- e2]}
         .intro ex w' he;cases ex with
          |panicked chain=>exact he.elim
          |outgrown=>exact he.elim
          |returned v=>
           obtain⟨hos,htp,h6,h9,X,ys,Kr,d1,rfl,d2,f3,f8⟩:=he;rw[f5]at X d2;let E1:Env:={E with ρ:=λn=>if id<=n/\n<id+32 then (ys[n-id]?).getD undef else E.ρ n,φ:=λn=>if id<=n/\n<id+32 then (λx=>n-id<(zI rs).length/\Kr (n-id) x) else E.φ n}
           have a0:∀n,U n->E1.ρ n=E.ρ n/\E1.φ n=E.φ n:=(by intro n hn;have a1:¬ (id<=n/\n<id+32):=λh=>e4 n h hn;simp only[E1,if_neg a1,and_self]);have b1:∀n,id<=n->n<id+32->E1.ρ n=(ys[n-id]?).getD undef/\E1.φ n=λx=>n-id<(zI rs).length/\Kr (n-id) x:=(by intro n g z;simp only[E1,if_pos (show id<=n/\n<id+32 from ⟨g,z⟩),and_self]);generalize J:({st with ro:=zdy zpa rs id++(killed st ks++st.ro),ep:=st.ep+1}:St)=st1;have c9:st1.ro=zdy zpa rs id++(killed st ks++st.ro):=(by rw[<- J]);have H:st1.lo=st.lo:=(by rw[<- J]);have b7:st1.ep=st.ep+1:=(by rw[<- J]);have b3:∀l cs,zy st.lo l=some cs->E.β l<w.heap.size:=(by intro l cs h;obtain⟨_,vals,e,z,_⟩:=F.loc l cs h;exact(qO.1 z).1);have a7:∀r R,zy (zdy zpa rs id) r=some R->id<=r/\r<id+32/\r-id<(zI rs).length/\∃t l,(zI rs)[r-id]?=some (.s t l)/\R=⟨t,l,true,none⟩:=(by intro r R O;obtain⟨g,t,l',I,S⟩:=zgx zpa rs id r R O;have g8:=(qA.1 I).1;exact⟨g,by omega,g8,t,l',I,S⟩);have e8:∀r R,zy st1.ro r=some R->zy (zdy zpa rs id) r=some R\/(R.ep=some st.ep/\∃Q,zy st.ro r=some Q)\/(zy st.ro r=some R/\r∉ks):=(by intro r R O;rw[c9,zbM]at O;split at O;{rename_i Q hQ;cases O;exact .inl hQ};{rw [zbM]at O;split at O;{rename_i Q hQ;cases O;exact .inr (.inl<|zvv ks r _ hQ)};{rename_i hn;exact .inr (.inr ⟨O,ztl ks r R hn O⟩)}});have A:∀r R,st1.root r=some R->zy (zdy zpa rs id) r=some R\/(st.root r=some R/\R.ep=none/\r∉ks/\U r):=(by intro r R O;obtain⟨g,z⟩:=zbD O;rw[b7]at z;rcases e8 r R g with h|⟨h,_⟩|⟨h,hk⟩;{exact .inl h};{rcases z with z|z;{rw [h]at z;cases z};{rw [h]at z;simp at z}};{rcases z with z|z;{exact .inr ⟨zg5 h<|.inl z,z,hk,hS.ids.ro r R h⟩};{have:=F.epo r R _ h z;omega}});have f6:∀r R,st.root r=some R->R.ep=none->r∉ks->∀x,E.φ r x->w'.heap[x]?=w.heap[x]?:=(by intro r R M he hk x B;refine X x (F.rlt r R M x B) (λj hj T hkx=>?_);obtain⟨q,hq,Q',_,g,z,I⟩:=D j x T hkx;exact F.apart q Q' r R g z M he (λe=>hk (by rw[<- e];exact hq)) x I B);have a5:∀x,(x<w'.heap.size/\((∃i,i<cs.length/\zbk own i/\K i x)\/w.heap.size<=x))->(S0 x\/w0.heap.size<=x)/\∀r R,st.root r=some R->R.ep=none->r∉ks->¬ E.φ r x:=(by intro x ⟨g,I⟩;rcases I with⟨i,hi,T,hk⟩|I;{obtain⟨q,hq,Q',_,L,V,Z⟩:=D i x T hk;exact⟨(F.mine q Q' L V).2 x Z,λr R M he g0 B=>F.apart q Q' r R L V M he (λe=>g0 (by rw[<- e];exact hq)) x Z B⟩};{exact⟨.inr<|qT F.size I,λr R M he g0 B=>by have:=F.rlt r R M x B;omega⟩});have d8:∀r R,zy (zdy zpa rs id) r=some R->Rep true w' (E1.ρ r) (.s R.t R.l) (E1.φ r):=(by intro r R O;obtain⟨g,z,I,t,l',h5,rfl⟩:=a7 r R O;have hv:r-id<ys.length:=(by rw[d1.1];exact I);have hu:=qB hv;rw[(b1 r g z).1,(b1 r g z).2,hu];exact(d1.2 _ _ _ h5 hu).weak λx B=>⟨I,B⟩);have N:∀r R,zy (zdy zpa rs id) r=some R->∀x,E1.φ r x->x<w'.heap.size/\((∃i,i<cs.length/\zbk own i/\K i x)\/w.heap.size<=x):=(by intro r R O x B;obtain⟨g,z,I,_⟩:=a7 r R O;rw[(b1 r g z).2]at B;exact d2 _ x B.1 B.2);have b2:∀r R,zy (zdy zpa rs id) r=some R->R.own=true/\R.ep=none:=(by intro r R O;obtain⟨_,_,_,t,l',_,rfl⟩:=a7 r R O;exact⟨rfl,rfl⟩);have hT:Trans st E w st1 E1 w' U:=(by refine⟨λr hU R1 d7=>?_,λl' hU G g=>⟨⟨G,by rw[H]at g;exact g⟩,rfl⟩,rfl⟩;rcases A r R1 d7 with h|⟨g,z,I,S⟩;{obtain⟨L,V,_⟩:=a7 r R1 h;exact absurd hU (e4 r ⟨L,V⟩)};{refine⟨R1,g,rfl,λp u hp=>?_⟩;rw[(a0 r hU).1,zdB p (F.rep r R1 g)<|f6 r R1 g z I];exact hp});have d3:Mem w0 S0 st1 E1 w':=by refine⟨hos.trans F.os,htp.trans F.tape,h6.trans F.output,qT F.size h9,λb hb h0=>?_,λr R M=>?_,λr R M x B=>?_,λr R M T=>?_,λhz r R M T he hf=>?_,λr R r' R' M T f4 he e6 x B=>?_,λl' G a2=>?_,λl1 l2 c1 c2 g z=>?_,λl' G r R a2 M=>?_,λr R ee M he=>?_,F.κ⟩;{refine(X b (jB hb F.size) λj hj T hk=>?_).trans (F.keep b hb h0);obtain⟨q,hq,Q',_,L,V,Z⟩:=D j b T hk;rcases (F.mine q Q' L V).2 b Z with h|h;{exact h0 h};{omega}};{rcases A r R M with h|⟨g,z,I,S⟩;{have:=d8 r R h;rw[(b2 r R h).1];exact this};{rw [(a0 r S).1,(a0 r S).2];exact(F.rep r R g).frame (f6 r R g z I)}};{rcases A r R M with h|⟨g,z,I,S⟩;{exact(N r R h x B).1};{rw [(a0 r S).2]at B;exact jB (F.rlt r R g x B) h9}};{rcases A r R M with h|⟨g,z,I,S⟩;{exact⟨(b2 r R h).2,λx B=>(a5 x<|N r R h x B).1⟩};{rw [(a0 r S).2];exact F.mine r R g T}};{rcases A r R M with h|⟨g,z,I,S⟩;{exact λx B=>(a5 x<|N r R h x B).1};{rw [(a0 r S).2];exact F.frz hz r R g T he hf}};{rcases A r R M with h|⟨g,z,I,S⟩;{rcases A r' R' f4 with h'|⟨a8,a9,b8,b0⟩;{intro a3;obtain⟨L,V,Z,_⟩:=a7 r R h;obtain⟨g1',g2',g3',_⟩:=a7 r' R' h';rw[(b1 r L V).2]at B;rw[(b1 r' g1' g2').2]at a3;exact f3 _ _ x Z g3' (by omega) B.2 a3.2};{rw [(a0 r' b0).2];exact(a5 x<|N r R h x B).2 r' R' a8 a9 b8}};{rw [(a0 r S).2]at B;rcases A r' R' f4 with h'|⟨a8,a9,b8,b0⟩;{intro a3;exact(a5 x<|N r' R' h' x a3).2 r R g z I B};{rw [(a0 r' b0).2];exact F.apart r R r' R' g T a8 a9 e6 x B}}};{rw [H]at a2;obtain⟨L,f2,e1,V,Z,g4⟩:=F.loc l' G a2;refine⟨L,f2,e1,(X _ (b3 l' G a2) λj hj T hk=>?_).trans V,Z,λj b u hb hu=>⟨(g4 j b u hb hu).1,VA.tr hT (λn hn=>(hS.ids.lo l' G a2).2 b (qJ hb) n hn) (g4 j b u hb hu).2⟩⟩;obtain⟨q,hq,Q',_,g,z,I⟩:=D j _ T hk;exact F.lro l' G q Q' a2 g I};{rw [H]at g z;exact F.linj l1 l2 c1 c2 g z};{rw [H]at a2;rcases A r R M with h|⟨g,z,I,S⟩;{intro B;obtain⟨_,Z⟩:=N r R h _ B;rcases Z with⟨i,hi,T,hk⟩|Z;{obtain⟨q,hq,Q',_,q1,q2,q3⟩:=D i _ T hk;exact F.lro l' G q Q' a2 q1 q3};{have:=b3 l' G a2;have e:E1.β l'=E.β l':=rfl;omega}};{rw [(a0 r S).2];exact F.lro l' G r R a2 g}};{rw [b7];rcases e8 r R M with h|⟨h,_⟩|⟨h,_⟩;{rw [(b2 r R h).2]at he;cases he};{rw [h]at he;cases he;omega};{have:=F.epo r R ee h he;omega}}
           obtain⟨L,V⟩:=ziH (w:=w') (st:=st1) (E:=E1) rs ys id d1.1 (λi c u hc hu=>by
            have b6:=d1.2 i c u hc hu;refine⟨?_,b6.one⟩;have g8:i<(zI rs).length:=(qA.1 hc).1;cases c with
            |i k n=>exact b6.int_inv
            |b x=>exact b6.bool_inv
            |s t l' =>
             obtain⟨⟨a,cap,hv,_⟩,_⟩:=b6.len;refine⟨⟨a,_,cap,hv⟩,λR M=>?_⟩;have e:id+i-id=i:=by omega
             have:=(b1 (id+i) (by omega) (by omega)).1
             rw[e,hu] at this;simp only[zbg,this,kC])
           have d4:∀n R,zy st1.ro n=some R->U n\/Mine id n:=λn R h=>(by rcases e8 n R h with h|⟨_,Q,h⟩|⟨h,_⟩;{obtain⟨g,z,_⟩:=a7 n R h;exact .inr ⟨g,z⟩};{exact .inl (hS.ids.ro n Q h)};{exact .inl (hS.ids.ro n R h)});have hvi:∀n∈(zj9<|zdw rs id).ids,U n\/Mine id n:=λn hn=>by simp only[MV.ids,qR]at hn;obtain⟨a,ha,hn⟩:=hn;obtain⟨x,B,ha⟩:=zsP ha;have:=zgy rs id n x a B ha hn;exact .inr ⟨by omega,by omega⟩
           cases x with
           |none=>
            have hnx:=Sim.next (U1:=λn=>U n\/Mine id n) hS d3 hT (by rw[<- J]) (by rw[<- J]) (λn h=>.inl h) d4
             (λn G hn=>by
              rw[H]at hn;exact⟨.inl (hS.ids.lo n G hn).1,λa ha m hm=>.inl ((hS.ids.lo n G hn).2 a ha m hm)⟩)
             (dst:=o.dst) (zsQ L V) hvi
            subst J;exact c4 _ _ _ hnx
           |some y=>
            obtain⟨q,n,js⟩:=y;unfold zbcF at Y;split at Y;{cases Y}
            .rename_i ja jr js';split at Y
             .rename_i q' hoj haj;simp only[qC,jT]at Y;obtain⟨rfl,rfl,rfl⟩:=Y;rcases hB.get ja _ haj with⟨_,r,R,z,M,hRo,hrk,hcs⟩|⟨g,_⟩;rotate_left;{rw [hoj]at g;cases g};cases z;have hja:ja<xs.length:=(by rw[c5];exact(qA.1 haj).1);have hu:=qB hja;obtain⟨l',g7,hl2,hl3⟩:=f8 ja jr js' rfl R.t R.l _ (by rw[c0];exact hcs) hu
              have hjr:jr<(zI rs).length:=(qA.1 g7).1;have a6:=(d0 ja _ _ haj hu).2 R M;simp only[zbg,qC]at a6;have h8:=zbdM (U1:=λn=>U n\/Mine id n) (q:=q') (n:=id+jr) (js:=js') hS d3 hT (by rw[<- J]) (by rw[<- J]) H (λn h=>.inl h) d4
               (λl G hl=>X _ (b3 l G hl) (λj hj T hk=>by
                obtain⟨q2,hq2,Q',_,g,z,I⟩:=D j _ T hk;exact F.lro l G q2 Q' hl g I)) (.inr ⟨by omega,by omega⟩) (λR1 d7=>by
                rcases A _ R1 d7 with h|⟨_,_,_,S⟩
                .obtain⟨_,_,_,t2,l2,h5,rfl⟩:=a7 _ R1 h;have e:id+jr-id=jr:=by omega
                 rw[e,g7]at h5;cases h5;refine⟨R,M,rfl,?_,?_⟩
                 .rw [(b1 (id+jr) (by omega) (by omega)).1,e,hl2,a6]
                  rfl
                 .rw [a6];exact hl3
                .exact absurd S (e4 _ ⟨by omega,by omega⟩))
              have hI:Trans st1 E1 w' (st1.ren<|some (q',id+jr,js')) E1 w' (λ_=>True):=
               ⟨λr _ R1 g=>⟨R1,g,rfl,λ_ _ h=>h⟩,λl _ G g=>⟨by
                simp only[St.ren]at g;rw[znt]at g;cases hl:zy st1.lo l with
                |none=>rw[hl]at g;cases g
                |some c=>exact⟨c,rfl⟩,rfl⟩,rfl⟩
              have h7:=h8.putV (dst:=o.dst) (VM.tr hI (λ_ _=>trivial)<|zsQ L V) hvi;subst J;exact c4 _ _ _ h7
             {cases Y}
        {cases h}
       {cases h}
     {cases h}
    {cases h}
   {cases h}
  {cases h}
 {cases h}
def z9Q (a:CfgOk C)(b:MctOk C)(c:PctOk C)(d:TctOk C):GraftOk C:=⟨z7u a,zbac b,zbam c,zbaL d⟩
end
section
variable {C:Cfg} {st st':St}
structure Agree (st st':St) (L:List Operand):Prop where
 ep:st'.ep=st.ep
 op:∀x∈L,st'.opnd x=st.opnd x
 id:∀x∈L,∀m,st.opnd x=some m->∀a∈zbL m,(∀n∈zby a,zy st'.ro n=zy st.ro n)/\∀n∈zbG a,zy st'.lo n=zy st.lo n
variable {L:List Operand}
def Agree.at (h:Agree st st' L){x:Operand}(a:x∈L):st'.at x=st.at x:=by unfold St.at;rw[h.op x a]
def Agree.rootN (h:Agree st st' L){n:Nat}(a:zy st'.ro n=zy st.ro n):st'.root n=st.root n:=by unfold St.root;rw[a,h.ep]
def Held (st:St)(L:List Operand)(a:At):Prop:=∃x∈L,∃m,st.opnd x=some m/\a∈zbL m
def Agree.held (h:Agree st st' L){a:At}(b:Held st L a):(∀n∈zby a,zy st'.ro n=zy st.ro n)/\∀n∈zbG a,zy st'.lo n=zy st.lo n:=by obtain⟨x,d,m,c,b⟩:=b;exact h.id x d m c a b
def zeU {x:Operand}{a:At}(b:x∈L)(h:st.at x=some a):Held st L a:=⟨x,b,_,zQI h,by simp[zbL,zZ]⟩
def Agree.root (h:Agree st st' L){r:Nat}{p:List (Int×Nat)}(a:Held st L (.sl r p)):st'.root r=st.root r :=
 h.rootN ((h.held a).1 r (by simp[zby]))
def Agree.node (h:Agree st st' L){r:Nat}{p:List (Int×Nat)}(a:Held st L (.sl r p))(q:List (Int×Nat)):st'.node r q=st.node r q:=by unfold St.node;rw[h.root a]
def Agree.rootE (h:Agree st st' L){r:Nat}{p:List (Int×Nat)}{i:Int}{o:Nat}(a:Held st L (.ep r p i o)):st'.root r=st.root r :=
 h.rootN ((h.held a).1 r (by simp[zby]))
def Agree.nodeE (h:Agree st st' L){r:Nat}{p:List (Int×Nat)}{i:Int}{o:Nat}(a:Held st L (.ep r p i o))(q:List (Int×Nat)):st'.node r q=st.node r q:=by unfold St.node;rw[h.rootE a]
def Agree.loc (h:Agree st st' L){l o:Nat}(a:Held st L (.lp l o)):zy st'.lo l=zy st.lo l :=
 (h.held a).2 l (by simp[zbG])
def Agree.cvOf (h:Agree st st' L){a:At}(b:Held st L a):st'.cvOf a=st.cvOf a:=by cases a with|sl r p=>exact h.node b p|_=>rfl
def znH {c e:Type}{f g:c->Option e}:∀{l:List c},(∀a∈l,f a=g a)->zcR f l=zcR g l
 |[],_=>rfl
 |a::l,h=>by simp only[zcR];rw[h a (by simp),znH (l:=l) λb d=>h b (by simp[d])]
def Agree.avOf (h:Agree st st' L){x:Operand}(c:x∈L){m:MV}(b:st.opnd x=some m):st'.avOf m=st.avOf m:=by
 cases m with
 |und=>rfl
 |tup l=>rfl
 |v y=>rcases y with a|l;{simp only [St.avOf];rw[h.cvOf ⟨x,c,_,b,by simp[zbL,zZ]⟩]};{simp only [St.avOf];rw[znH (f:=st'.cvOf) (g:=st.cvOf) λa d=>h.cvOf ⟨x,c,_,b,by simpa [zbL,zZ] using d⟩]}
def Agree.give (h:Agree st st' L)(c:Option (Nat×List (Int×Nat)×Int)):∀(d:List At) (j:Nat),(∀a∈d,Held st L a)->st'.give c d j=st.give c d j
 |[],j,_=>rfl
 |a::d,j,g=>by have e:=Agree.give h c d (j+1) (λb i=>g b (by simp[i]));have f:=g a (by simp);cases a with|sl r q=>(cases q with|nil=>simp only[St.give,e,h.root f]|cons k q=>simp only[St.give,e,h.node f])|_=>simp only[St.give,e]
def Agree.giveV (h:Agree st st' L){x:Operand}(e:x∈L){y:TV}(d:st.opnd x=some (.v y))(b:Option (Nat×List (Int×Nat)×Int))(j:Nat):st'.give b (zZ y) j=st.give b (zZ y) j :=
 h.give b (zZ y) j (λa c=>⟨x,e,_,d,by simpa [zbL] using c⟩)
def Agree.layParts (h:Agree st st' L){T:TypeId}:∀(a:List (Nat×Operand)) (b:List At),(∀x∈a,x.2∈L)->layParts C T st' a b=layParts C T st a b
 |[],_,_=>rfl
 |(f,x)::r,b,c=>by simp only[E.layParts];rw[h.op x<|c (f,x) (by simp)];split;{split;{exact Agree.layParts h r _ (λy d=>c y (by simp[d]))};{rfl}};{rfl}
def Agree.rowParts (h:Agree st st' L){t:Ty}:∀(a:List (Nat×Operand)) (l:List t.den) (b:List Nat),(∀x∈a,x.2∈L)->rowParts st' t a l b=rowParts st t a l b
 |[],_,_,_=>rfl
 |(i,x)::r,l,b,c=>by have d:=c (i,x) (by simp);simp only[E.rowParts];rw[h.op x d];cases e:st.opnd x with|none=>rfl|some m=>(cases m with|und=>rfl|tup _=>rfl|v y=>simp only;rw[h.giveV d e];split;{split;{split;{exact Agree.rowParts h r _ _ (λy f=>c y (by simp[f]))};{rfl}};{rfl}};{rfl})
def zUh (l:List (Nat×Root))(n:Nat):zy (l.map λx=>(x.1,zto x.2)) n=(zy l n).map zto:=by induction l with|nil=>rfl|cons a l b=>obtain⟨k,v⟩:=a;simp only[jG,zy];split;{rfl};{exact b}
def Agree.own1 (h:Agree st st' L):Agree st.own1 st'.own1 L :=
 ⟨h.ep,h.op,λx d m c a b=>⟨λn e=>by
  show zy (st'.ro.map λx=>(x.1,zto x.2)) n=zy (st.ro.map λx=>(x.1,zto x.2)) n
  rw[zUh,zUh,(h.id x d m c a b).1 n e],(h.id x d m c a b).2⟩⟩
def Agree.rowPartsZ (h:Agree st st' L){t:Ty}:∀(a:List (Nat×Operand)) (l:List t.den) (b:List Nat),(∀x∈a,x.2∈L)->rowPartsZ st' t a l b=rowPartsZ st t a l b
 |[],_,_,_=>rfl
 |(i,x)::r,l,b,c=>by have d:=c (i,x) (by simp);simp only[E.rowPartsZ];rw[h.op x d];cases e:st.opnd x with|none=>rfl|some m=>(cases m with|und=>rfl|tup _=>rfl|v y=>simp only;rw[h.own1.giveV d e];split;{split;{split;{exact Agree.rowPartsZ h r _ _ (λy f=>c y (by simp[f]))};{rfl}};{rfl}};{rfl})
end
section
variable {C:Cfg} {st st':St}
def zbel {o:Oper}{id:Nat}{T:TypeId}{x:Operand}(b:o.op = .load T x){L:List Operand}(c:x∈L)(h:Agree st st' L):z0 C st' o id=z0 C st o id:=by have f:=h.at c;simp only[z0,b,f];cases j:C.cty T with|none=>rfl|some g=>(cases e:st.at x with|none=>rfl|some a=>(cases a with|lp l d=>simp only[h.loc<|zeU c e]|ep r p i d=>simp only[h.nodeE<|zeU c e]|_=>rfl))
def zbcU {o:Oper}{id:Nat}{T:TypeId}{a x:Operand}(n:o.op = .store T a x){L:List Operand}(u:x∈L)(g:a∈L)(h:Agree st st' L):z0 C st' o id=z0 C st o id:=by
 have z:=h.at g;have D:=h.op x u;simp only[z0,n,z,D];cases E:C.cty T with
 |none=>rfl
 |some A=>
  cases B:st.opnd x with
  |none=>
   obtain⟨w,c⟩:=A;have q:c=[]\/(∃k,c=[.i k])\/c=[.b]\/(∃t,c=[.s t])\/∃d f r,c=d::f::r:=by
    match c with
    |[]=>exact .inl rfl
    |[.i k]=>exact .inr (.inl ⟨k,rfl⟩)
    |[.b]=>exact .inr (.inr (.inl rfl))
    |[.s t]=>exact .inr (.inr<|.inr<|.inl ⟨t,rfl⟩)
    |d::f::r=>exact .inr (.inr<|.inr<|.inr ⟨d,f,r,rfl⟩)
   cases e:st.at a with
   |none=>rcases q with rfl|⟨k,rfl⟩|rfl|⟨t,rfl⟩|⟨d,f,r,rfl⟩<;>first|rfl|(cases d<;>rfl)
   |some y=>
    cases y with
    |lp l j=>rcases q with rfl|⟨k,rfl⟩|rfl|⟨t,rfl⟩|⟨d,f,r,rfl⟩;{rfl};{rfl};{rfl};{simp only [h.loc<|zeU g e]};{cases d<;>rfl}
    |_=>rcases q with rfl|⟨k,rfl⟩|rfl|⟨t,rfl⟩|⟨d,f,r,rfl⟩<;>first|rfl|(cases d<;>rfl)
  |some m=>cases m with|v y=>(cases e:st.at a with|none=>rfl|some b=>(cases b with|lp l j=>simp only[h.loc<|zeU g e]|ep r p i j=>simp only[h.rootE<|zeU g e,h.nodeE<|zeU g e,h.giveV u B]|_=>rfl))|_=>rfl
def zm0 (a:st'.ep=st.ep):∀(b:List Nat),(∀k∈b,zy st'.ro k=zy st.ro k)->moved st' b=moved st b
 |[],_=>rfl
 |k::b,c=>by simp only[moved];rw[c k (by simp),a,zm0 a b λq d=>c q (by simp[d])]
def zpD:∀(a:List Nat),(∀k∈a,zy st'.ro k=zy st.ro k)->zgw st' a=zgw st a
 |[],_=>rfl
 |k::a,b=>by simp only[zgw];rw[b k (by simp),zpD a λq c=>b q (by simp[c])]
def zbcT {o:Oper}{id:Nat}{T:TypeId}{x:Operand}{lo i:Option Operand}(j:o.op = .slice T x lo i none){L:List Operand}(g:x∈L)(f:∀y,lo=some y->y∈L)(d:∀y,i=some y->y∈L)(h:Agree st st' L):z0 C st' o id=z0 C st o id:=by have m:=h.at g;have ep:=h.ep;have sub:∀R t l,zf8 st' R t l=zf8 st R t l:=λR t l=>(by simp only[zf8,ep]);simp only[z0,j,m];cases e:st.at x with|none=>rfl|some a=>(cases a with|sl r p=>simp only[h.root<|zeU g e,h.node<|zeU g e,sub];(cases lo with|none=>(cases i with|none=>rfl|some y=>have c:∀R t l n,zKp C st' id r p R t l n=zKp C st id r p R t l n:=λR t l n=>(by have b:∀k∈[r],zy st'.ro k=zy st.ro k:=λk b=>(by simp only[qF]at b;subst b;exact(h.held<|zeU g e).1 k (by simp[zby]));unfold zKp;rw[zm0 h.ep [r] b,zpD [r] b];simp only[sub]);simp only[h.at (d y rfl),c])|some z=>(cases i with|none=>have c:∀R t l n,zQO C st' id r p R t l n=zQO C st id r p R t l n:=λR t l n=>(by have b:∀k∈[r],zy st'.ro k=zy st.ro k:=λk b=>(by simp only[qF]at b;subst b;exact(h.held<|zeU g e).1 k (by simp[zby]));unfold zQO;rw[zm0 h.ep [r] b,zpD [r] b];simp only[sub]);simp only[h.at (f z rfl),c]|some y=>simp only[h.at (f z rfl),h.at (d y rfl)]))|_=>rfl)
def z9T {a:Type}{b:Bool}{x y:a}(h:(if b=true then some x else none)=some y):x=y:=by cases b with|true=>simpa using h|false=>simp at h
def zQT {m:Option (Nat×List (Int×Nat)×Int)}:∀(f:List At) (j:Nat) (c:Bool) (g:LC) (e:List Nat),st.give m f j=some (c,g,e)->∀k∈e,At.sl k []∈f
 |[],j,c,g,e,h,k,b=>by simp only[St.give,qC,jT]at h;obtain⟨_,_,rfl⟩:=h;simp at b
 |a::f,j,c,g,e,h,k,b=>by simp only[St.give]at h;split at h;{cases h};{rename_i n i l hg;have d:=zQT f (j+1) n i l hg;split at h;{cases h;exact qZ _ (d k b)};{cases h;exact qZ _ (d k b)};{split at h;{have p:=z9T h;cases p;rcases qG.1 b with rfl|b;{simp};{exact qZ _ (d k b)}};{cases h}};{split at h;{split at h;{split at h;{cases h;exact qZ _ (d k b)};{cases h}};{cases h}};{cases h}};{cases h}}
def zJw {t:Ty}:∀(b:List (Nat×Operand)) (l:List t.den) (d:List Nat) (e:List t.den) (a:List Nat),rowParts st t b l d=some (e,a)->∀k∈a,k∈d\/∃x∈b,∃y,st.opnd x.2=some (.v y)/\At.sl k []∈zZ y
 |[],l,d,e,a,h,k,f=>by simp only[rowParts,qC,jT]at h;obtain⟨_,rfl⟩:=h;exact .inl f
 |(i,x)::r,l,d,e,a,h,k,f=>by simp only[rowParts]at h;split at h;{rename_i y g;split at h;{rename_i m n hg;split at h;{split at h;{rcases zJw r _ _ e a h k f with c|⟨z,j,c⟩;{rcases jK.1 c with c|c;{exact .inr ⟨(i,x),by simp,y,g,zQT _ _ _ _ _ hg k c⟩};{exact .inl c}};{exact .inr ⟨z,by simp[j],c⟩}};{cases h}};{cases h}};{cases h}};{cases h}
def zFU {t:Ty}:∀(b:List (Nat×Operand)) (l:List t.den) (d:List Nat) (e:List t.den) (a:List Nat),rowPartsZ st t b l d=some (e,a)->∀k∈a,k∈d\/∃x∈b,∃y,st.opnd x.2=some (.v y)/\At.sl k []∈zZ y
 |[],l,d,e,a,h,k,f=>by simp only[rowPartsZ,qC,jT]at h;obtain⟨_,rfl⟩:=h;exact .inl f
 |(i,x)::r,l,d,e,a,h,k,f=>by simp only[rowPartsZ]at h;split at h;{rename_i y g;split at h;{rename_i m n hg;split at h;{split at h;{rcases zFU r _ _ e a h k f with c|⟨z,j,c⟩;{rcases jK.1 c with c|c;{exact .inr ⟨(i,x),by simp,y,g,zQT _ _ _ _ _ hg k c⟩};{exact .inl c}};{exact .inr ⟨z,by simp[j],c⟩}};{cases h}};{cases h}};{cases h}};{cases h}
def zXQ {o:Oper}{id:Nat}{T:TypeId}{n:Nat}{a:Array (Nat×Operand)}(g:o.op = .buildSlice T n a){L:List Operand}(c:∀x∈a.toList,x.2∈L)(h:Agree st st' L):z0 C st' o id=z0 C st o id:=by
 simp only[z0,g];cases p:C.sty T with
 |none=>rfl
 |some t=>
  simp only[h.rowParts a.toList _ _ c];cases e:rowParts st t a.toList (List.replicate n t.dflt) [] with
  |none=>
   simp only[h.rowPartsZ a.toList _ _ c];cases e:rowPartsZ st t a.toList (List.replicate n t.dflt) [] with
   |none=>rfl
   |some m=>
    obtain⟨l,j⟩:=m;simp only;rw[zpD j (λk d=>by
     rcases zFU _ _ _ _ _ e k d with b|⟨x,i,y,f,b⟩
     .simp at b
     .exact(h.held ⟨x.2,c x i,_,f,by simpa [zbL] using b⟩).1 k (by simp[zby]))]
  |some m=>
   obtain⟨l,j⟩:=m;simp only;rw[zm0 h.ep j (λk d=>by
    rcases zJw _ _ _ _ _ e k d with b|⟨x,i,y,f,b⟩
    .simp at b
    .exact(h.held ⟨x.2,c x i,_,f,by simpa [zbL] using b⟩).1 k (by simp[zby]))]
def c_call {o:Oper}{id:Nat}{c:Call}(D:o.op = .call c){L:List Operand}(g:∀x∈c.args.toList,x∈L)(h:Agree st st' L):z0 C st' o id=z0 C st o id:=by
 simp only[z0,D];cases G:c.callee with
 |invoke r n=>rfl
 |value f=>
  cases f with
  |func f=>
   simp only;have e:zcR (λx=>match st'.opnd x with|some v=>st'.avOf v|none=>none) c.args.toList=zcR (λx=>match st.opnd x with|some v=>st.avOf v|none=>none) c.args.toList:=by
    refine znH ?_;intro x i;simp only[h.op x<|g x i];cases e:st.opnd x with
    |none=>rfl
    |some m=>exact h.avOf (g x i) e
   cases C.ctr f with
   |some j=>
    exact congrArg (λA=>(match A with
     |some q=>(match j q with
      |some (c,s)=>if (s.flatMap AV.cvs).length<=31 then some ({c,v:=zj9 (zdw s id),ro:=zdy (zdj f) s id}:Dl) else none
      |none=>none)
     |none=>none)) e
   |none=>
    cases d:c.args.toList with
    |nil=>cases C.tct f with|none=>rfl|some x=>obtain⟨own,E,j⟩:=x;cases own<;>rfl
    |cons F K=>
     rw[d] at e g;cases C.tct f with
     |none=>rfl
     |some x=>
      obtain⟨own,E,j⟩:=x;cases own with
      |cons y l=>rfl
      |nil=>
       dsimp only;rw[h.op F<|g F (by simp)]
       exact congrArg (λA=>(match st.opnd F,A with
        |some (.v I),some q=>(match j q with
         |some (c,s)=>if (s.flatMap AV.cvs).all CV.flat&&decide ((s.flatMap AV.cvs).length<=31) then some ({c,v:=zj9 (I::zdw s id)}:Dl) else none
         |none=>none)
        |_,_=>none)) e
  |_=>rfl
 |builtin b=>
  cases b with
  |len=>simp only;split;{rename_i x T d B;have i:=g x (by rw[d];simp);rw[h.at i];cases e:st.at x with|none=>rfl|some a=>(cases a with|sl r p=>simp only[h.node<|zeU i e]|_=>rfl)};{rfl}
  |min=>simp only;split;{rename_i x y d;rw[h.at<|g x (by rw[d];simp),h.at<|g y (by rw[d];simp)]};{rfl}
  |max=>simp only;split;{rename_i x y d;rw[h.at<|g x (by rw[d];simp),h.at<|g y (by rw[d];simp)]};{rfl}
  |append=>
   simp only;split
   .rename_i x y T T2 d B;have i:=g x (by rw[d];simp);have w:=g y (by rw[d];simp);rw[h.at i,h.at w];split
    .cases hT:C.sty T with
     |none=>rfl
     |some t=>
      cases e:st.at x with
      |none=>rfl
      |some a=>
       cases a with
       |sl r p=>
        cases p with
        |nil=>
         cases z:st.at y with
         |none=>rfl
         |some b=>
          cases b with
          |sl H J=>
           simp only[h.root<|zeU i e,h.root<|zeU w z,h.node<|zeU w z];rw[zm0 h.ep [r] (λk u=>by
            simp only[qF]at u;subst u;exact(h.held<|zeU i e).1 k (by simp[zby])),
            zm0 h.ep [r,H] (λk u=>by
             simp only[qG,qN,or_false]at u;rcases u with rfl|rfl
             .exact(h.held<|zeU i e).1 k (by simp[zby])
             .exact(h.held<|zeU w z).1 k (by simp[zby]))]
          |_=>rfl
        |cons _ _=>rfl
       |_=>rfl
    {rfl}
   {rfl}
  |_=>rfl
def z1l {o:Oper}{id:Nat}(h:Agree st st' o.op.operands.toList):z0 C st' o id=z0 C st o id:=by
 cases d:o.op<;>rw [d]at h<;>simp only [Op.operands]at h
 case move x=>
  simp only[z0,d];split
  .rfl
  .rfl
  .rw [h.op x (by simp)]
 case assign x=>
  simp only[z0,d];split
  .rfl
  .rfl
  .rw [h.op x (by simp)]
 (case pick c a b=>simp only[z0,d,h.op a (by simp),h.op b (by simp),h.at (x:=c) (by simp)]);(case alloc T=>simp only[z0,d]);case box T x=>simp only[z0,d,h.op x (by simp)]
 case build T parts=>
  simp only[z0,d];have e:∀t,layParts C T st' parts.toList t=layParts C T st parts.toList t:=λt=>h.layParts parts.toList t (λx q=>by simp;exact⟨x.1,by simpa using q⟩)
  simp only[e]
 (case load T x=>exact zbel d (by simp) h);(case store T a x=>exact zbcU d (by simp) (by simp) h);(case nilCheck x=>simp only[z0,d,h.at (x:=x) (by simp)]);(case binOp op T x y T2=>simp only[z0,d,h.op x (by simp),h.op y (by simp)]);(case unOp op T x=>simp only[z0,d,h.at (x:=x) (by simp)]);case convert a b x=>simp only[z0,d,h.at (x:=x) (by simp)]
 case makeFunc fn first caps=>
  cases fn with
  |func f=>
   simp only[z0,d];rw[znH (g:=λx=>match st.at x with|some (.lp l 0)=>some l|_=>none) (l:=caps.toList)];{rfl};intro x q;simp only[h.at (x:=x) (by simp;exact .inr (by simpa using q))];rfl
  |_=>simp only[z0,d]
 case makeSlice T x y=>simp only[z0,d,h.at (x:=x) (by simp),h.at (x:=y) (by simp)]
 case slice T x lo hi mx=>
  cases mx with
  |none=>exact zbcT d (by simp) (λy u=>by simp[u]) (λy u=>by simp[u]) h
  |some m=>simp only[z0,d]
 (case fieldAddr T x f=>simp only[z0,d,h.at (x:=x) (by simp)]);case field T x f=>simp only[z0,d,h.op x (by simp)]
 case index T x y=>
  cases x with
  |const v=>cases v with|string s=>simp only[z0,d,h.at (x:=y) (by simp)]|_=>simp only[z0,d]
  |_=>simp only[z0,d]
 case indexAddr T x y=>
  have q:x ∈ #[x,y].toList:=by simp
  simp only[z0,d,h.at q,h.at (x:=y) (by simp)]
  cases e:st.at x with
  |none=>rfl
  |some a=>
   cases a with
   |sl r p=>
    have w:=h.node (zeU q e) p;cases z:st.at y with
    |none=>rfl
    |some b=>
     cases b with
     |i k n=>cases k<;>first|rfl|(simp only [w])
     |_=>rfl
   |_=>rfl
 (case extract x j=>simp only[z0,d,h.op x (by simp)]);(case call c=>exact c_call d (λx q=>by simp only[Call.operands,Array.toList_append,jK];exact .inr q) h);(case buildSlice T n parts=>exact zXQ d (λx q=>by simp;exact⟨x.1,by simpa using q⟩) h);all_goals simp only [z0,d]
end
end
end Go.Proofs.YtapgkefgcbapcaaGreat.E
