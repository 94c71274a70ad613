/- What is proved here: a part of the proof of the claim. -/
import Derived.Test.YtapgkefgcbapcaaGreatU3
namespace Go.Proofs.YtapgkefgcbapcaaGreat.E
open Go
set_option linter.defProp false
set_option linter.constructorNameAsVariable false
set_option linter.unusedVariables false
set_option maxRecDepth 100000
set_option linter.unusedSimpArgs false
set_option linter.unusedSectionVars false
noncomputable section
def zbn (h:ad):LC:=[.s (.sl .int) h.ag,.s .mon h.aa,.s .entry h.ao,.s .entry h.an]
def zog (c:Ctl):LC:=[.i .i64 c.aq,.i .i64 c.Post,.b c.Open]
def zgl (e:aE):LC:=[.i .i64 e.Kind,.i .i64 e.af,.b e.Write,.i .i64 e.N]
structure Cur where
 b:List Int
 i:Int
 h:Int
def zbT (c:Cur):LC:=[.s .u8 c.b,.i .i64 c.i,.i .i64 c.h]
def zA:List (Nat×Nat×Tmpl)->FuncId->Nat->Option Tmpl
 |[],_,_=>none
 |(g,c,T)::r,f,b=>cond (Nat.beq g f) (cond (Nat.beq c b) (some T)<|zA r f b) (zA r f b)
def pc (p:Prop):Bool:=@decide p (Classical.propDecidable p)
def zT {p:Prop}:pc p=true↔p:=by unfold pc;exact @decide_eq_true_iff p (Classical.propDecidable p)
def zY {p:Prop}(h:p):pc p=true:=zT.2 h
inductive CVB (K:Nat):CV->Prop
 |i (k:IntKind) (n:Int):CVB K (.i k n)
 |b (x:Bool):CVB K (.b x)
 |s (t:Ty) (l:List t.den) (hl:l.length<=K) (h:∀x∈l,∀c∈t.cells x,CVB K c):CVB K (.s t l)
def CVB.inv {K:Nat}{t:Ty}{l:List t.den}(h:CVB K (.s t l)):l.length<=K/\∀x∈l,∀c∈t.cells x,CVB K c:=by cases h with|s _ _ a h=>exact⟨a,h⟩
def CVB.len {K:Nat}{t:Ty}{l:List t.den}(h:CVB K (.s t l)):l.length<=K:=h.inv.1
def CVB.mono {K L:Nat}(a:K<=L){c:CV}(h:CVB K c):CVB L c:=by induction h with|i k n=>exact .i k n|b x=>exact .b x|s t l d h e=>exact .s t l (qS d a) e
def CVB.of_rep {o:Bool}{w:World}{v:Value}{c:CV}{S:zV}(h:Rep o w v c S):CVB big c:=by
 induction h with
 |i k n S=>exact .i k n
 |b x S=>exact .b x
 |nil t S=>exact .s t [] (kA _) (λx h=>by cases h)
 |void t a S I=>exact .s t [] (kA _) (λx h=>by cases h)
 |sl t l b D r q e E V K S G u d g A F p m J H C=>refine .s t l d (λx B c f=>?_);obtain⟨i,y⟩:=qV.1 B;obtain⟨j,z⟩:=qV.1 f;exact C i x y j c z
def CVB.of_ok {c:CV}(h:CVOk c):CVB big c:=by induction h with|i k n _=>exact .i k n|b x=>exact .b x|s t l f h m=>refine .s t l f (λx g c a=>?_);obtain⟨i,d⟩:=qV.1 g;obtain⟨j,e⟩:=qV.1 a;exact m i x d j c e
def zb5 (K:Nat)(a:LA):Prop:=∀c∈zy a,CVB K c
def zbI {K:Nat}{a:AV}{b:LA}(h:zb5 K (a::b)):(∀c∈a.cvs,CVB K c)/\zb5 K b:=by unfold zb5 zy at *;simp only[kE,jH]at h;exact⟨λc d=>h c (.inl d),λc d=>h c (.inr d)⟩
def zVv {a:LA}(h:∃w e,zdo false w (zy a) e λ_ b=>b<w.heap.size):zb5 big a:=by obtain⟨w,e,g,j⟩:=h;intro c k;obtain⟨i,f⟩:=qV.1 k;have d:i<e.length:=(by rw[g];exact(qA.1 f).1);exact CVB.of_rep (j i c _ f<|qB d)
def zk4 {b:LC}{a:LA}(h:∃(w:World) (f:Nat->Value) (K:Nat->zV),∀(j:Nat) (c:CV),(b++zy a)[j]?=some c->Rep false w (f j) c (K j)):zb5 big (.agg b::a):=by obtain⟨w,f,K,h⟩:=h;intro c d;have e:zy (AV.agg b::a)=b++zy a:=(by simp[zy,AV.cvs]);rw[e]at d;obtain⟨j,g⟩:=qV.1 d;exact CVB.of_rep (h j c g)
def zm2 {b c:Bool}{x y:LC}{z u:LA}(h:some (b,x,z)=some (c,y,u)):b=c/\y=x/\u=z:=by cases h;exact⟨rfl,rfl,rfl⟩
def zeu {b c:Bool}{x y:LA}(h:some (b,x)=some (c,y)):b=c/\y=x:=by cases h;exact⟨rfl,rfl⟩
abbrev zW:=List (Nat×(LW))
def zMl:zW:=[]
def zdV:∀f a,zn zMl f=some a->Holds Tryz.prog f a:=λf a h=>by cases h
abbrev zL (l:zW):Prop:=∀f a,zn l f=some a->Holds Tryz.prog f a
abbrev vT:=Holds Tryz.prog
def zh {l:zW}{f:Nat}{a:LW}(h:vT f a)(b:zL l):zL ((f,a)::l):=by intro g r hg;unfold zn at hg;split at hg;{rename_i e;cases hg;rw[<- qJ.1 e];exact h};{exact b g r hg}
abbrev zif:=List (Nat×(CV->Int->Option (Bool×CV×Int)))
def z4n:zif:=[]
abbrev zgS (m:zif):Prop:=∀f a,zn m f=some a->zJe Tryz.prog f a
def zN:zgS z4n:=λf a h=>by cases h
abbrev zcT:=List (Nat×List Bool×(LC->LA->Option (Bool×LC×LA)))
def zN2:zcT:=[]
abbrev zb2 (p:zcT):Prop:=∀f own a,zn p f=some (own,a)->zbP Tryz.prog f own a
def zC:zb2 zN2:=λf own a h=>by cases h
def zce {l m:zcT}(c:∀f own a,zn m f=some (own,a)->zbP Tryz.prog f own a)(b:∀x∈l,zbP Tryz.prog x.1 x.2.1 x.2.2):∀f own a,zn (l++m) f=some (own,a)->zbP Tryz.prog f own a:=by intro f own a h;rw[zbz]at h;split at h;{rename_i y d;cases h;exact b _ (znp d)};{exact c f own a h}
abbrev zgj:=List (Nat×List Bool×Option (Nat×Nat×List (List Nat))×(LW))
def zZR:zgj:=[]
abbrev zeL (t:zgj):Prop:=∀f own a b,zn t f=some (own,a,b)->zeh Tryz.prog f own a b
def zq:zeL zZR:=λf own a b h=>by cases h
def zqC {l m:zgj}(d:∀f own a b,zn m f=some (own,a,b)->zeh Tryz.prog f own a b)(c:∀x∈l,zeh Tryz.prog x.1 x.2.1 x.2.2.1 x.2.2.2):∀f own a b,zn (l++m) f=some (own,a,b)->zeh Tryz.prog f own a b:=by intro f own a b h;rw[zbz]at h;split at h;{rename_i y e;cases h;exact c _ (znp e)};{exact d f own a b h}
abbrev cQ (c:zW)(m:zif)(p:zcT)(t:zgj):Cfg:=zmv (zn c) (zn m) (zn p) (zn t)
def z4a {c:zW}{m:zif}{p:zcT}{t:zgj}(k:zL c)(l:zgS m)(n:zb2 p)(q:zeL t){f:FuncId}{b:LW}(i:FnOk Tryz.prog f)(h:∀a d,zb5 big a->b a=some (true,d)->∃g N,evalFn (cQ c m p t) g N 12 f a=some d):vT f b :=
 zAi (zg6 k l n q) i λa d j e=>(h a d (zVv j) e).elim λt x=>x.elim λN y=>⟨t,N,12,y⟩
noncomputable def zfL (f:FuncId):Bool :=
 match Tryz.prog.funcs[f]? with
 |some a=>a.body.isSome && !(a.name == "runtime.NumGoroutine")
 |none=>false
def zjK {f:FuncId}(h:zfL f=true):FnOk Tryz.prog f:=by unfold zfL at h;split at h;{rename_i a d;simp only[qE,jI]at h;obtain⟨b,c⟩:=uW.1 h.1;exact⟨a,b,d,c,h.2⟩};{cases h}
abbrev oN {b:Type}(c:Bool)(a:Option b):Option b:=bif c then a else none
abbrev nB (c:Bool):Bool:=bif c then false else true
abbrev ti:AT:=.i .i64
structure Dc (α:Type) where
 d:AV->Option α
 e:α->AV
 h:∀{a x},d a=some x->a=e x
abbrev aI (x:Int):AV:=.one (.i .i64 x)
abbrev aB (x:Bool):AV:=.one (.b x)
abbrev aS (t:Ty)(l:List t.den):AV:=.one (.s t l)
abbrev aT (t:Ty)(x:t.den):AV:=.agg (t.cells x)
abbrev aH (h:ad):AV:=.agg (zbn h)
abbrev OA:=Option Ans
abbrev oF:OA:=some [aB false]
abbrev oT:OA:=some [aB true]
abbrev lA:=List GAct
abbrev lB:=List Bool
abbrev lE:=List ar
abbrev lG:=List ah
abbrev lI:=List Ins
abbrev lK:=List az
abbrev lM:=List LI
abbrev lN:=List Mon
abbrev lP:=List (List Ins)
abbrev lQ:=List (List<|List Ins)
abbrev lR:=List ak
abbrev lS:=List k0
abbrev lT:=List aF
def dI:Dc Int:=⟨λa=>match a with | .one (.i .i64 x)=>some x|_=>none,aI,λ{a x} h=>by split at h<;>cases h;rfl⟩
def dB:Dc Bool:=⟨λa=>match a with | .one (.b x)=>some x|_=>none,aB,λ{a x} h=>by split at h<;>cases h;rfl⟩
def dS (t:Ty):Dc (List t.den):=⟨λa=>match a with | .one (.s b l)=>if h:b=t then some (h ▸ l) else none|_=>none,aS t,λ{a x} h=>by
 split at h
 .rename_i b l;split at h
  .rename_i e;subst e;cases h;rfl
  .cases h
 .cases h⟩
def dT (t:Ty):Dc t.den:=⟨λa=>match a with | .agg b=>t.ofCells b|_=>none,aT t,λ{a x} h=>by
 split at h
 .rw [<- zhi h]
 .cases h⟩
def dH:Dc ad:=⟨λa=>match a with | .agg [.s (.sl .int) x,.s .mon y,.s .entry z,.s .entry u]=>some ⟨x,y,z,u⟩|_=>none,aH,λ{a x} h=>by split at h<;>cases h;rfl⟩
def dC:Dc Ctl:=⟨λa=>match a with | .agg [.i .i64 x,.i .i64 y,.b z]=>some ⟨x,y,z⟩|_=>none,λx=>.agg (zog x),λ{a x} h=>by split at h<;>cases h;rfl⟩
def dE:Dc aE:=⟨λa=>match a with | .agg [.i .i64 x,.i .i64 y,.b z,.i .i64 u]=>some ⟨x,y,z,u⟩|_=>none,λx=>.agg (zgl x),λ{a x} h=>by split at h<;>cases h;rfl⟩
abbrev Run:=LW
def eat {b:Type}(D:Dc b)(k:b->Run):Run
 |[]=>none
 |a::l=>match D.d a with
  |some x=>k x l
  |none=>none
def stop (r:Bool×LA):Run
 |[]=>some r
 |_=>none
def z7W {c:Type}{D:Dc c}{k:c->Run}{b:LA}{r:Bool×LA}(h:eat D k b=some r):∃x l,b=D.e x::l/\k x l=some r:=by unfold eat at h;split at h;{cases h};{rename_i a l;split at h;{rename_i x d;exact⟨x,l,by rw[D.h d],h⟩};{cases h}}
def z4Z {q r:Bool×LA}{a:LA}(h:stop q a=some r):a=[]/\r=q:=by unfold stop at h;split at h<;>cases h;exact⟨rfl,rfl⟩
def zcI {p:Nat->Prop}(h:∀N,(∀{n:Nat},n<=big->n<N)->p N):∃N,p N:=⟨big+1,h _ λh=>Nat.lt_succ_of_le h⟩
def len0 {t:Ty}{l:List t.den}{r:LA}(a:zb5 big (.one (.s t l)::r)):l.length<=big:=((zbI a).1 _ (qD.2 rfl)).len
def Read (c:zW)(m:zif)(p:zcT)(t:zgj)(d:FuncId->Nat->Option Tmpl)(f:FuncId)(b:LA)(r:Run):Prop:=∀a e,zb5 big (b++a)->r a=some (true,e)->∃N,evalFn (cQ c m p t) d N 12 f (b++a)=some e
def zfk {c:zW}{m:zif}{p:zcT}{t:zgj}{d:FuncId->Nat->Option Tmpl}{f:FuncId}{b:LA}{g:Type}{D:Dc g}{k:g->Run}(h:∀a,Read c m p t d f (b++[D.e a])<|k a):Read c m p t d f b (eat D k):=by intro i r q e;obtain⟨x,l,n,j⟩:=z7W e;subst n;have:=h x l r (by simpa using q) j;simpa using this
def znW {c:zW}{m:zif}{p:zcT}{t:zgj}{d:FuncId->Nat->Option Tmpl}{f:FuncId}{a:LA}{g:Bool×LA}{E:Nat->OA}(h:zb5 big a->g.1=true->∃N,E N=some g.2)(n:∀N,evalFn (cQ c m p t) d N 12 f a=E N):Read c m p t d f a (stop g):=by intro j q i e;obtain⟨l,k⟩:=z4Z e;subst l;cases g with|mk b x=>cases k;rw[jE]at i ⊢;obtain⟨N,e⟩:=h i rfl;exact⟨N,(n N).trans e⟩
def zqc {c:zW}{m:zif}{p:zcT}{t:zgj}(i:zL c)(j:zgS m)(k:zb2 p)(l:zeL t){a:FuncId->Nat->Option Tmpl}{f:FuncId}{r:Run}(g:zfL f=true)(h:Read c m p t a f [] r):vT f r :=
 z4a i j k l (zjK g) λb n d e=>(h b n d e).elim λN x=>⟨a,N,x⟩
def rF0  (g:Bool×LA):Run:=stop g
def hF0 {c:zW}{m:zif}{p:zcT}{t:zgj}(j:zL c)(k:zgS m)(l:zb2 p)(n:zeL t)(b:FuncId->Nat->Option Tmpl){g:Bool×LA}{E:Nat->OA}{f:FuncId}(a:zb5 big []->g.1=true->∃N,E N=some g.2)(i:∀N,evalFn (cQ c m p t) b N 12 f []=E N:=by intros;kernel_rfl)(h:zfL f=true:=by kernel_rfl):vT f (rF0 g):=
 zqc j k l n h (znW (λd e=>a d e) λN=>i N)
def kF0 {c:zW}{m:zif}{p:zcT}{t:zgj}(h:zL c)(i:zgS m)(j:zb2 p)(k:zeL t)(a:FuncId->Nat->Option Tmpl){g:Bool×LA}{E:Nat->OA}{f:FuncId}(b:g.1=true->∃N,E N=some g.2)(e:∀N,evalFn (cQ c m p t) a N 12 f []=E N:=by intros;kernel_rfl)(d:zfL f=true:=by kernel_rfl):vT f (rF0 g):=hF0 h i j k a (λ_=>b) e d
def rF1 {a:Type}(b:Dc a)(g:a->Bool×LA):Run:=eat b λc=>stop (g c)
def hF1 {b:Type}{c:zW}{m:zif}{p:zcT}{t:zgj}(q:zL c)(r:zgS m)(s:zb2 p)(u:zeL t)(i:FuncId->Nat->Option Tmpl){d:Dc b}{g:b->Bool×LA}{E:Nat->b->OA}{f:FuncId}(h:∀a,zb5 big [d.e a]->(g a).1=true->∃N,E N a=some (g a).2)(n:∀N a,evalFn (cQ c m p t) i N 12 f [d.e a]=E N a:=by intros;kernel_rfl)(l:zfL f=true:=by kernel_rfl):vT f (rF1 d g):=
 zqc q r s u l (zfk λa=>znW (λj k=>h a j k) λN=>n N a)
def kF1 {d:Type}{c:zW}{m:zif}{p:zcT}{t:zgj}(l:zL c)(n:zgS m)(q:zb2 p)(r:zeL t)(b:FuncId->Nat->Option Tmpl){i:Dc d}{g:d->Bool×LA}{E:Nat->d->OA}{f:FuncId}(h:∀a,(g a).1=true->∃N,E N a=some (g a).2)(k:∀N a,evalFn (cQ c m p t) b N 12 f [i.e a]=E N a:=by intros;kernel_rfl)(j:zfL f=true:=by kernel_rfl):vT f (rF1 i g):=hF1 l n q r b (λa _=>h a) k j
def rF2 {a b:Type}(c:Dc a)(d:Dc b)(g:a->b->Bool×LA):Run:=eat c λe=>eat d λf=>stop (g e f)
def hF2 {d h:Type}{c:zW}{m:zif}{p:zcT}{t:zgj}(u:zL c)(v:zgS m)(w:zb2 p)(x:zeL t)(l:FuncId->Nat->Option Tmpl){i:Dc d}{j:Dc h}{g:d->h->Bool×LA}{E:Nat->d->h->OA}{f:FuncId}(k:∀a b,zb5 big [i.e a,j.e b]->(g a b).1=true->∃N,E N a b=some (g a b).2)(s:∀N a b,evalFn (cQ c m p t) l N 12 f [i.e a,j.e b]=E N a b:=by intros;kernel_rfl)(r:zfL f=true:=by kernel_rfl):vT f (rF2 i j g):=
 zqc u v w x r (zfk λa=>zfk λb=>znW (λn q=>k a b n q) λN=>s N a b)
def kF2 {h i:Type}{c:zW}{m:zif}{p:zcT}{t:zgj}(r:zL c)(s:zgS m)(u:zb2 p)(v:zeL t)(d:FuncId->Nat->Option Tmpl){k:Dc h}{l:Dc i}{g:h->i->Bool×LA}{E:Nat->h->i->OA}{f:FuncId}(j:∀a b,(g a b).1=true->∃N,E N a b=some (g a b).2)(q:∀N a b,evalFn (cQ c m p t) d N 12 f [k.e a,l.e b]=E N a b:=by intros;kernel_rfl)(n:zfL f=true:=by kernel_rfl):vT f (rF2 k l g):=hF2 r s u v d (λa b _=>j a b) q n
def rF3 {a b c:Type}(d:Dc a)(e:Dc b)(f:Dc c)(g:a->b->c->Bool×LA):Run:=eat d λh=>eat e λi=>eat f λj=>stop (g h i j)
def hF3 {h i j:Type}{c:zW}{m:zif}{p:zcT}{t:zgj}(x:zL c)(y:zgS m)(z:zb2 p)(A:zeL t)(r:FuncId->Nat->Option Tmpl){k:Dc h}{l:Dc i}{n:Dc j}{g:h->i->j->Bool×LA}{E:Nat->h->i->j->OA}{f:FuncId}(q:∀a b d,zb5 big [k.e a,l.e b,n.e d]->(g a b d).1=true->∃N,E N a b d=some (g a b d).2)(w:∀N a b d,evalFn (cQ c m p t) r N 12 f [k.e a,l.e b,n.e d]=E N a b d:=by intros;kernel_rfl)(v:zfL f=true:=by kernel_rfl):vT f (rF3 k l n g):=
 zqc x y z A v (zfk λa=>zfk λb=>zfk λd=>znW (λs u=>q a b d s u) λN=>w N a b d)
def kF3 {i j k:Type}{c:zW}{m:zif}{p:zcT}{t:zgj}(v:zL c)(w:zgS m)(x:zb2 p)(y:zeL t)(h:FuncId->Nat->Option Tmpl){n:Dc i}{q:Dc j}{r:Dc k}{g:i->j->k->Bool×LA}{E:Nat->i->j->k->OA}{f:FuncId}(l:∀a b d,(g a b d).1=true->∃N,E N a b d=some (g a b d).2)(u:∀N a b d,evalFn (cQ c m p t) h N 12 f [n.e a,q.e b,r.e d]=E N a b d:=by intros;kernel_rfl)(s:zfL f=true:=by kernel_rfl):vT f (rF3 n q r g):=hF3 v w x y h (λa b d _=>l a b d) u s
def rF4 {a b c d:Type}(e:Dc a)(f:Dc b)(h:Dc c)(i:Dc d)(g:a->b->c->d->Bool×LA):Run:=eat e λj=>eat f λk=>eat h λl=>eat i λm=>stop (g j k l m)
def hF4 {i j k l:Type}{c:zW}{m:zif}{p:zcT}{t:zgj}(A:zL c)(B:zgS m)(C:zb2 p)(D:zeL t)(v:FuncId->Nat->Option Tmpl){n:Dc i}{q:Dc j}{r:Dc k}{s:Dc l}{g:i->j->k->l->Bool×LA}{E:Nat->i->j->k->l->OA}{f:FuncId}(u:∀a b d h,zb5 big [n.e a,q.e b,r.e d,s.e h]->(g a b d h).1=true->∃N,E N a b d h=some (g a b d h).2)(z:∀N a b d h,evalFn (cQ c m p t) v N 12 f [n.e a,q.e b,r.e d,s.e h]=E N a b d h:=by intros;kernel_rfl)(y:zfL f=true:=by kernel_rfl):vT f (rF4 n q r s g):=
 zqc A B C D y (zfk λa=>zfk λb=>zfk λd=>zfk λh=>znW (λw x=>u a b d h w x) λN=>z N a b d h)
def kF4 {j k l n:Type}{c:zW}{m:zif}{p:zcT}{t:zgj}(y:zL c)(z:zgS m)(A:zb2 p)(B:zeL t)(i:FuncId->Nat->Option Tmpl){r:Dc j}{s:Dc k}{u:Dc l}{v:Dc n}{g:j->k->l->n->Bool×LA}{E:Nat->j->k->l->n->OA}{f:FuncId}(q:∀a b d h,(g a b d h).1=true->∃N,E N a b d h=some (g a b d h).2)(x:∀N a b d h,evalFn (cQ c m p t) i N 12 f [r.e a,s.e b,u.e d,v.e h]=E N a b d h:=by intros;kernel_rfl)(w:zfL f=true:=by kernel_rfl):vT f (rF4 r s u v g):=hF4 y z A B i (λa b d h _=>q a b d h) x w
def rF5 {a b c d e:Type}(f:Dc a)(h:Dc b)(i:Dc c)(j:Dc d)(k:Dc e)(g:a->b->c->d->e->Bool×LA):Run:=eat f λl=>eat h λm=>eat i λn=>eat j λp=>eat k λq=>stop (g l m n p q)
def hF5 {j k l n q:Type}{c:zW}{m:zif}{p:zcT}{t:zgj}(D:zL c)(F:zgS m)(G:zb2 p)(H:zeL t)(y:FuncId->Nat->Option Tmpl){r:Dc j}{s:Dc k}{u:Dc l}{v:Dc n}{w:Dc q}{g:j->k->l->n->q->Bool×LA}{E:Nat->j->k->l->n->q->OA}{f:FuncId}(x:∀a b d h i,zb5 big [r.e a,s.e b,u.e d,v.e h,w.e i]->(g a b d h i).1=true->∃N,E N a b d h i=some (g a b d h i).2)(C:∀N a b d h i,evalFn (cQ c m p t) y N 12 f [r.e a,s.e b,u.e d,v.e h,w.e i]=E N a b d h i:=by intros;kernel_rfl)(B:zfL f=true:=by kernel_rfl):vT f (rF5 r s u v w g):=
 zqc D F G H B (zfk λa=>zfk λb=>zfk λd=>zfk λh=>zfk λi=>znW (λz A=>x a b d h i z A) λN=>C N a b d h i)
def kF5 {k l n q r:Type}{c:zW}{m:zif}{p:zcT}{t:zgj}(B:zL c)(C:zgS m)(D:zb2 p)(F:zeL t)(j:FuncId->Nat->Option Tmpl){u:Dc k}{v:Dc l}{w:Dc n}{x:Dc q}{y:Dc r}{g:k->l->n->q->r->Bool×LA}{E:Nat->k->l->n->q->r->OA}{f:FuncId}(s:∀a b d h i,(g a b d h i).1=true->∃N,E N a b d h i=some (g a b d h i).2)(A:∀N a b d h i,evalFn (cQ c m p t) j N 12 f [u.e a,v.e b,w.e d,x.e h,y.e i]=E N a b d h i:=by intros;kernel_rfl)(z:zfL f=true:=by kernel_rfl):vT f (rF5 u v w x y g):=hF5 B C D F j (λa b d h i _=>s a b d h i) A z
def zi4 {a:LA}(h:∃(w:World) (b:Nat->Value) (K:Nat->zV),∀(j:Nat) (c:CV),(zy a)[j]?=some c->Rep false w (b j) c (K j)):zb5 big a:=by obtain⟨w,b,K,h⟩:=h;intro c d;obtain⟨j,e⟩:=qV.1 d;exact CVB.of_rep (h j c e)
def cT {a:Type}(x y:a):(cond true x y)=x:=by simp
def cF {a:Type}(x y:a):(cond false x y)=y:=by simp
def zpP:big=140737488355328:=rfl
def ztr {x:Int}(a : -9223372036854775808<=x)(b:x<=9223372036854775807):IntKind.i64.wrap x=x:=by simp only[IntKind.wrap,IntKind.signed,IntKind.bits];simp;omega
def zmt {x y:Int}(a : -9223372036854775808<=x+y)(b:x+y<=9223372036854775807):zM .i64 x y=x+y:=ztr a b
def zys {x y:Int}(a : -9223372036854775808<=x-y)(b:x-y<=9223372036854775807):wsub .i64 x y=x-y:=ztr a b
def zbx {i n:Nat}(h:i<n)(a:n<=big):zM .i64 (i:Int) 1=((i+1:Nat):Int):=by rw[zpP]at a;rw[zmt (by omega) (by omega)];omega
section
variable {α:Type}
def zbK {l:List α}{i:Nat}(h:i<l.length):ilt (i:Int) (ln l)=true:=by unfold ilt ln;exact qM (by omega)
def zbw {l:List α}:ilt ((l.length:Nat):Int) (ln l)=false:=by unfold ilt ln;exact qT (by omega)
def zbc {l:List α}{i:Nat}(h:i<l.length):inb (i:Int) (ln l)=true:=by unfold inb ln;exact qM (by omega)
def zbr {l:List α}{i:Nat}(h:i<l.length)(d:α):ix l (i:Int) d=l[i]:=by unfold ix;simp[List.getD,qB h]
def zhn {l:List α}(h:l.length<=2147483648):few (ln l)=true:=by unfold few ln;exact qM (by omega)
def zzd (x:Int):ieq x x=true:=by simp[ieq]
def zel (x:Int):ine x x=false:=by simp[ine]
def zZ8 (x:Bool):ziM x x=true:=by simp[ziM]
end
def zdC {a b:Type}(n:Nat)(F:(a->Option b)->a->Option b)(s:a):iter (n+1) F s=F (iter n F) s:=rfl
def goL {d c b:Type}(a:Nat->d->c->(c->Option b)->Option b)(K:c->Option b):List d->Nat->c->Option b
 |[],_,t=>K t
 |x::l,i,t=>a i x t (goL a K l<|i+1)
def zbJ {q b d σ:Type}(l:List q)(g:Nat->b->σ)(F:(σ->Option d)->σ->Option d)(a:Nat->q->b->(b->Option d)->Option d)(K:b->Option d)(c:∀(i:Nat) (p:i<l.length) (t:b) (rec:σ->Option d),F rec (g i t)=a i l[i] t λk=>rec (g (i+1) k))(e:∀(t:b) (rec:σ->Option d),F rec (g l.length t)=K t) :
 ∀(N:Nat) (t:b),l.length<N->iter N F (g 0 t)=goL a K l 0 t:=by
 have j:∀(m i N:Nat) (t:b),l.length-i=m->i<=l.length->m<N->iter N F (g i t)=goL a K (l.drop i) i t:=by intro m;induction m with|zero=>intro i N t r p h;have:i=l.length:=(by omega);subst this;obtain⟨n,rfl⟩:∃n,N=n+1:=⟨N-1,by omega⟩;rw[zdC,e,vO];rfl|succ m s=>intro i N t r p h;obtain⟨n,rfl⟩:∃n,N=n+1:=⟨N-1,by omega⟩;have f:i<l.length:=(by omega);rw[zdC,c i f,kC f];simp only[goL];congr 1;funext k;exact s (i+1) n k (by omega) (by omega) (by omega)
 intro N t h;have:=j l.length 0 N t (by omega) (kA _) h
 simpa using this
def goN {c b:Type}(a:Nat->c->(c->Option b)->Option b)(K:c->Option b):Nat->Nat->c->Option b
 | 0,_,t=>K t
 |n+1,i,t=>a i t (goN a K n<|i+1)
def zt3 {b d σ:Type}(n:Nat)(g:Nat->b->σ)(F:(σ->Option d)->σ->Option d)(a:Nat->b->(b->Option d)->Option d)(K:b->Option d)(c:∀(i:Nat) (q:i<n) (t:b) (rec:σ->Option d),F rec (g i t)=a i t λp=>rec (g (i+1) p))(f:∀(t:b) (rec:σ->Option d),F rec (g n t)=K t) :
 ∀(N:Nat) (t:b),n<N->iter N F (g 0 t)=goN a K n 0 t:=by
 have l:∀(m i N:Nat) (t:b),n-i=m->i<=n->m<N->iter N F (g i t)=goN a K (n-i) i t:=by intro m;induction m with|zero=>intro i N t r q h;have:i=n:=(by omega);subst this;obtain⟨k,rfl⟩:∃k,N=k+1:=⟨N-1,by omega⟩;rw[zdC,f,uE];rfl|succ m s=>intro i N t r q h;obtain⟨k,rfl⟩:∃k,N=k+1:=⟨N-1,by omega⟩;have j:i<n:=(by omega);have e:n-i=(n-(i+1))+1:=(by omega);rw[zdC,c i j,e];simp only[goN];congr 1;funext p;exact s (i+1) k p (by omega) (by omega) (by omega)
 intro N t h;have:=l n 0 N t (by omega) (kA _) h
 simpa using this
def sm:Nat:=1048576
def zcO {n:Nat}(h:n<=sm):n<=big/\n<=2147483648:=by unfold sm at h;rw[zpP];omega
def i0 (i n:Int):Bool:=decide (0<=i/\i<n)
def has_eq (i n:Int):(ige i 0&&ilt i n)=i0 i n:=by unfold ige ilt i0;by_cases a:0<=i<;>by_cases b:i<n<;>simp [a,b]
def zG {i n:Int}(h:i0 i n=true):inb i n=true:=h
def zdW {i:Int}{n:Nat}(h:i0 i n=true):∃k:Nat,i=k/\k<n:=by have:0<=i/\i<n:=qF h;exact⟨i.toNat,by omega,by omega⟩
def zbF {b:Type}{l:List b}{i:Int}(h:i0 i (ln l)=true)(d:b):ix l i d∈l:=by obtain⟨k,rfl,a⟩:=zdW (n:=l.length) h;rw[zbr a];exact jM a
def zmB {a:Type}(l:List a):ap [] l=l:=rfl
def zk5 {b m:Type}(c:b->Bool)(f:b->b)(K:List b->Option m):∀(l:List b) (i:Nat) (a:List b),(∀x∈l,c x=true/\f x=x)->a.length+l.length<=2147483648->
 goL (λ_ x a k=>bif c x then (cond (few<|ln<|ap a [f x]) (k<|ap a [f x]) none) else none) K l i a=K (a++l)
 |[],i,a,_,_=>by simp[goL]
 |x::l,i,a,h,g=>by obtain⟨d,e⟩:=h x (by simp);simp only[qX]at g;simp only[goL,d,e,cT];rw[zhn (by simp[ap];omega),cT,zk5 c f K l (i+1) _ (λy j=>h y (by simp[j])) (by simp[ap];omega)];simp[ap]
def zcR (h:ad):Prop:=∀c∈zbn h,CVB sm c
def zcR.mem {h:ad}(a:zcR h):CVB sm (.s (.sl .int) h.ag):=a _ (by simp[zbn])
def zcR.mons {h:ad}(a:zcR h):CVB sm (.s .mon h.aa):=a _ (by simp[zbn])
def zol {t:Ty}{l:List t.den}(h:CVB sm (.s t l)):few (ln l)=true:=zhn (zcO h.len).2
def zpM (p:Nat->Bool):Nat->Nat->Bool
 | 0,_=>true
 |n+1,i=>p i&&zpM p n (i+1)
def zMu {a:Type}(p:Nat->Bool)(r:Option a)(K:Unit->Option a):∀(n i:Nat),goN (λi (_:Unit) k=>bif p i then k () else r) K n i ()=bif zpM p n i then K () else r
 | 0,_=>rfl
 |n+1,i=>by simp only[goN,zpM];cases p i;{rfl};{simp only [cT,uO];exact zMu p r K n (i+1)}
def zD3 {e a c:Type}(b:Nat->a->(a->Option c)->Option c)(K:a->Option c):∀(l:List e) (i:Nat) (t:a),goL (λi _ t k=>b i t k) K l i t=goN b K l.length i t
 |[],_,_=>rfl
 |_::l,i,t=>by have d:goL (λi _ t k=>b i t k) K l (i+1)=goN b K l.length (i+1):=funext λt=>zD3 b K l (i+1) t;simp only[goL,qX,goN,d]
def znQ {a b:Type}(p:a->Bool)(r:Option b)(K:Unit->Option b):∀(l:List a) (i:Nat),goL (λ_ x (_:Unit) k=>bif p x then k () else r) K l i ()=bif l.all p then K () else r
 |[],_=>rfl
 |x::l,i=>by simp only[goL,k9];cases p x;{rfl};{simp only [cT,uO];exact znQ p r K l (i+1)}
def zzg {n:Nat}(c:n<=big)(i:Int):(ige i 0&&ile i (wsub .i64 (n:Int) 1))=i0 i n:=by rw[zpP]at c;rw[zys (by omega) (by omega)];unfold ige ile i0;by_cases a:0<=i<;>by_cases b:i<n;{rw [qM (p:=i≥0) (by omega),qM (p:=i<=(n:Int)-1) (by omega),qM (p:=0<=i/\i<(n:Int)) ⟨a,b⟩];rfl};{rw [qT (p:=i<=(n:Int)-1) (by omega),qT (p:=0<=i/\i<(n:Int)) (by omega)];simp};{rw [qT (p:=i≥0) (by omega),qT (p:=0<=i/\i<(n:Int)) (by omega)];simp};{rw [qT (p:=i≥0) (by omega),qT (p:=0<=i/\i<(n:Int)) (by omega)];simp}
def zD5 {j h c:Type}(n:Nat)(f:Nat->c->j)(F:(j->Option h)->j->Option h)(I:Nat->c->Prop)(a:Nat->c->Option h)(b:∀(i:Nat) (t:c) (rec:j->Option h),i<n->I i t->(∀g,I (i+1) g->rec (f (i+1) g)=a (i+1) g)->F rec (f i t)=a i t)(e:∀(t:c) (rec:j->Option h),I n t->F rec (f n t)=a n t):∀(N i:Nat) (t:c),I i t->i<=n->n-i<N->iter N F (f i t)=a i t:=by have r:∀(m N i:Nat) (t:c),n-i=m->I i t->i<=n->m<N->iter N F (f i t)=a i t:=(by intro m;induction m with|zero=>intro N i t s d q p;obtain⟨k,rfl⟩:∃k,N=k+1:=⟨N-1,by omega⟩;have:i=n:=(by omega);subst this;rw[zdC];exact e t _ d|succ m u=>intro N i t s d q p;obtain⟨k,rfl⟩:∃k,N=k+1:=⟨N-1,by omega⟩;rw[zdC];exact b i t _ (by omega) d λg l=>u k (i+1) g (by omega) l (by omega) (by omega));intro N i t d q p;exact r (n-i) N i t rfl d q p
section
variable {α:Type}
def zOz {l:List α}{i:Nat}(h:i<l.length)(d:α):up l (i:Int) (ix l (i:Int) d)=l:=by rw[zbr h];unfold up;apply uB;intro k;rw[q9];have e:(i:Int).toNat=i:=(by omega);rw[e];by_cases a:i=k;{subst a;simp[h]};{simp [a]}
def zd8 {l:List α}{i:Nat}(h:i<l.length)(x d:α):ix (up l (i:Int) x) (i:Int) d=x:=by unfold ix up;have e:(i:Int).toNat=i:=(by omega);rw[e];simp[List.getD,h]
def zwc (l:List α)(i:Int)(x y:α):up (up l i x) i y=up l i y:=by unfold up;simp
def z9M {l:List α}{i k:Nat}(h:i<k)(x:α):(up l (i:Int) x)[k]?=l[k]?:=by unfold up;have e:(i:Int).toNat=i:=(by omega);rw[e,q9,if_neg (by omega)]
end
def Ends {b:Type}(G:b->Prop)(o:Option b):Prop:=∃a,o=some a/\G a
section
variable {ρ:Type} {G:ρ->Prop}
def zo {c:Bool}{a b:Option ρ}(h:c=true)(k:Ends G a):Ends G (cond c a b):=by rw[h];exact k
def zxk {c:Bool}{a b:Option ρ}(h:c=false)(k:Ends G b):Ends G (cond c a b):=by rw[h];exact k
def zbt {c:Bool}{a b:Option ρ}(d:c=true->Ends G a)(e:c=false->Ends G b):Ends G (cond c a b):=by cases c;{exact e rfl};{exact d rfl}
def zij {a:Type}{x:a}{f:a->Option ρ}(h:Ends G (f x)):Ends G (p0 x f):=h
def zns {x:Option ρ}{f:Option ρ->Option ρ}(h:Ends G x)(k:∀t,Ends G t->Ends G (f t)):Ends G (p0 x f):=k x h
def ztJ {a:ρ}(h:G a):Ends G (some a):=⟨a,rfl,h⟩
def zke {b:Type}{F:(b->Option ρ)->b->Option ρ}(I:Nat->b->Prop)(h:∀n s rec,I n s->(∀k a,k<n->I k a->Ends G (rec a))->Ends G (F rec s)):∀(N n:Nat) (s:b),I n s->n<N->Ends G (iter N F s)
 | 0,n,s,_,c=>absurd c (Nat.not_lt_zero n)
 |N+1,n,s,d,c=>h n s (iter N F) d λk a f e=>zke I h N k a e (by omega)
def z7Z {G:Ans->Prop}{o:OA}{r:Ans}(h:Ends (λa=>a=r) o):o=some r:=by obtain⟨a,b,c⟩:=h;rw[b,c]
end
instance:Inhabited Cur:=⟨⟨[],0,0⟩⟩
def uC {T:Type}(ok:T->Prop):Bool:=pc (∃v,ok v)
def uV {T:Type}[Nonempty T](ok:T->Prop):T:=Classical.epsilon ok
def uG {T:Type}[Nonempty T]{ok:T->Prop}(h:uC ok=true):ok (uV ok):=Classical.epsilon_spec (zT.1 h)
def wC {T:Type}(ok:Cur->T->Prop):Bool:=uC λr:Cur×T=>ok r.1 r.2
def wS {T:Type}[Nonempty T](ok:Cur->T->Prop):Cur:=bif wC ok then (uV λr:Cur×T=>ok r.1 r.2).1 else ⟨[],0,0⟩
def wV {T:Type}[Nonempty T](ok:Cur->T->Prop):T:=(uV λr:Cur×T=>ok r.1 r.2).2
def wG {T:Type}[Nonempty T]{ok:Cur->T->Prop}(h:wC ok=true):ok (wS ok) (wV ok):=by unfold wS wV;rw[h,cT];exact uG h
def wP {T:Type}[Nonempty T]{ok:Cur->T->Prop}(k:∀{s v},ok s v->0<=s.i):0<=(wS ok).i:=by cases h:wC ok with|false=>unfold wS;rw[h];exact kP 0|true=>exact k (wG h)
abbrev wE {T:Type}(e:T->AV)(b:LI)(c:T->Prop):Ans->Prop:=λa=>∃s d,a=(AV.agg (zbT s)::[e d])/\(s.b=b/\0<=s.i)/\c d
def wI {T:Type}{ok:Cur->T->Prop}{E:Nat->OA}{d:T->AV}{b:LI}{c:T->Prop}(k:∀s v,((∃N,E N=some (AV.agg (zbT s)::[d v]))/\(s.b=b/\0<=s.i)/\c v)->ok s v)(h:∃N,Ends (wE d b c)<|E N):wC ok=true:=by obtain⟨N,a,e,s,v,rfl,h⟩:=h;exact zY ⟨(s,v),k s v ⟨⟨N,e⟩,h⟩⟩
abbrev zdB:=LC->LA->Option (Bool×LC×LA)
abbrev zGM:=LA->Option (Bool×LC×LA)
def pR (k:Cur->zGM):zdB
 |[.s .u8 b,.i .i64 i,.i .i64 h],a=>k ⟨b,i,h⟩ a
 |_,_=>none
def zT1 {b:Type}(D:Dc b)(k:b->zGM):zGM
 |[]=>none
 |a::l=>match D.d a with
  |some x=>k x l
  |none=>none
def zLb (r:Bool×Cur×LA):zGM
 |[]=>some (r.1,zbT r.2.1,r.2.2)
 |_=>none
def z1V {k:Cur->zGM}{b:LC}{a:LA}{r:Bool×LC×LA}(h:pR k b a=some r):∃c,b=zbT c/\k c a=some r:=by unfold pR at h;split at h;{exact⟨_,rfl,h⟩};{cases h}
def zH6 {c:Type}{D:Dc c}{k:c->zGM}{b:LA}{r:Bool×LC×LA}(h:zT1 D k b=some r):∃x l,b=D.e x::l/\k x l=some r:=by unfold zT1 at h;split at h;{cases h};{rename_i a l;split at h;{rename_i x d;exact⟨x,l,by rw[D.h d],h⟩};{cases h}}
def zvv {q:Bool×Cur×LA}{b:Bool}{c:LC}{d a:LA}(h:zLb q a=some (b,c,d)):a=[]/\q.1=b/\c=zbT q.2.1/\d=q.2.2:=by unfold zLb at h;split at h<;>cases h;exact⟨rfl,rfl,rfl,rfl⟩
section
variable {c:zW} {m:zif} {p:zcT} {t:zgj} (o1:zL c) (o2:zgS m) (o3:zb2 p) (o4:zeL t) (tms:FuncId->Nat->Option Tmpl) {f:FuncId}
include o1 o2 o3 o4
def hPx {k:Cur->zGM}(j:zfL f=true)(h:∀x b a d,k x b=some (true,a,d)->a.length=3/\∃N,zok (cQ c m p t) tms N 12 f [false,true,true] (zbT x) b=some (.agg a::d)):zbP Tryz.prog f [false,true,true] (pR k):=by refine zhJ (zg6 o1 o2 o3 o4) (zjK j) ?_;intro l b a d n q e;obtain⟨x,rfl,e⟩:=z1V e;obtain⟨g,N,i⟩:=h x b a d e;exact⟨g,tms,N,12,i⟩
def rP0 (g:Cur->Bool×Cur×LA):zdB:=pR λc=>zLb (g c)
def hP0 {g:Cur->Bool×Cur×LA}{E:Nat->Cur->OA}(a:∀x,(g x).1=true->∃N,E N x=some (.agg (zbT (g x).2.1)::(g x).2.2))(k:∀N x,zok (cQ c m p t) tms N 12 f [false,true,true] (zbT x) []=E N x:=by intros;kernel_rfl)(j:zfL f=true:=by kernel_rfl):zbP Tryz.prog f [false,true,true] (rP0 g):=
 hPx o1 o2 o3 o4 tms j λx b d l e=>by obtain⟨rfl,i,rfl,rfl⟩:=zvv e;obtain⟨N,h⟩:=a x i;exact⟨rfl,N,(k N x).trans h⟩
def rP1 {A:Type}(D:Dc A)(g:Cur->A->Bool×Cur×LA):zdB:=pR λc=>zT1 D λa=>zLb (g c a)
def hP1 {A:Type}{D:Dc A}{g:Cur->A->Bool×Cur×LA}{E:Nat->Cur->A->OA}(b:∀x a,(g x a).1=true->∃N,E N x a=some (.agg (zbT (g x a).2.1)::(g x a).2.2))(q:∀N x a,zok (cQ c m p t) tms N 12 f [false,true,true] (zbT x) [D.e a]=E N x a:=by intros;kernel_rfl)(n:zfL f=true:=by kernel_rfl):zbP Tryz.prog f [false,true,true] (rP1 D g):=
 hPx o1 o2 o3 o4 tms n λx d i r e=>by obtain⟨a,l,rfl,j⟩:=zH6 e;obtain⟨rfl,k,rfl,rfl⟩:=zvv j;obtain⟨N,h⟩:=b x a k;exact⟨rfl,N,(q N x a).trans h⟩
def rP2 {A B:Type}(D:Dc A)(d:Dc B)(g:Cur->A->B->Bool×Cur×LA):zdB:=pR λc=>zT1 D λa=>zT1 d λb=>zLb (g c a b)
def hP2 {A B:Type}{D:Dc A}{i:Dc B}{g:Cur->A->B->Bool×Cur×LA}{E:Nat->Cur->A->B->OA}(d:∀x a b,(g x a b).1=true->∃N,E N x a b=some (.agg (zbT (g x a b).2.1)::(g x a b).2.2))(u:∀N x a b,zok (cQ c m p t) tms N 12 f [false,true,true] (zbT x) [D.e a,i.e b]=E N x a b:=by intros;kernel_rfl)(s:zfL f=true:=by kernel_rfl):zbP Tryz.prog f [false,true,true] (rP2 D i g):=
 hPx o1 o2 o3 o4 tms s λx j k w e=>by obtain⟨a,l,rfl,n⟩:=zH6 e;obtain⟨b,v,rfl,q⟩:=zH6 n;obtain⟨rfl,r,rfl,rfl⟩:=zvv q;obtain⟨N,h⟩:=d x a b r;exact⟨rfl,N,(u N x a b).trans h⟩
end
instance:Inhabited Ins:=⟨⟨0,0⟩⟩
instance:Inhabited GAct:=⟨⟨0,0,0,0,0,0⟩⟩
instance:Inhabited Ctl:=⟨⟨0,0,false⟩⟩
instance:Inhabited ad:=⟨⟨[],[],[],[]⟩⟩
def zba (c:Cur):Prop:=0<=c.i/\c.b.length<=big
def zby {T:Type}(d:T->AV){c:T->Prop}{b:LI}{x y:Int}{v:T}(h:0<=x)(g:c v):Ends (λa=>∃s e,a=(AV.agg (zbT s)::[d e])/\(s.b=b/\0<=s.i)/\c e) (some (AV.agg [.s .u8 b,.i .i64 x,.i .i64 y]::[d v])):=
 ⟨_,rfl,⟨b,x,y⟩,v,rfl,⟨rfl,h⟩,g⟩
def zwd (N:Nat)(c:Cur)  : OA :=
 let a:=zM .i64 (zkS .i64 c.h 6364136223846793005) 1442695040888963407;let d:=wand .i64 (z5g .i64 (zDK .i64 a 33)<|zDK .i64 a 45) 255; (oN (ile 0 33)<|oN (ile 0 45)<|cond (ilt c.i<|ln c.b) (oN (inb c.i<|ln c.b)<|some [.agg [.s .u8 c.b,.i .i64<|zM .i64 c.i 1,.i .i64 a],aI<|wand .i64 (zM .i64 d<|wcv .i64<|ix c.b c.i 0) 255])<|some [.agg [.s .u8 c.b,.i .i64 c.i,.i .i64 a],aI d])
def zo8 (c:Cur)(s:Cur)(a:Int):Prop:=(∃N,zwd N c=some (AV.agg (zbT s)::[aI a]))/\(s.b=c.b/\0<=s.i)/\(0<=a/\a<=255)
def zeB (c:Cur)  : Bool:=wC (zo8 c)
def zdg (c:Cur)  : Cur:=wS (zo8 c)
def zg1 (c:Cur)  : Int:=wV (zo8 c)
def zmV {c:Cur}(h:zeB c=true):zo8 c (zdg c) (zg1 c):=wG h
def zmW (c:Cur)  : 0<=(zdg c).i:=wP λh=>h.2.1.2
def zWi (c:Cur)(h:∃N,Ends (wE (λa=>aI a) c.b λa=>0<=a/\a<=255)<|zwd N c):zeB c=true:=wI (λ_ _ h=>h) h
def zxH:zdB:=rP0 λc=>(zeB c,zdg c,[aI<|zg1 c])
def zKa:zbP Tryz.prog 237 [false,true,true] zxH:=hP0 zdV zN zC zq (zA []) (λ_ h=>(zmV h).1)
def zQb {x m:Int}(c:0<=m)(d:m<9223372036854775808):0<=wand .i64 x m/\wand .i64 x m<=m:=by have b:(BitVec.ofInt 64 m).toNat=m.toNat:=(by rw[BitVec.toNat_ofInt];omega);have a:(BitVec.ofInt 64 x &&& BitVec.ofInt 64 m).toNat<=m.toNat:=(by rw[BitVec.toNat_and,b];exact Nat.and_le_right);unfold wand;show 0<=IntKind.wrap .i64 ((BitVec.ofInt 64 x &&& BitVec.ofInt 64 m).toNat:Int)/\IntKind.wrap .i64 ((BitVec.ofInt 64 x &&& BitVec.ofInt 64 m).toNat:Int)<=m;rw[ztr (by omega) (by omega)];omega
@[simp] def zJr {c:Cur}(h:zba c):zeB c=true:=by
 refine zWi c ⟨0,?_⟩;unfold zwd oN;conv=>zeta
 refine zo rfl (zo rfl (zbt (λa=>zo (qM ⟨h.1,qF a⟩) (zby aI ?_<|zQb (by omega) (by omega))) λ_=>zby aI h.1 (zQb (by omega) (by omega))));have d:c.i<ln c.b:=qF a;have e:=h.2;have f:=h.1;rw[zpP]at e;unfold ln at d;rw[zmt (by omega) (by omega)];omega
def z6D:zcT:=[(237,[false,true,true],zxH)]++zN2
def zT3:zb2 z6D:=zce zC (by
 intro x a;simp only[qG,qN,or_false]at a;rcases a with rfl
 .exact zKa)
def zG4 {b:LI}{i h:Int}(a:0<=i)(c:b.length<=big):zba ⟨b,i,h⟩:=⟨a,c⟩
def zXQ {x n:Int}(a:0<=x)(b:0<n):0<=zqF x n/\zqF x n<n:=by unfold zqF;exact⟨Int.tmod_nonneg _ a,Int.tmod_lt_of_pos _ b⟩
def ztt (N:Nat)(c:Cur)(a:Int):OA:=
 let f:=({ (zdg c) with b:=c.b}:Cur);let e:=({ (zdg f) with b:=c.b}:Cur);let d:=({ (zdg e) with b:=c.b}:Cur); (cond (ile a 0) (some [.agg [.s .u8 c.b,.i .i64 c.i,.i .i64 c.h],aI 0])<|cond (ile a 256) (oN (zeB c)<|oN (ine a 0)<|some [.agg [.s .u8 c.b,.i .i64 (zdg c).i,.i .i64 (zdg c).h],aI<|zqF (zg1 c) a])<|oN (zeB c)<|oN (zeB f)<|oN (zeB e)<|oN (zeB d)<|oN (ine a 0)<|some [.agg [.s .u8 c.b,.i .i64 (zdg d).i,.i .i64 (zdg d).h],aI<|zqF (zM .i64 (zM .i64 (zM .i64 (zkS .i64 (zg1 c) 16777216)<|zkS .i64 (zg1 f) 65536)<|zkS .i64 (zg1 e) 256)<|zg1 d) a])
def zng (c:Cur)(a:Int)(s:Cur)(d:Int):Prop:=(∃N,ztt N c a=some (AV.agg (zbT s)::[aI d]))/\(s.b=c.b/\0<=s.i)/\(0<a->0<=d/\d<a)
def zu (c:Cur)(a:Int):Bool:=wC (zng c a)
def zf (c:Cur)(a0:Int):Cur:=wS (zng c a0)
def zk (c:Cur)(a0:Int):Int:=wV (zng c a0)
def zh5 {c:Cur}{a:Int}(h:zu c a=true):zng c a (zf c a) (zk c a):=wG h
def zB (c:Cur)(a0:Int):0<=(zf c a0).i:=wP λh=>h.2.1.2
def zUq (c:Cur)(a:Int)(h:∃N,Ends (wE (λd=>aI d) c.b λd=>0<a->0<=d/\d<a)<|ztt N c a):zu c a=true:=wI (λ_ _ h=>h) h
def zvx:zdB:=rP1 dI λc b=>(zu c b,zf c b,[aI<|zk c b])
def ztZ:zbP Tryz.prog 101 [false,true,true] zvx:=hP1 zdV zN zT3 zq (zA []) (λ_ _ h=>(zh5 h).1)
def zbp {c:Cur}(h:zba c)(n:Int):zu c n=true:=by
 refine zUq c n ⟨0,?_⟩;have f:=zJr h;have k:zeB {zdg c with b:=c.b}=true:=zJr (zG4 (zmW _) h.2);have l:zeB {zdg {zdg c with b:=c.b} with b:=c.b}=true:=zJr (zG4 (zmW _) h.2);have m:zeB {zdg {zdg {zdg c with b:=c.b} with b:=c.b} with b:=c.b}=true:=zJr (zG4 (zmW _) h.2);have i:=(zmV f).2.2;have q:=(zmV k).2.2;have r:=(zmV l).2.2;have s:=(zmV m).2.2;unfold ztt oN;conv=>zeta
 refine zbt (λd=>zby aI h.1 λu=>absurd (qF d) (by omega)) (λd=>?_);have u:¬ n<=0:=jV d;have j:ine n 0=true:=(by simp[ine];omega);refine zbt (λt=>zo f (zo j<|zby aI (zmW _) λe=>zXQ i.1 e)) (λt=>?_);refine zo f (zo k<|zo l<|zo m<|zo j<|zby aI (zmW _) λe=>zXQ ?_ e);generalize zg1 c=a at i;generalize zg1 _=g at q;generalize zg1 _=p at r;generalize zg1 _=z at s;have v:zkS .i64 a 16777216=a*16777216:=ztr (by omega) (by omega);have w:zkS .i64 g 65536=g*65536:=ztr (by omega) (by omega);have y:zkS .i64 p 256=p*256:=ztr (by omega) (by omega);rw[v,w,y,zmt (x:=a*16777216) (by omega) (by omega),zmt (x:=a*16777216+g*65536) (by omega) (by omega),zmt (by omega) (by omega)];omega
def z6E:zcT:=[(101,[false,true,true],zvx)]++z6D
def zH8:zb2 z6E:=zce zT3 (by
 intro x a;simp only[qG,qN,or_false]at a;rcases a with rfl
 .exact ztZ)
def zwe (N:Nat)(c:Cur)(a:Int):OA:=
 (oN (zu c a)<|some [.agg [.s .u8 c.b,.i .i64 (zf c a).i,.i .i64 (zf c a).h],aB<|ieq (zk c a) 0])
def zo9 (c:Cur)(a:Int)(s:Cur)(d:Bool):Prop:=(∃N,zwe N c a=some (AV.agg (zbT s)::[aB d]))/\(s.b=c.b/\0<=s.i)/\(True)
def zcv (c:Cur)(a:Int):Bool:=wC (zo9 c a)
def zO (c:Cur)(a:Int):Cur:=wS (zo9 c a)
def zcQ (c:Cur)(a:Int):Bool:=wV (zo9 c a)
def zWj {c:Cur}{a:Int}(h:zcv c a=true):zo9 c a (zO c a) (zcQ c a):=wG h
def zb0 (c:Cur)(a0:Int):0<=(zO c a0).i:=wP λh=>h.2.1.2
def zWk (c:Cur)(a:Int)(h:∃N,Ends (wE (λd=>aB d) c.b λd=>True)<|zwe N c a):zcv c a=true:=wI (λ_ _ h=>h) h
def zxI:zdB:=rP1 dI λc b=>(zcv c b,zO c b,[aB<|zcQ c b])
def zKb:zbP Tryz.prog 170 [false,true,true] zxI:=hP1 zdV zN zH8 zq (zA []) (λ_ _ h=>(zWj h).1)
def zhW {c:Cur}(h:zba c)(n:Int):zcv c n=true:=by refine zWk c n ⟨0,?_⟩;unfold zwe oN;exact zo (zbp h _) (zby aB (zB _ _) trivial)
def zpJ (N:Nat)(c:Cur)(a:LI):OA:=
 (oN (zu c<|ln a)<|oN (inb (zk c<|ln a)<|ln a)<|some [.agg [.s .u8 c.b,.i .i64 (zf c<|ln a).i,.i .i64 (zf c<|ln a).h],aI<|ix a (zk c<|ln a) 0])
def zkY (c:Cur)(a:LI)(s:Cur)(d:Int):Prop:=(∃N,zpJ N c a=some (AV.agg (zbT s)::[aI d]))/\(s.b=c.b/\0<=s.i)/\(0<a.length->d∈a)
def zbq (c:Cur)(a:LI):Bool:=wC (zkY c a)
def zZ (c:Cur)(a:LI):Cur:=wS (zkY c a)
def zbk (c:Cur)(a:LI):Int:=wV (zkY c a)
def zyh {c:Cur}{a:LI}(h:zbq c a=true):zkY c a (zZ c a) (zbk c a):=wG h
def zbW (c:Cur)(a0:LI):0<=(zZ c a0).i:=wP λh=>h.2.1.2
def zOa (c:Cur)(a:LI)(h:∃N,Ends (wE (λd=>aI d) c.b λd=>0<a.length->d∈a)<|zpJ N c a):zbq c a=true:=wI (λ_ _ h=>h) h
def zsF:zdB:=rP1 (dS .int) λc b=>(zbq c b,zZ c b,[aI<|zbk c b])
def zrL:zbP Tryz.prog 109 [false,true,true] zsF:=hP1 zdV zN zH8 zq (zA []) (λ_ _ h=>(zyh h).1)
def ze8 {c:Cur}(h:zba c){l:LI}(b:l≠[]):zbq c l=true:=by refine zOa c l ⟨0,?_⟩;have d:0<ln l:=(by unfold ln;have:=kO.2 b;omega);have g:=(zh5<|zbp h<|ln l).2.2 d;have a:inb (zk c<|ln l) (ln l)=true:=qM ⟨g.1,g.2⟩;unfold zpJ oN;exact zo (zbp h _) (zo a<|zby aI (zB _ _) λ_=>zbF a 0)
def z6F:zcT:=[(170,[false,true,true],zxI),(109,[false,true,true],zsF)]++z6E
def zT4:zb2 z6F:=zce zH8 (by
 intro x a;simp only[qG,qN,or_false]at a;rcases a with rfl|rfl
 .exact zKb
 .exact zrL)
def z9r:zW:=zMl
def z7B:zL z9r:=zdV
def z9s:zW:=z9r
def z7C:zL z9s:=z7B
def z9t:zW:=z9s
def z7D:zL z9t:=z7C
def z9u:zW:=z9t
def z7E:zL z9u:=z7D
def z9v:zW:=z9u
def z7F:zL z9v:=z7E
def z9w:zW:=z9v
def z7G:zL z9w:=z7F
def z9x:zW:=z9w
def z7H:zL z9x:=z7G
def z5k:zW:=z9x
def z3h:zL z5k:=z7H
def z5l:zW:=z5k
def z3i:zL z5l:=z3h
def z5m:zW:=z5l
def z3j:zL z5m:=z3i
def z5n:zW:=z5m
def z3k:zL z5n:=z3j
def z5o:zW:=z5n
def z3l:zL z5o:=z3k
def z5p:zW:=z5o
def z3m:zL z5p:=z3l
def z5q:zW:=z5p
def z3n:zL z5q:=z3m
def z5r:zW:=z5q
def z3o:zL z5r:=z3n
def z5s:zW:=z5r
def z3p:zL z5s:=z3o
def z5t:zW:=z5s
def z3q:zL z5t:=z3p
def z5u:zW:=z5t
def z3r:zL z5u:=z3q
def z5v:zW:=z5u
def z3s:zL z5v:=z3r
def z5w:zW:=z5v
def z3t:zL z5w:=z3s
def z9G:zW:=z5w
def zth:∀f a,zn z9G f=some a->Holds Tryz.prog f a:=z3t
def zQ (_ _ _:Int):Bool:=true
def zl (x a b:Int):Bool:=ige x a&&ile x b
def zq0:Run:=rF3 dI dI dI λb c d=>(zQ b c d,[aB<|zl b c d])
def zOS (N:Nat)(a b c:Int):OA:=
 (cond (ige a b) (some [aB<|ile a c]) oF)
def zF2 (a b c:Int)(d:zb5 big [aI a,aI b,aI c])(e:zQ a b c=true):∃N,zOS N a b c=some [aB<|zl a b c]:=by refine⟨0,?_⟩;unfold zOS zl;cases ige a b<;>rfl
def zQu:vT 121 zq0:=hF3 zth zN zC zq (zA []) zF2
def zcG (_ _:Int):Bool:=true
abbrev zib (i n:Int):Bool:=i0 i n
def zP0:Run:=rF2 dI dI λb c=>(zcG b c,[aB<|zib b c])
def zWO (N:Nat)(a b:Int):OA:=
 (cond (ige a 0) (some [aB<|ilt a b]) oF)
def z1w (a b:Int)(c:zcG a b=true):∃N,zWO N a b=some [aB<|zib a b]:=by refine⟨0,?_⟩;unfold zWO zib;rw[<- has_eq];cases ige a 0<;>rfl
def zVO:vT 154 zP0:=kF2 zth zN zC zq (zA []) z1w
def zCL {n:Nat}(c:n<=big)(i:Int):zl i 0 (wsub .i64 (n:Int) 1)=i0 i n:=by rw[zpP]at c;rw[zys (by omega) (by omega)];unfold zl ige ile i0;by_cases a:0<=i<;>by_cases b:i<n;{rw [qM (p:=i≥0) (by omega),qM (p:=i<=(n:Int)-1) (by omega),qM (p:=0<=i/\i<(n:Int)) ⟨a,b⟩];rfl};{rw [qT (p:=i<=(n:Int)-1) (by omega),qT (p:=0<=i/\i<(n:Int)) (by omega)];simp};{rw [qT (p:=i≥0) (by omega),qT (p:=0<=i/\i<(n:Int)) (by omega)];simp};{rw [qT (p:=i≥0) (by omega),qT (p:=0<=i/\i<(n:Int)) (by omega)];simp}
def zgM (l:List LI):Bool:=pc (CVB sm<|.s (.sl .int) l)
abbrev zeY (l:List LI):List LI:=l
def zAQ:Run:=rF1 (dS<|.sl .int) λb=>(zgM b,[aS (.sl .int)<|zeY b])
def zFF (N:Nat)(c:lM):OA:=
 (iter (σ:=(Int×lM×lM×Unit)) N (λd a=>let b:=ap []<|ix a.2.1 a.1 []; (cond (ilt a.1<|ln a.2.1) (oN (inb a.1<|ln a.2.1)<|oN (few<|ln b)<|oN (few<|ln<|ap a.2.2.1 [b])<|d (zM .i64 a.1 1,a.2.1,ap a.2.2.1 [b],()))<|some [aS (.sl .int) a.2.2.1])) (0,c,[],()))
def zRy:=zA [(257,0,{n:=22,tm:=[(0,.sl 0 []),(3,.sl 1 []),(4,ti)],lo:=[],ro:=[(0,.sl .int,false),(1,.sl .int,true)]})]
def zQ2 (b:List LI)(f:zgM b=true):∃N,zFF N b=some [aS (.sl .int)<|zeY b]:=by
 have e:=zT.1 f;have d:=zcO e.len;refine⟨b.length+1,?_⟩;unfold zFF oN;conv=>zeta
 refine(zbJ b (λi a=>((i:Int),b,a,())) _ (λ_ x a k=>bif few (ln x) then (cond (few<|ln<|ap a [x]) (k<|ap a [x]) none) else none) (λa=>some [AV.one<|.s (.sl .int) a])
  (λi c t rec=>?_) (λt rec=>?_) _ [] (jN _)).trans (zk5 (λx=>few (ln x)) (λx=>x) _ b 0 [] (λx g=>⟨zhn (zcO (e.inv.2 x g _ (qD.2 rfl)).len).2,rfl⟩) (by simpa using d.2))
 {simp only [zbK c,zbc c,zbr c,cT,zbx c d.1,zmB]};{simp only [zbw,cF]}
def zKe:vT 257 zAQ:=kF1 zth zN zC zq zRy zQ2
abbrev zgN (k:az):Bool:=pc (∀c∈Ty.cells .kept k,CVB sm c)
abbrev zdD (k:az):az:=k
def zAR:Run:=rF1 (dT .kept) λb=>(zgN b,[aT .kept<|zdD b])
def zFG (N:Nat)(a:az):OA:=
 (oN (few<|ln<|ap [] a.ay)<|oN (few<|ln<|ap [] a.aC)<|some [.agg [.s .bool<|ap [] a.ay,.s .slot<|ap [] a.aC]])
def zQ4 (a:az)(d:zgN a=true):∃N,zFG N a=some [aT .kept<|zdD a]:=by have h:=zT.1 d;have b:=zol (h (.s .bool a.ay) (by simp[Ty.cells]));have c:=zol (h (.s .slot a.aC) (by simp[Ty.cells]));refine⟨0,?_⟩;simp only[zFG,zmB,b,c,cT];rfl
def zKg:vT 360 zAR:=kF1 zth zN zC zq (zA []) zQ4
def zdw (g:ah):Bool:=pc (∀c∈Ty.cells .guest g,CVB sm c)
abbrev zda (g:ah):ah:=g
def zAS:Run:=rF1 (dT .guest) λb=>(zdw b,[aT .guest<|zda b])
def zFH (N:Nat)(a:ah):OA:=
 (oN (few<|ln<|ap [] a.ax)<|oN (few<|ln<|ap [] a.aA)<|oN (few<|ln<|ap [] a.aw)<|oN (few<|ln<|ap [] a.aD)<|some [.agg [.s .ins<|ap [] a.ax,.i .i64 a.A,.i .i64 a.Pc,.s .slot<|ap [] a.aA,.s .slot<|ap [] a.aw,.i .i64 a.Ctl.aq,.i .i64 a.Ctl.Post,.b a.Ctl.Open,.i .i64 a.ai,.i .i64 a.Exit.Kind,.i .i64 a.Exit.af,.b a.Exit.Write,.i .i64 a.Exit.N,.b a.aG,.s .int<|ap [] a.aD]])
def zQ5 (a:ah)(f:zdw a=true):∃N,zFH N a=some [aT .guest<|zda a]:=by have h:=zT.1 f;have b:=zol (h (.s .ins a.ax) (by simp[Ty.cells]));have c:=zol (h (.s .slot a.aA) (by simp[Ty.cells]));have d:=zol (h (.s .slot a.aw) (by simp[Ty.cells]));have e:=zol (h (.s .int a.aD) (by simp[Ty.cells]));refine⟨0,?_⟩;simp only[zFH,zmB,b,c,d,e,cT];rfl
def zKk:vT 403 zAS:=kF1 zth zN zC zq (zA []) zQ5
def z5x:zW:=[(121,zq0),(154,zP0),(257,zAQ),(360,zAR),(403,zAS)]++z9G
def zSp:zL z5x:=zh zQu (zh zVO<|zh zKe<|zh zKg<|zh zKk zth)
def zgh (l:List ah):Bool:=pc (CVB sm<|.s .guest l)
abbrev zgP (l:List ah):List ah:=l
def zvT:Run:=rF1 (dS .guest) λb=>(zgh b,[aS .guest<|zgP b])
def zAe (N:Nat)(c:lG):OA:=
 (iter (σ:=(Int×lG×lG×Unit)) N (λd a=>let b:=ix a.2.1 a.1 zD; (cond (ilt a.1<|ln a.2.1) (oN (inb a.1<|ln a.2.1)<|oN (zdw b)<|oN (few<|ln<|ap a.2.2.1 [zda b])<|d (zM .i64 a.1 1,a.2.1,ap a.2.2.1 [zda b],()))<|some [aS .guest a.2.2.1])) (0,c,[],()))
def zL7:=zA [(370,0,{n:=21,tm:=[(0,.sl 0 []),(3,.sl 1 []),(4,ti)],lo:=[],ro:=[(0,.guest,false),(1,.guest,true)]})]
def zKZ (b:List ah)(f:zgh b=true):∃N,zAe N b=some [aS .guest<|zgP b]:=by
 have e:=zT.1 f;have d:=zcO e.len;refine⟨b.length+1,?_⟩;unfold zAe oN;conv=>zeta
 refine(zbJ b (λi a=>((i:Int),b,a,())) _ (λ_ x a k=>bif zdw x then (cond (few<|ln<|ap a [zda x]) (k<|ap a [zda x]) none) else none) (λa=>some [AV.one<|.s .guest a])
  (λi c t rec=>?_) (λt rec=>?_) _ [] (jN _)).trans (zk5 zdw zda _ b 0 [] (λx g=>⟨zY<|e.inv.2 x g,rfl⟩) (by simpa using d.2))
 {simp only [zbK c,zbc c,zbr c,cT,zbx c d.1]};{simp only [zbw,cF]}
def zEP:vT 370 zvT:=kF1 zSp zN zC zq zL7 zKZ
def z5y:zW:=[(370,zvT)]++z5x
def zSq:zL z5y:=zh zEP zSp
abbrev zj6 (m:Mon):Bool:=pc (∀c∈Ty.cells .mon m,CVB sm c)
abbrev znF (m:Mon):Mon:=m
def zDn:Run:=rF1 (dT .mon) λb=>(zj6 b,[aT .mon<|znF b])
def zJc (N:Nat)(b:Mon):OA:=
 (oN (few<|ln<|ap [] b.ae)<|oN (zgM b.Out)<|oN (few<|ln<|ap [] b.au)<|oN (zgh b.ac)<|oN (few<|ln<|ap [] b.Outs)<|iter (σ:=(Int×Int×Int×Int×Int×Int×Int×lK×lS×lM×lB×lG×LI×lK×lS×lM×lB×lG×LI×lK×Unit)) N (λf a=>let b:=a.2.2.2.2.2.2.2.2;let g:=b.2.2.2.2.2;let e:=b.2.2.2.2.1;let c:=g.1;let d:=ap a.2.2.2.2.2.2.2.1 [zdD<|ix c a.1 zhq]; (cond (ilt a.1<|ln c) (oN (inb a.1<|ln c)<|oN (zgN<|ix c a.1 zhq)<|oN (few<|ln d)<|f (zM .i64 a.1 1,a.2.1,a.2.2.1,a.2.2.2.1,a.2.2.2.2.1,a.2.2.2.2.2.1,a.2.2.2.2.2.2.1,d,b.1,b.2.1,b.2.2.1,b.2.2.2.1,e,c,g.2.1,g.2.2.1,g.2.2.2.1,g.2.2.2.2.1,g.2.2.2.2.2.1,g.2.2.2.2.2.2.1,()))<|some [.agg [.s .slot b.1,.s (.sl .int) b.2.1,.s .bool b.2.2.1,.s .guest b.2.2.2.1,.s .int e,.i .i64 a.2.1,.i .i64 a.2.2.1,.s .kept a.2.2.2.2.2.2.2.1,.i .i64 a.2.2.2.1]])) (0,b.ai,b.aq,b.Own,0,0,0,[],ap [] b.ae,zeY b.Out,ap [] b.au,zgP b.ac,ap [] b.Outs,b.am,[],[],[],[],[],[],()))
def zVi:=zA [(201,0,{n:=48,tm:=[(1,.lp 0 0),(2,.lp 1 0),(3,.sl 0 []),(4,ti)],lo:=[(0,[.sl 1 [],.sl 2 [],.sl 3 [],.sl 4 [],.sl 5 [],ti,ti,.sl 6 [],ti]),(1,[.sl 7 [],.sl 8 [],.sl 9 [],.sl 10 [],.sl 11 [],ti,ti,.sl 12 [],ti])],ro:=[(0,.kept,true),(1,.slot,true),(2,.sl .int,true),(3,.bool,true),(4,.guest,true),(5,.int,true),(6,.kept,false),(7,.slot,true),(8,.sl .int,true),(9,.bool,true),(10,.guest,true),(11,.int,true),(12,.kept,true)]})]
def zTL (a:Mon)(n:zj6 a=true):∃N,zJc N a=some [aT .mon<|znF a]:=by
 have h:=zT.1 n;have f:=zol (h (.s .slot a.ae) (by simp[Ty.cells]));have g:zgM a.Out=true:=zY (h (.s (.sl .int) a.Out) (by simp[Ty.cells]));have j:=zol (h (.s .bool a.au) (by simp[Ty.cells]));have l:zgh a.ac=true:=zY (h (.s .guest a.ac) (by simp[Ty.cells]));have m:=zol (h (.s .int a.Outs) (by simp[Ty.cells]));have d:CVB sm (.s .kept a.am):=h (.s .kept a.am) (by simp[Ty.cells]);have e:=zcO d.len;refine⟨a.am.length+1,?_⟩;unfold zJc oN;conv=>zeta
 simp only[zmB,f,g,j,l,m,cT];refine(zbJ a.am (λi b=>((i:Int),a.ai,a.aq,a.Own,0,0,0,b,a.ae,zeY a.Out,a.au,zgP a.ac,a.Outs,a.am,[],[],[],[],[],[],())) _
  (λ_ x b k=>bif zgN x then (cond (few<|ln<|ap b [zdD x]) (k<|ap b [zdD x]) none) else none) (λb=>some [AV.agg<|Ty.cells .mon ⟨a.ae,a.Out,a.au,a.ac,a.Outs,a.ai,a.aq,b,a.Own⟩])
  (λi c t rec=>?_) (λt rec=>?_) _ [] (jN _)).trans (zk5 zgN zdD _ a.am 0 [] (λx p=>⟨zY<|d.inv.2 x p,rfl⟩) (by simpa using e.2))
 {simp only [zbK c,zbc c,zbr c,cT,zbx c e.1]};{simp only [zbw,cF];rfl}
def zNd:vT 201 zDn:=kF1 zSq zN zC zq zVi zTL
def z5z:zW:=[(201,zDn)]++z5y
def zSr:zL z5z:=zh zNd zSq
def zDr (h:ad)(_:Int):Bool:=pc (zcR h)
def zfu (h:ad)(m:Int):Mon:=bif i0 m (ln h.aa) then ix h.aa m zi else Ty.dflt .mon
def zrY (h:ad)(m:Int):Bool:=i0 m (ln h.aa)
def zwG:Run:=rF2 dH dI λb c=>(zDr b c,[aT .mon<|zfu b c,aB<|zrY b c])
def zON (N:Nat)(b:ad)(c:Int):OA:=
 let d:=ix b.aa c zi;let a:=znF d; (oN (zQ c 0<|wsub .i64 (ln b.aa) 1)<|cond (nB<|zl c 0<|wsub .i64 (ln b.aa) 1) (some [.agg [.s .slot [],.s (.sl .int) [],.s .bool [],.s .guest [],.s .int [],.i .i64 0,.i .i64 0,.s .kept [],.i .i64 0],aB false])<|oN (inb c<|ln b.aa)<|oN (zj6 d)<|some [.agg [.s .slot a.ae,.s (.sl .int) a.Out,.s .bool a.au,.s .guest a.ac,.s .int a.Outs,.i .i64 a.ai,.i .i64 a.aq,.s .kept a.am,.i .i64 a.Own],aB true])
def zV3 (b:ad)(a:Int)(f:zDr b a=true):∃N,zON N b a=some [aT .mon<|zfu b a,aB<|zrY b a]:=by
 have h:=(zT.1 f).mons;refine⟨0,?_⟩;unfold zON zfu zrY oN nB;conv=>zeta
 have e:zl a 0 (wsub .i64 (ln b.aa) 1)=i0 a (ln b.aa):=zCL (zcO h.len).1 a;rw[e];cases c:i0 a (ln b.aa);{simp [zQ,Ty.cells,Ty.dflt]};{have d:zj6 (ix b.aa a zi)=true:=zY (h.inv.2 _<|zbF c _);simp only[zQ,cT,vJ,cF,zG c,d];rfl}
def zAj:vT 73 zwG:=kF2 zSr zN zC zq (zA []) zV3
def z5A:zW:=[(73,zwG)]++z5z
def z3u:zL z5A:=zh zAj zSr
def z5B:zW:=z5A
def z3v:zL z5B:=z3u
def z9H:zW:=z5B
def zxh:∀f a,zn z9H f=some a->Holds Tryz.prog f a:=z3v
def z0:k0:=⟨-1,0⟩
def zb3:Bool:=true
abbrev zbo:k0:=z0
def zlu:Run:=rF0 (zb3,[aT .slot zbo])
def zXS (N:Nat)  : OA :=
 (some [.agg [.i .i64<|-1,.i .i64 0]])
def zCR  (a:zb5 big []) (b:zb3=true):∃N,zXS N  = some [aT .slot zbo]:=by exact⟨0,rfl⟩
def zxs:vT 215 zlu:=hF0 zxh zN zC zq (zA []) zCR
def zMA:vT 210 zlu:=hF0 zxh zN zC zq (zA []) zCR
def zMF:vT 168 zq0:=hF3 zxh zN zC zq (zA []) zF2
def z5C:zW:=[(215,zlu),(210,zlu),(168,zq0)]++z9H
def zGV:zL z5C:=zh zxs (zh zMA<|zh zMF zxh)
def zdu (r:Int):Bool:=ige r 0&&ile r 3
def zjo (_:Int):Bool:=true
abbrev zgI (r:Int):Bool:=zdu r
def zl9:Run:=rF1 dI λb=>(zjo b,[aB<|zgI b])
def zR2 (N:Nat)(a:Int):OA:=
 (oN (zQ a 0 3)<|some [aB<|zl a 0 3])
def zxz (a:Int)(b:zb5 big [aI a])(c:zjo a=true):∃N,zR2 N a=some [aB<|zgI a]:=by exact⟨0,rfl⟩
def zHw:vT 185 zl9:=hF1 zGV zN zC zq (zA []) zxz
def zHe:vT 381 zl9:=hF1 zGV zN zC zq (zA []) zxz
def z5D:zW:=[(185,zl9),(381,zl9)]++z5C
def zpT:zL z5D:=zh zHw (zh zHe zGV)
def zef (a b:Int):Int:=bif zdu a then (cond (zdu b) (wand .i64 a b) 0) else 0
abbrev zh1 (a b:Int):Int:=zef a b
def zuj:Run:=rF2 dI dI λb c=>(zcG b c,[aI<|zh1 b c])
def zw9 (N:Nat)(a b:Int):OA:=
 (oN (zjo a)<|cond (nB<|zgI a) (some [aI 0])<|oN (zjo b)<|cond (nB<|zgI b) (some [aI 0])<|some [aI<|wand .i64 a b])
def zHV (a b:Int)(c:zcG a b=true):∃N,zw9 N a b=some [aI<|zh1 a b]:=by refine⟨0,?_⟩;unfold zw9 zh1 zef zgI oN nB;cases zdu a<;>cases zdu b<;>rfl
def zCu:vT 386 zuj:=kF2 zpT zN zC zq (zA []) zHV
def enough (a b:Int):Bool:=bif zdu a then (cond (zdu b) (ieq (wand .i64 a b) b) false) else false
abbrev zd1 (a b:Int):Bool:=enough a b
def zoB:Run:=rF2 dI dI λb c=>(zcG b c,[aB<|zd1 b c])
def zIP (N:Nat)(b a:Int):OA:=
 (oN (zjo b)<|cond (zgI b) (oN (zjo a)<|cond (zgI a) (some [aB<|ieq (wand .i64 b a) a]) oF) oF)
def zCQ (a b:Int)(c:zb5 big [aI a,aI b])(d:zcG a b=true):∃N,zIP N a b=some [aB<|zd1 a b]:=by refine⟨0,?_⟩;unfold zIP zd1 enough zgI oN;cases zdu a<;>cases zdu b<;>rfl
def zMJ:vT 64 zoB:=hF2 zpT zN zC zq (zA []) zCQ
def zMx:vT 212 zoB:=hF2 zpT zN zC zq (zA []) zCQ
def zbB (t:List k0)(p:Int):k0:=bif i0 p (ln t) then ix t p zbe else z0
def zgJ (_:List k0)(_:Int):Bool:=true
abbrev zeS (t:List k0)(p:Int):k0:=zbB t p
def zoH:Run:=rF2 (dS .slot) dI λb c=>(zgJ b c,[aT .slot<|zeS b c])
def zI4 (N:Nat)(a:lS)(b:Int):OA:=
 (oN (zQ b 0<|wsub .i64 (ln a) 1)<|cond (nB<|zl b 0<|wsub .i64 (ln a) 1) (oN zb3<|some [.agg [.i .i64 zbo.af,.i .i64 zbo.aj]])<|oN (inb b<|ln a)<|some [.agg [.i .i64 (ix a b zbe).af,.i .i64 (ix a b zbe).aj]])
def zTD (b:List k0)(a:Int)(c:zb5 big [aS .slot b,aI a])(g:zgJ b a=true):∃N,zI4 N b a=some [aT .slot<|zeS b a]:=by have f:=len0 c;refine⟨0,?_⟩;unfold zI4 zeS zbB oN nB;have e:zl a 0 (wsub .i64 (ln b) 1)=i0 a (ln b):=zzg f a;rw[e];cases d:i0 a (ln b);{rfl};{rw [zG d];rfl}
def zMW:vT 173 zoH:=hF2 zpT zN zC zq (zA []) zTD
def zIK (N:Nat)(a:lS)(b:Int):OA:=
 (oN (zcG b<|ln a)<|cond (nB<|zib b<|ln a) (oN zb3<|some [.agg [.i .i64 zbo.af,.i .i64 zbo.aj]])<|oN (inb b<|ln a)<|some [.agg [.i .i64 (ix a b zbe).af,.i .i64 (ix a b zbe).aj]])
def zTj (a:List k0)(b:Int)(d:zgJ a b=true):∃N,zIK N a b=some [aT .slot<|zeS a b]:=by refine⟨0,?_⟩;unfold zIK zeS zbB zib oN nB;cases c:i0 b (ln a);{rfl};{rw [zG c];rfl}
def zMD:vT 171 zoH:=kF2 zpT zN zC zq (zA []) zTj
def z5E:zW:=[(386,zuj),(64,zoB),(212,zoB),(173,zoH),(171,zoH)]++z5D
def zSs:zL z5E:=zh zCu (zh zMJ<|zh zMx<|zh zMW<|zh zMD zpT)
def zdh (a b:k0):Bool:=ieq a.af b.af&&ieq a.aj b.aj
def below' (a b:k0):Bool:=bif zdh a z0 then true else (cond (ieq a.af b.af) (enough b.aj a.aj) false)
def zbA (s:k0)(a:List k0):k0 :=
 bif ieq s.af (-1) then z0 else (cond (ieq (zbB a s.af).af<|-1) z0<|cond (ieq (zef s.aj (zbB a s.af).aj) 0) z0 ⟨(zbB a s.af).af,zef s.aj (zbB a s.af).aj⟩)
def zkX (_:k0)(_:List k0):Bool:=true
def zna (s:k0)(a:List k0):k0:=zbA s a
def zsH:Run:=rF2 (dT .slot) (dS .slot) λb c=>(zkX b c,[aT .slot<|zna b c])
def zuP (N:Nat)(a:k0)(c:lS):OA:=
 let b:=zeS c a.af; (oN (zgJ c a.af)<|oN (zcG a.aj b.aj)<|cond (ieq a.af<|-1) (oN zb3<|some [.agg [.i .i64 zbo.af,.i .i64 zbo.aj]])<|cond (ieq b.af<|-1) (oN zb3<|some [.agg [.i .i64 zbo.af,.i .i64 zbo.aj]])<|cond (ieq (zh1 a.aj b.aj) 0) (oN zb3<|some [.agg [.i .i64 zbo.af,.i .i64 zbo.aj]])<|some [.agg [.i .i64 b.af,.i .i64<|zh1 a.aj b.aj]])
def zER (a:k0)(b:List k0)(c:zkX a b=true):∃N,zuP N a b=some [aT .slot<|zna a b]:=by
 refine⟨0,?_⟩;unfold zuP zna zbA zeS zh1 oN;conv=>zeta
 cases ieq a.af (-1)<;>cases ieq (zbB b a.af).af (-1)<;>cases ieq (zef a.aj (zbB b a.af).aj) 0<;>rfl
def zBd:vT 229 zsH:=kF2 zSs zN zC zq (zA []) zER
def zdA (x:Int):Int:=bif (ige x 1&&ile x 6) then zVr .i64 (wsub .i64 x 1) 2 else -1
def zev (x:Int):Int:=bif (ige x 1&&ile x 6) then zqF (wsub .i64 x 1) 2 else -1
def z5F:zW:=[(229,zsH)]++z5E
def z3w:zL z5F:=zh zBd zSs
def zXb {a b:Type}{l:List a}{m:List b}(h:ine (ln l) (ln m)=false):l.length=m.length:=by have:(ln l==ln m)=true:=(by simpa [ine,bne] using h);have:=eq_of_beq this;simp only[ln] at this;omega
def z5G:zW:=z5F
def z3x:zL z5G:=z3w
def zc7 (h:ad)(e:ar):Bool :=
 bif i0 (zdA e.Tag) (ln h.aa) then (bif i0 (zev e.Tag) (ln (ix h.aa (zdA e.Tag) zi).ac) then
  below' ⟨e.ad,e.aj⟩ (zbA (zbB (ix (ix h.aa (zdA e.Tag) zi).ac (zev e.Tag) zD).aw e.af) (ix h.aa (zdA e.Tag) zi).ae) else false) else false
def z5H:zW:=z5G
def z3y:zL z5H:=z3x
def z9F:zW:=z5H
def zMm:∀f a,zn z9F f=some a->Holds Tryz.prog f a:=z3y
def hE (h:ad):(⟨h.ag,h.aa,h.ao,h.an⟩:ad)=h:=rfl
def idxs {a:Type}(p:a->Bool):List a->Nat->LI
 |[],_=>[]
 |x::l,i=>bif p x then (i:Int)::idxs p l (i+1) else idxs p l (i+1)
def zzc {a:Type}(p:a->Bool):∀(l:List a) (i:Nat),(idxs p l i).length<=l.length
 |[],_=>qW _
 |x::l,i=>by have:=zzc p l (i+1);simp only[idxs];cases p x<;>simp<;>omega
def ztO {b c:Type}(p:b->Bool)(K:LI->Option c):∀(l:List b) (i:Nat) (a:LI),a.length+l.length<=2147483648->
 goL (λi x a k=>bif p x then (cond (few<|ln<|ap a [(i:Int)]) (k<|ap a [(i:Int)]) none) else k a) K l i a=K (a++idxs p l i)
 |[],i,a,_=>by simp[goL,idxs]
 |x::l,i,a,h=>by simp only[qX]at h;simp only[goL,idxs];cases p x;{simp only [cF];exact ztO p K l (i+1) a (by omega)};{simp only [cT];rw[zhn (by simp[ap];omega),cT,ztO p K l (i+1) _ (by simp[ap];omega)];simp[ap]}
def zwA (p:Nat->Bool):Nat->Nat->LI
 | 0,_=>[]
 |n+1,i=>bif p i then (i:Int)::zwA p n (i+1) else zwA p n (i+1)
def zy4 {b:Type}(p:Nat->Bool)(K:LI->Option b):∀(n i:Nat) (a:LI),a.length+n<=2147483648->
 goN (λi a k=>bif p i then (cond (few<|ln<|ap a [(i:Int)]) (k<|ap a [(i:Int)]) none) else k a) K n i a=K (a++zwA p n i)
 | 0,i,a,_=>by simp[goN,zwA]
 |n+1,i,a,h=>by simp only[goN,zwA];cases p i;{simp only [cF];exact zy4 p K n (i+1) a (by omega)};{simp only [cT];rw[zhn (by simp[ap];omega),cT,zy4 p K n (i+1) _ (by simp[ap];omega)];simp[ap]}
abbrev zo6 (l:List k0)(_:Int):Bool:=pc (l.length<=2147483648)
abbrev zgw (l:List k0)(p:Int):LI:=idxs (λ(s:k0)=>ieq s.af p) l 0
def zoI:Run:=rF2 (dS .slot) dI λb c=>(zo6 b c,[aS .int<|zgw b c])
def zI8 (N:Nat)(c:lS)(d:Int):OA:=
 (iter (σ:=(Int×Int×lS×LI×Unit)) N (λb a=>cond (ilt a.2.1<|ln a.2.2.1) (oN (inb a.2.1<|ln a.2.2.1)<|cond (ieq (ix a.2.2.1 a.2.1 zbe).af a.1) (oN (few<|ln<|ap a.2.2.2.1 [a.2.1])<|b (a.1,zM .i64 a.2.1 1,a.2.2.1,ap a.2.2.2.1 [a.2.1],()))<|b (a.1,zM .i64 a.2.1 1,a.2.2.1,a.2.2.2.1,()))<|some [aS .int a.2.2.2.1]) (d,0,c,[],()))
def zVd:=zA [(469,0,{n:=26,tm:=[(0,.sl 0 []),(1,ti),(5,.sl 1 []),(6,ti)],lo:=[],ro:=[(0,.slot,false),(1,.int,true)]})]
def zTH (b:List k0)(a:Int)(g:zb5 big [aS .slot b,aI a])(h:zo6 b a=true):∃N,zI8 N b a=some [aS .int<|zgw b a]:=by have e:=len0 g;have j:=zT.1 h;refine zcI λN d=>?_;unfold zI8 oN;refine(zbJ b (λi (t:LI)=>(a,(i:Int),b,t,())) _ (λi (x:k0) (t:LI) f=>bif ieq x.af a then (cond (few<|ln<|ap t [(i:Int)]) (f<|ap t [(i:Int)]) none) else f t) (λ(t:LI)=>some [.one<|.s .int t]) (λi c t rec=>?_) (λt rec=>?_) _ ([])<|d e).trans ?_;{simp only [zbK c,zbc c,zbr c,zbx c e,cT]};{simp only [zbw,cF]};exact ztO (λ(s:k0)=>ieq s.af a) _ _ 0 [] (by simpa using j)
def zM0:vT 469 zoI:=hF2 zMm zN zC zq zVd zTH
def zIL (N:Nat)(d:lS)(f:Int):OA:=
 (iter (σ:=(Int×Int×Int×LI×lS×Unit)) N (λe a=>let c:=a.2.2.2.2.1;let b:=a.2.2.1; (cond (ilt b a.2.1) (oN (inb b<|ln c)<|cond (ieq (ix c b zbe).af a.1) (oN (few<|ln<|ap a.2.2.2.1 [b])<|e (a.1,a.2.1,zM .i64 b 1,ap a.2.2.2.1 [b],c,()))<|e (a.1,a.2.1,zM .i64 b 1,a.2.2.2.1,c,()))<|some [aS .int a.2.2.2.1])) (f,ln d,0,[],d,()))
def zU3:=zA [(466,0,{n:=26,tm:=[(1,ti),(5,.sl 0 []),(9,.sl 1 []),(10,ti),(11,ti)],lo:=[],ro:=[(0,.int,true),(1,.slot,false)]})]
def zTk (a:List k0)(b:Int)(g:zb5 big [aS .slot a,aI b])(h:zo6 a b=true):∃N,zIL N a b=some [aS .int<|zgw a b]:=by
 have e:=len0 g;have j:=zT.1 h;refine zcI λN d=>?_;unfold zIL oN;conv=>zeta
 refine(zbJ a (λi (t:LI)=>(b,ln a,(i:Int),t,a,())) _ (λi (x:k0) (t:LI) f=>bif ieq x.af b then (cond (few<|ln<|ap t [(i:Int)]) (f<|ap t [(i:Int)]) none) else f t) (λ(t:LI)=>some [.one<|.s .int t]) (λi c t rec=>?_) (λt rec=>?_) _ ([])<|d e).trans ?_;{simp only [zbK c,zbc c,zbr c,zbx c e,cT]};{simp only [zbw,cF]};exact ztO (λ(s:k0)=>ieq s.af b) _ _ 0 [] (by simpa using j)
def zME:vT 466 zoI:=hF2 zMm zN zC zq zU3 zTk
def z5I:zW:=[(469,zoI),(466,zoI)]++z9F
def z3z:zL z5I:=zh zM0 (zh zME zMm)
def z5J:zW:=z5I
def z3A:zL z5J:=z3z
def z5K:zW:=z5J
def zyS:zL z5K:=z3A
def all2 {a:Type}(b:a->a->Bool):List a->List a->Bool
 |[],[]=>true
 |x::l,y::m=>b x y&&all2 b l m
 |_,_=>false
def zGN {a:Type}(b:a->a->Bool):∀(l m:List a),l.length≠m.length->all2 b l m=false
 |[],[],h=>absurd rfl h
 |[],_::_,_=>rfl
 |_::_,[],_=>rfl
 |x::l,y::m,h=>by simp only[all2,zGN b l m (by simpa using h),Bool.and_false]
def zG9 {c g:Type}(e:c->c->Bool)(d:c)(b:List c)(r:Option g)(K:Unit->Option g):∀(a:List c) (i:Nat),a.length+i=b.length->
 goL (λi x (_:Unit) k=>bif e x (ix b (i:Int) d) then k () else r) K a i ()=bif all2 e a (b.drop i) then K () else r
 |[],i,h=>by have:b.drop i=[]:=List.drop_eq_nil_of_le (by simp at h;omega);rw[this];rfl
 |x::a,i,h=>by simp only[qX]at h;have f:i<b.length:=(by omega);rw[kC f];simp only[goL,all2,zbr f];cases e x b[i];{rfl};{simp only [cT,uO];exact zG9 e d b r K a (i+1) (by omega)}
def z1o {a b:Type}{l:List a}{m:List b}(h:ine (ln l) (ln m)=true):l.length≠m.length:=by intro e;simp only[ine,ln,e,bne_self_eq_false]at h;cases h
def ztl (x y:Int):ine x y = !ieq x y:=rfl
def eqI (a b:LI):Bool:=all2 ieq a b
def zeC (_ _:LI):Bool:=true
def zeZ (a b:LI):Bool:=eqI a b
def zil:Run:=rF2 (dS .int) (dS .int) λb c=>(zeC b c,[aB<|zeZ b c])
def zqG (N:Nat)(b c:LI):OA:=
 (cond (ine (ln b)<|ln c) oF<|iter (σ:=(Int×LI×LI×Unit)) N (λd a=>cond (ilt a.1<|ln a.2.1) (oN (inb a.1<|ln a.2.1)<|oN (inb a.1<|ln a.2.2.1)<|cond (ine (ix a.2.1 a.1 0)<|ix a.2.2.1 a.1 0) oF<|d (zM .i64 a.1 1,a.2.1,a.2.2.1,())) oT) (0,b,c,()))
def zRz:=zA [(297,0,{n:=26,tm:=[(0,.sl 0 []),(1,.sl 1 []),(5,ti)],lo:=[],ro:=[(0,.int,false),(1,.int,false)]})]
def zQ3 (c a:LI)(j:zb5 big [aS .int c,aS .int a])(m:zeC c a=true):∃N,zqG N c a=some [aB<|zeZ c a]:=by have h:=len0 j;refine zcI λN f=>?_;unfold zqG zeZ eqI oN;cases g:ine (ln c) (ln a);{have e:=zXb g;rw[cF];refine(zbJ c (λi (t:Unit)=>((i:Int),c,a,())) _ (λi (x:Int) (_:Unit) k=>bif ieq x (ix a (i:Int) 0) then k () else oF) (λ(t:Unit)=>some [.one<|.b true]) (λi d t rec=>?_) (λt rec=>?_) _ ()<|f h).trans ?_;{simp only [zbK d,zbc d,zbr d,zbx d h,cT];simp only[zbc (l:=a) (i:=i)<|e ▸ d,cT,ztl];cases ieq c[i] (ix a (↑i) 0)<;>rfl};{simp only [zbw,cF]};rw[zG9 ieq 0 a _ _ c 0 (by simpa using e),uX];cases all2 ieq c a<;>rfl};{rw [zGN _ _ _<|z1o g];rfl}
def zvs:vT 297 zil:=hF2 zyS zN zC zq zRz zQ3
def zjA (N:Nat)(b c:LI):OA:=
 (cond (ine (ln b)<|ln c) oF<|iter (σ:=(Int×Int×LI×LI×Unit)) N (λd a=>cond (ilt a.2.1 a.1) (oN (inb a.2.1<|ln a.2.2.1)<|oN (inb a.2.1<|ln a.2.2.2.1)<|cond (ine (ix a.2.2.1 a.2.1 0)<|ix a.2.2.2.1 a.2.1 0) oF<|d (a.1,zM .i64 a.2.1 1,a.2.2.1,a.2.2.2.1,())) oT) (ln b,0,b,c,()))
def zpD:=zA [(359,0,{n:=26,tm:=[(0,.sl 0 []),(1,.sl 1 []),(12,ti),(13,ti)],lo:=[],ro:=[(0,.int,false),(1,.int,false)]})]
def zpC (a c:LI)(j:zb5 big [aS .int a,aS .int c])(m:zeC a c=true):∃N,zjA N a c=some [aB<|zeZ a c]:=by have h:=len0 j;refine zcI λN f=>?_;unfold zjA zeZ eqI oN;cases g:ine (ln a) (ln c);{have e:=zXb g;rw[cF];refine(zbJ a (λi (t:Unit)=>(ln a,(i:Int),a,c,())) _ (λi (x:Int) (_:Unit) k=>bif ieq x (ix c (i:Int) 0) then k () else oF) (λ(t:Unit)=>some [.one<|.b true]) (λi d t rec=>?_) (λt rec=>?_) _ ()<|f h).trans ?_;{simp only [zbK d,zbc d,zbr d,zbx d h,cT];simp only[zbc (l:=c) (i:=i)<|e ▸ d,cT,ztl];cases ieq a[i] (ix c (↑i) 0)<;>rfl};{simp only [zbw,cF]};rw[zG9 ieq 0 c _ _ a 0 (by simpa using e),uX];cases all2 ieq a c<;>rfl};{rw [zGN _ _ _<|z1o g];rfl}
def zie:vT 359 zil:=hF2 zyS zN zC zq zpD zpC
def zd5 (l:LI):Bool:=pc (l.length<=2147483648)
abbrev zdZ (l:LI):LI:=l
def zxT:Run:=rF1 (dS .int) λb=>(zd5 b,[aS .int<|zdZ b])
def zBv (N:Nat)(a:LI):OA:=
 (oN (few<|ln<|ap [] a)<|some [aS .int<|ap [] a])
def zNq (a:LI)(b:zd5 a=true):∃N,zBv N a=some [aS .int<|zdZ a]:=by refine⟨0,?_⟩;unfold zBv oN;rw[zmB,zhn<|zT.1 b,cT]
def zHj:vT 344 zxT:=kF1 zyS zN zC zq (zA []) zNq
def z5L:zW:=[(297,zil),(359,zil),(344,zxT)]++z5K
def zGW:zL z5L:=zh zvs (zh zie<|zh zHj zyS)
def zzT:LI:=rp 4 0
def zcy (m:List LI)(p:Int):LI:=bif i0 p (ln m) then ix m p [] else zzT
def zeH (m:List LI)(_:Int):Bool:=pc (CVB sm<|.s (.sl .int) m)
def zgv (m:List LI)(p:Int):LI:=zcy m p
def z2f {m:List LI}{p:Int}(b:CVB sm (.s (.sl .int) m))(a:i0 p (ln m)=true):(ix m p []).length<=2147483648 :=
 (zcO (b.inv.2 _ (zbF a ([]:LI)) (.s .int _) (qD.2 rfl)).len).2
def zoF:Run:=rF2 (dS<|.sl .int) dI λb c=>(zeH b c,[aS .int<|zgv b c])
def zIX (N:Nat)(a:lM)(b:Int):OA:=
 (oN (zQ b 0<|wsub .i64 (ln a) 1)<|cond (nB<|zl b 0<|wsub .i64 (ln a) 1) (oN (cond (few 4) (ieq 4 4) false)<|some [aS .int<|rp 4 0])<|oN (inb b<|ln a)<|oN (few<|ln<|ap []<|ix a b [])<|some [aS .int<|ap []<|ix a b []])
def zTw (b:List LI)(a:Int)(f:zeH b a=true):∃N,zIX N b a=some [aS .int<|zgv b a]:=by have d:=zT.1 f;refine⟨0,?_⟩;unfold zIX zgv zcy oN nB;have e:zl a 0 (wsub .i64 (ln b) 1)=i0 a (ln b):=zzg (zcO d.len).1 a;rw[e];cases c:i0 a (ln b);{rfl};{simp only [zQ,cT,cF,zG c,zmB,zhn<|z2f d c]}
def zMR:vT 174 zoF:=kF2 zGW zN zC zq (zA []) zTw
def zIG (N:Nat)(a:lM)(b:Int):OA:=
 (oN (zcG b<|ln a)<|cond (nB<|zib b<|ln a) (oN (cond (few 4) (ieq 4 4) false)<|some [aS .int<|rp 4 0])<|oN (inb b<|ln a)<|oN (zd5<|ix a b [])<|some [aS .int<|zdZ<|ix a b []])
def zTf (a:List LI)(b:Int)(d:zeH a b=true):∃N,zIG N a b=some [aS .int<|zgv a b]:=by have e:=zT.1 d;refine⟨0,?_⟩;unfold zIG zgv zcy zib oN nB;cases c:i0 b (ln a);{rfl};{simp only [zcG,cT,cF,zG c,show zd5 (ix a b [])=true from zY (z2f e c),zdZ]}
def zMB:vT 172 zoF:=kF2 zGW zN zC zq (zA []) zTf
def z5M:zW:=[(174,zoF),(172,zoF)]++z5L
def zGX:zL z5M:=zh zMR (zh zMB zGW)
def zb8 (h:ad)(m p:Int):LI :=
 bif i0 m (ln h.aa) then (cond (i0 p 8) (cond (ine (zbB (ix h.aa m zi).ae p).af<|-1) (zcy h.ag (zbB (ix h.aa m zi).ae p).af)<|zcy (ix h.aa m zi).Out p) zzT) else zzT
def z9O (p:Int):zl p 0 7=i0 p 8:=by unfold zl ige ile i0;by_cases a:0<=p<;>by_cases b:p<8;{rw [qM (p:=p≥0) (by omega),qM (p:=p<=7) (by omega),qM (p:=0<=p/\p<8) ⟨a,b⟩];rfl};{rw [qT (p:=p<=7) (by omega),qT (p:=0<=p/\p<8) (by omega)];simp};{rw [qT (p:=p≥0) (by omega),qT (p:=0<=p/\p<8) (by omega)];simp};{rw [qT (p:=p≥0) (by omega),qT (p:=0<=p/\p<8) (by omega)];simp}
def zjY (h:ad)(_ _:Int):Bool:=pc (zcR h)
def zh3 (h:ad)(m p:Int):LI:=zb8 h m p
def zh0:Run:=rF3 dH dI dI λb c d=>(zjY b c d,[aS .int<|zh3 b c d])
def zIZ (N:Nat)(a:ad)(c b:Int):OA:=
 let d:=ix a.aa c zi;let e:=(zeS d.ae b).af; (oN (zQ c 0<|wsub .i64 (ln a.aa) 1)<|cond (nB<|zl c 0<|wsub .i64 (ln a.aa) 1) (oN (cond (few 4) (ieq 4 4) false)<|some [aS .int<|rp 4 0])<|oN (zQ b 0 7)<|cond (nB<|zl b 0 7) (oN (cond (few 4) (ieq 4 4) false)<|some [aS .int<|rp 4 0])<|oN (inb c<|ln a.aa)<|oN (zgJ d.ae b)<|cond (ine e<|-1) (oN (zeH a.ag e)<|some [aS .int<|zgv a.ag e])<|oN (zeH d.Out b)<|some [aS .int<|zgv d.Out b])
def zTy (a:ad)(b c:Int)(g:zjY a b c=true):∃N,zIZ N a b c=some [aS .int<|zh3 a b c]:=by
 have d:=zT.1 g;refine⟨0,?_⟩;unfold zIZ zh3 zb8 oN nB;conv=>zeta
 have e:zl b 0 (wsub .i64 (ln a.aa) 1)=i0 b (ln a.aa):=zzg (zcO d.mons.len).1 b;rw[e,z9O];cases f:i0 b (ln a.aa);{rfl};{cases i:i0 c 8;{rfl};{have h:CVB sm (.s (.sl .int) (ix a.aa b zi).Out):=d.mons.inv.2 _ (zbF f zi) (.s (.sl .int) _) (by simp[Ty.cells]);simp only[zQ,cT,cF,zG f,zgJ,zeS,show ∀p,zeH a.ag p=true from λp=>zY d.mem,show ∀p,zeH (ix a.aa b zi).Out p=true from λp=>zY h,zgv];cases ine (zbB (ix a.aa b zi).ae c).af (-1)<;>rfl}}
def zp0:vT 52 zh0:=kF3 zGX zN zC zq (zA []) zTy
def zIH (N:Nat)(a:ad)(c b:Int):OA:=
 let d:=ix a.aa c zi;let e:=(zeS d.ae b).af; (oN (zcG c<|ln a.aa)<|cond (nB<|zib c<|ln a.aa) (oN (cond (few 4) (ieq 4 4) false)<|some [aS .int<|rp 4 0])<|oN (zcG b 8)<|cond (nB<|zib b 8) (oN (cond (few 4) (ieq 4 4) false)<|some [aS .int<|rp 4 0])<|oN (inb c<|ln a.aa)<|oN (zgJ d.ae b)<|cond (ine e<|-1) (oN (zeH a.ag e)<|some [aS .int<|zgv a.ag e])<|oN (zeH d.Out b)<|some [aS .int<|zgv d.Out b])
def zTg (a:ad)(b c:Int)(f:zjY a b c=true):∃N,zIH N a b c=some [aS .int<|zh3 a b c]:=by
 have e:=zT.1 f;refine⟨0,?_⟩;unfold zIH zh3 zb8 zib oN nB;conv=>zeta
 cases d:i0 b (ln a.aa);{rfl};{cases h:i0 c 8;{rfl};{have g:CVB sm (.s (.sl .int) (ix a.aa b zi).Out):=e.mons.inv.2 _ (zbF d zi) (.s (.sl .int) _) (by simp[Ty.cells]);simp only[zcG,cT,cF,zG d,zgJ,zeS,show ∀p,zeH a.ag p=true from λp=>zY e.mem,show ∀p,zeH (ix a.aa b zi).Out p=true from λp=>zY g,zgv];cases ine (zbB (ix a.aa b zi).ae c).af (-1)<;>rfl}}
def zxp:vT 51 zh0:=kF3 zGX zN zC zq (zA []) zTg
def z5N:zW:=[(52,zh0),(51,zh0)]++z5M
def z3B:zL z5N:=zh zp0 (zh zxp zGX)
def z5O:zW:=z5N
def z3C:zL z5O:=z3B
def z9E:zW:=z5O
def z7Q:∀f a,zn z9E f=some a->Holds Tryz.prog f a:=z3C
def z9D:zW:=z9E
def zg5:zL z9D:=z7Q
def zp3:zif:=z4n
def zJ:zgS zp3:=zN
def canRun (g:ah):Bool:=bif (ieq g.Exit.Kind 0&&(ieq g.Exit.af 0&&(ziM g.Exit.Write false&&ieq g.Exit.N 0))) then !g.aG else false
def zsZ (_:ah):Bool:=true
abbrev zql (g:ah):Bool:=canRun g
def zC8:Run:=rF1 (dT .guest) λb=>(zsZ b,[aB<|zql b])
def zIN (N:Nat)(a:ah):OA:=
 (cond (cond (ieq a.Exit.Kind 0) (cond (ieq a.Exit.af 0) (cond (ziM a.Exit.Write false) (ieq a.Exit.N 0) false) false) false) (some [aB<|nB a.aG]) oF)
def zTm (a:ah)(b:zsZ a=true):∃N,zIN N a=some [aB<|zql a]:=by refine⟨0,?_⟩;unfold zIN zql canRun nB;cases ieq a.Exit.Kind 0<;>cases ieq a.Exit.af 0<;>cases ziM a.Exit.Write false<;>cases ieq a.Exit.N 0<;>simp
def zMH:vT 119 zC8:=kF1 zxh zN zC zq (zA []) zTm
def j0 {d:Type}{c:Bool}{a b r:Option d}(h:c=true)(k:a=r):(cond c a b)=r:=by rw[h];exact k
def mu {d:Type}{c:Bool}{a b r:Option d}(k:a=r)(h:c=true:=by first|assumption|(simp_all<;>omega)):(cond c a b)=r:=j0 h k
def zcs {d:Type}{c:Bool}{a b r:Option d}(h:c=false)(k:b=r):(cond c a b)=r:=by rw[h];exact k
def br {f:Type}{c:Bool}{a b r:Option f}(d:c=true->a=r)(e:c=false->b=r):(cond c a b)=r:=by cases c;{exact e rfl};{exact d rfl}
def brN {f:Type}{c:Bool}{a b r:Option f}(d:c=false->a=r)(e:c=true->b=r):(cond (cond c false true) a b)=r:=by cases c;{exact d rfl};{exact e rfl}
def shr {a b:Type}{x:a}{f:a->Option b}{r:Option b}(h:f x=r):p0 x f=r:=h
def zpN {e:Type}{c p:Bool}{a b:Option e}(d:c=true):(cond c (cond (cond p false true) a b) none)=bif p then b else a:=by rw[d];cases p<;>rfl
attribute [simp] zT
@[simp] def z8b {a:Type}(l:List a):(few (ln l)=true)↔l.length<=2147483648:=by unfold few ln;rw[decide_eq_true_iff];omega
@[simp] def zba0 {a:Type}(l m:List a):(ap l m).length=l.length+m.length:=by simp[ap]
attribute [simp] zmB zhp
@[simp] def z6w (n:Nat)(k:IntKind)(x:Int):CVB n (.i k x)↔True:=⟨λ_=>trivial,λ_=>.i k x⟩
@[simp] def zba4 (n:Nat)(x:Bool):CVB n (.b x)↔True:=⟨λ_=>trivial,λ_=>.b x⟩
def zlX {n:Nat}{t:Ty}(l:List t.den):CVB n (.s t l)↔l.length<=n/\∀x∈l,∀c∈t.cells x,CVB n c:=⟨λh=>h.inv,λh=>.s t l h.1 h.2⟩
@[simp] def zWY (n:Nat)(l:LI):CVB n (.s .int l)↔l.length<=n:=by rw[zlX];simp[Ty.cells]
@[simp] def z9J (n:Nat)(l:LI):CVB n (.s .u8 l)↔l.length<=n:=by rw[zlX];simp[Ty.cells]
@[simp] def z3N (n:Nat)(l:List Bool):CVB n (.s .bool l)↔l.length<=n:=by rw[zlX];simp[Ty.cells]
@[simp] def z3P (n:Nat)(l:List k0):CVB n (.s .slot l)↔l.length<=n:=by rw[zlX];simp[Ty.cells]
@[simp] def z7S (n:Nat)(l:List Ins):CVB n (.s .ins l)↔l.length<=n:=by rw[zlX];simp[Ty.cells]
@[simp] def z0Z (n:Nat)(l:List ar):CVB n (.s .entry l)↔l.length<=n:=by rw[zlX];simp[Ty.cells]
@[simp] def z7R (n:Nat)(l:List GAct):CVB n (.s .act l)↔l.length<=n:=by rw[zlX];simp[Ty.cells]
@[simp] def z3Q (n:Nat)(l:List aF):CVB n (.s .told l)↔l.length<=n:=by rw[zlX];simp[Ty.cells]
def SmM (m:List LI):Prop:=m.length<=1048576/\∀x∈m,x.length<=1048576
def SmG (g:ah):Prop:=g.ax.length<=1048576/\g.aA.length<=1048576/\g.aw.length<=1048576/\g.aD.length<=1048576
def zk2 (l:List ah):Prop:=l.length<=1048576/\∀x∈l,SmG x
def SmB (b:ak):Prop:=SmM b.ag/\zk2 b.ac/\b.Outs.length<=1048576
def zXV (l:List ak):Prop:=l.length<=1048576/\∀x∈l,SmB x
def z4V:sm=1048576:=rfl
@[simp] def zYi (l:LI):CVB sm (.s .int l)↔l.length<=1048576:=zWY sm l
@[simp] def zbaJ (l:LI):CVB sm (.s .u8 l)↔l.length<=1048576:=z9J sm l
@[simp] def zVC (l:List Bool):CVB sm (.s .bool l)↔l.length<=1048576:=z3N sm l
@[simp] def zVD (l:List k0):CVB sm (.s .slot l)↔l.length<=1048576:=z3P sm l
@[simp] def zbal (l:List Ins):CVB sm (.s .ins l)↔l.length<=1048576:=z7S sm l
@[simp] def zSG (l:List ar):CVB sm (.s .entry l)↔l.length<=1048576:=z0Z sm l
@[simp] def zbak (l:List GAct):CVB sm (.s .act l)↔l.length<=1048576:=z7R sm l
@[simp] def zbae (l:List aF):CVB sm (.s .told l)↔l.length<=1048576:=z3Q sm l
@[simp] def zpV (l:List LI):CVB sm (.s (.sl .int) l)↔SmM l:=by rw[zlX];simp[Ty.cells,SmM,z4V]
@[simp] def z7v (g:ah):(∀c∈Ty.cells .guest g,CVB sm c)↔SmG g:=by simp[Ty.cells,SmG,z4V]
@[simp] def zvc (l:List ah):CVB sm (.s .guest l)↔zk2 l:=by rw[zlX];simp only[z7v];rfl
@[simp] def z7u (b:ak):(∀c∈Ty.cells .bare b,CVB sm c)↔SmB b:=by simp only[Ty.cells,qG,qN,or_false,vP,forall_eq,zpV,zvc,zWY,z6w,and_true];rfl
@[simp] def zbaM (l:List ak):CVB sm (.s .bare l)↔zXV l:=by rw[zlX];simp only[z7u];rfl
@[simp] def zba3 (a:List Ins)(b c:Int)(d e:List k0)(f:Ctl)(g:Int)(h:aE)(i:Bool)(j:LI):SmG ⟨a,b,c,d,e,f,g,h,i,j⟩↔a.length<=1048576/\d.length<=1048576/\e.length<=1048576/\j.length<=1048576:=Iff.rfl
@[simp] def zba2 (m:List LI)(g:List ah)(o:LI)(p:Int):SmB ⟨m,g,o,p⟩↔SmM m/\zk2 g/\o.length<=1048576:=Iff.rfl
def zLK {m:List LI}{i:Int}{x:LI}(h:SmM m)(b:x.length<=1048576):SmM (up m i x):=by refine⟨by simpa using h.1,λy a=>?_⟩;rcases qY a with a|rfl;{exact h.2 y a};{exact b}
def zEg {m:List ah}{i:Int}{x:ah}(h:zk2 m)(b:SmG x):zk2 (up m i x):=by refine⟨by simpa using h.1,λy a=>?_⟩;rcases qY a with a|rfl;{exact h.2 y a};{exact b}
def z8S {m:List ak}{i:Int}{x:ak}(h:zXV m)(b:SmB x):zXV (up m i x):=by refine⟨by simpa using h.1,λy a=>?_⟩;rcases qY a with a|rfl;{exact h.2 y a};{exact b}
def z2z {l:List ah}{i:Int}(h:zk2 l)(a:i0 i (ln l)=true)(d:ah):SmG (ix l i d):=h.2 _ (zbF a d)
def z98 {l:List LI}{i:Int}(h:SmM l)(a:i0 i (ln l)=true)(d:LI):(ix l i d).length<=1048576:=h.2 _ (zbF a d)
@[simp] def zbaC:SmG zD:=⟨by decide,by decide,by decide,by decide⟩
@[simp] def zRX (x a b:Int):zl x a b=zl x a b:=rfl
@[simp] def zS7 (i n:Int):inb i n=i0 i n:=rfl
attribute [simp] zib
@[simp] def zqE {a:Type}{l:List a}(h:l.length<=1048576)(i:Int):zl i 0 (wsub .i64 (ln l) 1)=i0 i (ln l):=zCL (zcO h).1 i
def zID {a:Type}{l:List a}(h:l.length<=big)(i:Int):zl i 0 (wsub .i64 (ln l) 1)=i0 i (ln l):=zCL h i
def zgz {x a b:Int}:(zl x a b=true)↔a<=x/\x<=b:=by unfold zl ige ile;simp only[qE,decide_eq_true_iff]
def z8n (a b:Int):ilt a b = !ige a b:=by unfold ilt ige;by_cases h:a<b;{rw [qM h,qT (by omega)];rfl};{rw [qT h,qM (by omega)];rfl}
attribute [simp] zbo zbo zgI zgI zh1 zd1 zd1 zeS zeS zql zb3 zb3
attribute [simp] zeY zda zgP zdZ
attribute [simp] zgM zdw zgh zd5
def zbi (a:Int):Int:=bif ilt a 0 then -1 else zVr .i64 a 4
def zdi (a:Int):Int:=bif ilt a 0 then -1 else zqF a 4
@[simp] abbrev zdq (a:Int):Bool:=true
@[simp] abbrev zc1 (a:Int):Int:=zbi a
def zxX:Run:=rF1 dI λb=>(zdq b,[aI<|zc1 b])
def zBB (N:Nat)(a:Int):OA:=
 (cond (ilt a 0) (some [aI<|-1])<|oN (ine 4 0)<|some [aI<|zVr .i64 a 4])
def zNx (a:Int)(b:zdq a=true):∃N,zBB N a=some [aI<|zc1 a]:=by refine⟨0,?_⟩;unfold zBB oN;refine br (λ_=>?_) (λ_=>j0 rfl ?_);all_goals first|rfl|(simp only [*,zc1,zbi,cT,cF]<;>rfl)|simp_all[Ty.cells,zc1,zbi]
def zHo:vT 283 zxX:=kF1 zg5 zJ zC zq (zA []) zNx
@[simp] abbrev zeG (a:Int):Int:=zdi a
def zxW:Run:=rF1 dI λb=>(zdq b,[aI<|zeG b])
def zBA (N:Nat)(a:Int):OA:=
 (cond (ilt a 0) (some [aI<|-1])<|oN (ine 4 0)<|some [aI<|zqF a 4])
def zNw (a:Int)(b:zdq a=true):∃N,zBA N a=some [aI<|zeG a]:=by refine⟨0,?_⟩;unfold zBA oN;refine br (λ_=>?_) (λ_=>j0 rfl ?_);all_goals first|rfl|(simp only [*,zeG,zdi,cT,cF]<;>rfl)|simp_all[Ty.cells,zeG,zdi]
def zHn:vT 288 zxW:=kF1 zg5 zJ zC zq (zA []) zNw
def zcd (w:Bool):Int:=bif w then 2 else 1
@[simp] abbrev zs4 (w:Bool):Bool:=true
@[simp] abbrev zfY (w:Bool):Int:=zcd w
def zDe:Run:=rF1 dB λb=>(zs4 b,[aI<|zfY b])
def zIW (N:Nat)(a:Bool):OA:=
 (cond a (some [aI 2])<|some [aI 1])
def zTv (a:Bool)(b:zs4 a=true):∃N,zIW N a=some [aI<|zfY a]:=by refine⟨0,?_⟩;unfold zIW;refine br (λ_=>?_) (λ_=>?_);all_goals first|rfl|(simp only [*,zfY,zcd,cT,cF]<;>rfl)|simp_all[Ty.cells,zfY,zcd]
def zMQ:vT 284 zDe:=kF1 zg5 zJ zC zq (zA []) zTv
def zrD (p:Int)(w:Bool):aE:=⟨1,p,w,0⟩
def zyN (n:Int):aE:=⟨2,0,false,n⟩
def zxF (n:Int):aE:=⟨3,0,false,n⟩
@[simp] abbrev zkk (p:Int)(w:Bool):Bool:=true
@[simp] abbrev zfB (p:Int)(w:Bool):aE:=zrD p w
def zoC:Run:=rF2 dI dB λb c=>(zkk b c,[.agg<|zgl<|zfB b c])
def zz6 (N:Nat)(a:Int)(c:Bool):OA:=
 (some [.agg [.i .i64 1,.i .i64 a,.b c,.i .i64 0]])
def zKR (a:Int)(b:Bool)(c:zkk a b=true):∃N,zz6 N a b=some [.agg<|zgl<|zfB a b]:=by refine⟨0,?_⟩;unfold zz6;first|rfl|(simp only [*,zfB,cT,cF]<;>rfl)|simp_all[Ty.cells,zfB]
def zsE:vT 286 zoC:=kF2 zg5 zJ zC zq (zA []) zKR
@[simp] abbrev zgZ (n:Int):Bool:=true
@[simp] abbrev zfU (n:Int):aE:=zyN n
def zqh:Run:=rF1 dI λb=>(zgZ b,[.agg<|zgl<|zfU b])
def zBE (N:Nat)(a:Int):OA:=
 (some [.agg [.i .i64 2,.i .i64 0,.b false,.i .i64 a]])
def zNA (a:Int)(b:zgZ a=true):∃N,zBE N a=some [.agg<|zgl<|zfU a]:=by refine⟨0,?_⟩;unfold zBE;first|rfl|(simp only [*,zfU,cT,cF]<;>rfl)|simp_all[Ty.cells,zfU]
def ztU:vT 409 zqh:=kF1 zg5 zJ zC zq (zA []) zNA
@[simp] abbrev zg0 (n:Int):aE:=zxF n
def zsn:Run:=rF1 dI λb=>(zgZ b,[.agg<|zgl<|zg0 b])
def zFw (N:Nat)(a:Int):OA:=
 (some [.agg [.i .i64 3,.i .i64 0,.b false,.i .i64 a]])
def zQT (a:Int)(b:zgZ a=true):∃N,zFw N a=some [.agg<|zgl<|zg0 a]:=by refine⟨0,?_⟩;unfold zFw;first|rfl|(simp only [*,zg0,cT,cF]<;>rfl)|simp_all[Ty.cells,zg0]
def zvr:vT 411 zsn:=kF1 zg5 zJ zC zq (zA []) zQT
def zhI (t x:Int):Bool:=bif zl t 0 3 then (cond (zl x 1 2) (ine (wand .i64 t x) 0) false) else false
@[simp] abbrev ziP (t x:Int):Bool:=true
@[simp] abbrev ziC (t x:Int):Bool:=zhI t x
def zAB:Run:=rF2 dI dI λb c=>(ziP b c,[aB<|ziC b c])
def zFo (N:Nat)(a b:Int):OA:=
 (oN (zQ a 0 3)<|cond (zl a 0 3) (oN (zQ b 1 2)<|cond (zl b 1 2) (some [aB<|ine (wand .i64 a b) 0]) oF) oF)
def zQK (a b:Int)(c:ziP a b=true):∃N,zFo N a b=some [aB<|ziC a b]:=by refine⟨0,?_⟩;unfold zFo oN;refine j0 rfl (br (λ_=>j0 rfl (br (λ_=>?_) λ_=>?_)) λ_=>?_);all_goals first|rfl|(simp only [*,ziC,zhI,cT,cF]<;>rfl)|simp_all[Ty.cells,ziC,zhI]
def zJU:vT 410 zAB:=kF2 zg5 zJ zC zq (zA []) zQK
def zdz (p:Int):Bool:=zl p 0 255
@[simp] abbrev zc8 (p:Int):Bool:=true
@[simp] abbrev zfZ (p:Int):Bool:=zdz p
def zDg:Run:=rF1 dI λb=>(zc8 b,[aB<|zfZ b])
def zI1 (N:Nat)(a:Int):OA:=
 (oN (zQ a 0 255)<|some [aB<|zl a 0 255])
def zTA (a:Int)(b:zc8 a=true):∃N,zI1 N a=some [aB<|zfZ a]:=by refine⟨0,?_⟩;unfold zI1 oN;refine j0 rfl ?_;first|rfl|(simp only [*,zfZ,zdz,cT,cF]<;>rfl)|simp_all[Ty.cells,zfZ,zdz]
def zMU:vT 217 zDg:=kF1 zg5 zJ zC zq (zA []) zTA
def zcx (l:List Ins)(p:Int):Ins:=bif i0 p (ln l) then ix l p zpB else ⟨7,0⟩
@[simp] abbrev zgf (l:List Ins)(p:Int):Bool:=true
@[simp] abbrev zgu (l:List Ins)(p:Int):Ins:=zcx l p
def zGg:Run:=rF2 (dS .ins) dI λb c=>(zgf b c,[aT .ins<|zgu b c])
def zOK (N:Nat)(a:lI)(b:Int):OA:=
 (oN (zQ b 0<|wsub .i64 (ln a) 1)<|cond (nB<|zl b 0<|wsub .i64 (ln a) 1) (some [.agg [.i .i64 7,.i .i64 0]])<|oN (inb b<|ln a)<|some [.agg [.i .i64 (ix a b zpB).Op,.i .i64 (ix a b zpB).X]])
def zVZ (a:List Ins)(b:Int)(c:zb5 big [aS .ins a,aI b])(e:zgf a b=true):∃N,zOK N a b=some [aT .ins<|zgu a b]:=by have d:=((zbI c).1 _ (qD.2 rfl)).len;have f:=zID d;refine⟨0,?_⟩;unfold zOK oN nB;refine j0 rfl (brN (λ_=>?_) λ_=>mu ?_);all_goals first|rfl|(simp only [*,zgu,zcx,cT,cF]<;>rfl)|simp_all[Ty.cells,zgu,zcx]
def zQn:vT 294 zGg:=hF2 zg5 zJ zC zq (zA []) zVZ
def zyp (w:Int):Int:=bif ieq w 5 then 1 else 2
def zeM (s:k0)(n:Int):Bool:=bif zdh s z0 then true else (cond (igt n 0) (cond (zl s.af 0<|wsub .i64 n 1) (zl s.aj 1 3) false) false)
@[simp] abbrev zs7 (s:k0)(n:Int):Bool:=true
@[simp] abbrev zqu (s:k0)(n:Int):Bool:=zeM s n
def zDi:Run:=rF2 (dT .slot) dI λb c=>(zs7 b c,[aB<|zqu b c])
def zI5 (N:Nat)(a:k0)(b:Int):OA:=
 (oN zb3<|cond (cond (ieq a.af zbo.af) (ieq a.aj zbo.aj) false) oT<|oN (zQ a.af 0<|wsub .i64 b 1)<|cond (zl a.af 0<|wsub .i64 b 1) (cond (igt b 0) (oN (zQ a.aj 1 3)<|some [aB<|zl a.aj 1 3]) oF) oF)
def zTE (a:k0)(b:Int)(c:zs7 a b=true):∃N,zI5 N a b=some [aB<|zqu a b]:=by refine⟨0,?_⟩;unfold zI5 oN;refine j0 rfl (br (λ_=>?_) λ_=>j0 rfl (br (λ_=>br (λ_=>j0 rfl ?_) λ_=>?_) λ_=>?_));all_goals first|rfl|(simp only [*,zqu,zeM,zdh,cT,cF]<;>rfl)|simp_all[Ty.cells,zqu,zeM,zdh]
def zMX:vT 346 zDi:=kF2 zg5 zJ zC zq (zA []) zTE
@[simp] abbrev zhe (l:List k0):Bool:=pc (l.length<=2147483648)
@[simp] abbrev zfy (l:List k0):List k0:=l
def zvJ:Run:=rF1 (dS .slot) λb=>(zhe b,[aS .slot<|zfy b])
def zzZ (N:Nat)(a:lS):OA:=
 (oN (few<|ln<|ap [] a)<|some [aS .slot<|ap [] a])
def zKH (a:List k0)(b:zhe a=true):∃N,zzZ N a=some [aS .slot<|zfy a]:=by have c:=zT.1 b;refine⟨0,?_⟩;unfold zzZ oN;refine mu ?_;first|rfl|(simp only [*,zfy,cT,cF]<;>rfl)|simp_all[Ty.cells,zfy]
def zEo:vT 368 zvJ:=kF1 zg5 zJ zC zq (zA []) zKH
@[simp] abbrev zt0 (l:List Ins):Bool:=pc (l.length<=2147483648)
@[simp] abbrev zop (l:List Ins):List Ins:=l
def zxV:Run:=rF1 (dS .ins) λb=>(zt0 b,[aS .ins<|zop b])
def zBx (N:Nat)(a:lI):OA:=
 (oN (few<|ln<|ap [] a)<|some [aS .ins<|ap [] a])
def zNs (a:List Ins)(b:zt0 a=true):∃N,zBx N a=some [aS .ins<|zop a]:=by have c:=zT.1 b;refine⟨0,?_⟩;unfold zBx oN;refine mu ?_;first|rfl|(simp only [*,zop,cT,cF]<;>rfl)|simp_all[Ty.cells,zop]
def zHl:vT 366 zxV:=kF1 zg5 zJ zC zq (zA []) zNs
def ziy (m:List LI)(p c:Int):Bool:=bif i0 p (ln m) then i0 c (ln<|ix m p []) else false
def cellAt (m:List LI)(p c:Int):Int:=bif ziy m p c then ix (ix m p []) c 0 else 0
def zbO (m:List LI)(p c v:Int):List LI:=bif ziy m p c then (cond (zl v 0 99) (up m p<|up (ix m p []) c v) m) else m
def zzm (m:List LI)(p c:Int):(ziy m p c=true)↔i0 p (ln m)=true/\i0 c (ln<|ix m p [])=true:=by unfold ziy;cases i0 p (ln m)<;>simp
def z9I {n:Nat}{m:List LI}(h:CVB n (.s (.sl .int) m)):m.length<=n/\∀p:Int,i0 p (ln m)=true->(ix m p []).length<=n :=
 ⟨h.len,λp a=>(h.inv.2 _ (zbF a []) _ (qD.2 rfl)).len⟩
@[simp] abbrev ziE (m:List LI)(p c:Int):Bool:=true
@[simp] abbrev zqv (m:List LI)(p c:Int):Bool:=ziy m p c
def zDl:Run:=rF3 (dS<|.sl .int) dI dI λb c d=>(ziE b c d,[aB<|zqv b c d])
def zJa (N:Nat)(a:lM)(b c:Int):OA:=
 let d:=wsub .i64 (ln<|ix a b []) 1; (oN (zQ b 0<|wsub .i64 (ln a) 1)<|cond (zl b 0<|wsub .i64 (ln a) 1) (oN (inb b<|ln a)<|oN (zQ c 0 d)<|some [aB<|zl c 0 d]) oF)
def zTJ (a:List LI)(b c:Int)(e:zb5 big [aS (.sl .int) a,aI b,aI c])(g:ziE a b c=true):∃N,zJa N a b c=some [aB<|zqv a b c]:=by
 have d:=z9I ((zbI e).1 _ (qD.2 rfl));have j:=zID d.1;have f:∀p i:Int,i0 p (ln a)=true->zl i 0 (wsub .i64 (ln<|ix a p []) 1)=i0 i (ln<|ix a p []):=λp i h=>zID (d.2 p h) i;refine⟨0,?_⟩;unfold zJa oN;conv=>zeta
 refine j0 rfl (br (λ_=>mu (j0 rfl ?_)) λ_=>?_);all_goals first|rfl|(simp only [*,zqv,ziy,cT,cF]<;>rfl)|simp_all[Ty.cells,zqv,ziy]
def zM3:vT 408 zDl:=hF3 zg5 zJ zC zq (zA []) zTJ
def z6e:zW:=[(119,zC8),(283,zxX),(288,zxW),(284,zDe),(286,zoC),(409,zqh),(411,zsn),(410,zAB),(217,zDg),(294,zGg),(346,zDi),(368,zvJ),(366,zxV),(408,zDl)]++z9D
def zk9:zL z6e:=zh zMH (zh zHo<|zh zHn<|zh zMQ<|zh zsE<|zh ztU<|zh zvr<|zh zJU<|zh zMU<|zh zQn<|zh zMX<|zh zEo<|zh zHl<|zh zM3 zg5)
@[simp] abbrev znB (m:List LI)(p c:Int):Int:=cellAt m p c
def zC9:Run:=rF3 (dS<|.sl .int) dI dI λb c d=>(ziE b c d,[aI<|znB b c d])
def zIO (N:Nat)(a:lM)(b c:Int):OA:=
 (oN (ziE a b c)<|cond (nB<|zqv a b c) (some [aI 0])<|oN (inb b<|ln a)<|oN (inb c<|ln<|ix a b [])<|some [aI<|ix (ix a b []) c 0])
def zTn (a:List LI)(b c:Int)(d:ziE a b c=true):∃N,zIO N a b c=some [aI<|znB a b c]:=by have e:=(zzm a b c).1;refine⟨0,?_⟩;unfold zIO oN nB;refine j0 rfl (brN (λ_=>?_) λ_=>mu (mu ?_));all_goals first|rfl|(simp only [*,znB,cellAt,cT,cF]<;>rfl)|simp_all[Ty.cells,znB,cellAt]
def zMI:vT 291 zC9:=kF3 zk9 zJ zC zq (zA []) zTn
def zdy (t:List k0)(n p:Int):Bool:=bif t.all (λs=>zeM s p) then ieq (ln t) n else false
@[simp] abbrev zmT (t:List k0)(n p:Int):Bool:=true
@[simp] abbrev ziD (t:List k0)(n p:Int):Bool:=zdy t n p
def zAO:Run:=rF3 (dS .slot) dI dI λb c d=>(zmT b c d,[aB<|ziD b c d])
def zFD (N:Nat)(d:lS)(e f:Int):OA:=
 (iter (σ:=(Int×Int×Int×lS×Unit)) N (λg a=>let b:=a.2.2.2.1;let c:=ix b a.2.2.1 zbe; (cond (ilt a.2.2.1<|ln b) (oN (inb a.2.2.1<|ln b)<|oN (zs7 c a.2.1)<|cond (nB<|zqu c a.2.1) oF<|g (a.1,a.2.1,zM .i64 a.2.2.1 1,b,()))<|some [aB<|ieq (ln b) a.1])) (e,f,0,d,()))
def zRx:=zA [(213,0,{n:=25,tm:=[(0,.sl 0 []),(1,ti),(2,ti),(7,ti)],lo:=[],ro:=[(0,.slot,false)]})]
def zQ0 (a:List k0)(d c:Int)(j:zb5 big [aS .slot a,aI d,aI c])(l:zmT a d c=true):∃N,zFD N a d c=some [aB<|ziD a d c]:=by
 have h:(_:List _).length<=big:=((zbI j).1 _ (qD.2 rfl)).len;refine zcI λN g=>?_;unfold zFD oN nB;conv=>zeta
 refine(zbJ a (λi (t:Unit)=>(d,c,(i:Int),a,())) _ (λ_ x (_:Unit) k=>bif (λs=>zeM s c) x then k () else oF) (λ(t:Unit)=>some [.one<|.b<|ieq (ln a) d]) (λi e t rec=>?_) (λt rec=>?_) _ ()<|g h).trans ?_;{simp only [zbK e,zbc e,zbr e,zbx e h,cT];exact zpN rfl};{simp only [zbw,cF]};rw[znQ λs=>zeM s c];refine br (λf=>?_) (λf=>?_);{first|rfl|(simp only [f,ziD,zdy,cT,cF]<;>rfl)|(simp_all [Ty.cells,ziD,zdy];done)};{first|rfl|(simp only [f,ziD,zdy,cT,cF]<;>rfl)|(simp_all [Ty.cells,ziD,zdy];done)}
def zJ8:vT 213 zAO:=hF3 zk9 zJ zC zq zRx zQ0
def zcK (c:LI):Bool:=bif c.all (λx=>zl x 0 99) then ieq (ln c) 4 else false
@[simp] abbrev zeI (c:LI):Bool:=true
@[simp] abbrev zdv (c:LI):Bool:=zcK c
def zoG:Run:=rF1 (dS .int) λb=>(zeI b,[aB<|zdv b])
def zI0 (N:Nat)(b:LI):OA:=
 (iter (σ:=(Int×LI×Unit)) N (λc a=>cond (ilt a.1<|ln a.2.1) (oN (inb a.1<|ln a.2.1)<|oN (zQ (ix a.2.1 a.1 0) 0 99)<|cond (nB<|zl (ix a.2.1 a.1 0) 0 99) oF<|c (zM .i64 a.1 1,a.2.1,()))<|some [aB<|ieq (ln a.2.1) 4]) (0,b,()))
def zU9:=zA [(216,0,{n:=19,tm:=[(0,.sl 0 []),(3,ti)],lo:=[],ro:=[(0,.int,false)]})]
def zTz (a:LI)(g:zb5 big [aS .int a])(j:zeI a=true):∃N,zI0 N a=some [aB<|zdv a]:=by have f:(_:List _).length<=big:=((zbI g).1 _ (qD.2 rfl)).len;refine zcI λN e=>?_;unfold zI0 oN nB;refine(zbJ a (λi (t:Unit)=>((i:Int),a,())) _ (λ_ x (_:Unit) h=>bif (λx=>zl x 0 99) x then h () else oF) (λ(t:Unit)=>some [.one<|.b<|ieq (ln a) 4]) (λi c t rec=>?_) (λt rec=>?_) _ ()<|e f).trans ?_;{simp only [zbK c,zbc c,zbr c,zbx c f,cT];exact zpN rfl};{simp only [zbw,cF]};rw[znQ λx=>zl x 0 99];refine br (λd=>?_) (λd=>?_);{first|rfl|(simp only [d,zdv,zcK,cT,cF]<;>rfl)|(simp_all [Ty.cells,zdv,zcK];done)};{first|rfl|(simp only [d,zdv,zcK,cT,cF]<;>rfl)|(simp_all [Ty.cells,zdv,zcK];done)}
def zMT:vT 216 zoG:=hF1 zk9 zJ zC zq zU9 zTz
def zII (N:Nat)(b:LI):OA:=
 (iter (σ:=(Int×Int×LI×Unit)) N (λc a=>cond (ilt a.2.1 a.1) (oN (inb a.2.1<|ln a.2.2.1)<|oN (zQ (ix a.2.2.1 a.2.1 0) 0 99)<|cond (nB<|zl (ix a.2.2.1 a.2.1 0) 0 99) oF<|c (a.1,zM .i64 a.2.1 1,a.2.2.1,()))<|some [aB<|ieq (ln a.2.2.1) 4]) (ln b,0,b,()))
def zU1:=zA [(211,0,{n:=18,tm:=[(0,.sl 0 []),(5,.sl 0 []),(6,ti),(7,ti)],lo:=[],ro:=[(0,.int,false)]})]
def zTh (a:LI)(g:zb5 big [aS .int a])(j:zeI a=true):∃N,zII N a=some [aB<|zdv a]:=by have f:(_:List _).length<=big:=((zbI g).1 _ (qD.2 rfl)).len;refine zcI λN e=>?_;unfold zII oN nB;refine(zbJ a (λi (t:Unit)=>(ln a,(i:Int),a,())) _ (λ_ x (_:Unit) h=>bif (λx=>zl x 0 99) x then h () else oF) (λ(t:Unit)=>some [.one<|.b<|ieq (ln a) 4]) (λi c t rec=>?_) (λt rec=>?_) _ ()<|e f).trans ?_;{simp only [zbK c,zbc c,zbr c,zbx c f,cT];exact zpN rfl};{simp only [zbw,cF]};rw[znQ λx=>zl x 0 99];refine br (λd=>?_) (λd=>?_);{first|rfl|(simp only [d,zdv,zcK,cT,cF]<;>rfl)|(simp_all [Ty.cells,zdv,zcK];done)};{first|rfl|(simp only [d,zdv,zcK,cT,cF]<;>rfl)|(simp_all [Ty.cells,zdv,zcK];done)}
def zMC:vT 211 zoG:=hF1 zk9 zJ zC zq zU1 zTh
def zeV (i:Ins):Bool:=bif (ieq i.Op 1||ieq i.Op 2||ieq i.Op 5||ieq i.Op 6) then zl i.X 0 99 else (cond (ieq i.Op 3||ieq i.Op 4) (zl i.X 0 15)<|cond (ieq i.Op 7) (ieq i.X 0)<|cond (ieq i.Op 8) (zl i.X 0 11) false)
@[simp] abbrev zDq (i:Ins):Bool:=true
@[simp] abbrev zyf (i:Ins):Bool:=zeV i
def zGh:Run:=rF1 (dT .ins) λb=>(zDq b,[aB<|zyf b])
def zOL (N:Nat)(a:Ins):OA:=
 let b:=ieq a.Op 4;let l:=zQ a.X 0 99;let k:=aB<|zl a.X 0 99;let j:=ieq a.Op 8;let i:=ieq a.Op 7;let h:=ieq a.Op 3;let g:=zQ a.X 0 11;let f:=zQ a.X 0 15;let e:=aB<|ieq a.X 0;let d:=aB<|zl a.X 0 11;let c:=aB<|zl a.X 0 15; (cond (ieq a.Op 1) (cond (ieq a.Op 1) (oN l<|some [k])<|cond h (cond h (oN f<|some [c])<|cond i (some [e])<|cond j (oN g<|some [d]) oF)<|cond b (oN f<|some [c])<|cond i (some [e])<|cond j (oN g<|some [d]) oF)<|cond (ieq a.Op 2) (cond (ieq a.Op 2) (oN l<|some [k])<|cond h (cond h (oN f<|some [c])<|cond i (some [e])<|cond j (oN g<|some [d]) oF)<|cond b (oN f<|some [c])<|cond i (some [e])<|cond j (oN g<|some [d]) oF)<|cond (ieq a.Op 5) (cond (ieq a.Op 5) (oN l<|some [k])<|cond h (cond h (oN f<|some [c])<|cond i (some [e])<|cond j (oN g<|some [d]) oF)<|cond b (oN f<|some [c])<|cond i (some [e])<|cond j (oN g<|some [d]) oF)<|cond (ieq a.Op 6) (oN l<|some [k])<|cond h (cond h (oN f<|some [c])<|cond i (some [e])<|cond j (oN g<|some [d]) oF)<|cond b (oN f<|some [c])<|cond i (some [e])<|cond j (oN g<|some [d]) oF)
def zV1 (a:Ins)(b:zDq a=true):∃N,zOL N a=some [aB<|zyf a]:=by
 refine⟨0,?_⟩;unfold zOL oN;conv=>zeta
 refine br (λ_=>br (λ_=>j0 rfl ?_) λ_=>br (λ_=>br (λ_=>j0 rfl ?_) λ_=>br (λ_=>?_) λ_=>br (λ_=>j0 rfl ?_) λ_=>?_) λ_=>br (λ_=>j0 rfl ?_) λ_=>br (λ_=>?_) λ_=>br (λ_=>j0 rfl ?_) λ_=>?_) (λ_=>br (λ_=>br (λ_=>j0 rfl ?_) λ_=>br (λ_=>br (λ_=>j0 rfl ?_) λ_=>br (λ_=>?_) λ_=>br (λ_=>j0 rfl ?_) λ_=>?_) λ_=>br (λ_=>j0 rfl ?_) λ_=>br (λ_=>?_) λ_=>br (λ_=>j0 rfl ?_) λ_=>?_) λ_=>br (λ_=>br (λ_=>j0 rfl ?_) λ_=>br (λ_=>br (λ_=>j0 rfl ?_) λ_=>br (λ_=>?_) λ_=>br (λ_=>j0 rfl ?_) λ_=>?_) λ_=>br (λ_=>j0 rfl ?_) λ_=>br (λ_=>?_) λ_=>br (λ_=>j0 rfl ?_) λ_=>?_) λ_=>br (λ_=>j0 rfl ?_) λ_=>br (λ_=>br (λ_=>j0 rfl ?_) λ_=>br (λ_=>?_) λ_=>br (λ_=>j0 rfl ?_) λ_=>?_) λ_=>br (λ_=>j0 rfl ?_) λ_=>br (λ_=>?_) λ_=>br (λ_=>j0 rfl ?_) λ_=>?_);all_goals first|rfl|(simp only [*,zyf,zeV,cT,cF]<;>rfl)|simp_all[Ty.cells,zyf,zeV]
def zQo:vT 453 zGh:=kF1 zk9 zJ zC zq (zA []) zV1
def zkf (e:aE):Bool:=bif (ieq e.Kind 0||ieq e.Kind 4) then (ieq e.af 0&&(!e.Write&&ieq e.N 0)) else (cond (ieq e.Kind 1) (zl e.af 0 3&&ieq e.N 0)<|cond (ieq e.Kind 2||ieq e.Kind 3) (zl e.N 0 99&&(ieq e.af 0 && !e.Write)) false)
@[simp] def zba1 (x:Bool):ziM x false = !x:=by cases x<;>rfl
attribute [simp] zzd
@[simp] abbrev zzC (e:aE):Bool:=true
@[simp] abbrev zuw (e:aE):Bool:=zkf e
def zDa:Run:=rF1 dE λb=>(zzC b,[aB<|zuw b])
def zIQ (N:Nat)(a:aE):OA:=
 let f:=zl a.N 0 99;let e:=zQ a.N 0 99;let d:=ieq a.Kind 2;let b:=ieq a.af 0;let c:=aB<|nB a.Write;let g:=aB<|cond (ieq a.Kind a.Kind) (cond b (cond (ziM a.Write false) (ieq a.N 0) false) false) false; (cond (ieq a.Kind 0) (cond (ieq a.Kind 0) (some [g])<|cond (ieq a.Kind 1) (oN (zQ a.af 0 3)<|cond (zl a.af 0 3) (some [aB<|ieq a.N 0]) oF)<|cond d (cond d (oN e<|cond f (cond b (some [c]) oF) oF) oF)<|cond (ieq a.Kind 3) (oN e<|cond f (cond b (some [c]) oF) oF) oF)<|cond (ieq a.Kind 4) (some [g])<|cond (ieq a.Kind 1) (oN (zQ a.af 0 3)<|cond (zl a.af 0 3) (some [aB<|ieq a.N 0]) oF)<|cond d (cond d (oN e<|cond f (cond b (some [c]) oF) oF) oF)<|cond (ieq a.Kind 3) (oN e<|cond f (cond b (some [c]) oF) oF) oF)
def zTo (a:aE)(b:zzC a=true):∃N,zIQ N a=some [aB<|zuw a]:=by
 refine⟨0,?_⟩;unfold zIQ oN nB;conv=>zeta
 refine br (λ_=>br (λ_=>?_) λ_=>br (λ_=>j0 rfl (br (λ_=>?_) λ_=>?_)) λ_=>br (λ_=>br (λ_=>j0 rfl (br (λ_=>br (λ_=>?_) λ_=>?_) λ_=>?_)) λ_=>?_) λ_=>br (λ_=>j0 rfl (br (λ_=>br (λ_=>?_) λ_=>?_) λ_=>?_)) λ_=>?_) (λ_=>br (λ_=>?_) λ_=>br (λ_=>j0 rfl (br (λ_=>?_) λ_=>?_)) λ_=>br (λ_=>br (λ_=>j0 rfl (br (λ_=>br (λ_=>?_) λ_=>?_) λ_=>?_)) λ_=>?_) λ_=>br (λ_=>j0 rfl (br (λ_=>br (λ_=>?_) λ_=>?_) λ_=>?_)) λ_=>?_);all_goals first|rfl|(simp only [*,zuw,zkf,cT,cF]<;>rfl)|simp_all[Ty.cells,zuw,zkf]
def zMK:vT 383 zDa:=kF1 zk9 zJ zC zq (zA []) zTo
def zu7 (c:Ctl):LI:=(cond (zl c.aq 0 3) [] [1])++((cond (zl c.Post 0 255) [] [2])++((cond (ine c.Post 0) (cond c.Open [] [3]) [])++(cond (ieq c.aq 2) (cond (ine c.Post 0) [4] []) [])))
@[simp] def zbaY {a:Type}(x:a)(l m:List a):ap (x::l) m=x::ap l m:=rfl
@[simp] abbrev zge (c:Ctl):Bool:=true
@[simp] abbrev zmO (c:Ctl):LI:=zu7 c
def zvM:Run:=rF1 dC λb=>(zge b,[aS .int<|zmO b])
def zz5 (N:Nat)(b:Ctl):OA:=
 let e:=aS .int [];let k:=ap (ap [] [2]) [4];let j:=ap (ap [] [1]) [4];let i:=aS .int<|ap [] [2];let h:=aS .int<|ap [] [1];let g:=ap (ap [] [2]) [3];let f:=ap (ap [] [1]) [3];let c:=ieq b.aq 2;let a:=ine b.Post 0;let d:=ap (ap [] [1]) [2];let l:=aS .int d; (oN (zQ b.aq 0 3)<|cond (nB<|zl b.aq 0 3) (oN (few<|ln<|ap [] [1])<|oN (zQ b.Post 0 255)<|cond (nB<|zl b.Post 0 255) (oN (few<|ln d)<|cond a (cond (nB b.Open) (oN (few<|ln<|ap d [3])<|cond c (cond a (oN (few<|ln<|ap (ap d [3]) [4])<|some [aS .int<|ap (ap d [3]) [4]])<|some [aS .int<|ap d [3]])<|some [aS .int<|ap d [3]])<|cond c (cond a (oN (few<|ln<|ap d [4])<|some [aS .int<|ap d [4]])<|some [l])<|some [l])<|cond c (cond a (oN (few<|ln<|ap d [4])<|some [aS .int<|ap d [4]])<|some [l])<|some [l])<|cond a (cond (nB b.Open) (oN (few<|ln f)<|cond c (cond a (oN (few<|ln<|ap f [4])<|some [aS .int<|ap f [4]])<|some [aS .int f])<|some [aS .int f])<|cond c (cond a (oN (few<|ln j)<|some [aS .int j])<|some [h])<|some [h])<|cond c (cond a (oN (few<|ln j)<|some [aS .int j])<|some [h])<|some [h])<|oN (zQ b.Post 0 255)<|cond (nB<|zl b.Post 0 255) (oN (few<|ln<|ap [] [2])<|cond a (cond (nB b.Open) (oN (few<|ln g)<|cond c (cond a (oN (few<|ln<|ap g [4])<|some [aS .int<|ap g [4]])<|some [aS .int g])<|some [aS .int g])<|cond c (cond a (oN (few<|ln k)<|some [aS .int k])<|some [i])<|some [i])<|cond c (cond a (oN (few<|ln k)<|some [aS .int k])<|some [i])<|some [i])<|cond a (cond (nB b.Open) (oN (few<|ln<|ap [] [3])<|cond c (cond a (oN (few<|ln<|ap (ap [] [3]) [4])<|some [aS .int<|ap (ap [] [3]) [4]])<|some [aS .int<|ap [] [3]])<|some [aS .int<|ap [] [3]])<|cond c (cond a (oN (few<|ln<|ap [] [4])<|some [aS .int<|ap [] [4]])<|some [e])<|some [e])<|cond c (cond a (oN (few<|ln<|ap [] [4])<|some [aS .int<|ap [] [4]])<|some [e])<|some [e])
def zKP (a:Ctl)(b:zge a=true):∃N,zz5 N a=some [aS .int<|zmO a]:=by
 refine⟨0,?_⟩;unfold zz5 oN nB;conv=>zeta
 refine j0 rfl (brN (λ_=>mu (j0 rfl (brN (λ_=>mu (br (λ_=>brN (λ_=>mu (br (λ_=>br (λ_=>mu ?_) λ_=>?_) λ_=>?_)) λ_=>br (λ_=>br (λ_=>mu ?_) λ_=>?_) λ_=>?_) λ_=>br (λ_=>br (λ_=>mu ?_) λ_=>?_) λ_=>?_)) λ_=>br (λ_=>brN (λ_=>mu (br (λ_=>br (λ_=>mu ?_) λ_=>?_) λ_=>?_)) λ_=>br (λ_=>br (λ_=>mu ?_) λ_=>?_) λ_=>?_) λ_=>br (λ_=>br (λ_=>mu ?_) λ_=>?_) λ_=>?_))) λ_=>j0 rfl (brN (λ_=>mu (br (λ_=>brN (λ_=>mu (br (λ_=>br (λ_=>mu ?_) λ_=>?_) λ_=>?_)) λ_=>br (λ_=>br (λ_=>mu ?_) λ_=>?_) λ_=>?_) λ_=>br (λ_=>br (λ_=>mu ?_) λ_=>?_) λ_=>?_)) λ_=>br (λ_=>brN (λ_=>mu (br (λ_=>br (λ_=>mu ?_) λ_=>?_) λ_=>?_)) λ_=>br (λ_=>br (λ_=>mu ?_) λ_=>?_) λ_=>?_) λ_=>br (λ_=>br (λ_=>mu ?_) λ_=>?_) λ_=>?_));all_goals first|rfl|(simp only [*,zmO,zu7,cT,cF]<;>rfl)|simp_all[Ty.cells,zmO,zu7]
def zEu:vT 437 zvM:=kF1 zk9 zJ zC zq (zA []) zKP
def zhr (p n:Int):Bool:=ieq (wand .i64 (zDK .i64 p n) 1) 1
def scan (p:Int):Int:=bif zhr p 7 then 7 else (cond (zhr p 6) 6<|cond (zhr p 5) 5<|cond (zhr p 4) 4<|cond (zhr p 3) 3<|cond (zhr p 2) 2<|cond (zhr p 1) 1<|cond (zhr p 0) 0<|-1)
def z4L:∀n:Fin 256,-1<=scan (n.val:Int)/\scan (n.val:Int)<=7/\(0<=scan (n.val:Int)->wsub .i64 (n.val:Int) (zpA .i64 1<|scan (n.val:Int))=zMb .i64 (n.val:Int) (zpA .i64 1<|scan (n.val:Int))):=by decide +kernel
def z1N {P:Int->Prop}(h:∀n:Fin 256,P (n.val:Int)){x:Int}(a:0<=x)(b:x<=255):P x:=by have:=h ⟨x.toNat,by omega⟩;have e:((x.toNat:Nat):Int)=x:=(by omega);simpa [e] using this
def z6f:zW:=[(291,zC9),(213,zAO),(216,zoG),(211,zoG),(453,zGh),(383,zDa),(437,zvM)]++z6e
def zla:zL z6f:=zh zMI (zh zJ8<|zh zMT<|zh zMC<|zh zQo<|zh zMK<|zh zEu zk9)
def zl3 (m:List LI)(n:Int):Bool:=bif m.all zcK then ieq (ln m) n else false
@[simp] abbrev zrX (m:List LI)(n:Int):Bool:=true
@[simp] abbrev zmd (m:List LI)(n:Int):Bool:=zl3 m n
def zGi:Run:=rF2 (dS<|.sl .int) dI λb c=>(zrX b c,[aB<|zmd b c])
def zOM (N:Nat)(c:lM)(d:Int):OA:=
 (iter (σ:=(Int×Int×lM×Unit)) N (λe a=>let b:=a.2.2.1; (cond (ilt a.2.1<|ln b) (oN (inb a.2.1<|ln b)<|oN (zeI<|ix b a.2.1 [])<|cond (nB<|zdv<|ix b a.2.1 []) oF<|e (a.1,zM .i64 a.2.1 1,b,()))<|some [aB<|ieq (ln b) a.1])) (d,0,c,()))
def zWK:=zA [(120,0,{n:=22,tm:=[(0,.sl 0 []),(1,ti),(5,ti)],lo:=[],ro:=[(0,.sl .int,false)]})]
def zV2 (a:List LI)(c:Int)(h:zb5 big [aS (.sl .int) a,aI c])(k:zrX a c=true):∃N,zOM N a c=some [aB<|zmd a c]:=by
 have g:(_:List _).length<=big:=((zbI h).1 _ (qD.2 rfl)).len;refine zcI λN f=>?_;unfold zOM oN nB;conv=>zeta
 refine(zbJ a (λi (t:Unit)=>(c,(i:Int),a,())) _ (λ_ x (_:Unit) j=>bif (zcK) x then j () else oF) (λ(t:Unit)=>some [.one<|.b<|ieq (ln a) c]) (λi d t rec=>?_) (λt rec=>?_) _ ()<|f g).trans ?_;{simp only [zbK d,zbc d,zbr d,zbx d g,cT];exact zpN rfl};{simp only [zbw,cF]};rw[znQ<|zcK];refine br (λe=>?_) (λe=>?_);{first|rfl|(simp only [e,zmd,zl3,cT,cF]<;>rfl)|(simp_all [Ty.cells,zmd,zl3];done)};{first|rfl|(simp only [e,zmd,zl3,cT,cF]<;>rfl)|(simp_all [Ty.cells,zmd,zl3];done)}
def zQp:vT 120 zGi:=hF2 zla zJ zC zq zWK zV2
def zdR (p:List Ins):Bool:=bif p.all zeV then zl (ln p) 1 12 else false
@[simp] abbrev zzE (p:List Ins):Bool:=true
@[simp] abbrev znC (p:List Ins):Bool:=zdR p
def zDh:Run:=rF1 (dS .ins) λb=>(zzE b,[aB<|znC b])
def zI2 (N:Nat)(c:lI):OA:=
 (iter (σ:=(Int×lI×Unit)) N (λd a=>let b:=ix a.2.1 a.1 zpB; (cond (ilt a.1<|ln a.2.1) (oN (inb a.1<|ln a.2.1)<|oN (zDq b)<|cond (nB<|zyf b) oF<|d (zM .i64 a.1 1,a.2.1,()))<|oN (zQ (ln a.2.1) 1 12)<|some [aB<|zl (ln a.2.1) 1 12])) (0,c,()))
def zVa:=zA [(382,0,{n:=19,tm:=[(0,.sl 0 []),(3,ti)],lo:=[],ro:=[(0,.ins,false)]})]
def zTB (a:List Ins)(g:zb5 big [aS .ins a])(j:zzE a=true):∃N,zI2 N a=some [aB<|znC a]:=by
 have f:(_:List _).length<=big:=((zbI g).1 _ (qD.2 rfl)).len;refine zcI λN e=>?_;unfold zI2 oN nB;conv=>zeta
 refine(zbJ a (λi (t:Unit)=>((i:Int),a,())) _ (λ_ x (_:Unit) h=>bif (zeV) x then h () else oF) (λ(t:Unit)=>cond (zQ (ln a) 1 12) (some [.one<|.b<|zl (ln a) 1 12]) none) (λi c t rec=>?_) (λt rec=>?_) _ ()<|e f).trans ?_;{simp only [zbK c,zbc c,zbr c,zbx c f,cT];exact zpN rfl};{simp only [zbw,cF]};rw[znQ<|zeV];refine br (λd=>?_) (λd=>?_);{refine j0 rfl ?_;first|rfl|(simp only [d,znC,zdR,cT,cF]<;>rfl)|(simp_all [Ty.cells,znC,zdR];done)};{first|rfl|(simp only [d,znC,zdR,cT,cF]<;>rfl)|(simp_all [Ty.cells,znC,zdR];done)}
def zMV:vT 382 zDh:=hF1 zla zJ zC zq zVa zTB
def zlV (c:Ctl):Bool:=ieq (ln<|zu7 c) 0
@[simp] abbrev zqn (c:Ctl):Bool:=zlV c
def zGe:Run:=rF1 dC λb=>(zge b,[aB<|zqn b])
def zOI (N:Nat)(a:Ctl):OA:=
 (oN (zge a)<|some [aB<|ieq (ln<|zmO a) 0])
def zVX (a:Ctl)(b:zge a=true):∃N,zOI N a=some [aB<|zqn a]:=by refine⟨0,?_⟩;unfold zOI oN;refine j0 rfl ?_;first|rfl|(simp only [*,zqn,zlV,cT,cF]<;>rfl)|simp_all[Ty.cells,zqn,zlV]
def zQl:vT 351 zGe:=kF1 zla zJ zC zq (zA []) zVX
def zd7 (p:Int):Int:=bif zdz p then scan p else -1
def zXP {x:Int}(a:0<=x)(b:x<=255):wcv .u64 x=x:=z1N (P:=λx=>wcv .u64 x=x) (by decide +kernel) a b
@[simp] abbrev znD (p:Int):Int:=zd7 p
def zDj:Run:=rF1 dI λb=>(zc8 b,[aI<|znD b])
def zI7 (N:Nat)(b:Int):OA:=
 (iter (σ:=(Int×Int×Unit)) N (λc a=>cond (ige a.2.1 0) (oN (zc8 a.1)<|cond (zfZ a.1) (oN (ile 0<|wcv .u64 a.2.1)<|cond (ieq (wand .i64 (zDK .i64 a.1<|wcv .u64 a.2.1) 1) 1) (some [aI a.2.1])<|c (a.1,wsub .i64 a.2.1 1,()))<|some [aI<|-1])<|some [aI<|-1]) (b,7,()))
def zVc:=zA [(439,0,{n:=19,tm:=[(0,ti),(3,ti)],lo:=[],ro:=[]})]
def zTG (a:Int)(C:zc8 a=true):∃N,zI7 N a=some [aI<|znD a]:=by refine⟨10,?_⟩;unfold zI7 oN;cases h:zdz a;{rw [zdC];refine j0 rfl ?_;refine j0 rfl ?_;refine zcs h ?_;simp[zd7,h]};{have c:zfZ a=true:=h;rw[zdC];refine j0 rfl (j0 rfl (j0 c (j0 rfl (br (λr=>?_) λr=>?_))));{have A:zhr a 7=true:=r;simp[zd7,h,scan,A]};have b:zhr a 7=false:=r;show iter 9 _ (a,6,())=_;rw[zdC];refine j0 rfl (j0 rfl (j0 c (j0 rfl (br (λq=>?_) λq=>?_))));{have z:zhr a 6=true:=q;simp[zd7,h,scan,z,b]};have d:zhr a 6=false:=q;show iter 8 _ (a,5,())=_;rw[zdC];refine j0 rfl (j0 rfl (j0 c (j0 rfl (br (λp=>?_) λp=>?_))));{have y:zhr a 5=true:=p;simp[zd7,h,scan,y,b,d]};have e:zhr a 5=false:=p;show iter 7 _ (a,4,())=_;rw[zdC];refine j0 rfl (j0 rfl (j0 c (j0 rfl (br (λn=>?_) λn=>?_))));{have x:zhr a 4=true:=n;simp[zd7,h,scan,x,b,d,e]};have f:zhr a 4=false:=n;show iter 6 _ (a,3,())=_;rw[zdC];refine j0 rfl (j0 rfl (j0 c (j0 rfl (br (λm=>?_) λm=>?_))));{have w:zhr a 3=true:=m;simp[zd7,h,scan,w,b,d,e,f]};have g:zhr a 3=false:=m;show iter 5 _ (a,2,())=_;rw[zdC];refine j0 rfl (j0 rfl (j0 c (j0 rfl (br (λl=>?_) λl=>?_))));{have v:zhr a 2=true:=l;simp[zd7,h,scan,v,b,d,e,f,g]};have i:zhr a 2=false:=l;show iter 4 _ (a,1,())=_;rw[zdC];refine j0 rfl (j0 rfl (j0 c (j0 rfl (br (λk=>?_) λk=>?_))));{have u:zhr a 1=true:=k;simp[zd7,h,scan,u,b,d,e,f,g,i]};have s:zhr a 1=false:=k;show iter 3 _ (a,0,())=_;rw[zdC];refine j0 rfl (j0 rfl (j0 c (j0 rfl (br (λj=>?_) λj=>?_))));{have t:zhr a 0=true:=j;simp[zd7,h,scan,t,b,d,e,f,g,i,s]};have B:zhr a 0=false:=j;show iter 2 _ (a,-1,())=_;rw[zdC];refine zcs rfl ?_;simp[zd7,h,scan,b,d,e,f,g,i,s,B]}
def zMZ:vT 439 zDj:=kF1 zla zJ zC zq zVc zTG
def zbE {c:Cur}{i k:Int}(h:zba c)(a:0<=i):zba ⟨c.b,i,k⟩:=⟨a,h.2⟩
def zXp {c:Cur}(h:zba c){l:LI}(a:l≠[]):zbk c l∈l:=(zyh<|ze8 h a).2.2 (kO.2 a)
def zfi {c:Cur}(h:zba c){n:Int}(a:0<n):0<=zk c n/\zk c n<n:=(zh5<|zbp h n).2.2 a
def zKz {o x:Int}(h:(o=1\/o=2\/o=5\/o=6)/\0<=x/\x<=99\/(o=3\/o=4)/\0<=x/\x<=15\/o=8/\0<=x/\x<=11):zeV ⟨o,x⟩=true:=by have w:∀{a b:Int},a<=x->x<=b->zl x a b=true:=λc d=>(by simp only[zl,ige,ile,qE,jA];exact⟨c,d⟩);rcases h with⟨h|h|h|h,c,d⟩|⟨h|h,c,d⟩|⟨h,c,d⟩<;>subst h<;>exact w c d
def zyv (N:Nat)(c:Cur)  : OA :=
 let d:=zbk c [1,2,3,3,3,4,4,4,5,6,8];let a:=({ (zZ c [1,2,3,3,3,4,4,4,5,6,8]) with b:=c.b}:Cur); (p0 (oN (zu a 16)<|some [.agg [.s .u8 c.b,.i .i64 (zf a 16).i,.i .i64 (zf a 16).h],.agg [.i .i64 d,.i .i64<|zk a 16]]) λf=>p0 (cond (ieq d 8) (oN (zu a 4)<|some [.agg [.s .u8 c.b,.i .i64 (zf a 4).i,.i .i64 (zf a 4).h],.agg [.i .i64 d,.i .i64<|zk a 4]])<|oN (zu a 100)<|some [.agg [.s .u8 c.b,.i .i64 (zf a 100).i,.i .i64 (zf a 100).h],.agg [.i .i64 d,.i .i64<|zk a 100]]) λe=>oN (zbq c [1,2,3,3,3,4,4,4,5,6,8])<|cond (ieq d 3) (cond (ieq d 3) f e)<|cond (ieq d 4) f e)
def zrf (c:Cur)(s:Cur)(a:Ins):Prop:=(∃N,zyv N c=some (AV.agg (zbT s)::[aT .ins a]))/\(s.b=c.b/\0<=s.i)/\(zeV a=true)
def zj1 (c:Cur)  : Bool:=wC (zrf c)
def zgO (c:Cur)  : Cur:=wS (zrf c)
def zgx (c:Cur)  : Ins:=wV (zrf c)
def zLu {c:Cur}(h:zj1 c=true):zrf c (zgO c) (zgx c):=wG h
def zzH (c:Cur)  : 0<=(zgO c).i:=wP λh=>h.2.1.2
def zZj (c:Cur)(h:∃N,Ends (wE (λa=>aT .ins a) c.b λa=>zeV a=true)<|zyv N c):zj1 c=true:=wI (λ_ _ h=>h) h
def zAn:zdB:=rP0 λc=>(zj1 c,zgO c,[aT .ins<|zgx c])
def zM5:zbP Tryz.prog 447 [false,true,true] zAn:=hP0 zdV zN zT4 zq (zA []) (λ_ h=>(zLu h).1)
def zRM {c:Cur}(h:zba c):zj1 c=true:=by
 refine zZj c ⟨0,?_⟩;have p:([1,2,3,3,3,4,4,4,5,6,8]:LI)≠[]:=(by simp);have q:=zXp h p;have f:zba {zZ c [1,2,3,3,3,4,4,4,5,6,8] with b:=c.b}:=zbE h (zbW _ _);have t:=zfi f (n:=16) (by omega);have w:=zfi f (n:=4) (by omega);have m:=zfi f (n:=100) (by omega);unfold zyv oN;conv=>zeta
 generalize zbk c [1,2,3,3,3,4,4,4,5,6,8]=o at q;simp only[qG,qN,or_false]at q;have j:∀{n:Int},ieq o n=false->o≠n:=λh e=>(by subst e;simp[ieq]at h);have k:∀{n:Int},ieq o n=true->o=n:=λh=>by simpa [ieq] using h
 have L:∀(n:Int),0<n->(zeV ⟨o,zk {zZ c [1,2,3,3,3,4,4,4,5,6,8] with b:=c.b} n⟩=true)->Ends (λa=>∃s r,a=(AV.agg (zbT s)::[aT .ins r])/\(s.b=c.b/\0<=s.i)/\zeV r=true)
  (cond (zu {zZ c [1,2,3,3,3,4,4,4,5,6,8] with b:=c.b} n) (some (AV.agg [.s .u8 c.b,.i .i64 (zf {zZ c [1,2,3,3,3,4,4,4,5,6,8] with b:=c.b} n).i,.i .i64 (zf {zZ c [1,2,3,3,3,4,4,4,5,6,8] with b:=c.b} n).h]::[.agg [.i .i64 o,.i .i64<|zk {zZ c [1,2,3,3,3,4,4,4,5,6,8] with b:=c.b} n]])) none):=
  λn x u=>zo (zbp f n) (zby (aT .ins) (v:=⟨o,zk _ n⟩) (zB _ _) u)
 refine zo (ze8 h p) (zbt (λg=>zbt (λ_=>L 16 (by omega) (zKz ?_)) λd=>absurd (k g) (j d)) λg=>zbt (λd=>L 16 (by omega) (zKz ?_)) λd=>zbt (λl=>L 4 (by omega) (zKz ?_)) λl=>L 100 (by omega) (zKz ?_));{have:=k g;omega};{have:=k d;omega};{have:=k l;omega};{have:=j g;have:=j d;have:=j l;omega}
def z6G:zcT:=[(447,[false,true,true],zAn)]++z6F
def zT5:zb2 z6G:=zce zT4 (by
 intro x a;simp only[qG,qN,or_false]at a;rcases a with rfl
 .exact zM5)
def zhP {x y:Int}(a:0<=x)(b:x<=1000000)(c:0<=y)(d:y<=1000000):zM .i64 x y=x+y:=zmt (by omega) (by omega)
def zhS {a:Type}{l:List a}(h:ln l<=1000000):few (ln l)=true:=qM ⟨by unfold ln;omega,by omega⟩
def zfR {a:Type}(l:List a)(x:a):ln (ap l [x])=ln l+1:=by simp[ln,ap]
def zwi (N:Nat)(c:Cur)  : OA :=
 (iter (σ:=(Int×Int×Int×lI×LI×Unit)) N (λj d=>let e:=d.2.2.2.1;let f:=d.2.2.2.2.1;let g:=(⟨f,d.2.1,d.2.2.1⟩:Cur);let a:=({ (zf g 7) with b:=f}:Cur); (oN (zu g 7)<|cond (ilt d.1<|zM .i64 2<|zk g 7) (oN (zj1 a)<|oN (few<|ln<|ap e [zgx a])<|j (zM .i64 d.1 1,(zgO a).i,(zgO a).h,ap e [zgx a],f,()))<|oN (zcv a 3)<|cond (zcQ a 3) (oN (few<|ln<|ap e [(⟨7,0⟩:Ins)])<|some [.agg [.s .u8 f,.i .i64 (zO a 3).i,.i .i64 (zO a 3).h],aS .ins<|ap e [(⟨7,0⟩:Ins)]])<|oN (few<|ln<|ap e [(⟨8,0⟩:Ins)])<|some [.agg [.s .u8 f,.i .i64 (zO a 3).i,.i .i64 (zO a 3).h],aS .ins<|ap e [(⟨8,0⟩:Ins)]])) (0,c.i,c.h,[],c.b,()))
def zRB:=zA [(363,0,{n:=29,tm:=[(0,.lp 0 0),(3,.sl 0 []),(4,ti)],lo:=[(0,[.sl 1 [],ti,ti])],ro:=[(0,.ins,true),(1,.u8,false)]})]
def zpi (c:Cur)(s:Cur)(a:List Ins):Prop:=(∃N,zwi N c=some (AV.agg (zbT s)::[aS .ins a]))/\(s.b=c.b/\0<=s.i)/\(zdR a=true)
def zhC (c:Cur)  : Bool:=wC (zpi c)
def zbb (c:Cur)  : Cur:=wS (zpi c)
def zb4 (c:Cur)  : List Ins:=wV (zpi c)
def zrg {c:Cur}(h:zhC c=true):zpi c (zbb c) (zb4 c):=wG h
def ziT (c:Cur)  : 0<=(zbb c).i:=wP λh=>h.2.1.2
def zWp (c:Cur)(h:∃N,Ends (wE (λa=>aS .ins a) c.b λa=>zdR a=true)<|zwi N c):zhC c=true:=wI (λ_ _ h=>h) h
def zxM:zdB:=rP0 λc=>(zhC c,zbb c,[aS .ins<|zb4 c])
def zKh:zbP Tryz.prog 363 [false,true,true] zxM:=hP0 zdV zN zT5 zq zRB (λ_ h=>(zrg h).1)
def zC1 {c:Cur}(h:zba c):zhC c=true:=by
 refine zWp c ⟨9,?_⟩;unfold zwi oN;conv=>zeta
 refine zke (λn s=>s.1+(n:Int)=8/\0<=s.1/\0<=s.2.1/\(∀x∈s.2.2.2.1,zeV x=true)/\ln s.2.2.2.1=s.1/\s.2.2.2.2.1=c.b) ?_ 9 8 _ ⟨rfl,kP 0,h.1,by simp,rfl,rfl⟩ (by omega);rintro n ⟨t,i,k,l,b,u⟩ rec ⟨B,g,v,j,w,z⟩ f;dsimp only at B g v j w z ⊢;subst z;have a:zba ⟨c.b,i,k⟩:=zbE h v;have d:=zfi a (n:=7) (by omega);have A:=zhP (x:=2) (by omega) (by omega) d.1 (by omega);have m:zba {zf ⟨c.b,i,k⟩ 7 with b:=c.b}:=zbE h (zB _ _);have e:∀(y:Ins),zeV y=true->2<=t->zdR (ap l [y])=true:=(by intro y C D;unfold zdR;rw[zfR,w];have:(ap l [y]).all zeV=true:=(by simp only[ap,List.all_append,k9,List.all_nil,vI,qE];exact⟨qO.2 j,C⟩);rw[this,cT];simp only[zl,ige,ile,qE,jA];omega);refine zo (zbp a 7) (zbt (λp=>?_) λp=>?_);{have r:t<zM .i64 2 (zk ⟨c.b,i,k⟩ 7):=qF p;rw[A]at r;refine zo (zRM m) (zo (zhS (by rw[zfR];omega))<|f (n-1) _ (by omega) ⟨?_,?_,zzH _,?_,?_,rfl⟩);{show zM .i64 t 1+_=8;rw[zhP g (by omega) (by omega) (by omega)];omega};{show 0<=zM .i64 t 1;rw[zhP g (by omega) (by omega) (by omega)];omega};{intro x d;rcases jH.1 d with d|d;{exact j x d};{rw [qD.1 d];exact(zLu<|zRM m).2.2}};{show ln (ap l [_])=zM .i64 t 1;rw[zfR,zhP g (by omega) (by omega) (by omega)];omega}};{have q:¬ t<zM .i64 2 (zk ⟨c.b,i,k⟩ 7):=jV p;rw[A]at q;refine zo (zhW m 3) (zbt (λ_=>zo (zhS (by rw[zfR];omega)) (zby (aS .ins) (zb0 _ _) (e _ rfl (by omega)))) λ_=>zo (zhS (by rw[zfR];omega)) (zby (aS .ins) (zb0 _ _) (e _ rfl (by omega))))}
def z6H:zcT:=[(363,[false,true,true],zxM)]++z6G
def zT6:zb2 z6H:=zce zT5 (by
 intro x a;simp only[qG,qN,or_false]at a;rcases a with rfl
 .exact zKh)
def zVn {f:Type}{c:Cur}(h:zba c){P:f->Prop}{fc:Cur->Bool}{fs:Cur->Cur}{fv:Cur->f}(C:∀{c:Cur},zba c->fc c=true)(D:∀c,0<=(fs c).i)(hg:∀{c:Cur},zba c->P (fv c)){G:Ans->Prop}{R:Cur->List f->Ans}(B:∀s l,s.b=c.b->0<=s.i->1<=l.length->l.length<=2->(∀x∈l,P x)->G (R s l)){F:(Int×Int×Int×List f×LI×Unit->OA)->Int×Int×Int×List f×LI×Unit->OA}(A:∀rec t i k l,F rec (t,i,k,l,c.b,())=bif zu ⟨c.b,i,k⟩ 2 then (bif ilt t (zM .i64 1 (zk ⟨c.b,i,k⟩ 2)) then (bif fc { zf ⟨c.b,i,k⟩ 2 with b:=c.b } then (bif few (ln (ap l [fv { zf ⟨c.b,i,k⟩ 2 with b:=c.b }])) then
        rec (zM .i64 t 1,(fs {zf ⟨c.b,i,k⟩ 2 with b:=c.b}).i,(fs {zf ⟨c.b,i,k⟩ 2 with b:=c.b}).h,ap l [fv {zf ⟨c.b,i,k⟩ 2 with b:=c.b}],c.b,()) else none) else none) else some (R ⟨c.b,(zf ⟨c.b,i,k⟩ 2).i,(zf ⟨c.b,i,k⟩ 2).h⟩ l)) else none) :
 Ends G (iter 3 F (0,c.i,c.h,[],c.b,())):=by
 refine zke (fun n s=>s.1+(n:Int)=2/\0<=s.1/\0<=s.2.1/\(∀x∈s.2.2.2.1,P x)/\ln s.2.2.2.1=s.1/\s.2.2.2.2.1=c.b) ?_ 3 2 _ ⟨rfl,kP 0,h.1,by simp,rfl,rfl⟩ (by omega)
 rintro n ⟨t,i,k,l,b,u⟩ rec ⟨z,m,p,g,q,r⟩ e
 dsimp only at z m p g q r
 subst r;rw[A];have a:zba ⟨c.b,i,k⟩:=zbE h p;have d:=zfi a (n:=2) (by omega)
 have w:=zhP (x:=1) (by omega) (by omega) d.1 (by omega)
 have v:zba {zf ⟨c.b,i,k⟩ 2 with b:=c.b}:=zbE h (zB _ _);refine zo (zbp a 2) (zbt (fun j=>?_) (fun j=>?_))
 .have hlt:t<zM .i64 1 (zk ⟨c.b,i,k⟩ 2):=qF j;rw[w]at hlt;have E:=zhP (y:=1) m (by omega) (by omega) (by omega)
  refine zo (C v) (zo (zhS (by rw[zfR];omega)) (e (n-1) _ (by omega) ⟨?_,?_,D _,?_,?_,rfl⟩))
  .show zM .i64 t 1+_=2
   omega
  .show 0<=zM .i64 t 1
   omega
  .intro x d;rcases jH.1 d with d|d
   .exact g x d
   .rw [qD.1 d];exact hg v
  .show ln (ap l [_])=zM .i64 t 1
   rw[zfR];omega
 .have hge:¬ t<zM .i64 1 (zk ⟨c.b,i,k⟩ 2):=jV j;rw[w]at hge;unfold ln at q;exact ztJ (B _ l rfl (zB _ _) (by omega) (by omega) g)
def ztz (N:Nat)(c:Cur)  : OA :=
 (iter (σ:=(Int×Int×Int×lP×LI×Unit)) N (λg a=>let f:=a.2.2.2.2.1;let e:=(⟨f,a.2.1,a.2.2.1⟩:Cur);let d:=({ (zf e 2) with b:=f}:Cur); (oN (zu e 2)<|cond (ilt a.1<|zM .i64 1<|zk e 2) (oN (zhC d)<|oN (few<|ln<|ap a.2.2.2.1 [zb4 d])<|g (zM .i64 a.1 1,(zbb d).i,(zbb d).h,ap a.2.2.2.1 [zb4 d],f,()))<|some [.agg [.s .u8 f,.i .i64 (zf e 2).i,.i .i64 (zf e 2).h],aS (.sl .ins) a.2.2.2.1])) (0,c.i,c.h,[],c.b,()))
def zOw:=zA [(187,0,{n:=19,tm:=[(0,.lp 0 0),(3,.sl 0 []),(4,ti)],lo:=[(0,[.sl 1 [],ti,ti])],ro:=[(0,.sl .ins,true),(1,.u8,false)]})]
def znm (c:Cur)(s:Cur)(a:List (List Ins)):Prop:=(∃N,ztz N c=some (AV.agg (zbT s)::[aS (.sl .ins) a]))/\(s.b=c.b/\0<=s.i)/\(1<=a.length/\a.length<=2/\∀x∈a,zdR x=true)
def zjt (c:Cur)  : Bool:=wC (znm c)
def zju (c:Cur)  : Cur:=wS (znm c)
def zpr (c:Cur)  : List (List Ins):=wV (znm c)
def zDu {c:Cur}(h:zjt c=true):znm c (zju c) (zpr c):=wG h
def zUB (c:Cur)  : 0<=(zju c).i:=wP λh=>h.2.1.2
def zUA (c:Cur)(h:∃N,Ends (wE (λa=>aS (.sl .ins) a) c.b λa=>1<=a.length/\a.length<=2/\∀x∈a,zdR x=true)<|ztz N c):zjt c=true:=wI (λ_ _ h=>h) h
def zvD:zdB:=rP0 λc=>(zjt c,zju c,[aS (.sl .ins)<|zpr c])
def zHJ:zbP Tryz.prog 187 [false,true,true] zvD:=hP0 zdV zN zT6 zq zOw (λ_ h=>(zDu h).1)
def zXr {c:Cur}(h:zba c):zjt c=true:=by
 refine zUA c ⟨3,?_⟩;unfold ztz oN;conv=>zeta
 exact zVn h (P:=λx=>zdR x=true) (fc:=zhC) (fs:=zbb) (fv:=zb4) (R:=λs l=>AV.agg (zbT s)::[aS (.sl .ins) l]) zC1 ziT (λh=>(zrg<|zC1 h).2.2) (λs l d e a b f=>⟨s,l,rfl,⟨d,e⟩,a,b,f⟩) (λrec t i k l=>rfl)
def z6I:zcT:=[(187,[false,true,true],zvD)]++z6H
def zT7:zb2 z6I:=zce zT6 (by
 intro x a;simp only[qG,qN,or_false]at a;rcases a with rfl
 .exact zHJ)
def zyB (N:Nat)(c:Cur)  : OA :=
 (iter (σ:=(Int×Int×Int×lQ×LI×Unit)) N (λg a=>let f:=a.2.2.2.2.1;let e:=(⟨f,a.2.1,a.2.2.1⟩:Cur);let d:=({ (zf e 2) with b:=f}:Cur); (oN (zu e 2)<|cond (ilt a.1<|zM .i64 1<|zk e 2) (oN (zjt d)<|oN (few<|ln<|ap a.2.2.2.1 [zpr d])<|g (zM .i64 a.1 1,(zju d).i,(zju d).h,ap a.2.2.2.1 [zpr d],f,()))<|some [.agg [.s .u8 f,.i .i64 (zf e 2).i,.i .i64 (zf e 2).h],aS (.sl<|.sl .ins) a.2.2.2.1])) (0,c.i,c.h,[],c.b,()))
def zVh:=zA [(186,0,{n:=19,tm:=[(0,.lp 0 0),(3,.sl 0 []),(4,ti)],lo:=[(0,[.sl 1 [],ti,ti])],ro:=[(0,.sl<|.sl .ins,true),(1,.u8,false)]})]
def zrm (c:Cur)(s:Cur)(a:List (List<|List Ins)):Prop:=(∃N,zyB N c=some (AV.agg (zbT s)::[aS (.sl<|.sl .ins) a]))/\(s.b=c.b/\0<=s.i)/\(1<=a.length/\a.length<=2/\∀p∈a,1<=p.length/\p.length<=2/\∀x∈p,zdR x=true)
def zps (c:Cur)  : Bool:=wC (zrm c)
def zmp (c:Cur)  : Cur:=wS (zrm c)
def zuG (c:Cur)  : List (List<|List Ins):=wV (zrm c)
def zLx {c:Cur}(h:zps c=true):zrm c (zmp c) (zuG c):=wG h
def zZw (c:Cur)  : 0<=(zmp c).i:=wP λh=>h.2.1.2
def zZv (c:Cur)(h:∃N,Ends (wE (λa=>aS (.sl<|.sl .ins) a) c.b λa=>1<=a.length/\a.length<=2/\∀p∈a,1<=p.length/\p.length<=2/\∀x∈p,zdR x=true)<|zyB N c):zps c=true:=wI (λ_ _ h=>h) h
def zAt:zdB:=rP0 λc=>(zps c,zmp c,[aS (.sl<|.sl .ins)<|zuG c])
def zNb:zbP Tryz.prog 186 [false,true,true] zAt:=hP0 zdV zN zT7 zq zVh (λ_ h=>(zLx h).1)
def z5i {c:Cur}(h:zba c):zps c=true:=by
 refine zZv c ⟨3,?_⟩;unfold zyB oN;conv=>zeta
 exact zVn h (P:=λp=>1<=p.length/\p.length<=2/\∀x∈p,zdR x=true) (fc:=zjt) (fs:=zju) (fv:=zpr) (R:=λs l=>AV.agg (zbT s)::[aS (.sl<|.sl .ins) l]) zXr zUB (λh=>(zDu<|zXr h).2.2) (λs l d e a b f=>⟨s,l,rfl,⟨d,e⟩,a,b,f⟩) (λrec t i k l=>rfl)
def z6J:zcT:=[(186,[false,true,true],zAt)]++z6I
def zT8:zb2 z6J:=zce zT7 (by
 intro x a;simp only[qG,qN,or_false]at a;rcases a with rfl
 .exact zNb)
def zDT {c:Type}{G:c->Prop}{x:Bool}{a b:Option c}(k:Ends G a)(h:x=true:=by first
 |exact zbp (by first|assumption|exact zbE (by assumption) (zB _ _)|exact zbE (by assumption) (zb0 _ _)|exact zbE (by assumption) (zbW _ _)) _
 |exact zhW (by first|assumption|exact zbE (by assumption) (zB _ _)|exact zbE (by assumption) (zb0 _ _)) _
 |exact ze8 (by first|assumption|exact zbE (by assumption) (zB _ _)) (by simp)):Ends G (cond x a b):=zo h k
def zyx (N:Nat)(c:Cur)  : OA :=
 let f:=zk c 4;let j:=({ (zf c 4) with b:=c.b}:Cur);let e:=zcQ j 4;let d:=zO j 4;let a:=({d with b:=c.b}:Cur);let g:=({ (zO a 2) with b:=c.b}:Cur); (oN (zu c 4)<|oN (zcv j 4)<|cond (nB e) (cond (ine f 2) (oN (zcv a 2)<|cond (zcQ a 2) (oN (zu g 256)<|some [.agg [.s .u8 c.b,.i .i64 (zf g 256).i,.i .i64 (zf g 256).h],.agg [.i .i64 f,.i .i64<|zk g 256,.b<|nB e]])<|some [.agg [.s .u8 c.b,.i .i64 (zO a 2).i,.i .i64 (zO a 2).h],.agg [.i .i64 f,.i .i64 0,.b<|nB e]])<|some [.agg [.s .u8 c.b,.i .i64 d.i,.i .i64 d.h],.agg [.i .i64 f,.i .i64 0,.b<|nB e]])<|some [.agg [.s .u8 c.b,.i .i64 d.i,.i .i64 d.h],.agg [.i .i64 f,.i .i64 0,.b<|nB e]])
def zri (c:Cur)(s:Cur)(a:Ctl):Prop:=(∃N,zyx N c=some (AV.agg (zbT s)::[.agg<|zog a]))/\(s.b=c.b/\0<=s.i)/\(True)
def zj2 (c:Cur)  : Bool:=wC (zri c)
def zcg (c:Cur)  : Cur:=wS (zri c)
def zcA (c:Cur)  : Ctl:=wV (zri c)
def zZn {c:Cur}(h:zj2 c=true):zri c (zcg c) (zcA c):=wG h
def zzJ (c:Cur)  : 0<=(zcg c).i:=wP λh=>h.2.1.2
def zZo (c:Cur)(h:∃N,Ends (wE (λa=>.agg (zog a)) c.b λa=>True)<|zyx N c):zj2 c=true:=wI (λ_ _ h=>h) h
def zAp:zdB:=rP0 λc=>(zj2 c,zcg c,[.agg<|zog<|zcA c])
def zM7:zbP Tryz.prog 413 [false,true,true] zAp:=hP0 zdV zN zT8 zq (zA []) (λ_ h=>(zZn h).1)
def zX6 {c:Cur}(h:zba c):zj2 c=true:=by
 refine zZo c ⟨0,?_⟩;unfold zyx oN nB;conv=>zeta
 refine zDT (zDT<|zbt (λ_=>zbt (λ_=>zDT (zbt (λ_=>zDT (?_)) λ_=>?_)) λ_=>?_) λ_=>?_);all_goals exact zby (λx=>AV.agg (zog x)) (v:=⟨_,_,_⟩) (by first|exact zB _ _|exact zb0 _ _) trivial
def z6K:zcT:=[(413,[false,true,true],zAp)]++z6J
def zH9:zb2 z6K:=zce zT8 (by
 intro x a;simp only[qG,qN,or_false]at a;rcases a with rfl
 .exact zM7)
def zd9 {c:Type}{G:c->Prop}{x:Bool}{a b:Option c}(k:Ends G a)(h:x=true:=by first
 |exact zbp (by first|assumption|exact zbE (by assumption) (zB _ _)|exact zbE (by assumption) (zbW _ _)) _
 |exact ze8 (by first|assumption|exact zbE (by assumption) (zB _ _)) (by simp)
 |exact zX6 (zbE (by assumption)<|zB _ _)):Ends G (cond x a b):=zo h k
def zyE (N:Nat)(c:Cur)  : OA :=
 let m:=({ (zf c 2) with b:=c.b}:Cur);let g:=zk c 2;let f:=zk m 2;let u:=({ (zf m 2) with b:=c.b}:Cur);let e:=zf u 24;let d:=zk u 24;let a:=({e with b:=c.b}:Cur);let j:=zf a 8;let l:=({ (zf a 4) with b:=c.b}:Cur);let k:=({j with b:=c.b}:Cur);let t:=({ (zf a 16) with b:=c.b}:Cur);let r:=({ (zZ a [16,17]) with b:=c.b}:Cur);let q:=({ (zZ a [13,13,14,15]) with b:=c.b}:Cur);let p:=({ (zf k 4) with b:=c.b}:Cur);let n:=({ (zf l 8) with b:=c.b}:Cur); (p0 (oN (zbq a [13,13,14,15])<|oN (zu q 8)<|some [.agg [.s .u8 c.b,.i .i64 (zf q 8).i,.i .i64 (zf q 8).h],.agg [.i .i64<|zbk a [13,13,14,15],.i .i64 g,.i .i64 f,.i .i64<|zk q 8,.i .i64 0,.i .i64 0]]) λA=>p0 (cond (ieq d 16) (oN (zbq a [16,17])<|oN (zu r 4)<|some [.agg [.s .u8 c.b,.i .i64 (zf r 4).i,.i .i64 (zf r 4).h],.agg [.i .i64<|zbk a [16,17],.i .i64 g,.i .i64 f,.i .i64<|zk r 4,.i .i64 0,.i .i64 0]])<|some [.agg [.s .u8 c.b,.i .i64 e.i,.i .i64 e.h],.agg [.i .i64 1,.i .i64 g,.i .i64 f,.i .i64 0,.i .i64 0,.i .i64 0]]) λz=>p0 (oN (zu a 4)<|oN (zu l 8)<|oN (zbq n [3,3,1,2])<|some [.agg [.s .u8 c.b,.i .i64 (zZ n [3,3,1,2]).i,.i .i64 (zZ n [3,3,1,2]).h],.agg [.i .i64 2,.i .i64 g,.i .i64 f,.i .i64<|zk a 4,.i .i64<|zk l 8,.i .i64<|zbk n [3,3,1,2]]]) λy=>p0 (oN (zu a 4)<|some [.agg [.s .u8 c.b,.i .i64 (zf a 4).i,.i .i64 (zf a 4).h],.agg [.i .i64 3,.i .i64 g,.i .i64 f,.i .i64<|zk a 4,.i .i64 0,.i .i64 0]]) λx=>p0 (cond (ieq d 7) (oN (zu a 8)<|some [.agg [.s .u8 c.b,.i .i64 j.i,.i .i64 j.h],.agg [.i .i64 6,.i .i64 g,.i .i64 f,.i .i64<|zk a 8,.i .i64 0,.i .i64 0]])<|cond (ieq d 8) (oN (zj2 a)<|cond ((zcA a).Open) (some [.agg [.s .u8 c.b,.i .i64 (zcg a).i,.i .i64 (zcg a).h],.agg [.i .i64 7,.i .i64 g,.i .i64 f,.i .i64 (zcA a).aq,.i .i64 (zcA a).Post,.i .i64 1]])<|some [.agg [.s .u8 c.b,.i .i64 (zcg a).i,.i .i64 (zcg a).h],.agg [.i .i64 7,.i .i64 g,.i .i64 f,.i .i64 (zcA a).aq,.i .i64 (zcA a).Post,.i .i64 0]])<|cond (ieq d 9) (oN (zu a 8)<|oN (zu k 4)<|oN (zu p 100)<|some [.agg [.s .u8 c.b,.i .i64 (zf p 100).i,.i .i64 (zf p 100).h],.agg [.i .i64 8,.i .i64 g,.i .i64 f,.i .i64<|zk a 8,.i .i64<|zk k 4,.i .i64<|zk p 100]])<|cond (ieq d 10) (oN (zu a 8)<|some [.agg [.s .u8 c.b,.i .i64 j.i,.i .i64 j.h],.agg [.i .i64 9,.i .i64 g,.i .i64 f,.i .i64<|zk a 8,.i .i64 0,.i .i64 0]])<|cond (ieq d 11) (some [.agg [.s .u8 c.b,.i .i64 e.i,.i .i64 e.h],.agg [.i .i64 10,.i .i64 g,.i .i64 f,.i .i64 0,.i .i64 0,.i .i64 0]])<|cond (ieq d 12) (oN (zu a 16)<|oN (zu t 100)<|some [.agg [.s .u8 c.b,.i .i64 (zf t 100).i,.i .i64 (zf t 100).h],.agg [.i .i64 11,.i .i64 g,.i .i64 f,.i .i64<|zk a 16,.i .i64<|zk t 100,.i .i64 0]])<|cond (ieq d 13) (oN (zu a 16)<|some [.agg [.s .u8 c.b,.i .i64 (zf a 16).i,.i .i64 (zf a 16).h],.agg [.i .i64 12,.i .i64 g,.i .i64 f,.i .i64<|zk a 16,.i .i64 0,.i .i64 0]])<|cond (ieq d 14) (cond (ieq d 14) A z)<|cond (ieq d 15) A z) λv=>p0 (cond (ieq d 4) (oN (zu a 100)<|some [.agg [.s .u8 c.b,.i .i64 (zf a 100).i,.i .i64 (zf a 100).h],.agg [.i .i64 4,.i .i64 g,.i .i64 f,.i .i64<|zk a 100,.i .i64 0,.i .i64 0]])<|cond (ieq d 5) (cond (ieq d 5) (some [.agg [.s .u8 c.b,.i .i64 e.i,.i .i64 e.h],.agg [.i .i64 5,.i .i64 g,.i .i64 f,.i .i64 0,.i .i64 0,.i .i64 0]]) v)<|cond (ieq d 6) (some [.agg [.s .u8 c.b,.i .i64 e.i,.i .i64 e.h],.agg [.i .i64 5,.i .i64 g,.i .i64 f,.i .i64 0,.i .i64 0,.i .i64 0]]) v) λw=>p0 (cond (ieq d 2) (cond (ieq d 2) x w)<|cond (ieq d 3) x w) λB=>oN (zu c 2)<|oN (zu m 2)<|oN (zu u 24)<|cond (ieq d 0) (cond (ieq d 0) y B)<|cond (ieq d 1) y B)
def zrr (c:Cur)(s:Cur)(a:GAct):Prop:=(∃N,zyE N c=some (AV.agg (zbT s)::[aT .act a]))/\(s.b=c.b/\0<=s.i)/\(True)
def ziI (c:Cur)  : Bool:=wC (zrr c)
def zgQ (c:Cur)  : Cur:=wS (zrr c)
def znH (c:Cur)  : GAct:=wV (zrr c)
def zZy {c:Cur}(h:ziI c=true):zrr c (zgQ c) (znH c):=wG h
def zZA (c:Cur)  : 0<=(zgQ c).i:=wP λh=>h.2.1.2
def zZz (c:Cur)(h:∃N,Ends (wE (λa=>aT .act a) c.b λa=>True)<|zyE N c):ziI c=true:=wI (λ_ _ h=>h) h
def zAv:zdB:=rP0 λc=>(ziI c,zgQ c,[aT .act<|znH c])
def zNg:zbP Tryz.prog 299 [false,true,true] zAv:=hP0 zdV zN zH9 zq (zA []) (λ_ h=>(zZy h).1)
def zbah {c:Cur}(h:zba c):ziI c=true:=by
 refine zZz c ⟨0,?_⟩;unfold zyE oN;conv=>zeta
 refine zns (zd9<|zd9<|?_) (λ_ g=>zns (zbt (λ_=>zd9 (zd9<|?_)) λ_=>?_) λ_ f=>zns (zd9<|zd9<|zd9<|?_) λ_ e=>zns (zd9<|?_) λ_ d=>zns (zbt (λ_=>zd9 (?_)) λ_=>zbt (λ_=>zd9 (zbt (λ_=>?_) λ_=>?_)) λ_=>zbt (λ_=>zd9 (zd9<|zd9<|?_)) λ_=>zbt (λ_=>zd9 (?_)) λ_=>zbt (λ_=>?_) λ_=>zbt (λ_=>zd9 (zd9<|?_)) λ_=>zbt (λ_=>zd9 (?_)) λ_=>zbt (λ_=>zbt (λ_=>g) λ_=>f) λ_=>zbt (λ_=>g) λ_=>f) λ_ a=>zns (zbt (λ_=>zd9 (?_)) λ_=>zbt (λ_=>zbt (λ_=>?_) λ_=>a) λ_=>zbt (λ_=>?_) λ_=>a) λ_ b=>zns (zbt (λ_=>zbt (λ_=>d) λ_=>b) λ_=>zbt (λ_=>d) λ_=>b) λ_ i=>zd9 (zd9<|zd9<|zbt (λ_=>zbt (λ_=>e) λ_=>i) λ_=>zbt (λ_=>e) λ_=>i));all_goals exact zby (aT .act) (v:=⟨_,_,_,_,_,_⟩) (by first|exact zB _ _|exact zbW _ _|exact zzJ _) trivial
def zk1 (N:Nat)  : OA :=
 (iter (σ:=(Int×lA×Unit)) N (λe c=>cond (ilt c.1 2) (iter (σ:=(Int×Int×lA×Unit)) N (λf b=>cond (ilt b.2.1 2) (iter (σ:=(Int×Int×Int×lA×Unit)) N (λg a=>let d:=ap a.2.2.2.1 [(⟨2,a.1,a.2.1,a.2.2.1,zM .i64 a.2.2.1<|zkS .i64 3 a.2.1,3⟩:GAct),(⟨3,a.1,a.2.1,a.2.2.1,0,0⟩:GAct)]; (cond (ilt a.2.2.1 3) (oN (few<|ln d)<|g (a.1,a.2.1,zM .i64 a.2.2.1 1,d,()))<|f (a.1,zM .i64 a.2.1 1,a.2.2.2.1,()))) (b.1,b.2.1,0,b.2.2.1,()))<|e (zM .i64 b.1 1,b.2.2.1,())) (c.1,0,c.2.1,()))<|some [aS .act c.2.1]) (0,[],()))
def zOx:=zA [(390,0,{n:=34,tm:=[(1,.sl 0 []),(2,ti)],lo:=[],ro:=[(0,.act,true)]}),(390,2,{n:=34,tm:=[(1,.sl 0 []),(2,ti),(3,ti)],lo:=[],ro:=[(0,.act,true)]}),(390,4,{n:=34,tm:=[(1,.sl 0 []),(2,ti),(3,ti),(4,ti)],lo:=[],ro:=[(0,.act,true)]})]
def zsv  (a:List GAct):Prop:=(∃N,zk1 N=some [aS .act a])/\(a.length<=45)
def zjw  : Bool:=uC (T:=List GAct) (λr=>zsv r)
def zUE  : List GAct:=uV (λr=>zsv r)
def ztd  : List GAct:=(zUE)
def zDv  (h:zjw=true):zsv ztd:=uG h
def zUD  (h:∃N,Ends (λa=>∃b,a=[aS .act b]/\(b.length<=45))<|zk1 N):zjw=true:=by obtain⟨N,a,e,b,rfl,h⟩:=h;exact zY ⟨b,⟨N,e⟩,h⟩
def zx8:Run:=rF0 (zjw,[aS .act ztd])
def zNR  (a:zjw=true):∃N,zk1 N  = some [aS .act ztd]:=by exact(zDv a).1
def zHK:vT 390 zx8:=kF0 zdV zN zH9 zq zOx zNR
def zZ7:List GAct:=match zk1 10 with
 |some [.one<|.s .act l]=>l
 |_=>[]
def zWT:zjw=true:=zUD ⟨10,_,(by kernel_rfl:zk1 10=some [aS .act zZ7]),zZ7,rfl,Nat.le_of_ble_eq_true (by kernel_rfl)⟩
def z6L:zcT:=[(299,[false,true,true],zAv)]++z6K
def zT9:zb2 z6L:=zce zH9 (by
 intro x a;simp only[qG,qN,or_false]at a;rcases a with rfl
 .exact zNg)
def z9z:zW:=[(390,zx8)]++zMl
def z0c:zL z9z:=zh zHK zdV
def zPH {c:Cur}(h:zba c){m:Int}(e:0<=m)(J:m<=1000){G:Ans->Prop}{R:Cur->List GAct->Ans}(D:∀s l,s.b=c.b->0<=s.i->ln l<=45+m->G (R s l)){F:(Int×Int×Int×Int×List GAct×LI×Unit->OA)->Int×Int×Int×Int×List GAct×LI×Unit->OA}(C:∀rec t i k l,F rec (m,t,i,k,l,c.b,())=bif zu ⟨c.b,i,k⟩ (zM .i64 m 1) then (bif ilt t (zk ⟨c.b,i,k⟩ (zM .i64 m 1)) then (bif ziI { zf ⟨c.b,i,k⟩ (zM .i64 m 1) with b:=c.b } then (bif few (ln (ap l [znH { zf ⟨c.b,i,k⟩ (zM .i64 m 1) with b:=c.b }])) then
        rec (m,zM .i64 t 1,(zgQ {zf ⟨c.b,i,k⟩ (zM .i64 m 1) with b:=c.b}).i,(zgQ {zf ⟨c.b,i,k⟩ (zM .i64 m 1) with b:=c.b}).h,ap l [znH {zf ⟨c.b,i,k⟩ (zM .i64 m 1) with b:=c.b}],c.b,()) else none) else none) else some (R ⟨c.b,(zf ⟨c.b,i,k⟩ (zM .i64 m 1)).i,(zf ⟨c.b,i,k⟩ (zM .i64 m 1)).h⟩ l)) else none){w I:Int}(f:0<=w){g:List GAct}(E:g.length<=45):Ends G (iter 1002 F (m,0,w,I,g,c.b,())):=by
 refine zke (fun n s=>s.1=m/\s.2.1+(n:Int)=1000/\0<=s.2.1/\0<=s.2.2.1/\(ln s.2.2.2.2.1<=45+s.2.1/\s.2.1<=m)/\s.2.2.2.2.2.1=c.b) ?_ 1002 1000 _ ⟨rfl,rfl,kP 0,f,⟨by unfold ln;show ((g.length:Nat):Int)<=45+0;omega,e⟩,rfl⟩ (by omega)
 rintro n ⟨q,t,i,k,l,b,u⟩ rec ⟨e,z,j,p,⟨A,H⟩,r⟩ d
 dsimp only at e z j p A r H
 subst r;subst e;rw[C];have a:zba ⟨c.b,i,k⟩:=zbE h p;have L:=zhP (x:=q) (y:=1) (by omega) (by omega) (by omega) (by omega)
 have M:=zfi a (n:=zM .i64 q 1) (by omega)
 have B:zba {zf ⟨c.b,i,k⟩ (zM .i64 q 1) with b:=c.b}:=zbE h (zB _ _);refine zo (zbp a _) (zbt (fun v=>?_) (fun v=>?_))
 .have hlt:t<zk ⟨c.b,i,k⟩ (zM .i64 q 1):=qF v;have K:=zhP (y:=1) j (by omega) (by omega) (by omega)
  refine zo (zbah B) (zo (zhS (by rw[zfR];omega)) (d (n-1) _ (by omega) ⟨rfl,?_,?_,zZA _,⟨?_,?_⟩,rfl⟩))
  .show zM .i64 t 1+_=1000
   omega
  .show 0<=zM .i64 t 1
   omega
  .show ln (ap l [_])<=45+zM .i64 t 1
   rw[zfR];omega
  .show zM .i64 t 1<=q
   omega
 .refine ztJ (D _ l rfl (zB _ _) ?_);omega
def zwq (N:Nat)(c:Cur)(p:Int):OA:=
 (oN (zcv c 5)<|cond (nB<|zcQ c 5) (oN zjw<|iter (σ:=(Int×Int×Int×Int×lA×LI×Unit)) N (λn a=>let l:=a.2.2.2.2.2.1;let f:=zM .i64 a.1 1;let d:=(⟨l,a.2.2.1,a.2.2.2.1⟩:Cur);let j:=({ (zf d f) with b:=l}:Cur);let q:=ap a.2.2.2.2.1 [znH j]; (oN (zu d f)<|cond (ilt a.2.1<|zk d f) (oN (ziI j)<|oN (few<|ln q)<|n (a.1,zM .i64 a.2.1 1,(zgQ j).i,(zgQ j).h,q,l,()))<|some [.agg [.s .u8 l,.i .i64 (zf d f).i,.i .i64 (zf d f).h],aS .act a.2.2.2.2.1])) (p,0,(zO c 5).i,(zO c 5).h,ztd,c.b,()))<|iter (σ:=(Int×Int×Int×Int×lA×LI×Unit)) N (λn a=>let m:=a.2.2.2.2.2.1;let g:=zM .i64 a.1 1;let e:=(⟨m,a.2.2.1,a.2.2.2.1⟩:Cur);let k:=({ (zf e g) with b:=m}:Cur);let r:=ap a.2.2.2.2.1 [znH k]; (oN (zu e g)<|cond (ilt a.2.1<|zk e g) (oN (ziI k)<|oN (few<|ln r)<|n (a.1,zM .i64 a.2.1 1,(zgQ k).i,(zgQ k).h,r,m,()))<|some [.agg [.s .u8 m,.i .i64 (zf e g).i,.i .i64 (zf e g).h],aS .act a.2.2.2.2.1])) (p,0,(zO c 5).i,(zO c 5).h,[],c.b,()))
def zRF:=zA [(236,0,{n:=26,tm:=[(0,.lp 0 0),(1,ti),(5,.sl 0 []),(6,ti)],lo:=[(0,[.sl 1 [],ti,ti])],ro:=[(0,.act,true),(1,.u8,false)]})]
def zpu (c:Cur)(a:Int)(s:Cur)(d:List GAct):Prop:=(∃N,zwq N c a=some (AV.agg (zbT s)::[aS .act d]))/\(s.b=c.b/\0<=s.i)/\(ln d<=45+a)
def zm0 (c:Cur)(a:Int):Bool:=wC (zpu c a)
def zm1 (c:Cur)(a:Int):Cur:=wS (zpu c a)
def zr2 (c:Cur)(a:Int):List GAct:=wV (zpu c a)
def zGw {c:Cur}{a:Int}(h:zm0 c a=true):zpu c a (zm1 c a) (zr2 c a):=wG h
def zWA (c:Cur)(a:Int):0<=(zm1 c a).i:=wP λh=>h.2.1.2
def zWz (c:Cur)(a:Int)(h:∃N,Ends (wE (λd=>aS .act d) c.b λd=>ln d<=45+a)<|zwq N c a):zm0 c a=true:=wI (λ_ _ h=>h) h
def zxR:zdB:=rP1 dI λc b=>(zm0 c b,zm1 c b,[aS .act<|zr2 c b])
def zKw:zbP Tryz.prog 236 [false,true,true] zxR:=hP1 z0c zN zT9 zq zRF (λ_ _ h=>(zGw h).1)
def zZZ {c:Cur}(h:zba c){m:Int}(e:0<=m)(f:m<=1000):zm0 c m=true:=by
 refine zWz c m ⟨1002,?_⟩;unfold zwq oN nB;conv=>zeta
 have g:=zDv zWT;exact zo (zhW h 5) (zbt (λ_=>zo zWT (zPH h e f (R:=λs l=>AV.agg (zbT s)::[aS .act l]) (λs l a b d=>⟨s,l,rfl,⟨a,b⟩,d⟩) (λrec t i k l=>rfl) (zb0 _ _) g.2)) λ_=>zPH h e f (R:=λs l=>AV.agg (zbT s)::[aS .act l]) (λs l a b d=>⟨s,l,rfl,⟨a,b⟩,d⟩) (λrec t i k l=>rfl) (zb0 _ _) (kA _))
def z6M:zcT:=[(236,[false,true,true],zxR)]++z6L
def zUa:zb2 z6M:=zce zT9 (by
 intro x a;simp only[qG,qN,or_false]at a;rcases a with rfl
 .exact zKw)
@[simp] abbrev zmC (l:List LI):Bool:=pc (SmM l)
@[simp] abbrev ziu (l:List LI):List LI:=l
def zAx:Run:=rF1 (dS<|.sl .int) λb=>(zmC b,[aS (.sl .int)<|ziu b])
def zFg (N:Nat)(c:lM):OA:=
 (iter (σ:=(Int×Int×lM×lM×Unit)) N (λd a=>let b:=ix a.2.2.2.1 a.2.1 []; (cond (ilt a.2.1 a.1) (oN (inb a.2.1<|ln a.2.2.2.1)<|oN (zd5 b)<|oN (few<|ln<|ap a.2.2.1 [zdZ b])<|d (a.1,zM .i64 a.2.1 1,ap a.2.2.1 [zdZ b],a.2.2.2.1,()))<|some [aS (.sl .int) a.2.2.1])) (ln c,0,[],c,()))
def zRt:=zA [(238,0,{n:=20,tm:=[(3,.sl 0 []),(7,.sl 1 []),(8,ti),(9,ti)],lo:=[],ro:=[(0,.sl .int,true),(1,.sl .int,false)]})]
def zQC (a:List LI)(g:zmC a=true):∃N,zFg N a=some [aS (.sl .int)<|ziu a]:=by
 have f:=zT.1 g;have e:=zcO f.1;refine zcI λN d=>?_;unfold zFg oN;conv=>zeta
 refine(zbJ a (λi (t:lM)=>(ln a,(i:Int),t,a,())) _ (λ_ x b j=>bif zd5 x then (cond (few<|ln<|ap b [zdZ x]) (j<|ap b [zdZ x]) none) else none) (λ(t:lM)=>some [.one<|.s (.sl .int) t]) (λi c t rec=>?_) (λt rec=>?_) _ ([])<|d e.1).trans ?_;{simp only [zbK c,zbc c,zbr c,zbx c e.1,cT]};{simp only [zbw,cF]};exact zk5 zd5 zdZ _ a 0 [] (λx h=>⟨by exact zY (qS (f.2 x h) (by decide)),rfl⟩) (by simpa using e.2)
def zJQ:vT 238 zAx:=kF1 zla zJ zC zq zRt zQC
@[simp] abbrev zbj (g:ah):Bool:=pc (SmG g)
@[simp] abbrev zgC (g:ah):ah:=g
def zvI:Run:=rF1 (dT .guest) λb=>(zbj b,[aT .guest<|zgC b])
def zzY (N:Nat)(a:ah):OA:=
 (oN (zt0 a.ax)<|oN (zhe a.aA)<|oN (zhe a.aw)<|oN (zd5 a.aD)<|some [aT .guest ({a with ax:=(zop a.ax),aA:=(zfy a.aA),aw:=(zfy a.aw),aD:=(zdZ a.aD)}:ah)])
def zKG (a:ah)(b:zbj a=true):∃N,zzY N a=some [aT .guest<|zgC a]:=by have c:=zT.1 b;obtain⟨h,i,j,k⟩:=c;have d:a.ax.length<=2147483648:=(by omega);have e:a.aA.length<=2147483648:=(by omega);have f:a.aw.length<=2147483648:=(by omega);have g:a.aD.length<=2147483648:=(by omega);refine⟨0,?_⟩;unfold zzY oN;refine mu (mu<|mu<|mu ?_);first|rfl|(simp only [*,zgC,cT,cF]<;>rfl)|simp_all[Ty.cells,zgC]
def zEn:vT 399 zvI:=kF1 zla zJ zC zq (zA []) zKG
def zf5 (t:List k0)(p n:Int):Bool:=bif ieq (zbB t p).af (-1) then false else (cond (enough (zbB t p).aj n) (zl n 1 3) false)
def zcP (t:List k0)(p n:Int):Int:=bif zf5 t p n then (zbB t p).af else -1
def z4D {r:Int}(h:zdu r=true):0<=r/\r<=3:=zgz.1 h
def zYn {a n:Int}(h:enough a n=true):zl n 1 3 = !ieq n 0:=by unfold enough at h;cases b:zdu a;{rw [b]at h;cases h};{cases c:zdu n;{rw [b,c]at h;cases h};{have:=z4D c;have e:(zl n 1 3=true)↔(!ieq n 0)=true:=(by rw[zgz];simp[ieq];omega);cases d:zl n 1 3<;>cases f:(!ieq n 0)<;>simp_all}}
@[simp] abbrev zsu (t:List k0)(p n:Int):Bool:=true
@[simp] abbrev zkn (t:List k0)(p n:Int):Int:=zcP t p n
@[simp] abbrev zko (t:List k0)(p n:Int):Bool:=zf5 t p n
def zvS:Run:=rF3 (dS .slot) dI dI λb c d=>(zsu b c d,[aI<|zkn b c d,aB<|zko b c d])
def zAd (N:Nat)(c:lS)(d b:Int):OA:=
 let a:=zeS c d; (oN (zgJ c d)<|cond (ieq a.af<|-1) (some [aI<|-1,aB false])<|oN (zcG a.aj b)<|cond (nB<|zd1 a.aj b) (some [aI<|-1,aB false])<|cond (ieq b 0) (some [aI<|-1,aB false])<|some [aI a.af,aB true])
def zKY (a:List k0)(b c:Int)(d:zsu a b c=true):∃N,zAd N a b c=some [aI<|zkn a b c,aB<|zko a b c]:=by
 have e:=@zYn (zbB a b).aj c;refine⟨0,?_⟩;unfold zAd oN nB;conv=>zeta
 refine j0 rfl (br (λ_=>?_) λ_=>j0 rfl (brN (λ_=>?_) λ_=>br (λ_=>?_) λ_=>?_));all_goals first|rfl|(simp only [*,zkn,zko,zcP,zf5,cT,cF]<;>rfl)|simp_all[Ty.cells,zkn,zko,zcP,zf5]
def zED:vT 282 zvS:=kF3 zla zJ zC zq (zA []) zKY
def z6g:zW:=[(238,zAx),(399,zvI),(282,zvS),(120,zGi),(382,zDh),(351,zGe),(439,zDj)]++z6f
def znq:zL z6g:=zh zJQ (zh zEn<|zh zED<|zh zQp<|zh zMV<|zh zQl<|zh zMZ zla)
@[simp] abbrev zlB (m:List LI)(p c v:Int):Bool:=pc (SmM m)
@[simp] abbrev zjZ (m:List LI)(p c v:Int):List LI:=zbO m p c v
def zx6:Run:=rF4 (dS<|.sl .int) dI dI dI λb c d e=>(zlB b c d e,[aS (.sl .int)<|zjZ b c d e])
def zBR (N:Nat)(c:lM)(a d e:Int):OA:=
 let b:=zeY c; (oN (zgM c)<|oN (ziE c a d)<|cond (zqv c a d) (oN (zQ e 0 99)<|cond (zl e 0 99) (oN (inb a<|ln b)<|oN (inb d<|ln<|ix b a [])<|p0 (up b a<|up (ix b a []) d e) λf=>some [aS (.sl .int) f])<|some [aS (.sl .int) b])<|some [aS (.sl .int) b])
def zNO (a:List LI)(b c d:Int)(e:zlB a b c d=true):∃N,zBR N a b c d=some [aS (.sl .int)<|zjZ a b c d]:=by
 have g:=zT.1 e;have f:=(zzm a b c).1;refine⟨0,?_⟩;unfold zBR oN;conv=>zeta
 refine mu (j0 rfl (br (λ_=>j0 rfl (br (λ_=>mu (mu<|shr ?_)) λ_=>?_)) λ_=>?_));all_goals first|rfl|(simp only [*,zjZ,zbO,cT,cF]<;>rfl)|simp_all[Ty.cells,zjZ,zbO]
def zHB:vT 287 zx6:=kF4 znq zJ zC zq (zA []) zNO
def ziY (g:ah):Bool:=bif canRun g then (cond g.Ctl.Open (ige (zd7 g.ai) 0) false) else false
@[simp] abbrev zbV (g:ah):Bool:=true
@[simp] abbrev zmg (g:ah):Bool:=ziY g
def zx5:Run:=rF1 (dT .guest) λb=>(zbV b,[aB<|zmg b])
def zBQ (N:Nat)(a:ah):OA:=
 (oN (zsZ a)<|cond (zql a) (cond a.Ctl.Open (oN (zc8 a.ai)<|some [aB<|ige (znD a.ai) 0]) oF) oF)
def zNN (a:ah)(b:zbV a=true):∃N,zBQ N a=some [aB<|zmg a]:=by refine⟨0,?_⟩;unfold zBQ oN;refine j0 rfl (br (λ_=>br (λ_=>j0 rfl ?_) λ_=>?_) λ_=>?_);all_goals first|rfl|(simp only [*,zmg,ziY,cT,cF]<;>rfl)|simp_all[Ty.cells,zmg,ziY]
def zHA:vT 402 zx5:=kF1 znq zJ zC zq (zA []) zNN
def zkB (p:Int):Int:=bif ilt (zd7 p) 0 then p else wsub .i64 p (zpA .i64 1<|zd7 p)
def zt2 (p:Int):Int:=bif ilt (zd7 p) 0 then -1 else zd7 p
def z2M {p:Int}(h:ilt (zd7 p) 0=false):wcv .u64 (zd7 p)=zd7 p/\ile 0 (zd7 p)=true/\zMb .i64 p (zpA .i64 1<|zd7 p)=wsub .i64 p (zpA .i64 1<|zd7 p):=by unfold zd7 at *;cases a:zdz p;{rw [a]at h;cases h};{simp only [a,cT]at h ⊢;obtain⟨c,d⟩:=zgz.1 a;have r:=z1N (P:=λx=>-1<=scan x/\scan x<=7/\(0<=scan x->wsub .i64 x (zpA .i64 1<|scan x)=zMb .i64 x (zpA .i64 1<|scan x))) z4L c d;have b:0<=scan p:=(by unfold ilt at h;have:=jV h;omega);exact⟨zXP b (by omega),qM b,(r.2.2 b).symm⟩}
@[simp] abbrev zkH (p:Int):Int:=zkB p
@[simp] abbrev zkI (p:Int):Int:=zt2 p
@[simp] abbrev zmU (p:Int):Bool:=!ilt (zd7 p) 0
def zAP:Run:=rF1 dI λb=>(zc8 b,[aI<|zkH b,aI<|zkI b,aB<|zmU b])
def zFE (N:Nat)(a:Int):OA:=
 (oN (zc8 a)<|cond (ilt (znD a) 0) (some [aI a,aI<|-1,aB false])<|oN (ile 0<|wcv .u64<|znD a)<|some [aI<|wsub .i64 a<|zpA .i64 1<|wcv .u64<|znD a,aI<|znD a,aB true])
def zQ1 (a:Int)(b:zc8 a=true):∃N,zFE N a=some [aI<|zkH a,aI<|zkI a,aB<|zmU a]:=by have c:=@z2M a;refine⟨0,?_⟩;unfold zFE oN;refine j0 rfl (br (λ_=>?_) λ_=>mu ?_);all_goals first|rfl|(simp only [*,zkH,zkI,zmU,zkB,zt2,cT,cF]<;>rfl)|simp_all[Ty.cells,zkH,zkI,zmU,zkB,zt2]
def zJ9:vT 353 zAP:=kF1 znq zJ zC zq (zA []) zQ1
def saw (g:ah)(n:Int):ah:=bif ilt (ln g.aD) 40 then {g with aD:=ap g.aD [n]} else g
@[simp] def zOe {g:ah}(n:Int)(h:SmG g):SmG (saw g n):=by unfold saw;cases a:ilt (ln g.aD) 40;{exact h};{have:=qF a;refine⟨h.1,h.2.1,h.2.2.1,?_⟩;simp[ln] at *;omega}
@[simp] abbrev zEf (g:ah)(n:Int):Bool:=pc (SmG g)
@[simp] abbrev zzF (g:ah)(n:Int):ah:=saw g n
def zP3:Run:=rF2 (dT .guest) dI λb c=>(zEf b c,[aT .guest<|zzF b c])
def zWR (N:Nat)(a:ah)(b:Int):OA:=
 (oN (zdw a)<|cond (ilt (ln (zda a).aD) 40) (oN (few<|ln<|ap (zda a).aD [b])<|some [aT .guest ({ (zda a) with aD:=(ap (zda a).aD [b])}:ah)])<|some [aT .guest<|zda a])
def z1z (a:ah)(b:Int)(c:zEf a b=true):∃N,zWR N a b=some [aT .guest<|zzF a b]:=by have d:=zT.1 c;have e:a.aD.length<=1048576:=d.2.2.2;refine⟨0,?_⟩;unfold zWR oN;refine mu (br (λ_=>mu ?_) λ_=>?_);all_goals first|rfl|(simp only [*,zzF,saw,cT,cF]<;>rfl)|simp_all[Ty.cells,zzF,saw]
def zVR:vT 404 zP3:=kF2 znq zJ zC zq (zA []) z1z
def stopped (g:ah)(e:aE):ah:={g with Exit:=e}
@[simp] def zbaf {g:ah}(e:aE)(h:SmG g):SmG (stopped g e):=h
@[simp] abbrev zeA (g:ah)(e:aE):Bool:=pc (SmG g)
@[simp] abbrev zdS (g:ah)(e:aE):ah:=stopped g e
def zAN:Run:=rF2 (dT .guest) dE λb c=>(zeA b c,[aT .guest<|zdS b c])
def zFC (N:Nat)(a:ah)(b:aE):OA:=
 (oN (zdw a)<|some [aT .guest ({ (zda a) with Exit:=b}:ah)])
def zQZ (a:ah)(b:aE)(c:zeA a b=true):∃N,zFC N a b=some [aT .guest<|zdS a b]:=by have d:=zT.1 c;refine⟨0,?_⟩;unfold zFC oN;refine mu ?_;first|rfl|(simp only [*,zdS,stopped,cT,cF]<;>rfl)|simp_all[Ty.cells,zdS,stopped]
def zJ7:vT 285 zAN:=kF2 znq zJ zC zq (zA []) zQZ
def zck (g:ah):ah:=bif ige g.Pc 12 then {g with Pc:=12} else {g with Pc:=zM .i64 g.Pc 1}
@[simp] def zlM {g:ah}(h:SmG g):SmG (zck g):=by unfold zck;cases ige g.Pc 12<;>exact h
@[simp] abbrev ze2 (g:ah):ah:=zck g
def zqZ:Run:=rF1 (dT .guest) λb=>(zbj b,[aT .guest<|ze2 b])
def zOP (N:Nat)(a:ah):OA:=
 (oN (zdw a)<|cond (ige (zda a).Pc 12) (some [aT .guest ({ (zda a) with Pc:=12}:ah)])<|some [aT .guest ({ (zda a) with Pc:=(zM .i64 (zda a).Pc 1)}:ah)])
def zV5 (a:ah)(b:zbj a=true):∃N,zOP N a=some [aT .guest<|ze2 a]:=by have c:=zT.1 b;refine⟨0,?_⟩;unfold zOP oN;refine mu (br (λ_=>?_) λ_=>?_);all_goals first|rfl|(simp only [*,ze2,zck,cT,cF]<;>rfl)|simp_all[Ty.cells,ze2,zck]
def zQr:vT 348 zqZ:=kF1 znq zJ zC zq (zA []) zV5
def z6h:zW:=[(287,zx6),(402,zx5),(353,zAP),(404,zP3),(285,zAN),(348,zqZ)]++z6g
def zlb:zL z6h:=zh zHB (zh zHA<|zh zJ9<|zh zVR<|zh zJ7<|zh zQr znq)
def interrupted (g:ah):ah:=bif ziY g then saw {g with ai:=zkB g.ai} (zM .i64 100<|zt2 g.ai) else g
@[simp] def zXB {g:ah}(h:SmG g):SmG (interrupted g):=by unfold interrupted;cases ziY g;{exact h};{exact zOe (g:={g with ai:=zkB g.ai}) _ h}
@[simp] abbrev zkm (g:ah):ah:=interrupted g
def zsI:Run:=rF1 (dT .guest) λb=>(zbj b,[aT .guest<|zkm b])
def zuY (N:Nat)(a:ah):OA:=
 let c:=zM .i64 100<|zkI a.ai;let b:=({a with ai:=(zkH a.ai)}:ah); (oN (zbV a)<|cond (nB<|zmg a) (oN (zdw a)<|some [aT .guest<|zda a])<|oN (zc8 a.ai)<|oN (zEf b c)<|some [aT .guest<|zzF b c])
def zE0 (a:ah)(b:zbj a=true):∃N,zuY N a=some [aT .guest<|zkm a]:=by
 have c:=zT.1 b;have d:_/\_/\_/\_:=c;refine⟨0,?_⟩;unfold zuY oN nB;conv=>zeta
 refine j0 rfl (brN (λ_=>mu ?_) λ_=>j0 rfl (mu ?_));all_goals first|rfl|(simp only [*,zkm,interrupted,cT,cF]<;>rfl)|simp_all[Ty.cells,zkm,interrupted]
def zBl:vT 260 zsI:=kF1 zlb zJ zC zq (zA []) zE0
def zxE (o:Int):Int:=bif ieq o 3 then 3 else (cond (ieq o 4) 4<|cond (ieq o 5) 5<|cond (ieq o 6) 6<|cond (ieq o 7) 7 2)
def zbf (g:ah):Int:=bif canRun g then (cond (ziY g) 1<|zxE (zcx g.ax g.Pc).Op) else 0
@[simp] abbrev znE (g:ah):Int:=zbf g
def zDk:Run:=rF1 (dT .guest) λb=>(zbV b,[aI<|znE b])
def zI9 (N:Nat)(a:ah):OA:=
 let b:=(zgu a.ax a.Pc).Op; (oN (zsZ a)<|cond (nB<|zql a) (some [aI 0])<|oN (zbV a)<|cond (zmg a) (some [aI 1])<|oN (zgf a.ax a.Pc)<|cond (ieq b 3) (some [aI 3])<|cond (ieq b 4) (some [aI 4])<|cond (ieq b 5) (some [aI 5])<|cond (ieq b 6) (some [aI 6])<|cond (ieq b 7) (some [aI 7])<|some [aI 2])
def zTI (a:ah)(b:zbV a=true):∃N,zI9 N a=some [aI<|znE a]:=by
 refine⟨0,?_⟩;unfold zI9 oN nB;conv=>zeta
 refine j0 rfl (brN (λ_=>?_) λ_=>j0 rfl (br (λ_=>?_) λ_=>j0 rfl (br (λ_=>?_) λ_=>br (λ_=>?_) λ_=>br (λ_=>?_) λ_=>br (λ_=>?_) λ_=>br (λ_=>?_) λ_=>?_)));all_goals first|rfl|(simp only [*,znE,zbf,zxE,cT,cF]<;>rfl)|simp_all[Ty.cells,znE,zbf,zxE]
def zcp:vT 259 zDk:=kF1 zlb zJ zC zq (zA []) zTI
def held (g:ah):ah:=zck {g with aG:=true}
@[simp] def zUK {g:ah}(h:SmG g):SmG (held g):=zlM (g:={g with aG:=true}) h
@[simp] abbrev zye (g:ah):ah:=held g
def zLo:Run:=rF1 (dT .guest) λb=>(zbj b,[aT .guest<|zye b])
def zR1 (N:Nat)(b:ah):OA:=
 let a:=({b with aG:=true}:ah); (oN (zbj a)<|some [aT .guest<|ze2 a])
def zYW (a:ah)(b:zbj a=true):∃N,zR1 N a=some [aT .guest<|zye a]:=by
 have c:=zT.1 b;have d:_/\_/\_/\_:=c;refine⟨0,?_⟩;unfold zR1 oN;conv=>zeta
 refine mu ?_;first|rfl|(simp only [*,zye,held,cT,cF]<;>rfl)|simp_all[Ty.cells,zye,held]
def zS3:vT 349 zLo:=kF1 zlb zJ zC zq (zA []) zYW
def zI6 (N:Nat)(a:ah):OA:=
 (oN (zbj a)<|some [aT .guest<|ze2 a])
def zTF (a:ah)(b:zbj a=true):∃N,zI6 N a=some [aT .guest<|ze2 a]:=by have c:=zT.1 b;refine⟨0,?_⟩;unfold zI6 oN;refine mu ?_;first|rfl|(simp only [*,ze2,cT,cF]<;>rfl)|simp_all[Ty.cells,ze2]
def zMY:vT 289 zqZ:=kF1 zlb zJ zC zq (zA []) zTF
def loaded (g:ah)(v:Int):ah:=zck (saw {g with A:=v} v)
@[simp] def zLI {g:ah}(v:Int)(h:SmG g):SmG (loaded g v):=zlM (zOe (g:={g with A:=v}) v h)
@[simp] abbrev zzD (g:ah)(v:Int):Bool:=pc (SmG g)
@[simp] abbrev zuC (g:ah)(v:Int):ah:=loaded g v
def zDc:Run:=rF2 (dT .guest) dI λb c=>(zzD b c,[aT .guest<|zuC b c])
def zIU (N:Nat)(c:ah)(a:Int):OA:=
 let b:=({c with A:=a}:ah); (oN (zEf b a)<|oN (zbj<|zzF b a)<|some [aT .guest<|ze2<|zzF b a])
def zTs (b:ah)(a:Int)(d:zzD b a=true):∃N,zIU N b a=some [aT .guest<|zuC b a]:=by
 have c:=zT.1 d;have f:_/\_/\_/\_:=c;have e:SmG (saw {b with A:=a} a):=zOe (g:={b with A:=a}) a c;refine⟨0,?_⟩;unfold zIU oN;conv=>zeta
 refine mu (mu ?_);first|rfl|(simp only [*,zuC,loaded,cT,cF]<;>rfl)|simp_all[Ty.cells,zuC,loaded]
def zMO:vT 290 zDc:=kF2 zlb zJ zC zq (zA []) zTs
def zXM (g:ah)(w:Int):ah:=bif ieq w 5 then stopped g (zxF (zcx g.ax g.Pc).X) else stopped g ⟨4,0,false,0⟩
@[simp] def zbag {g:ah}(w:Int)(h:SmG g):SmG (zXM g w):=by unfold zXM;cases ieq w 5<;>exact h
def ze0 (g:ah):Bool:=zdR g.ax&&(zl g.A 0 99&&(zl g.Pc 0 12&&(zdy g.aA 4 8&&(zdy g.aw 4 8&&(zlV g.Ctl&&(zdz g.ai&&(zkf g.Exit&&ile (ln g.aD) 40)))))))
@[simp] abbrev zlx (g:ah):Bool:=ze0 g
def zAA:Run:=rF1 (dT .guest) λb=>(zbV b,[aB<|zlx b])
def zFn (N:Nat)(a:ah):OA:=
 (oN (zzE a.ax)<|cond (znC a.ax) (oN (zQ a.A 0 99)<|cond (zl a.A 0 99) (oN (zQ a.Pc 0 12)<|cond (zl a.Pc 0 12) (oN (zmT a.aA 4 8)<|cond (ziD a.aA 4 8) (oN (zmT a.aw 4 8)<|cond (ziD a.aw 4 8) (oN (zge a.Ctl)<|cond (zqn a.Ctl) (oN (zc8 a.ai)<|cond (zfZ a.ai) (oN (zzC a.Exit)<|cond (zuw a.Exit) (some [aB<|ile (ln a.aD) 40]) oF) oF) oF) oF) oF) oF) oF) oF)
def zQJ (a:ah)(b:zbV a=true):∃N,zFn N a=some [aB<|zlx a]:=by refine⟨0,?_⟩;unfold zFn oN;refine j0 rfl (br (λ_=>j0 rfl (br (λ_=>j0 rfl (br (λ_=>j0 rfl (br (λ_=>j0 rfl (br (λ_=>j0 rfl (br (λ_=>j0 rfl (br (λ_=>j0 rfl (br (λ_=>?_) λ_=>?_)) λ_=>?_)) λ_=>?_)) λ_=>?_)) λ_=>?_)) λ_=>?_)) λ_=>?_)) λ_=>?_);all_goals first|rfl|(simp only [*,zlx,ze0,cT,cF]<;>rfl)|simp_all[Ty.cells,zlx,ze0]
def zJT:vT 214 zAA:=kF1 zlb zJ zC zq (zA []) zQJ
@[simp] abbrev zl0 (l:List ah):Bool:=pc (zk2 l)
@[simp] abbrev zlg (l:List ah):List ah:=l
def zui:Run:=rF1 (dS .guest) λb=>(zl0 b,[aS .guest<|zlg b])
def zw5 (N:Nat)(c:lG):OA:=
 (iter (σ:=(Int×Int×lG×lG×Unit)) N (λd a=>let b:=ix a.2.2.2.1 a.2.1 zD; (cond (ilt a.2.1 a.1) (oN (inb a.2.1<|ln a.2.2.2.1)<|oN (zbj b)<|oN (few<|ln<|ap a.2.2.1 [zgC b])<|d (a.1,zM .i64 a.2.1 1,ap a.2.2.1 [zgC b],a.2.2.2.1,()))<|some [aS .guest a.2.2.1])) (ln c,0,[],c,()))
def zIw:=zA [(343,0,{n:=20,tm:=[(3,.sl 0 []),(7,.sl 1 []),(8,ti),(9,ti)],lo:=[],ro:=[(0,.guest,true),(1,.guest,false)]})]
def zHP (a:List ah)(g:zl0 a=true):∃N,zw5 N a=some [aS .guest<|zlg a]:=by
 have f:=zT.1 g;have e:=zcO f.1;refine zcI λN d=>?_;unfold zw5 oN;conv=>zeta
 refine(zbJ a (λi (t:lG)=>(ln a,(i:Int),t,a,())) _ (λ_ x b j=>bif zbj x then (cond (few<|ln<|ap b [zgC x]) (j<|ap b [zgC x]) none) else none) (λ(t:lG)=>some [.one<|.s .guest t]) (λi c t rec=>?_) (λt rec=>?_) _ ([])<|d e.1).trans ?_;{simp only [zbK c,zbc c,zbr c,zbx c e.1,cT]};{simp only [zbw,cF]};exact zk5 zbj zgC _ a 0 [] (λx h=>⟨by exact zY (f.2 x h),rfl⟩) (by simpa using e.2)
def zCr:vT 343 zui:=kF1 zlb zJ zC zq zIw zHP
def gAt (b:ak)(i:Int):ah:=bif i0 i (ln b.ac) then ix b.ac i zD else Ty.dflt .guest
@[simp] def zkw {b:ak}(i:Int)(h:SmB b):SmG (gAt b i):=by unfold gAt;cases a:i0 i (ln b.ac);{exact zbaC};{exact z2z h.2.1 a _}
def z6i:zW:=[(260,zsI),(259,zDk),(349,zLo),(289,zqZ),(290,zDc),(214,zAA),(343,zui)]++z6h
def zpU:zL z6i:=zh zBl (zh zcp<|zh zS3<|zh zMY<|zh zMO<|zh zJT<|zh zCr zlb)
def plainly (g:ah):ah:=bif ine (zbf g) 2 then g else (cond (zl g.A 0 99) (cond (zl (zcx g.ax g.Pc).X 0 99) (cond (ieq (zcx g.ax g.Pc).Op 1) {zck g with A:=(zcx g.ax g.Pc).X}<|cond (ieq (zcx g.ax g.Pc).Op 2) {zck g with A:=zqF (zM .i64 g.A (zcx g.ax g.Pc).X) 100}<|cond (ieq (zcx g.ax g.Pc).Op 8) (cond (ieq g.A 0) {zck g with Pc:=(zcx g.ax g.Pc).X}<|zck g)<|zck g)<|zck g)<|zck g)
@[simp] def zbau (g:ah):(zck g).ax=g.ax:=by unfold zck;cases ige g.Pc 12<;>rfl
@[simp] def zbaZ (g:ah):(zck g).A=g.A:=by unfold zck;cases ige g.Pc 12<;>rfl
@[simp] def z9e (g:ah):(zck g).aA=g.aA:=by unfold zck;cases ige g.Pc 12<;>rfl
@[simp] def zbat (g:ah):(zck g).aw=g.aw:=by unfold zck;cases ige g.Pc 12<;>rfl
@[simp] def zbaK (g:ah):(zck g).Ctl=g.Ctl:=by unfold zck;cases ige g.Pc 12<;>rfl
@[simp] def z9d (g:ah):(zck g).ai=g.ai:=by unfold zck;cases ige g.Pc 12<;>rfl
@[simp] def zbas (g:ah):(zck g).Exit=g.Exit:=by unfold zck;cases ige g.Pc 12<;>rfl
@[simp] def z9W (g:ah):(zck g).aG=g.aG:=by unfold zck;cases ige g.Pc 12<;>rfl
@[simp] def zbav (g:ah):(zck g).aD=g.aD:=by unfold zck;cases ige g.Pc 12<;>rfl
@[simp] def zbaL (g:ah)(x:Int):(zck {g with A:=x}).Pc=(zck g).Pc:=by unfold zck;cases ige g.Pc 12<;>rfl
@[simp] def zGA {g:ah}(h:SmG g):SmG (plainly g):=by have a:=zlM h;unfold plainly;cases ine (zbf g) 2;{cases zl g.A 0 99;{exact a};{cases zl (zcx g.ax g.Pc).X 0 99;{exact a};{cases ieq (zcx g.ax g.Pc).Op 1;{cases ieq (zcx g.ax g.Pc).Op 2;{cases ieq (zcx g.ax g.Pc).Op 8;{exact a};{cases ieq g.A 0<;>exact a}};{exact a}};{exact a}}}};{exact h}
@[simp] abbrev zr0 (g:ah):ah:=plainly g
def zAL:Run:=rF1 (dT .guest) λb=>(zbj b,[aT .guest<|zr0 b])
def zFz (N:Nat)(a:ah):OA:=
 let i:=ieq a.A 0;let c:=zbj a;let b:=aT .guest<|ze2 a;let d:=zgu a.ax a.Pc;let j:=({a with A:=d.X}:ah);let h:=ieq d.Op 8;let e:=zl d.X 0 99;let g:=aT .guest ({ (zda a) with Pc:=d.X}:ah);let f:=({a with A:=(zqF (zM .i64 a.A d.X) 100)}:ah); (oN (zbV a)<|cond (ine (znE a) 2) (oN (zdw a)<|some [aT .guest<|zda a])<|oN (zgf a.ax a.Pc)<|oN (zQ a.A 0 99)<|cond (zl a.A 0 99) (oN (zQ d.X 0 99)<|cond e (cond (ieq d.Op 1) (oN (zbj j)<|some [aT .guest<|ze2 j])<|cond e (cond (ieq d.Op 2) (oN (ine 100 0)<|oN (zbj f)<|some [aT .guest<|ze2 f])<|cond e (cond h (cond i (oN (zdw a)<|some [g])<|oN c<|some [b])<|oN c<|some [b])<|oN c<|some [b])<|cond e (cond h (cond i (oN (zdw a)<|some [g])<|oN c<|some [b])<|oN c<|some [b])<|oN c<|some [b])<|cond e (cond (ieq d.Op 2) (oN (ine 100 0)<|oN (zbj f)<|some [aT .guest<|ze2 f])<|cond e (cond h (cond i (oN (zdw a)<|some [g])<|oN c<|some [b])<|oN c<|some [b])<|oN c<|some [b])<|cond e (cond h (cond i (oN (zdw a)<|some [g])<|oN c<|some [b])<|oN c<|some [b])<|oN c<|some [b])<|oN c<|some [b])
def zQW (a:ah)(b:zbj a=true):∃N,zFz N a=some [aT .guest<|zr0 a]:=by
 have c:=zT.1 b;have d:_/\_/\_/\_:=c;refine⟨0,?_⟩;unfold zFz oN;conv=>zeta
 refine j0 rfl (br (λ_=>mu ?_) λ_=>j0 rfl (j0 rfl (br (λ_=>j0 rfl (br (λ_=>br (λ_=>mu ?_) λ_=>br (λ_=>br (λ_=>j0 rfl (mu ?_)) λ_=>br (λ_=>br (λ_=>br (λ_=>mu ?_) λ_=>mu ?_) λ_=>mu ?_) λ_=>mu ?_) λ_=>br (λ_=>br (λ_=>br (λ_=>mu ?_) λ_=>mu ?_) λ_=>mu ?_) λ_=>mu ?_) λ_=>br (λ_=>br (λ_=>j0 rfl (mu ?_)) λ_=>br (λ_=>br (λ_=>br (λ_=>mu ?_) λ_=>mu ?_) λ_=>mu ?_) λ_=>mu ?_) λ_=>br (λ_=>br (λ_=>br (λ_=>mu ?_) λ_=>mu ?_) λ_=>mu ?_) λ_=>mu ?_)) λ_=>mu ?_)));all_goals first|rfl|(simp only [*,zr0,plainly,cT,cF]<;>rfl)|simp_all[Ty.cells,zr0,plainly]
def zJ4:vT 261 zAL:=kF1 zpU zJ zC zq (zA []) zQW
def D0 (g:ah):Int:=bif ine (zbf g) 3 then (cond (ine (zbf g) 4) (-1)<|(zcx g.ax g.Pc).X) else (zcx g.ax g.Pc).X
@[simp] abbrev zjD (g:ah):Int:=D0 g
def zAz:Run:=rF1 (dT .guest) λb=>(zbV b,[aI<|zjD b])
def zFi (N:Nat)(a:ah):OA:=
 (oN (zbV a)<|cond (ine (znE a) 3) (cond (ine (znE a) 4) (some [aI<|-1])<|oN (zgf a.ax a.Pc)<|some [aI (zgu a.ax a.Pc).X])<|oN (zgf a.ax a.Pc)<|some [aI (zgu a.ax a.Pc).X])
def zQE (a:ah)(b:zbV a=true):∃N,zFi N a=some [aI<|zjD a]:=by refine⟨0,?_⟩;unfold zFi oN;refine j0 rfl (br (λ_=>br (λ_=>?_) λ_=>j0 rfl ?_) λ_=>j0 rfl ?_);all_goals first|rfl|(simp only [*,zjD,D0,cT,cF]<;>rfl)|simp_all[Ty.cells,zjD,D0]
def zJS:vT 281 zAz:=kF1 zpU zJ zC zq (zA []) zQE
def zkc (g:ah)(t w:Int):ah:=bif ieq w 6 then stopped g (zyN (zcx g.ax g.Pc).X) else (cond (ieq w 5&&zhI t 1) (stopped g<|zxF (zcx g.ax g.Pc).X)<|cond (ieq w 7&&zhI t 2) (stopped g ⟨4,0,false,0⟩)<|cond (ieq w 7) (held g)<|zck g)
def zk0 (t w:Int):Bool:=bif ieq w 6 then false else (cond (ieq w 5&&zhI t 1) false<|cond (ieq w 7&&zhI t 2) false true)
@[simp] def zDz {g:ah}(t w:Int)(h:SmG g):SmG (zkc g t w):=by unfold zkc;cases ieq w 6;{cases (ieq w 5&&zhI t 1);{cases (ieq w 7&&zhI t 2);{cases ieq w 7;{exact zlM h};{exact zUK h}};{exact h}};{exact h}};{exact h}
@[simp] abbrev zed (g:ah)(t w:Int):Bool:=pc (SmG g)
@[simp] abbrev zcm (g:ah)(t w:Int):ah:=zkc g t w
@[simp] abbrev zdx (g:ah)(t w:Int):Bool:=zk0 t w
def zAU:Run:=rF3 (dT .guest) dI dI λb c d=>(zed b c d,[aT .guest<|zcm b c d,aB<|zdx b c d])
def zFJ (N:Nat)(a:ah)(c b:Int):OA:=
 let g:=aT .guest<|ze2 a;let f:=aT .guest<|zye a;let e:=(⟨4,0,false,0⟩:aE);let d:=(zgu a.ax a.Pc).X; (oN (zgf a.ax a.Pc)<|cond (ieq b 6) (oN (zgZ d)<|oN (zeA a<|zfU d)<|some [aT .guest<|zdS a<|zfU d,aB false])<|cond (ieq b 5) (oN (ziP c 1)<|cond (ziC c 1) (oN (zgZ d)<|oN (zeA a<|zg0 d)<|some [aT .guest<|zdS a<|zg0 d,aB false])<|cond (ieq b 7) (oN (ziP c 2)<|cond (ziC c 2) (oN (zeA a e)<|some [aT .guest<|zdS a e,aB false])<|cond (ieq b 7) (oN (zbj a)<|some [f,aB true])<|oN (zbj a)<|some [g,aB true])<|cond (ieq b 7) (oN (zbj a)<|some [f,aB true])<|oN (zbj a)<|some [g,aB true])<|cond (ieq b 7) (oN (ziP c 2)<|cond (ziC c 2) (oN (zeA a e)<|some [aT .guest<|zdS a e,aB false])<|cond (ieq b 7) (oN (zbj a)<|some [f,aB true])<|oN (zbj a)<|some [g,aB true])<|cond (ieq b 7) (oN (zbj a)<|some [f,aB true])<|oN (zbj a)<|some [g,aB true])
def zQ7 (a:ah)(b c:Int)(d:zed a b c=true):∃N,zFJ N a b c=some [aT .guest<|zcm a b c,aB<|zdx a b c]:=by
 have e:=zT.1 d;refine⟨0,?_⟩;unfold zFJ oN;conv=>zeta
 refine j0 rfl (br (λ_=>j0 rfl (mu ?_)) λ_=>br (λ_=>j0 rfl (br (λ_=>j0 rfl (mu ?_)) λ_=>br (λ_=>j0 rfl (br (λ_=>mu ?_) λ_=>br (λ_=>mu ?_) λ_=>mu ?_)) λ_=>br (λ_=>mu ?_) λ_=>mu ?_)) λ_=>br (λ_=>j0 rfl (br (λ_=>mu ?_) λ_=>br (λ_=>mu ?_) λ_=>mu ?_)) λ_=>br (λ_=>mu ?_) λ_=>mu ?_);all_goals first|rfl|(simp only [*,zcm,zdx,zkc,zk0,cT,cF]<;>rfl)|simp_all[Ty.cells,zcm,zdx,zkc,zk0]
def zKn:vT 292 zAU:=kF3 zpU zJ zC zq (zA []) zQ7
def zcc (b:ak):Bool:=bif b.ac.all ze0 then (zl3 b.ag 8&&(zl (ln b.ac) 1 2&&(ile (ln b.Outs) 40&&zdz b.ai))) else false
@[simp] abbrev zoS (b:ak):Bool:=true
@[simp] abbrev zfl (b:ak):Bool:=zcc b
def zC7:Run:=rF1 (dT .bare) λb=>(zoS b,[aB<|zfl b])
def zIM (N:Nat)(c:ak):OA:=
 (iter (σ:=(Int×Int×lM×lG×LI×Unit)) N (λd a=>let b:=a.2.2.2.1; (cond (ilt a.1<|ln b) (oN (inb a.1<|ln b)<|oN (zbV<|ix b a.1 zD)<|cond (nB<|zlx<|ix b a.1 zD) oF<|d (zM .i64 a.1 1,a.2.1,a.2.2.1,b,a.2.2.2.2.1,()))<|oN (zrX a.2.2.1 8)<|cond (zmd a.2.2.1 8) (oN (zQ (ln b) 1 2)<|cond (zl (ln b) 1 2) (cond (ile (ln a.2.2.2.2.1) 40) (oN (zc8 a.2.1)<|some [aB<|zfZ a.2.1]) oF) oF) oF)) (0,c.ai,c.ag,c.ac,c.Outs,()))
def zU4:=zA [(280,0,{n:=38,tm:=[(1,.lp 0 0),(3,ti)],lo:=[(0,[.sl 0 [],.sl 1 [],.sl 2 [],ti])],ro:=[(0,.sl .int,false),(1,.guest,false),(2,.int,false)]})]
def zTl (a:ak)(k:zb5 big [aT .bare a])(m:zoS a=true):∃N,zIM N a=some [aB<|zfl a]:=by
 have j:(_:List _).length<=big:=((zbI k).1 (.s .guest a.ac) (by simp[AV.cvs,Ty.cells])).len;refine zcI λN h=>?_;unfold zIM oN nB;conv=>zeta
 refine(zbJ a.ac (λi (t:Unit)=>((i:Int),a.ai,a.ag,a.ac,a.Outs,())) _ (λ_ x (_:Unit) l=>bif (ze0) x then l () else oF) (λ(t:Unit)=>cond (zrX a.ag 8) (cond (zmd a.ag 8) (cond (zQ (ln a.ac) 1 2) (cond (zl (ln a.ac) 1 2) (cond (ile (ln a.Outs) 40) (cond (zc8 a.ai) (some [.one<|.b<|zfZ a.ai]) none) oF) oF) none) oF) none) (λi f t rec=>?_) (λt rec=>?_) _ ()<|h j).trans ?_;{simp only [zbK f,zbc f,zbr f,zbx f j,cT];exact zpN rfl};{simp only [zbw,cF]};rw[znQ<|ze0];refine br (λc=>?_) (λc=>?_);{refine j0 rfl ?_;refine br (λd=>?_) (λd=>?_);{refine j0 rfl ?_;refine br (λe=>?_) (λe=>?_);{refine br (λg=>?_) (λg=>?_);{refine j0 rfl ?_;first|rfl|(simp only [c,d,e,g,zfl,zcc,cT,cF]<;>rfl)|(simp_all [Ty.cells,zfl,zcc];done)};{first|rfl|(simp only [c,d,e,g,zfl,zcc,cT,cF]<;>rfl)|(simp_all [Ty.cells,zfl,zcc];done)}};{first|rfl|(simp only [c,d,e,zfl,zcc,cT,cF]<;>rfl)|(simp_all [Ty.cells,zfl,zcc];done)}};{first|rfl|(simp only [c,d,zfl,zcc,cT,cF]<;>rfl)|(simp_all [Ty.cells,zfl,zcc];done)}};{first|rfl|(simp only [c,zfl,zcc,cT,cF]<;>rfl)|(simp_all [Ty.cells,zfl,zcc];done)}
def zMG:vT 280 zC7:=hF1 zpU zJ zC zq zU4 zTl
@[simp] abbrev zdN (b:ak):Bool:=pc (SmB b)
@[simp] abbrev zct (b:ak):ak:=b
def zAT:Run:=rF1 (dT .bare) λb=>(zdN b,[aT .bare<|zct b])
def zFI (N:Nat)(a:ak):OA:=
 (oN (zgM a.ag)<|oN (zgh a.ac)<|oN (few<|ln<|ap [] a.Outs)<|some [aT .bare (⟨zeY a.ag,zgP a.ac,ap [] a.Outs,a.ai⟩:ak)])
def zQ6 (a:ak)(b:zdN a=true):∃N,zFI N a=some [aT .bare<|zct a]:=by have c:=zT.1 b;have d:_/\_/\_:=c;refine⟨0,?_⟩;unfold zFI oN;refine mu (mu<|mu ?_);first|rfl|(simp only [*,zct,cT,cF]<;>rfl)|simp_all[Ty.cells,zct]
def zKm:vT 278 zAT:=kF1 zpU zJ zC zq (zA []) zQ6
def z6j:zW:=[(261,zAL),(281,zAz),(292,zAU),(280,zC7),(278,zAT)]++z6i
def z3G:zL z6j:=zh zJ4 (zh zJS<|zh zKn<|zh zMG<|zh zKm zpU)
def zeK (b:ak)(i:Int)(x:ah):ak:={b with ac:=up b.ac i x}
def zow (b:ak)(n:Int):ak:=bif ilt (ln b.Outs) 40 then {b with Outs:=ap b.Outs [n]} else b
@[simp] def znJ {b:ak}{i:Int}{x:ah}(h:SmB b)(a:SmG x):SmB (zeK b i x):=⟨h.1,zEg h.2.1 a,h.2.2⟩
@[simp] def zZK {b:ak}{n:Int}(h:SmB b):SmB (zow b n):=by unfold zow;cases a:ilt (ln b.Outs) 40;{exact h};{have:=qF a;refine⟨h.1,h.2.1,?_⟩;simp[ln] at *;omega}
@[simp] def zbaU (b:ak)(n:Int):(zow b n).ac=b.ac:=by unfold zow;cases ilt (ln b.Outs) 40<;>rfl
@[simp] def zzP {m:List LI}{p c v:Int}(h:SmM m):SmM (zbO m p c v):=by unfold zbO;cases a:ziy m p c;{exact h};{cases b:zl v 0 99;{exact h};{exact zLK h (by simpa using z98 h ((zzm m p c).1 a).1 [])}}
def zX9:zW:=z6j
def ztF:zL zX9:=z3G
def zn4 (b:ak)(g:Int)(x:ah)(w:Bool):ak :=
 bif zf5 x.aw (zbi<|D0 x) (zcd w) then
  (bif w then zeK {b with ag:=zbO b.ag (zcP x.aw (zbi<|D0 x)<|zcd w) (zdi<|D0 x) x.A} g (zck x)
  else zeK b g (loaded x<|cellAt b.ag (zcP x.aw (zbi<|D0 x)<|zcd w)<|zdi<|D0 x))
 else zeK b g (stopped x<|zrD (zbi<|D0 x) w)
def zEh (b:ak)(g:Int)(x:ah)(w:Int):ak :=
 zeK (cond (cond (zk0 x.Ctl.aq w) (ieq w 5) false) (zow b (zcx x.ax x.Pc).X) b) g (zkc x x.Ctl.aq w)
def stepped (b:ak)(g:Int)(x:ah)(w:Int):ak :=
 bif ieq w 1 then zeK b g (interrupted x) else (cond (ieq w 2) (zeK b g<|plainly x)<|cond (ieq w 3) (zn4 b g x false)<|cond (ieq w 4) (zn4 b g x true)<|zEh b g x w)
def zlT (b:ak)(g:Int):Bool:=bif i0 g (ln b.ac) then (cond (zcc b) (!ieq (zbf<|gAt b g) 0) false) else false
def ziL (b:ak)(g:Int):ak:=bif zlT b g then stepped b g (gAt b g) (zbf<|gAt b g) else b
@[simp] def zXA {b:ak}{g:Int}{x:ah}{w:Bool}(h:SmB b)(a:SmG x):SmB (zn4 b g x w):=by unfold zn4;cases zf5 x.aw (zbi<|D0 x) (zcd w);{exact znJ h a};{cases w;{exact znJ h (zLI _ a)};{exact⟨zzP h.1,zEg h.2.1<|zlM a,h.2.2⟩}}
@[simp] def z8R {b:ak}{g:Int}{x:ah}{w:Int}(h:SmB b)(a:SmG x):SmB (zEh b g x w):=by unfold zEh;cases (cond (zk0 x.Ctl.aq w) (ieq w 5) false);{exact znJ h (zDz _ _ a)};{exact znJ (zZK h) (zDz _ _ a)}
@[simp] def zWJ {b:ak}{g:Int}{x:ah}{w:Int}(h:SmB b)(a:SmG x):SmB (stepped b g x w):=by unfold stepped;cases ieq w 1;{cases ieq w 2;{cases ieq w 3;{cases ieq w 4;{exact z8R h a};{exact zXA h a}};{exact zXA h a}};{exact znJ h (zGA a)}};{exact znJ h (zXB a)}
@[simp] def zbaW {b:ak}{g:Int}(h:SmB b):SmB (ziL b g):=by unfold ziL;cases zlT b g;{exact h};{exact zWJ h (zkw g h)}
def zbaG (x:ah):ieq (zbf x) 0=false->ieq (zbf x) 1=false->ieq (zbf x) 2=false->ieq (zbf x) 3=false->ieq (zbf x) 4=false->ieq (zbf x) 5=false->ieq (zbf x) 6=false->ieq (zbf x) 7=true:=by unfold zbf zxE;cases canRun x;{intro h;cases h};{cases ziY x;{simp only [cT,cF];generalize (zcx x.ax x.Pc).Op=o;cases ieq o 3<;>cases ieq o 4<;>cases ieq o 5<;>cases ieq o 6<;>cases ieq o 7<;>simp [ieq]};{intro _ h;cases h}}
def SmK (k:az):Prop:=k.ay.length<=1048576/\k.aC.length<=1048576
def zBX (l:List az):Prop:=l.length<=1048576/\∀x∈l,SmK x
def zfH (m:Mon):Prop:=m.ae.length<=1048576/\SmM m.Out/\m.au.length<=1048576/\zk2 m.ac/\m.Outs.length<=1048576/\zBX m.am
def zrx (l:List Mon):Prop:=l.length<=1048576/\∀x∈l,zfH x
def SmH (h:ad):Prop:=SmM h.ag/\zrx h.aa/\h.ao.length<=1048576/\h.an.length<=1048576
@[simp] def zxf (k:az):(∀c∈Ty.cells .kept k,CVB sm c)↔SmK k:=by simp[Ty.cells,SmK,z4V]
@[simp] def z3O (l:List az):CVB sm (.s .kept l)↔zBX l:=by rw[zlX];simp only[zxf];rfl
@[simp] def zWV (m:Mon):(∀c∈Ty.cells .mon m,CVB sm c)↔zfH m:=by simp only[Ty.cells,qG,qN,or_false,vP,forall_eq,zpV,zvc,z3O,zYi,zVD,zVC,z6w,and_true,true_and];rfl
@[simp] def z7T (l:List Mon):CVB sm (.s .mon l)↔zrx l:=by rw[zlX];simp only[zWV];rfl
@[simp] def zU (h:ad):zcR h↔SmH h:=by unfold zcR;simp only[zbn,qG,qN,or_false,vP,forall_eq,zpV,z7T,zSG];rfl
def zbH {p:Prop}(h:p):pc p=true:=zY h
def zyk {l:List az}{i:Int}{x:az}(h:zBX l)(b:SmK x):zBX (up l i x):=by refine⟨by simpa using h.1,λy a=>?_⟩;rcases qY a with a|rfl;{exact h.2 y a};{exact b}
def zjF {l:List Mon}{i:Int}{x:Mon}(h:zrx l)(b:zfH x):zrx (up l i x):=by refine⟨by simpa using h.1,λy a=>?_⟩;rcases qY a with a|rfl;{exact h.2 y a};{exact b}
def ztj {a:Type}{l:List a}(h:l.length<=1048576):few (ln<|ap [] l)=true:=by rw[zmB,z8b];omega
@[simp] abbrev zbh (h:ad):Bool:=pc (zcR h)
@[simp] abbrev zx (h:ad):ad:=h
def zAV:Run:=rF1 dH λb=>(zbh b,[aH<|zx b])
def zFK (N:Nat)(b:ad):OA:=
 (oN (zgM b.ag)<|oN (few<|ln<|ap [] b.ao)<|oN (few<|ln<|ap [] b.an)<|iter (σ:=(Int×lM×lN×lE×lE×lM×lN×lE×lE×lM×lN×lE×lE×Unit)) N (λf a=>let b:=a.2.2.2.2.2.2.2;let e:=b.2.2.2.2.2.1;let d:=ix a.2.2.1 a.1 zi;let c:=ap b.2.2.2.1 [znF d]; (cond (ilt a.1<|ln a.2.2.1) (oN (inb a.1<|ln a.2.2.1)<|oN (zj6 d)<|oN (few<|ln c)<|f (zM .i64 a.1 1,a.2.1,a.2.2.1,a.2.2.2.1,a.2.2.2.2.1,a.2.2.2.2.2.1,a.2.2.2.2.2.2.1,b.1,b.2.1,b.2.2.1,c,b.2.2.2.2.1,e,()))<|some [aH (⟨b.2.2.1,b.2.2.2.1,b.2.2.2.2.1,e⟩:ad)])) (0,b.ag,b.aa,b.ao,b.an,[],[],[],[],zeY b.ag,[],ap [] b.ao,ap [] b.an,()))
def zRD:=zA [(107,0,{n:=36,tm:=[(1,.lp 0 0),(2,.lp 1 0),(3,.lp 2 0),(4,ti)],lo:=[(0,[.sl 0 [],.sl 1 [],.sl 2 [],.sl 3 []]),(1,[.sl 4 [],.sl 5 [],.sl 6 [],.sl 7 []]),(2,[.sl 8 [],.sl 9 [],.sl 10 [],.sl 11 []])],ro:=[(0,.sl .int,false),(1,.mon,false),(2,.entry,false),(3,.entry,false),(4,.sl .int,true),(5,.mon,true),(6,.entry,true),(7,.entry,true),(8,.sl .int,true),(9,.mon,true),(10,.entry,true),(11,.entry,true)]})]
def zQ8 (a:ad)(k:zbh a=true):∃N,zFK N a=some [aH<|zx a]:=by
 obtain⟨g,f,h,j⟩:=(zU a).1 (zT.1 k);have e:=zcO f.1;refine zcI λN d=>?_;unfold zFK oN;conv=>zeta
 refine j0 (zbH<|(zpV _).2 g) (j0 (ztj h)<|j0 (ztj j) ?_);refine(zbJ a.aa (λi (t:lN)=>((i:Int),a.ag,a.aa,a.ao,a.an,[],[],[],[],zeY a.ag,t,ap [] a.ao,ap [] a.an,())) _ (λ_ x b m=>bif zj6 x then (cond (few<|ln<|ap b [znF x]) (m<|ap b [znF x]) none) else none) (λ(t:lN)=>some [.agg<|zbn (⟨zeY a.ag,t,ap [] a.ao,ap [] a.an⟩:ad)]) (λi c t rec=>?_) (λt rec=>?_) _ ([])<|d e.1).trans ?_;{simp only [zbK c,zbc c,zbr c,zbx c e.1,cT]};{simp only [zbw,cF]};exact zk5 zj6 znF _ a.aa 0 [] (λx l=>⟨zbH<|(zWV x).2 (f.2 x l),rfl⟩) (by simpa using e.2)
def zKo:vT 107 zAV:=kF1 ztF zJ zC zq zRD zQ8
@[simp] abbrev ze6 (k:az):Bool:=pc (SmK k)
@[simp] abbrev zd0 (k:az):az:=k
def zxU:Run:=rF1 (dT .kept) λb=>(ze6 b,[aT .kept<|zd0 b])
def zBw (N:Nat)(a:az):OA:=
 (oN (few<|ln<|ap [] a.ay)<|oN (zhe a.aC)<|some [aT .kept (⟨ap [] a.ay,zfy a.aC⟩:az)])
def zNr (a:az)(b:ze6 a=true):∃N,zBw N a=some [aT .kept<|zd0 a]:=by have c:=zT.1 b;obtain⟨f,g⟩:=c;have d:a.ay.length<=2147483648:=(by omega);have e:a.aC.length<=2147483648:=(by omega);refine⟨0,?_⟩;unfold zBw oN;refine mu (mu ?_);first|rfl|(simp only [*,zd0,cT,cF]<;>rfl)|simp_all[Ty.cells,zd0]
def zHk:vT 369 zxU:=kF1 ztF zJ zC zq (zA []) zNr
def z5W:zW:=[(107,zAV),(369,zxU)]++zX9
def zSx:zL z5W:=zh zKo (zh zHk ztF)
@[simp] abbrev zwz (m:Mon):Bool:=pc (zfH m)
@[simp] abbrev zCD (m:Mon):Mon:=m
def zAy:Run:=rF1 (dT .mon) λb=>(zwz b,[aT .mon<|zCD b])
def zFh (N:Nat)(b:Mon):OA:=
 (oN (zhe b.ae)<|oN (zmC b.Out)<|oN (few<|ln<|ap [] b.au)<|oN (zl0 b.ac)<|oN (zd5 b.Outs)<|iter (σ:=(Int×Int×Int×Int×Int×Int×Int×Int×lK×lK×lS×lM×lB×lG×LI×lS×lM×lB×lG×LI×lK×Unit)) N (λi a=>let b:=a.2.2.2.2.2.2.2.2.2.2;let j:=b.2.2.2.2.2;let h:=b.2.2.1;let g:=b.2.2.2.1;let f:=b.2.2.2.2.1;let e:=a.2.2.2.2.2.2.2.2.1;let d:=a.2.2.2.2.2.2.2.2.2.1;let c:=ix d a.2.1 zhq; (cond (ilt a.2.1 a.1) (oN (inb a.2.1<|ln d)<|oN (ze6 c)<|oN (few<|ln<|ap e [zd0 c])<|i (a.1,zM .i64 a.2.1 1,a.2.2.1,a.2.2.2.1,a.2.2.2.2.1,a.2.2.2.2.2.1,a.2.2.2.2.2.2.1,a.2.2.2.2.2.2.2.1,ap e [zd0 c],d,b.1,b.2.1,h,g,f,j.1,j.2.1,j.2.2.1,j.2.2.2.1,j.2.2.2.2.1,j.2.2.2.2.2.1,()))<|some [aT .mon (⟨b.1,b.2.1,h,g,f,a.2.2.1,a.2.2.2.1,e,a.2.2.2.2.1⟩:Mon)])) (ln b.am,0,b.ai,b.aq,b.Own,0,0,0,[],b.am,zfy b.ae,ziu b.Out,ap [] b.au,zlg b.ac,zdZ b.Outs,[],[],[],[],[],[],()))
def zRu:=zA [(200,0,{n:=44,tm:=[(1,.lp 0 0),(2,.lp 1 0),(3,.sl 0 []),(29,.sl 1 []),(30,ti),(31,ti)],lo:=[(0,[.sl 2 [],.sl 3 [],.sl 4 [],.sl 5 [],.sl 6 [],ti,ti,.sl 1 [],ti]),(1,[.sl 7 [],.sl 8 [],.sl 9 [],.sl 10 [],.sl 11 [],ti,ti,.sl 12 [],ti])],ro:=[(0,.kept,true),(1,.kept,false),(2,.slot,true),(3,.sl .int,true),(4,.bool,true),(5,.guest,true),(6,.int,true),(7,.slot,true),(8,.sl .int,true),(9,.bool,true),(10,.guest,true),(11,.int,true),(12,.kept,true)]})]
def zQD (a:Mon)(p:zwz a=true):∃N,zFh N a=some [aT .mon<|zCD a]:=by
 obtain⟨s,l,m,n,u,f⟩:=zT.1 p;have e:=zcO f.1;refine zcI λN d=>?_;unfold zFh oN;conv=>zeta
 have g:zhe a.ae=true:=(by simp;omega);have h:zmC a.Out=true:=(by simp;exact l);have j:zl0 a.ac=true:=(by simp;exact n);have k:zd5 a.Outs=true:=(by simp;omega);refine j0 g (j0 h<|j0 (ztj m)<|j0 j<|j0 k ?_);refine(zbJ a.am (λi (t:lK)=>(ln a.am,(i:Int),a.ai,a.aq,a.Own,0,0,0,t,a.am,zfy a.ae,ziu a.Out,ap [] a.au,zlg a.ac,zdZ a.Outs,[],[],[],[],[],[],())) _ (λ_ x b r=>bif ze6 x then (cond (few<|ln<|ap b [zd0 x]) (r<|ap b [zd0 x]) none) else none) (λ(t:lK)=>some [.agg<|Ty.cells .mon (⟨zfy a.ae,ziu a.Out,ap [] a.au,zlg a.ac,zdZ a.Outs,a.ai,a.aq,t,a.Own⟩:Mon)]) (λi c t rec=>?_) (λt rec=>?_) _ ([])<|d e.1).trans ?_;{simp only [zbK c,zbc c,zbr c,zbx c e.1,cT]};{simp only [zbw,cF]};exact zk5 ze6 zd0 _ a.am 0 [] (λx q=>⟨zbH<|f.2 x q,rfl⟩) (by simpa using e.2)
def zJR:vT 200 zAy:=kF1 zSx zJ zC zq zRu zQD
def z5X:zW:=[(200,zAy)]++z5W
def zSy:zL z5X:=zh zJR zSx
def allI {a:Type}(p:Nat->a->Bool):List a->Nat->Bool
 |[],_=>true
 |x::l,i=>p i x&&allI p l (i+1)
def zST {a b:Type}(p:Nat->a->Bool)(r:Option b)(K:Unit->Option b):∀(l:List a) (i:Nat),goL (λi x (_:Unit) k=>bif p i x then k () else r) K l i ()=bif allI p l i then K () else r
 |[],_=>rfl
 |x::l,i=>by simp only[goL,allI];cases p i x;{rfl};{simp only [cT,uO];exact zST p r K l (i+1)}
def zOX {a:Type}(q:a->Bool)(l:List a)(d:a):∀(n i:Nat),i+n<=l.length->zpM (λj=>q (ix l (j:Int) d)) n i=((l.drop i).take n).all q
 | 0,i,_=>by simp[zpM]
 |n+1,i,h=>by have b:i<l.length:=(by omega);rw[kC b,List.take_succ_cons,k9,<- zOX q l d n (i+1) (by omega)];simp only[zpM,zbr b]
def sameKey (a b:ar):Bool:=bif ieq a.Tag b.Tag then ieq a.af b.af else false
def alone (l:List ar)(i:Nat)(x:ar):Bool:=(l.take i).all λy=>!sameKey x y
def zgk (l:List ar):Bool:=bif allI (alone l) l 0 then ile (ln l) 6 else false
@[simp] abbrev zoU (l:List ar):Bool:=true
@[simp] abbrev zoT (l:List ar):Bool:=zgk l
def zxY:Run:=rF1 (dS .entry) λb=>(zoU b,[aB<|zoT b])
def zBD (N:Nat)(f:lE):OA:=
 (iter (σ:=(Int×lE×Unit)) N (λg c=>cond (ilt c.1<|ln c.2.1) (iter (σ:=(Int×Int×lE×Unit)) N (λh a=>let b:=a.2.2.1;let e:=ix b a.2.1 zjz;let d:=h (a.1,zM .i64 a.2.1 1,b,()); (cond (ilt a.2.1 a.1) (oN (inb a.1<|ln b)<|oN (inb a.2.1<|ln b)<|cond (ieq (ix b a.1 zjz).Tag e.Tag) (oN (inb a.1<|ln b)<|oN (inb a.2.1<|ln b)<|cond (ieq (ix b a.1 zjz).af e.af) oF d) d)<|g (zM .i64 a.1 1,b,()))) (c.1,0,c.2.1,()))<|some [aB<|ile (ln c.2.1) 6]) (0,f,()))
def zOo:=zA [(122,0,{n:=43,tm:=[(0,.sl 0 []),(3,ti)],lo:=[],ro:=[(0,.entry,false)]}),(122,2,{n:=43,tm:=[(0,.sl 0 []),(3,ti),(4,ti)],lo:=[],ro:=[(0,.entry,false)]})]
def zNz (a:List ar)(k:zb5 big [aS .entry a])(l:zoU a=true):∃N,zBD N a=some [aB<|zoT a]:=by
 have g:=len0 k;refine zcI λN d=>?_;unfold zBD oN;conv=>zeta
 refine(zbJ a (λi (t:Unit)=>((i:Int),a,())) _ (λi (x:ar) (_:Unit) h=>bif alone a i x then h () else oF) (λ(t:Unit)=>some [.one<|.b<|ile (ln a) 6]) (λi c t rec=>?_) (λt rec=>?_) _ ()<|d g).trans ?_;{simp only [zbK c,zbc c,zbr c,zbx c g,cT];refine(zt3 i (λ(j:Nat) (_:Unit)=>((i:Int),(j:Int),a,())) _ (λj (_:Unit) h=>bif !sameKey a[i] (ix a (j:Int) zjz) then h () else oF) (λ_=>rec (((i+1:Nat):Int),a,())) (λj m u f=>?_) (λu f=>?_) _ ()<|d (by omega)).trans ?_;{have e:j<a.length:=(by omega);simp only[show ilt (j:Int) (i:Int)=true from qM (by omega),zbc c,zbc e,zbr c,zbx e g,cT];unfold sameKey;cases ieq a[i].Tag (ix a (j:Int) zjz).Tag<;>cases ieq a[i].af (ix a (j:Int) zjz).af<;>rfl};{simp only [show ilt (i:Int) (i:Int)=false from qT (by omega),zbx c g,cF]};rw[zMu λj=>!sameKey a[i] (ix a (j:Int) zjz),zOX (λy=>!sameKey a[i] y) a _ i 0 (by omega)];rfl};{simp only [zbw,cF]};rw[zST<|alone a];unfold zoT zgk;cases allI (alone a) a 0<;>rfl
def zHp:vT 122 zxY:=hF1 zSy zJ zC zq zOo zNz
def z5Y:zW:=[(122,zxY)]++z5X
def zSz:zL z5Y:=zh zHp zSy
def z8m (a b:Int):igt a b = !ile a b:=by unfold igt ile;by_cases h:a<=b;{rw [qM h,qT (by omega)];rfl};{rw [qT h,qM (by omega)];rfl}
def stB {c M:Bool}{E:OA}(h:c=true->E=some [AV.one<|.b M]):(cond (cond c false true) (some [AV.one<|.b false]) E)=some [AV.one<|.b<|cond c M false]:=by cases c;{rfl};{exact h rfl}
def stI {a b:Int}{M:Bool}{E:OA}(h:ieq a b=true->E=some [AV.one<|.b M]):(cond (ine a b) (some [AV.one<|.b false]) E)=some [AV.one<|.b<|cond (ieq a b) M false]:=by rw[ztl];cases c:ieq a b;{rfl};{exact h c}
def znU (s:k0)(p:LI):Bool:=bif zdh s z0 then zcK p else (cond (enough s.aj 1) (ile (ln p) 0) false)
def fits (m:Mon)(j:Nat):Bool:=znU (ix m.ae (j:Int) zbe) (ix m.Out (j:Int) [])
def zfT (m:Mon):Bool:=bif zl (ln m.ac) 1 2 then (cond (ieq (ln m.am)<|ln m.ac) (cond (zdy m.ae 8 12) (cond (ieq (ln m.Out) 8) (cond (ieq (ln m.au) 8) (cond (ile (ln m.Outs) 40) (cond (zdz m.ai) (cond (zl m.aq 0 3) (cond (zl m.Own 0 1000000000) (cond (m.ac.all ze0) (zpM (fits m) 8 0) false) false) false) false) false) false) false) false) false) else false
def zwa {t:List k0}{n p:Int}(h:zdy t n p=true):ln t=n:=by unfold zdy at h;cases a:t.all (λs=>zeM s p);{rw [a]at h;cases h};{rw [a]at h;exact qF h}
@[simp] abbrev zrZ (m:Mon):Bool:=true
@[simp] abbrev ztp (m:Mon):Bool:=zfT m
def zGj:Run:=rF1 (dT .mon) λb=>(zrZ b,[aB<|ztp b])
def zOO (N:Nat)(c:Mon):OA:=
 (oN (zQ (ln c.ac) 1 2)<|cond (nB<|zl (ln c.ac) 1 2) oF<|cond (ine (ln c.am)<|ln c.ac) oF<|oN (zmT c.ae 8 12)<|cond (nB<|ziD c.ae 8 12) oF<|cond (ine (ln c.Out) 8) oF<|cond (ine (ln c.au) 8) oF<|iter (σ:=(Int×Int×Int×Int×lS×lM×lB×lG×LI×lK×Unit)) N (λl b=>let c:=b.2.2.2.2;let n:=c.2.2.2.2;let d:=c.2.2.2.1; (cond (ilt b.1<|ln d) (oN (inb b.1<|ln d)<|oN (zbV<|ix d b.1 zD)<|cond (nB<|zlx<|ix d b.1 zD) oF<|l (zM .i64 b.1 1,b.2.1,b.2.2.1,b.2.2.2.1,c.1,c.2.1,c.2.2.1,d,n.1,n.2.1,()))<|iter (σ:=(Int×Int×Int×Int×lS×lM×lB×lG×LI×lK×Unit)) N (λm a=>let b:=a.2.2.2.2.2;let h:=a.2.2.2.2.1;let i:=inb a.1<|ln b.1;let e:=ix b.1 a.1 [];let g:=ix h a.1 zbe;let k:=ieq g.aj zbo.aj;let j:=ieq g.af zbo.af;let f:=m (zM .i64 a.1 1,a.2.1,a.2.2.1,a.2.2.2.1,h,b.1,b.2.1,b.2.2.1,b.2.2.2.1,b.2.2.2.2.1,()); (cond (ilt a.1 8) (oN (inb a.1<|ln h)<|oN zb3<|cond (nB<|cond j k false) (oN i<|cond (igt (ln e) 0) oF<|oN (inb a.1<|ln h)<|oN (zcG g.aj 1)<|cond (nB<|zd1 g.aj 1) oF<|cond (nB<|nB<|cond j k false) (oN i<|oN (zeI e)<|cond (nB<|zdv e) oF f) f)<|cond (nB<|nB<|cond j k false) (oN i<|oN (zeI e)<|cond (nB<|zdv e) oF f) f)<|cond (ile (ln b.2.2.2.1) 40) (oN (zc8 a.2.1)<|cond (zfZ a.2.1) (oN (zQ a.2.2.1 0 3)<|cond (zl a.2.2.1 0 3) (oN (zQ a.2.2.2.1 0 1000000000)<|some [aB<|zl a.2.2.2.1 0 1000000000]) oF) oF) oF)) (0,b.2.1,b.2.2.1,b.2.2.2.1,c.1,c.2.1,c.2.2.1,d,n.1,n.2.1,()))) (0,c.ai,c.aq,c.Own,c.ae,c.Out,c.au,c.ac,c.Outs,c.am,()))
def zWL:=zA [(81,0,{n:=115,tm:=[(1,.lp 0 0),(3,ti)],lo:=[(0,[.sl 0 [],.sl 1 [],.sl 2 [],.sl 3 [],.sl 4 [],ti,ti,.sl 5 [],ti])],ro:=[(0,.slot,false),(1,.sl .int,false),(2,.bool,false),(3,.guest,false),(4,.int,false),(5,.kept,false)]}),(81,2,{n:=115,tm:=[(1,.lp 0 0),(4,ti)],lo:=[(0,[.sl 0 [],.sl 1 [],.sl 2 [],.sl 3 [],.sl 4 [],ti,ti,.sl 5 [],ti])],ro:=[(0,.slot,false),(1,.sl .int,false),(2,.bool,false),(3,.guest,false),(4,.int,false),(5,.kept,false)]})]
def zV4 (c:Mon)(r:zb5 big [aT .mon c])(A:zrZ c=true):∃N,zOO N c=some [aB<|ztp c]:=by
 have hg:c.ac.length<=big:=((zbI r).1 (.s .guest c.ac) (by simp[AV.cvs,Ty.cells])).len;refine zcI λN d=>?_;unfold zOO ztp zfT oN nB;conv=>zeta
 refine j0 rfl (stB λw=>stI λy=>j0 rfl (stB λp=>stI λq=>stI λz=>?_));have m:=zwa p;have n:ln c.Out=8:=qF q;simp only[ln] at m n;refine(zbJ c.ac (λi (t:Unit)=>((i:Int),c.ai,c.aq,c.Own,c.ae,c.Out,c.au,c.ac,c.Outs,c.am,())) _ (λ_ (x:ah) (_:Unit) l=>bif ze0 x then l () else oF) (λ(t:Unit)=>iter (σ:=(Int×Int×Int×Int×lS×lM×lB×lG×LI×lK×Unit)) N (λh a=>cond (ilt a.1 8) (cond (inb a.1<|ln a.2.2.2.2.1) (cond zb3 (cond (cond (cond (ieq (ix a.2.2.2.2.1 a.1 zbe).af zbo.af) (ieq (ix a.2.2.2.2.1 a.1 zbe).aj zbo.aj) false) false true) (cond (inb a.1<|ln a.2.2.2.2.2.1) (cond (igt (ln<|ix a.2.2.2.2.2.1 a.1 []) 0) oF<|cond (inb a.1<|ln a.2.2.2.2.1) (cond (zcG (ix a.2.2.2.2.1 a.1 zbe).aj 1) (cond (cond (zd1 (ix a.2.2.2.2.1 a.1 zbe).aj 1) false true) oF<|cond (cond (cond (cond (ieq (ix a.2.2.2.2.1 a.1 zbe).af zbo.af) (ieq (ix a.2.2.2.2.1 a.1 zbe).aj zbo.aj) false) false true) false true) (cond (inb a.1<|ln a.2.2.2.2.2.1) (cond (zeI<|ix a.2.2.2.2.2.1 a.1 []) (cond (cond (zdv<|ix a.2.2.2.2.2.1 a.1 []) false true) oF<|h (zM .i64 a.1 1,a.2.1,a.2.2.1,a.2.2.2.1,a.2.2.2.2.1,a.2.2.2.2.2.1,a.2.2.2.2.2.2.1,a.2.2.2.2.2.2.2.1,a.2.2.2.2.2.2.2.2.1,a.2.2.2.2.2.2.2.2.2.1,())) none) none)<|h (zM .i64 a.1 1,a.2.1,a.2.2.1,a.2.2.2.1,a.2.2.2.2.1,a.2.2.2.2.2.1,a.2.2.2.2.2.2.1,a.2.2.2.2.2.2.2.1,a.2.2.2.2.2.2.2.2.1,a.2.2.2.2.2.2.2.2.2.1,())) none) none) none)<|cond (cond (cond (cond (ieq (ix a.2.2.2.2.1 a.1 zbe).af zbo.af) (ieq (ix a.2.2.2.2.1 a.1 zbe).aj zbo.aj) false) false true) false true) (cond (inb a.1<|ln a.2.2.2.2.2.1) (cond (zeI<|ix a.2.2.2.2.2.1 a.1 []) (cond (cond (zdv<|ix a.2.2.2.2.2.1 a.1 []) false true) oF<|h (zM .i64 a.1 1,a.2.1,a.2.2.1,a.2.2.2.1,a.2.2.2.2.1,a.2.2.2.2.2.1,a.2.2.2.2.2.2.1,a.2.2.2.2.2.2.2.1,a.2.2.2.2.2.2.2.2.1,a.2.2.2.2.2.2.2.2.2.1,())) none) none)<|h (zM .i64 a.1 1,a.2.1,a.2.2.1,a.2.2.2.1,a.2.2.2.2.1,a.2.2.2.2.2.1,a.2.2.2.2.2.2.1,a.2.2.2.2.2.2.2.1,a.2.2.2.2.2.2.2.2.1,a.2.2.2.2.2.2.2.2.2.1,())) none) none)<|cond (ile (ln a.2.2.2.2.2.2.2.2.1) 40) (cond (zc8 a.2.1) (cond (zfZ a.2.1) (cond (zQ a.2.2.1 0 3) (cond (zl a.2.2.1 0 3) (cond (zQ a.2.2.2.1 0 1000000000) (some [.one<|.b<|zl a.2.2.2.1 0 1000000000]) none) oF) none) oF) none) oF) (0,c.ai,c.aq,c.Own,c.ae,c.Out,c.au,c.ac,c.Outs,c.am,())) (λi g t rec=>?_) (λt rec=>?_) _ ()<|d hg).trans ?_;{simp only [zbK g,zbc g,zbr g,zbx g hg,cT];simp only[zbV,zlx,cT];cases ze0 c.ac[i]<;>rfl};{simp only [zbw,cF]};rw[znQ ze0];cases B:c.ac.all ze0;{simp only [cF];cases ile (ln c.Outs) 40<;>cases zdz c.ai<;>cases zl c.aq 0 3<;>cases zl c.Own 0 1000000000<;>rfl};simp only[cT];refine(zt3 8 (λj (u:Unit)=>((j:Int),c.ai,c.aq,c.Own,c.ae,c.Out,c.au,c.ac,c.Outs,c.am,())) _ (λj (_:Unit) l=>bif fits c j then l () else oF) (λ(u:Unit)=>cond (ile (ln c.Outs) 40) (cond (zc8 c.ai) (cond (zfZ c.ai) (cond (zQ c.aq 0 3) (cond (zl c.aq 0 3) (cond (zQ c.Own 0 1000000000) (some [.one<|.b<|zl c.Own 0 1000000000]) none) oF) none) oF) none) oF) (λj v u f=>?_) (λu f=>?_) _ ()<|d (by decide)).trans ?_;{simp only [show ilt (j:Int) 8=true from qM (by omega),zbx v (show 8<=big by decide),cT];have e:j<c.ae.length:=(by omega);have k:j<c.Out.length:=(by omega);simp only[zb3,zbo,zeI,zdv,zcG,zd1,zbc e,zbc k,z8m,cT];unfold fits znU;simp only[zbr e,zdh];cases ieq c.ae[j].af z0.af<;>cases ieq c.ae[j].aj z0.aj<;>cases enough c.ae[j].aj 1<;>cases ile (ln<|ix c.Out (j:Int) []) 0<;>cases zcK (ix c.Out (j:Int) [])<;>rfl};{simp only [show ilt ((8:Nat):Int) 8=false from qT (by omega),cF];rfl};rw[zMu<|fits c];simp only[zc8,zfZ,zQ,zRX,cT];cases zpM (fits c) 8 0<;>cases ile (ln c.Outs) 40<;>cases zdz c.ai<;>cases zl c.aq 0 3<;>cases zl c.Own 0 1000000000<;>rfl
def zQq:vT 81 zGj:=hF1 zSz zJ zC zq zWL zV4
def z5Z:zW:=[(81,zGj)]++z5Y
def zSA:zL z5Z:=zh zQq zSz
def zia:List k0->List Bool->Option (List Bool)
 |[],u=>some u
 |s::l,u=>bif ilt s.af 0 then zia l u else (cond (ix u s.af false) none<|zia l<|up u s.af true)
def zlf:List Mon->List Bool->Bool
 |[],_=>true
 |m::l,u=>bif zfT m then (match zia m.ae u with|some a=>zlf l a|none=>false) else false
def zcj (h:ad):Bool:=bif zl3 h.ag 12 then (cond (zl (ln h.aa) 1 3) (cond (zgk h.ao) (cond (zgk h.an) (zlf h.aa<|rp 12 false) false) false) false) else false
def zte:∀(l:List k0) (u a:List Bool),zia l u=some a->a.length=u.length
 |[],u,a,h=>by cases h;rfl
 |s::l,u,a,h=>by simp only[zia]at h;cases b:ilt s.af 0;{rw [b]at h;cases c:ix u s.af false;{rw [c]at h;simpa using zte l _ a h};{rw [c]at h;cases h}};{rw [b]at h;exact zte l u a h}
def zOd {t:List k0}{n:Int}(h:zdy t n 12=true):∀s∈t,s.af<12:=by intro s d;unfold zdy at h;cases b:t.all (λs=>zeM s 12);{rw [b]at h;cases h};{have:=qO.1 b s d;unfold zeM at this;cases a:zdh s z0;{rw [a] at this;simp only[cF,show igt 12 0=true from rfl,cT] at this;cases c:zl s.af 0 (wsub .i64 12 1);{rw [c] at this;cases this};{have:=(zgz.1 c).2;rw[show wsub .i64 12 1=11 from rfl] at this;omega}};{unfold zdh at a;rw[qE]at a;have a:s.af = -1:=qF a.1;omega}}
def zVp {s:k0}{u:List Bool}(h:s.af<12)(b:u.length=12)(a:ilt s.af 0=false):inb s.af (ln u)=true:=by have:=jV a;exact qM (by simp only[ln];omega)
def zyK {a:Type}(r:Option a)(y:k0)(u:List Bool)(b:List Bool->Option a):Option a:=bif ilt y.af 0 then b u else (cond (inb y.af<|ln u) (cond (ix u y.af false) r<|cond (inb y.af<|ln u) (p0 (up u y.af true) λc=>b c) none) none)
def zHb {c:Type}(r:Option c)(K:List Bool->Option c):∀(l:List k0) (i:Nat) (u:List Bool),(∀s∈l,s.af<12)->u.length=12->
 goL (λ_ y u g=>zyK r y u g) K l i u=match zia l u with|some f=>K f|none=>r
 |[],_,_,_,_=>rfl
 |s::l,i,u,h,b=>by simp only[goL,zia,zyK];cases d:ilt s.af 0;{have e:=zVp (h s (by simp)) b d;rw[e];cases ix u s.af false;{simp only [cF,cT,p0];exact zHb r K l (i+1) _ (λs a=>h s (by simp[a])) (by simpa using b)};{rfl}};{simp only [cT];exact zHb r K l (i+1) u (λs a=>h s (by simp[a])) b}
def zde {c x:Bool}:((cond c x false)=true)↔c=true/\x=true:=by cases c<;>simp
def zqW {m:Mon}(h:zfT m=true):zdy m.ae 8 12=true:=by unfold zfT at h;simp only[zde]at h;exact h.2.2.1
@[simp] abbrev zfX (h:ad):Bool:=true
@[simp] abbrev zfW (h:ad):Bool:=zcj h
def zHc {e:Type}(r:Option e)(k:List Bool->Option e)(m:Mon):∀(n i:Nat) (u:List Bool),(∀s∈m.ae,s.af<12)->u.length=12->i+n=m.ae.length->
 goN (λj u d=>bif inb (j:Int) (ln m.ae) then zyK r (ix m.ae (j:Int) zbe) u d else none) k n i u=goL (λ_ y u d=>zyK r y u d) k (m.ae.drop i) i u
 | 0,i,u,_,_,h=>by have:i=m.ae.length:=(by omega);subst this;simp[goN,goL]
 |n+1,i,u,b,c,h=>by have a:i<m.ae.length:=(by omega);rw[kC a];simp only[goN,goL,zbc a,zbr a,cT,zyK];cases f:ilt m.ae[i].af 0;{rw [zVp (b _<|jM a) c f];cases ix u m.ae[i].af false;{simp only [cF,cT,p0];exact zHc r k m n (i+1) _ b (by simpa using c) (by omega)};{rfl}};{simp only [cT];exact zHc r k m n (i+1) u b c (by omega)}
def zDb:Run:=rF1 dH λb=>(zfX b,[aB<|zfW b])
def zIT (N:Nat)(b:ad):OA:=
 (oN (zrX b.ag 12)<|cond (nB<|zmd b.ag 12) oF<|oN (zQ (ln b.aa) 1 3)<|cond (nB<|zl (ln b.aa) 1 3) oF<|oN (zoU b.ao)<|cond (nB<|zoT b.ao) oF<|oN (zoU b.an)<|cond (nB<|zoT b.an) oF<|oN (cond (few 12) (ieq 12 12) false)<|iter (σ:=(Int×lB×lM×lN×lE×lE×Unit)) N (λq c=>let n:=ix c.2.2.2.1 c.1 zi; (cond (ilt c.1<|ln c.2.2.2.1) (oN (inb c.1<|ln c.2.2.2.1)<|oN (zrZ n)<|cond (nB<|ztp n) oF<|iter (σ:=(Int×Int×lB×lM×lN×lE×lE×Unit)) N (λi a=>let k:=zM .i64 a.2.1 1;let h:=a.2.2.2.2.2.1;let g:=a.2.2.2.2.2.2.1;let f:=a.2.2.1;let e:=a.2.2.2.2.1;let p:=(ix e a.1 zi).ae;let m:=i (a.1,k,f,a.2.2.2.1,e,h,g,());let d:=(ix p a.2.1 zbe).af;let l:=inb d<|ln f; (cond (ilt a.2.1 8) (oN (inb a.1<|ln e)<|oN (inb a.2.1<|ln p)<|cond (ige d 0) (oN l<|cond (ix f d false) oF<|cond (ige d 0) (oN l<|p0 (up f d true) λj=>i (a.1,k,j,a.2.2.2.1,e,h,g,())) m)<|cond (ige d 0) (oN l<|p0 (up f d true) λj=>i (a.1,k,j,a.2.2.2.1,e,h,g,())) m)<|q (zM .i64 a.1 1,f,a.2.2.2.1,e,h,g,()))) (c.1,0,c.2.1,c.2.2.1,c.2.2.2.1,c.2.2.2.2.1,c.2.2.2.2.2.1,())) oT)) (0,rp 12 false,b.ag,b.aa,b.ao,b.an,()))
def zU6:=zA [(28,0,{n:=72,tm:=[(1,.lp 0 0),(3,.sl 0 []),(4,ti)],lo:=[(0,[.sl 1 [],.sl 2 [],.sl 3 [],.sl 4 []])],ro:=[(0,.bool,true),(1,.sl .int,false),(2,.mon,false),(3,.entry,false),(4,.entry,false)]}),(28,2,{n:=72,tm:=[(1,.lp 0 0),(3,.sl 0 []),(4,ti),(5,ti)],lo:=[(0,[.sl 1 [],.sl 2 [],.sl 3 [],.sl 4 []])],ro:=[(0,.bool,true),(1,.sl .int,false),(2,.mon,false),(3,.entry,false),(4,.entry,false)]})]
def zTr (a:ad)(y:zb5 big [aH a])(F:zfX a=true):∃N,zIT N a=some [aB<|zfW a]:=by
 have A:CVB big (.s .mon a.aa):=(zbI y).1 _ (by simp[AV.cvs,zbn]);have h:=A.len;refine zcI λN f=>?_;unfold zIT zfW zcj oN nB;conv=>zeta
 refine j0 rfl (stB λD=>j0 rfl (stB λq=>j0 rfl (stB λr=>j0 rfl (stB λE=>j0 rfl ?_))));refine(zbJ a.aa (λi (t:lB)=>((i:Int),t,a.ag,a.aa,a.ao,a.an,())) _ (λ_ (x:Mon) (u:List Bool) d=>bif zfT x then goN (λj u d=>bif inb (j:Int) (ln x.ae) then zyK (oF) (ix x.ae (j:Int) zbe) u d else none) d 8 0 u else oF) (λ(t:lB)=>some [.one<|.b true]) (λi c t rec=>?_) (λt rec=>?_) _ (rp 12 false)<|f h).trans ?_;{simp only [zbK c,zbc c,zbr c,zbx c h,cT];cases v:zfT a.aa[i];{simp only [zrZ,ztp,v,cT,cF]};simp only[zrZ,ztp,v,cT,cF];refine(zt3 8 (λj (u:lB)=>((i:Int),(j:Int),u,a.ag,a.aa,a.ao,a.an,())) _ (λj (u:List Bool) d=>bif inb (j:Int) (ln a.aa[i].ae) then zyK (oF) (ix a.aa[i].ae (j:Int) zbe) u d else none) (λ(u:lB)=>rec (((i+1:Nat):Int),u,a.ag,a.aa,a.ao,a.an,())) (λj z u g=>?_) (λu g=>?_) _ (t)<|f (by decide)).trans ?_;{simp only [show ilt (j:Int) 8=true from qM (by omega),zbx z (show 8<=big by decide),cT,zbc c,zbr c,zbx c h];unfold zyK;have e:ige (ix a.aa[i].ae (j:Int) zbe).af 0 = !ilt (ix a.aa[i].ae (j:Int) zbe).af 0:=(by rw[z8n,Bool.not_not]);simp only[e];cases ilt (ix a.aa[i].ae (j:Int) zbe).af 0<;>cases inb (j:Int) (ln a.aa[i].ae)<;>cases inb (ix a.aa[i].ae (j:Int) zbe).af (ln u)<;>cases ix u (ix a.aa[i].ae (j:Int) zbe).af false<;>rfl};{simp only [show ilt ((8:Nat):Int) 8=false from qT (by omega),cF,zbc c,zbr c,zbx c h]};rfl};{simp only [zbw,cF]};have p:∀(l:List Mon) (i:Nat) (u:List Bool),u.length=12->goL (λ_ (x:Mon) (u:List Bool) d=>bif zfT x then goN (λj u d=>bif inb (j:Int) (ln x.ae) then zyK (oF) (ix x.ae (j:Int) zbe) u d else none) d 8 0 u else oF) (λ_=>oT) l i u=some [AV.one<|.b<|zlf l u]:=(by intro l;induction l with|nil=>intro i u _;rfl|cons m l B=>intro i u n;simp only[goL,zlf];cases q:zfT m;{rfl};{have k:=zqW q;have w:0+8=m.ae.length:=(by have:=zwa k;simp only[ln] at this;omega);simp only[cT];rw[zHc _ _ m 8 0 u (zOd k) n w,uX,zHb _ _ _ _ _ (zOd k) n];cases r:zia m.ae u with|none=>rfl|some C=>exact B (i+1) C ((zte _ _ _ r).trans n)});exact p _ _ _ rfl
def zMN:vT 28 zDb:=hF1 zSA zJ zC zq zU6 zTr
def z6a:zW:=[(28,zDb)]++z5Z
def zG0:zL z6a:=zh zMN zSA
def zYG {h:ad}(a:zcj h=true):(h.aa.length:Int)<=3:=by unfold zcj at a;simp only[zde]at a;exact(zgz.1 a.2.1).2
def zc0 (h:ad)(m:Int):Bool:=bif zcj h then i0 m (ln h.aa) else false
def zcH (h:ad)(m p:Int):Bool:=bif zcj h then (cond (i0 m<|ln h.aa) (i0 p 8) false) else false
def zOE {h:ad}(a:zcj h=true)(m:Int):zl m 0 (wsub .i64 (ln h.aa) 1)=i0 m (ln h.aa):=zqE (by have:=zYG a;omega) m
@[simp] abbrev zf3 (h:ad)(m:Int):Bool:=true
@[simp] abbrev zf2 (h:ad)(m:Int):Bool:=zc0 h m
def zDo:Run:=rF2 dH dI λb c=>(zf3 b c,[aB<|zf2 b c])
def zJd (N:Nat)(a:ad)(b:Int):OA:=
 (oN (zfX a)<|cond (zfW a) (oN (zQ b 0<|wsub .i64 (ln a.aa) 1)<|some [aB<|zl b 0<|wsub .i64 (ln a.aa) 1]) oF)
def zTN (a:ad)(b:Int)(d:zf3 a b=true):∃N,zJd N a b=some [aB<|zf2 a b]:=by refine⟨0,?_⟩;unfold zJd zf2 zc0 oN;cases c:zcj a;{simp only [zfX,zfW,c,cT,cF]};{simp only [zfX,zfW,c,cT,zQ,zRX,zOE c]}
def zNf:vT 331 zDo:=kF2 zG0 zJ zC zq (zA []) zTN
@[simp] abbrev zn2 (h:ad)(m p:Int):Bool:=true
@[simp] abbrev zgb (h:ad)(m p:Int):Bool:=zcH h m p
def zGn:Run:=rF3 dH dI dI λb c d=>(zn2 b c d,[aB<|zgb b c d])
def zOU (N:Nat)(a:ad)(b c:Int):OA:=
 (oN (zfX a)<|cond (zfW a) (oN (zQ b 0<|wsub .i64 (ln a.aa) 1)<|cond (zl b 0<|wsub .i64 (ln a.aa) 1) (oN (zQ c 0 7)<|some [aB<|zl c 0 7]) oF) oF)
def zWa (a:ad)(b c:Int)(e:zn2 a b c=true):∃N,zOU N a b c=some [aB<|zgb a b c]:=by refine⟨0,?_⟩;unfold zOU zgb zcH oN;cases d:zcj a;{simp only [zfX,zfW,d,cT,cF]};{simp only [zfX,zfW,d,cT,zQ,zRX,zOE d,z9O];cases i0 b (ln a.aa)<;>rfl}
def zQx:vT 182 zGn:=kF3 zG0 zJ zC zq (zA []) zWa
def z6b:zW:=[(331,zDo),(182,zGn)]++z6a
def zSB:zL z6b:=zh zNf (zh zQx zG0)
def zdJ (k:az)(p:Int):Bool:=bif i0 p (ln k.ay) then i0 p (ln k.aC) else false
def zbX (k:az)(p:Int):az:=bif zdJ k p then ⟨up k.ay p false,up k.aC p z0⟩ else k
@[simp] def zpy {k:az}{p:Int}(h:SmK k):SmK (zbX k p):=by unfold zbX;cases zdJ k p;{exact h};{exact⟨by simpa using h.1,by simpa using h.2⟩}
def has_lt {p:Int}{n m:Int}(h:i0 p n=true):ilt p m=i0 p m:=by have h:=qF h;unfold ilt i0;by_cases a:p<m;{rw [qM a,qM ⟨h.1,a⟩]};{rw [qT a,qT (by omega)]}
@[simp] abbrev zds (k:az)(p:Int):Bool:=pc (SmK k)
@[simp] abbrev ziS (k:az)(p:Int):Bool:=zdJ k p
def zDm:Run:=rF2 (dT .kept) dI λb c=>(zds b c,[aB<|ziS b c])
def zJb (N:Nat)(a:az)(b:Int):OA:=
 (oN (zQ b 0<|wsub .i64 (ln a.ay) 1)<|cond (zl b 0<|wsub .i64 (ln a.ay) 1) (some [aB<|ilt b<|ln a.aC]) oF)
def zTK (a:az)(b:Int)(c:zds a b=true):∃N,zJb N a b=some [aB<|ziS a b]:=by have e:=zT.1 c;refine⟨0,?_⟩;unfold zJb ziS zdJ oN;simp only[zQ,zRX,zqE e.1,cT];cases d:i0 b (ln a.ay);{rfl};{simp only [cT,has_lt d]}
def zM4:vT 389 zDm:=kF2 zSB zJ zC zq (zA []) zTK
def z6c:zW:=[(389,zDm)]++z6b
def zG1:zL z6c:=zh zM4 zSB
@[simp] abbrev zhk (k:az)(p:Int):az:=zbX k p
def zoD:Run:=rF2 (dT .kept) dI λb c=>(zds b c,[aT .kept<|zhk b c])
def zIR (N:Nat)(c:az)(b:Int):OA:=
 let a:=zdD c; (oN (zgN c)<|oN (zds a b)<|cond (ziS a b) (oN (inb b<|ln a.ay)<|p0 (up a.ay b false) λd=>oN zb3<|oN (inb b<|ln a.aC)<|p0 (up a.aC b zbo) λe=>some [aT .kept (⟨d,e⟩:az)])<|some [aT .kept a])
def zTp (a:az)(b:Int)(g:zds a b=true):∃N,zIR N a b=some [aT .kept<|zhk a b]:=by
 have d:=zT.1 g;refine⟨0,?_⟩;unfold zIR zhk oN;conv=>zeta
 refine j0 (zbH<|(zxf _).2 d) (j0 (zbH d) ?_);unfold zbX;cases c:zdJ a b;{simp only [ziS,zdD,c,cF]};{simp only [ziS,zdD,c,cT];unfold zdJ at c;obtain⟨e,f⟩:=zde.1 c;simp only[zS7,e,f,cT,p0,zb3]}
def zML:vT 334 zoD:=kF2 zG1 zJ zC zq (zA []) zTp
def zIE (N:Nat)(b:az)(a:Int):OA:=
 let c:=zd0 b; (oN (ze6 b)<|oN (zcG a<|ln b.ay)<|cond (zib a<|ln b.ay) (oN (zcG a<|ln b.aC)<|cond (zib a<|ln b.aC) (oN (inb a<|ln c.ay)<|p0 (up c.ay a false) λd=>oN zb3<|oN (inb a<|ln c.aC)<|p0 (up c.aC a zbo) λe=>some [aT .kept (⟨d,e⟩:az)])<|some [aT .kept c])<|some [aT .kept c])
def zTd (a:az)(b:Int)(c:zds a b=true):∃N,zIE N a b=some [aT .kept<|zhk a b]:=by
 have d:=zT.1 c;refine⟨0,?_⟩;unfold zIE zhk oN;conv=>zeta
 refine j0 (zbH d) (j0 rfl ?_);unfold zbX zdJ;simp only[zib,zcG,zd0,zS7,p0,zb3,cT];cases i0 b (ln a.ay);{rfl};{cases i0 b (ln a.aC)<;>rfl}
def zMy:vT 305 zoD:=kF2 zG1 zJ zC zq (zA []) zTd
def z6d:zW:=[(334,zoD),(305,zoD)]++z6c
def ztE:zL z6d:=zh zML (zh zMy zG1)
def zeT (k:az)(l:LI):az:=l.foldl zbX k
def zXF:∀(l:LI) {k:az},SmK k->SmK (zeT k l)
 |[],_,h=>h
 |p::l,k,h=>zXF l (zpy (p:=p) h)
def zy3 {b:Type}(K:List Bool×List k0->Option b):∀(l:LI) (i:Nat) (k:az),SmK k->
 goL (λ_ x (t:List Bool×List k0) a=>bif pc (SmK ⟨t.1,t.2⟩) then a ((zbX ⟨t.1,t.2⟩ x).ay,(zbX ⟨t.1,t.2⟩ x).aC) else none) K l i (k.ay,k.aC)=K ((zeT k l).ay,(zeT k l).aC)
 |[],_,_,_=>rfl
 |x::l,i,k,h=>by have e:pc (SmK ⟨k.ay,k.aC⟩)=true:=zbH h;simp only[goL,e,cT];exact zy3 K l (i+1) (zbX k x) (zpy h)
def zDJ (l:List k0)(p:Int):LI:=idxs (λ(s:k0)=>ieq s.af p) l 0
def zjM (k:az)(l:List k0)(p:Int):az:=zeT k (zDJ l p)
def z4U {k:az}(l:List k0)(p:Int)(h:SmK k):SmK (zjM k l p):=zXF _ h
@[simp] abbrev zhO (k:az)(l:List k0)(p:Int):Bool:=pc (SmK k/\l.length<=1048576)
@[simp] abbrev zlw (k:az)(l:List k0)(p:Int):az:=zjM k l p
def zjV:Run:=rF3 (dT .kept) (dS .slot) dI λb c d=>(zhO b c d,[aT .kept<|zlw b c d])
def zxa (N:Nat)(c:az)(e:lS)(f:Int):OA:=
 (oN (zgN c)<|oN (zo6 e f)<|iter (σ:=(Int×LI×lB×lS×lB×lS×Unit)) N (λg a=>let d:=ix a.2.1 a.1 0;let b:=(⟨a.2.2.1,a.2.2.2.1⟩:az); (cond (ilt a.1<|ln a.2.1) (oN (inb a.1<|ln a.2.1)<|oN (zds b d)<|g (zM .i64 a.1 1,a.2.1,(zhk b d).ay,(zhk b d).aC,a.2.2.2.2.1,a.2.2.2.2.2.1,()))<|some [aT .kept b])) (0,zgw e f,(zdD c).ay,(zdD c).aC,[],[],()))
def zIz:=zA [(445,0,{n:=27,tm:=[(3,.lp 0 0),(6,.lp 1 0),(7,.sl 0 []),(8,ti)],lo:=[(0,[.sl 1 [],.sl 2 []]),(1,[.sl 3 [],.sl 4 []])],ro:=[(0,.int,true),(1,.bool,true),(2,.slot,true),(3,.bool,true),(4,.slot,true)]})]
def zHY (b:az)(a:List k0)(c:Int)(j:zhO b a c=true):∃N,zxa N b a c=some [aT .kept<|zlw b a c]:=by
 obtain⟨h,f⟩:=zT.1 j;have g:(zgw a c).length<=big:=qS (zzc _ a 0) (zcO f).1;refine zcI λN e=>?_;unfold zxa oN;conv=>zeta
 refine j0 (zbH<|(zxf _).2 h) (j0 (zbH (by omega)) ?_);refine(zbJ (zgw a c) (λi (t:lB×lS)=>((i:Int),zgw a c,t.1,t.2,[],[],())) _ (λ_ (x:Int) (t:List Bool×List k0) k=>bif pc (SmK ⟨t.1,t.2⟩) then k ((zbX ⟨t.1,t.2⟩ x).ay,(zbX ⟨t.1,t.2⟩ x).aC) else none) (λ(t:lB×lS)=>some [.agg<|Ty.cells .kept (⟨t.1,t.2⟩:az)]) (λi d t rec=>?_) (λt rec=>?_) _ ((zdD b).ay,(zdD b).aC)<|e g).trans ?_;{simp only [zbK d,zbc d,zbr d,zbx d g,cT]};{simp only [zbw,cF]};exact zy3 _ _ 0 b h
def zCy:vT 445 zjV:=kF3 ztE zJ zC zq zIz zHY
def zw4 (N:Nat)(c:az)(d:lS)(e:Int):OA:=
 (oN (ze6 c)<|oN (zo6 d e)<|iter (σ:=(Int×Int×LI×lB×lS×lB×lS×Unit)) N (λg a=>let f:=ix a.2.2.1 a.2.1 0;let b:=(⟨a.2.2.2.2.2.1,a.2.2.2.2.2.2.1⟩:az); (cond (ilt a.2.1 a.1) (oN (inb a.2.1<|ln a.2.2.1)<|oN (zds b f)<|g (a.1,zM .i64 a.2.1 1,a.2.2.1,a.2.2.2.1,a.2.2.2.2.1,(zhk b f).ay,(zhk b f).aC,()))<|some [aT .kept b])) (ln<|zgw d e,0,zgw d e,[],[],(zd0 c).ay,(zd0 c).aC,()))
def zIv:=zA [(430,0,{n:=25,tm:=[(6,.lp 0 0),(7,.lp 1 0),(14,.sl 0 []),(15,ti),(16,ti)],lo:=[(0,[.sl 1 [],.sl 2 []]),(1,[.sl 3 [],.sl 4 []])],ro:=[(0,.int,true),(1,.bool,true),(2,.slot,true),(3,.bool,true),(4,.slot,true)]})]
def zHO (c:az)(a:List k0)(b:Int)(j:zhO c a b=true):∃N,zw4 N c a b=some [aT .kept<|zlw c a b]:=by
 obtain⟨h,f⟩:=zT.1 j;have g:(zgw a b).length<=big:=qS (zzc _ a 0) (zcO f).1;refine zcI λN e=>?_;unfold zw4 oN;conv=>zeta
 refine j0 (zbH h) (j0 (zbH (by omega)) ?_);refine(zbJ (zgw a b) (λi (t:lB×lS)=>(ln<|zgw a b,(i:Int),zgw a b,[],[],t.1,t.2,())) _ (λ_ (x:Int) (t:List Bool×List k0) k=>bif pc (SmK ⟨t.1,t.2⟩) then k ((zbX ⟨t.1,t.2⟩ x).ay,(zbX ⟨t.1,t.2⟩ x).aC) else none) (λ(t:lB×lS)=>some [.agg<|Ty.cells .kept (⟨t.1,t.2⟩:az)]) (λi d t rec=>?_) (λt rec=>?_) _ ((zd0 c).ay,(zd0 c).aC)<|e g).trans ?_;{simp only [zbK d,zbc d,zbr d,zbx d g,cT]};{simp only [zbw,cF]};exact zy3 _ _ 0 c h
def zCq:vT 430 zjV:=kF3 ztE zJ zC zq zIv zHO
def flushed (l:List ar)(p:Int):List ar:=l.filter λe=>!ieq e.ad p
def zFV (l:List ar)(p:Int):(flushed l p).length<=l.length:=uJ _ _
def zon {b e:Type}(p:b->Bool)(K:List b->Option e):∀(l:List b) (i:Nat) (a:List b),a.length+l.length<=2147483648->
 goL (λ_ x a d=>bif p x then (cond (few<|ln<|ap a [x]) (d<|ap a [x]) none) else d a) K l i a=K (a++l.filter p)
 |[],i,a,_=>by simp[goL]
 |x::l,i,a,h=>by simp only[qX]at h;simp only[goL];cases c:p x;{rw [cF,zon p K l (i+1) a (by omega),List.filter_cons_of_neg (by simp[c])]};{rw [cT,zhn (by simp[ap];omega),cT,zon p K l (i+1) _ (by simp[ap];omega),List.filter_cons_of_pos c];simp[ap]}
@[simp] abbrev zd6 (l:List ar)(p:Int):Bool:=pc (l.length<=1048576)
@[simp] abbrev zgH (l:List ar)(p:Int):List ar:=flushed l p
def zkW:Run:=rF2 (dS .entry) dI λb c=>(zd6 b c,[aS .entry<|zgH b c])
def zz8 (N:Nat)(e:lE)(f:Int):OA:=
 (iter (σ:=(Int×Int×lE×lE×Unit)) N (λd a=>let b:=a.2.2.1;let c:=ix b a.2.1 zjz; (cond (ilt a.2.1<|ln b) (oN (inb a.2.1<|ln b)<|cond (ine c.ad a.1) (oN (inb a.2.1<|ln b)<|oN (few<|ln<|ap a.2.2.2.1 [c])<|d (a.1,zM .i64 a.2.1 1,b,ap a.2.2.2.1 [c],()))<|d (a.1,zM .i64 a.2.1 1,b,a.2.2.2.1,()))<|some [aS .entry a.2.2.2.1])) (f,0,e,[],()))
def zL2:=zA [(446,0,{n:=29,tm:=[(0,.sl 0 []),(1,ti),(5,.sl 1 []),(6,ti)],lo:=[],ro:=[(0,.entry,false),(1,.entry,true)]})]
def zKT (a:List ar)(b:Int)(h:zd6 a b=true):∃N,zz8 N a b=some [aS .entry<|zgH a b]:=by
 have j:=zT.1 h;have f:=zcO j;refine zcI λN d=>?_;unfold zz8 oN;conv=>zeta
 refine(zbJ a (λi (t:lE)=>(b,(i:Int),a,t,())) _ (λ_ (x:ar) (t:List ar) g=>bif !ieq x.ad b then (cond (few<|ln<|ap t [x]) (g<|ap t [x]) none) else g t) (λ(t:lE)=>some [.one<|.s .entry t]) (λi c t rec=>?_) (λt rec=>?_) _ ([])<|d f.1).trans ?_;{simp only [zbK c,zbc c,zbr c,zbx c f.1,cT];rfl};{simp only [zbw,cF]};exact zon (λe=>!ieq e.ad b) _ a 0 [] (by simpa using f.2)
def zEx:vT 446 zkW:=kF2 ztE zJ zC zq zL2 zKT
def zzW (N:Nat)(d:lE)(f:Int):OA:=
 (iter (σ:=(Int×Int×Int×lE×lE×Unit)) N (λe a=>let b:=a.2.2.2.2.1;let c:=ix b a.2.1 zjz; (cond (ilt a.2.1 a.1) (oN (inb a.2.1<|ln b)<|cond (nB<|ieq c.ad a.2.2.1) (oN (few<|ln<|ap a.2.2.2.1 [c])<|e (a.1,zM .i64 a.2.1 1,a.2.2.1,ap a.2.2.2.1 [c],b,()))<|e (a.1,zM .i64 a.2.1 1,a.2.2.1,a.2.2.2.1,b,()))<|some [aS .entry a.2.2.2.1])) (ln d,0,f,[],d,()))
def zLW:=zA [(418,0,{n:=25,tm:=[(1,.fn 467 [0]),(5,.sl 0 []),(9,.sl 1 []),(10,ti),(11,ti)],lo:=[(0,[ti])],ro:=[(0,.entry,true),(1,.entry,false)]})]
def zKE (a:List ar)(b:Int)(h:zd6 a b=true):∃N,zzW N a b=some [aS .entry<|zgH a b]:=by
 have j:=zT.1 h;have f:=zcO j;refine zcI λN d=>?_;unfold zzW oN nB;conv=>zeta
 refine(zbJ a (λi (t:lE)=>(ln a,(i:Int),b,t,a,())) _ (λ_ (x:ar) (t:List ar) g=>bif !ieq x.ad b then (cond (few<|ln<|ap t [x]) (g<|ap t [x]) none) else g t) (λ(t:lE)=>some [.one<|.s .entry t]) (λi c t rec=>?_) (λt rec=>?_) _ ([])<|d f.1).trans ?_;{simp only [zbK c,zbc c,zbr c,zbx c f.1,cT];cases ieq a[i].ad b<;>rfl};{simp only [zbw,cF]};exact zon (λe=>!ieq e.ad b) _ a 0 [] (by simpa using f.2)
def zEk:vT 431 zkW:=kF2 ztE zJ zC zq zLW zKE
def zX8:zW:=[(445,zjV),(430,zjV),(446,zkW),(431,zkW)]++z6d
def zG2:zL zX8:=zh zCy (zh zCq<|zh zEx<|zh zEk ztE)
def zlN (b:List ah)(p:Int):Nat->List az->List az
 | 0,a=>a
 |n+1,a=>up (zlN b p n a) (n:Int) (zjM (ix (zlN b p n a) (n:Int) zhq) (ix b (n:Int) zD).aw p)
def zqB (b:List ah)(p:Int):∀(n:Nat) (a:List az),(zlN b p n a).length=a.length
 | 0,_=>rfl
 |n+1,a=>by simp only[zlN,zhp];exact zqB b p n a
def zv8 (b:List ah)(p:Int):∀(n:Nat) (a:List az),n<=a.length->zBX a->zBX (zlN b p n a)
 | 0,_,_,h=>h
 |n+1,a,e,h=>by have d:=zv8 b p n a (by omega) h;have c:n<(zlN b p n a).length:=(by rw[zqB];omega);exact zyk d (z4U _ _ (by rw[zbr c];exact d.2 _ (jM c)))
def zkR (x:Mon)(p:Int)(n:Nat):Mon:={x with am:=zlN x.ac p n x.am}
def z2F {x:Mon}{p:Int}{n:Nat}(a:n<=x.am.length)(h:zfH x):zfH (zkR x p n):=⟨h.1,h.2.1,h.2.2.1,h.2.2.2.1,h.2.2.2.2.1,zv8 _ _ _ _ a h.2.2.2.2.2⟩
def zcq (h:ad)(m p:Int)(s:k0):ad :=
 bif ine (ix (ix h.aa m zi).ae p zbe).af (-1)
 then ⟨h.ag,up h.aa m {zkR (ix h.aa m zi) p (ix h.aa m zi).am.length with ae:=up (ix h.aa m zi).ae p s},flushed h.ao (ix (ix h.aa m zi).ae p zbe).af,flushed h.an (ix (ix h.aa m zi).ae p zbe).af⟩
 else ⟨h.ag,up h.aa m {zkR (ix h.aa m zi) p (ix h.aa m zi).am.length with ae:=up (ix h.aa m zi).ae p s},h.ao,h.an⟩
def z9g (h:ad)(m p:Int):Prop:=i0 m (ln h.aa)=true/\i0 p (ln (ix h.aa m zi).ae)=true/\(ix h.aa m zi).am.length<=(ix h.aa m zi).ac.length
@[simp] abbrev zfE (h:ad)(m p:Int)(s:k0):Bool:=pc (zcR h/\z9g h m p)
@[simp] abbrev zhD (h:ad)(m p:Int)(s:k0):ad:=zcq h m p s
def zsp:LW
 |[.agg [.s (.sl .int) b,.s .mon c,.s .entry d,.s .entry e],.one<|.i .i64 f,.one<|.i .i64 g,.agg [.i .i64 h,.i .i64 j]]=>some (zfE (⟨b,c,d,e⟩:ad) f g (⟨h,j⟩:k0),[aH<|zhD (⟨b,c,d,e⟩:ad) f g (⟨h,j⟩:k0)])
 |_=>none
def zwo (N:Nat)(p:ad)(g z:Int)(B:k0):OA:=
 let v:=ix p.aa g zi; (oN (inb g<|ln p.aa)<|oN (inb z<|ln v.ae)<|iter (σ:=(Int×Int×Int×Int×Int×Int×Int×Int×Int×Int×Int×Int×Int×Int×Int×lM×lN×lE×lE×lM×lN×lE×lE×Unit)) N (λD a=>let d:=a.2.2.1;let m:=a.2.2.2.2.2.2.2.2.2.2.2.1;let l:=a.2.2.2.2.2.2.2.2.2.2.2.2.1;let k:=a.2.2.2.2.2.2.2.2.2.2.2.2.2.2.1;let j:=a.2.2.2.2.2.2.2.2.2.2.2.2.2.2.2.1;let f:=a.2.2.2.2.2.2.2.1;let e:=a.2.2.2.2.2.2.2.2.1;let c:=a.2.2.2.1;let w:=a.2.2.2.2.2.2.2.2.2.2.1;let y:=a.2.2.2.2.2.2.2.2.2.2.2.2.2.2.2.2.2.1;let x:=a.2.2.2.2.2.2.2.2.2.2.2.2.2.2.2.2.2.2.1;let n:=a.2.2.2.2.2.2.1;let r:=a.2.2.2.2.2.2.2.2.2.1;let i:=a.2.2.2.2.2.2.2.2.2.2.2.2.2.1;let q:=a.2.2.2.2.2.2.2.2.2.2.2.2.2.2.2.2.1;let u:=(ix q r zi).ac;let t:=(ix u c zD).aw;let h:=ix q n zi;let s:=(ix q i zi).am;let C:=up q n ({h with ae:=(up h.ae a.2.1 (⟨a.2.2.2.2.1,a.2.2.2.2.2.1⟩:k0))}:Mon); (cond (ilt c<|ln s) (oN (inb c<|ln s)<|oN (inb c<|ln u)<|oN (zhO (ix s c zhq) t a.2.1)<|oN (inb c<|ln s)<|p0 (up q i ({ (ix q i zi) with am:=(up s c<|zlw (ix s c zhq) t a.2.1)}:Mon)) λb=>D (a.1,a.2.1,d,zM .i64 c 1,a.2.2.2.2.1,a.2.2.2.2.2.1,n,f,e,r,w,m,l,i,k,j,b,y,x,a.2.2.2.2.2.2.2.2.2.2.2.2.2.2.2.2.2.2.2.1,a.2.2.2.2.2.2.2.2.2.2.2.2.2.2.2.2.2.2.2.2.1,a.2.2.2.2.2.2.2.2.2.2.2.2.2.2.2.2.2.2.2.2.2.1,a.2.2.2.2.2.2.2.2.2.2.2.2.2.2.2.2.2.2.2.2.2.2.1,()))<|cond (ine d<|-1) (oN (zd6 y d)<|oN (zd6 x d)<|oN (inb a.2.1<|ln h.ae)<|p0 C λb=>oN (inb a.1<|ln b)<|oN (cond (cond (cond (cond (cond (cond (ieq i a.1) true false) (cond (ieq w a.1) true false) false) (cond (ieq r a.1) true false) false) (cond (ieq e a.1) true false) false) (cond (ieq f a.1) true false) false) (cond (ieq n a.1) true false) false)<|p0 (up b a.1 ({ (ix b n zi) with Out:=(ix b f zi).Out,au:=(ix b e zi).au,ac:=(ix b r zi).ac,Outs:=(ix b w zi).Outs,ai:=m,aq:=l,am:=(ix b i zi).am,Own:=k}:Mon)) λA=>some [aH (⟨j,A,zgH y d,zgH x d⟩:ad)])<|oN (inb a.2.1<|ln h.ae)<|p0 C λb=>oN (inb a.1<|ln b)<|oN (cond (cond (cond (cond (cond (cond (ieq i a.1) true false) (cond (ieq w a.1) true false) false) (cond (ieq r a.1) true false) false) (cond (ieq e a.1) true false) false) (cond (ieq f a.1) true false) false) (cond (ieq n a.1) true false) false)<|p0 (up b a.1 ({ (ix b n zi) with Out:=(ix b f zi).Out,au:=(ix b e zi).au,ac:=(ix b r zi).ac,Outs:=(ix b w zi).Outs,ai:=m,aq:=l,am:=(ix b i zi).am,Own:=k}:Mon)) λA=>some [aH (⟨j,A,y,x⟩:ad)])) (g,z,(ix v.ae z zbe).af,0,B.af,B.aj,g,g,g,g,g,v.ai,v.aq,g,v.Own,p.ag,p.aa,p.ao,p.an,[],[],[],[],()))
def zRE:=zA [(362,0,{n:=70,tm:=[(1,ti),(2,ti),(4,.lp 0 0),(7,.lp 1 0),(8,.lp 2 0),(9,.lp 3 0),(10,ti),(11,ti)],lo:=[(0,[.sl 0 [],.sl 1 [],.sl 2 [],.sl 3 []]),(1,[ti,ti]),(2,[.sl 4 [],.sl 5 [],.sl 6 [],.sl 7 []]),(3,[.sl 1 [0],.sl 1 [1],.sl 1 [2],.sl 1 [3],.sl 1 [4],ti,ti,.sl 1 [7],ti])],ro:=[(0,.sl .int,true),(1,.mon,true),(2,.entry,true),(3,.entry,true),(4,.sl .int,true),(5,.mon,true),(6,.entry,true),(7,.entry,true)]})]
def zTX (N:Nat)(a:ad)(b c:Int)(d:k0):zDV (cQ zX8 zp3 zN2 zZR) zRE N 12 362 [true,true,true,true,false,false,false,false] 1 1 [[0],[1],[2],[4],[7]] .mon [aH a,aI b,aI c,aT .slot d]=zwo N a b c d:=by kernel_rfl
def zRb (a:ad)(f b:Int)(d:k0)(D:zb5 big [aH a,aI f,aI b,aT .slot d])(y:zfE a f b d=true):∃N,zwo N a f b d=some [aH<|zhD a f b d]:=by
 obtain⟨B,g,s,C⟩:=zT.1 y;have l:=(zU a).1 B;have r:zfH (ix a.aa f zi):=l.2.1.2 _ (zbF g _);obtain⟨k,rfl,q⟩:=zdW (n:=a.aa.length) g;have x:=(zcO r.2.2.2.2.2.1).1;refine zcI λN p=>?_;unfold zwo oN;conv=>zeta
 refine j0 g (j0 s ?_);refine zD5 (ix a.aa (k:Int) zi).am.length (λi (t:List Mon)=>((k:Int),b,(ix (ix a.aa (k:Int) zi).ae b zbe).af,(i:Int),d.af,d.aj,(k:Int),(k:Int),(k:Int),(k:Int),(k:Int),(ix a.aa (k:Int) zi).ai,(ix a.aa (k:Int) zi).aq,(k:Int),(ix a.aa (k:Int) zi).Own,a.ag,t,a.ao,a.an,[],[],[],[],())) _
  (λi t=>t=up a.aa (k:Int) (zkR (ix a.aa (k:Int) zi) b i)) (λ_ _=>some [AV.agg<|zbn<|zcq a (k:Int) b d]) (λi t rec u m A=>?_) (λt rec m=>?_) _ 0 a.aa ?_ (kA _) ?_
 .subst m;have c:i<(zlN (ix a.aa (k:Int) zi).ac b i (ix a.aa (k:Int) zi).am).length:=(by rw[zqB];exact u);have e:i<(ix a.aa (k:Int) zi).ac.length:=by omega
  have z:zhO (ix (zlN (ix a.aa (k:Int) zi).ac b i (ix a.aa (k:Int) zi).am) (i:Int) zhq) (ix (ix a.aa (k:Int) zi).ac (i:Int) zD).aw b=true :=
   zbH ⟨by rw[zbr c];exact(zv8 _ _ _ _ (by omega) r.2.2.2.2.2).2 _ (jM c),by rw[zbr e];exact(r.2.2.2.1.2 _<|jM e).2.2.1⟩
  simp only[zd8 q,zwc,zkR,zbK c,zbc c,zbc e,z,cT,p0,zbx u x];exact A _ rfl
 {subst m;simp only[zd8 q,zwc,zhp,zkR,ln,zqB,zzd,show ilt (((ix a.aa (k:Int) zi).am.length:Nat):Int) (((ix a.aa (k:Int) zi).am.length:Nat):Int)=false from qT (by omega),cT,cF,p0];have h:inb (k:Int) ((a.aa.length:Nat):Int)=true:=g;have j:inb b (((ix a.aa (k:Int) zi).ae.length:Nat):Int)=true:=s;have v:zd6 a.ao (ix (ix a.aa (k:Int) zi).ae b zbe).af=true:=zbH l.2.2.1;have w:zd6 a.an (ix (ix a.aa (k:Int) zi).ae b zbe).af=true:=zbH l.2.2.2;simp only[h,j,v,w,cT];unfold zcq;cases ine (ix (ix a.aa (k:Int) zi).ae b zbe).af (-1)<;>rfl};{exact(zOz q _).symm};{exact p (by omega)}
def zKs:zeh Tryz.prog 362 [true,true,true,true,false,false,false,false] (some (1,1,[[0],[1],[2],[4],[7]])) zsp:=by refine zlZ (kt:=.mon) (zg6 zG2 zJ zC zq) (zjK (by kernel_rfl)) (by kernel_rfl) ?_;intro a g f e h;have c:=zi4 e;unfold zsp at h;split at h;{obtain⟨d,rfl⟩:=zeu h;obtain⟨N,b⟩:=zRb _ _ _ _ (by exact c) d;exact⟨⟨_,rfl⟩,rfl,_,N,12,(zTX N _ _ _ _ ).trans b⟩};{cases h}
def zUX:zgj:=[(362,[true,true,true,true,false,false,false,false],some (1,1,[[0],[1],[2],[4],[7]]),zsp)]++zZR
def ze4:zeL zUX:=zqC zq (by
 intro x a;simp only[qG,qN,or_false]at a;rcases a with rfl
 .exact zKs)
def zVo (x:Mon)(p:Int):Mon:={x with au:=up x.au p false}
def zqD (h:ad)(m p:Int):ad:={h with aa:=up h.aa m (zVo (ix h.aa m zi) p)}
def ztP (h:ad)(m p:Int):ad:=bif zcH h m p then (cond (zdh (ix (ix h.aa m zi).ae p zbe) z0) (zqD h m p)<|zcq (zqD h m p) m p ⟨(ix (ix h.aa m zi).ae p zbe).af,1⟩) else h
def zy9:∀(l:List Mon) (u:List Bool),zlf l u=true->∀x∈l,zfT x=true
 |[],_,_,x,a=>by cases a
 |m::l,u,h,x,a=>by
  simp only[zlf]at h;cases b:zfT m;{rw [b]at h;cases h}
  .rw [b]at h;simp only[cT]at h;cases c:zia m.ae u with
   |none=>rw[c]at h;cases h
   |some d =>rw[c]at h;rcases qG.1 a with rfl|a;{exact b};{exact zy9 l d h x a}
structure PageAt (h:ad) (m p:Int):Prop where
 hm:i0 m (ln h.aa)=true
 hp:i0 p 8=true
 ok:zfT (ix h.aa m zi)=true
 ho:(ix h.aa m zi).ae.length=8
 hd:(ix h.aa m zi).au.length=8
 ht:(ix h.aa m zi).am.length=(ix h.aa m zi).ac.length
 hs:zdh (ix (ix h.aa m zi).ae p zbe) z0=ieq (ix (ix h.aa m zi).ae p zbe).af (-1)
def zP6 {s:k0}{n:Int}(h:zeM s n=true):zdh s z0=ieq s.af (-1):=by unfold zeM at h;cases a:zdh s z0;{rw [a]at h;cases d:ieq s.af (-1);{rfl};{have e:s.af = -1:=qF d;cases b:igt n 0;{rw [b]at h;cases h};{cases c:zl s.af 0 (wsub .i64 n 1);{rw [b,c]at h;cases h};{have:=(zgz.1 c).1;omega}}}};{unfold zdh at a;rw[qE]at a;exact a.1.symm}
def zLd {h:ad}{m p:Int}(d:zcH h m p=true):PageAt h m p:=by unfold zcH at d;simp only[zde]at d;obtain⟨c,f,g⟩:=d;unfold zcj at c;simp only[zde]at c;have b:=zy9 _ _ c.2.2.2.2 _ (zbF f zi);have a:=b;unfold zfT at a;simp only[zde]at a;have i:(ix h.aa m zi).ae.length=8:=(by have:=zwa a.2.2.1;simp only[ln] at this;omega);refine⟨f,g,b,i,?_,?_,?_⟩;{have:ln (ix h.aa m zi).au=8:=qF a.2.2.2.2.1;simp only[ln] at this;omega};{have:ln (ix h.aa m zi).am=ln (ix h.aa m zi).ac:=qF a.2.1;simp only[ln] at this;omega};{have e:=a.2.2.1;unfold zdy at e;simp only[zde]at e;have j:i0 p (ln (ix h.aa m zi).ae)=true:=(by rw[ln,i];exact g);exact zP6 (qO.1 e.1 _<|zbF j _)}
def zUO {x:Mon}{p:Int}(h:zfH x):zfH (zVo x p):=⟨h.1,h.2.1,by simpa [zVo] using h.2.2.1,h.2.2.2⟩
def zzO {h:ad}{m p:Int}(b:i0 m (ln h.aa)=true)(a:SmH h):SmH (zqD h m p):=⟨a.1,zjF a.2.1<|zUO<|a.2.1.2 _<|zbF b _,a.2.2⟩
def zGB {h:ad}{m p:Int}{s:k0}(d:i0 m (ln h.aa)=true)(a:SmH h):SmH (zcq h m p s):=by have c:=a.2.1.2 _ (zbF d zi);have e:=z2F (p:=p) (qW _) c;have b:zrx (up h.aa m {zkR (ix h.aa m zi) p (ix h.aa m zi).am.length with ae:=up (ix h.aa m zi).ae p s}):=zjF a.2.1 ⟨by simpa using c.1,e.2⟩;unfold zcq;cases ine (ix (ix h.aa m zi).ae p zbe).af (-1);{exact⟨a.1,b,a.2.2⟩};{exact⟨a.1,b,qS (zFV _ _) a.2.2.1,qS (zFV _ _) a.2.2.2⟩}
def zzR {h:ad}{m p:Int}(a:i0 m (ln h.aa)=true):i0 m (ln (zqD h m p).aa)=true:=by unfold zqD;simpa [ln] using a
def z2B {h:ad}{m p:Int}(a:SmH h):SmH (ztP h m p):=by unfold ztP;cases b:zcH h m p;{exact a};{have P:=zLd b;cases zdh (ix (ix h.aa m zi).ae p zbe) z0;{exact zGB (zzR P.hm) (zzO P.hm a)};{exact zzO P.hm a}}
@[simp] abbrev ziB (h:ad)(m p:Int):Bool:=pc (zcR h)
@[simp] abbrev zvU (h:ad)(m p:Int):ad:=ztP h m p
def zGf:Run:=rF3 dH dI dI λb c d=>(ziB b c d,[aH<|zvU b c d,aB<|zgb b c d])
def zOJ (N:Nat)(h:ad)(a b:Int):OA:=
 let c:=zx h;let g:=ix c.aa a zi; (oN (zbh h)<|oN (zn2 c a b)<|cond (nB<|zgb c a b) (some [aH c,aB false])<|oN (inb a<|ln c.aa)<|oN (inb b<|ln g.au)<|p0 (up c.aa a ({g with au:=(up g.au b false)}:Mon)) (λd=>let i:=(ix d a zi).ae;let f:=({c with aa:=d}:ad);let e:=ix i b zbe;let j:=({e with aj:=1}:k0); (oN (inb a<|ln d)<|oN (inb b<|ln i)<|oN zb3<|cond (cond (ieq e.af zbo.af) (ieq e.aj zbo.aj) false) (some [aH f,aB true])<|oN (zfE f a b j)<|some [aH<|zhD f a b j,aB true])))
def zVY (a:ad)(c b:Int)(j:ziB a c b=true):∃N,zOJ N a c b=some [aH<|zvU a c b,aB<|zgb a c b]:=by
 have g:=zT.1 j;have i:=(zU a).1 g;refine⟨0,?_⟩;unfold zOJ zvU zgb ztP oN nB;conv=>zeta
 refine j0 (zbH g) (j0 rfl ?_);cases f:zcH a c b;{simp only [zgb,zx,f,cF,cT]};{have P:=zLd f;obtain⟨k,rfl,d⟩:=zdW (n:=a.aa.length) P.hm;simp only[zgb,zx,f,cT,cF];have l:inb b (ln (ix a.aa (k:Int) zi).au)=true:=(by rw[ln,P.hd];exact P.hp);have h:inb b (ln (ix a.aa (k:Int) zi).ae)=true:=(by rw[ln,P.ho];exact P.hp);refine j0 P.hm (j0 l ?_);simp only[p0,zd8 d,h,cT,zb3,zbo];refine j0 (zzR (p:=b) P.hm) ?_;have e:∀s:k0,zdh s z0=bif ieq s.af z0.af then ieq s.aj z0.aj else false:=λs=>(by unfold zdh;cases ieq s.af z0.af<;>rfl);rw[<- e];cases zdh (ix (ix a.aa (k:Int) zi).ae b zbe) z0;{refine zcs rfl (j0 (zbH ⟨(zU _).2 (zzO P.hm i),zzR (p:=b) P.hm,?_,?_⟩) rfl);{simp only [zd8 d];exact h};{simp only [zd8 d];exact uA P.ht}};{rfl}}
def zQm:vT 329 zGf:=kF3 zG2 zJ zC ze4 (zA []) zVY
def z0O:zW:=[(329,zGf)]++zX8
def z0P:zL z0O:=zh zQm zG2
def z0Q:zW:=z0O
def zk8:zL z0Q:=z0P
def zzq (o i t:Int):Int:=bif zhI i t then 1 else (cond (zhI o t) 2 0)
@[simp] abbrev zq6 (o i t:Int):Bool:=true
@[simp] abbrev znY (o i t:Int):Int:=zzq o i t
def zAJ:Run:=rF3 dI dI dI λb c d=>(zq6 b c d,[aI<|znY b c d])
def zFx (N:Nat)(b c a:Int):OA:=
 (oN (ziP c a)<|cond (ziC c a) (some [aI 1])<|oN (ziP b a)<|cond (ziC b a) (some [aI 2])<|some [aI 0])
def zQU (a b c:Int)(d:zq6 a b c=true):∃N,zFx N a b c=some [aI<|znY a b c]:=by refine⟨0,?_⟩;unfold zFx oN;refine j0 rfl (br (λ_=>?_) λ_=>j0 rfl (br (λ_=>?_) λ_=>?_));all_goals first|rfl|(simp only [*,znY,zzq,cT,cF]<;>rfl)|simp_all[Ty.cells,znY,zzq]
def zJ2:vT 405 zAJ:=kF3 zk8 zJ zC ze4 (zA []) zQU
def zfh (m g:Int):Int:=bif zl m 0 2 then (cond (zl g 0 1) (zM .i64 (zM .i64 1 g)<|zkS .i64 m 2) 0) else 0
@[simp] abbrev zlA (m g:Int):Bool:=true
@[simp] abbrev ztq (m g:Int):Int:=zfh m g
def zGl:Run:=rF2 dI dI λb c=>(zlA b c,[aI<|ztq b c])
def zOR (N:Nat)(a b:Int):OA:=
 (oN (zQ a 0 2)<|cond (nB<|zl a 0 2) (some [aI 0])<|oN (zQ b 0 1)<|cond (nB<|zl b 0 1) (some [aI 0])<|some [aI<|zM .i64 (zM .i64 1 b)<|zkS .i64 a 2])
def zV7 (a b:Int)(c:zlA a b=true):∃N,zOR N a b=some [aI<|ztq a b]:=by refine⟨0,?_⟩;unfold zOR oN nB;refine j0 rfl (brN (λ_=>?_) λ_=>j0 rfl (brN (λ_=>?_) λ_=>?_));all_goals first|rfl|(simp only [*,ztq,zfh,cT,cF]<;>rfl)|simp_all[Ty.cells,ztq,zfh]
def zQt:vT 336 zGl:=kF2 zk8 zJ zC ze4 (zA []) zV7
def zlh (k:az)(p:Int):Bool:=bif zdJ k p then ix k.ay p false else false
def zfI (k:az)(p:Int):k0:=bif zlh k p then ix k.aC p zbe else z0
@[simp] abbrev zto (k:az)(p:Int):k0:=zfI k p
@[simp] abbrev zEe (k:az)(p:Int):Bool:=zlh k p
def zP2:Run:=rF2 (dT .kept) dI λb c=>(zds b c,[aT .slot<|zto b c,aB<|zEe b c])
def zWQ (N:Nat)(a:az)(b:Int):OA:=
 let c:=ix a.aC b zbe; (oN (zds a b)<|cond (nB<|ziS a b) (oN zb3<|some [.agg [.i .i64 zbo.af,.i .i64 zbo.aj],aB false])<|oN (inb b<|ln a.ay)<|cond (nB<|ix a.ay b false) (oN zb3<|some [.agg [.i .i64 zbo.af,.i .i64 zbo.aj],aB false])<|oN (inb b<|ln a.aC)<|some [.agg [.i .i64 c.af,.i .i64 c.aj],aB true])
def z1y (a:az)(b:Int)(f:zds a b=true):∃N,zWQ N a b=some [aT .slot<|zto a b,aB<|zEe a b]:=by
 have g:=zT.1 f;refine⟨0,?_⟩;unfold zWQ zto zEe zfI zlh oN nB;conv=>zeta
 refine j0 (zbH g) ?_;rw[show ziS a b=zdJ a b from rfl];cases c:zdJ a b;{rfl};{unfold zdJ at c;obtain⟨d,e⟩:=zde.1 c;simp only[zG d,zG e,cT];cases ix a.ay b false<;>rfl}
def zVQ:vT 233 zP2:=kF2 zk8 zJ zC ze4 (zA []) z1y
def filled (k:az)(a b:List k0)(p:Int):az:=bif zdJ k p then (cond (i0 p<|ln a) ⟨up k.ay p true,up k.aC p<|zbA (ix a p zbe) b⟩ k) else k
@[simp] def zZM {k:az}{a b:List k0}{p:Int}(h:SmK k):SmK (filled k a b p):=by unfold filled;cases zdJ k p;{exact h};{cases i0 p (ln a);{exact h};{exact⟨by simpa using h.1,by simpa using h.2⟩}}
@[simp] abbrev zIl (k:az)(i o:List k0)(p:Int):Bool:=pc (SmK k)
@[simp] abbrev zLp (k:az)(i o:List k0)(p:Int):az:=filled k i o p
def zLn:Run:=rF4 (dT .kept) (dS .slot) (dS .slot) dI λb c d e=>(zIl b c d e,[aT .kept<|zLp b c d e])
def zR0 (N:Nat)(d:az)(c e:lS)(a:Int):OA:=
 let b:=zdD d; (oN (zgN d)<|oN (zds b a)<|cond (ziS b a) (cond (ilt a<|ln c) (oN (inb a<|ln b.ay)<|p0 (up b.ay a true) λf=>oN (inb a<|ln c)<|oN (zkX (ix c a zbe) e)<|oN (inb a<|ln b.aC)<|p0 (up b.aC a<|zna (ix c a zbe) e) λg=>some [aT .kept (⟨f,g⟩:az)])<|some [aT .kept b])<|some [aT .kept b])
def zYV (b:az)(c d:List k0)(a:Int)(j:zIl b c d a=true):∃N,zR0 N b c d a=some [aT .kept<|zLp b c d a]:=by
 have g:=zT.1 j;refine⟨0,?_⟩;unfold zR0 zLp filled oN;conv=>zeta
 refine j0 (zbH<|(zxf _).2 g) (j0 (zbH g) ?_);rw[show ziS (zdD b) a=zdJ b a from rfl];cases f:zdJ b a;{rfl};{unfold zdJ at f;obtain⟨e,h⟩:=zde.1 f;rw[has_lt e (m:=ln c)];cases i:i0 a (ln c);{rfl};{simp only [cT,zdD,zG e,zG h,zG i,p0,zkX];rfl}}
def zS2:vT 434 zLn:=kF4 zk8 zJ zC ze4 (zA []) zYV
def zSU {a b:Type}(p:a->Bool)(r:a->Option b)(K:Unit->Option b):∀(l:List a) (i:Nat),goL (λ_ x (_:Unit) k=>bif p x then r x else k ()) K l i ()=match l.find? p with|some x=>r x|none=>K ()
 |[],_=>rfl
 |x::l,i=>by simp only[goL];cases h:p x;{rw [List.find?_cons_of_neg (by simp[h])];exact zSU p r K l (i+1)};{rw [List.find?_cons_of_pos h];rfl}
def zDX (b:List ar)(t p:Int):Option ar:=b.find? λe=>bif ieq e.Tag t then ieq e.af p else false
@[simp] abbrev zne (b:List ar)(t p:Int):Bool:=true
@[simp] abbrev znd (b:List ar)(t p:Int):ar:=(zDX b t p).getD ⟨0,0,0,0⟩
@[simp] abbrev zkl (b:List ar)(t p:Int):Bool:=(zDX b t p).isSome
def zvO:Run:=rF3 (dS .entry) dI dI λb c d=>(zne b c d,[aT .entry<|znd b c d,aB<|zkl b c d])
def zz7 (N:Nat)(f:lE)(g h:Int):OA:=
 (iter (σ:=(Int×Int×Int×Int×Int×Int×Int×lE×Unit)) N (λj a=>let f:=a.2.2.2.2;let c:=f.2.2.2.1;let d:=inb a.2.2.1<|ln c;let e:=j (a.1,a.2.1,zM .i64 a.2.2.1 1,a.2.2.2.1,f.1,f.2.1,f.2.2.1,c,());let b:=ix c a.2.2.1 zjz; (cond (ilt a.2.2.1<|ln c) (oN d<|cond (ieq b.Tag a.1) (oN d<|cond (ieq b.af a.2.1) (oN d<|some [.agg [.i .i64 b.Tag,.i .i64 b.af,.i .i64 b.ad,.i .i64 b.aj],aB true]) e) e)<|some [.agg [.i .i64 0,.i .i64 0,.i .i64 0,.i .i64 0],aB false])) (g,h,0,0,0,0,0,f,()))
def zL1:=zA [(433,0,{n:=36,tm:=[(0,.sl 0 []),(1,ti),(2,ti),(6,.lp 0 0),(8,ti)],lo:=[(0,[ti,ti,ti,ti])],ro:=[(0,.entry,false)]})]
def zKS (a:List ar)(c d:Int)(j:zb5 big [aS .entry a,aI c,aI d])(l:zne a c d=true):∃N,zz7 N a c d=some [aT .entry<|znd a c d,aB<|zkl a c d]:=by
 have h:=len0 j;refine zcI λN g=>?_;unfold zz7 oN;conv=>zeta
 refine(zbJ a (λi (t:Unit)=>(c,d,(i:Int),0,0,0,0,a,())) _ (λ_ (x:ar) (_:Unit) k=>bif (cond (ieq x.Tag c) (ieq x.af d) false) then (some [AV.agg<|Ty.cells .entry x,AV.one<|.b true]) else k ()) (λ(t:Unit)=>some [.agg [.i .i64 0,.i .i64 0,.i .i64 0,.i .i64 0],.one<|.b false]) (λi f t rec=>?_) (λt rec=>?_) _ ()<|g h).trans ?_;{simp only [zbK f,zbc f,zbr f,zbx f h,cT];cases ieq a[i].Tag c<;>cases ieq a[i].af d<;>rfl};{simp only [zbw,cF]};rw[zSU λe:ar=>bif ieq e.Tag c then ieq e.af d else false];unfold znd zkl zDX;cases a.find? (λe:ar=>bif ieq e.Tag c then ieq e.af d else false)<;>rfl
def zEw:vT 433 zvO:=hF3 zk8 zJ zC ze4 zL1 zKS
def zCW (t p:Int)(e:ar):Bool:=bif ine e.Tag t then true else ine e.af p
def zcS (b:List ar)(t p:Int):List ar:=b.filter (zCW t p)
def zyY (b:List ar)(t p:Int):(zcS b t p).length<=b.length:=uJ _ _
@[simp] abbrev zhj (b:List ar)(t p:Int):Bool:=pc (b.length<=1048576)
@[simp] abbrev zmP (b:List ar)(t p:Int):List ar:=zcS b t p
def zvP:Run:=rF3 (dS .entry) dI dI λb c d=>(zhj b c d,[aS .entry<|zmP b c d])
def zz9 (N:Nat)(h:lE)(i j:Int):OA:=
 (iter (σ:=(Int×Int×Int×lE×lE×Unit)) N (λf a=>let b:=a.2.2.2.1;let c:=inb a.2.2.1<|ln b;let d:=ix b a.2.2.1 zjz;let e:=ap a.2.2.2.2.1 [d];let g:=f (a.1,a.2.1,zM .i64 a.2.2.1 1,b,e,()); (cond (ilt a.2.2.1<|ln b) (oN c<|cond (ine d.Tag a.1) (oN c<|oN (few<|ln e) g)<|oN c<|cond (ine d.af a.2.1) (oN c<|oN (few<|ln e) g)<|f (a.1,a.2.1,zM .i64 a.2.2.1 1,b,a.2.2.2.2.1,()))<|some [aS .entry a.2.2.2.2.1])) (i,j,0,h,[],()))
def zL3:=zA [(335,0,{n:=40,tm:=[(0,.sl 0 []),(1,ti),(2,ti),(7,.sl 1 []),(8,ti)],lo:=[],ro:=[(0,.entry,false),(1,.entry,true)]})]
def zKU (a:List ar)(b c:Int)(h:zhj a b c=true):∃N,zz9 N a b c=some [aS .entry<|zmP a b c]:=by
 have j:=zT.1 h;have f:=zcO j;refine zcI λN e=>?_;unfold zz9 oN;conv=>zeta
 refine(zbJ a (λi (t:lE)=>(b,c,(i:Int),a,t,())) _ (λ_ (x:ar) (t:List ar) g=>bif zCW b c x then (cond (few<|ln<|ap t [x]) (g<|ap t [x]) none) else g t) (λ(t:lE)=>some [.one<|.s .entry t]) (λi d t rec=>?_) (λt rec=>?_) _ ([])<|e f.1).trans ?_;{simp only [zbK d,zbc d,zbr d,zbx d f.1,cT];unfold zCW;cases ine a[i].Tag b<;>cases ine a[i].af c<;>rfl};{simp only [zbw,cF]};exact zon (zCW b c) _ a 0 [] (by simpa using f.2)
def zEy:vT 335 zvP:=kF3 zk8 zJ zC ze4 zL3 zKU
def z6k:zW:=[(405,zAJ),(336,zGl),(233,zP2),(434,zLn),(433,zvO),(335,zvP)]++z0Q
def zyU:zL z6k:=zh zJ2 (zh zQt<|zh zVQ<|zh zS2<|zh zEw<|zh zEy zk8)
def zqa (b:List ar)(e:ar):List ar:=bif igt (ln<|ap (zcS b e.Tag e.af) [e]) 6 then dp (ap (zcS b e.Tag e.af) [e]) (wsub .i64 (ln<|ap (zcS b e.Tag e.af) [e]) 6) else ap (zcS b e.Tag e.af) [e]
def zzv {b:List ar}(e:ar)(h:b.length<=1048576):(zqa b e).length<=1048576/\(ap (zcS b e.Tag e.af) [e]).length<=1048577:=by have d:=zyY b e.Tag e.af;have c:(ap (zcS b e.Tag e.af) [e]).length<=1048577:=(by simp[ap];omega);refine⟨?_,c⟩;unfold zqa;cases a:igt (ln<|ap (zcS b e.Tag e.af) [e]) 6;{have a:=jV a;simp only[ln]at a;simp only[cF];omega};{simp only [cT,dp,vQ];have a:=qF a;have:wsub .i64 (ln<|ap (zcS b e.Tag e.af) [e]) 6=ln (ap (zcS b e.Tag e.af) [e])-6:=zys (by simp only[ln] at *;omega) (by simp only[ln] at *;omega);rw[this];simp only[ln] at *;omega}
@[simp] abbrev zly (b:List ar)(e:ar):Bool:=pc (b.length<=1048576)
@[simp] abbrev zmf (b:List ar)(e:ar):List ar:=zqa b e
def zqj:Run:=rF2 (dS .entry) (dT .entry) λb c=>(zly b c,[aS .entry<|zmf b c])
def zBM (N:Nat)(d:lE)(b:ar):OA:=
 let a:=ap (zmP d b.Tag b.af) [b];let c:=wsub .i64 (ln a) 6; (oN (zhj d b.Tag b.af)<|oN (few<|ln a)<|cond (igt (ln a) 6) (oN (inr c (ln a)<|ln a)<|oN (few<|ln<|ap []<|dp a c)<|some [aS .entry<|ap []<|dp a c])<|some [aS .entry a])
def zNI (b:List ar)(a:ar)(h:zly b a=true):∃N,zBM N b a=some [aS .entry<|zmf b a]:=by
 have f:=zT.1 h;obtain⟨c,g⟩:=zzv a f;refine⟨0,?_⟩;unfold zBM oN;conv=>zeta
 refine j0 (zbH f) (j0 (zhn<|qS g (by decide:1048577<=2147483648)) ?_);unfold zmf zqa at *;show _=some [AV.one<|.s .entry<|cond (igt (ln<|ap (zcS b a.Tag a.af) [a]) 6) (dp (ap (zcS b a.Tag a.af) [a])<|wsub .i64 (ln<|ap (zcS b a.Tag a.af) [a]) 6)<|ap (zcS b a.Tag a.af) [a]];cases d:igt (ln<|ap (zcS b a.Tag a.af) [a]) 6;{rfl};{rw [d]at c;simp only[cT]at c;have d:=qF d;have e:wsub .i64 (ln<|ap (zcS b a.Tag a.af) [a]) 6=ln (ap (zcS b a.Tag a.af) [a])-6:=zys (by simp only[ln] at *;omega) (by simp only[ln] at *;omega);refine j0 rfl (j0 (qM ?_)<|j0 ?_ ?_);{show 0<=wsub .i64 (ln<|ap (zcS b a.Tag a.af) [a]) 6/\wsub .i64 (ln<|ap (zcS b a.Tag a.af) [a]) 6<=ln (ap (zcS b a.Tag a.af) [a])/\ln (ap (zcS b a.Tag a.af) [a])<=ln (ap (zcS b a.Tag a.af) [a]);rw[e];simp only[ln] at *;omega};{exact ztj c};{rw [zmB];rfl}}
def ztW:vT 384 zqj:=kF2 zyU zJ zC ze4 (zA []) zNI
def zom (l:List k0)(p:Int):Option Nat:=l.findIdx? λs=>ieq s.af p
def ziz (p:Int):List Mon->Nat->Int×Int
 |[],_=>(-1,-1)
 |m::l,i=>match zom m.ae p with|some k=>((i:Int),(k:Int))|none=>ziz p l (i+1)
def zbM (h:ad)(p:Int):Int×Int:=bif ilt p 0 then (-1,-1) else ziz p h.aa 0
def zPB {a:Type}(p:k0->Bool)(r:Nat->Option a)(K:Unit->Option a):∀(l:List k0) (i:Nat),goL (λj x (_:Unit) k=>bif p x then r j else k ()) K l i ()=match l.findIdx? p with|some k=>r (i+k)|none=>K ()
 |[],_=>rfl
 |x::l,i=>by simp only[goL];rw[List.findIdx?_cons];cases h:p x;{simp only [cF,kL,if_false];rw[zPB p r K l<|i+1];cases l.findIdx? p with|none=>rfl|some k=>simp only[Option.map_some];congr 1;omega};{rfl}
def zMt {c:Type}(p:Int)(r:Int->Int->Option c):∀(l:List Mon) (i:Nat),goL (λi (x:Mon) (_:Unit) b=>goL (λj (y:k0) (_:Unit) a=>bif ieq y.af p then r (i:Int) (j:Int) else a ()) (λ_=>b ()) x.ae 0 ()) (λ_=>r (-1) (-1)) l i ()=r (ziz p l i).1 (ziz p l i).2
 |[],_=>rfl
 |m::l,i=>by simp only[goL,ziz];rw[zPB (λs=>ieq s.af p) λj=>r (i:Int) (j:Int)];unfold zom;cases m.ae.findIdx? (λs=>ieq s.af p) with|none=>exact zMt p r l (i+1)|some k=>simp only[jW]
@[simp] abbrev zfO (h:ad)(p:Int):Bool:=true
@[simp] abbrev zdp (h:ad)(p:Int):Int:=(zbM h p).1
@[simp] abbrev zeg (h:ad)(p:Int):Int:=(zbM h p).2
def zi2:Run:=rF2 dH dI λb c=>(zfO b c,[aI<|zdp b c,aI<|zeg b c])
def zuO (N:Nat)(f:ad)(g:Int):OA:=
 (cond (ilt g 0) (some [aI<|-1,aI<|-1])<|iter (σ:=(Int×Int×Int×lN×Unit)) N (λi b=>let c:=b.2.2.1; (cond (ilt c b.2.1) (oN (inb c<|ln b.2.2.2.1)<|iter (σ:=(Int×Int×Int×Int×Int×Int×Int×lN×Unit)) N (λj a=>let b:=a.2.2.2.2;let e:=b.2.2.2.1;let h:=(ix e b.1 zi).ae;let d:=b.2.2.1; (cond (ilt d b.2.1) (oN (inb d<|ln h)<|cond (ieq (ix h d zbe).af a.1) (some [aI a.2.1,aI d])<|j (a.1,a.2.1,a.2.2.1,a.2.2.2.1,b.1,b.2.1,zM .i64 d 1,e,()))<|i (a.1,a.2.2.1,zM .i64 a.2.2.2.1 1,e,()))) (b.1,c,b.2.1,c,c,ln (ix b.2.2.2.1 c zi).ae,0,b.2.2.2.1,()))<|some [aI<|-1,aI<|-1])) (g,ln f.aa,0,f.aa,()))
def zFd:=zA [(465,0,{n:=36,tm:=[(1,ti),(13,.sl 0 []),(14,ti),(15,ti)],lo:=[],ro:=[(0,.mon,false)]}),(465,2,{n:=36,tm:=[(1,ti),(6,ti),(13,.sl 0 []),(14,ti),(15,ti),(21,.sl 0 [0]),(22,ti),(23,ti)],lo:=[],ro:=[(0,.mon,false)]})]
def zEQ (a:ad)(c:Int)(m:zb5 big [aH a,aI c])(q:zfO a c=true):∃N,zuO N a c=some [aI<|zdp a c,aI<|zeg a c]:=by
 have k:CVB big (.s .mon a.aa):=(zbI m).1 _ (by simp[AV.cvs,zbn]);have h:=k.len;refine zcI λN e=>?_;unfold zuO zdp zeg zbM oN;conv=>zeta
 cases p:ilt c 0;{simp only [cF];refine(zbJ a.aa (λi (t:Unit)=>(c,ln a.aa,(i:Int),a.aa,())) _ (λi (x:Mon) (_:Unit) n=>goL (λj (y:k0) (_:Unit) b=>bif ieq y.af c then some [AV.one<|.i .i64 (i:Int),AV.one<|.i .i64 (j:Int)] else b ()) (λ_=>n ()) x.ae 0 ()) (λ(t:Unit)=>some [.one<|.i .i64<|-1,.one<|.i .i64<|-1]) (λi d t rec=>?_) (λt rec=>?_) _ ()<|e h).trans ?_;{simp only [zbK d,zbc d,zbr d,zbx d h,cT];have l:a.aa[i].ae.length<=big:=(k.inv.2 _ (jM d) (.s .slot _) (by simp[Ty.cells])).len;refine(zbJ a.aa[i].ae (λj (u:Unit)=>(c,(i:Int),ln a.aa,(i:Int),(i:Int),ln a.aa[i].ae,(j:Int),a.aa,())) _ (λj (y:k0) (_:Unit) b=>bif ieq y.af c then some [AV.one<|.i .i64 (i:Int),AV.one<|.i .i64 (j:Int)] else b ()) (λ(u:Unit)=>rec (c,ln a.aa,((i+1:Nat):Int),a.aa,())) (λj g u f=>?_) (λu f=>?_) _ ()<|e l).trans ?_;{simp only [zbK g,zbc g,zbr g,zbx g l,cT,zbc d,zbr d,zbx d h]};{simp only [zbw,cF,zbc d,zbr d,zbx d h]};rfl};{simp only [zbw,cF]};exact zMt c (λi j=>some [AV.one<|.i .i64 i,AV.one<|.i .i64 j]) a.aa 0};{rfl}
def zBc:vT 465 zi2:=hF2 zyU zJ zC ze4 zFd zEQ
end
end Go.Proofs.YtapgkefgcbapcaaGreat.E
