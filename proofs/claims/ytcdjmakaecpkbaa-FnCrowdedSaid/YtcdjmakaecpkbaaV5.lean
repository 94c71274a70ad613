/- What is proved here: a part of the proof that the statement of this claim holds (several texts of wip/, laid together). -/
import Derived.Test.YtcdjmakaecpkbaaV4
import Derived.Maps.OwnOps
import Derived.Maps.Views
import Derived.WalkKit
namespace Go.Proofs.Ytcdjmakaecpkbaa.E
open Go
set_option linter.constructorNameAsVariable false
set_option linter.unusedVariables false
set_option maxRecDepth 100000
set_option linter.unusedSimpArgs false
set_option linter.unusedSectionVars false
noncomputable section
section
open Go Go.RowKit Go.Maps
theorem zmV {H:Type}{P:Program}{e:TypeId}(a:P.underlying e=some .bool){v:Value}{z:DataW H×List MemPlace}(h:plainElem P e v=some z):∃x,v = .bool x/\z=(.lit<|.bool x,[]):=by unfold plainElem at h;rw[a]at h;cases v<;>simp at h;exact⟨_,rfl,h.symm⟩
theorem zxk {H:Type}{P:Program}(w:World){j:Array Oper}{d:List Oper}{o:Oper}{a:Act}{Q:Exit->Act->World->Prop}(hg:o.guard=none)(m x:Operand)(t:TypeId)(p:o.op=Op.lookup t m x false)(k e:TypeId)(K:Keyed P k)(z:P.underlying t=some (.map k e))(r:P.underlying e=some .bool)(C:(zeroValue e).run P w = .ok (.bool false) w)(b n:Nat)(D:DataW H)(y:a.eval m = .map (some b))(g:w.ownsMap P k (plainElem P e) b n D)(i:Value)(s:Lit)(B:a.eval x=i)(f:keyOf P k i=some s)(u:∀c:Bool,D.atKey s (.lit<|.bool false) = .lit (.bool c)->wpList P j Q d (a.put o.dst<|.bool c) w) :
 wpList P j Q (o::d) a w:=by
 refine wpList_plain hg λE l=>?_;obtain⟨v,F,h,A⟩:=g.lookup K z C (plainElem_bool r false) f;obtain⟨c,rfl,q⟩:=zmV r A;simp only[jH]at q;unfold Oper.wp;simp[execOp,p,y,B,h,Result.andThen];exact l _ _ (u c q.1)
def mapOf:List Int->DataW Unit
 |[]=>.map []
 |p::u=>(mapOf u).put (.int .i64 p) (.lit<|.bool true)
theorem zv1:∀u,IsMap (mapOf u)
 |[]=>isMap_empty
 |p::u=>(zv1 u).put _ _
theorem zpD (p:Int):∀u,(mapOf u).atKey (.int .i64 p) (.lit<|.bool false) = .lit (.bool<|u.contains p)
 |[]=>rfl
 |q::u=>by by_cases h:p=q;{subst h;rw[mapOf,atKey_put_same (zv1 u) (by exact True.intro)];simp};{rw [mapOf,atKey_put_other (by intro e;cases e;exact h rfl),zpD p u];simp[h]}
theorem zx4:Keyed Try.prog 3:=int_keyed Try.underlying3
theorem zDB (w:World):(zeroValue 4).run Try.prog w = .ok (.bool false) w:=by kernel_rfl
def wf64 (p:Int):Prop:=(Lit.int .i64 p).wf=true
def apS:List (Int×Int)->List Int->Option (List Int)
 |[],u=>some u
 |s::l,u=>if s.1 = -1 then apS l u else if u.contains s.1 then none else apS l (s.1::u)
def apM:List (List<|Int×Int)->List Int->Bool
 |[],_=>true
 |m::l,u=>match apS m u with
  |none=>false
  |some a=>apM l a
theorem zrR {l:List (Int×Int)}{j:Nat}{p r:Int}(h:l[j]?=some (p,r))(u:List Int):apS (l.drop j) u=if p = -1 then apS (l.drop<|j+1) u else if u.contains p then none else apS (l.drop<|j+1) (p::u):=by obtain⟨b,a⟩:=qA.1 h;rw[kP b,a];rfl
theorem zE2 {l:List (List<|Int×Int)}{k:Nat}{m:List (Int×Int)}(h:l[k]?=some m)(u:List Int):apM (l.drop k) u=match apS m u with|none=>false|some c=>apM (l.drop<|k+1) c:=by obtain⟨b,a⟩:=qA.1 h;rw[kP b,a];rfl
structure SlotsAt (w:World) (B:Nat) (a:Option Addr) (l:List (Int×Int)):Prop where
 at1:∀j p r,l[j]?=some (p,r)->∃b off,a=some ⟨b,off,none⟩/\b<B/\w.cell? ⟨b,off+j*2,none⟩=some (.int .i64 p)/\w.cell? ⟨b,off+j*2+1,none⟩=some (.int .i64 r)/\wf64 p
structure MonsAt (w:World) (B:Nat) (a:Option Addr) (l:List (List (Int×Int))):Prop where
 at1:∀i m,l[i]?=some m->∃b off a2 cap p1 n1 q1 p2 n2 q2 p3 n3 q3 p4 n4 q4 x5 x6 p7 n7 q7 x8,a=some ⟨b,off,none⟩/\b<B/\w.cell? ⟨b,off+i*9,none⟩=some (.slice a2 m.length cap)/\SlotsAt w B a2 m/\m.length<=1048576/\
  w.cell? ⟨b,off+i*9+1,none⟩=some (.slice p1 n1 q1)/\w.cell? ⟨b,off+i*9+2,none⟩=some (.slice p2 n2 q2)/\w.cell? ⟨b,off+i*9+3,none⟩=some (.slice p3 n3 q3)/\w.cell? ⟨b,off+i*9+4,none⟩=some (.slice p4 n4 q4)/\
  w.cell? ⟨b,off+i*9+5,none⟩=some (.int .i64 x5)/\w.cell? ⟨b,off+i*9+6,none⟩=some (.int .i64 x6)/\w.cell? ⟨b,off+i*9+7,none⟩=some (.slice p7 n7 q7)/\w.cell? ⟨b,off+i*9+8,none⟩=some (.int .i64 x8)
theorem zFH (m x y:Value)(a:Option Addr)(B:Nat)(L:List (List<|Int×Int))(w:World)(hL:L.length<=1048576)(s:MonsAt w w.heap.size a L) :
 Calls Try.prog 27 #[.agg #[m,.slice a L.length B,x,y]] w λe w'=>e = .returned (.bool<|apM L [])/\Below w.heap.size w w':=by
 have a1:=@run_makeMap Try.prog
 go_enter Try.func27,Try.ntmps27
 go_wp2
 go_loopw [12] (λi wr=>∃(k:Nat) (u:List Int),k<=L.length/\i = .int .i64 k/\apM (L.drop k) u=apM L []/\wr.ownsMap Try.prog 3 (plainElem Try.prog 4) (w.heap.size+1) (k*1048576) (mapOf u)/\Below w.heap.size w wr/\w.heap.size+2<=wr.heap.size) (λi _=>L.length-(intOf i).toNat)
 case atStart=>exact⟨0,[],kA _,rfl,rfl,by
  have h:=World.ownsMap_made (H:=Unit) (w.alloc<|Obj.cells #[m,Value.slice a L.length B,x,y] 34) Try.prog 3 (plainElem Try.prog 4);rw[show (w.alloc<|Obj.cells #[m,Value.slice a L.length B,x,y] 34).heap.size=w.heap.size+1 from by simp]at h
  rw[Nat.zero_mul];exact h,((Below.refl _ _).alloc (qV _) _).alloc (by simp) _,by simp⟩
 case round=>
  obtain⟨k,u,hk,rfl,A,G,E,a3⟩:=hrel
  by_cases a0:k<L.length
  .obtain⟨t,hmm2⟩:∃t,L[k]?=some t:=⟨_,qC (by omega)⟩
   obtain⟨b,a4,a2,S,p1,n1,q1,p2,n2,q2,p3,n3,q3,p4,n4,q4,x5,x6,p7,n7,q7,x8,rfl,hb,T,O,M,W,X,Y,Z,e5,e6,e7,e8⟩:=s.at1 k t hmm2;obtain⟨U,D⟩:∃n,n=t.length:=⟨_,rfl⟩;rw[<- D] at T M;rw[<- E.cell (by exact hb)] at T W X Y Z e5 e6 e7 e8
   go_wp2
   go_loopw [19] (λj R=>∃(q:Nat) (v:List Int),q<=t.length/\j = .int .i64 q/\(match apS (t.drop q) v with|none=>false|some u'=>apM (L.drop<|k+1) u')=apM L []/\R.ownsMap Try.prog 3 (plainElem Try.prog 4) (w.heap.size+1) (k*1048576+q) (mapOf v)/\Below w.heap.size w R/\w.heap.size+2<=R.heap.size) (λj _=>t.length-(intOf j).toNat)
   case atStart=>exact⟨0,u,kA _,rfl,by rw[List.drop_zero,<- zE2 hmm2];exact A,(G.alloc _).mono (kR _ _),E.alloc (by omega) _,by simp;omega⟩
   case round=>
    obtain⟨q,v,hq,rfl,d,f,g,I⟩:=hrel
    by_cases N:q<t.length
    .obtain⟨⟨p,r⟩,hpr⟩:∃Q,t[q]?=some Q:=⟨_,qC N⟩;obtain⟨b2,V,rfl,J,f0,f1,P⟩:=O.at1 q p r hpr;rw[<- g.cell (by exact J)] at f0 f1
     have z:keyOf Try.prog 3 (.int .i64 p)=some (.int .i64 p):=keyOf_int_mk Try.underlying3 P
     go_wp2_with (first
      |(at_lookup;refine zxk _ rfl _ _ 103 rfl 3 4 zx4 Try.underlying103 Try.underlying4 (zDB _) (w.heap.size+1) _ _ rfl (f.alloc _) _ _ rfl z ?_;intro c s)
      |(at_mapUpdate;refine wpList_mapUpdate_own _ rfl _ _ _ 103 rfl 3 4 zx4 Try.underlying103 _ (w.heap.size+1) _ _ rfl (f.alloc _) (by unfold maxLen;omega) _ _ _ rfl rfl z _ [] (plainElem_bool Try.underlying4 true) ?_;intro w1 F l)
      |go_in)
     .have h:p = -1:=by simpa using ‹(p == -1)=true›
      have e:=zrR hpr v;rw[if_pos h] at e;refine⟨⟨q+1,v,by omega,by go_num,by rw[<- e];exact d,(f.alloc _).mono (by omega),g.alloc (by omega) _,by simp;omega⟩,by simp[intOf];omega⟩
     .have h:p≠-1:=by simpa using ‹(p == -1)=false›
      have K:c=true:=by assumption
      subst K;rw[zpD]at s;have C:v.contains p=true:=by simpa using s
      have e:=zrR hpr v;rw[if_neg h,if_pos C] at e;rw[e]at d
      go_ret
      exact⟨by rw[<- d];rfl,g.alloc (by omega) _⟩
     .have h:p≠-1:=by simpa using ‹(p == -1)=false›
      have K:c=false:=by assumption
      subst K;rw[zpD]at s;have C:v.contains p=false:=by simpa using s
      have e:=zrR hpr v;rw[if_neg h,if_neg (by rw[C];simp)] at e
      have s1:=l.size;simp at s1
      go_roundw
      case rel=>
       exact⟨q+1,p::v,by omega,by go_num,by rw[<- e];exact d,by simpa [kT,mapOf] using F,(g.alloc (by omega) _).grown l (by simp;omega) (λj hj=>by cases hj;omega),by omega⟩
      case measure=>simp[intOf];omega
    .have hqe:q=t.length:=by omega
     subst hqe
     go_wp2
     rw[uX]at d;exact⟨⟨k+1,v,by omega,by go_num,d,f.mono (by omega),g,I⟩,by simp[intOf];omega⟩
  .have hke:k=L.length:=by omega
   subst hke
   go_wp2
   go_ret
   exact⟨by rw[<- A,uX];rfl,E⟩
def pairs (l:List Slot):List (Int×Int):=l.map λs=>(s.Page,s.Rights)
def zBJ (h:Host):Prop:=∀m∈h.Mons,∀s∈m.Outer,wf64 s.Page
theorem zzu {w:World}{B:Nat}{v:Value}{l:List Slot}{S:zq}(h:Rep false w v (.s .slot l) S)(G:∀x,S x->x<B)(n:∀s∈l,wf64 s.Page):∃a c,v = .slice a (pairs l).length c/\SlotsAt w B a (pairs l):=by
 cases h with
 |nil=>exact⟨none,0,rfl,⟨λj p r h=>by simp[pairs]at h⟩⟩
 |void _ a _ M=>exact⟨some a,0,rfl,⟨λj p r h=>by simp[pairs]at h⟩⟩
 |sl _ _ b k c F e L V K _ u H C z I m D A E y=>refine⟨some ⟨b,k,none⟩,c,by simp[pairs],⟨λj p r d=>?_⟩⟩;unfold pairs at d;rw[qM]at d;cases f:l[j]? with|none=>rw[f]at d;cases d|some s=>rw[f]at d;cases d;have g:j<l.length:=(qA.1 f).1;have J:Ty.width .slot=2:=rfl;have q:=E j 0 g (by decide);have t:=E j 1 g (by decide);rw[(y j s f 0 (.i .i64 s.Page) rfl).int_inv] at q;rw[(y j s f 1 (.i .i64 s.Rights) rfl).int_inv] at t;exact⟨b,k,rfl,G b m,by rw[cell_of_block u];exact q,by rw[cell_of_block u];exact t,n s<|qG f⟩
theorem zhw {w:World}{v:Value}{t:Ty}{l:List t.den}{S:zq}(h:Rep false w v (.s t l) S):∃p n q,v = .slice p n q:=by obtain⟨⟨a,b,c,_⟩,_⟩:=h.len;exact⟨a,_,b,c⟩
theorem zAW {w:World}{v:Value}{l:List Mon}{S:zq}(h:Rep false w v (.s .mon l) S)(B:∀x,S x->x<w.heap.size)(A:∀m∈l,∀s∈m.Outer,wf64 s.Page)(z:∀m∈l,m.Outer.length<=1048576) :
 ∃a g,v = .slice a (l.map λm=>pairs m.Outer).length g/\MonsAt w w.heap.size a (l.map λm=>pairs m.Outer):=by
 cases h with
 |nil=>exact⟨none,0,rfl,⟨λj m h=>by simp at h⟩⟩
 |void _ a _ ho=>exact⟨some a,0,rfl,⟨λj m h=>by simp at h⟩⟩
 |sl _ _ b k g H e fz V K _ U W E C Y t r D Z f=>refine⟨some ⟨b,k,none⟩,g,by simp,⟨λi mm p=>?_⟩⟩;rw[qM]at p;cases d:l[i]? with|none=>rw[d]at p;cases p|some m=>rw[d]at p;cases p;have q:i<l.length:=(qA.1 d).1;have T:∀j,j<9->∀x,K i j x->x<w.heap.size:=λj u x X=>B x (r i j x q u X).1;have c:∀j,j<9->w.cell? ⟨b,k+i*9+j,none⟩=some (V i j):=λj u=>(by rw[cell_of_block U];exact Z i j q u);have F:=qG d;obtain⟨G,n,I,y⟩:=zzu (f i m d 0 (.s .slot m.Outer) rfl) (T 0 (by decide)) (A m F);obtain⟨p1,n1,q1,J⟩:=zhw (f i m d 1 (.s (.sl .int) m.Out) rfl);obtain⟨p2,n2,q2,L⟩:=zhw (f i m d 2 (.s .bool m.Dirty) rfl);obtain⟨p3,n3,q3,M⟩:=zhw (f i m d 3 (.s .guest m.Guests) rfl);obtain⟨p4,n4,q4,N⟩:=zhw (f i m d 4 (.s .int m.Outs) rfl);have O:=(f i m d 5 (.i .i64 m.Pending) rfl).int_inv;have P:=(f i m d 6 (.i .i64 m.Traps) rfl).int_inv;obtain⟨p7,n7,q7,Q⟩:=zhw (f i m d 7 (.s .kept m.Tables) rfl);have R:=(f i m d 8 (.i .i64 m.Own) rfl).int_inv;refine⟨b,k,G,n,p1,n1,q1,p2,n2,q2,p3,n3,q3,p4,n4,q4,m.Pending,m.Traps,p7,n7,q7,m.Own,rfl,B b t,?_,y,by simpa [pairs] using z m F,?_,?_,?_,?_,?_,?_,?_,?_⟩;{rw [<- I];exact c 0 (by decide)};{rw [<- J];exact c 1 (by decide)};{rw [<- L];exact c 2 (by decide)};{rw [<- M];exact c 3 (by decide)};{rw [<- N];exact c 4 (by decide)};{rw [<- O];exact c 5 (by decide)};{rw [<- P];exact c 6 (by decide)};{rw [<- Q];exact c 7 (by decide)};{rw [<- R];exact c 8 (by decide)}
def zh3 (h:Host):Bool:=apM (h.Mons.map λm=>pairs m.Outer) []
@[simp] abbrev zkp (h:Host):Bool:=pc (zdW h/\zBJ h)
@[simp] abbrev zmH (h:Host):Bool:=zh3 h
def zfY:List AV->Option (Bool×List AV)
 |[.agg [.s (.sl .int) m,.s .mon l,.s .entry b,.s .entry c]]=>some (zkp ⟨m,l,b,c⟩,[.one<|.b<|zmH ⟨m,l,b,c⟩])
 |_=>none
theorem zmC:u3 27 zfY:=by
 refine⟨zhV (by kernel_rfl),?_⟩;intro w A z I f d;unfold zfY at d;split at d
 .rename_i m l b c;simp only[qB,jH]at d;obtain⟨k,rfl⟩:=d;obtain⟨q,t⟩:=zbm.1 k;have D:z.length=4:=f.1
  match z,D with
  |[E,y,F,G],_=>
   have B:Rep false w y (.s .mon l) (λb=>b<w.heap.size):=f.2 1 _ y rfl rfl;have e:=q.mons;obtain⟨a,n,rfl,p⟩:=zAW B (λx u=>u) t (λm v=>by
    obtain⟨i,H⟩:=qQ.1 v;exact(e.inv.2 m v (.s .slot m.Outer) (by simp[Ty.cells])).len)
   refine(zFH E F G a n _ w (by have:=e.len;unfold sm at this;simpa using this) p).mono ?_;rintro r J ⟨rfl,g⟩;refine⟨⟨g.os,g.tape,g.output,g.size,λb C=>g.block b C⟩,[.bool _],λ_ _=>False,⟨rfl,λi c x k u=>?_⟩,rfl,⟨λi x _ h=>h.elim,λi j c x _ _ _ h=>h.elim⟩⟩;cases i with|zero=>cases k;cases u;exact .b _ _|succ i=>simp[zh,AV.cvs]at k
 {cases d}
end
def spS:List Slot->List Int->Option (List Int)
 |[],u=>some u
 |s::l,u=>bif ieq s.Page (-1) then spS l u else (cond (u.any λz=>ieq z s.Page) none<|spS l<|ap u [s.Page])
def spM:List Mon->List Int->Bool
 |[],_=>true
 |m::l,u=>match spS m.Outer u with
  |none=>false
  |some v=>spM l v
def znM:List Mon->Nat
 |[]=>0
 |m::l=>m.Outer.length+znM l
theorem zxW {x y:Int}:(ieq x y=true)↔x=y:=by simp[ieq]
theorem zE1 (u:List Int)(p:Int):u.any (λz=>ieq z p)=u.reverse.contains p:=by cases h:u.any (λz=>ieq z p);{have:¬ u.reverse.contains p=true:=λa=>(by rw[kF]at h;have c:p∈u:=(by simpa using a);exact h p c (by simp[ieq]));cases a:u.reverse.contains p;{rfl};{exact absurd a this}};{obtain⟨z,b,e⟩:=kH.1 h;rw[zxW.1 e]at b;simpa using b}
theorem zwn:∀(l:List Slot) (u:List Int),apS (pairs l) u.reverse=(spS l u).map List.reverse
 |[],u=>rfl
 |s::l,u=>by
  show (if s.Page = -1 then apS (pairs l) u.reverse else if u.reverse.contains s.Page then none else apS (pairs l) (s.Page::u.reverse))=_;unfold spS;rw[zE1];by_cases h:s.Page = -1;{rw [if_pos h,zxW.2 h,cT];exact zwn l u};{rw [if_neg h,show ieq s.Page (-1)=false from by simp[ieq,h],cF];cases a:u.reverse.contains s.Page;{have:=zwn l (ap u [s.Page]);rw[show (ap u [s.Page]).reverse=s.Page::u.reverse from by simp[ap]] at this;simpa using this};{rfl}}
theorem zBw:∀(l:List Mon) (u:List Int),apM (l.map λ(m:Mon)=>pairs m.Outer) u.reverse=spM l u
 |[],u=>rfl
 |m::l,u=>by
  show (match apS (pairs m.Outer) u.reverse with|none=>false|some v=>apM (l.map λ(m:Mon)=>pairs m.Outer) v)=_;rw[zwn];unfold spM;cases spS m.Outer u with|none=>rfl|some v=>exact zBw l v
theorem zBM (h:Host):zh3 h=spM h.Mons []:=zBw h.Mons []
def zF5 (h:Host):Prop:=zdW h/\znM h.Mons<=16777216
def zG4:zB:=[(27,zfY),(28,zfu),(29,ze5)]++zyN
theorem zCv:zo zG4:=zk zmC (zk zgJ<|zk zgm zu4)
theorem zoj:∀(l:List Mon) (u:List Bool),zeb l u=true->∀x∈l,zcH x=true
 |[],_,_,x,a=>by cases a
 |m::l,u,h,x,a=>by
  unfold zeb at h;cases b:zcH m;{rw [b]at h;cases h}
  .rw [b]at h;simp only[cT]at h;cases c:zdp m.Outer u with
   |none=>rw[c]at h;cases h
   |some d =>rw[c]at h;rcases qL.1 a with rfl|a;{exact b};{exact zoj l d h x a}
theorem zok {h:Host}(a:zbR h=true):∀x∈h.Mons,zcH x=true:=by unfold zbR at a;simp only[zcy]at a;exact zoj _ _ a.2.2.2.2
theorem zDg {t:List Slot}{n:Int}(h:zcg t n 12=true):∀s∈t,-1<=s.Page/\s.Page<12:=by intro s c;unfold zcg at h;simp only[zcy]at h;have a:=qJ.1 h.1 s c;unfold zc6 at a;cases b:zb9 s noSlot;{rw [b]at a;simp only[cF,zcy]at a;have:=zeu.1 a.2.1;rw[show wsub .i64 12 1=11 from rfl] at this;omega};{unfold zb9 at b;rw[qD]at b;have:s.Page = -1:=qP b.1;omega}
theorem ztK:∀l:List Mon,(∀x∈l,zcH x=true)->znM l=8*l.length
 |[],_=>rfl
 |m::l,h=>by have c:=znp (zeG<|h m (by simp));have a:=ztK l (λx b=>h x (by simp[b]));simp only[znM,qU,a,ln] at *;omega
theorem zzI {h:Host}(b:zdW h)(a:zbR h=true):zF5 h:=by refine⟨b,?_⟩;rw[ztK _<|zok a];have:=zy5 a;omega
theorem zA7 {h:Host}(c:zbR h=true):zBJ h:=by intro m d s e;have:=zDg (zeG<|zok c m d) s e;unfold wf64 Lit.wf;simp only[qD,decide_eq_true_iff];have a:IntKind.i64.min = -9223372036854775808:=rfl;have b:IntKind.i64.max=9223372036854775807:=rfl;rw[a,b];omega
def zg7 (h:Host):Bool:=bif zbR h then (cond (zh3 h) (cond (zfH h) (cond (zeP h h.Buffer) (zeP h h.IoBuffer) false) false) false) else false
@[simp] abbrev zgq (h:Host):Bool:=zg7 h
def zkz:Run:=rF1 dH λb=>(zed b,[aB<|zgq b])
def zlY (N:Nat)(a:Host):OA:=
 (oN (zhW a)<|cond (zgT a) (oN (zkp a)<|cond (zmH a) (oN (zgr a)<|cond (zdT a) (oN (zel a a.Buffer)<|cond (zcU a a.Buffer) (oN (zel a a.IoBuffer)<|some [aB<|zcU a a.IoBuffer]) oF) oF) oF) oF)
theorem zsC (a:Host)(b:zed a=true):∃N,zlY N a=some [aB<|zgq a]:=by have c:=zbm.1 b;have d:zbR a=true->zF5 a:=zzI c;have e:zbR a=true->zBJ a:=zA7;refine⟨0,?_⟩;unfold zlY oN;refine must rfl (br (λ_=>mu (br (λ_=>must rfl (br (λ_=>must rfl (br (λ_=>must rfl ?_) λ_=>?_)) λ_=>?_)) λ_=>?_)) λ_=>?_);all_goals first|rfl|(simp only [*,zgq,zg7,zdT,zcU,cT,cF]<;>rfl)|simp_all[Ty.cells,zgq,zg7,zdT,zcU]
theorem zph:u3 11 zkz:=kF1 zCv zL zA zC (zF []) zsC
def zGn:zB:=[(35,zg5),(22,ze6),(21,ziX)]++zBX
theorem zzS:zo zGn:=zk zix (zk zkk<|zk zki znC)
@[simp] abbrev zlj (h:Host)(_ _ _:Int):Bool:=pc (zdW h)
@[simp] abbrev zpv (h:Host)(m p c:Int):Int:=cellAt [zbj h m p] 0 c
def znd:Run:=rF4 dH dI dI dI λb c d e=>(zlj b c d e,[aI<|zpv b c d e])
def zqd (N:Nat)(a:Host)(b c d:Int):OA:=
 (oN (zgH a b c)<|oN (zfp [ze9 a b c] 0 d)<|some [aI<|zi0 [ze9 a b c] 0 d])
theorem zvS (a:Host)(b c d:Int)(e:zlj a b c d=true):∃N,zqd N a b c d=some [aI<|zpv a b c d]:=by have f:=zbm.1 e;refine⟨0,?_⟩;unfold zqd oN;exact must (zb3 f) (must rfl rfl)
theorem zso:u3 8 znd:=kF4 zzS zbr zA zC (zF []) zvS
theorem zoJ (a:List Slot)(b:List Kept):∀(l:List Guest) (i:Nat),(∀k (d:k<l.length),((i+k:Nat):Int)<ln b->zeW (ix b ((i+k:Nat):Int) kZ) l[k].Live a=true)->zg9 a b l i=true
 |[],_,_=>rfl
 |g::l,i,h=>by
  unfold zg9;cases f:ilt (i:Int) (ln b) with
  |false=>rfl
  |true=>
   have e:=h 0 (by simp) (by simpa using qP f);rw[cond_true,show zeW (ix b (i:Int) zd4) g.Live a=true from e,cond_true];exact zoJ a b l (i+1) λk d c=>by have:=h (k+1) (by simpa using d) (by rw[show i+(k+1)=i+1+k by omega];exact c);rw[show i+(k+1)=i+1+k by omega] at this;exact this
theorem zBz {h:Host}(S:Safe h):zfH h=true:=by unfold zfH;rw[qJ];intro x d;obtain⟨m,c,e⟩:=zAS d mZ;have T:=S.rt.t m c;rw[e] at T;refine zoJ _ _ _ 0 λk a b=>zFy.2 ?_;have hg:hasB ((0+k:Nat):Int) (ln x.Guests)=true:=zl.2 ⟨by omega,by unfold ln;omega⟩;have:=T _ hg;rw[show ix x.Guests ((0+k:Nat):Int) gZ=x.Guests[k] by rw[show ((0+k:Nat):Int)=(k:Int) by omega];exact zhs a gZ] at this;exact this
def cU (u:List Int)(q:Int):Nat:=u.countP λz=>ieq z q
theorem zwo:∀(l:List Slot) (u:List Int),(∀s∈l,SOk s)->(∀q,0<=q->(l.countP λs=>ieq s.Page q)+cU u q<=1)->∃v,spS l u=some v/\∀q,0<=q->cU v q=(l.countP λs=>ieq s.Page q)+cU u q
 |[],u,_,_=>⟨u,rfl,λq _=>by simp⟩
 |s::l,u,j,g=>by
  have i:∀x∈l,SOk x:=λx n=>j x (qR _ n);unfold spS;by_cases e:s.Page = -1;{rw [zba.2 e,cond_true];obtain⟨v,d,f⟩:=zwo l u i λq a=>(by have:=g q a;rw[zd5,if_neg (by omega)] at this;exact this);exact⟨v,d,λq a=>by rw[f q a,zd5,if_neg (by omega)];rfl⟩}
  .have hp:=(j s qX).pos e;rw[zcB.2 e,cond_false];have k:=g s.Page hp.1;rw[zd5,if_pos rfl]at k;have m:u.any (λz=>ieq z s.Page)=false:=by rw[<- u0,kH];rintro⟨z,p,h⟩;have:0<cU u s.Page:=uP.2 ⟨z,p,h⟩;omega
   rw[m,cond_false];have b:∀q,cU (ap u [s.Page]) q=cU u q+if s.Page=q then 1 else 0:=λq=>by
    unfold cU ap;rw[List.countP_append,kS,List.countP_nil]
    by_cases c:s.Page=q
    .rw [if_pos c,if_pos<|zba.2 c]
    .rw [if_neg c,if_neg (by rw[zba];exact c)]
   obtain⟨v,d,f⟩:=zwo l (ap u [s.Page]) i λq a=>(by have:=g q a;rw[zd5] at this;rw[b];omega);exact⟨v,d,λq a=>by rw[f q a,b,zd5];omega⟩
theorem zBx:∀(l:List Mon) (u:List Int),(∀x∈l,∀s∈x.Outer,SOk s)->(∀q,0<=q->zch l q+cU u q<=1)->spM l u=true
 |[],_,_,_=>rfl
 |x::l,u,d,c=>by have a:∀q,zch (x::l) q=(x.Outer.countP λs=>ieq s.Page q)+zch l q:=λq=>rfl;obtain⟨v,e,f⟩:=zwo x.Outer u (d x qX) λq b=>(by have:=c q b;rw[a] at this;omega);unfold spM;rw[e];exact zBx l v (λy g=>d y (qR _ g)) λq b=>by have:=c q b;rw[a] at this;rw[f q b];omega
theorem zBL {h:Host}(H:HOk h):zh3 h=true:=by rw[zBM];refine zBx _ _ (λx b=>(H.mons x b).sl) λq a=>?_;have:=H.uq q a;simpa [cU] using this
theorem zBl {h:Host}(S:Safe h):zg7 h=true:=by unfold zg7;rw[zr4.2 S.ok,cond_true,zBL S.ok,cond_true,zBz S,cond_true,show zeP h h.Buffer=true from qJ.2 S.rt.e1,cond_true];exact qJ.2 S.rt.e2
theorem zyq {a:Type}(f:a->Nat)(d x:a):∀(l:List a) (k:Nat),k<l.length->((l.set k x).map f).sum+f (l.getD k d)=(l.map f).sum+f x
 |[],k,h=>absurd h (Nat.not_lt_zero k)
 |y::l,0,_=>by simp;omega
 |y::l,k+1,h=>by have:=zyq f d x l k (by simpa using h);simp only[uS,qZ,kU,List.getD_cons_succ];omega
def zjK (x:Mon):Nat:=x.Outer.countP λs=>ine s.Page (-1)
theorem zrL {l:List Mon}{m:Int}(h:hasB m (ln l)=true)(x:Mon):zbK (up l m x)+zjK (ix l m mZ)=zbK l+zjK x:=by have a:=zl.1 h;unfold ln at a;exact zyq zjK mZ x l m.toNat (by omega)
theorem zBD {x a:Mon}{p:Int}{s:Slot}(b:a.Outer=up x.Outer p s)(c:hasB p (ln x.Outer)=true):zjK a+(if ine (ix x.Outer p sZ).Page (-1)=true then 1 else 0)=zjK x+(if ine s.Page (-1)=true then 1 else 0):=by unfold zjK;rw[b];exact zmm (λs:Slot=>ine s.Page (-1)) c s sZ
theorem ztc {h:Host}{r:List Mon}{m p:Int}{x:Mon}{s:Slot}(H:HOk h)(a:hasB m (ln h.Mons)=true)(d:hasB p 8=true)(b:r=up h.Mons m x)(c:x.Outer=up (ix h.Mons m mZ).Outer p s) :
 zbK r+(if ine (ix (ix h.Mons m mZ).Outer p sZ).Page (-1)=true then 1 else 0)=zbK h.Mons+(if ine s.Page (-1)=true then 1 else 0):=by
 have e:=zrL a x;have f:=zBD c ((H.mon a).hasO d);rw[b];omega
theorem zBn {h:Host}(H:HOk h){m p:Int}(a:hasB m (ln h.Mons)=true)(c:hasB p 8=true)(b:(ix (ix h.Mons m mZ).Outer p sZ).Page≠-1):zbK (zca h m p).Mons+1=zbK h.Mons:=by have e:=ztc (s:=noSlot) (x:=zdK {ix h.Mons m mZ with Out:=up (ix h.Mons m mZ).Out p (zbl h.Memory (ix (ix h.Mons m mZ).Outer p sZ).Page)} p noSlot) H a c (zet (h1:=zcr h m p) (p:=p) (s:=noSlot) a rfl) rfl;rw[if_pos<|zgU.2 b,if_neg (by decide)] at e;exact e
theorem zyI {h:Host}{m p c v:Int}(e:zbB h m p c v=true):cellAt [zbj (zcS h m p c v) m p] 0 c=v:=by unfold zcS;rw[e,cond_true];unfold zbB at e;rw[zbV,zbV] at e;obtain⟨k,w,y⟩:=e;obtain⟨H,n,l⟩:=ziP.1 k;have M:=ztH H (m:=m) (p:=p) 2 n l;have R:=M.op.ok;have b:hasB m (ln (mended h m p 2).Mons)=true:=(by rw[M.op.like.has];exact n);have a:=M.inn;unfold zrq;generalize mended h m p 2=r at R b a;have K:=R.mons _ (zb8 (zbi b) mZ);have s:hasB p (ln (ix r.Mons m mZ).Outer)=true:=(by unfold ln;rw[K.o8];exact l);have x:SOk (ix (ix r.Mons m mZ).Outer p sZ):=K.sl _ (zb8 (zbi s) sZ);have d:0<=(ix (ix r.Mons m mZ).Outer p sZ).Page/\(ix (ix r.Mons m mZ).Outer p sZ).Page<=11:=(by rcases x with h|⟨k,u,_⟩;{exact absurd (by rw[h];rfl) a};{exact⟨k,u⟩});have j:hasB (ix (ix r.Mons m mZ).Outer p sZ).Page (ln r.Memory)=true:=zl.2 ⟨d.1,by unfold ln;rw[R.m12];omega⟩;unfold zbj;dsimp only;rw[b,l,cond_true,cond_true];rw[show (ix r.Mons m zx)=ix r.Mons m mZ from rfl,zBq s,zgU.2 a,cond_true];generalize (ix (ix r.Mons m mZ).Outer p sZ).Page=q at d j;have f:zbL (ix r.Memory q [])=true:=R.pgs _ (zb8 (zbi j) []);have i:hasB c (ln<|ix r.Memory q [])=true:=(by rw[(zh2.1 f).2];exact w);unfold zW;rw[(zgv _ _ _).2 ⟨j,i⟩,y,cond_true,cond_true,ziO j];generalize ix r.Memory q []=g at i;have t:ix [up g c v] 0 []=up g c v:=rfl;unfold cellAt;rw[(zgv _ _ _).2 ⟨rfl,by rw[t,zcP];exact i⟩,cond_true,t,zV i]
theorem zyG {h:Host}(H:HOk h){m p a:Int}(b:hasB m (ln h.Mons)=true)(d:hasB p 8=true)(c:(ix (ix h.Mons m mZ).Outer p sZ).Page = -1)(f:a≠-1):zbK (zcz h m p a).Mons=zbK h.Mons+1:=by have e:=ztc (s:=⟨a,3⟩) (x:=zdK {ix h.Mons m mZ with Out:=up (ix h.Mons m mZ).Out p []} p ⟨a,3⟩) H b d (zet (h1:=landing h m p a) (p:=p) (s:=⟨a,3⟩) b rfl) rfl;rw[if_pos (show ine (⟨a,3⟩:Slot).Page (-1)=true from zgU.2 f),c,if_neg (by decide)] at e;exact e
theorem zBf {h:Host}(H:HOk h):zbK (zbO h).Mons+1=min (zbK h.Mons+1) 12:=by have f:=zvh H;unfold zbO;cases b:ieq (ln<|zbg h) 0 with|false=>have:=zcB.1 b;unfold ln at this;rw[cond_false];omega|true=>rw[cond_true];have d:=zba.1 b;unfold ln at d;have i:¬ (zO h 0).1<0:=λg=>(by have:(0:Int)∈zbg h:=zk3.2 ⟨zl.2 (by unfold ln;rw[H.m12];omega),(ziN (by omega)).1 g⟩;have a:=List.length_pos_of_mem this;omega);obtain⟨c,a,e⟩:=zv6 H (by omega) i;have:=zBn H c a (by rw[e];decide);omega
theorem zyT {h:Host}(H:HOk h){m p:Int}(k:hasB m (ln h.Mons)=true)(j:hasB p 8=true)(s:(ix (ix h.Mons m mZ).Outer p sZ).Page = -1) :
 zbK (fetched h m p).Mons=min (zbK h.Mons+1) 12/\∀i q,hasB i (ln h.Mons)=true->hasB q 8=true->¬ (i=m/\q=p)->(ix (ix h.Mons i mZ).Outer q sZ).Page = -1->(ix (ix (fetched h m p).Mons i mZ).Outer q sZ).Page = -1:=by
 have R:=roomy H;have c:hasB m (ln (zbO h).Mons)=true:=by rw[R.op.like.has];exact k
 have a:∀i q,hasB i (ln h.Mons)=true->hasB q 8=true->(ix (ix h.Mons i mZ).Outer q sZ).Page = -1->(ix (ix (zbO h).Mons i mZ).Outer q sZ).Page = -1:=λi q f g e=>by rcases R.sl i q f g with b|b<;>rw [b];{exact e};{rfl}
 have d:=a m p k j s;obtain⟨b,n⟩:=zqJ R.free;have l:=zl.1 b;have t:=(zrj R.op.ok c j d b n).2.1;refine⟨?_,λi q f g r e=>?_⟩
 .rw [<- zBf H];exact zyG R.op.ok c j d (by omega)
 .show (ix (ix (zcz (zbO h) m p _).Mons i mZ).Outer q sZ).Page = -1
  rw[t.ne i q (by rw[R.op.like.has];exact f) g r]
  exact a i q f g e
theorem zwJ {h:Host}{m:Int}(a:hasB m (ln h.Mons)=true)(p:Int):zbK (zbd h m p).Mons=zbK h.Mons:=by have:=zrL a {ix h.Mons m mZ with Dirty:=up (ix h.Mons m mZ).Dirty p true};have e:zjK {ix h.Mons m mZ with Dirty:=up (ix h.Mons m mZ).Dirty p true}=zjK (ix h.Mons m mZ):=rfl;show zbK (up h.Mons m _)=_;omega
theorem zCT {h:Host}(H:HOk h){m p:Int}(n:Int)(d:hasB m (ln h.Mons)=true)(j:hasB p 8=true)(u:(ix (ix h.Mons m mZ).Outer p sZ).Page≠-1) :
 zbK (zeL h m p n).Mons=zbK h.Mons/\∀i q,hasB i (ln h.Mons)=true->hasB q 8=true->¬ (i=m/\q=p)->(ix (ix (zeL h m p n).Mons i mZ).Outer q sZ).Page=(ix (ix h.Mons i mZ).Outer q sZ).Page:=by
 unfold zeL;cases w:ieq (wand .i64 n 2) 0 with
 |true=>exact⟨rfl,λ_ _ _ _ _=>rfl⟩
 |false=>
  rw[cond_false];obtain⟨c,f⟩:=zrk H d p;have a:hasB m (ln (zbd h m p).Mons)=true:=(by rw[c.like.has];exact d);have b:(ix (ix (zbd h m p).Mons m mZ).Outer p sZ).Page≠-1:=by rw[f];exact u
  have l:=zwJ d p;unfold opened;cases ieq (wand .i64 (ix (ix (zbd h m p).Mons m mZ).Outer p sZ).Rights 2) 0 with
  |false=>exact⟨l,λi q g k _=>by rw[cond_false,f]⟩
  |true=>rw[cond_true];obtain⟨y,v,z,A⟩:=ztI c.ok a j b (r:=3) (.inr rfl);refine⟨?_,λi q g k t=>by rw[v.ne i q (by rw[c.like.has];exact g) k t,f]⟩;rw[<- l];have e:=ztc (s:=⟨(ix (ix (zbd h m p).Mons m mZ).Outer p sZ).Page,3⟩) (x:=zdK (ix (zbd h m p).Mons m mZ) p ⟨(ix (ix (zbd h m p).Mons m mZ).Outer p sZ).Page,3⟩) c.ok a j (zfN (zbd h m p) m p ⟨(ix (ix (zbd h m p).Mons m mZ).Outer p sZ).Page,3⟩) rfl;rw[if_pos<|zgU.2 b] at e;exact Nat.add_right_cancel e
theorem zAT {h:Host}(H:HOk h){m p:Int}(n:Int)(a:hasB m (ln h.Mons)=true)(c:hasB p 8=true)(b:(ix (ix h.Mons m mZ).Outer p sZ).Page = -1) :
 zbK (mended h m p n).Mons=min (zbK h.Mons+1) 12/\∀i q,hasB i (ln h.Mons)=true->hasB q 8=true->¬ (i=m/\q=p)->(ix (ix h.Mons i mZ).Outer q sZ).Page = -1->(ix (ix (mended h m p n).Mons i mZ).Outer q sZ).Page = -1:=by
 unfold mended;rw[zba.2 b,cond_true];obtain⟨d,⟨u,w,x,t⟩,v⟩:=zrl H a c b;obtain⟨k,l⟩:=zyT H a c b;obtain⟨r,s⟩:=zCT d.ok n (by rw[d.like.has];exact a) c (by rw[t];show u≠-1;omega)
 exact⟨r.trans k,λi q g j f e=>by rw[s i q (by rw[d.like.has];exact g) j f];exact l i q g j f e⟩
theorem ztN {h:Host}{m q:Int}(a:hasB m (ln h.Mons)=true)(b:hasB q 8=true):zbj h m q=ix (zT h m).Memory q []:=by unfold zT;rw[a,cond_true];exact(zfU b []).symm
theorem zzl {h:Host}(S:Safe h){m p c v i q:Int}(d:hasB i (ln h.Mons)=true)(b:hasB q 8=true)(a:¬ (i=m/\q=p)):zbj (zcS h m p c v) i q=zbj h i q:=by obtain⟨k,_⟩:=zwc S m p c v;rw[ztN (by unfold ln;rw[k.len];exact d) b,ztN d b,k.seen i];by_cases e:i=m;{subst e;rw[zba.2 rfl,cond_true];unfold zfL;cases zey (zT h i) p c v with|false=>rfl|true=>rw[cond_true];show ix (zW (zT h i).Memory p c v) q []=_;unfold zW;(cases f:zdG (zT h i).Memory p c with|false=>rfl|true=>have g:=((zgv _ _ _).1 f).1;(cases zi v 0 99 with|false=>rfl|true=>rw[cond_true,cond_true];exact zbv (zl.1 g).1 (zl.1 b).1 (λe=>a ⟨rfl,e.symm⟩) _ _))};{rw [zcB.2 e,cond_false]}
structure Crowd (c v:Nat->Int) (h:Host) (i:Nat):Prop where
 safe:Safe h
 two:h.Mons.length=2
 used:zbK h.Mons=min i 12
 out:∀j:Nat,i<=j->j<16->(ix (ix h.Mons ((j / 8:Nat):Int) mZ).Outer ((j % 8:Nat):Int) sZ).Page = -1
 cell:∀j:Nat,j<i->cellAt [zbj h ((j / 8:Nat):Int) ((j % 8:Nat):Int)] 0 (c j)=v j
theorem Crowd.next {c v:Nat->Int}{h:Host}{i:Nat}(k:Crowd c v h i)(g:i<16)(p:hasB (c i) 4=true)(r:zi (v i) 0 99=true) :
 Crowd c v (zcS h ((i / 8:Nat):Int) ((i % 8:Nat):Int) (c i)<|v i) (i+1):=by
 have d:∀j:Nat,j<16->hasB ((j / 8:Nat):Int) (ln h.Mons)=true:=λj n=>zl.2 ⟨by omega,by unfold ln;rw[k.two];omega⟩
 have f:∀j:Nat,hasB ((j % 8:Nat):Int) 8=true:=λj=>zl.2 ⟨by omega,by omega⟩
 have b:zbB h ((i / 8:Nat):Int) ((i % 8:Nat):Int) (c i) (v i)=true:=by unfold zbB;rw[zbV,zbV];exact⟨ziP.2 ⟨k.safe.ok,d i g,f i⟩,p,r⟩
 obtain⟨s,_⟩:=zwc k.safe ((i / 8:Nat):Int) ((i % 8:Nat):Int) (c i) (v i);have q:=k.out i (qV _) g;obtain⟨t,u⟩:=zAT k.safe.ok 2 (d i g) (f i) q;have m:(zcS h ((i / 8:Nat):Int) ((i % 8:Nat):Int) (c i)<|v i).Mons=(mended h ((i / 8:Nat):Int) ((i % 8:Nat):Int) 2).Mons:=by unfold zcS;rw[b];rfl
 have a:∀j:Nat,j≠i->¬ (((j / 8:Nat):Int)=((i / 8:Nat):Int)/\((j % 8:Nat):Int)=((i % 8:Nat):Int)):=λj n e=>by omega
 refine⟨s.safe,s.len.trans k.two,?_,λj w l=>?_,λj n=>?_⟩
 .rw [m,t,k.used];omega
 .rw [m];exact u _ _ (d j l) (f j) (a j (by omega)) (k.out j (by omega) l)
 .by_cases e:j=i
  .subst e;exact zyI b
  .rw [zzl k.safe (d j (by omega)) (f j)<|a j e]
   exact k.cell j (by omega)
theorem zAD {h:Host}(H:HOk h)(e:zbK h.Mons=12):zbg h=[]:=by have:=zvh H;exact List.eq_nil_of_length_eq_zero (by omega)
theorem zDw {h:Host}(H:HOk h)(e:h.Mons.length=2):zhY h 0+zhY h 1=(zbK h.Mons:Int):=by
 rw[zvv H<|zl.2 ⟨by omega,by unfold ln;omega⟩,zvv H<|zl.2 ⟨by omega,by unfold ln;omega⟩]
 obtain⟨x,y,a⟩:∃x y,h.Mons=[x,y]:=by
  match h.Mons,e with
  |[x,y],_=>exact⟨x,y,rfl⟩
 rw[a];unfold zbK;simp[ix]
theorem zv2 {d b:Type}{f:d->b}{l:List d}{x:b}{c:List b}(h:l.map f=x::c):∃a r,l=a::r/\f a=x/\r.map f=c:=by cases l with|nil=>cases h|cons a r=>simp only[qZ,List.cons.injEq]at h;exact⟨a,r,rfl,h.1,h.2⟩
theorem zGO {a:AV}{b:CTy}(h:some a.sh=some (false,[b])):∃c,a = .one c/\c.ty=b:=by cases a with|one c=>simp only[AV.sh,qB,jH,List.cons.injEq,and_true,true_and]at h;exact⟨c,rfl,h⟩|agg l=>simp[AV.sh]at h
theorem zHE {a:AV}{t:Ty}(h:some a.sh=some (false,[.s t])):∃l:List t.den,a = .one (.s t l):=by obtain⟨c,rfl,b⟩:=zGO h;obtain⟨l,rfl⟩:=zfe b;exact⟨l,rfl⟩
section
open Go Go.ChangeShapes Go.WideShapes Go.ChangeAt
abbrev zsx (_:List Int):Bool:=true
abbrev zq4 (l:List Int):Bool:=igt (ln l) 1048576
def ztT:Run:=rF1 (dS .u8) λb=>(zsx b,[aB<|zq4 b])
def zxD (N:Nat)(a:List Int):OA:=
 (some [aB<|igt (ln a) 1048576])
theorem zAM (a:List Int)(b:zsx a=true):∃N,zxD N a=some [aB<|zq4 a]:=by refine⟨0,?_⟩;unfold zxD;first|rfl|(simp only [*,zq4,cT,cF]<;>rfl)|simp_all[Ty.cells,zq4]
theorem zxb:u3 4 ztT:=kF1 zmo zbr zpF zC (zF []) zAM
def zD2:zB:=[(4,ztT),(5,ziY),(6,zhJ),(7,zg4),(8,znd),(9,zjU),(10,ziV),(11,zkz)]++zzR
theorem zCf:zo zD2:=zk zxb (zk zmF<|zk zjq<|zk ziw<|zk zso<|zk zlH<|zk zkh<|zk zph zmo)
def zhN:List (List<|List Ins):=[[[(⟨7,0⟩:Ins)]],[[(⟨7,0⟩:Ins)]]]
theorem zyt:zyB zhN:=⟨by decide,by
 intro p a;have a:p=[[(⟨7,0⟩:Ins)]]:=by rcases qL.1 a with rfl|a;{rfl};{exact qE.1 a}
 rw[a];exact⟨by simp,λq b=>by rw[qE.1 b];simp⟩⟩
theorem zGU:zxF zhN:=⟨by decide,λp a=>by
 have a:p=[[(⟨7,0⟩:Ins)]]:=by rcases qL.1 a with rfl|a;{rfl};{exact qE.1 a}
 rw[a];exact⟨by decide,λq b=>by rw[qE.1 b];decide⟩⟩
theorem zFZ:((List.range 16).all λj=>ieq (ix (ix (zbW zhN).Mons ((j / 8:Nat):Int) mZ).Outer ((j % 8:Nat):Int) sZ).Page (-1))=true:=by kernel_rfl
theorem zDt:zbK (zbW zhN).Mons=0:=by kernel_rfl
theorem zFY:(zbW zhN).Mons.length=2:=by kernel_rfl
theorem zGe (c v:Nat->Int):Crowd c v (zbW zhN) 0 :=
 ⟨zy3 zGU,zFY,zDt,λj _ a=>zba.1 (qJ.1 zFZ j<|j3.2 a),λj a=>absurd a (Nat.not_lt_zero j)⟩
theorem zHD:((List.range 16).all λj=>ieq (zi7 .i64 ((j:Nat):Int) 8) ((j / 8:Nat):Int)&&ieq (zcN ((j:Nat):Int) 8) ((j % 8:Nat):Int))=true:=by kernel_rfl
theorem zBd {i:Nat}(a:i<16):zi7 .i64 (i:Int) 8=((i / 8:Nat):Int)/\zcN (i:Int) 8=((i % 8:Nat):Int):=by have:=qJ.1 zHD i (j3.2 a);rw[qD] at this;exact⟨zba.1 this.1,zba.1 this.2⟩
def zfI (N:Nat)(f:List Int):OA:=
 let i:=(⟨7,0⟩:Ins);let h:=zng [[[i]],[[i]]]; (oN (zsx f)<|cond (zq4 f) oT<|oN (zdz f)<|oN (zjV [[[i]],[[i]]])<|iter (σ:=(Int×(List Int)×lM×lN×lE×lE×Unit)) N (λl a=>let k:=zcN (zQ .i64 (ix a.2.1 0 0) a.1) 100;let d:=zcN a.1 8;let j:=(⟨a.2.2.1,a.2.2.2.1,a.2.2.2.2.1,a.2.2.2.2.2.1⟩:Host);let g:=zgp j (zi7 .i64 a.1 8) d (zcN (ix a.2.1 d 0) 4) k; (cond (ilt a.1 16) (oN (ine 8 0)<|oN (ine 8 0)<|oN (ine 8 0)<|oN (inb d<|ln a.2.1)<|oN (ine 4 0)<|oN (inb 0<|ln a.2.1)<|oN (ine 100 0)<|oN (ziE j (zi7 .i64 a.1 8) d (zcN (ix a.2.1 d 0) 4) k)<|l (zQ .i64 a.1 1,a.2.1,g.Memory,g.Mons,g.Buffer,g.IoBuffer,()))<|iter (σ:=(Int×(List Int)×lM×lN×lE×lE×Unit)) N (λm b=>let e:=zcN b.1 8;let c:=(⟨b.2.2.1,b.2.2.2.1,b.2.2.2.2.1,b.2.2.2.2.2.1⟩:Host); (cond (ilt b.1 16) (cond (ine (ln b.2.2.2.1) 2) oF<|oN (ine 8 0)<|oN (ine 8 0)<|oN (ine 8 0)<|oN (inb e<|ln b.2.1)<|oN (ine 4 0)<|oN (zlj c (zi7 .i64 b.1 8) e<|zcN (ix b.2.1 e 0) 4)<|oN (inb 0<|ln b.2.1)<|oN (ine 100 0)<|cond (ine (zpv c (zi7 .i64 b.1 8) e<|zcN (ix b.2.1 e 0) 4)<|zcN (zQ .i64 (ix b.2.1 0 0) b.1) 100) oF<|m (zQ .i64 b.1 1,b.2.1,b.2.2.1,b.2.2.2.1,b.2.2.2.2.1,b.2.2.2.2.2.1,()))<|oN (zjs c 0)<|oN (zjs c 1)<|cond (ieq (zQ .i64 (zkn c 0)<|zkn c 1) 12) (oN (zem c)<|cond (ieq (ln<|zcK c) 0) (oN (zed c)<|some [aB<|zgq c]) oF) oF)) (0,a.2.1,a.2.2.1,a.2.2.2.1,a.2.2.2.2.1,a.2.2.2.2.2.1,()))) (0,ze7 f,h.Memory,h.Mons,h.Buffer,h.IoBuffer,()))
def zjJ:=zF [(3,0,{n:=89,tm:=[(3,.sl 0 []),(5,.lp 0 0),(6,ti)],lo:=[(0,[.sl 1 [],.sl 2 [],.sl 3 [],.sl 4 []])],ro:=[(0,.int,true),(1,.sl .int,true),(2,.mon,true),(3,.entry,true),(4,.entry,true)]}),(3,2,{n:=89,tm:=[(3,.sl 0 []),(5,.lp 0 0),(7,ti)],lo:=[(0,[.sl 1 [],.sl 2 [],.sl 3 [],.sl 4 []])],ro:=[(0,.int,true),(1,.sl .int,true),(2,.mon,true),(3,.entry,true),(4,.entry,true)]})]
theorem zsR (N:Nat)(a:List Int):evalFn (cQ zD2 zCR zzk zDr) zjJ N 12 3 [aS .u8 a]=zfI N a:=by kernel_rfl
theorem zpa (N:Nat)(t:List Int)(L:t.length<=big)(K:16<N):Ends (λa=>a=[.one<|.b true]) (zfI N t):=by
 unfold zfI oN;conv=>zeta
 refine zbn rfl (zkZ (λ_=>zAx rfl) λ_=>zbn (zwb L) (zbn (zb3 zyt) ?_));obtain⟨D,k⟩:=(zkI<|zwb L).2;generalize ze7 t=p at D k;have S:ln p=12:=(by unfold ln;omega);obtain⟨c,w⟩:∃c:Nat->Int,c=λ(i:Nat)=>zcN (ix p ((i % 8:Nat):Int) 0) 4:=⟨_,rfl⟩;obtain⟨v,E⟩:∃v:Nat->Int,v=λ(i:Nat)=>zcN (zQ .i64 (ix p 0 0) (i:Int)) 100:=⟨_,rfl⟩;have y:∀i:Nat,i<16->hasB (c i) 4=true/\zi (v i) 0 99=true:=λi R=>(by subst w E;have u:=k ((i % 8:Nat):Int) (by omega) (by omega);have W:=k 0 (by omega) (by omega);have a:=znQ u.1 (show (0:Int)<4 by omega);have e:zQ .i64 (ix p 0 0) (i:Int)=ix p 0 0+i:=zeI (by omega) (by omega);have b:=znQ (x:=zQ .i64 (ix p 0 0) (i:Int)) (by rw[e];omega) (show (0:Int)<100 by omega);refine⟨zl.2 a,?_⟩;show zi (zcN (zQ .i64 (ix p 0 0) (i:Int)) 100) 0 99=true;exact zeu.2 (by omega));have I:=zGe c v;have J:SmH (zbW zhN):=zFW zyt;show Ends _ (iter _ _ (0,p,(zbW zhN).Memory,(zbW zhN).Mons,(zbW zhN).Buffer,(zbW zhN).IoBuffer,()));generalize zbW zhN=u at I J;refine zmr (λn s=>∃(i:Nat) (z:Host),s=((i:Int),p,z.Memory,z.Mons,z.Buffer,z.IoBuffer,())/\Crowd c v z i/\SmH z/\i+n=16) ?_ N 16 _ ⟨0,u,rfl,I,J,rfl⟩ K;rintro n s rec ⟨i,z,rfl,C,Z,R⟩ r;dsimp only;have F:=(zh7 z).2 Z;have h:inb 0 (ln p)=true:=zbi (zl.2 (by omega));refine zkZ (λB=>?_) (λA=>?_);{have f:i<16:=(by have:=qP B;omega);obtain⟨G,H⟩:=zBd f;obtain⟨T,U⟩:=y i f;rw[G,H];refine zbn rfl (zbn rfl (zbn rfl (zbn (zbi<|zl.2 ⟨by omega,by omega⟩) (zbn rfl (zbn h (zbn rfl (zbn (zb3 F)<|r (n-1) _ (by omega) ⟨i+1,zcS z ((i / 8:Nat):Int) ((i % 8:Nat):Int) (c i)<|v i,?_,C.next f T U,zDj Z,by omega⟩)))))));rw[zeI (show -9223372036854775808<=(i:Int)+1 by omega) (by omega),w,E];rfl};{have f:i=16:=(by have:=kW A;omega);subst f;refine zmr (λn s=>∃j:Nat,s=((j:Int),p,z.Memory,z.Mons,z.Buffer,z.IoBuffer,())/\j+n=16) ?_ N 16 _ ⟨0,rfl,rfl⟩ K;rintro m s O ⟨j,rfl,X⟩ l;dsimp only;refine zkZ (λq=>?_) (λ_=>?_);{have g:j<16:=(by have:=qP q;omega);obtain⟨G,H⟩:=zBd g;have d:=C.cell j g;have V:ine (ln z.Mons) 2=false:=(by unfold ln;rw[C.two];rfl);rw[G,H];refine zxM V (zbn rfl (zbn rfl (zbn rfl (zbn (zbi<|zl.2 ⟨by omega,by omega⟩) (zbn rfl (zbn (zb3 F)<|zbn h (zbn rfl (zxM ?_<|l (m-1) _ (by omega) ⟨j+1,?_,by omega⟩))))))));{show ine (cellAt [zbj z ((j / 8:Nat):Int) ((j % 8:Nat):Int)] 0<|zcN (ix p ((j % 8:Nat):Int) 0) 4) (zcN (zQ .i64 (ix p 0 0) (j:Int)) 100)=false;have d:cellAt [zbj z ((j / 8:Nat):Int) ((j % 8:Nat):Int)] 0 (zcN (ix p ((j % 8:Nat):Int) 0) 4)=zcN (zQ .i64 (ix p 0 0) (j:Int)) 100:=(by rw[w,E]at d;exact d);rw[d];exact zCG _};{rw [zeI (show -9223372036854775808<=(j:Int)+1 by omega) (by omega)];rfl}};{have M:zbK z.Mons=12:=C.used;have P:=zDw C.safe.ok C.two;have Q:=zAD C.safe.ok M;refine zbn rfl (zbn rfl (zbn ?_<|zbn (zb3 Z.1.1)<|zbn ?_<|zbn (zb3 F)<|zAx ?_));{show ieq (zQ .i64 (zhY z 0)<|zhY z 1) 12=true;rw[zeI (by omega) (by omega),P,M];rfl};{show ieq (ln<|zbg z) 0=true;rw[Q];rfl};{show [AV.one<|.b<|zg7 z]=_;rw[zBl C.safe]}}}
theorem zqm (d:List Int)(h:∀c∈zh [aS .u8 d],CVOk c):∃N,zfI N d=some [.one<|.b true]:=by have e:zb1 big [aS .u8 d]:=λc f=>CVB.of_ok (h c f);have g:=len0 e;exact⟨17,zFs (G:=λa=>a=[.one<|.b true])<|zpa 17 d g (by omega)⟩
theorem znZ:Try.f3.params.toList.map (zbp Try.prog 4)=[some (false,[.s .u8])]:=by kernel_rfl
theorem zlS:zxB 3 Try.f3.params.toList:=by refine zwS zCf zbr zpF zC (zhV (by kernel_rfl)) ?_;intro c hg;obtain⟨a,e⟩:=hg;rw[znZ]at a;obtain⟨h,g,rfl,d,a⟩:=zv2 a;cases List.map_eq_nil_iff.1 a;obtain⟨b,rfl⟩:=zHE d;obtain⟨N,f⟩:=zqm b e;exact⟨zjJ,N,12,(zsR N b).trans f⟩
theorem zpK (H:Type)(a:List (DataW H))(h:a.length=Try.f3.params.toList.length):Rows.fnCrowdedSpec.fn H a={results:=[.lit<|.bool true],args:=a}:=by
 have b:a.length=1:=h.trans (by kernel_rfl)
 match a,b with
 |[d],_=>rfl
set_option maxRecDepth 100000 in
theorem zmS (g:Os)(a:g.Started)(H:Type)(enc:TypeId×Value->H) :
 ReturnsInHanded {} Try.checked g 3 .any (Rows.fnCrowdedSpec.pre6 enc Try.prog Try.f3 Rows.fnCrowdedRow.domain false) (Rows.fnCrowdedSpec.post enc Try.prog Try.f3 false true false false):=by
 refine returnsInHanded_of_change_shaped (C:=Try.checked) own a (by kernel_rfl) Try.func3
  (ChangeSpec.witness6 (enc:=enc) (C:=Try.checked) false ⟨#[],#[.slice none 0 0],[]⟩ 8 (by kernel_rfl) (by kernel_rfl) (by kernel_rfl) (by kernel_rfl)) ?_
 intro W d c h i b e j _ f _ _;exact zq5 (P:=Try.prog) zBV zCK rfl zpK (by kernel_rfl) (B:=4) (by kernel_rfl) (by kernel_rfl) zlS W d c h i b e j f
end
end
end Go.Proofs.Ytcdjmakaecpkbaa.E
