/- What is proved here: a part of the proof that the statement of this claim holds (several texts of wip/, laid together). -/
import Derived.Test.YtgjpbkhaaiffkaaGreatW5
import Derived.Shelf.Sort.Plain
import Derived.Shelf.Slices.CompactI
import Derived.Shelf.Slices.In.SortNone
import Derived.Ground.Names2Prog
import Derived.Test.YtgjpbkhaaiffkaaGreatProg
import Derived.Lib.RowBridge
import Derived.Maps.OwnOps
import Derived.Maps.Views
namespace Go.Proofs.YtgjpbkhaaiffkaaGreat.E
open Go
set_option linter.constructorNameAsVariable false
set_option linter.unusedVariables false
set_option maxRecDepth 100000
set_option linter.unusedSimpArgs false
set_option linter.unusedSectionVars false
noncomputable section
def zxN:List GAct->Host×List Told->Host×List Told
 |[],u=>u
 |a::l,u=>zxN l (zep u.1 a,ap u.2 [ziH u.1 a])
def zsS (a:List (List<|List Ins))(l:List GAct):Host×List Told:=zxN (l.take 80) (zfV a,[])
abbrev HSt:Type:=(List Told)×(List<|List Int)×(List Mon)×(List Entry)×(List Entry)
def hOf (t:HSt):Host:=⟨t.2.1,t.2.2.1,t.2.2.2.1,t.2.2.2.2⟩
def tOf (u:Host×List Told):HSt:=(u.2,u.1.Memory,u.1.Mons,u.1.Buffer,u.1.IoBuffer)
def zxC (t:HSt):OA:=some [AV.agg<|zbe<|hOf t,AV.one<|.s .told t.1]
theorem zWo {e:List (List<|List Ins)}(h:zHq e):SmH (zfV e):=by refine⟨show SmM zXI from ⟨by decide,by decide⟩,⟨?_,?_⟩,by simp[zfV],by simp[zfV]⟩;{simp only [zfV,uP,vN];omega};{intro x d;simp only[zfV,jA]at d;obtain⟨p,f,rfl⟩:=d;have b:=h.2 p (jX f);refine⟨show ztv.length<=1048576 by decide,show SmM zMv from ⟨by decide,by decide⟩,show (rp 8 false).length<=1048576 by decide,⟨?_,?_⟩,by simp[zg4],⟨?_,?_⟩⟩;{simp only [zg4,uP,vN];omega};{intro y a;simp only[zg4,jA]at a;obtain⟨q,c,rfl⟩:=a;exact⟨b.2 q<|jX c,show zk9.length<=1048576 by decide,show zk9.length<=1048576 by decide,by simp[zfh]⟩};{simp only [zg4,uP,vN];omega};{intro y a;simp only[zg4,jA]at a;obtain⟨q,c,rfl⟩:=a;exact⟨show (rp 4 false).length<=1048576 by decide,show zk9.length<=1048576 by decide⟩}}
theorem zD3 {c:Host->GAct->Bool}(d:∀h a,SmH h->c h a=true)(m:Nat):∀(l:List GAct) (i:Nat) (u:Host×List Told),SmH u.1->u.2.length+l.length<=2147483648->
 goL (λ(i:Nat) x (t:HSt) n=>bif ilt (i:Int) (m:Int) then (cond (c (hOf t) x) (cond (few<|ln<|ap t.1 [ziH (hOf t) x]) (n (ap t.1 [ziH (hOf t) x],(zep (hOf t) x).Memory,(zep (hOf t) x).Mons,(zep (hOf t) x).Buffer,(zep (hOf t) x).IoBuffer)) none) none) else zxC t) zxC l i (tOf u)=zxC (tOf<|zxN (l.take<|m-i) u)
 |[],i,u,_,_=>by simp[goL,zxN]
 |a::l,i,u,e,k=>by simp only[qV]at k;have g:few (ln<|ap u.2 [ziH u.1 a])=true:=zf6 (by simp[ap];omega);have j:hOf (tOf u)=u.1:=rfl;have f:(tOf u).1=u.2:=rfl;by_cases h:i<m;{have b:ilt (i:Int) (m:Int)=true:=qK (by omega);simp only[goL,b,j,f,g,d _ _ e,cT];refine(zD3 d m l (i+1) (zep u.1 a,ap u.2 [ziH u.1 a]) (zWn e) (by simp[ap];omega)).trans ?_;rw[show m-i=m-(i+1)+1 by omega];rfl};{have b:ilt (i:Int) (m:Int)=false:=qI (by omega);simp only[goL,b,cF];rw[show m-i=0 by omega];rfl}
@[simp] abbrev zti (a:List (List<|List Ins))(l:List GAct):Bool:=pc (zHq a/\l.length<=1048576)
@[simp] abbrev zth (a:List (List<|List Ins))(l:List GAct):Host:=(zsS a l).1
@[simp] abbrev zBo (a:List (List<|List Ins))(l:List GAct):List Told:=(zsS a l).2
def zwq:Run:=rF2 (dS<|.sl<|.sl .ins) (dS .act) λb c=>(zti b c,[aH<|zth b c,aS .told<|zBo b c])
def zzH (N:Nat)(b:lQ)(g:lA):OA:=
 (oN (zvg b)<|iter (σ:=(Int×lA×lT×lM×lN×lE×lE×lM×lN×lE×lE×Unit)) N (λh a=>let e:=ix a.2.1 a.1 z8Z;let c:=(⟨a.2.2.2.2.2.2.2.1,a.2.2.2.2.2.2.2.2.1,a.2.2.2.2.2.2.2.2.2.1,a.2.2.2.2.2.2.2.2.2.2.1⟩:Host);let f:=ap a.2.2.1 [zmo c e];let d:=zmn c e; (cond (ilt a.1<|ln a.2.1) (cond (ilt a.1 80) (oN (inb a.1<|ln a.2.1)<|oN (zhQ c e)<|oN (few<|ln f)<|h (zI .i64 a.1 1,a.2.1,f,a.2.2.2.1,a.2.2.2.2.1,a.2.2.2.2.2.1,a.2.2.2.2.2.2.1,d.Memory,d.Mons,d.Buffer,d.IoBuffer,()))<|some [aH c,aS .told a.2.2.1])<|some [aH c,aS .told a.2.2.1])) (0,g,[],[],[],[],[],(zhk b).Memory,(zhk b).Mons,(zhk b).Buffer,(zhk b).IoBuffer,()))
def zMW:=zx [(160,0,{n:=39,tm:=[(1,.sl 0 []),(4,.lp 0 0),(6,.lp 1 0),(7,.sl 1 []),(8,ti)],lo:=[(0,[.sl 2 [],.sl 3 [],.sl 4 [],.sl 5 []]),(1,[.sl 6 [],.sl 7 [],.sl 8 [],.sl 9 []])],ro:=[(0,.act,false),(1,.told,true),(2,.sl .int,true),(3,.mon,true),(4,.entry,true),(5,.entry,true),(6,.sl .int,true),(7,.mon,true),(8,.entry,true),(9,.entry,true)]})]
theorem zMb (b:List lP)(c:List GAct)(k:zti b c=true):∃N,zzH N b c=some [aH<|zth b c,aS .told<|zBo b c]:=by
 obtain⟨j,g⟩:=zJ.1 k;have f:=zcu g;refine zbZ λN e=>?_;unfold zzH oN;conv=>zeta
 refine must (zbo j) ?_;refine(zX c (λi (t:lT×lM×lN×lE×lE)=>((i:Int),c,t.1,[],[],[],[],t.2.1,t.2.2.1,t.2.2.2.1,t.2.2.2.2,())) _ (λi (x:GAct) (t:HSt) m=>bif ilt (i:Int) ((80:Nat):Int) then (cond (zhQ (hOf t) x) (cond (few<|ln<|ap t.1 [ziH (hOf t) x]) (m (ap t.1 [ziH (hOf t) x],(zep (hOf t) x).Memory,(zep (hOf t) x).Mons,(zep (hOf t) x).Buffer,(zep (hOf t) x).IoBuffer)) none) none) else zxC t) (λ(t:lT×lM×lN×lE×lE)=>some [.agg<|zbe (⟨t.2.1,t.2.2.1,t.2.2.2.1,t.2.2.2.2⟩:Host),.one<|.s .told t.1]) (λi d t rec=>?_) (λt rec=>?_) _ ([],(zhk b).Memory,(zhk b).Mons,(zhk b).Buffer,(zhk b).IoBuffer)<|e f.1).trans ?_;{simp only [zbq d,zS d,zba d,zQ d f.1,cT];rfl};{simp only [zbl,cF]};exact zD3 (λh a l=>zbo ((zM h).2 l)) 80 c 0 (zfV b,[]) (zWo j) (by simpa using f.2)
theorem zFE:vQ 160 zwq:=kF2 zNS zq zbW zc7 zMW zMb
def zQ0:zV:=[(160,zwq)]++zZh
theorem zu1:zL zQ0:=zh zFE zNS
def zHs (b:Bare)(a:GAct):Bare:=bif ieq a.Kind 1 then zd4 b a.G else (cond (ieq a.Kind 2) (chg b a.G (zvk a.X ⟨a.Y,a.Z⟩)<|zBt (gAt b a.G) a.X ⟨a.Y,a.Z⟩)<|cond (ieq a.Kind 3) (chg b a.G (hasB a.X 4)<|zeb (gAt b a.G) a.X)<|cond (ieq a.Kind 4) (chg b a.G (zuW (gAt b a.G) a.X)<|zwW (gAt b a.G) a.X)<|cond (ieq a.Kind 5) (chg b a.G (zA8<|gAt b a.G)<|zxL<|gAt b a.G)<|cond (ieq a.Kind 6) (chg b a.G (zhO (gAt b a.G).Pending a.X)<|znU (gAt b a.G) a.X)<|cond (ieq a.Kind 7) (chg b a.G (zlm ⟨a.X,a.Y,ieq a.Z 1⟩)<|zKx (gAt b a.G) ⟨a.X,a.Y,ieq a.Z 1⟩)<|cond (ieq a.Kind 8) (zQf b a.X a.Y a.Z)<|cond (ieq a.Kind 9) (zkn b a.X)<|cond (ieq a.Kind 10) (zmS b)<|cond (ieq a.Kind 11) (zXe b a.G a.X a.Y)<|b)
def zHt (b:Bare)(a:GAct):Told:=bif ieq a.Kind 1 then ⟨zga b a.G,0⟩ else (cond (ieq a.Kind 2) ⟨zcb b a.G<|zvk a.X ⟨a.Y,a.Z⟩,0⟩<|cond (ieq a.Kind 3) ⟨zcb b a.G<|hasB a.X 4,0⟩<|cond (ieq a.Kind 4) ⟨zcb b a.G<|zuW (gAt b a.G) a.X,0⟩<|cond (ieq a.Kind 5) ⟨zcb b a.G<|zA8<|gAt b a.G,0⟩<|cond (ieq a.Kind 6) ⟨zcb b a.G<|zhO (gAt b a.G).Pending a.X,0⟩<|cond (ieq a.Kind 7) ⟨zcb b a.G<|zlm ⟨a.X,a.Y,ieq a.Z 1⟩,0⟩<|cond (ieq a.Kind 8) ⟨zwc b a.X a.Y a.Z,0⟩<|cond (ieq a.Kind 9) ⟨zfW b a.X,0⟩<|cond (ieq a.Kind 10) ⟨zmz b,zsx b⟩<|cond (ieq a.Kind 11) ⟨zxa b a.G a.X a.Y,0⟩<|⟨znJ b a.G a.X 1,zQj b a.G a.X⟩)
def zHu (l:List Bare)(a:GAct):List Bare:=bif zi a.Kind 1 17 then (cond (zi a.Kind 13 17) l<|cond (hasB a.M<|ln l) (up l a.M<|zHs (ix l a.M zBJ) a) l) else l
def zWN (l:List Bare)(a:GAct):Told:=bif zi a.Kind 1 17 then (cond (zi a.Kind 13 17) ⟨false,0⟩<|cond (hasB a.M<|ln l) (zHt (ix l a.M zBJ) a)<|cond (ieq a.Kind 10) ⟨false,-1⟩ ⟨false,0⟩) else ⟨false,0⟩
theorem zC {i n:Int}:hasB i n=true↔0<=i/\i<n:=by unfold hasB;exact decide_eq_true_iff
theorem zcK {x a b:Int}:zi x a b=true↔a<=x/\x<=b:=by simp[zi,ige,ile]
theorem zbk {x y:Int}:ieq x y=true↔x=y:=by simp[ieq]
theorem znl {x y:Int}:ine x y=true↔x≠y:=by simp[ine]
theorem zbN {x y:Int}:ieq x y=false↔x≠y:=by simp[ieq]
theorem zb9 {a b:Bool}:(cond a b false)=true↔a=true/\b=true:=by cases a<;>simp
theorem zbH {a:Type}(l:List a)(i:Int)(x:a):(up l i x).length=l.length:=by simp[up]
theorem zdZ {a:Type}(l:List a)(i:Int)(x:a):ln (up l i x)=ln l:=by simp[up,ln]
theorem zt7 {a:Type}{l:List a}{i:Int}(h:hasB i (ln l)=true)(d:a):∃k:Nat,∃b:k<l.length,i=(k:Int)/\ix l i d=l[k]:=by rw[zC]at h;unfold ln at h;refine⟨i.toNat,by omega,by omega,?_⟩;simp[ix,List.getD,qB (show i.toNat<l.length by omega)]
theorem ziY {a:Type}{l:List a}{k:Nat}(h:k<l.length)(d:a):ix l (k:Int) d=l[k]:=by simp[ix,List.getD,qB h]
theorem zlv {a:Type}{l:List a}{i:Int}(h:hasB i (ln l)=true)(d:a):ix l i d∈l:=by obtain⟨k,b,_,e⟩:=zt7 h d;rw[e];exact jD b
theorem zv8 {a:Type}{l:List a}{x:a}(h:x∈l)(d:a):∃i,hasB i (ln l)=true/\ix l i d=x:=by obtain⟨k,b,e⟩:=List.mem_iff_getElem.1 h;exact⟨(k:Int),zC.2 (by unfold ln;omega),(ziY b d).trans e⟩
theorem zbc {a:Type}{l:List a}{i:Int}(h:hasB i (ln l)=true)(x d:a):ix (up l i x) i d=x:=by rw[zC]at h;unfold ln at h;simp[ix,up,List.getD,show i.toNat<l.length by omega]
theorem zbs {a:Type}{l:List a}{i j:Int}(b:0<=i)(c:0<=j)(h:i≠j)(x d:a):ix (up l i x) j d=ix l j d:=by have:i.toNat≠j.toNat:=(by omega);simp[ix,up,List.getD,jF,this]
theorem z00 {a:Type}(l:List a)(i:Int)(x y:a):up (up l i x) i y=up l i y:=by simp[up]
theorem zMs {a:Type}{l m:List a}(d:a)(h:l.length=m.length)(e:∀i,hasB i (ln l)=true->ix l i d=ix m i d):l=m:=by refine vO h λk b c=>?_;have:=e (k:Int) (zC.2 (by unfold ln;omega));rwa [ziY b,ziY c] at this
theorem zGz {a:Type}{l:List a}{i:Int}(h:hasB i (ln l)=true)(d:a):up l i (ix l i d)=l:=by obtain⟨k,b,rfl,e⟩:=zt7 h d;rw[e];simp[up]
def cPg (x:Mon)(q:Int):Nat:=x.Outer.countP λs=>ieq s.Page q
def zeS (l:List Mon)(q:Int):Nat:=(l.map λx=>cPg x q).sum
theorem zNH {a:Type}(P:a->Bool){l:List a}{i:Int}(h:hasB i (ln l)=true)(x d:a):(up l i x).countP P+(if P (ix l i d) then 1 else 0)=l.countP P+(if P x then 1 else 0):=by
 obtain⟨k,b,rfl,e⟩:=zt7 h d;rw[e];simp only[up,kY,List.countP_set b];have:(if P l[k]=true then 1 else 0)<=l.countP P:=by
  split
  .rename_i hp;exact vF.2 ⟨l[k],jD b,hp⟩
  .omega
 omega
theorem zwK {l:List Mon}{m:Int}(h:hasB m (ln l)=true)(x:Mon)(q:Int):zeS (up l m x) q+cPg (ix l m mZ) q=zeS l q+cPg x q:=by obtain⟨k,a,rfl,e⟩:=zt7 h mZ;rw[e];clear h e;unfold up;simp only[kY];induction l generalizing k with|nil=>simp at a|cons y l b=>(cases k with|zero=>simp[zeS];omega|succ k=>have:=b k (by simpa using a);simp[zeS] at this ⊢;omega)
theorem zEV {l:List Mon}{m p:Int}(a:hasB m (ln l)=true)(b:hasB p (ln (ix l m mZ).Outer)=true):1<=zeS l (ix (ix l m mZ).Outer p sZ).Page:=by have d:1<=cPg (ix l m mZ) (ix (ix l m mZ).Outer p sZ).Page:=vF.2 ⟨_,zlv b sZ,by simp[ieq]⟩;have:=zwK a (⟨[],[],[],[],[],0,0,[],0⟩:Mon) (ix (ix l m mZ).Outer p sZ).Page;have c:cPg (⟨[],[],[],[],[],0,0,[],0⟩:Mon) (ix (ix l m mZ).Outer p sZ).Page=0:=rfl;omega
theorem z1j {l:List Mon}{m p n k:Int}{q:Int}(b:hasB m (ln l)=true)(v:hasB p (ln (ix l m mZ).Outer)=true)(u:hasB n (ln l)=true)(f:hasB k (ln (ix l n mZ).Outer)=true)(z:(ix (ix l m mZ).Outer p sZ).Page=q)(t:(ix (ix l n mZ).Outer k sZ).Page=q)(h:zeS l q<=1):m=n/\p=k:=by have c:=zC.1 b;have d:=zC.1 u;have i:=zC.1 v;have g:=zC.1 f;have B:¬ ieq q (q+1)=true:=(by simp[ieq];omega);obtain⟨y,r⟩:∃y:Mon,y.Outer=up (ix l m mZ).Outer p ⟨q+1,0⟩:=⟨{ix l m mZ with Outer:=up (ix l m mZ).Outer p ⟨q+1,0⟩},rfl⟩;have x:=zNH (λs=>ieq s.Page q) v (⟨q+1,0⟩:Slot) sZ;simp only[z,show ieq q q=true by simp[ieq],show ieq (q+1) q=false by simp[ieq];omega,if_true,kB,if_false] at x;have C:=zwK b y q;simp only[cPg,r] at C;have D:zeS (up l m y) q=0:=(by omega);apply Classical.byContradiction;intro A;have w:1<=zeS (up l m y) q:=(by by_cases a:m=n;{subst a;have j:p≠k:=λe=>A ⟨rfl,e⟩;have:=zEV (l:=up l m y) (m:=m) (p:=k) (by rw[zdZ];exact b) (by rw[zbc b,r,zdZ];exact f);rw[zbc b,r,zbs i.1 g.1 j,t] at this;exact this};{have:=zEV (l:=up l m y) (m:=n) (p:=k) (by rw[zdZ];exact u) (by rw[zbs c.1 d.1 a];exact f);rw[zbs c.1 d.1 a,t] at this;exact this});omega
theorem zsz {a b c:Bool}:(cond a b c)=true↔(a=true/\b=true)\/(a=false/\c=true):=by cases a<;>simp
def SOk (s:Slot):Prop:=s=noSlot\/(0<=s.Page/\s.Page<=11/\1<=s.Rights/\s.Rights<=3)
theorem zTj {a b:Slot}(c:a.Page=b.Page)(d:a.Rights=b.Rights):a=b:=by cases a;cases b;simp_all
theorem zjP {a b:Slot}:zct a b=true↔a=b:=by simp only[zct,qE,zbk];exact⟨λh=>zTj h.1 h.2,λh=>by rw[h];exact⟨rfl,rfl⟩⟩
theorem zq1 {a b:Slot}:zct a b=false↔a≠b:=by rw[<- vP,zjP]
theorem zWg {s:Slot}:zdT s 12=true↔SOk s:=by unfold zdT SOk;rw[zsz,zjP,zq1];have:wsub .i64 12 1=11:=(by decide);simp only[this,zsz,zcK];simp[igt];constructor;{rintro (h|⟨h,⟨a,b⟩,c⟩);{exact .inl h};{exact .inr ⟨a,b,c⟩}};{intro h;by_cases d:s=noSlot;{exact .inl d};{rcases h with h|⟨a,b,c⟩;{exact .inl h};{exact .inr ⟨d,⟨a,b⟩,c⟩}}}
theorem SOk.none {s:Slot}(h:SOk s)(a:s.Page = -1):s=noSlot:=by rcases h with h|h;{exact h};{omega}
theorem SOk.pos {s:Slot}(h:SOk s)(a:s.Page≠-1):0<=s.Page/\s.Page<=11/\1<=s.Rights/\s.Rights<=3:=by rcases h with h|h;{rw [h]at a;exact absurd rfl a};{exact h}
structure MOk (x:Mon):Prop where
 g1:1<=x.Guests.length
 g2:x.Guests.length<=2
 gt:x.Tables.length=x.Guests.length
 o8:x.Outer.length=8
 sl:∀s∈x.Outer,SOk s
 u8:x.Out.length=8
 d8:x.Dirty.length=8
 outs:x.Outs.length<=40
 pend:zdu x.Pending=true
 tr:zi x.Traps 0 3=true
 own:zi x.Own 0 1000000000=true
 gs:∀g∈x.Guests,zdG g=true
 fit:∀p,hasB p 8=true->zlz (ix x.Outer p sZ) (ix x.Out p [])=true
theorem zEQ {P:Nat->Bool}:∀{n i:Nat},zlX P n i=true↔∀j,i<=j->j<i+n->P j=true
 | 0,i=>by simp[zlX];intro j a b;omega
 |n+1,i=>by rw[zlX,qE,zEQ];constructor;{rintro⟨a,b⟩ j c d;by_cases e:j=i;{rw [e];exact a};{exact b j (by omega) (by omega)}};{intro h;exact⟨h i (by omega) (by omega),λj a b=>h j (by omega) (by omega)⟩}
theorem zmx {t:List Slot}{n p:Int}:zcJ t n p=true↔(∀s∈t,zdT s p=true)/\ln t=n:=by unfold zcJ;rw[zb9,qL,zbk]
theorem z6v {x:Mon}:zd6 x=true↔MOk x:=by unfold zd6;simp only[zb9,zcK,zbk,zmx,zEQ,qL,ile,qZ];constructor;{rintro⟨⟨g,i⟩,m,⟨k,l⟩,n,q,r,e,a,b,c,d⟩;unfold ln at *;refine⟨by omega,by omega,by omega,by omega,λs f=>zWg.1 (k s f),by omega,by omega,by omega,e,zcK.2 a,zcK.2 b,c,λp t=>?_⟩;have u:=zC.1 t;have:=d p.toNat (by omega) (by omega);unfold fits at this;rwa [show ((p.toNat:Nat):Int)=p by omega] at this};{intro h;obtain⟨g,i,m,k,l,n,q,r,e,a,b,c,d⟩:=h;unfold ln;exact⟨⟨by omega,by omega⟩,by omega,⟨λs f=>zWg.2 (l s f),by omega⟩,by omega,by omega,by omega,e,zcK.1 a,zcK.1 b,c,λj g i=>d (j:Int) (zC.2 (by omega))⟩}
theorem zjs (o:List Slot)(s:Slot)(q:Int):(s::o).countP (λs=>ieq s.Page q)=o.countP (λs=>ieq s.Page q)+if s.Page=q then 1 else 0:=by rw[u4];simp[ieq]
theorem zxZ:∀{o:List Slot} {u:List Bool},(∀s∈o,s.Page<u.length)->
 (∀c,zgJ o u=some c↔(∀q,0<=q->o.countP (λs=>ieq s.Page q)+(if ix u q false then 1 else 0)<=1)/\
  c=(o.foldl (λu s=>bif ilt s.Page 0 then u else up u s.Page true) u))
 |[],u,h,c=>by simp[zgJ];exact⟨λh=>⟨λq _=>by split<;>omega,h.symm⟩,λh=>h.2.symm⟩
 |s::o,u,h,c=>by
  unfold zgJ;by_cases g:s.Page<0;{have b:ilt s.Page 0=true:=qK g;rw[b,cond_true,zxZ λy d=>h y (qR _ d)];simp only[k8,b,cond_true];refine and_congr (forall_congr' λq=>forall_congr' λf=>?_) Iff.rfl;have e:(if s.Page=q then 1 else 0)=0:=if_neg (by omega);rw[zjs,e,j7]};{have b:ilt s.Page 0=false:=qI g;have k:=h s qY;have j:hasB s.Page (ln u)=true:=zC.2 ⟨by omega,by unfold ln;omega⟩;rw[b,cond_false];cases i:ix u s.Page false with|true=>rw[cond_true];constructor;{intro h;cases h};{rintro⟨h,_⟩;have:=h s.Page (by omega);rw[zjs,if_pos rfl,i] at this;simp at this}|false=>rw[cond_false,zxZ (λy d=>by rw[zbH];exact h y (qR _ d))];simp only[k8,b,cond_false];refine and_congr (forall_congr' λq=>forall_congr' λf=>?_) Iff.rfl;rw[zjs];by_cases a:s.Page=q;{subst a;rw[zbc j,i];simp};{rw [zbs (by omega) f a,if_neg a,j7]}}
theorem zGA:∀(o:List Slot) (u:List Bool),(o.foldl (λu s=>bif ilt s.Page 0 then u else up u s.Page true) u).length=u.length
 |[],u=>rfl
 |s::o,u=>by rw[k8,zGA];cases ilt s.Page 0<;>simp [zbH]
theorem zM5:∀(o:List Slot) (u:List Bool) (q:Int),0<=q->(∀s∈o,s.Page<u.length)->(ix (o.foldl (λu s=>bif ilt s.Page 0 then u else up u s.Page true) u) q false=true↔ix u q false=true\/1<=o.countP λs=>ieq s.Page q)
 |[],u,q,b,h=>by simp
 |s::o,u,q,b,h=>by
  rw[k8,zM5 _ _ q b (λy f=>by have:=h y (qR _ f);cases ilt s.Page 0<;>simpa [zbH] using this),zjs];by_cases c:s.Page<0;{rw [show ilt s.Page 0=true from qK c,cond_true,if_neg (by omega),j7]};{rw [show ilt s.Page 0=false from qI c,cond_false];have e:=h s qY;have d:hasB s.Page (ln u)=true:=zC.2 ⟨by omega,by unfold ln;omega⟩;by_cases a:s.Page=q;{subst a;rw[zbc d];simp};{rw [zbs (by omega) b a,if_neg a,j7]}}
theorem zxp:∀{l:List Mon} {u:List Bool},u.length=12->(zhJ l u=true↔(∀x∈l,MOk x)/\∀q,0<=q->zeS l q+(if l≠[]/\ix u q false then 1 else 0)<=1)
 |[],u,c=>by simp[zhJ,zeS]
 |x::l,u,c=>by
  unfold zhJ;rw[zb9,z6v];constructor;{rintro⟨f,b⟩;have k:∀s∈x.Outer,s.Page<u.length:=λs n=>(by rcases f.sl s n with h|h;{rw [h,c];decide};{rw [c];omega});split at b;{rename_i B d;obtain⟨g,rfl⟩:=(zxZ k B).1 d;rw[zxp (by rw[zGA,c])]at b;obtain⟨v,w⟩:=b;refine⟨by simpa using ⟨f,v⟩,λq a=>?_⟩;have z:=g q a;have i:=w q a;have m:=zM5 x.Outer u q a k;simp only[zeS,q9,uO]at i ⊢;unfold cPg at i ⊢;simp only[ne_eq,reduceCtorEq,not_false_eq_true,true_and];by_cases r:l=[];{subst r;simpa using z};{simp only [r,ne_eq,not_false_eq_true,true_and]at i;by_cases j:ix (x.Outer.foldl (λu s=>bif ilt s.Page 0 then u else up u s.Page true) u) q false=true;{rw [if_pos j]at i;omega};{rw [if_neg j]at i;have p:¬ (ix u q false=true\/1<=x.Outer.countP λs=>ieq s.Page q):=λe=>j (m.2 e);rw[not_or]at p;rw[if_neg p.1];omega}}};{cases b}}
  .rintro⟨f,b⟩;have t:MOk x:=f x qY;refine⟨t,?_⟩;have k:∀s∈x.Outer,s.Page<u.length:=λs n=>by rcases t.sl s n with h|h;{rw [h,c];decide};{rw [c];omega}
   have d:=(zxZ k _).2 ⟨λq a=>by
    have:=b q a;simp only[zeS,q9,uO,ne_eq,reduceCtorEq,not_false_eq_true,true_and] at this;unfold cPg at this;omega,rfl⟩
   rw[d];simp only;rw[zxp (by rw[zGA,c])];refine⟨λy A=>f y (qR _ A),λq a=>?_⟩;have g:=b q a;have m:=zM5 x.Outer u q a k;simp only[zeS,q9,uO,ne_eq,reduceCtorEq,not_false_eq_true,true_and]at g ⊢;unfold cPg at g ⊢;split;{rename_i j;rcases m.1 j.2 with h|h;{rw [if_pos h]at g;omega};{omega}};{omega}
structure HOk (h:Host):Prop where
 m12:h.Memory.length=12
 pgs:∀c∈h.Memory,zcn c=true
 n1:1<=h.Mons.length
 n3:h.Mons.length<=3
 b1:zfH h.Buffer=true
 b2:zfH h.IoBuffer=true
 mons:∀x∈h.Mons,MOk x
 uq:∀q,0<=q->zeS h.Mons q<=1
theorem ziT {h:Host}:zbM h=true↔HOk h:=by unfold zbM zid;simp only[zb9,zcK,zbk,qL];rw[zxp (by simp[rp])];have g:∀q,ix (rp 12 false) q false=false:=λq=>(by unfold ix rp;rw[j8,kE];split<;>rfl);simp only[g,kB,and_false,if_false,j7];unfold ln;constructor;{rintro⟨⟨e,f⟩,⟨i,j⟩,a,b,c,d⟩;exact⟨by omega,e,by omega,by omega,a,b,c,d⟩};{rintro⟨e,f,i,j,a,b,c,d⟩;exact⟨⟨f,by omega⟩,⟨by omega,by omega⟩,a,b,c,d⟩}
theorem HOk.mon {h:Host}(H:HOk h){m:Int}(a:hasB m (ln h.Mons)=true):MOk (ix h.Mons m mZ):=H.mons _ (zlv a _)
theorem MOk.hasO {x:Mon}(H:MOk x){p:Int}(a:hasB p 8=true):hasB p (ln x.Outer)=true:=by rw[ln,H.o8];exact a
theorem MOk.hasU {x:Mon}(H:MOk x){p:Int}(a:hasB p 8=true):hasB p (ln x.Out)=true:=by rw[ln,H.u8];exact a
theorem MOk.hasD {x:Mon}(H:MOk x){p:Int}(a:hasB p 8=true):hasB p (ln x.Dirty)=true:=by rw[ln,H.d8];exact a
theorem MOk.slot {x:Mon}(H:MOk x){p:Int}(a:hasB p 8=true):SOk (ix x.Outer p sZ):=H.sl _ (zlv (H.hasO a) _)
theorem HOk.uniq {h:Host}(H:HOk h){m p n k q:Int}(a:hasB m (ln h.Mons)=true)(f:hasB p 8=true)(b:hasB n (ln h.Mons)=true)(e:hasB k 8=true)(c:(ix (ix h.Mons m mZ).Outer p sZ).Page=q)(d:(ix (ix h.Mons n mZ).Outer k sZ).Page=q)(g:0<=q):m=n/\p=k :=
 z1j a ((H.mon a).hasO f) b ((H.mon b).hasO e) c d (H.uq q g)
theorem HOk.up {h:Host}(H:HOk h){m:Int}(k:hasB m (ln h.Mons)=true){x:Mon}(l:MOk x){a:Host}(e:a.Mons=up h.Mons m x)(d:a.Memory.length=12)(f:∀c∈a.Memory,zcn c=true)(i:zfH a.Buffer=true)(j:zfH a.IoBuffer=true)(n:∀q,0<=q->cPg x q<=cPg (ix h.Mons m mZ) q\/zeS h.Mons q=0/\cPg x q<=1):HOk a:=by refine⟨d,f,by rw[e,zbH];exact H.n1,by rw[e,zbH];exact H.n3,i,j,λy b=>?_,λq g=>?_⟩;{rw [e]at b;unfold E.up at b;rcases q0 b with h|h;{exact H.mons y h};{rw [h];exact l}};{rw [e];have p:=zwK k x q;have r:=H.uq q g;have s:=n q g;omega}
structure KOk (k:Kept) (inner outer:List Slot):Prop where
 l1:k.Known.length=inner.length
 l2:k.Slots.length=inner.length
 at':∀i,hasB i (ln inner)=true->ix k.Slots i sZ=bif ix k.Known i false then zbf (ix inner i sZ) outer else noSlot
theorem z6s {k:Kept}{d e:List Slot}:zkJ k d e=true↔KOk k d e:=by unfold zkJ;have f:∀{a b:Int} {c:Bool},(cond (ine a b) false c)=true↔a=b/\c=true:=(by intro a b c;by_cases h:a=b;{simp [ine,h]};{simp [ine,h]});rw[f,f,zEQ];unfold ln zpr;constructor;{rintro⟨m,n,g⟩;refine⟨by omega,by omega,λi p=>?_⟩;have l:=zC.1 p;unfold ln at l;have:=zjP.1 (g i.toNat (by omega) (by omega));rwa [show ((i.toNat:Nat):Int)=i by omega] at this};{rintro⟨m,n,g⟩;exact⟨by omega,by omega,λj q r=>zjP.2 (g _<|zC.2 (by unfold ln;omega))⟩}
def TOk (x:Mon):Prop:=∀g,hasB g (ln x.Guests)=true->KOk (ix x.Tables g kZ) (ix x.Guests g gZ).Live x.Outer
structure Rt (h:Host):Prop where
 t:∀m,hasB m (ln h.Mons)=true->TOk (ix h.Mons m mZ)
 e1:∀e∈h.Buffer,zcc h e=true
 e2:∀e∈h.IoBuffer,zcc h e=true
structure Safe (h:Host):Prop where
 ok:HOk h
 rt:Rt h
theorem zng {a b:Slot}:below' a b=true↔a=noSlot\/(a.Page=b.Page/\enough b.Rights a.Rights=true):=by unfold below';rw[zsz,zjP,zq1,zb9,zbk];by_cases h:a=noSlot<;>simp [h]
theorem z01 (x:Int):wand .i64 0 x=0:=by unfold wand;have:(BitVec.ofInt 64 0 &&& BitVec.ofInt 64 x)=0#64:=(by rw[show BitVec.ofInt 64 0=0#64 from rfl,BitVec.zero_and]);show IntKind.wrap .i64 ((BitVec.ofInt 64 0 &&& BitVec.ofInt 64 x).toNat:Int)=0;rw[this];rfl
theorem z1e {a:Slot}(h:below' a noSlot=true):a=noSlot:=by rcases zng.1 h with h|⟨c,b⟩;{exact h};{refine zTj c ?_;unfold enough at b;rw[show noSlot.Rights=0 from rfl,z01]at b;simp only[zb9,zbk]at b;exact b.2.2.symm}
theorem zfm {h:Host}{e:Entry}:zcc h e=true↔hasB (zcy e.Tag) (ln h.Mons)=true/\hasB (zdF e.Tag) (ln (ix h.Mons (zcy e.Tag) mZ).Guests)=true/\
 below' ⟨e.Host,e.Rights⟩ (zbf (zbn (ix (ix h.Mons (zcy e.Tag) mZ).Guests (zdF e.Tag) gZ).Live e.Page) (ix h.Mons (zcy e.Tag) mZ).Outer)=true:=by
 unfold zcc;rw[zb9,zb9]
theorem zOt {o:List Slot}{p q:Int}{s:Slot}(a:0<=p)(h:q≠p):zbn (up o p s) q=zbn o q:=by unfold zbn;rw[zdZ];cases b:hasB q (ln o) with|false=>rfl|true=>rw[cond_true,cond_true,zbs a (zC.1 b).1<|Ne.symm h]
theorem zHH {s:Slot}{o:List Slot}{p:Int}{t:Slot}(a:0<=p)(h:s.Page≠p):zbf s (up o p t)=zbf s o:=by unfold zbf;rw[zOt a h]
theorem zWT {s:Slot}{o:List Slot}:zbf s o=noSlot\/(zbf s o).Page=(zbn o s.Page).Page:=by unfold zbf;cases ieq s.Page (-1)<;>cases ieq (zbn o s.Page).Page (-1)<;>cases ieq (zd5 s.Rights (zbn o s.Page).Rights) 0<;>simp
theorem zkE (k:Kept)(q:Int):(zbR k q).Known.length=k.Known.length/\(zbR k q).Slots.length=k.Slots.length:=by unfold zbR;cases zdc k q<;>simp [zbH]
theorem zyo:∀(l:List Int) (k:Kept),(zeU k l).Known.length=k.Known.length/\(zeU k l).Slots.length=k.Slots.length
 |[],k=>⟨rfl,rfl⟩
 |q::l,k=>by have a:=zyo l (zbR k q);have b:=zkE k q;exact⟨a.1.trans b.1,a.2.trans b.2⟩
theorem zu3 {k:Kept}{q i:Int}(d:k.Known.length=k.Slots.length)(b:hasB i (ln k.Known)=true) :
 ix (zbR k q).Known i false=(cond (ieq q i) false<|ix k.Known i false)/\ix (zbR k q).Slots i sZ=(cond (ieq q i) noSlot<|ix k.Slots i sZ):=by
 have c:hasB i (ln k.Slots)=true:=by unfold ln at b ⊢;rwa [<- d]
 unfold zbR zdc
 by_cases e:q=i
 .subst e;simp only[b,c,cond_true,ieq,beq_self_eq_true];exact⟨zbc b _ _,zbc c _ _⟩
 .rw [show ieq q i=false from zbN.2 e]
  by_cases a:hasB q (ln k.Known)=true
  .have hq':hasB q (ln k.Slots)=true:=by unfold ln at a ⊢;rwa [<- d]
   simp only[a,hq',cond_true,cond_false];exact⟨zbs (zC.1 a).1 (zC.1 b).1 e _ _,zbs (zC.1 a).1 (zC.1 b).1 e _ _⟩
  .rw [vP]at a;simp[a]
theorem zAj:∀(l:List Int) {k:Kept} {i:Int},k.Known.length=k.Slots.length->hasB i (ln k.Known)=true->
 (i∈l->ix (zeU k l).Known i false=false/\ix (zeU k l).Slots i sZ=noSlot)/\
 (i∉l->ix (zeU k l).Known i false=ix k.Known i false/\ix (zeU k l).Slots i sZ=ix k.Slots i sZ)
 |[],k,i,d,c=>⟨λh=>by simp at h,λ_=>⟨rfl,rfl⟩⟩
 |q::l,k,i,d,c=>by have b:=zkE k q;have g:=zu3 (q:=q) d c;have f:=zAj l (k:=zbR k q) (i:=i) (by rw[b.1,b.2,d]) (by unfold ln at c ⊢;rwa [b.1]);show (_->ix (zeU (zbR k q) l).Known i false=_/\ix (zeU (zbR k q) l).Slots i sZ=_)/\(_->ix (zeU (zbR k q) l).Known i false=_/\ix (zeU (zbR k q) l).Slots i sZ=_);by_cases a:i∈l;{refine⟨λ_=>f.1 a,λh=>absurd (qR _ a) h⟩};{rw [(f.2 a).1,(f.2 a).2,g.1,g.2];by_cases e:q=i;{subst e;simp[ieq]};{rw [zbN.2 e];simp[a,Ne.symm e]}}
theorem zF0 {e:Type}{P:e->Bool}{d:e}:∀{l:List e} {n:Nat} {i:Int},i∈idxs P l n↔∃k:Nat,∃h:k<l.length,i=((n+k:Nat):Int)/\P l[k]=true
 |[],n,i=>by simp[idxs]
 |x::l,n,i=>by
  have g:=@zF0 e P d l (n+1) i;unfold idxs;constructor
  .intro h;cases f:P x with
   |true=>rw[f,cond_true,qG]at h;rcases h with h|h;{exact⟨0,by simp,by simpa using h,f⟩};{obtain⟨k,c,b,a⟩:=g.1 h;exact⟨k+1,by simpa using c,by rw[b];congr 1;omega,by simpa using a⟩}
   |false=>rw[f,cond_false]at h;obtain⟨k,c,b,a⟩:=g.1 h;exact⟨k+1,by simpa using c,by rw[b];congr 1;omega,by simpa using a⟩
  {rintro⟨k,c,b,a⟩;cases k with|zero=>simp only[List.getElem_cons_zero]at a;rw[a,cond_true,b];exact qY|succ k=>have:=g.2 ⟨k,by simpa using c,by rw[b];congr 1;omega,by simpa using a⟩;cases P x;{exact this};{exact qR _ this}}
theorem zT5 {l:List Slot}{p i:Int}:i∈zBI l p↔hasB i (ln l)=true/\(ix l i sZ).Page=p:=by unfold zBI;rw[zF0 (d:=sZ)];constructor;{rintro⟨k,a,rfl,c⟩;rw[jU,ziY a];exact⟨zC.2 (by unfold ln;omega),zbk.1 c⟩};{rintro⟨a,b⟩;obtain⟨k,f,rfl,e⟩:=zt7 a sZ;exact⟨k,f,by simp,by rw[e]at b;exact zbk.2 b⟩}
theorem zXy {k:Kept}{a b:List Slot}(h:KOk k a b){p:Int}(j:0<=p)(s:Slot):KOk (zjv k a p) a (up b p s):=by have g:=zyo (zBI a p) k;refine⟨g.1.trans h.l1,g.2.trans h.l2,λi d=>?_⟩;have e:hasB i (ln k.Known)=true:=(by unfold ln at d ⊢;rwa [h.l1]);have f:=zAj (zBI a p) (by rw[h.l1,h.l2]) e;unfold zjv;by_cases c:(ix a i sZ).Page=p;{have:=f.1 (zT5.2 ⟨d,c⟩);rw[this.1,this.2];rfl};{have:=f.2 (λh=>c (zT5.1 h).2);rw[this.1,this.2,h.at' i d,zHH j c]}
theorem zBB (b:List Guest)(p:Int):∀(n:Nat) (a:List Kept),(zlb b p n a).length=a.length
 | 0,a=>rfl
 |n+1,a=>by rw[zlb,zbH,zBB b p n]
theorem zMN (b:List Guest)(p:Int):∀(n:Nat) (a:List Kept),n<=a.length->∀i,0<=i->ix (zlb b p n a) i kZ=if i<n then zjv (ix a i kZ) (ix b i gZ).Live p else ix a i kZ
 | 0,a,_,i,c=>by rw[if_neg (by omega)];rfl
 |n+1,a,d,i,c=>by rw[zlb];by_cases e:i=n;{subst e;rw[zbc (by rw[ln,zBB];exact zC.2 (by omega)),if_pos (by omega),zMN b p n a (by omega) _ c,if_neg (by omega)]};{rw [zbs (by omega) c<|Ne.symm e,zMN b p n a (by omega) i c];by_cases h:i<n;{rw [if_pos h,if_pos (by omega)]};{rw [if_neg h,if_neg (by omega)]}}
def zjQ (x:Mon)(p:Int)(s:Slot):Mon:={zkk x p x.Tables.length with Outer:=up x.Outer p s}
theorem z0I {x:Mon}(h:TOk x)(c:x.Tables.length=x.Guests.length){p:Int}(b:0<=p)(s:Slot):TOk (zjQ x p s):=by intro g hg;have a:hasB g (ln x.Guests)=true:=hg;show KOk (ix (zlb x.Guests p x.Tables.length x.Tables) g kZ) (ix x.Guests g gZ).Live (up x.Outer p s);rw[zMN _ _ _ _ (qX _) _ (zC.1 a).1,if_pos (by have:=zC.1 a;unfold ln at this;omega)];exact zXy (h g a) b s
theorem zrC (h:Host)(m p:Int)(s:Slot):(zb7 h m p s).Mons=up h.Mons m (zjQ (ix h.Mons m mZ) p s):=by unfold zb7;cases ine (ix (ix h.Mons m zf).Outer p zN).Page (-1)<;>rfl
theorem zvm (h:Host)(m p:Int)(s:Slot):(zb7 h m p s).Memory=h.Memory:=by unfold zb7;cases ine (ix (ix h.Mons m zf).Outer p zN).Page (-1)<;>rfl
theorem zOv (h:Host)(m p:Int)(s:Slot):(zb7 h m p s).Buffer=(cond (ieq (ix (ix h.Mons m mZ).Outer p sZ).Page<|-1) h.Buffer<|flushed h.Buffer (ix (ix h.Mons m mZ).Outer p sZ).Page)/\
 (zb7 h m p s).IoBuffer=(cond (ieq (ix (ix h.Mons m mZ).Outer p sZ).Page<|-1) h.IoBuffer<|flushed h.IoBuffer (ix (ix h.Mons m mZ).Outer p sZ).Page):=by
 unfold zb7
 by_cases e:(ix (ix h.Mons m zf).Outer p zN).Page = -1
 .rw [show ine (ix (ix h.Mons m zf).Outer p zN).Page (-1)=false by simp[ine,e],show ieq (ix (ix h.Mons m mZ).Outer p sZ).Page (-1)=true from zbk.2 e]
  exact⟨rfl,rfl⟩
 .rw [show ine (ix (ix h.Mons m zf).Outer p zN).Page (-1)=true from znl.2 e,show ieq (ix (ix h.Mons m mZ).Outer p sZ).Page (-1)=false from zbN.2 e]
  exact⟨rfl,rfl⟩
theorem zHM {h k:Host}{m p:Int}{s:Slot}(n:hasB m (ln h.Mons)=true)(q:hasB p (ln (ix h.Mons m mZ).Outer)=true){x:Mon}(u:k.Mons=up h.Mons m x)(t:x.Guests=(ix h.Mons m mZ).Guests)(v:x.Outer=up (ix h.Mons m mZ).Outer p s){e:Entry}(w:zcc h e=true)(c:(ix (ix h.Mons m mZ).Outer p sZ).Page = -1\/e.Host≠(ix (ix h.Mons m mZ).Outer p sZ).Page):zcc k e=true:=by obtain⟨f,g,b⟩:=zfm.1 w;rw[zfm,u,zdZ];refine⟨f,?_⟩;by_cases l:m=zcy e.Tag;{rw [<- l]at f g b ⊢;rw[zbc n,t,v];refine⟨g,?_⟩;by_cases j:(zbn (ix (ix h.Mons m mZ).Guests (zdF e.Tag) gZ).Live e.Page).Page=p;{have a:zbf (zbn (ix (ix h.Mons m mZ).Guests (zdF e.Tag) gZ).Live e.Page) (ix h.Mons m mZ).Outer=noSlot\/e.Host≠(zbf (zbn (ix (ix h.Mons m mZ).Guests (zdF e.Tag) gZ).Live e.Page) (ix h.Mons m mZ).Outer).Page:=(by rcases zWT (s:=zbn (ix (ix h.Mons m mZ).Guests (zdF e.Tag) gZ).Live e.Page) (o:=(ix h.Mons m mZ).Outer) with d|d;{exact .inl d};{rw [j]at d;have r:zbn (ix h.Mons m mZ).Outer p=ix (ix h.Mons m mZ).Outer p sZ:=(by unfold zbn;rw[q];rfl);rw[r]at d;rcases c with c|c;{left;unfold zbf;rw[j,r,c,show ieq (-1) (-1)=true from rfl];cases ieq p (-1)<;>rfl};{exact .inr (by rw[d];exact c)}});have i:(⟨e.Host,e.Rights⟩:Slot)=noSlot:=(by rcases a with a|a;{rw [a]at b;exact z1e b};{rcases zng.1 b with h|h;{exact h};{exact absurd h.1 a}});rw[i];exact zng.2 (.inl rfl)};{rw [zHH (zC.1 q).1 j];exact b}};{rw [zbs (zC.1 n).1 (zC.1 f).1 l];exact⟨g,b⟩}
theorem zxM {h:Host}(H:Rt h){m p:Int}(d:hasB m (ln h.Mons)=true)(q:hasB p (ln (ix h.Mons m mZ).Outer)=true)(u:(ix h.Mons m mZ).Tables.length=(ix h.Mons m mZ).Guests.length)(s:Slot):Rt (zb7 h m p s):=by have c:=zOv h m p s;have i:=zrC h m p s;have f:∀(b:List Entry),(∀e∈b,zcc h e=true)->∀e∈(cond (ieq (ix (ix h.Mons m mZ).Outer p sZ).Page<|-1) b<|flushed b (ix (ix h.Mons m mZ).Outer p sZ).Page),zcc (zb7 h m p s) e=true:=(by intro b c e a;by_cases n:(ix (ix h.Mons m mZ).Outer p sZ).Page = -1;{rw [zbk.2 n,cond_true]at a;exact zHM d q i rfl rfl (c e a) (.inl n)};{rw [zbN.2 n,cond_false]at a;obtain⟨j,l⟩:=uA.1 a;exact zHM d q i rfl rfl (c e j) (.inr (by simpa [ieq] using l))});refine⟨λk g=>?_,λe a=>f _ H.e1 e (by rwa [c.1]at a),λe a=>f _ H.e2 e (by rwa [c.2]at a)⟩;rw[i]at g ⊢;rw[zdZ]at g;by_cases r:m=k;{subst r;rw[zbc d];exact z0I (H.t m d) u (zC.1 q).1 s};{rw [zbs (zC.1 d).1 (zC.1 g).1 r];exact H.t k g}
theorem zNA:∀(l a:List Entry),allI (alone<|a++l) l a.length=true↔(∀x∈l,∀y∈a,sameKey x y=false)/\l.Pairwise (λy x=>sameKey x y=false)
 |[],a=>by simp[allI]
 |x::l,a=>by have g:=zNA l (a++[x]);rw[j4,List.singleton_append,jT,uE] at g;rw[allI,qE,g,kU];have h:alone (a++x::l) a.length x=true↔∀y∈a,sameKey x y=false:=(by unfold alone;rw[kM rfl,qL];simp);rw[h];constructor;{rintro⟨d,e,f⟩;refine⟨λz c y b=>?_,λz c=>e z c x (by simp),f⟩;rcases qG.1 c with rfl|c;{exact d y b};{exact e z c y (by simp[b])}};{rintro⟨d,e,f⟩;refine⟨λy b=>d x (by simp) y b,λz c y b=>?_,f⟩;rcases jE.1 b with b|b;{exact d z (by simp[c]) y b};{rw [qF.1 b];exact e z c}}
theorem zBN {l:List Entry}:zfH l=true↔l.Pairwise (λy x=>sameKey x y=false)/\l.length<=6:=by unfold zfH;have:=zNA l [];simp only[jP,vB] at this;have a:ile (ln l) 6=true↔l.length<=6:=(by rw[ile,qZ,ln];omega);rw[zb9,this,a];simp
theorem zw1 {l:List Entry}(h:zfH l=true)(P:Entry->Bool):zfH (l.filter P)=true:=by rw[zBN]at h ⊢;exact⟨h.1.sublist List.filter_sublist,jC (uH _ _) h.2⟩
theorem zDR {l:List Entry}(h:zfH l=true)(p:Int):zfH (flushed l p)=true:=zw1 h _
theorem zQK {x x':Mon}{p:Int}(a:hasB p (ln x.Outer)=true){s:Slot}(h:x'.Outer=up x.Outer p s)(q:Int):cPg x' q+(if (ix x.Outer p sZ).Page=q then 1 else 0)=cPg x q+(if s.Page=q then 1 else 0):=by have:=zNH (λs=>ieq s.Page q) a s sZ;simp only[zbk] at this;unfold cPg;rw[h];exact this
theorem zpm {s:Slot}(d:SOk s){c:List Int}:zlz s c=true↔(s.Page = -1->zcn c=true)/\(s.Page≠-1->enough s.Rights 1=true/\c=[]):=by unfold zlz;by_cases e:s=noSlot;{rw [zjP.2 e,cond_true,e];simp[noSlot]};{rw [zq1.2 e,cond_false,zb9];have:s.Page≠-1:=λh=>e (d.none h);have b:ile (ln c) 0=true↔c=[]:=(by rw[ile,qZ,ln,<- uY];omega);rw[b];exact⟨λh=>⟨λa=>absurd a this,λ_=>h⟩,λh=>h.2 this⟩}
structure Chg (x x':Mon) (p:Int) (s:Slot) (c:List Int):Prop where
 o:x'.Outer=up x.Outer p s
 u:x'.Out=up x.Out p c
 g:x'.Guests=x.Guests
 t:x'.Tables.length=x.Tables.length
 d:x'.Dirty.length=x.Dirty.length
 a1:x'.Outs=x.Outs
 a2:x'.Pending=x.Pending
 a3:x'.Traps=x.Traps
 a4:x'.Own=x.Own
theorem MOk.chg {x i:Mon}(H:MOk x){p:Int}(a:hasB p 8=true){s:Slot}{c:List Int}(k:Chg x i p s c)(l:SOk s)(j:zlz s c=true):MOk i:=by refine⟨by rw[k.g];exact H.g1,by rw[k.g];exact H.g2,by rw[k.t,k.g];exact H.gt,by rw[k.o,zbH];exact H.o8,λy f=>?_,by rw[k.u,zbH];exact H.u8,by rw[k.d];exact H.d8,by rw[k.a1];exact H.outs,by rw[k.a2];exact H.pend,by rw[k.a3];exact H.tr,by rw[k.a4];exact H.own,by rw[k.g];exact H.gs,λq b=>?_⟩;{rw [k.o]at f;rcases q0 f with h|h;{exact H.sl y h};{rw [h];exact l}};{rw [k.o,k.u];by_cases e:p=q;{subst e;rw[zbc<|H.hasO a,zbc<|H.hasU a];exact j};{rw [zbs (zC.1 a).1 (zC.1 b).1 e,zbs (zC.1 a).1 (zC.1 b).1 e];exact H.fit q b}}
structure Like (h r:Host):Prop where
 len:r.Mons.length=h.Mons.length
 g:∀i,hasB i (ln h.Mons)=true->(ix r.Mons i mZ).Guests=(ix h.Mons i mZ).Guests
 o:∀i,hasB i (ln h.Mons)=true->(ix r.Mons i mZ).Outs=(ix h.Mons i mZ).Outs
 p:∀i,hasB i (ln h.Mons)=true->(ix r.Mons i mZ).Pending=(ix h.Mons i mZ).Pending
 tr:∀i,hasB i (ln h.Mons)=true->(ix r.Mons i mZ).Traps=(ix h.Mons i mZ).Traps
 ow:∀i,hasB i (ln h.Mons)=true->(ix r.Mons i mZ).Own=(ix h.Mons i mZ).Own
 pg:∀i k,hasB i (ln h.Mons)=true->hasB k 8=true->zcm r i k=zcm h i k
theorem Like.refl (h:Host):Like h h:=⟨rfl,λ_ _=>rfl,λ_ _=>rfl,λ_ _=>rfl,λ_ _=>rfl,λ_ _=>rfl,λ_ _ _ _=>rfl⟩
theorem Like.trans {a b c:Host}(x:Like a b)(y:Like b c):Like a c:=by have k:∀i,hasB i (ln a.Mons)=true->hasB i (ln b.Mons)=true:=λi e=>(by unfold ln at e ⊢;rwa [x.len]);exact⟨y.len.trans x.len,λi h=>(y.g i<|k i h).trans (x.g i h),λi h=>(y.o i<|k i h).trans (x.o i h),λi h=>(y.p i<|k i h).trans (x.p i h),λi h=>(y.tr i<|k i h).trans (x.tr i h),λi h=>(y.ow i<|k i h).trans (x.ow i h),λi q h d=>(y.pg i q (k i h) d).trans (x.pg i q h d)⟩
theorem Like.has {h r:Host}(k:Like h r){i:Int}:hasB i (ln r.Mons)=hasB i (ln h.Mons):=by unfold ln;rw[k.len]
theorem zqa {h r:Host}{m:Int}:∀(n i:Nat),(∀k:Nat,i<=k->k<i+n->zcm r m (k:Int)=zcm h m (k:Int))->zcs r m n i=zcs h m n i
 | 0,i,_=>rfl
 |n+1,i,h=>by rw[zcs,zcs,h i (by omega) (by omega),zqa n (i+1) λk a b=>h k (by omega) (by omega)]
theorem Like.seen {h r:Host}(k:Like h r)(m:Int):zA r m=zA h m:=by unfold zA;rw[k.has];cases a:hasB m (ln h.Mons) with|false=>rfl|true=>simp only[cond_true];rw[k.g m a,k.o m a,k.p m a,zqa 8 0 λj b c=>k.pg m j a (zC.2 (by omega))]
theorem znp {h:Host}{m p:Int}(a:hasB m (ln h.Mons)=true)(c:hasB p 8=true)(b:hasB p (ln (ix h.Mons m mZ).Outer)=true) :
 zcm h m p=bif ieq (ix (ix h.Mons m mZ).Outer p sZ).Page (-1) then zcr (ix h.Mons m mZ).Out p else zcr h.Memory (ix (ix h.Mons m mZ).Outer p sZ).Page:=by
 unfold zcm;have:zbn (ix h.Mons m mZ).Outer p=ix (ix h.Mons m mZ).Outer p sZ:=by unfold zbn;rw[b];rfl
 rw[a,c,cond_true,cond_true,this]
 by_cases e:(ix (ix h.Mons m mZ).Outer p sZ).Page = -1
 .rw [zbk.2 e,show ine (ix (ix h.Mons m mZ).Outer p sZ).Page (-1)=false by simp[ine,e]];rfl
 .rw [zbN.2 e,show ine (ix (ix h.Mons m mZ).Outer p sZ).Page (-1)=true from znl.2 e];rfl
theorem zkT {m:List (List Int)}{p:Int}(h:hasB p (ln m)=true):zcr m p=ix m p []:=by unfold zcr;rw[h];rfl
theorem zOg {m:List (List Int)}(h:∀c∈m,zcn c=true)(p:Int):zcn (zcr m p)=true:=by unfold zcr;cases a:hasB p (ln m) with|false=>rfl|true=>exact h _ (zlv a _)
theorem zuM {h r:Host}(H:HOk h){m p:Int}(b:hasB m (ln h.Mons)=true)(i:hasB p 8=true){x:Mon}{s:Slot}{c:List Int}(n:r.Mons=up h.Mons m x)(k:Chg (ix h.Mons m mZ) x p s c)(u:SOk s)(t:zlz s c=true)(f:r.Memory.length=12)(g:∀c∈r.Memory,zcn c=true)(j:zfH r.Buffer=true)(l:zfH r.IoBuffer=true)(v:0<=s.Page->s.Page=(ix (ix h.Mons m mZ).Outer p sZ).Page\/zeS h.Mons s.Page=0):HOk r:=by refine H.up b ((H.mon b).chg i k u t) n f g j l λq z=>?_;have d:=zQK ((H.mon b).hasO i) k.o q;by_cases e:s.Page=q;{have a:=v (by omega);rw[if_pos e]at d;rcases a with a|a;{rw [if_pos (by omega)]at d;left;omega};{right;rw[e] at a;refine⟨a,?_⟩;have:=zwK b x q;have y:cPg (ix h.Mons m mZ) q<=zeS h.Mons q:=(by have:=zwK b (⟨[],[],[],[],[],0,0,[],0⟩:Mon) q;have w:cPg (⟨[],[],[],[],[],0,0,[],0⟩:Mon) q=0:=rfl;omega);omega}};{rw [if_neg e]at d;left;split at d<;>omega}
theorem zua {h r:Host}(H:HOk h){m p:Int}(a:hasB m (ln h.Mons)=true)(y:hasB p 8=true){x:Mon}{s:Slot}{c:List Int}(n:r.Mons=up h.Mons m x)(k:Chg (ix h.Mons m mZ) x p s c)(B:(cond (ieq s.Page<|-1) c<|zcr r.Memory s.Page)=zcm h m p)(f:∀i q,hasB i (ln h.Mons)=true->hasB q 8=true->¬ (i=m/\q=p)->(ix (ix h.Mons i mZ).Outer q sZ).Page≠-1->zcr r.Memory (ix (ix h.Mons i mZ).Outer q sZ).Page=zcr h.Memory (ix (ix h.Mons i mZ).Outer q sZ).Page):Like h r:=by have l:=(zC.1 a).1;have t:=(zC.1 y).1;have e:∀{C:Type} (F:Mon->C),F x=F (ix h.Mons m mZ)->∀i,hasB i (ln h.Mons)=true->F (ix r.Mons i mZ)=F (ix h.Mons i mZ):=(by intro C F D i d;rw[n];by_cases e:m=i;{subst e;rw[zbc a];exact D};{rw [zbs l (zC.1 d).1 e]});refine⟨by rw[n,zbH],e Mon.Guests k.g,e Mon.Outs k.a1,e Mon.Pending k.a2,e Mon.Traps k.a3,e Mon.Own k.a4,λi q d b=>?_⟩;have A:hasB i (ln r.Mons)=true:=(by rw[n,zdZ];exact d);have w:=(H.mon d).hasO b;have z:hasB q (ln (ix r.Mons i mZ).Outer)=true:=(by rw[n];by_cases e:m=i;{subst e;rw[zbc a,k.o,zdZ];exact w};{rw [zbs l (zC.1 d).1 e];exact w});rw[znp A b z];by_cases e:m=i;{subst e;rw[n,zbc a,k.o,k.u];by_cases v:p=q;{subst v;rw[zbc<|(H.mon a).hasO y,<- B];cases ieq s.Page (-1);{rfl};{rw [cond_true,cond_true,zkT (by rw[zdZ];exact(H.mon a).hasU y),zbc<|(H.mon a).hasU y]}};{rw [zbs t (zC.1 b).1 v,znp a b w];by_cases j:(ix (ix h.Mons m mZ).Outer q sZ).Page = -1;{rw [zbk.2 j,cond_true,cond_true,zkT (by rw[zdZ];exact(H.mon a).hasU b),zkT<|(H.mon a).hasU b,zbs t (zC.1 b).1 v]};{rw [zbN.2 j,cond_false,cond_false,f m q a b (λh=>v h.2.symm) j]}}};{rw [n,zbs l (zC.1 d).1 e,znp d b w];by_cases j:(ix (ix h.Mons i mZ).Outer q sZ).Page = -1;{rw [zbk.2 j,cond_true,cond_true]};{rw [zbN.2 j,cond_false,cond_false,f i q d b (λh=>e h.1.symm) j]}}
structure Op (h r:Host):Prop where
 ok:HOk r
 like:Like h r
 rt:Rt h->Rt r
theorem Op.refl {h:Host}(H:HOk h):Op h h:=⟨H,Like.refl h,id⟩
theorem Op.trans {a b c:Host}(x:Op a b)(y:Op b c):Op a c:=⟨y.ok,x.like.trans y.like,λh=>y.rt (x.rt h)⟩
theorem Op.safe {h r:Host}(k:Op h r)(s:Safe h):Safe r:=⟨k.ok,k.rt s.rt⟩
theorem zJG {h r:Host}(H:Rt h){m:Int}(l:hasB m (ln h.Mons)=true){x:Mon}(u:r.Mons=up h.Mons m x)(q:r.Buffer=h.Buffer)(s:r.IoBuffer=h.IoBuffer)(y:x.Guests.length=(ix h.Mons m mZ).Guests.length)(w:∀g,hasB g (ln (ix h.Mons m mZ).Guests)=true->(ix x.Guests g gZ).Live=(ix (ix h.Mons m mZ).Guests g gZ).Live)(z:x.Tables=(ix h.Mons m mZ).Tables)(v:x.Outer=(ix h.Mons m mZ).Outer):Rt r:=by have d:=(zC.1 l).1;have hg:∀g,hasB g (ln x.Guests)=hasB g (ln (ix h.Mons m mZ).Guests):=λg=>(by unfold ln;rw[y]);have f:∀e,zcc h e=true->zcc r e=true:=(by intro e c;obtain⟨n,i,p⟩:=zfm.1 c;rw[zfm,u,zdZ];refine⟨n,?_⟩;by_cases b:m=zcy e.Tag;{rw [<- b]at n i p ⊢;rw[zbc l,hg,w _ i,v];exact⟨i,p⟩};{rw [zbs d (zC.1 n).1 b];exact⟨i,p⟩});refine⟨λk j=>?_,λe c=>f e (H.e1 e (by rwa [q]at c)),λe c=>f e (H.e2 e (by rwa [s]at c))⟩;rw[u]at j ⊢;rw[zdZ]at j;by_cases b:m=k;{subst b;rw[zbc l];intro g a;rw[hg]at a;rw[z,w g a,v];exact H.t m l g a};{rw [zbs d (zC.1 j).1 b];exact H.t k j}
theorem zo3 {h a:Host}{m p:Int}{s:Slot}{x:Mon}(b:hasB m (ln h.Mons)=true)(e:a.Mons=up h.Mons m x):(zb7 a m p s).Mons=up h.Mons m (zjQ x p s):=by rw[zrC,e,zbc b,z00]
theorem zz5 {x a:Mon}{p:Int}{s:Slot}{c:List Int}(h:a.Outer=x.Outer)(j:a.Out=up x.Out p c)(hg:a.Guests=x.Guests)(i:a.Tables=x.Tables)(g:a.Dirty.length=x.Dirty.length)(b:a.Outs=x.Outs)(d:a.Pending=x.Pending)(e:a.Traps=x.Traps)(f:a.Own=x.Own):Chg x (zjQ a p s) p s c :=
 ⟨by show up a.Outer p s=_;rw[h],j,hg,by show (zlb a.Guests p a.Tables.length a.Tables).length=_;rw[zBB,i],g,b,d,e,f⟩
theorem ztw {h:Host}{m p:Int}{s:Slot}(a:zfH h.Buffer=true)(b:zfH h.IoBuffer=true):zfH (zb7 h m p s).Buffer=true/\zfH (zb7 h m p s).IoBuffer=true:=by have:=zOv h m p s;rw[this.1,this.2];cases ieq (ix (ix h.Mons m mZ).Outer p sZ).Page (-1);{exact⟨zDR a _,zDR b _⟩};{exact⟨a,b⟩}
theorem z9d {h:Host}(H:HOk h){s:Slot}(b:SOk s)(a:s.Page≠-1):hasB s.Page (ln h.Memory)=true:=by have:=b.pos a;exact zC.2 ⟨this.1,by unfold ln;rw[H.m12];omega⟩
theorem zV4 {h:Host}(H:HOk h){m p:Int}(b:hasB m (ln h.Mons)=true)(c:hasB p 8=true)(l:(ix (ix h.Mons m mZ).Outer p sZ).Page≠-1):Op h (zdo h m p):=by
 have X:=H.mon b;have f:(zdo h m p).Mons=up h.Mons m (zjQ {ix h.Mons m mZ with Out:=up (ix h.Mons m mZ).Out p (zcr h.Memory (ix (ix h.Mons m mZ).Outer p sZ).Page)} p noSlot):=zo3 b rfl;have k:Chg (ix h.Mons m mZ) (zjQ {ix h.Mons m mZ with Out:=up (ix h.Mons m mZ).Out p (zcr h.Memory (ix (ix h.Mons m mZ).Outer p sZ).Page)} p noSlot) p noSlot (zcr h.Memory (ix (ix h.Mons m mZ).Outer p sZ).Page):=zz5 rfl rfl rfl rfl rfl rfl rfl rfl rfl;have a:(zdo h m p).Memory=h.Memory:=zvm _ _ _ _;have g:=ztw (h:=zeW h m p) (m:=m) (p:=p) (s:=noSlot) H.b1 H.b2;refine⟨zuM H b c f k (.inl rfl) ((zpm (.inl rfl)).2 ⟨λ_=>zOg H.pgs _,λh=>absurd rfl h⟩) (by rw[a];exact H.m12) (by rw[a];exact H.pgs) g.1 g.2 λh=>absurd h (by decide),
  zua H b c f k ?_ (λi q _ _ _ _=>by rw[a]),λR=>?_⟩
 {rw [znp b c<|X.hasO c,zbN.2 l];rfl};{have j:Rt (zeW h m p):=zJG (x:={ix h.Mons m mZ with Out:=up (ix h.Mons m mZ).Out p (zcr h.Memory (ix (ix h.Mons m mZ).Outer p sZ).Page)}) R b rfl rfl rfl rfl (λ_ _=>rfl) rfl rfl;have d:hasB m (ln (zeW h m p).Mons)=true:=(by show hasB m (ln<|up h.Mons m _)=true;rw[zdZ];exact b);have e:ix (zeW h m p).Mons m mZ={ix h.Mons m mZ with Out:=up (ix h.Mons m mZ).Out p (zcr h.Memory (ix (ix h.Mons m mZ).Outer p sZ).Page)}:=zbc b _ _;exact zxM j d (by rw[e];exact X.hasO c) (by rw[e];exact X.gt) noSlot}
theorem zDX {o:List Slot}{q:Int}:znL o q=none↔o.countP (λs=>ieq s.Page q)=0:=by unfold znL;rw[List.findIdx?_eq_none_iff,vE];simp
theorem zUn {o:List Slot}{q:Int}{k:Nat}(h:znL o q=some k):∃a:k<o.length,o[k].Page=q:=by unfold znL at h;rw[u2]at h;obtain⟨a,b,_⟩:=h;exact⟨a,zbk.1 b⟩
theorem zxH {q:Int}:∀(l:List Mon) (i:Nat),((zif q l i).1<0↔zeS l q=0)/\(¬ (zif q l i).1<0->∃a b:Nat,∃f:a<l.length,∃g:b<l[a].Outer.length,zif q l i=(((i+a:Nat):Int),(b:Int))/\l[a].Outer[b].Page=q)
 |[],i=>⟨by simp[zif,zeS],λh=>absurd (show (-1:Int)<0 by decide) h⟩
 |x::l,i=>by have j:=zxH (q:=q) l (i+1);unfold zif;split;{rename_i k c;obtain⟨m,n⟩:=zUn c;refine⟨⟨λh=>by simp at h;omega,λh=>?_⟩,λ_=>⟨0,k,by simp,m,by simp,n⟩⟩;exfalso;simp only[zeS,q9,uO]at h;have d:x.Outer.countP (λs=>ieq s.Page q)=0:=(by unfold cPg at h;omega);rw[zDX.2 d]at c;cases c};{rename_i c;have d:=zDX.1 c;refine⟨?_,λh=>?_⟩;{rw [j.1];simp only[zeS,q9,uO];unfold cPg;omega};{obtain⟨a,b,f,g,e,p⟩:=j.2 h;exact⟨a+1,b,by simpa using f,by simpa using g,by rw[e];simp;omega,by simpa using p⟩}}
theorem zGj {h:Host}{q:Int}(a:0<=q):(zbE h q).1<0↔zeS h.Mons q=0:=by unfold zbE;rw[show ilt q 0=false from qI (by omega),cond_false];exact(zxH h.Mons 0).1
theorem z2y {h:Host}(H:HOk h){q:Int}(j:0<=q)(c:¬ (zbE h q).1<0):hasB (zbE h q).1 (ln h.Mons)=true/\hasB (zbE h q).2 8=true/\(ix (ix h.Mons (zbE h q).1 mZ).Outer (zbE h q).2 sZ).Page=q:=by unfold zbE at c ⊢;rw[show ilt q 0=false from qI (by omega),cond_false]at c ⊢;obtain⟨a,b,d,f,e,g⟩:=(zxH h.Mons 0).2 c;rw[e,jU];have i:=(H.mons _<|jD d).o8;exact⟨zC.2 (by unfold ln;simp;omega),zC.2 (by simp;omega),by rw[ziY d,ziY f];exact g⟩
theorem zRJ {P:Nat->Bool}:∀{n i:Nat} {q:Int},q∈zu6 P n i↔∃k:Nat,q=(k:Int)/\i<=k/\k<i+n/\P k=true
 | 0,i,q=>by simp[zu6];intro k _ _ _;omega
 |n+1,i,q=>by
  have d:=@zRJ P n (i+1) q;unfold zu6;constructor
  .intro h;cases c:P i with
   |true=>rw[c,cond_true,qG]at h;rcases h with h|h;{exact⟨i,h,by omega,by omega,c⟩};{obtain⟨k,a,f,g,b⟩:=d.1 h;exact⟨k,a,by omega,by omega,b⟩}
   |false=>rw[c,cond_false]at h;obtain⟨k,a,f,g,b⟩:=d.1 h;exact⟨k,a,by omega,by omega,b⟩
  {rintro⟨k,a,f,g,b⟩;by_cases e:k=i;{subst e;rw[b,cond_true,a];exact qY};{have:=d.2 ⟨k,a,by omega,by omega,b⟩;cases P i;{exact this};{exact qR _ this}}}
theorem zFd {h:Host}{q:Int}:q∈zca h↔hasB q (ln h.Memory)=true/\zeS h.Mons q=0:=by unfold zca;rw[zRJ];constructor;{rintro⟨k,rfl,b,c,d⟩;exact⟨zC.2 (by unfold ln;omega),(zGj (by omega)).1 (qD d)⟩};{rintro⟨b,c⟩;have a:=zC.1 b;unfold ln at a;refine⟨q.toNat,by omega,by omega,by omega,?_⟩;rw[show ((q.toNat:Nat):Int)=q by omega];exact qK ((zGj a.1).2 c)}
theorem zXp {h:Host}(a:zca h≠[]):hasB (ix (zca h) 0 0) (ln h.Memory)=true/\zeS h.Mons (ix (zca h) 0 0)=0:=by refine zFd.1 (zlv (zC.2 ⟨by omega,?_⟩) 0);unfold ln;have:=kP.2 a;omega
structure But (h r:Host) (m p:Int):Prop where
 ne:∀i k,hasB i (ln h.Mons)=true->hasB k 8=true->¬ (i=m/\k=p)->ix (ix r.Mons i mZ).Outer k sZ=ix (ix h.Mons i mZ).Outer k sZ
theorem zEU {h r:Host}{m p:Int}(a:hasB m (ln h.Mons)=true)(j:hasB p 8=true){x:Mon}{s:Slot}(b:r.Mons=up h.Mons m x)(g:x.Outer=up (ix h.Mons m mZ).Outer p s):But h r m p:=by refine⟨λi k d f c=>?_⟩;rw[b];by_cases e:m=i;{subst e;rw[zbc a,g,zbs (zC.1 j).1 (zC.1 f).1 λe=>c ⟨rfl,e.symm⟩]};{rw [zbs (zC.1 a).1 (zC.1 d).1 e]}
theorem zOr {h:Host}(H:HOk h){m p:Int}(a:hasB m (ln h.Mons)=true)(c:hasB p 8=true):But h (zdo h m p) m p/\ix (ix (zdo h m p).Mons m mZ).Outer p sZ=noSlot:=by have b:(zdo h m p).Mons=up h.Mons m (zjQ {ix h.Mons m mZ with Out:=up (ix h.Mons m mZ).Out p (zcr h.Memory (ix (ix h.Mons m mZ).Outer p sZ).Page)} p noSlot):=zo3 a rfl;refine⟨zEU a c b rfl,?_⟩;rw[b,zbc a];exact zbc ((H.mon a).hasO c) _ _
structure Roomy (h r:Host):Prop where
 op:Op h r
 free:zca r≠[]
 sl:∀i k,hasB i (ln h.Mons)=true->hasB k 8=true->ix (ix r.Mons i mZ).Outer k sZ=ix (ix h.Mons i mZ).Outer k sZ\/ix (ix r.Mons i mZ).Outer k sZ=noSlot
 dirt:∀i,(ix r.Mons i mZ).Dirty=(ix h.Mons i mZ).Dirty
theorem zKB {h r:Host}{m:Int}(c:hasB m (ln h.Mons)=true){x:Mon}(a:r.Mons=up h.Mons m x)(b:x.Dirty=(ix h.Mons m mZ).Dirty)(i:Int):(ix r.Mons i mZ).Dirty=(ix h.Mons i mZ).Dirty:=by
 rw[a];by_cases e:i.toNat=m.toNat
 {have:∀l:List Mon,ix l i mZ=ix l m mZ:=λl=>(by unfold ix;rw[e]);rw[this,this,zbc c,b]};{unfold ix up;simp[List.getD,jF,Ne.symm e]}
theorem roomy {h:Host}(H:HOk h):Roomy h (zcL h):=by unfold zcL;by_cases b:zca h=[];{rw [show ieq (ln<|zca h) 0=true by rw[b];rfl,cond_true];have p:¬ (zbE h 0).1<0:=λd=>(by have:(0:Int)∈zca h:=zFd.2 ⟨zC.2 (by unfold ln;rw[H.m12];omega),(zGj (by omega)).1 d⟩;rw[b] at this;cases this);obtain⟨a,c,f⟩:=z2y H (by omega) p;have k:=zV4 H a c (by rw[f];decide);have j:=zOr H a c;refine⟨k,λd=>?_,λi q g r=>?_,λi=>zKB (x:=zjQ {ix h.Mons (zbE h 0).1 mZ with Out:=up (ix h.Mons (zbE h 0).1 mZ).Out (zbE h 0).2 (zcr h.Memory (ix (ix h.Mons (zbE h 0).1 mZ).Outer (zbE h 0).2 sZ).Page)} (zbE h 0).2 noSlot) a (zo3 a rfl) rfl i⟩;{have:(0:Int)∈zca (zdo h (zbE h 0).1 (zbE h 0).2):=(by refine zFd.2 ⟨zC.2 (by unfold ln;rw[k.ok.m12];omega),?_⟩;have n:(zdo h (zbE h 0).1 (zbE h 0).2).Mons=up h.Mons (zbE h 0).1 (zjQ {ix h.Mons (zbE h 0).1 mZ with Out:=up (ix h.Mons (zbE h 0).1 mZ).Out (zbE h 0).2 (zcr h.Memory (ix (ix h.Mons (zbE h 0).1 mZ).Outer (zbE h 0).2 sZ).Page)} (zbE h 0).2 noSlot):=zo3 a rfl;have l:=zwK a (zjQ {ix h.Mons (zbE h 0).1 mZ with Out:=up (ix h.Mons (zbE h 0).1 mZ).Out (zbE h 0).2 (zcr h.Memory (ix (ix h.Mons (zbE h 0).1 mZ).Outer (zbE h 0).2 sZ).Page)} (zbE h 0).2 noSlot) 0;rw[<- n] at l;have m:=zQK (x':=zjQ {ix h.Mons (zbE h 0).1 mZ with Out:=up (ix h.Mons (zbE h 0).1 mZ).Out (zbE h 0).2 (zcr h.Memory (ix (ix h.Mons (zbE h 0).1 mZ).Outer (zbE h 0).2 sZ).Page)} (zbE h 0).2 noSlot) ((H.mon a).hasO c) (s:=noSlot) rfl 0;rw[if_pos f,if_neg (by decide)] at m;have t:=H.uq 0 (by omega);omega);rw[d] at this;cases this};{by_cases e:i=(zbE h 0).1/\q=(zbE h 0).2;{rw [e.1,e.2];exact .inr j.2};{exact .inl (j.1.ne i q g r e)}}};{have:ieq (ln<|zca h) 0=false:=zbN.2 (by unfold ln;have:=kP.2 b;omega);rw[this,cond_false];exact⟨Op.refl H,b,λi k g u=>.inl rfl,λ_=>rfl⟩}
theorem zVp {m:List (List Int)}{p:Int}{c:List Int}(b:hasB p (ln m)=true)(a:zcn c=true):ziF m p c=up m p c:=by unfold ziF;rw[b,a];rfl
theorem zA2 {m:List (List Int)}{p q:Int}{c:List Int}(a:0<=p)(h:q≠p):zcr (up m p c) q=zcr m q:=by unfold zcr;rw[zdZ];cases b:hasB q (ln m) with|false=>rfl|true=>rw[cond_true,cond_true,zbs a (zC.1 b).1<|Ne.symm h]
theorem zA1 {m:List (List Int)}{p:Int}{c:List Int}(a:hasB p (ln m)=true):zcr (up m p c) p=c:=by rw[zkT (by rw[zdZ];exact a),zbc a]
theorem zXP {h:Host}(H:HOk h){m p a:Int}(d:hasB m (ln h.Mons)=true)(f:hasB p 8=true)(z:(ix (ix h.Mons m mZ).Outer p sZ).Page = -1)(u:hasB a (ln h.Memory)=true)(B:zeS h.Mons a=0) :
 Op h (zfk h m p a)/\But h (zfk h m p a) m p/\ix (ix (zfk h m p a).Mons m mZ).Outer p sZ=⟨a,3⟩/\∀i,(ix (zfk h m p a).Mons i mZ).Dirty=(ix h.Mons i mZ).Dirty:=by
 have X:=H.mon d;have g:=zC.1 u;unfold ln at g;rw[H.m12]at g;have l:(zfk h m p a).Mons=up h.Mons m (zjQ {ix h.Mons m mZ with Out:=up (ix h.Mons m mZ).Out p []} p ⟨a,3⟩):=zo3 d rfl;have k:Chg (ix h.Mons m mZ) (zjQ {ix h.Mons m mZ with Out:=up (ix h.Mons m mZ).Out p []} p ⟨a,3⟩) p ⟨a,3⟩ []:=zz5 rfl rfl rfl rfl rfl rfl rfl rfl rfl;have j:=((zpm<|X.slot f).1 (X.fit p f)).1 z;have b:(zfk h m p a).Memory=up h.Memory a (ix (ix h.Mons m mZ).Out p []):=by show (zb7 (landing h m p a) m p ⟨a,3⟩).Memory=_;rw[zvm];exact zVp u j
 have A:SOk ⟨a,3⟩:=.inr ⟨g.1,by show a<=11;omega,by show (1:Int)<=3;omega,by show (3:Int)<=3;omega⟩
 have w:=ztw (h:=landing h m p a) (m:=m) (p:=p) (s:=⟨a,3⟩) H.b1 H.b2;refine⟨⟨zuM H d f l k A ((zpm A).2 ⟨λh=>absurd h (by show a≠-1;omega),λ_=>⟨show enough 3 1=true by decide,rfl⟩⟩) (by rw[b,zbH];exact H.m12) (λc r=>?_) w.1 w.2 λ_=>.inr B,
  zua H d f l k ?_ λi q y D r C=>?_,λR=>?_⟩,zEU d f l rfl,?_,λi=>zKB (x:=zjQ {ix h.Mons m mZ with Out:=up (ix h.Mons m mZ).Out p []} p ⟨a,3⟩) d l rfl i⟩
 .rw [b]at r;rcases q0 r with n|n
  .exact H.pgs c n
  .rw [n];exact j
 .rw [znp d f<|X.hasO f,zbk.2 z,cond_true,zkT<|X.hasU f];rw[show ieq (⟨a,3⟩:Slot).Page (-1)=false from zbN.2 (by show a≠-1;omega),cond_false,b]
  exact zA1 u
 .rw [b];refine zA2 g.1 (λe=>?_);have:=zEV y ((H.mon y).hasO D);rw[e] at this;omega
 .have R1:Rt (landing h m p a):=zJG (x:={ix h.Mons m mZ with Out:=up (ix h.Mons m mZ).Out p []}) R d rfl rfl rfl rfl (λ_ _=>rfl) rfl rfl;have t:hasB m (ln (landing h m p a).Mons)=true:=by show hasB m (ln<|up h.Mons m _)=true;rw[zdZ];exact d
  have v:ix (landing h m p a).Mons m mZ={ix h.Mons m mZ with Out:=up (ix h.Mons m mZ).Out p []}:=zbc d _ _;exact zxM R1 t (by rw[v];exact X.hasO f) (by rw[v];exact X.gt) _
 .rw [l,zbc d];exact zbc (X.hasO f) _ _
theorem zJr {h:Host}(H:HOk h){m p:Int}(f:hasB m (ln h.Mons)=true)(g:hasB p 8=true)(k:(ix (ix h.Mons m mZ).Outer p sZ).Page = -1) :
 Op h (fetched h m p)/\(∃e,0<=e/\e<=11/\ix (ix (fetched h m p).Mons m mZ).Outer p sZ=⟨e,3⟩)/\∀i,(ix (fetched h m p).Mons i mZ).Dirty=(ix h.Mons i mZ).Dirty:=by
 have R:=roomy H;have c:hasB m (ln (zcL h).Mons)=true:=by rw[R.op.like.has];exact f
 have d:(ix (ix (zcL h).Mons m mZ).Outer p sZ).Page = -1:=by rcases R.sl m p f g with b|b<;>rw [b];{exact k};{rfl}
 obtain⟨b,j⟩:=zXp R.free;obtain⟨l,r,n,q⟩:=zXP R.op.ok c g d b j;have a:=zC.1 b;unfold ln at a;rw[R.op.ok.m12]at a;exact⟨R.op.trans l,⟨_,a.1,by omega,n⟩,λi=>(q i).trans (R.dirt i)⟩
theorem znt {o:List Slot}{p:Int}(h:hasB p (ln o)=true):zbn o p=ix o p sZ:=by unfold zbn;rw[h];rfl
theorem zkV {h:Host}(H:HOk h){m p:Int}(a:hasB m (ln h.Mons)=true)(b:hasB p 8=true) :
 (cond (ieq (ix (ix h.Mons m mZ).Outer p sZ).Page<|-1) (ix (ix h.Mons m mZ).Out p [])<|zcr h.Memory (ix (ix h.Mons m mZ).Outer p sZ).Page)=zcm h m p:=by
 rw[znp a b<|(H.mon a).hasO b,zkT<|(H.mon a).hasU b]
structure Mark (x y:Mon):Prop where
 o:y.Outer=x.Outer
 u:y.Out=x.Out
 g:y.Guests=x.Guests
 t:y.Tables=x.Tables
 d:y.Dirty.length=x.Dirty.length
 a1:y.Outs=x.Outs
 a2:y.Pending=x.Pending
 a3:y.Traps=x.Traps
 a4:y.Own=x.Own
theorem zV3 {h:Host}(H:HOk h){m:Int}(b:hasB m (ln h.Mons)=true){y:Mon}(k:Mark (ix h.Mons m mZ) y):Op h {h with Mons:=up h.Mons m y}/\∀i q,ix (ix (up h.Mons m y) i mZ).Outer q sZ=ix (ix h.Mons i mZ).Outer q sZ:=by
 have X:=H.mon b;have a:hasB 0 8=true:=(by decide);have c:Chg (ix h.Mons m mZ) y 0 (ix (ix h.Mons m mZ).Outer 0 sZ) (ix (ix h.Mons m mZ).Out 0 []):=⟨by rw[zGz<|X.hasO a,k.o],by rw[zGz<|X.hasU a,k.u],k.g,by rw[k.t],k.d,k.a1,k.a2,k.a3,k.a4⟩
 refine⟨⟨zuM H b a rfl c (X.slot a) (X.fit 0 a) H.m12 H.pgs H.b1 H.b2 λ_=>.inl rfl,zua H b a rfl c (zkV H b a) λ_ _ _ _ _ _=>rfl,
  λR=>zJG R b rfl rfl rfl (by rw[k.g]) (λg _=>by rw[k.g]) k.t k.o⟩,λi q=>?_⟩
 by_cases e:i.toNat=m.toNat
 {have:∀l:List Mon,ix l i mZ=ix l m mZ:=λl=>(by unfold ix;rw[e]);rw[this,this,zbc b,k.o]};{have:ix (up h.Mons m y) i mZ=ix h.Mons i mZ:=(by unfold ix up;simp[List.getD,jF,Ne.symm e]);rw[this]}
theorem zJq {h:Host}(H:HOk h){m:Int}(a:hasB m (ln h.Mons)=true)(p:Int):Op h (zbu h m p)/\∀i q,ix (ix (zbu h m p).Mons i mZ).Outer q sZ=ix (ix h.Mons i mZ).Outer q sZ :=
 zV3 H a ⟨rfl,rfl,rfl,rfl,zbH _ _ _,rfl,rfl,rfl,rfl⟩
theorem z0f {h:Host}(H:HOk h){m:Int}(a:hasB m (ln h.Mons)=true)(p:Int):Op h (znw h m p)/\∀i q,ix (ix (znw h m p).Mons i mZ).Outer q sZ=ix (ix h.Mons i mZ).Outer q sZ :=
 zV3 H a ⟨rfl,rfl,rfl,rfl,zbH _ _ _,rfl,rfl,rfl,rfl⟩
theorem rights {r:Int}(a:1<=r)(b:r<=3):r=1\/r=2\/r=3:=by omega
theorem MOk.enough1 {x:Mon}(X:MOk x){p:Int}(a:hasB p 8=true)(d:(ix x.Outer p sZ).Page≠-1):(ix x.Outer p sZ).Rights=1\/(ix x.Outer p sZ).Rights=3:=by have b:=(((zpm<|X.slot a).1 (X.fit p a)).2 d).1;have c:=(X.slot a).pos d;rcases rights c.2.2.1 c.2.2.2 with e|e|e;{exact .inl e};{rw [e]at b;exact absurd b (by decide)};{exact .inr e}
theorem zOc {h:Host}(H:HOk h){m p:Int}(c:hasB m (ln h.Mons)=true)(b:hasB p 8=true)(g:(ix (ix h.Mons m mZ).Outer p sZ).Page≠-1){r:Int}(n:r=1\/r=3) :
 Op h (zb7 h m p ⟨(ix (ix h.Mons m mZ).Outer p sZ).Page,r⟩)/\But h (zb7 h m p ⟨(ix (ix h.Mons m mZ).Outer p sZ).Page,r⟩) m p/\
  ix (ix (zb7 h m p ⟨(ix (ix h.Mons m mZ).Outer p sZ).Page,r⟩).Mons m mZ).Outer p sZ=⟨(ix (ix h.Mons m mZ).Outer p sZ).Page,r⟩/\∀i,(ix (zb7 h m p ⟨(ix (ix h.Mons m mZ).Outer p sZ).Page,r⟩).Mons i mZ).Dirty=(ix h.Mons i mZ).Dirty:=by
 have X:=H.mon c;have d:=(X.slot b).pos g;have e:=zrC h m p ⟨(ix (ix h.Mons m mZ).Outer p sZ).Page,r⟩;have k:Chg (ix h.Mons m mZ) (zjQ (ix h.Mons m mZ) p ⟨(ix (ix h.Mons m mZ).Outer p sZ).Page,r⟩) p ⟨(ix (ix h.Mons m mZ).Outer p sZ).Page,r⟩ (ix (ix h.Mons m mZ).Out p []):=
  zz5 rfl (zGz (X.hasU b) _).symm rfl rfl rfl rfl rfl rfl rfl
 have l:SOk ⟨(ix (ix h.Mons m mZ).Outer p sZ).Page,r⟩:=.inr ⟨d.1,d.2.1,by show 1<=r;omega,by show r<=3;omega⟩
 have f:=((zpm<|X.slot b).1 (X.fit p b)).2 g;have j:=ztw (h:=h) (m:=m) (p:=p) (s:=⟨(ix (ix h.Mons m mZ).Outer p sZ).Page,r⟩) H.b1 H.b2;have a:=zvm h m p ⟨(ix (ix h.Mons m mZ).Outer p sZ).Page,r⟩;refine⟨⟨zuM H c b e k l ((zpm l).2 ⟨λh=>absurd h g,λ_=>⟨?_,f.2⟩⟩) (by rw[a];exact H.m12) (by rw[a];exact H.pgs) j.1 j.2 λ_=>.inl rfl,
  zua H c b e k (by rw[a];exact zkV H c b) (λi q _ _ _ _=>by rw[a]),λR=>zxM R c (X.hasO b) X.gt _⟩,zEU c b e rfl,?_,λi=>zKB c e rfl i⟩
 .show enough r 1=true
  rcases n with rfl|rfl<;>decide
 .rw [e,zbc c];exact zbc (X.hasO b) _ _
structure Mended (h r:Host) (m p n:Int):Prop where
 op:Op h r
 inn:(ix (ix r.Mons m mZ).Outer p sZ).Page≠-1
 ri:ieq (wand .i64 n 2) 0=false->(ix (ix r.Mons m mZ).Outer p sZ).Rights=3
 dt:ieq (wand .i64 n 2) 0=false->ix (ix r.Mons m mZ).Dirty p false=true
 d0:ieq (wand .i64 n 2) 0=true->(ix r.Mons m mZ).Dirty=(ix h.Mons m mZ).Dirty
 dk:∀k,hasB k 8=true->k≠p->ix (ix r.Mons m mZ).Dirty k false=ix (ix h.Mons m mZ).Dirty k false
 dm:∀i,hasB i (ln h.Mons)=true->i≠m->(ix r.Mons i mZ).Dirty=(ix h.Mons i mZ).Dirty
theorem zSL {h:Host}(H:HOk h){m p:Int}(n:Int)(c:hasB m (ln h.Mons)=true)(g:hasB p 8=true)(v:(ix (ix h.Mons m mZ).Outer p sZ).Page≠-1):Mended h (zie h m p n) m p n:=by
 unfold zie;cases s:ieq (wand .i64 n 2) 0 with
 |true=>exact⟨Op.refl H,v,λe=>Bool.noConfusion<|s.symm.trans e,λe=>Bool.noConfusion<|s.symm.trans e,λ_=>rfl,λ_ _ _=>rfl,λ_ _ _=>rfl⟩
 |false=>rw[cond_false];obtain⟨f,C⟩:=zJq H c p;have d:hasB m (ln (zbu h m p).Mons)=true:=(by rw[f.like.has];exact c);have a:(ix (ix (zbu h m p).Mons m mZ).Outer p sZ).Page≠-1:=(by rw[C];exact v);have u:(ix (zbu h m p).Mons m mZ).Dirty=up (ix h.Mons m mZ).Dirty p true:=(by show (ix (up h.Mons m _) m mZ).Dirty=_;rw[zbc c]);have l:∀i,hasB i (ln h.Mons)=true->i≠m->(ix (zbu h m p).Mons i mZ).Dirty=(ix h.Mons i mZ).Dirty:=λi q b=>(by show (ix (up h.Mons m _) i mZ).Dirty=_;rw[zbs (zC.1 c).1 (zC.1 q).1<|Ne.symm b]);have A:=(f.ok.mon d).enough1 g a;have t:∀r:Host,(∀i,(ix r.Mons i mZ).Dirty=(ix (zbu h m p).Mons i mZ).Dirty)->Op (zbu h m p) r->(ix (ix r.Mons m mZ).Outer p sZ).Page≠-1->(ix (ix r.Mons m mZ).Outer p sZ).Rights=3->Mended h r m p n:=(by intro r j x y z;refine⟨f.trans x,y,λ_=>z,λ_=>?_,λe=>Bool.noConfusion<|s.symm.trans e,λk B b=>?_,λi q b=>by rw[j,l i q b]⟩;{rw [j,u,zbc<|(H.mon c).hasD g]};{rw [j,u,zbs (zC.1 g).1 (zC.1 B).1<|Ne.symm b]});unfold opened;rcases A with e|e;{rw [e,show ieq (wand .i64 1 2) 0=true by decide,cond_true];obtain⟨D,F,w,E⟩:=zOc f.ok d g a (r:=3) (.inr rfl);exact t _ E D (by rw[w];exact a) (by rw[w])};{rw [e,show ieq (wand .i64 3 2) 0=false by decide,cond_false];exact t _ (λ_=>rfl) (Op.refl f.ok) a e}
theorem zOb {h:Host}(H:HOk h){m p:Int}(n:Int)(c:hasB m (ln h.Mons)=true)(d:hasB p 8=true):Mended h (mended h m p n) m p n:=by unfold mended;by_cases e:(ix (ix h.Mons m mZ).Outer p sZ).Page = -1;{rw [zbk.2 e,cond_true];obtain⟨a,⟨q,r,s,l⟩,f⟩:=zJr H c d e;have K:=zSL a.ok n (by rw[a.like.has];exact c) d (by rw[l];show q≠-1;omega);exact⟨a.trans K.op,K.inn,K.ri,K.dt,λe=>by rw[K.d0 e,f],λk j b=>by rw[K.dk k j b,f],λi g b=>by rw[K.dm i (by rw[a.like.has];exact g) b,f]⟩};{rw [zbN.2 e,cond_false];exact zSL H n c d e}
theorem zkU {h:Host}{m p:Int}:zb1 h m p=true↔HOk h/\hasB m (ln h.Mons)=true/\hasB p 8=true:=by unfold zb1;rw[zb9,zb9,ziT]
theorem zJs {h:Host}(H:HOk h)(m p:Int):Op h (zeL h m p):=by unfold zeL;cases a:zb1 h m p with|false=>exact Op.refl H|true=>obtain⟨_,b,c⟩:=zkU.1 a;rw[cond_true];unfold zgM;by_cases e:(ix (ix h.Mons m mZ).Outer p sZ).Page = -1;{rw [zbk.2 e];exact Op.refl H};{rw [zbN.2 e];exact zV4 H b c e}
theorem z0e {h:Host}(H:HOk h)(m p:Int):Op h (znZ h m p):=by unfold znZ;cases a:zb1 h m p with|false=>exact Op.refl H|true=>obtain⟨_,b,c⟩:=zkU.1 a;rw[cond_true];unfold zgM;by_cases e:(ix (ix h.Mons m mZ).Outer p sZ).Page = -1;{rw [zbk.2 e];exact(zJr H b c e).1};{rw [zbN.2 e];exact Op.refl H}
theorem z0d {h:Host}(H:HOk h)(m p:Int):Op h (znM h m p):=by unfold znM;cases g:zb1 h m p with|false=>exact Op.refl H|true=>obtain⟨_,b,c⟩:=zkU.1 g;rw[cond_true];obtain⟨a,d⟩:=z0f H b p;(cases e:zct (ix (ix h.Mons m zf).Outer p zN) noSlot with|true=>exact a|false=>rw[cond_false];have i:(ix (ix h.Mons m mZ).Outer p sZ).Page≠-1:=λf=>zq1.1 e (((H.mon b).slot c).none f);have:=zOc a.ok (m:=m) (p:=p) (by rw[a.like.has];exact b) c (by rw[d];exact i) (r:=1) (.inl rfl);rw[d m p] at this;exact a.trans this.1)
structure KeepP (x y:Mon):Prop where
 o:y.Outer=x.Outer
 u:y.Out=x.Out
theorem zJx {h r:Host}{m:Int}(b:hasB m (ln h.Mons)=true){y:Mon}(c:r.Mons=up h.Mons m y)(a:r.Memory=h.Memory)(k:KeepP (ix h.Mons m mZ) y)(i q:Int):zcm r i q=zcm h i q:=by unfold zcm;rw[c,zdZ,a];cases d:hasB i (ln h.Mons) with|false=>rfl|true=>by_cases e:m=i;{subst e;rw[zbc b,k.o,k.u]};{rw [zbs (zC.1 b).1 (zC.1 d).1 e]}
theorem zts {h r:Host}{m:Int}(b:hasB m (ln h.Mons)=true){y:Mon}(c:r.Mons=up h.Mons m y)(a:r.Memory=h.Memory)(k:KeepP (ix h.Mons m mZ) y)(i:Int) :
 zA r i=bif ieq i m then ⟨(zA h i).Memory,y.Guests,y.Outs,y.Pending⟩ else zA h i:=by
 have f:zcs r i 8 0=zcs h i 8 0:=zqa 8 0 (λj _ _=>zJx b c a k i j);unfold zA;rw[f,c,zdZ]
 by_cases e:i=m
 .subst e;rw[b,zbk.2 rfl,zbc b];rfl
 .rw [zbN.2 e,cond_false];cases d:hasB i (ln h.Mons) with
  |false=>rfl
  |true=>rw[zbs (zC.1 b).1 (zC.1 d).1<|Ne.symm e]
theorem zkK {x y:Mon}(X:MOk x)(k:KeepP x y)(g:y.Guests.length=x.Guests.length)(t:y.Tables.length=x.Tables.length)(d:y.Dirty.length=x.Dirty.length)(o:y.Outs.length<=40)(p:zdu y.Pending=true)(tr:zi y.Traps 0 3=true)(b:zi y.Own 0 1000000000=true)(a:∀g∈y.Guests,zdG g=true):MOk y :=
 ⟨by rw[g];exact X.g1,by rw[g];exact X.g2,by rw[t,g];exact X.gt,by rw[k.o];exact X.o8,by rw[k.o];exact X.sl,by rw[k.u];exact X.u8,by rw[d];exact X.d8,o,p,tr,b,a,by rw[k.o,k.u];exact X.fit⟩
theorem zRx {h:Host}(H:HOk h){m:Int}(a:hasB m (ln h.Mons)=true){y:Mon}(k:KeepP (ix h.Mons m mZ) y)(b:MOk y):HOk {h with Mons:=up h.Mons m y} :=
 H.up a b rfl H.m12 H.pgs H.b1 H.b2 λq _=>.inl (by unfold cPg;rw[k.o];exact qX _)
theorem zuH {h:Host}(S:Safe h){m:Int}(a:hasB m (ln h.Mons)=true){y:Mon}(k:KeepP (ix h.Mons m mZ) y)(d:MOk y)(hg:y.Guests.length=(ix h.Mons m mZ).Guests.length)(c:∀g,hasB g (ln (ix h.Mons m mZ).Guests)=true->(ix y.Guests g gZ).Live=(ix (ix h.Mons m mZ).Guests g gZ).Live)(b:y.Tables=(ix h.Mons m mZ).Tables):Safe {h with Mons:=up h.Mons m y} :=
 ⟨zRx S.ok a k d,zJG S.rt a rfl rfl rfl hg c b k.o⟩
theorem zPR {h:Host}(S:Safe h)(m t:Int):Safe (zhR h m t)/\∀i,zA (zhR h m t) i=zA h i:=by
 unfold zhR;rw[ziT.2 S.ok,cond_true];cases a:hasB m (ln h.Mons) with
 |false=>exact⟨S,λ_=>rfl⟩
 |true=>
  cases b:zi t 0 3 with
  |false=>exact⟨S,λ_=>rfl⟩
  |true=>have X:=S.ok.mon a;have k:KeepP (ix h.Mons m mZ) {ix h.Mons m mZ with Traps:=t}:=⟨rfl,rfl⟩;refine⟨zuH S a k (zkK X k rfl rfl rfl X.outs X.pend b X.own X.gs) rfl (λ_ _=>rfl) rfl,λi=>?_⟩;rw[cond_true,cond_true];refine(zts (h:=h) (r:={h with Mons:=up h.Mons m {ix h.Mons m mZ with Traps:=t}}) a rfl rfl k i).trans ?_;by_cases e:i=m;{subst e;rw[zbk.2 rfl,cond_true];unfold zA;rw[a];rfl};{rw [zbN.2 e];rfl}
theorem zD0:∀(n i:Nat) (k:Kept),(ziS n i k).Known.length=k.Known.length/\(ziS n i k).Slots.length=k.Slots.length
 | 0,i,k=>⟨rfl,rfl⟩
 |n+1,i,k=>by have a:=zD0 n (i+1) (zbR k (i:Int));have b:=zkE k (i:Int);exact⟨a.1.trans b.1,a.2.trans b.2⟩
theorem zHS:∀(n i:Nat) (k:Kept),k.Known.length=k.Slots.length->∀j,hasB j (ln k.Known)=true->
 ((i:Int)<=j/\j<((i+n:Nat):Int)->ix (ziS n i k).Known j false=false/\ix (ziS n i k).Slots j sZ=noSlot)/\
 (¬ ((i:Int)<=j/\j<((i+n:Nat):Int))->ix (ziS n i k).Known j false=ix k.Known j false/\ix (ziS n i k).Slots j sZ=ix k.Slots j sZ)
 | 0,i,k,_,j,_=>⟨λh=>by omega,λ_=>⟨rfl,rfl⟩⟩
 |n+1,i,k,g,j,f=>by have b:=zkE k (i:Int);have d:=zu3 (q:=(i:Int)) g f;have c:=zHS n (i+1) (zbR k (i:Int)) (by rw[b.1,b.2,g]) j (by unfold ln at f ⊢;rwa [b.1]);rw[ziS];by_cases a:((i+1:Nat):Int)<=j/\j<((i+1+n:Nat):Int);{exact⟨λ_=>c.1 a,λh=>absurd (by omega) h⟩};{rw [(c.2 a).1,(c.2 a).2,d.1,d.2];by_cases e:(i:Int)=j;{rw [zbk.2 e];exact⟨λ_=>⟨rfl,rfl⟩,λh=>absurd (by omega) h⟩};{rw [zbN.2 e];exact⟨λh=>absurd (by omega) a,λ_=>⟨rfl,rfl⟩⟩}}
theorem zO8 {k:Kept}{a b:List Slot}(h:KOk k a b):KOk (zju k) a b:=by have e:=zD0 k.Known.length 0 k;refine⟨e.1.trans h.l1,e.2.trans h.l2,λi f=>?_⟩;have c:hasB i (ln k.Known)=true:=(by unfold ln at f ⊢;rwa [h.l1]);have d:=zC.1 c;unfold ln at d;have:=(zHS k.Known.length 0 k (by rw[h.l1,h.l2]) i c).1 ⟨by omega,by omega⟩;unfold zju;rw[this.1,this.2];rfl
theorem zHG:∀(n j:Nat) (l:List Kept),(ztP n j l).length=l.length
 | 0,_,_=>rfl
 |n+1,j,l=>by rw[ztP,zHG n,zbH]
theorem zQO:∀(n j:Nat) (l:List Kept),j+n<=l.length->∀g,0<=g->ix (ztP n j l) g kZ=if (j:Int)<=g/\g<((j+n:Nat):Int) then zju (ix l g kZ) else ix l g kZ
 | 0,j,l,_,g,hg=>by rw[if_neg (by omega)];rfl
 |n+1,j,l,a,g,hg=>by rw[ztP,zQO n (j+1) _ (by rw[zbH];omega) g hg];by_cases e:(j:Int)=g;{subst e;rw[if_neg (by omega),if_pos (by omega),zbc<|zC.2 ⟨by omega,by unfold ln;omega⟩]};{rw [zbs (by omega) hg e];by_cases h:((j+1:Nat):Int)<=g/\g<((j+1+n:Nat):Int);{rw [if_pos h,if_pos (by omega)]};{rw [if_neg h,if_neg (by omega)]}}
theorem zHF:∀(n i:Nat) (l:List Mon),(znG n i l).length=l.length
 | 0,_,_=>rfl
 |n+1,i,l=>by rw[znG,zHF n,zbH]
theorem zNG:∀(n i:Nat) (l:List Mon),i+n<=l.length->∀m,0<=m->ix (znG n i l) m mZ=if (i:Int)<=m/\m<((i+n:Nat):Int) then ztQ (ix l m mZ) (ix l m mZ).Tables.length 0 else ix l m mZ
 | 0,i,l,_,m,a=>by rw[if_neg (by omega)];rfl
 |n+1,i,l,b,m,a=>by rw[znG,zNG n (i+1) _ (by rw[zbH];omega) m a];by_cases e:(i:Int)=m;{subst e;rw[if_neg (by omega),if_pos (by omega),zbc<|zC.2 ⟨by omega,by unfold ln;omega⟩]};{rw [zbs (by omega) a e];by_cases h:((i+1:Nat):Int)<=m/\m<((i+1+n:Nat):Int);{rw [if_pos h,if_pos (by omega)]};{rw [if_neg h,if_neg (by omega)]}}
theorem z1q (h:Host){m:Int}(a:hasB m (ln h.Mons)=true):ix (cold h).Mons m mZ=ztQ (ix h.Mons m mZ) (ix h.Mons m mZ).Tables.length 0:=by have:=zC.1 a;unfold ln at this;show ix (znG h.Mons.length 0 h.Mons) m mZ=_;rw[zNG _ _ _ (by omega) m this.1,if_pos (by omega)]
theorem zvJ (h:Host):(cold h).Mons.length=h.Mons.length:=zHF _ _ _
theorem zEX (h:Host)(m:Int):hasB m (ln (cold h).Mons)=hasB m (ln h.Mons):=by unfold ln;rw[zvJ]
theorem z5z {l a:List Mon}(d:a.length=l.length)(h:∀m,hasB m (ln l)=true->(ix a m mZ).Outer=(ix l m mZ).Outer)(q:Int):zeS a q=zeS l q:=by have:a.map (λx=>cPg x q)=l.map (λx=>cPg x q):=(by refine vO (by simp[d]) λk b c=>?_;simp only[uP]at b c;have:=h (k:Int) (zC.2 ⟨by omega,by unfold ln;omega⟩);rw[ziY b,ziY c] at this;simp[cPg,this]);unfold zeS;rw[this]
theorem z6H {h:Host}(H:HOk h):Op h (cold h):=by have c:∀m,hasB m (ln h.Mons)=true->ix (cold h).Mons m mZ=ztQ (ix h.Mons m mZ) (ix h.Mons m mZ).Tables.length 0:=λm a=>z1q h a;have n:∀i q,zcm (cold h) i q=zcm h i q:=(by intro i q;unfold zcm;rw[zEX];cases b:hasB i (ln h.Mons) with|false=>rfl|true=>rw[c i b];rfl);refine⟨⟨H.m12,H.pgs,by rw[zvJ];exact H.n1,by rw[zvJ];exact H.n3,rfl,rfl,λy s=>?_,λq r=>?_⟩,⟨zvJ h,λi b=>by rw[c i b];rfl,λi b=>by rw[c i b];rfl,λi b=>by rw[c i b];rfl,λi b=>by rw[c i b];rfl,λi b=>by rw[c i b];rfl,λi k _ _=>n i k⟩,λR=>⟨λm a=>?_,λe j=>(by cases j),λe j=>(by cases j)⟩⟩;{obtain⟨m,a,rfl⟩:=zv8 s mZ;rw[zEX]at a;rw[c m a];have X:=H.mon a;have k:KeepP (ix h.Mons m mZ) (ztQ (ix h.Mons m mZ) (ix h.Mons m mZ).Tables.length 0):=⟨rfl,rfl⟩;exact zkK X k rfl (zHG _ _ _) rfl X.outs X.pend X.tr X.own X.gs};{rw [z5z (l:=h.Mons) (zvJ h) (λm a=>by rw[c m a];rfl)];exact H.uq q r};{rw [zEX]at a;rw[c m a];have X:=H.mon a;intro g hg;show KOk (ix (ztP (ix h.Mons m mZ).Tables.length 0 (ix h.Mons m mZ).Tables) g kZ) (ix (ix h.Mons m mZ).Guests g gZ).Live (ix h.Mons m mZ).Outer;have d:hasB g (ln (ix h.Mons m mZ).Guests)=true:=hg;have f:=zC.1 d;unfold ln at f;have p:=X.gt;rw[zQO _ _ _ (by omega) g f.1,if_pos (by omega)];exact zO8 (R.t m a g d)}
theorem zTz {m g:Int}(c:zi m 0 2=true)(hg:zi g 0 1=true):zcy (zd8 m g)=m/\zdF (zd8 m g)=g/\1<=zd8 m g/\zd8 m g<=6:=by have d:=zcK.1 c;have e:=zcK.1 hg;have a:m=0\/m=1\/m=2:=(by omega);have b:g=0\/g=1:=(by omega);rcases a with rfl|rfl|rfl<;>rcases b with rfl|rfl<;>decide
theorem HOk.tag {h:Host}(H:HOk h){m g:Int}(a:hasB m (ln h.Mons)=true)(hg:hasB g (ln (ix h.Mons m mZ).Guests)=true):zi m 0 2=true/\zi g 0 1=true:=by have b:=zC.1 a;have c:=zC.1 hg;have d:=H.n3;have e:=(H.mon a).g2;unfold ln at b c;exact⟨zcK.2 (by omega),zcK.2 (by omega)⟩
theorem zgC {r:Int}:zdB r=true↔r=0\/r=1\/r=2\/r=3:=by unfold zdB ige ile;rw[qE,qZ,qZ];omega
theorem zqF {a b:Int}(h:enough a b=true):zdB a=true/\zdB b=true:=by unfold enough at h;rw[zb9,zb9]at h;exact⟨h.1,h.2.1⟩
theorem zRh {a b c:Int}(d:enough a b=true)(e:enough b c=true):enough a c=true:=by have f:=zgC.1 (zqF d).1;have g:=zgC.1 (zqF d).2;have h:=zgC.1 (zqF e).2;rcases f with rfl|rfl|rfl|rfl<;>rcases g with rfl|rfl|rfl|rfl<;>rcases h with rfl|rfl|rfl|rfl<;>revert d e<;>decide
theorem zUd {a b n:Int}(g:n=1\/n=2)(c:enough a n=true)(d:enough b n=true):zd5 a b≠0/\enough (zd5 a b) n=true:=by have e:=zgC.1 (zqF c).1;have f:=zgC.1 (zqF d).1;rcases g with rfl|rfl<;>rcases e with rfl|rfl|rfl|rfl<;>rcases f with rfl|rfl|rfl|rfl<;>revert c d<;>decide
theorem both_ok (a b:Int):zdB (zd5 a b)=true:=by
 unfold zd5;cases c:zdB a with
 |false=>rfl
 |true=>
  cases d:zdB b with
  |false=>rfl
  |true=>have c:=zgC.1 c;have d:=zgC.1 d;rcases c with rfl|rfl|rfl|rfl<;>rcases d with rfl|rfl|rfl|rfl<;>decide
theorem zUl {a:Int}(h:zdB a=true):enough a a=true:=by rcases zgC.1 h with rfl|rfl|rfl|rfl<;>decide
theorem zp1 {n:Int}(a:n=1\/n=2):enough 0 n=false:=by rcases a with rfl|rfl<;>decide
theorem zWU {s:Slot}{o:List Slot}(a:s.Page≠-1)(b:(zbn o s.Page).Page≠-1):zbf s o=bif ieq (zd5 s.Rights (zbn o s.Page).Rights) 0 then noSlot else ⟨(zbn o s.Page).Page,zd5 s.Rights (zbn o s.Page).Rights⟩:=by unfold zbf;rw[zbN.2 a,zbN.2 b];rfl
theorem zph {s:Slot}{o:List Slot}{n:Int}(c:n=1\/n=2)(h:enough (zbf s o).Rights n=true):s.Page≠-1/\(zbn o s.Page).Page≠-1/\(zbf s o).Page=(zbn o s.Page).Page:=by unfold zbf at h ⊢;by_cases a:s.Page = -1;{rw [zbk.2 a,cond_true]at h;rw[show noSlot.Rights=0 from rfl,zp1 c]at h;cases h};{rw [zbN.2 a,cond_false]at h ⊢;by_cases b:(zbn o s.Page).Page = -1;{rw [zbk.2 b,cond_true]at h;rw[show noSlot.Rights=0 from rfl,zp1 c]at h;cases h};{rw [zbN.2 b,cond_false]at h ⊢;by_cases d:zd5 s.Rights (zbn o s.Page).Rights=0;{rw [zbk.2 d,cond_true]at h;rw[show noSlot.Rights=0 from rfl,zp1 c]at h;cases h};{rw [zbN.2 d];exact⟨a,b,rfl⟩}}}
theorem zQQ {s:Slot}{o:List Slot}{n:Int}(e:n=1\/n=2)(a:s.Page≠-1)(b:(zbn o s.Page).Page≠-1)(c:enough s.Rights n=true)(d:enough (zbn o s.Page).Rights n=true) :
 (zbf s o).Page=(zbn o s.Page).Page/\enough (zbf s o).Rights n=true:=by
 have:=zUd e c d;rw[zWU a b,zbN.2 this.1];exact⟨rfl,this.2⟩
theorem zWV (s:Slot)(o:List Slot):zdB (zbf s o).Rights=true:=by unfold zbf;cases ieq s.Page (-1)<;>cases ieq (zbn o s.Page).Page (-1)<;>cases ieq (zd5 s.Rights (zbn o s.Page).Rights) 0<;>first|rfl|exact both_ok _ _
theorem zxf {b:List Entry}{t p:Int}{e:Entry}:e∈zcp b t p↔e∈b/\¬ (e.Tag=t/\e.Page=p):=by unfold zcp;rw[uA];refine and_congr Iff.rfl ?_;unfold zqR;by_cases h:e.Tag=t;{rw [show ine e.Tag t=false by simp[ine,h],cond_false,znl];simp[h]};{rw [znl.2 h];simp[h]}
theorem z2H {b:List Entry}{e x:Entry}(h:x∈zn0 b e):x∈b\/x=e:=by unfold zn0 ap at h;have:x∈zcp b e.Tag e.Page++[e]:=(by cases a:igt (ln<|zcp b e.Tag e.Page++[e]) 6 with|true=>rw[a,cond_true]at h;exact kD h|false=>rw[a,cond_false]at h;exact h);rcases jE.1 this with h|h;{exact .inl (zxf.1 h).1};{exact .inr (qF.1 h)}
theorem z8Y {n:Nat}(h:n<=100):wsub .i64 (n:Int) 6=(n:Int)-6:=by unfold wsub IntKind.wrap;simp[IntKind.signed,IntKind.bits];omega
theorem zVB {b:List Entry}(h:zfH b=true)(e:Entry):zfH (zn0 b e)=true:=by have c:=zBN.1 h;have k:(zcp b e.Tag e.Page).length<=6:=jC (uH _ _) c.2;have d:(zcp b e.Tag e.Page++[e]).Pairwise (λy x=>sameKey x y=false):=(by rw[List.pairwise_append];refine⟨c.1.sublist List.filter_sublist,List.pairwise_singleton _ _,λx i y j=>?_⟩;rw[qF.1 j];have:=(zxf.1 i).2;unfold sameKey;by_cases a:e.Tag=x.Tag;{rw [zbk.2 a,cond_true,zbN];exact λf=>this ⟨a.symm,f.symm⟩};{rw [zbN.2 a];rfl});unfold zn0 ap;cases g:igt (ln<|zcp b e.Tag e.Page++[e]) 6 with|true=>rw[cond_true,zBN];refine⟨d.sublist<|List.drop_sublist _ _,?_⟩;unfold dp ln;rw[jT,uE,z8Y (by omega),List.length_drop,jT,uE];omega|false=>rw[cond_false,zBN];refine⟨d,?_⟩;have:=jR g;unfold ln at this;omega
theorem zZX {h r:Host}{m:Int}(c:hasB m (ln h.Mons)=true){y:Mon}(b:r.Mons=up h.Mons m y)(a:r.Memory=h.Memory)(k:KeepP (ix h.Mons m mZ) y)(g:y.Guests=(ix h.Mons m mZ).Guests)(o:y.Outs=(ix h.Mons m mZ).Outs)(p:y.Pending=(ix h.Mons m mZ).Pending)(t:y.Traps=(ix h.Mons m mZ).Traps)(w:y.Own=(ix h.Mons m mZ).Own):Like h r:=by have e:∀{d:Type} (F:Mon->d),F y=F (ix h.Mons m mZ)->∀i,hasB i (ln h.Mons)=true->F (ix r.Mons i mZ)=F (ix h.Mons i mZ):=(by intro d F f i j;rw[b];by_cases e:m=i;{subst e;rw[zbc c];exact f};{rw [zbs (zC.1 c).1 (zC.1 j).1 e]});exact⟨by rw[b,zbH],e Mon.Guests g,e Mon.Outs o,e Mon.Pending p,e Mon.Traps t,e Mon.Own w,λi q _ _=>zJx c b a k i q⟩
theorem z2L {h:Host}(R:Rt h){m g:Int}(d:hasB m (ln h.Mons)=true)(r:hasB g (ln (ix h.Mons m mZ).Tables)=true){k:Kept}(u:KOk k (ix (ix h.Mons m mZ).Guests g gZ).Live (ix h.Mons m mZ).Outer) :
 Rt {h with Mons:=up h.Mons m {ix h.Mons m mZ with Tables:=up (ix h.Mons m mZ).Tables g k}}:=by
 have f:∀e,zcc h e=true->zcc {h with Mons:=up h.Mons m {ix h.Mons m mZ with Tables:=up (ix h.Mons m mZ).Tables g k}} e=true:=by intro e b;obtain⟨l,n,p⟩:=zfm.1 b;rw[zfm];show hasB (zcy e.Tag) (ln<|up h.Mons m _)=true/\hasB (zdF e.Tag) (ln (ix (up h.Mons m _) (zcy e.Tag) mZ).Guests)=true/\below' _ (zbf (zbn (ix (ix (up h.Mons m _) (zcy e.Tag) mZ).Guests (zdF e.Tag) gZ).Live e.Page) (ix (up h.Mons m _) (zcy e.Tag) mZ).Outer)=true;rw[zdZ];refine⟨l,?_⟩;by_cases a:m=zcy e.Tag;{rw [<- a]at l n p ⊢;rw[zbc d];exact⟨n,p⟩};{rw [zbs (zC.1 d).1 (zC.1 l).1 a];exact⟨n,p⟩}
 refine⟨λi s=>?_,λe b=>f e (R.e1 e b),λe b=>f e (R.e2 e b)⟩
 show TOk (ix (up h.Mons m _) i mZ)
 have c:hasB i (ln h.Mons)=true:=by have:hasB i (ln<|up h.Mons m {ix h.Mons m mZ with Tables:=up (ix h.Mons m mZ).Tables g k})=true:=s;rwa [zdZ] at this
 by_cases a:m=i
 .subst a;rw[zbc d];intro j q
  by_cases e:g=j
  .subst e
   show KOk (ix (up _ g k) g kZ) _ _
   rw[zbc r];exact u
  .show KOk (ix (up _ g k) j kZ) _ _
   rw[zbs (zC.1 r).1 (zC.1 q).1 e];exact R.t m d j q
 .rw [zbs (zC.1 d).1 (zC.1 c).1 a];exact R.t i c
theorem z2u {h:Host}(H:HOk h){m g:Int}(a:hasB m (ln h.Mons)=true)(c:hasB g (ln (ix h.Mons m mZ).Tables)=true){k:Kept}(b:Rt h->KOk k (ix (ix h.Mons m mZ).Guests g gZ).Live (ix h.Mons m mZ).Outer) :
 Op h {h with Mons:=up h.Mons m {ix h.Mons m mZ with Tables:=up (ix h.Mons m mZ).Tables g k}}:=by
 have X:=H.mon a;have kp:KeepP (ix h.Mons m mZ) {ix h.Mons m mZ with Tables:=up (ix h.Mons m mZ).Tables g k}:=⟨rfl,rfl⟩;exact⟨zRx H a kp (zkK X kp rfl (zbH _ _ _) rfl X.outs X.pend X.tr X.own X.gs),zZX (y:={ix h.Mons m mZ with Tables:=up (ix h.Mons m mZ).Tables g k}) a rfl rfl kp rfl rfl rfl rfl rfl,λR=>z2L R a c (b R)⟩
theorem zIX {k:Kept}{a b:List Slot}(h:KOk k a b)(p:Int):KOk (filled k a b p) a b:=by unfold filled zdc;cases d:hasB p (ln k.Known) with|false=>exact h|true=>have f:hasB p (ln k.Slots)=true:=(by unfold ln at d ⊢;rw[h.l2,<- h.l1];exact d);have g:hasB p (ln a)=true:=(by unfold ln at d ⊢;rw[<- h.l1];exact d);rw[cond_true,f,cond_true,g,cond_true];refine⟨by rw[zbH];exact h.l1,by rw[zbH];exact h.l2,λi c=>?_⟩;by_cases e:p=i;{subst e;show ix (up _ p _) p sZ=bif ix (up _ p true) p false then _ else _;rw[zbc f,zbc d];rfl};{show ix (up _ p _) i sZ=bif ix (up _ p true) i false then _ else _;rw[zbs (zC.1 f).1 (zC.1 c).1 e,zbs (zC.1 f).1 (zC.1 c).1 e];exact h.at' i c}
theorem z6I {h:Host}(H:HOk h){m g:Int}(b:hasB m (ln h.Mons)=true)(hg:hasB g (ln (ix h.Mons m mZ).Guests)=true)(a:Int):Op h (zce h m g a):=
 z2u H b (by unfold ln;rw[(H.mon b).gt];exact hg) λR=>zIX (R.t m b g hg) a
theorem zYI {k:Kept}{a b:List Slot}(h:KOk k a b){p:Int}(c:hasB p (ln a)=true):zdq k p=bif ix k.Known p false then zbf (ix a p sZ) b else noSlot:=by have d:hasB p (ln k.Known)=true:=(by unfold ln at c ⊢;rw[h.l1];exact c);have e:hasB p (ln k.Slots)=true:=(by unfold ln at c ⊢;rw[h.l2];exact c);unfold zdq zg3 zdc;rw[d,e,cond_true,cond_true,h.at' p c];cases ix k.Known p false<;>rfl
theorem zWM {k:Kept}{a b:List Slot}(h:KOk k a b){p:Int}(c:hasB p (ln a)=true):zdq (filled k a b p) p=zbf (ix a p sZ) b:=by rw[zYI (zIX h p) c];have d:hasB p (ln k.Known)=true:=(by unfold ln at c ⊢;rw[h.l1];exact c);have e:hasB p (ln k.Slots)=true:=(by unfold ln at c ⊢;rw[h.l2];exact c);have:ix (filled k a b p).Known p false=true:=(by unfold filled zdc;rw[d,e,c];exact zbc d _ _);rw[this];rfl
theorem z8b {h:Host}(H:HOk h){m g a:Int}(i:Bool)(n:Rt h->zcc h (zBS h m g a)=true):Op h (zqc h m g a i):=by have f:∀(j k:List Entry),Like h ⟨h.Memory,h.Mons,j,k⟩:=λ_ _=>⟨rfl,λ_ _=>rfl,λ_ _=>rfl,λ_ _=>rfl,λ_ _=>rfl,λ_ _=>rfl,λ_ _ _ _=>rfl⟩;have d:∀(b:List Entry),(∀e∈b,zcc h e=true)->Rt h->∀e∈zn0 b (zBS h m g a),zcc h e=true:=(by intro b l R e c;rcases z2H c with c|c;{exact l e c};{rw [c];exact n R});unfold zqc;cases i;{exact⟨⟨H.m12,H.pgs,H.n1,H.n3,zVB H.b1 _,H.b2,H.mons,H.uq⟩,f _ _,λR=>⟨R.t,λe c=>d _ R.e1 R e c,R.e2⟩⟩};{exact⟨⟨H.m12,H.pgs,H.n1,H.n3,H.b1,zVB H.b2 _,H.mons,H.uq⟩,f _ _,λR=>⟨R.t,R.e1,λe c=>d _ R.e2 R e c⟩⟩}
theorem z1X {b:List Entry}{t p:Int}{e:Entry}(h:zxd b t p=some e):e∈b/\e.Tag=t/\e.Page=p:=by unfold zxd at h;have a:=List.find?_some h;rw[zb9,zbk,zbk]at a;exact⟨uQ h,a⟩
theorem zjT {h:Host}{m g:Int}:zbJ h m g=true↔HOk h/\hasB m (ln h.Mons)=true/\hasB g (ln (ix h.Mons m mZ).Guests)=true:=by unfold zbJ;rw[zb9,zb9,ziT]
structure GOk (x:Guest):Prop where
 prog:zdv x.Prog=true
 a:zi x.A 0 99=true
 pc:zi x.Pc 0 12=true
 w:zcJ x.Written 4 8=true
 l:zcJ x.Live 4 8=true
 ctl:zlm x.Ctl=true
 pend:zdu x.Pending=true
 ex:zh9 x.Exit=true
 seen:ile (ln x.Seen) 40=true
theorem zsg {x:Guest}:zdG x=true↔GOk x:=by unfold zdG;simp only[qE];exact⟨λ⟨a,b,c,d,e,f,g,h,i⟩=>⟨a,b,c,d,e,f,g,h,i⟩,λ⟨a,b,c,d,e,f,g,h,i⟩=>⟨a,b,c,d,e,f,g,h,i⟩⟩
theorem z0H {s:Slot}:zdT s 8=true↔s=noSlot\/(0<=s.Page/\s.Page<=7/\1<=s.Rights/\s.Rights<=3):=by unfold zdT;rw[zsz,zjP,zq1];have:wsub .i64 8 1=7:=(by decide);simp only[this,zsz,zcK];simp[igt];constructor;{rintro (h|⟨h,⟨a,b⟩,c⟩);{exact .inl h};{exact .inr ⟨a,b,c⟩}};{intro h;by_cases d:s=noSlot;{exact .inl d};{rcases h with h|⟨a,b,c⟩;{exact .inl h};{exact .inr ⟨d,⟨a,b⟩,c⟩}}}
theorem HOk.guest {h:Host}(H:HOk h){m g:Int}(a:hasB m (ln h.Mons)=true)(hg:hasB g (ln (ix h.Mons m mZ).Guests)=true):GOk (ix (ix h.Mons m mZ).Guests g gZ):=zsg.1 ((H.mon a).gs _ (zlv hg _))
structure Walked (l:List Slot) (p n q:Int):Prop where
 hp:hasB p (ln l)=true
 pg:(ix l p sZ).Page=q
 q8:hasB q 8=true
 en:enough (ix l p sZ).Rights n=true
theorem walked {x:Guest}(X:GOk x){p n:Int}(a:zez x.Live p n=true):Walked x.Live p n (zb4 x.Live p n):=by have e:zb4 x.Live p n=(zbn x.Live p).Page:=(by unfold zb4;rw[a];rfl);unfold zez at a;by_cases b:(zbn x.Live p).Page = -1;{rw [zbk.2 b]at a;cases a};{rw [zbN.2 b,cond_false,zb9]at a;have c:hasB p (ln x.Live)=true:=(by cases c:hasB p (ln x.Live) with|true=>rfl|false=>exact absurd (by unfold zbn;rw[c];rfl) b);rw[znt c] at e b a;rw[e];have d:=z0H.1 ((zmx.1 X.l).1 _ (zlv c sZ));refine⟨c,rfl,?_,a.1⟩;rcases d with d|d;{rw [d]at b;exact absurd rfl b};{exact zC.2 (by omega)}}
structure Looked (h r:Host) (m g page need q host:Int):Prop where
 op:Op h r
 inn:(ix (ix r.Mons m mZ).Outer q sZ).Page=host
 ne:host≠-1
 en:enough (zbf (ix (ix (ix h.Mons m mZ).Guests g gZ).Live page sZ) (ix r.Mons m mZ).Outer).Rights need=true
 cp:(zbf (ix (ix (ix h.Mons m mZ).Guests g gZ).Live page sZ) (ix r.Mons m mZ).Outer).Page=host
 dk:∀k,hasB k 8=true->k≠q->ix (ix r.Mons m mZ).Dirty k false=ix (ix h.Mons m mZ).Dirty k false
 dq:need=2->ix (ix r.Mons m mZ).Dirty q false=true
 d1:need=1->(ix r.Mons m mZ).Dirty=(ix h.Mons m mZ).Dirty
 dm:∀i,hasB i (ln h.Mons)=true->i≠m->(ix r.Mons i mZ).Dirty=(ix h.Mons i mZ).Dirty
theorem zN4 {h:Host}(S:Safe h){m g a b q:Int}(f:hasB m (ln h.Mons)=true)(hg:hasB g (ln (ix h.Mons m mZ).Guests)=true)(l:b=1\/b=2)(W:Walked (ix (ix h.Mons m mZ).Guests g gZ).Live a b q)(c:Bool)(d:zdq (zbS h m g) a=zbf (ix (ix (ix h.Mons m mZ).Guests g gZ).Live a sZ) (ix h.Mons m mZ).Outer)(i:enough (zdq (zbS h m g) a).Rights b=true) :
 Op h (zeK h m g a c).1/\(zeK h m g a c).2=((ix (ix h.Mons m mZ).Outer q sZ).Page,true)/\(ix (ix h.Mons m mZ).Outer q sZ).Page≠-1/\(zeK h m g a c).1.Mons=h.Mons:=by
 rw[d]at i;have e:=zph l i;rw[W.pg,znt<|(S.ok.mon f).hasO W.q8]at e;refine⟨z8b S.ok c λR=>?_,?_,e.2.1,?_⟩
 .obtain⟨t1,t2⟩:=S.ok.tag f hg;obtain⟨j,k,_⟩:=zTz t1 t2;rw[zfm]
  show hasB (zcy<|zd8 m g) _=true/\hasB (zdF<|zd8 m g) (ln (ix h.Mons (zcy<|zd8 m g) mZ).Guests)=true/\below' ⟨(zdq (zbS h m g) a).Page,(zdq (zbS h m g) a).Rights⟩ (zbf (zbn (ix (ix h.Mons (zcy<|zd8 m g) mZ).Guests (zdF<|zd8 m g) gZ).Live a) (ix h.Mons (zcy<|zd8 m g) mZ).Outer)=true
  rw[j,k,znt W.hp,d];exact⟨f,hg,zng.2<|.inr ⟨rfl,zUl<|zWV _ _⟩⟩
 .show ((zdq (zbS h m g) a).Page,true)=_
  rw[d,e.2.2]
 .show (zqc h m g a c).Mons=_
  unfold zqc;cases c<;>rfl
theorem zSA {h:Host}(S:Safe h){m g page need q:Int}(x:hasB m (ln h.Mons)=true)(hg:hasB g (ln (ix h.Mons m mZ).Guests)=true)(D:need=1\/need=2)(W:Walked (ix (ix h.Mons m mZ).Guests g gZ).Live page need q)(N:Bool){b:List Entry}(hb:∀e∈b,zcc h e=true)(hd:need=2->ix (ix h.Mons m mZ).Dirty q false=true) :
 Looked h (zfu h b m g page need q N).1 m g page need q (zfu h b m g page need q N).2.1/\(zfu h b m g page need q N).2.2=true:=by
 have X:=S.ok.mon x;have r:=W.q8;have L:=znt (X.hasO W.q8);unfold zfu;cases K:zhx b m g page need with
 |true=>
  rw[cond_true];unfold zhx at K;cases B:zqI b m g page with
  |none=>rw[B]at K;cases K
  |some e=>rw[B]at K;have A:enough e.Rights need=true:=K;obtain⟨f1,f2,f3⟩:=z1X B;obtain⟨t1,t2⟩:=S.ok.tag x hg;obtain⟨b1,b2,_⟩:=zTz t1 t2;obtain⟨_,_,v⟩:=zfm.1 (hb e f1);rw[f2,b1,b2,f3,znt W.hp]at v;have T:(⟨e.Host,e.Rights⟩:Slot)≠noSlot:=λf=>(by have:e.Rights=0:=congrArg Slot.Rights f;rw[this,zp1 D]at A;cases A);rcases zng.1 v with v|⟨v,h4⟩;{exact absurd v T};{have h5:=zRh h4 A;have f:=zph D h5;rw[W.pg,L]at f;have O:e.Host=_:=v;refine⟨⟨Op.refl S.ok,f.2.2.symm.trans v.symm,?_,h5,v.symm,λ_ _ _=>rfl,hd,λ_=>rfl,λ_ _ _=>rfl⟩,rfl⟩;show e.Host≠-1;rw[O,f.2.2];exact f.2.1}
 |false=>
  rw[cond_false];have P:=S.rt.t m x g hg;cases y:zer h m g page need with
  |false=>rw[cond_false];have E:ix (zbS h m g).Known page false=true/\enough (zdq (zbS h m g) page).Rights need=true:=(by unfold zer at y;cases n:zg3 (zbS h m g) page with|false=>rw[n]at y;cases y|true=>rw[n,cond_true]at y;refine⟨?_,?_⟩;{unfold zg3 at n;cases hh:zdc (zbS h m g) page with|false=>rw[hh]at n;cases n|true=>rw[hh]at n;exact n};{cases hz:ieq (zdq (zbS h m g) page).Page (-1) with|true=>rw[hz]at y;cases y|false=>rw[hz]at y;simpa using y});have H:zdq (zbS h m g) page=zbf (ix (ix (ix h.Mons m mZ).Guests g gZ).Live page sZ) (ix h.Mons m mZ).Outer:=(by have Z:=zYI P W.hp;have h1:ix (ix (ix h.Mons m mZ).Tables g kZ).Known page false=true:=E.1;rw[h1]at Z;exact Z);obtain⟨U,V,Y,d⟩:=zN4 S x hg D W N H E.2;rw[V];have J:=E.2;rw[H]at J;have f:=zph D J;rw[W.pg,L]at f;exact⟨⟨U,by rw[d],Y,by rw[d];exact J,by rw[d];exact f.2.2,λ_ _ _=>by rw[d],λe=>by rw[d];exact hd e,λ_=>by rw[d],λ_ _ _=>by rw[d]⟩,rfl⟩
  |true=>
   rw[cond_true];have M:=zOb S.ok (m:=m) (p:=q) need x r;have c:hasB m (ln (mended h m q need).Mons)=true:=(by rw[M.op.like.has];exact x);have C:(ix (mended h m q need).Mons m mZ).Guests=(ix h.Mons m mZ).Guests:=M.op.like.g m x;have l:hasB g (ln (ix (mended h m q need).Mons m mZ).Guests)=true:=(by rw[C];exact hg);have G:Safe (mended h m q need):=M.op.safe S;have F:=z6I G.ok c l page;have S2:Safe (zce (mended h m q need) m g page):=F.safe G;have R:hasB m (ln (zce (mended h m q need) m g page).Mons)=true:=(by rw[F.like.has];exact c);have u:ix (zce (mended h m q need) m g page).Mons m mZ={ix (mended h m q need).Mons m mZ with Tables:=up (ix (mended h m q need).Mons m mZ).Tables g (filled (zbS (mended h m q need) m g) (zcj (mended h m q need) m g) (ix (mended h m q need).Mons m mZ).Outer page)}:=zbc c _ _;have Q:hasB g (ln (ix (zce (mended h m q need) m g page).Mons m mZ).Guests)=true:=(by rw[u];exact l);have w:(ix (zce (mended h m q need) m g page).Mons m mZ).Guests=(ix h.Mons m mZ).Guests:=(by rw[u];exact C);have W2:Walked (ix (ix (zce (mended h m q need) m g page).Mons m mZ).Guests g gZ).Live page need q:=(by rw[w];exact W);have H:zdq (zbS (zce (mended h m q need) m g page) m g) page=zbf (ix (ix (ix (zce (mended h m q need) m g page).Mons m mZ).Guests g gZ).Live page sZ) (ix (zce (mended h m q need) m g page).Mons m mZ).Outer:=(by have:zbS (zce (mended h m q need) m g page) m g=filled (zbS (mended h m q need) m g) (zcj (mended h m q need) m g) (ix (mended h m q need).Mons m mZ).Outer page:=(by unfold zbS;rw[u];exact zbc (by unfold ln;rw[(G.ok.mon c).gt];exact l) _ _);rw[this];refine(zWM (p:=page) (G.rt.t m c g l) (by rw[C];exact W.hp)).trans ?_;rw[u]);have z:(ix (zce (mended h m q need) m g page).Mons m mZ).Outer=(ix (mended h m q need).Mons m mZ).Outer:=by rw[u]
   have j:=znt ((G.ok.mon c).hasO r);have a:=zQQ (s:=ix (ix (ix h.Mons m mZ).Guests g gZ).Live page sZ) (o:=(ix (mended h m q need).Mons m mZ).Outer) D (by rw[W.pg];have:=zC.1 r;omega) (by rw[W.pg,j];exact M.inn) W.en (by
    rw[W.pg,j];rcases D with rfl|rfl
    .rcases (G.ok.mon c).enough1 r M.inn with e|e<;>rw [e]<;>decide
    .rw [M.ri (by decide)];decide)
   have J:enough (zdq (zbS (zce (mended h m q need) m g page) m g) page).Rights need=true:=(by rw[H,w,z];exact a.2);obtain⟨U,V,Y,d⟩:=zN4 S2 R Q D W2 N H J;rw[V];have I:=a.1;rw[W.pg,j]at I;refine⟨⟨(M.op.trans F).trans U,by rw[d],Y,by rw[d,z];exact a.2,by rw[d,z];exact I,λk n f=>?_,λe=>?_,λe=>?_,λi hi f=>?_⟩,rfl⟩;{rw [d,u];exact M.dk k n f};{rw [d,u];exact M.dt (by rw[e];decide)};{rw [d,u];exact M.d0 (by rw[e];decide)};{rw [d];show (ix (up (mended h m q need).Mons m _) i mZ).Dirty=_;rw[zbs (zC.1 x).1 (zC.1 hi).1<|Ne.symm f];exact M.dm i hi f}
theorem zEd {n:Int}:zf8 n=true↔n=1\/n=2:=by unfold zf8;by_cases h:n=1;{rw [zbk.2 h];simp[h]};{rw [zbN.2 h,cond_false,zbk];simp[h]}
theorem zp8 {h:Host}{m g page need:Int}:zbO h m g page need=true↔zbJ h m g=true/\(need=1\/need=2)/\zez (zcj h m g) page need=true:=by unfold zbO;rw[zb9,zb9,zEd]
theorem zAW {h:Host}(S:Safe h){m g page need:Int}(j:Bool)(t:zbO h m g page need=true){b:List Entry}(r:∀e∈b,zcc h e=true) :
 Looked h (lookOf h b m g page need j).1 m g page need (zb4 (zcj h m g) page need) (lookOf h b m g page need j).2.1/\(lookOf h b m g page need j).2.2=true:=by
 obtain⟨w,A,B⟩:=zp8.1 t;obtain⟨_,a,hg⟩:=zjT.1 w;have W:=walked (S.ok.guest a hg) B;unfold lookOf;rw[t,cond_true];rcases A with rfl|rfl
 .rw [show ieq 1 2=false by decide,cond_false]
  exact zSA S a hg (.inl rfl) W j r (λe=>absurd e (by decide))
 .rw [show ieq 2 2=true by decide,cond_true]
  obtain⟨d,C⟩:=zJq S.ok a (zb4 (zcj h m g) page 2);have p:hasB m (ln (zbu h m<|zb4 (zcj h m g) page 2).Mons)=true:=by rw[d.like.has];exact a
  have f:ix (zbu h m<|zb4 (zcj h m g) page 2).Mons m mZ={ix h.Mons m mZ with Dirty:=up (ix h.Mons m mZ).Dirty (zb4 (zcj h m g) page 2) true}:=zbc a _ _;have x:=(S.ok.mon a).hasD W.q8;obtain⟨L,y⟩:=zSA (d.safe S) p (g:=g) (page:=page) (need:=2) (q:=zb4 (zcj h m g) page 2) (by rw[f];exact hg) (.inr rfl) (by rw[f];exact W) j (b:=b) (λe z=>by
   obtain⟨l,u,v⟩:=zfm.1 (r e z);rw[zfm];have n:hasB (zcy e.Tag) (ln (zbu h m<|zb4 (zcj h m g) page 2).Mons)=true:=by rw[d.like.has];exact l
   refine⟨n,by rw[d.like.g _ l];exact u,?_⟩
   rw[d.like.g _ l];have:(ix (zbu h m<|zb4 (zcj h m g) page 2).Mons (zcy e.Tag) mZ).Outer=(ix h.Mons (zcy e.Tag) mZ).Outer:=by show (ix (up h.Mons m _) _ mZ).Outer=_;by_cases c:m=zcy e.Tag;{rw [<- c,zbc a]};{rw [zbs (zC.1 a).1 (zC.1 l).1 c]}
   rw[this];exact v) (λ_=>by rw[f];exact zbc x _ _)
  refine⟨⟨d.trans L.op,L.inn,L.ne,?_,?_,λk s c=>?_,L.dq,λe=>absurd e (by decide),λi n c=>?_⟩,y⟩
  .have:=L.en;rw[f] at this;exact this
  .have:=L.cp;rw[f] at this;exact this
  .rw [L.dk k s c,f];exact zbs (zC.1 W.q8).1 (zC.1 s).1 (Ne.symm c) _ _
  .rw [L.dm i (by rw[d.like.has];exact n) c]
   show (ix (up h.Mons m _) i mZ).Dirty=_
   rw[zbs (zC.1 a).1 (zC.1 n).1<|Ne.symm c]
theorem zM6 {x y:Int}(a : -9223372036854775808<=x+y)(b:x+y<=9223372036854775807):zI .i64 x y=x+y:=by unfold zI;simp only[IntKind.wrap,IntKind.signed,IntKind.bits];simp;omega
theorem zHN {n:Nat}{P:Int->Prop}(h:∀i:Fin n,P ((i.val:Nat):Int)){x:Int}(a:0<=x)(b:x<n):P x:=by have:=h ⟨x.toNat,by omega⟩;simpa [show ((x.toNat:Nat):Int)=x by omega] using this
theorem zSY {p:Int}:zdu p=true↔0<=p/\p<=255:=by unfold zdu;exact zcK
theorem zOj {p:Int}(h:zdu p=true):zdu (zhZ p)=true:=by have a:=zSY.1 h;exact zHN (n:=256) (P:=λx=>zdu (zhZ x)=true) (by decide +kernel) a.1 (by omega)
theorem zOi {p:Int}(h:zdu p=true)(n:Int):zdu (zrZ p n)=true:=by unfold zrZ zhO;rw[h,cond_true];cases e:zi n 0 7 with|false=>exact h|true=>rw[cond_true];have b:=zSY.1 h;have a:=zcK.1 e;exact zHN (n:=256) (P:=λx=>∀k,0<=k->k<(8:Int)->zdu (wor .i64 x<|zld .i64 1 k)=true) (λi k c d=>zHN (n:=8) (P:=λk=>zdu (wor .i64 ((i.val:Nat):Int)<|zld .i64 1 k)=true) (by revert i;decide +kernel) c d) b.1 (by omega) n a.1 (by omega)
structure GKeep (x y:Guest):Prop where
 ok:GOk y
 live:y.Live=x.Live
theorem zXr {x:Guest}(X:GOk x){c:Int}(b:zi c 0 12=true):GOk {x with Pc:=c}:=⟨X.prog,X.a,b,X.w,X.l,X.ctl,X.pend,X.ex,X.seen⟩
theorem zXq {x:Guest}(X:GOk x){c:Int}(a:zi c 0 99=true):GOk {x with A:=c}:=⟨X.prog,a,X.pc,X.w,X.l,X.ctl,X.pend,X.ex,X.seen⟩
theorem zjx {x:Guest}(X:GOk x):GKeep x (zbT x):=by unfold zbT;have a:=zcK.1 X.pc;cases h:ige x.Pc 12 with|true=>exact⟨zXr X (by decide),rfl⟩|false=>have:¬ x.Pc≥12:=jR h;refine⟨zXr X ?_,rfl⟩;rw[zM6 (by omega) (by omega)];exact zcK.2 (by omega)
theorem zRp {x:Guest}(X:GOk x)(n:Int):GKeep x (saw x n):=by unfold saw;cases h:ilt (ln x.Seen) 40 with|false=>exact⟨X,rfl⟩|true=>have:ln x.Seen<40:=qD h;refine⟨⟨X.prog,X.a,X.pc,X.w,X.l,X.ctl,X.pend,X.ex,qK ?_⟩,rfl⟩;unfold ln ap at *;simp;omega
theorem zjy {x:Guest}(X:GOk x){e:GExit}(b:zh9 e=true):GKeep x (stopped x e):=⟨⟨X.prog,X.a,X.pc,X.w,X.l,X.ctl,X.pend,b,X.seen⟩,rfl⟩
theorem zVO {x:Guest}(X:GOk x){p:Int}(b:zdu p=true):GKeep x {x with Pending:=p}:=⟨⟨X.prog,X.a,X.pc,X.w,X.l,X.ctl,b,X.ex,X.seen⟩,rfl⟩
theorem zVL {x:Guest}(X:GOk x)(b:Bool):GKeep x {x with Halted:=b}:=⟨⟨X.prog,X.a,X.pc,X.w,X.l,X.ctl,X.pend,X.ex,X.seen⟩,rfl⟩
theorem zVM {x:Guest}(X:GOk x):GKeep x (held x):=⟨(zjx (zVL X true).ok).ok,(zjx (zVL X true).ok).live⟩
theorem zZC {x:Guest}(X:GOk x){v:Int}(c:zi v 0 99=true):GKeep x (loaded x v):=by have a:=zRp (zXq X c) v;have b:=zjx a.ok;exact⟨b.ok,b.live.trans a.live⟩
theorem zKE {x:Guest}(X:GOk x):GKeep x (interrupted x):=by unfold interrupted;cases ziE x with|false=>exact⟨X,rfl⟩|true=>have a:=zVO X (zOj X.pend);rw[cond_true];exact⟨(zRp a.ok _).ok,(zRp a.ok _).live⟩
theorem zGn {p:List Ins}(h:zdv p=true)(i:Int):zeJ (zb8 p i)=true:=by unfold zb8;cases a:hasB i (ln p) with|false=>rfl|true=>unfold zdv at h;rw[zb9,qL]at h;exact h.1 _ (zlv a _)
theorem z7T {i:Ins}(h:zeJ i=true)(a:i.Op=3\/i.Op=4):0<=i.X/\i.X<=15:=by unfold zeJ at h;rcases a with e|e<;>rw [e]at h<;>exact zcK.1 h
theorem zZK {i:Ins}(h:zeJ i=true)(a:i.Op=5\/i.Op=6):0<=i.X/\i.X<=99:=by unfold zeJ at h;rcases a with e|e<;>rw [e]at h<;>exact zcK.1 h
theorem z8I {i:Ins}(h:zeJ i=true)(a:i.Op=8):0<=i.X/\i.X<=11:=by unfold zeJ at h;rw[a]at h;exact zcK.1 h
theorem z8H {i:Ins}(h:zeJ i=true)(a:i.Op=1):0<=i.X/\i.X<=99:=by unfold zeJ at h;rw[a]at h;exact zcK.1 h
theorem zXs {x:Guest}(X:GOk x):GKeep x (plainly x):=by have M:=zjx X;have b:=zGn X.prog x.Pc;unfold plainly;cases ine (zD x) 2 with|true=>exact⟨X,rfl⟩|false=>rw[cond_false];(cases zi x.A 0 99 with|false=>exact M|true=>rw[cond_true];(cases zi (zb8 x.Prog x.Pc).X 0 99 with|false=>exact M|true=>rw[cond_true];by_cases c:(zb8 x.Prog x.Pc).Op=1;{rw [zbk.2 c,cond_true];exact⟨zXq M.ok<|zcK.2<|z8H b c,M.live⟩};{rw [zbN.2 c,cond_false];by_cases d:(zb8 x.Prog x.Pc).Op=2;{rw [zbk.2 d,cond_true];refine⟨zXq M.ok ?_,M.live⟩;have f:=zcK.1 X.a;have i:0<=(zb8 x.Prog x.Pc).X/\(zb8 x.Prog x.Pc).X<=99:=(by unfold zeJ at b;rw[d]at b;exact zcK.1 b);rw[zcK];unfold zlc;rw[zM6 (by omega) (by omega)];have g:=Int.tmod_nonneg (a:=x.A+(zb8 x.Prog x.Pc).X) 100 (by omega);have h:=Int.tmod_lt_of_pos (x.A+(zb8 x.Prog x.Pc).X) (show (0:Int)<100 by omega);omega};{rw [zbN.2 d,cond_false];by_cases e:(zb8 x.Prog x.Pc).Op=8;{rw [zbk.2 e,cond_true];cases ieq x.A 0 with|true=>have:=z8I b e;exact⟨zXr M.ok<|zcK.2 (by omega),M.live⟩|false=>exact M};{rw [zbN.2 e];exact M}}}))
theorem zrX {c:List Int}:zcn c=true↔(∀x∈c,zi x 0 99=true)/\ln c=4:=by unfold zcn;rw[zb9,qL,zbk]
theorem zmk (h:Host)(m:Int):∀(n i:Nat),(zcs h m n i).length=n
 | 0,_=>rfl
 |n+1,i=>by rw[zcs,qV,zmk h m n]
theorem zJy (h:Host)(m:Int):∀(n i k:Nat) (a:k<(zcs h m n i).length),(zcs h m n i)[k]=zcm h m ((i+k:Nat):Int)
 | 0,i,k,a=>by simp[zcs]at a
 |n+1,i,k,a=>by cases k with|zero=>rfl|succ k=>have:=zJy h m n (i+1) k (by simpa [zcs] using a);simp only[zcs,List.getElem_cons_succ];rw[this];congr 1;omega
theorem zpw {h:Host}{m q:Int}(b:hasB q 8=true)(d:List Int):ix (zcs h m 8 0) q d=zcm h m q:=by have c:=zC.1 b;have a:q.toNat<(zcs h m 8 0).length:=(by rw[zmk];omega);have:=ziY a d;rw[show ((q.toNat:Nat):Int)=q by omega] at this;rw[this,zJy];congr 1;omega
theorem zs3 (h:Host)(m:Int):ln (zcs h m 8 0)=8:=by unfold ln;rw[zmk];rfl
theorem zxI {h:Host}(H:HOk h){m p:Int}(b:hasB m (ln h.Mons)=true)(a:hasB p 8=true):zcn (zcm h m p)=true:=by have X:=H.mon b;rw[<- zkV H b a];by_cases e:(ix (ix h.Mons m mZ).Outer p sZ).Page = -1;{rw [zbk.2 e];exact((zpm<|X.slot a).1 (X.fit p a)).1 e};{rw [zbN.2 e];exact zOg H.pgs _}
theorem zwI {h:Host}(H:HOk h){m:Int}(b:hasB m (ln h.Mons)=true):zbK (zA h m)=true:=by have X:=H.mon b;unfold zA;rw[b,cond_true];unfold zbK zid;rw[zb9,qL];refine⟨X.gs,?_⟩;simp only[qE,zb9,qL,zbk,zcK];refine⟨⟨λc d=>?_,zs3 h m⟩,⟨?_,?_⟩,?_,X.pend⟩;{obtain⟨i,a,rfl⟩:=zv8 d [];rw[zs3]at a;rw[zpw a];exact zxI H b a};{unfold ln;have:=X.g1;omega};{unfold ln;have:=X.g2;omega};{unfold ile ln;have:=X.outs;exact qK (by omega)}
structure SimT (h r:Host) (m:Int) (f:Bare->Bare):Prop where
 safe:Safe r
 seen:∀i,zA r i=bif ieq i m then f (zA h i) else zA h i
 len:r.Mons.length=h.Mons.length
theorem SimT.trans {a b c:Host}{m:Int}{f g:Bare->Bare}(x:SimT a b m f)(y:SimT b c m g):SimT a c m (λt=>g (f t)):=by refine⟨y.safe,λi=>?_,y.len.trans x.len⟩;rw[y.seen i,x.seen i];cases ieq i m<;>rfl
theorem Op.sim {h r:Host}(k:Op h r)(S:Safe h)(m:Int):SimT h r m id:=⟨k.safe S,λi=>by rw[k.like.seen i];cases ieq i m<;>rfl,k.like.len⟩
theorem SimT.congr {h r:Host}{m:Int}{f g:Bare->Bare}(x:SimT h r m f)(e:f (zA h m)=g (zA h m)):SimT h r m g:=by refine⟨x.safe,λi=>?_,x.len⟩;rw[x.seen i];by_cases a:i=m;{subst a;rw[zbk.2 rfl,cond_true,cond_true,e]};{rw [zbN.2 a];rfl}
theorem SimT.has {h r:Host}{m:Int}{f:Bare->Bare}(x:SimT h r m f)(i:Int):hasB i (ln r.Mons)=hasB i (ln h.Mons):=by unfold ln;rw[x.len]
theorem SimT.refl {h:Host}(S:Safe h)(m:Int):SimT h h m id:=⟨S,λi=>by cases ieq i m<;>rfl,rfl⟩
theorem zuJ {h:Host}(S:Safe h){m q a:Int}(l:hasB m (ln h.Mons)=true)(f:hasB q 8=true)(J:(ix (ix h.Mons m mZ).Outer q sZ).Page=a)(y:a≠-1)(c v:Int) :
 SimT h {h with Memory:=zbD h.Memory a c v} m (λb=>{b with Memory:=zbD b.Memory q c v})/\cellAt h.Memory a c=cellAt (zA h m).Memory q c:=by
 have H:=S.ok;have X:=H.mon l;have N:=X.slot f;have E:=z9d H N (by rw[J];exact y)
 rw[J]at E;have z:ix h.Memory a []=zcm h m q:=by have:=zkV H l f;rw[J,zbN.2 y,cond_false,zkT E] at this;exact this
 have n:ln (zcm h m q)=4:=(zrX.1<|zxI H l f).2;have d:(zA h m).Memory=zcs h m 8 0:=by unfold zA;rw[l];rfl
 have C:zf7 h.Memory a c=hasB c 4:=by unfold zf7;rw[E,cond_true,z,n]
 have D:zf7 (zcs h m 8 0) q c=hasB c 4:=by unfold zf7;rw[zs3,f,cond_true,zpw f,n]
 have u:cellAt h.Memory a c=cellAt (zA h m).Memory q c:=by rw[d];unfold cellAt;rw[C,D,z,zpw f]
 refine⟨?_,u⟩;cases A:hasB c 4 with
 |false=>have s:zbD h.Memory a c v=h.Memory:=(by unfold zbD;rw[C,A];rfl);rw[s];refine(SimT.refl S m).congr ?_;show zA h m={zA h m with Memory:=zbD (zA h m).Memory q c v};rw[d];have B:zbD (zcs h m 8 0) q c v=zcs h m 8 0:=(by unfold zbD;rw[D,A];rfl);rw[B,<- d]
 |true=>
  cases K:zi v 0 99 with
  |false=>have s:zbD h.Memory a c v=h.Memory:=(by unfold zbD;rw[C,A,K];rfl);rw[s];refine(SimT.refl S m).congr ?_;show zA h m={zA h m with Memory:=zbD (zA h m).Memory q c v};rw[d];have B:zbD (zcs h m 8 0) q c v=zcs h m 8 0:=(by unfold zbD;rw[D,A,K];rfl);rw[B,<- d]
  |true=>have s:zbD h.Memory a c v=up h.Memory a (up (zcm h m q) c v):=(by unfold zbD;rw[C,A,K,z];rfl);have B:zbD (zcs h m 8 0) q c v=up (zcs h m 8 0) q (up (zcm h m q) c v):=(by unfold zbD;rw[D,A,K,zpw f];rfl);have G:zcn (up (zcm h m q) c v)=true:=(by have:=zrX.1 (zxI H l f);rw[zrX,zdZ];refine⟨λx O=>?_,this.2⟩;rcases q0 O with h|h;{exact this.1 x h};{rw [h];exact K});have P:=(zC.1 E).1;have L:HOk {h with Memory:=zbD h.Memory a c v}:=(by rw[s];refine⟨by show (up _ _ _).length=12;rw[zbH];exact H.m12,λx O=>?_,H.n1,H.n3,H.b1,H.b2,H.mons,H.uq⟩;rcases q0 O with h|h;{exact H.pgs x h};{rw [h];exact G});refine⟨⟨L,⟨S.rt.t,S.rt.e1,S.rt.e2⟩⟩,λi=>?_,rfl⟩;have r:∀i k,hasB i (ln h.Mons)=true->hasB k 8=true->¬ (i=m/\k=q)->zcm {h with Memory:=zbD h.Memory a c v} i k=zcm h i k:=(by intro i k w g I;rw[<- zkV L (m:=i) (p:=k) w g,<- zkV H w g];show (cond (ieq (ix (ix h.Mons i mZ).Outer k sZ).Page<|-1) _<|zcr (zbD h.Memory a c v) _)=_;by_cases e:(ix (ix h.Mons i mZ).Outer k sZ).Page = -1;{rw [zbk.2 e];rfl};{rw [zbN.2 e,cond_false,cond_false,s];exact zA2 P (λe=>I (H.uniq w g l f e J P))});have F:zcm {h with Memory:=zbD h.Memory a c v} m q=up (zcm h m q) c v:=(by rw[<- zkV L (m:=m) (p:=q) l f];show (cond (ieq (ix (ix h.Mons m mZ).Outer q sZ).Page<|-1) _<|zcr (zbD h.Memory a c v) (ix (ix h.Mons m mZ).Outer q sZ).Page)=_;rw[J,zbN.2 y,cond_false,s];exact zA1 E);by_cases w:i=m;{subst w;rw[zbk.2 rfl,cond_true];unfold zA;show (cond (hasB i<|ln h.Mons) _ _)=_;rw[l,cond_true,cond_true];show Bare.mk (zcs {h with Memory:=zbD h.Memory a c v} i 8 0) _ _ _=Bare.mk (zbD (zcs h i 8 0) q c v) _ _ _;congr 1;rw[B];refine zMs [] (by rw[zbH,zmk,zmk]) λk g=>?_;rw[zs3]at g;rw[zpw g];by_cases e:q=k;{subst e;rw[zbc (by rw[zs3];exact f),F]};{rw [zbs (zC.1 f).1 (zC.1 g).1 e,zpw g];exact r i k l g (λh=>e h.2.symm)}};{rw [zbN.2 w,cond_false];unfold zA;show (cond (hasB i<|ln h.Mons) _ _)=_;cases M:hasB i (ln h.Mons) with|false=>rfl|true=>rw[cond_true,cond_true];show Bare.mk (zcs {h with Memory:=zbD h.Memory a c v} i 8 0) _ _ _=_;rw[zqa 8 0 λj C D=>r i (j:Int) M (zC.2 (by omega)) λh=>w h.1]}
theorem zpN {h:Host}(S:Safe h){m g:Int}(a:hasB m (ln h.Mons)=true)(hg:hasB g (ln (ix h.Mons m mZ).Guests)=true){y:Guest}(k:GKeep (gOf h m g) y):SimT h (zfN h m g y) m (λb=>zdS b g y):=by have X:=S.ok.mon a;have kp:KeepP (ix h.Mons m mZ) {ix h.Mons m mZ with Guests:=up (ix h.Mons m mZ).Guests g y}:=⟨rfl,rfl⟩;refine⟨zuH S a kp (zkK X kp (zbH _ _ _) rfl rfl X.outs X.pend X.tr X.own λz d=>?_) (zbH _ _ _) (λj c=>?_) rfl,λi=>?_,zbH _ _ _⟩;{rcases q0 d with h|h;{exact X.gs z h};{rw [h];exact zsg.2 k.ok}};{show (ix (up (ix h.Mons m mZ).Guests g y) j gZ).Live=_;by_cases e:g=j;{subst e;rw[zbc hg];exact k.live};{rw [zbs (zC.1 hg).1 (zC.1 c).1 e]}};{refine(zts (h:=h) (r:=zfN h m g y) a rfl rfl kp i).trans ?_;by_cases e:i=m;{subst e;rw[zbk.2 rfl,cond_true,cond_true];unfold zdS zA;rw[a];rfl};{rw [zbN.2 e];rfl}}
theorem zTi {h:Host}(S:Safe h){m:Int}(a:hasB m (ln h.Mons)=true){y:Mon}(kp:KeepP (ix h.Mons m mZ) y)(d:MOk y)(hg:y.Guests=(ix h.Mons m mZ).Guests)(c:y.Tables=(ix h.Mons m mZ).Tables) :
 SimT h {h with Mons:=up h.Mons m y} m (λb=>{b with Outs:=y.Outs,Pending:=y.Pending}):=by
 refine⟨zuH S a kp d (by rw[hg]) (λj _=>by rw[hg]) c,λi=>?_,zbH _ _ _⟩
 refine(zts (h:=h) (r:={h with Mons:=up h.Mons m y}) a rfl rfl kp i).trans ?_
 by_cases e:i=m
 .subst e;rw[zbk.2 rfl,cond_true,cond_true];unfold zA;rw[a,hg];rfl
 .rw [zbN.2 e];rfl
theorem zfF {h:Host}{m:Int}(a:hasB m (ln h.Mons)=true):zA h m=⟨zcs h m 8 0,(ix h.Mons m mZ).Guests,(ix h.Mons m mZ).Outs,(ix h.Mons m mZ).Pending⟩:=by unfold zA;rw[a];rfl
theorem z0E {h:Host}(S:Safe h){m:Int}(a:hasB m (ln h.Mons)=true):SimT h (owned h m) m id:=by unfold owned;cases b:ilt (ix h.Mons m mZ).Own 1000000000 with|false=>exact SimT.refl S m|true=>rw[cond_true];have X:=S.ok.mon a;have d:=zcK.1 X.own;have c:(ix h.Mons m mZ).Own<1000000000:=qD b;have kp:KeepP (ix h.Mons m mZ) {ix h.Mons m mZ with Own:=zI .i64 (ix h.Mons m mZ).Own 1}:=⟨rfl,rfl⟩;refine(zTi S a kp (zkK X kp rfl rfl rfl X.outs X.pend X.tr ?_ X.gs) rfl rfl).congr ?_;{show zi (zI .i64 (ix h.Mons m mZ).Own 1) 0 1000000000=true;rw[zM6 (by omega) (by omega),zcK];omega};{rw [zfF a];rfl}
theorem zYi {h:Host}(S:Safe h){m:Int}(a:hasB m (ln h.Mons)=true)(n:Int):SimT h (zgA h m n) m (λb=>zi6 b n):=by unfold zgA;have X:=S.ok.mon a;cases c:ilt (ln (ix h.Mons m mZ).Outs) 40 with|false=>refine(SimT.refl S m).congr ?_;rw[zfF a];unfold zi6;rw[c];rfl|true=>rw[cond_true];have d:ln (ix h.Mons m mZ).Outs<40:=qD c;have kp:KeepP (ix h.Mons m mZ) {ix h.Mons m mZ with Outs:=ap (ix h.Mons m mZ).Outs [n]}:=⟨rfl,rfl⟩;refine(zTi S a kp (zkK X kp rfl rfl rfl ?_ X.pend X.tr X.own X.gs) rfl rfl).congr ?_;{show (ap (ix h.Mons m mZ).Outs [n]).length<=40;unfold ln ap at *;simp;omega};{rw [zfF a];unfold zi6;rw[c];rfl}
theorem zsL {h:Host}{m g:Int}(a:hasB m (ln h.Mons)=true)(hg:hasB g (ln (ix h.Mons m mZ).Guests)=true):gAt (zA h m) g=gOf h m g:=by rw[zfF a];unfold gAt;show (cond (hasB g<|ln (ix h.Mons m mZ).Guests) _ _)=_;rw[hg];rfl
theorem zM7 {x:Guest}(h:zD x=3\/zD x=4\/zD x=5\/zD x=6):(zb8 x.Prog x.Pc).Op=zD x:=by unfold zD at h ⊢;cases e:canRun x with|false=>simp[e]at h|true=>simp only[e,cond_true]at h ⊢;(cases f:ziE x with|true=>simp[f]at h|false=>simp only[f,cond_false]at h ⊢;unfold zwa at h ⊢;by_cases a:(zb8 x.Prog x.Pc).Op=3;{rw [a];rfl};{rw [zbN.2 a,cond_false]at h ⊢;by_cases b:(zb8 x.Prog x.Pc).Op=4;{rw [b];rfl};{rw [zbN.2 b,cond_false]at h ⊢;by_cases c:(zb8 x.Prog x.Pc).Op=5;{rw [c];rfl};{rw [zbN.2 c,cond_false]at h ⊢;by_cases d:(zb8 x.Prog x.Pc).Op=6;{rw [d];rfl};{rw [zbN.2 d,cond_false]at h ⊢;cases g:ieq (zb8 x.Prog x.Pc).Op 7<;>simp [g]at h}}}})
theorem z5n {x:Guest}(X:GOk x){w:Int}(a:zD x=w)(h:w=3\/w=4):0<=address x/\address x<=15:=by have e:address x=(zb8 x.Prog x.Pc).X:=(by unfold address;rcases h with e|e;{rw [a,e];rfl};{rw [a,e];rfl});rw[e];exact z7T (zGn X.prog _) (by rw[zM7 (by omega),a];exact h)
theorem z5o {a:Int}(b:0<=a)(c:a<=15):zi (zbb a) 0 3=true/\hasB (zdh a) 4=true :=
 zHN (n:=16) (P:=λa=>zi (zbb a) 0 3=true/\hasB (zdh a) 4=true) (by decide) b (by omega)
theorem zXh {p:Int}(h:zi p 0 3=true)(w:Bool):zh9 (zqG p w)=true:=by unfold zh9 zqG;simp[ieq,h]
theorem zZr {n:Int}(h:zi n 0 99=true):zh9 (zsB n)=true:=by unfold zh9 zsB;simp[ieq,h]
theorem z1W {n:Int}(h:zi n 0 99=true):zh9 (zwb n)=true:=by unfold zh9 zwb;simp[ieq,h]
theorem z16 {x:Guest}(X:GOk x)(t:Int){w:Int}(d:zD x=w):GKeep x (zfv x t w):=by have c:=zGn X.prog x.Pc;unfold zfv;by_cases b:w=6;{rw [zbk.2 b];exact zjy X (zZr<|zcK.2<|zZK c (by rw[zM7 (by omega),d];omega))};{rw [zbN.2 b,cond_false];by_cases a:w=5;{rw [zbk.2 a];cases zdH t 1 with|true=>exact zjy X (z1W<|zcK.2<|zZK c (by rw[zM7 (by omega),d];omega))|false=>rw[a];exact zjx X};{rw [zbN.2 a];rw[Bool.false_and,cond_false];cases e:(ieq w 7&&zdH t 2) with|true=>exact zjy X rfl|false=>rw[cond_false];cases ieq w 7;{exact zjx X};{exact zVM X}}}
theorem zVY {a:Type}(g:Int):hasB g (ln ([]:List a))=false:=by cases h:hasB g (ln ([]:List a)) with|false=>rfl|true=>have:=zC.1 h;simp[ln] at this;omega
theorem z1k {m:List (List Int)}(h:∀c∈m,zcn c=true)(p c:Int):zi (cellAt m p c) 0 99=true:=by unfold cellAt zf7;cases b:hasB p (ln m) with|false=>rfl|true=>rw[cond_true];(cases a:hasB c (ln<|ix m p []) with|false=>rfl|true=>rw[cond_true];exact(zrX.1<|h _<|zlv b []).1 _ (zlv a 0))
theorem HOk.seenG {h:Host}(H:HOk h){m g:Int}(a:hasB m (ln h.Mons)=true)(hg:hasB g (ln (ix h.Mons m mZ).Guests)=true):GOk (gOf h m g):=H.guest a hg
theorem zTu {h:Host}(S:Safe h){m g:Int}(i:hasB m (ln h.Mons)=true)(hg:hasB g (ln (ix h.Mons m mZ).Guests)=true)(w:Bool)(B:zD (gOf h m g)=bif w then 4 else 3) :
 SimT h (zfT (zhS h m g (gOf h m g) w) m g (gOf h m g) w) m (λb=>zki b g (gOf h m g) w):=by
 have X:=S.ok.seenG i hg;have t:=z5n X B (by cases w<;>simp)
 have n:=z5o t.1 t.2;have z:zbY w=1\/zbY w=2:=by cases w<;>simp [zbY]
 unfold zfT zhS;cases k:zbO h m g (zbb<|address<|gOf h m g) (zbY w) with
 |false=>have e:lookOf h h.Buffer m g (zbb<|address<|gOf h m g) (zbY w) false=(h,-1,false):=(by unfold lookOf;rw[k];rfl);have q:zez (gOf h m g).Live (zbb<|address<|gOf h m g) (zbY w)=false:=(by cases y:zez (gOf h m g).Live (zbb<|address<|gOf h m g) (zbY w) with|false=>rfl|true=>exact Bool.noConfusion (k.symm.trans<|zp8.2 ⟨zjT.2 ⟨S.ok,i,hg⟩,z,y⟩));rw[e];refine(zpN S i hg<|zjy X<|zXh n.1 w).congr ?_;unfold zki;rw[q];rfl
 |true=>obtain⟨L,x⟩:=zAW S false k S.rt.e1;obtain⟨_,_,j⟩:=zp8.1 k;have c:zez (gOf h m g).Live (zbb<|address<|gOf h m g) (zbY w)=true:=j;have W:=walked X j;rw[x,cond_true];have l:=L.op.safe S;have f:hasB m (ln (lookOf h h.Buffer m g (zbb<|address<|gOf h m g) (zbY w) false).1.Mons)=true:=(by rw[L.op.like.has];exact i);have a:=L.op.like.g m i;have C:hasB (zb4 (zcj h m g) (zbb<|address<|gOf h m g)<|zbY w) 8=true:=W.q8;obtain⟨u,v⟩:=zuJ l f C L.inn L.ne (zdh<|address<|gOf h m g) (gOf h m g).A;rw[L.op.like.seen m] at v;cases w with|true=>rw[cond_true];have r:=L.op.sim S m;have p:hasB m (ln ({ (lookOf h h.Buffer m g (zbb<|address<|gOf h m g) (zbY true) false).1 with Memory:=zbD (lookOf h h.Buffer m g (zbb<|address<|gOf h m g) (zbY true) false).1.Memory (lookOf h h.Buffer m g (zbb<|address<|gOf h m g) (zbY true) false).2.1 (zdh<|address<|gOf h m g) (gOf h m g).A}:Host).Mons)=true:=f;have d:hasB g (ln (ix ({ (lookOf h h.Buffer m g (zbb<|address<|gOf h m g) (zbY true) false).1 with Memory:=zbD (lookOf h h.Buffer m g (zbb<|address<|gOf h m g) (zbY true) false).1.Memory (lookOf h h.Buffer m g (zbb<|address<|gOf h m g) (zbY true) false).2.1 (zdh<|address<|gOf h m g) (gOf h m g).A}:Host).Mons m mZ).Guests)=true:=(by show hasB g (ln (ix (lookOf h h.Buffer m g (zbb<|address<|gOf h m g) (zbY true) false).1.Mons m mZ).Guests)=true;rw[a];exact hg);have s:GKeep (gOf { (lookOf h h.Buffer m g (zbb<|address<|gOf h m g) (zbY true) false).1 with Memory:=zbD (lookOf h h.Buffer m g (zbb<|address<|gOf h m g) (zbY true) false).1.Memory (lookOf h h.Buffer m g (zbb<|address<|gOf h m g) (zbY true) false).2.1 (zdh<|address<|gOf h m g) (gOf h m g).A} m g) (zbT<|gOf h m g):=(by have:gOf { (lookOf h h.Buffer m g (zbb<|address<|gOf h m g) (zbY true) false).1 with Memory:=zbD (lookOf h h.Buffer m g (zbb<|address<|gOf h m g) (zbY true) false).1.Memory (lookOf h h.Buffer m g (zbb<|address<|gOf h m g) (zbY true) false).2.1 (zdh<|address<|gOf h m g) (gOf h m g).A} m g=gOf h m g:=(by show ix (ix (lookOf h h.Buffer m g (zbb<|address<|gOf h m g) (zbY true) false).1.Mons m mZ).Guests g gZ=_;rw[a];rfl);rw[this];exact zjx X);refine((r.trans u).trans (zpN u.safe p d s)).congr ?_;unfold zki;rw[c];rfl|false=>rw[cond_false];have r:=L.op.sim S m;have d:hasB g (ln (ix (lookOf h h.Buffer m g (zbb<|address<|gOf h m g) (zbY false) false).1.Mons m mZ).Guests)=true:=(by rw[a];exact hg);have s:GKeep (gOf (lookOf h h.Buffer m g (zbb<|address<|gOf h m g) (zbY false) false).1 m g) (loaded (gOf h m g)<|cellAt (lookOf h h.Buffer m g (zbb<|address<|gOf h m g) (zbY false) false).1.Memory (lookOf h h.Buffer m g (zbb<|address<|gOf h m g) (zbY false) false).2.1<|zdh<|address<|gOf h m g):=(by have:gOf (lookOf h h.Buffer m g (zbb<|address<|gOf h m g) (zbY false) false).1 m g=gOf h m g:=(by show ix (ix (lookOf h h.Buffer m g (zbb<|address<|gOf h m g) (zbY false) false).1.Mons m mZ).Guests g gZ=_;rw[a];rfl);rw[this];exact zZC X (z1k l.ok.pgs _ _));refine(r.trans<|zpN l f d s).congr ?_;unfold zki;rw[c,v];rfl
theorem z15 {h r:Host}{m g:Int}(e:(ix r.Mons m mZ).Guests=(ix h.Mons m mZ).Guests):gOf r m g=gOf h m g:=by unfold gOf;rw[e]
theorem z6L (h:Host)(m:Int)(a:hasB m (ln h.Mons)=true):(ix (owned h m).Mons m mZ).Guests=(ix h.Mons m mZ).Guests:=by unfold owned;cases ilt (ix h.Mons m mZ).Own 1000000000 with|false=>rfl|true=>show (ix (up h.Mons m _) m mZ).Guests=_;rw[zbc a]
theorem z2v (h:Host)(m n:Int)(a:hasB m (ln h.Mons)=true):(ix (zgA h m n).Mons m mZ).Guests=(ix h.Mons m mZ).Guests:=by unfold zgA;cases ilt (ln (ix h.Mons m mZ).Outs) 40 with|false=>rfl|true=>show (ix (up h.Mons m _) m mZ).Guests=_;rw[zbc a]
theorem z0G {h:Host}(S:Safe h){m:Int}(a:hasB m (ln h.Mons)=true)(x:Guest)(w:Int):SimT h (zdY h m x w) m id/\(ix (zdY h m x w).Mons m mZ).Guests=(ix h.Mons m mZ).Guests:=by unfold zdY;cases (cond (ine w 6) (ieq (zkR (ix h.Mons m mZ).Traps x.Ctl.Traps<|ze8 w) 2) false) with|false=>exact⟨SimT.refl S m,rfl⟩|true=>exact⟨z0E S a,z6L h m a⟩
theorem z0F {h:Host}(S:Safe h){m:Int}(a:hasB m (ln h.Mons)=true)(x:Guest)(w:Int):SimT h (zf4 h m x w) m (λb=>bif (cond (zgv x.Ctl.Traps w) (ieq w 5) false) then zi6 b (zb8 x.Prog x.Pc).X else b)/\(ix (zf4 h m x w).Mons m mZ).Guests=(ix h.Mons m mZ).Guests:=by unfold zf4;cases (cond (zgv x.Ctl.Traps w) (ieq w 5) false) with|false=>exact⟨SimT.refl S m,rfl⟩|true=>exact⟨zYi S a _,z2v h m _ a⟩
theorem zBv {h:Host}(S:Safe h){m g:Int}(d:hasB m (ln h.Mons)=true)(hg:hasB g (ln (ix h.Mons m mZ).Guests)=true){w:Int}(l:zD (gOf h m g)=w) :
 SimT h (zin h m g (gOf h m g) w) m (λb=>zpP b g (gOf h m g) w):=by
 have X:=S.ok.seenG d hg;obtain⟨f,j⟩:=z0G S d (gOf h m g) w;have a:hasB m (ln (zdY h m (gOf h m g) w).Mons)=true:=by rw[f.has];exact d
 obtain⟨i,k⟩:=z0F f.safe a (gOf h m g) w;have e:hasB m (ln (zf4 (zdY h m (gOf h m g) w) m (gOf h m g) w).Mons)=true:=by rw[i.has];exact a
 have c:hasB g (ln (ix (zf4 (zdY h m (gOf h m g) w) m (gOf h m g) w).Mons m mZ).Guests)=true:=by rw[k,j];exact hg
 have n:GKeep (gOf (zf4 (zdY h m (gOf h m g) w) m (gOf h m g) w) m g) (zfv (gOf h m g) (gOf h m g).Ctl.Traps w):=by rw[z15<|k.trans j];exact z16 X _ l
 exact((f.trans i).trans (zpN i.safe e c n)).congr rfl
theorem zYy (x:Guest):zD x=0\/zD x=1\/zD x=2\/zD x=3\/zD x=4\/zD x=5\/zD x=6\/zD x=7:=by unfold zD zwa;cases canRun x<;>cases ziE x<;>cases ieq (zb8 x.Prog x.Pc).Op 3<;>cases ieq (zb8 x.Prog x.Pc).Op 4<;>cases ieq (zb8 x.Prog x.Pc).Op 5<;>cases ieq (zb8 x.Prog x.Pc).Op 6<;>cases ieq (zb8 x.Prog x.Pc).Op 7<;>simp
theorem zQM {h:Host}(H:HOk h)(m g:Int):zga (zA h m) g=bif zbJ h m g then !ieq (zD<|gOf h m g) 0 else false:=by unfold zga zbJ;rw[ziT.2 H,cond_true];cases a:hasB m (ln h.Mons) with|false=>have:(zA h m).Guests=[]:=(by unfold zA;rw[a];rfl);rw[this,zVY];rfl|true=>rw[cond_true,zwI H a,cond_true];have:(zA h m).Guests=(ix h.Mons m mZ).Guests:=(by rw[zfF a]);rw[this];(cases hg:hasB g (ln (ix h.Mons m mZ).Guests) with|false=>rfl|true=>rw[cond_true,cond_true,zsL a hg])
theorem step_ok {h:Host}(S:Safe h)(m g:Int):SimT h (zbt h m g).1 m (λb=>zd4 b g)/\(zbt h m g).2=zga (zA h m) g:=by
 have a:=zQM S.ok m g;unfold zbt;cases i:zbJ h m g with
 |false=>rw[i,cond_false]at a;refine⟨(SimT.refl S m).congr ?_,a.symm⟩;unfold zd4;rw[a];rfl
 |true=>rw[i,cond_true]at a;rw[cond_true];obtain⟨_,c,hg⟩:=zjT.1 i;have X:=S.ok.seenG c hg;have f:=zsL c hg;have d:∀w,zD (gOf h m g)=w->w≠0->zd4 (zA h m) g=stepped (zA h m) g (gOf h m g) w:=(by intro w j k;unfold zd4;rw[a,j,zbN.2 k,f,j];rfl);rcases zYy (gOf h m g) with e|e|e|e|e|e|e|e;{rw [e];rw[e]at a;refine⟨(SimT.refl S m).congr ?_,a.symm⟩;unfold zd4;rw[a];rfl};{rw [e]at a ⊢;exact⟨(zpN S c hg<|zKE X).congr (d 1 e (by decide)).symm,a.symm⟩};{rw [e]at a ⊢;exact⟨(zpN S c hg<|zXs X).congr (d 2 e (by decide)).symm,a.symm⟩};{rw [e]at a ⊢;exact⟨(zTu S c hg false e).congr (d 3 e (by decide)).symm,a.symm⟩};{rw [e]at a ⊢;exact⟨(zTu S c hg true e).congr (d 4 e (by decide)).symm,a.symm⟩};{rw [e]at a ⊢;exact⟨(zBv S c hg e).congr (d 5 e (by decide)).symm,a.symm⟩};{rw [e]at a ⊢;exact⟨(zBv S c hg e).congr (d 6 e (by decide)).symm,a.symm⟩};{rw [e]at a ⊢;exact⟨(zBv S c hg e).congr (d 7 e (by decide)).symm,a.symm⟩}
structure BackOk (b c:Bare):Prop where
 m:c.Memory=b.Memory
 o:c.Outs=b.Outs
 n:c.Guests.length=b.Guests.length
 g:∀j,hasB j (ln b.Guests)=true->GKeep (ix b.Guests j gZ) (ix c.Guests j gZ)
 p:zdu b.Pending=true->zdu c.Pending=true
theorem z2S {h:Host}(S:Safe h){m:Int}(b:hasB m (ln h.Mons)=true){c:Bare}(k:BackOk (zA h m) c):SimT h (zc8 h m c) m (λ_=>c):=by have X:=S.ok.mon b;have f:=zfF b;have d:(zA h m).Guests=(ix h.Mons m mZ).Guests:=(by rw[f]);have l:c.Guests.length=(ix h.Mons m mZ).Guests.length:=(by rw[k.n,d]);have hg:∀j,hasB j (ln (ix h.Mons m mZ).Guests)=true->GKeep (ix (ix h.Mons m mZ).Guests j gZ) (ix c.Guests j gZ):=λj a=>(by have:=k.g j (by rw[d];exact a);rwa [d] at this);have kp:KeepP (ix h.Mons m mZ) (ztO (ix h.Mons m mZ) c):=⟨rfl,rfl⟩;have s:zdu c.Pending=true:=k.p (by rw[f];exact X.pend);refine⟨zuH S b kp (zkK X kp l rfl rfl X.outs s X.tr X.own λz t=>?_) l (λj a=>(hg j a).live) rfl,λi=>?_,zbH _ _ _⟩;{obtain⟨j,a,rfl⟩:=zv8 t gZ;exact zsg.2 (hg j (by unfold ln at a ⊢;rw[<- l];exact a)).ok};{refine(zts (h:=h) (r:=zc8 h m c) b rfl rfl kp i).trans ?_;by_cases e:i=m;{subst e;rw[zbk.2 rfl,cond_true,cond_true];show Bare.mk (zA h i).Memory c.Guests (ix h.Mons i mZ).Outs c.Pending=c;have u:=k.m;have q:=k.o;rw[f]at q;cases c;simp_all};{rw [zbN.2 e];rfl}}
theorem seen_none {h:Host}{m:Int}(a:hasB m (ln h.Mons)=false):zA h m=⟨[],[],[],0⟩:=by unfold zA;rw[a];rfl
theorem zsl:zbK ⟨[],[],[],0⟩=false:=by decide
theorem zsy {b:Bare}(h:zbK b=false)(g:Int):zcd b g=false:=by unfold zcd;rw[h];rfl
theorem zh7 {b:Bare}(h:zbK b=true):BackOk b b:=⟨rfl,rfl,rfl,λj a=>⟨zsg.1 (by
 unfold zbK at h;rw[zb9,qL]at h;exact h.1 _ (zlv a _)),rfl⟩,id⟩
theorem zYM {b:Bare}(h:zbK b=true){g:Int}(hg:hasB g (ln b.Guests)=true){y:Guest}(k:GKeep (gAt b g) y):BackOk b (zdS b g y):=by have e:gAt b g=ix b.Guests g gZ:=(by unfold gAt;rw[hg];rfl);refine⟨rfl,rfl,zbH _ _ _,λj c=>?_,id⟩;show GKeep _ (ix (up b.Guests g y) j gZ);by_cases a:g=j;{subst a;rw[zbc hg,<- e];exact k};{rw [zbs (zC.1 hg).1 (zC.1 c).1 a];exact(zh7 h).g j c}
theorem zqB {b:Bare}(h:zbK b=true){g:Int}{c:Bool}{y:Guest}(k:hasB g (ln b.Guests)=true->c=true->GOk (gAt b g)->GKeep (gAt b g) y):BackOk b (chg b g c y):=by unfold chg zcd;rw[h,cond_true];cases hg:hasB g (ln b.Guests) with|false=>exact zh7 h|true=>rw[cond_true];(cases c with|false=>exact zh7 h|true=>refine zYM h hg (k hg rfl ?_);have:=(zh7 h).g g hg;unfold gAt;rw[hg];exact this.ok)
theorem zpy {h:Host}(S:Safe h)(m:Int){F:Bare->Bare}(d:∀b,zbK b=true->BackOk b (F b))(c:F ⟨[],[],[],0⟩=⟨[],[],[],0⟩):SimT h (zgN h m<|F<|zA h m) m F:=by unfold zgN zcH;rw[ziT.2 S.ok,cond_true];cases a:hasB m (ln h.Mons) with|false=>refine(SimT.refl S m).congr ?_;rw[seen_none a];exact c.symm|true=>exact(z2S S a<|d _<|zwI S.ok a).congr rfl
theorem zkY {h:Host}(S:Safe h)(m:Int){t:Bare->Bool}(a:t ⟨[],[],[],0⟩=false):zgO h m (t<|zA h m)=t (zA h m):=by unfold zgO zcH;rw[ziT.2 S.ok,cond_true];cases b:hasB m (ln h.Mons) with|false=>rw[cond_false,seen_none b,a]|true=>rfl
theorem zpg (g:Int)(c:Bool)(y:Guest):chg ⟨[],[],[],0⟩ g c y=⟨[],[],[],0⟩:=by unfold chg;rw[zsy zsl];rfl
theorem zjt (g:Int)(c:Bool):zcb ⟨[],[],[],0⟩ g c=false:=by unfold zcb;rw[zsy zsl];rfl
theorem zTx {t:List Slot}{n q:Int}(h:zcJ t n q=true){p:Int}{s:Slot}(b:zdT s q=true):zcJ (zeA t p s) n q=true:=by
 unfold zeA;cases hasB p (ln t) with
 |false=>exact h
 |true=>rw[cond_true];rw[zmx]at h ⊢;rw[zdZ];refine⟨λx c=>?_,h.2⟩;rcases q0 c with a|a;{exact h.1 x a};{rw [a];exact b}
theorem z6m {x:Guest}(X:GOk x){p:Int}{s:Slot}(h:zvk p s=true):GKeep x (zBt x p s):=by unfold zvk at h;rw[zb9]at h;exact⟨⟨X.prog,X.a,X.pc,zTx X.w h.2,X.l,X.ctl,X.pend,X.ex,X.seen⟩,rfl⟩
theorem z6j {x:Guest}(X:GOk x){v:Int}(h:zuW x v=true):GKeep x (zwW x v):=by unfold zuW at h;rw[zb9]at h;unfold zwW;cases ieq x.Exit.Kind 2 with|true=>rw[cond_true];have b:=zjy (zXq X h.1) (e:=zkO) rfl;have a:=zjx b.ok;exact⟨a.ok,a.live⟩|false=>rw[cond_false];have b:=zjy X (e:=zkO) rfl;have a:=zjx b.ok;exact⟨a.ok,a.live.trans b.live⟩
theorem z6l {x:Guest}(X:GOk x):GKeep x (zxL x):=by unfold zxL;have a:=zjy X (e:=zkO) rfl;cases ieq x.Exit.Kind 1 with|true=>exact a|false=>have b:=zVM a.ok;exact⟨b.ok,b.live.trans a.live⟩
theorem zVN {x:Guest}(X:GOk x)(n:Int):GKeep x (znU x n):=zVO X (zOi X.pend n)
theorem z6k {x:Guest}(X:GOk x){c:Ctl}(h:zlm c=true):GKeep x (zKx x c):=⟨⟨X.prog,X.a,X.pc,X.w,X.l,h,X.pend,X.ex,X.seen⟩,rfl⟩
theorem zz3 (n:Int):∀(d:List Int) (b:Bare) (l:List Guest),(∀k∈d,hasB k (ln b.Guests)=true)->BackOk b {b with Guests:=l}->BackOk b {b with Guests:=zlA n d l}
 |[],b,l,_,h=>h
 |k::d,b,l,q,h=>by show BackOk b {b with Guests:=zlA n d (zCa n l k)};refine zz3 n d b _ (λj a=>q j (qR _ a)) ⟨h.m,h.o,by show (up l k _).length=_;rw[zbH];exact h.n,λj a=>?_,h.p⟩;show GKeep _ (ix (up l k _) j gZ);have r:l.length=b.Guests.length:=h.n;have c:hasB k (ln l)=true:=(by unfold ln;rw[r];exact q k qY);by_cases e:k=j;{subst e;rw[zbc c];have f:=h.g k a;have i:=zVN f.ok n;exact⟨i.ok,i.live.trans f.live⟩};{rw [zbs (zC.1 c).1 (zC.1 a).1 e];exact h.g j a}
theorem zWO {b:Bare}(h:zbK b=true)(n:Int):BackOk b (zkn b n):=by
 unfold zkn zfW zCb;rw[h,cond_true];cases hasB n 8 with
 |false=>exact zh7 h
 |true=>
  rw[cond_true];cases ieq (ln<|zev b.Guests n) 0 with
  |true=>have:=zh7 h;exact⟨rfl,rfl,rfl,this.g,λc=>zOi c n⟩
  |false=>rw[cond_false];refine zz3 n _ b b.Guests (λk a=>?_) (zh7 h);unfold zev at a;obtain⟨j,e,rfl,_⟩:=(zF0 (d:=gZ)).1 a;exact zC.2 ⟨by omega,by unfold ln;omega⟩
theorem zYL {b:Bare}(h:zbK b=true):BackOk b (zmS b):=by unfold zmS;rw[h,cond_true];exact⟨rfl,rfl,rfl,(zh7 h).g,λa=>zOj a⟩
theorem z2F {h:Host}(S:Safe h)(m p c v:Int):SimT h (zjz h m p c v) m (λb=>zQf b p c v)/\zfa h m p c v=zwc (zA h m) p c v:=by have e:zfa h m p c v=zwc (zA h m) p c v:=(by unfold zfa zwc zb1 z5a;rw[ziT.2 S.ok,cond_true];cases d:hasB m (ln h.Mons) with|false=>rw[seen_none d,zsl];rfl|true=>rw[zwI S.ok d,cond_true];rfl);refine⟨?_,e⟩;unfold zjz;cases f:zfa h m p c v with|false=>refine(SimT.refl S m).congr ?_;unfold zQf;rw[<- e,f];rfl|true=>rw[cond_true];have a:=f;unfold zfa at a;rw[zb9,zb9]at a;obtain⟨k,_,_⟩:=a;obtain⟨_,d,j⟩:=zkU.1 k;have M:=zOb S.ok (m:=m) (p:=p) 2 d j;have i:=M.op.sim S m;have g:hasB m (ln (mended h m p 2).Mons)=true:=(by rw[i.has];exact d);obtain⟨l,_⟩:=zuJ i.safe g j rfl M.inn c v;refine(i.trans l).congr ?_;unfold zQf;rw[<- e,f];rfl
theorem zZ0 {h:Host}(S:Safe h)(m g b a:Int):zbO h m g b a=(cond (zcd (zA h m) g) (cond (zf8 a) (zez (gAt (zA h m) g).Live b a) false) false):=by have e:zbJ h m g=zcd (zA h m) g:=(by unfold zbJ zcd;rw[ziT.2 S.ok,cond_true];cases c:hasB m (ln h.Mons) with|false=>rw[seen_none c,zsl,cond_false,cond_false]|true=>rw[cond_true,zwI S.ok c,cond_true];have:(zA h m).Guests=(ix h.Mons m mZ).Guests:=(by rw[zfF c]);rw[this]);unfold zbO;rw[<- e];cases hg:zbJ h m g with|false=>rw[cond_false,cond_false]|true=>obtain⟨_,c,hg⟩:=zjT.1 hg;have:(gAt (zA h m) g).Live=zcj h m g:=(by rw[zsL c hg];rfl);rw[this]
theorem zFc {h:Host}(S:Safe h)(m g a n:Int)(b:n=1\/n=2):znJ (zA h m) g a n=bif zi a 0 15 then zbO h m g (zbb a) n else false:=by rw[zZ0 S];unfold znJ;rw[zEd.2 b,cond_true];cases zcd (zA h m) g<;>cases zi a 0 15<;>rfl
theorem zRg {h:Host}(S:Safe h){m g a n:Int}(f:n=1\/n=2)(b:znJ (zA h m) g a n=true) :
 Looked h (zAF h m g a n).1 m g (zbb a) n (zBQ (zA h m) g a n) (zAF h m g a n).2.1/\hasB m (ln h.Mons)=true/\hasB (zBQ (zA h m) g a n) 8=true:=by
 rw[zFc S m g a n f,zb9]at b;obtain⟨L,_⟩:=zAW S true b.2 S.rt.e2;obtain⟨d,_,i⟩:=zp8.1 b.2;obtain⟨_,c,hg⟩:=zjT.1 d;have e:zBQ (zA h m) g a n=zb4 (zcj h m g) (zbb a) n:=by unfold zBQ;rw[zsL c hg];rfl
 rw[e];exact⟨L,c,(walked (S.ok.guest c hg) i).q8⟩
theorem z7L {h:Host}(S:Safe h)(m g a v:Int):SimT h (zlt h m g a v) m (λb=>zXe b g a v)/\zgy h m g a v=zxa (zA h m) g a v:=by have e:zgy h m g a v=zxa (zA h m) g a v:=(by unfold zgy zxa;rw[zFc S m g a 2 (.inr rfl)];cases zi a 0 15<;>cases zi v 0 99<;>cases zbO h m g (zbb a) 2<;>rfl);refine⟨?_,e⟩;unfold zlt;cases c:zgy h m g a v with|false=>refine(SimT.refl S m).congr ?_;unfold zXe;rw[<- e,c];rfl|true=>rw[cond_true];have f:znJ (zA h m) g a 2=true:=(by have:=e.symm.trans c;unfold zxa at this;exact(zb9.1 this).1);obtain⟨L,i,j⟩:=zRg S (.inr rfl) f;have d:=L.op.sim S m;obtain⟨k,_⟩:=zuJ d.safe (by rw[d.has];exact i) j L.inn L.ne (zdh a) v;refine(d.trans k).congr ?_;unfold zXe;rw[<- e,c];rfl
theorem z6O {h:Host}(S:Safe h)(m g a:Int):SimT h (zjA h m g a) m id/\zfJ h m g a=znJ (zA h m) g a 1/\zqO h m g a=zQj (zA h m) g a:=by have e:zfJ h m g a=znJ (zA h m) g a 1:=(by unfold zfJ;rw[zFc S m g a 1 (.inl rfl)]);unfold zjA zqO zQj;rw[e];cases d:znJ (zA h m) g a 1 with|false=>exact⟨SimT.refl S m,rfl,rfl⟩|true=>obtain⟨L,f,i⟩:=zRg S (.inl rfl) d;have b:=L.op.sim S m;obtain⟨_,c⟩:=zuJ b.safe (by rw[b.has];exact f) i L.inn L.ne (zdh a) 0;rw[L.op.like.seen m] at c;exact⟨b,rfl,c⟩
theorem zZM {k:Kept}{a b:List Slot}(h:KOk k a b)(p:Int)(s:Slot):KOk (zbR k p) (zeA a p s) b:=by have j:=zkE k p;have f:(zeA a p s).length=a.length:=(by unfold zeA;cases hasB p (ln a)<;>simp [zbH]);refine⟨by rw[j.1,f,h.l1],by rw[j.2,f,h.l2],λi l=>?_⟩;have c:hasB i (ln a)=true:=(by unfold ln at l ⊢;rwa [<- f]);have d:hasB i (ln k.Known)=true:=(by unfold ln at c ⊢;rwa [h.l1]);have g:=zu3 (q:=p) (by rw[h.l1,h.l2]) d;rw[g.1,g.2];by_cases e:p=i;{subst e;rw[zbk.2 rfl];rfl};{rw [zbN.2 e,cond_false,cond_false,h.at' i c];have:ix (zeA a p s) i sZ=ix a i sZ:=(by unfold zeA;cases m:hasB p (ln a) with|false=>rfl|true=>exact zbs (zC.1 m).1 (zC.1 c).1 e _ _);rw[this]}
theorem z8n {t m g:Int}(a:zcy t=m)(b:zdF t=g)(c:0<=m):t=zd8 m g:=by subst a;subst b;by_cases h:1<=t/\t<=6;{have e:t=1\/t=2\/t=3\/t=4\/t=5\/t=6:=(by omega);rcases e with rfl|rfl|rfl|rfl|rfl|rfl<;>decide};{exfalso;have:zcy t = -1:=(by unfold zcy ige ile;rw[show (decide (t≥1)&&decide (t<=6))=false by simp;omega];rfl);omega}
theorem zVf {t:List Slot}{p q:Int}{s:Slot}(h:q≠p):zbn (zeA t p s) q=zbn t q:=by unfold zeA;cases a:hasB p (ln t) with|false=>rfl|true=>exact zOt (zC.1 a).1 h
theorem z2T {t:List Slot}(h:zcJ t 4 8=true)(p:Int):zdT (zbn t p) 8=true:=by unfold zbn;cases a:hasB p (ln t) with|false=>rfl|true=>exact(zmx.1 h).1 _ (zlv a _)
theorem zZB {x:Guest}(X:GOk x)(p:Int):GOk (zeb x p):=⟨X.prog,X.a,X.pc,X.w,zTx X.l<|z2T X.w p,X.ctl,X.pend,X.ex,X.seen⟩
theorem z1Z {h:Host}(S:Safe h)(m g p:Int):SimT h (zib h m g p) m (λb=>chg b g (hasB p 4) (zeb (gAt b g) p))/\zgO h m (zcb (zA h m) g<|hasB p 4)=zcb (zA h m) g (hasB p 4):=by
 refine⟨?_,zkY S m (t:=λb=>zcb b g (hasB p 4))<|zjt g _⟩;unfold zib zcH;rw[ziT.2 S.ok,cond_true];cases a:hasB m (ln h.Mons) with
 |false=>refine(SimT.refl S m).congr ?_;rw[seen_none a,zpg];rfl
 |true=>
  rw[cond_true];cases w:zcb (zA h m) g (hasB p 4) with
  |false=>refine(SimT.refl S m).congr ?_;show zA h m=chg (zA h m) g (hasB p 4) (zeb (gAt (zA h m) g) p);have c:=w;unfold zcb at c;unfold chg;rw[c];rfl
  |true=>rw[cond_true];have c:=w;unfold zcb zcd at c;rw[zwI S.ok a,cond_true,zb9,zfF a]at c;have hg:hasB g (ln (ix h.Mons m mZ).Guests)=true:=c.1;have X:=S.ok.mon a;have G:=S.ok.seenG a hg;have C:chg (zA h m) g (hasB p 4) (zeb (gAt (zA h m) g) p)=zdS (zA h m) g (zeb (gOf h m g) p):=(by have l:=w;unfold zcb at l;unfold chg;rw[l,zsL a hg];rfl);rw[C];have B:hasB g (ln (ix h.Mons m mZ).Tables)=true:=(by unfold ln;rw[X.gt];exact hg);have s:(zAh (zc8 h m<|zdS (zA h m) g<|zeb (gOf h m g) p) m g p).Mons=up h.Mons m {ix h.Mons m mZ with Guests:=up (ix h.Mons m mZ).Guests g (zeb (gOf h m g) p),Tables:=up (ix h.Mons m mZ).Tables g (zbR (ix (ix h.Mons m mZ).Tables g kZ) p)}:=(by show up (up h.Mons m _) m _=_;rw[z00];have D:ix (zc8 h m<|zdS (zA h m) g<|zeb (gOf h m g) p).Mons m mZ=ztO (ix h.Mons m mZ) (zdS (zA h m) g<|zeb (gOf h m g) p):=zbc a _ _;rw[D];unfold ztO zdS;rw[zfF a]);have kp:KeepP (ix h.Mons m mZ) {ix h.Mons m mZ with Guests:=up (ix h.Mons m mZ).Guests g (zeb (gOf h m g) p),Tables:=up (ix h.Mons m mZ).Tables g (zbR (ix (ix h.Mons m mZ).Tables g kZ) p)}:=⟨rfl,rfl⟩;have K:MOk {ix h.Mons m mZ with Guests:=up (ix h.Mons m mZ).Guests g (zeb (gOf h m g) p),Tables:=up (ix h.Mons m mZ).Tables g (zbR (ix (ix h.Mons m mZ).Tables g kZ) p)}:=zkK X kp (zbH _ _ _) (zbH _ _ _) rfl X.outs X.pend X.tr X.own λz L=>(by rcases q0 L with h|h;{exact X.gs z h};{rw [h];exact zsg.2 (zZB G p)});have E:HOk (zAh (zc8 h m<|zdS (zA h m) g<|zeb (gOf h m g) p) m g p):=S.ok.up a K s S.ok.m12 S.ok.pgs (zw1 S.ok.b1 _) (zw1 S.ok.b2 _) λq _=>.inl (qX _);have u:∀b:List Entry,(∀e∈b,zcc h e=true)->∀e∈zcp b (zd8 m g) p,zcc (zAh (zc8 h m<|zdS (zA h m) g<|zeb (gOf h m g) p) m g p) e=true:=(by intro b F e H;obtain⟨x,y⟩:=zxf.1 H;obtain⟨l,n,r⟩:=zfm.1 (F e x);rw[zfm,s,zdZ];refine⟨l,?_⟩;by_cases d:m=zcy e.Tag;{rw [<- d]at l n r ⊢;rw[zbc a];show hasB (zdF e.Tag) (ln<|up _ _ _)=true/\below' _ (zbf (zbn (ix (up (ix h.Mons m mZ).Guests g _) (zdF e.Tag) gZ).Live e.Page) (ix h.Mons m mZ).Outer)=true;rw[zdZ];refine⟨n,?_⟩;by_cases f:g=zdF e.Tag;{rw [<- f]at n r ⊢;rw[zbc hg];have A:e.Page≠p:=λJ=>y ⟨z8n d.symm f.symm (zC.1 a).1,J⟩;show below' _ (zbf (zbn (zeA (gOf h m g).Live p _) e.Page) _)=true;rw[zVf A];exact r};{rw [zbs (zC.1 hg).1 (zC.1 n).1 f];exact r}};{rw [zbs (zC.1 a).1 (zC.1 l).1 d];exact⟨n,r⟩});refine⟨⟨E,⟨λi v=>?_,u _ S.rt.e1,u _ S.rt.e2⟩⟩,λi=>?_,by rw[s,zbH]⟩;{rw [s]at v ⊢;rw[zdZ]at v;by_cases d:m=i;{subst d;rw[zbc a];intro j I;show KOk (ix (up (ix h.Mons m mZ).Tables g _) j kZ) (ix (up (ix h.Mons m mZ).Guests g _) j gZ).Live (ix h.Mons m mZ).Outer;have k:hasB j (ln (ix h.Mons m mZ).Guests)=true:=(by have:hasB j (ln<|up (ix h.Mons m mZ).Guests g<|zeb (gOf h m g) p)=true:=I;rwa [zdZ] at this);by_cases e:g=j;{subst e;rw[zbc B,zbc hg];exact zZM (S.rt.t m a g hg) p _};{rw [zbs (zC.1 hg).1 (zC.1 k).1 e,zbs (zC.1 hg).1 (zC.1 k).1 e];exact S.rt.t m a j k}};{rw [zbs (zC.1 a).1 (zC.1 v).1 d];exact S.rt.t i v}};{refine(zts (h:=h) a s rfl kp i).trans ?_;by_cases e:i=m;{subst e;rw[zbk.2 rfl,cond_true,cond_true,C,zfF a];rfl};{rw [zbN.2 e];rfl}}
theorem zOE (g:Int):zd4 ⟨[],[],[],0⟩ g=⟨[],[],[],0⟩/\zga ⟨[],[],[],0⟩ g=false:=by have:zga ⟨[],[],[],0⟩ g=false:=(by unfold zga;rw[zVY];rfl);refine⟨?_,this⟩;unfold zd4;rw[this];rfl
theorem z2a {h:Host}(S:Safe h)(a:GAct):SimT h (zqP h a) a.M (λb=>zHs b a)/\zAD h a=zHt (zA h a.M) a:=by
 have f:=zsl;unfold zqP zAD zHs zHt;cases ieq a.Kind 1 with
 |true=>obtain⟨k,e⟩:=step_ok S a.M a.G;exact⟨k,by rw[cond_true,cond_true,e]⟩
 |false=>
  simp only[cond_false];cases ieq a.Kind 2 with
  |true=>
   exact⟨zpy S a.M (F:=λb=>chg b a.G (zvk a.X ⟨a.Y,a.Z⟩) (zBt (gAt b a.G) a.X ⟨a.Y,a.Z⟩)) (λb c=>zqB c λ_ d G=>z6m G d)<|zpg _ _ _,
    congrArg (λt=>Told.mk t 0) (zkY S a.M (t:=λb=>zcb b a.G (zvk a.X ⟨a.Y,a.Z⟩))<|zjt _ _)⟩
  |false=>
   simp only[cond_false];cases ieq a.Kind 3 with
   |true=>obtain⟨k,e⟩:=z1Z S a.M a.G a.X;exact⟨k,congrArg (λt=>Told.mk t 0) e⟩
   |false=>
    simp only[cond_false];cases ieq a.Kind 4 with
    |true=>
     exact⟨zpy S a.M (F:=λb=>chg b a.G (zuW (gAt b a.G) a.X) (zwW (gAt b a.G) a.X)) (λb c=>zqB c λ_ d G=>z6j G d)<|zpg _ _ _,
      congrArg (λt=>Told.mk t 0) (zkY S a.M (t:=λb=>zcb b a.G (zuW (gAt b a.G) a.X))<|zjt _ _)⟩
    |false=>
     simp only[cond_false];cases ieq a.Kind 5 with
     |true=>
      exact⟨zpy S a.M (F:=λb=>chg b a.G (zA8<|gAt b a.G) (zxL<|gAt b a.G)) (λb c=>zqB c λ_ _ G=>z6l G)<|zpg _ _ _,
       congrArg (λt=>Told.mk t 0) (zkY S a.M (t:=λb=>zcb b a.G (zA8<|gAt b a.G))<|zjt _ _)⟩
     |false=>
      simp only[cond_false];cases ieq a.Kind 6 with
      |true=>
       exact⟨zpy S a.M (F:=λb=>chg b a.G (zhO (gAt b a.G).Pending a.X) (znU (gAt b a.G) a.X)) (λb c=>zqB c λ_ _ G=>zVN G _)<|zpg _ _ _,
        congrArg (λt=>Told.mk t 0) (zkY S a.M (t:=λb=>zcb b a.G (zhO (gAt b a.G).Pending a.X))<|zjt _ _)⟩
      |false=>
       simp only[cond_false];cases ieq a.Kind 7 with
       |true=>
        exact⟨zpy S a.M (F:=λb=>chg b a.G (zlm ⟨a.X,a.Y,ieq a.Z 1⟩) (zKx (gAt b a.G) ⟨a.X,a.Y,ieq a.Z 1⟩)) (λb c=>zqB c λ_ d G=>z6k G d)<|zpg _ _ _,
         congrArg (λt=>Told.mk t 0) (zkY S a.M (t:=λb=>zcb b a.G (zlm ⟨a.X,a.Y,ieq a.Z 1⟩))<|zjt _ _)⟩
       |false=>
        simp only[cond_false];cases ieq a.Kind 8 with
        |true=>obtain⟨k,e⟩:=z2F S a.M a.X a.Y a.Z;exact⟨k,congrArg (λt=>Told.mk t 0) e⟩
        |false=>
         simp only[cond_false];cases ieq a.Kind 9 with
         |true=>
          exact⟨zpy S a.M (F:=λb=>zkn b a.X) (λb c=>zWO c _) (by unfold zkn zfW;rw[f];rfl),
           congrArg (λt=>Told.mk t 0) (zkY S a.M (t:=λb=>zfW b a.X) (by unfold zfW;rw[f];rfl))⟩
         |false=>
          simp only[cond_false];cases ieq a.Kind 10 with
          |true=>refine⟨zpy S a.M (F:=zmS) (λb c=>zYL c) (by unfold zmS;rw[f];rfl),?_⟩;have e:=zkY S a.M (t:=zmz) (by unfold zmz;rw[f];rfl);show Told.mk (zgO h a.M<|zmz<|zA h a.M) (cond (zcH h a.M) (zsx<|zA h a.M)<|-1)=⟨zmz<|zA h a.M,zsx<|zA h a.M⟩;rw[e];congr 1;unfold zcH;rw[ziT.2 S.ok,cond_true];cases j:hasB a.M (ln h.Mons) with|true=>rfl|false=>rw[seen_none j];unfold zsx;rw[f];rfl
          |false=>
           simp only[cond_false];cases ieq a.Kind 11 with
           |true=>obtain⟨k,e⟩:=z7L S a.M a.G a.X a.Y;exact⟨k,congrArg (λt=>Told.mk t 0) e⟩
           |false=>obtain⟨k,g,i⟩:=z6O S a.M a.G a.X;exact⟨k,by simp only[cond_false];rw[g,i]⟩
theorem z2w {h:Host}(S:Safe h)(a:GAct):Safe (zkQ h a)/\(∀i,zA (zkQ h a) i=zA h i)/\(zkQ h a).Mons.length=h.Mons.length:=by
 unfold zkQ;have k:∀r,Op h r->Safe r/\(∀i,zA r i=zA h i)/\r.Mons.length=h.Mons.length:=λr k=>⟨k.safe S,λi=>k.like.seen i,k.like.len⟩;cases ieq a.Kind 13 with
 |true=>exact k _ (zJs S.ok _ _)
 |false=>
  simp only[cond_false];cases ieq a.Kind 14 with
  |true=>exact k _ (z0e S.ok _ _)
  |false=>
   simp only[cond_false];cases ieq a.Kind 15 with
   |true=>exact k _ (z0d S.ok _ _)
   |false=>
    simp only[cond_false];cases ieq a.Kind 16 with
    |true=>obtain⟨b,c⟩:=zPR S a.M a.X;refine⟨b,c,?_⟩;simp only[cond_true];unfold zhR;cases zbM h<;>cases hasB a.M (ln h.Mons)<;>cases zi a.X 0 3<;>first|rfl|exact zbH _ _ _
    |false=>exact k _ (z6H S.ok)
def zkm (a:GAct):Bool:=bif zi a.Kind 1 17 then !zi a.Kind 13 17 else false
theorem zQy {h:Host}(S:Safe h)(a:GAct):Safe (zep h a)/\(zep h a).Mons.length=h.Mons.length/\
 (∀i,zA (zep h a) i=bif (cond (zkm a) (ieq i a.M) false) then zHs (zA h i) a else zA h i)/\(zkm a=true->ziH h a=zHt (zA h a.M) a):=by
 unfold zep ziH zkm;cases zi a.Kind 1 17 with
 |false=>exact⟨S,rfl,λ_=>rfl,λe=>by cases e⟩
 |true=>
  simp only[cond_true];cases zi a.Kind 13 17 with
  |true=>obtain⟨b,c,d⟩:=z2w S a;exact⟨b,d,λi=>by simp only[cond_true,kC,cond_false];exact c i,λe=>by cases e⟩
  |false=>obtain⟨k,e⟩:=z2a S a;exact⟨k.safe,k.len,λi=>by simp only[cond_false,kS,cond_true];exact k.seen i,λ_=>e⟩
def zbU (h:Host):List Bare:=(List.range h.Mons.length).map λ(i:Nat)=>zA h (i:Int)
theorem zhd (h:Host):(zbU h).length=h.Mons.length:=by simp[zbU]
theorem zl6 (h:Host)(m:Int):hasB m (ln<|zbU h)=hasB m (ln h.Mons):=by unfold ln;rw[zhd]
theorem zh5 {h:Host}{m:Int}(c:hasB m (ln h.Mons)=true)(d:Bare):ix (zbU h) m d=zA h m:=by have a:=zC.1 c;unfold ln at a;have b:m.toNat<(zbU h).length:=(by rw[zhd];omega);have:=ziY b d;rw[show ((m.toNat:Nat):Int)=m by omega] at this;rw[this];simp[zbU,show max m 0=m by omega]
theorem zwV {h r:Host}(a:r.Mons.length=h.Mons.length)(e:∀i,zA r i=zA h i):zbU r=zbU h:=by unfold zbU;rw[a];exact List.map_congr_left λi _=>e _
theorem zUa {h:Host}(S:Safe h)(a:GAct):zbU (zep h a)=zHu (zbU h) a/\(zkm a=true->ziH h a=zWN (zbU h) a):=by obtain⟨_,k,l,t⟩:=zQy S a;have p:zkm a=true->zbU (zep h a)=(cond (hasB a.M<|ln h.Mons) (up (zbU h) a.M<|zHs (zA h a.M) a)<|zbU h):=(by intro b;rw[b]at l;cases f:hasB a.M (ln h.Mons) with|false=>rw[cond_false];refine zMs ⟨[],[],[],0⟩ (by rw[zhd,zhd,k]) λi c=>?_;rw[zl6]at c;rw[zh5 c];have d:hasB i (ln h.Mons)=true:=(by unfold ln at c ⊢;rwa [<- k]);rw[zh5 d,l i];have:ieq i a.M=false:=zbN.2 λe=>(by rw[e,f]at d;cases d);rw[this];rfl|true=>rw[cond_true];refine zMs ⟨[],[],[],0⟩ (by rw[zbH,zhd,zhd,k]) λi c=>?_;rw[zl6]at c;rw[zh5 c,l i];have d:hasB i (ln h.Mons)=true:=(by unfold ln at c ⊢;rwa [<- k]);by_cases e:i=a.M;{rw [e,zbk.2 rfl,zbc (by rw[zl6];exact f)];rfl};{rw [zbN.2 e,zbs (zC.1 f).1 (zC.1 d).1<|Ne.symm e,zh5 d];rfl});have s:zkm a=false->zbU (zep h a)=zbU h:=λb=>zwV k λi=>(by rw[l i,b];rfl);have r:zkm a=true->zi a.Kind 1 17=true/\zi a.Kind 13 17=false:=(by intro b;unfold zkm at b;cases g:zi a.Kind 1 17<;>cases j:zi a.Kind 13 17<;>rw [g,j]at b<;>first|exact⟨rfl,rfl⟩|cases b);constructor;{unfold zHu;cases b:zkm a with|true=>obtain⟨g,j⟩:=r b;rw[g,j,cond_true,cond_false,zl6,p b];(cases f:hasB a.M (ln h.Mons) with|true=>rw[cond_true,cond_true,zh5 f]|false=>rfl)|false=>rw[s b];unfold zkm at b;(cases g:zi a.Kind 1 17 with|false=>rfl|true=>(cases j:zi a.Kind 13 17 with|true=>rfl|false=>rw[g,j]at b;cases b))};{intro b;rw[t b];obtain⟨g,j⟩:=r b;unfold zWN;rw[g,j,cond_true,cond_false,zl6];cases f:hasB a.M (ln h.Mons) with|true=>rw[cond_true,zh5 f]|false=>rw[cond_false,seen_none f];have n:=(zOE a.G).2;have q:=zsl;unfold zHt;simp only[n,zjt];unfold zwc zfW zmz zsx zxa zQj znJ;simp only[q,zsy q,cond_false];(cases m:ieq a.Kind 10 with|true=>have:a.Kind=10:=zbk.1 m;rw[this];rfl|false=>cases ieq a.Kind 1<;>cases ieq a.Kind 2<;>cases ieq a.Kind 3<;>cases ieq a.Kind 4<;>cases ieq a.Kind 5<;>cases ieq a.Kind 6<;>cases ieq a.Kind 7<;>cases ieq a.Kind 8<;>cases ieq a.Kind 9<;>cases ieq a.Kind 11<;>rfl)}
def zIV:List GAct->List Told->List Told
 |a::l,t::ts=>bif zkm a then t::zIV l ts else zIV l ts
 |_,_=>[]
structure Live (u:Host×List Told) (v:List Bare×List Told):Prop where
 safe:Safe u.1
 seen:zbU u.1=v.1
def zBF:List GAct->Host->List Told
 |[],_=>[]
 |a::l,h=>ziH h a::zBF l (zep h a)
def z0Y:List GAct->List Bare->List Told
 |[],_=>[]
 |a::l,b=>zWN b a::z0Y l (zHu b a)
def ztU:List GAct->Host->Host
 |[],h=>h
 |a::l,h=>ztU l (zep h a)
def z1V:List GAct->List Bare->List Bare
 |[],b=>b
 |a::l,b=>z1V l (zHu b a)
theorem zWf:∀(l:List GAct) (u:Host×List Told),zxN l u=(ztU l u.1,u.2++zBF l u.1)
 |[],u=>by simp[zxN,ztU,zBF]
 |a::l,u=>by rw[zxN,zWf l];simp[ztU,zBF,ap]
theorem zZq:∀(l:List GAct) {h:Host},Safe h->Safe (ztU l h)/\zbU (ztU l h)=z1V l (zbU h)/\zIV l (zBF l h)=zIV l (z0Y l<|zbU h)/\(ztU l h).Mons.length=h.Mons.length
 |[],h,S=>⟨S,rfl,rfl,rfl⟩
 |a::l,h,S=>by have d:=zQy S a;have b:=zUa S a;obtain⟨e,f,c,g⟩:=zZq l d.1;refine⟨e,by show zbU (ztU l<|zep h a)=z1V l (zHu (zbU h) a);rw[f,b.1],?_,g.trans d.2.1⟩;show (cond (zkm a) _ _)=(cond (zkm a) _ _);cases i:zkm a with|false=>rw[cond_false,cond_false,c,b.1]|true=>rw[cond_true,cond_true,c,b.1,b.2 i]
theorem cz8 (q:Int)(b:0<=q):ztv.countP (λs=>ieq s.Page q)=0:=by rw[vE];intro s a;have:=(uS.1 a).2;rw[this];show ¬ ieq (-1) q=true;rw[zbk];omega
theorem zUr {p:List Ins}(h:zdv p=true):GOk (zfh p):=⟨h,rfl,rfl,rfl,rfl,rfl,rfl,rfl,rfl⟩
theorem zZ7 {a:List (List Ins)}(i:1<=a.length)(h:∀p∈a,zdv p=true):MOk (zg4 a):=by have d:∀s∈ztv,s=noSlot:=λs c=>(uS.1 c).2;refine⟨?_,?_,?_,rfl,λs c=>.inl (d s c),rfl,rfl,jS _,rfl,rfl,rfl,λg hg=>?_,λp b=>?_⟩;{show 1<=((a.take 2).map zfh).length;simp;omega};{show ((a.take 2).map zfh).length<=2;simp;omega};{show ((a.take 2).map λ_=>zj7).length=((a.take 2).map zfh).length;simp};{obtain⟨p,b,rfl⟩:=jA.1 hg;exact zsg.2 (zUr<|h p<|jX b)};{have f:=zC.1 b;have e:p=0\/p=1\/p=2\/p=3\/p=4\/p=5\/p=6\/p=7:=(by omega);rcases e with rfl|rfl|rfl|rfl|rfl|rfl|rfl|rfl<;>rfl}
def z5m (a:List (List<|List Ins)):Prop:=1<=a.length/\∀p∈a,1<=p.length/\∀x∈p,zdv x=true
theorem zIS {a:List (List<|List Ins)}(h:z5m a):Safe (zfV a):=by have b:∀x∈(zfV a).Mons,∃p∈a,x=zg4 p:=λx f=>(by obtain⟨p,j,rfl⟩:=jA.1 f;exact⟨p,jX j,rfl⟩);have u:∀x∈(zfV a).Mons,x.Outer=ztv:=λx f=>(by obtain⟨p,_,rfl⟩:=b x f;rfl);have H:HOk (zfV a):=(by refine⟨rfl,λc v=>?_,?_,?_,rfl,rfl,λx f=>?_,λq B=>?_⟩;{have:c=[0,0,0,0]:=(uS.1 v).2;rw[this];rfl};{show 1<=((a.take 3).map zg4).length;have:=h.1;simp;omega};{show ((a.take 3).map zg4).length<=3;simp;omega};{obtain⟨p,j,rfl⟩:=b x f;exact zZ7 (h.2 p j).1 (h.2 p j).2};{have:zeS (zfV a).Mons q=0:=(by unfold zeS;have:(zfV a).Mons.map (λx=>cPg x q)=(zfV a).Mons.map (λ_=>0):=List.map_congr_left λx f=>(by unfold cPg;rw[u x f];exact cz8 q B);rw[this];generalize (zfV a).Mons=l;induction l with|nil=>rfl|cons x l D=>rw[q9,uO,D]);omega});refine⟨H,λm A g hg=>?_,λe r=>(by cases r),λe r=>(by cases r)⟩;obtain⟨p,j,e⟩:=b _ (zlv A mZ);rw[e]at hg ⊢;have d:hasB g (ln<|(p.take 2).map zfh)=true:=hg;have C:ix (zg4 p).Tables g kZ=zj7:=(by have:hasB g (ln<|(p.take 2).map λ_=>zj7)=true:=(by unfold ln at d ⊢;simpa using d);obtain⟨k,y,_,n⟩:=zt7 this kZ;show ix ((p.take 2).map λ_=>zj7) g kZ=_;rw[n];simp);have z:(ix (zg4 p).Guests g gZ).Live=zk9:=(by obtain⟨k,y,_,n⟩:=zt7 d gZ;show (ix ((p.take 2).map zfh) g gZ).Live=_;rw[n];simp[zfh]);rw[C,z];show KOk zj7 zk9 ztv;refine⟨rfl,rfl,λi w=>?_⟩;have s:=zC.1 w;have:ln zk9=4:=rfl;rw[this]at s;have t:i=0\/i=1\/i=2\/i=3:=(by omega);rcases t with rfl|rfl|rfl|rfl<;>rfl
def z4w:zV:=[(281,zqi),(282,zk0),(280,zro)]++zQU
theorem zw7:zL z4w:=zh zrf (zh zvU<|zh zt5 zgb)
theorem zpl (l:List Int):eqI l l=true:=by unfold eqI;induction l with|nil=>rfl|cons x l a=>rw[all2,ziu,a];rfl
def zjY (x y:List Slot):Bool:=pc (x=y)
def zkb (_ _:List Slot):Bool:=true
def zus:Run:=rF2 (dS .slot) (dS .slot) λb c=>(zjY b c,[aB<|zkb b c])
def zyk (N:Nat)(b c:lS):OA:=
 (cond (ine (ln b)<|ln c) oF<|iter (σ:=(Int×lS×lS×Unit)) N (λf a=>let e:=ix a.2.1 a.1 zN;let d:=ix a.2.2.1 a.1 zN; (cond (ilt a.1<|ln a.2.1) (oN (inb a.1<|ln a.2.1)<|oN (inb a.1<|ln a.2.2.1)<|cond (nB<|cond (ieq e.Page d.Page) (ieq e.Rights d.Rights) false) oF<|f (zI .i64 a.1 1,a.2.1,a.2.2.1,())) oT)) (0,b,c,()))
def zKh:=zx [(380,0,{n:=26,tm:=[(0,.sl 0 []),(1,.sl 1 []),(5,ti)],lo:=[],ro:=[(0,.slot,false),(1,.slot,false)]})]
theorem zJh (a b:List Slot)(d:zbB big [aS .slot a,aS .slot b])(e:zjY a b=true):∃N,zyk N a b=some [aB<|zkb a b]:=by
 have:=zJ.1 e;subst this;have f:=len0 d;refine⟨a.length+1,?_⟩;unfold zyk oN nB;conv=>zeta
 rw[zhM];refine zBU a zN _ _ f (λi c rec=>?_) (λrec=>?_) (kR _);{simp only [zbq c,zS c,zba c,zpl,zMA,zhM,ziu,zkz,cT,cF,kC,kS]};{simp only [zbl,cF,zkb]}
theorem zCB:vQ 380 zus:=hF2 zw7 zbh zo zu zKh zJh
def zoM (x y:List Ins):Bool:=pc (x=y)
def zoL (_ _:List Ins):Bool:=true
def zwy:Run:=rF2 (dS .ins) (dS .ins) λb c=>(zoM b c,[aB<|zoL b c])
def zzP (N:Nat)(b c:lI):OA:=
 (cond (ine (ln b)<|ln c) oF<|iter (σ:=(Int×lI×lI×Unit)) N (λf a=>let e:=ix a.2.1 a.1 zqz;let d:=ix a.2.2.1 a.1 zqz; (cond (ilt a.1<|ln a.2.1) (oN (inb a.1<|ln a.2.1)<|oN (inb a.1<|ln a.2.2.1)<|cond (nB<|cond (ieq e.Op d.Op) (ieq e.X d.X) false) oF<|f (zI .i64 a.1 1,a.2.1,a.2.2.1,())) oT)) (0,b,c,()))
def zMZ:=zx [(379,0,{n:=26,tm:=[(0,.sl 0 []),(1,.sl 1 []),(5,ti)],lo:=[],ro:=[(0,.ins,false),(1,.ins,false)]})]
theorem zMj (a b:List Ins)(d:zbB big [aS .ins a,aS .ins b])(e:zoM a b=true):∃N,zzP N a b=some [aB<|zoL a b]:=by
 have:=zJ.1 e;subst this;have f:=len0 d;refine⟨a.length+1,?_⟩;unfold zzP oN nB;conv=>zeta
 rw[zhM];refine zBU a zqz _ _ f (λi c rec=>?_) (λrec=>?_) (kR _);{simp only [zbq c,zS c,zba c,zpl,zMA,zhM,ziu,zkz,cT,cF,kC,kS]};{simp only [zbl,cF,zoL]}
theorem zFO:vQ 379 zwy:=hF2 zw7 zbh zo zu zMZ zMj
def zqr (x y:List (List Int)):Bool:=pc (x=y)
def zqY (_ _:List (List Int)):Bool:=true
def zyN:Run:=rF2 (dS<|.sl .int) (dS<|.sl .int) λb c=>(zqr b c,[aB<|zqY b c])
def zDE (N:Nat)(b:lM)(c:lM):OA:=
 (cond (ine (ln b)<|ln c) oF<|iter (σ:=(Int×lM×lM×Unit)) N (λd a=>cond (ilt a.1<|ln a.2.1) (oN (inb a.1<|ln a.2.1)<|oN (inb a.1<|ln a.2.2.1)<|oN (zhp (ix a.2.1 a.1 [])<|ix a.2.2.1 a.1 [])<|cond (nB<|zii (ix a.2.1 a.1 [])<|ix a.2.2.1 a.1 []) oF<|d (zI .i64 a.1 1,a.2.1,a.2.2.1,())) oT) (0,b,c,()))
def zPY:=zx [(278,0,{n:=27,tm:=[(0,.sl 0 []),(1,.sl 1 []),(5,ti)],lo:=[],ro:=[(0,.sl .int,false),(1,.sl .int,false)]})]
theorem zPB (a:List (List Int))(b:List (List Int))(d:zbB big [aS (.sl .int) a,aS (.sl .int) b])(e:zqr a b=true):∃N,zDE N a b=some [aB<|zqY a b]:=by have:=zJ.1 e;subst this;have f:=len0 d;refine⟨a.length+1,?_⟩;unfold zDE oN nB;rw[zhM];refine zBU a (Ty.dflt<|.sl .int) _ _ f (λi c rec=>?_) (λrec=>?_) (kR _);{simp only [zbq c,zS c,zba c,zhp,zii,zpl,zMA,zhM,ziu,zkz,cT,cF,kC,kS]};{simp only [zbl,cF,zqY]}
theorem zIy:vQ 278 zyN:=hF2 zw7 zbh zo zu zPY zPB
def z4x:zV:=[(380,zus),(379,zwy),(278,zyN)]++z4w
theorem zQ7:zL z4x:=zh zCB (zh zFO<|zh zIy zw7)
def zmN (x y:Guest):Bool:=pc (x=y)
def zmr (_ _:Guest):Bool:=true
def zur:Run:=rF2 (dT .guest) (dT .guest) λb c=>(zmN b c,[aB<|zmr b c])
def zyj (N:Nat)(a b:Guest):OA:=
 (oN (zoM a.Prog b.Prog)<|cond (zoL a.Prog b.Prog) (cond (ieq a.A b.A) (cond (ieq a.Pc b.Pc) (oN (zjY a.Written b.Written)<|cond (zkb a.Written b.Written) (oN (zjY a.Live b.Live)<|cond (zkb a.Live b.Live) (cond (cond (ieq a.Ctl.Traps b.Ctl.Traps) (cond (ieq a.Ctl.Post b.Ctl.Post) (zlZ a.Ctl.Open b.Ctl.Open) false) false) (cond (ieq a.Pending b.Pending) (cond (cond (ieq a.Exit.Kind b.Exit.Kind) (cond (ieq a.Exit.Page b.Exit.Page) (cond (zlZ a.Exit.Write b.Exit.Write) (ieq a.Exit.N b.Exit.N) false) false) false) (cond (zlZ a.Halted b.Halted) (oN (zhp a.Seen b.Seen)<|some [aB<|zii a.Seen b.Seen]) oF) oF) oF) oF) oF) oF) oF) oF) oF)
theorem zJg (a b:Guest)(c:zmN a b=true):∃N,zyj N a b=some [aB<|zmr a b]:=by have:=zJ.1 c;subst this;refine⟨0,?_⟩;simp only[zyj,zoM,zoL,zjY,zkb,zhp,zii,zpl,zMA,zhM,ziu,zkz,cT,cF,kC,kS,zmr]
theorem zCA:vQ 342 zur:=kF2 zQ7 zbh zo zu (zx []) zJg
def z4y:zV:=[(342,zur)]++z4x
theorem zQ8:zL z4y:=zh zCA zQ7
def ziL (x y:List Guest):Bool:=pc (x=y)
def zij (_ _:List Guest):Bool:=true
def zo8:Run:=rF2 (dS .guest) (dS .guest) λb c=>(ziL b c,[aB<|zij b c])
def zrE (N:Nat)(b c:lG):OA:=
 (cond (ine (ln b)<|ln c) oF<|iter (σ:=(Int×lG×lG×Unit)) N (λf a=>let e:=ix a.2.1 a.1 zl;let d:=ix a.2.2.1 a.1 zl; (cond (ilt a.1<|ln a.2.1) (oN (inb a.1<|ln a.2.1)<|oN (inb a.1<|ln a.2.2.1)<|oN (zmN e d)<|cond (nB<|zmr e d) oF<|f (zI .i64 a.1 1,a.2.1,a.2.2.1,())) oT)) (0,b,c,()))
def zzk:=zx [(279,0,{n:=27,tm:=[(0,.sl 0 []),(1,.sl 1 []),(5,ti)],lo:=[],ro:=[(0,.guest,false),(1,.guest,false)]})]
theorem zzh (a b:List Guest)(d:zbB big [aS .guest a,aS .guest b])(e:ziL a b=true):∃N,zrE N a b=some [aB<|zij a b]:=by
 have:=zJ.1 e;subst this;have f:=len0 d;refine⟨a.length+1,?_⟩;unfold zrE oN nB;conv=>zeta
 rw[zhM];refine zBU a zl _ _ f (λi c rec=>?_) (λrec=>?_) (kR _);{simp only [zbq c,zS c,zba c,zmN,zmr,zpl,zMA,zhM,ziu,zkz,cT,cF,kC,kS]};{simp only [zbl,cF,zij]}
theorem zvV:vQ 279 zo8:=hF2 zQ8 zbh zo zu zzk zzh
def z4z:zV:=[(279,zo8)]++z4y
theorem zQ9:zL z4z:=zh zvV zQ8
def ztn (x y:Bare):Bool:=pc (x=y)
def zr9 (_ _:Bare):Bool:=true
def zwx:Run:=rF2 (dT .bare) (dT .bare) λb c=>(ztn b c,[aB<|zr9 b c])
def zzO (N:Nat)(a b:Bare):OA:=
 (oN (zqr a.Memory b.Memory)<|cond (zqY a.Memory b.Memory) (oN (ziL a.Guests b.Guests)<|cond (zij a.Guests b.Guests) (oN (zhp a.Outs b.Outs)<|cond (zii a.Outs b.Outs) (some [aB<|ieq a.Pending b.Pending]) oF) oF) oF)
theorem zMi (a b:Bare)(c:ztn a b=true):∃N,zzO N a b=some [aB<|zr9 a b]:=by have:=zJ.1 c;subst this;refine⟨0,?_⟩;simp only[zzO,zqr,zqY,ziL,zij,zhp,zii,zpl,zMA,zhM,ziu,zkz,cT,cF,kC,kS,zr9]
theorem zFN:vQ 188 zwx:=kF2 zQ9 zbh zo zu (zx []) zMi
def z4A:zV:=[(188,zwx)]++z4z
theorem zRa:zL z4A:=zh zFN zQ9
def zHe (N:Nat)(b:Host)(c:Int):OA:=
 (oN (znr b c)<|cond (nB<|zqX b c) (some [aT .bare (⟨[],[],[],0⟩:Bare)])<|iter (σ:=(Int×Int×Int×Int×lM×lN×lE×lE×lM×lG×(List Int)×lM×lG×(List Int)×Unit)) N (λh a=>let g:=a.2.2.2.2.2.2.2.2.2.2.2.2.1;let f:=a.2.2.2.2.2.2.2.2.2.2.2.2.2.1;let d:=(⟨a.2.2.2.2.1,a.2.2.2.2.2.1,a.2.2.2.2.2.2.1,a.2.2.2.2.2.2.2.1⟩:Host);let e:=ap a.2.2.2.2.2.2.2.2.2.2.2.1 [zm5 d a.1 a.2.1]; (cond (ilt a.2.1 8) (oN (zoK d a.1 a.2.1)<|oN (few<|ln e)<|h (a.1,zI .i64 a.2.1 1,a.2.2.1,a.2.2.2.1,a.2.2.2.2.1,a.2.2.2.2.2.1,a.2.2.2.2.2.2.1,a.2.2.2.2.2.2.2.1,a.2.2.2.2.2.2.2.2.1,a.2.2.2.2.2.2.2.2.2.1,a.2.2.2.2.2.2.2.2.2.2.1,e,g,f,()))<|some [aT .bare (⟨a.2.2.2.2.2.2.2.2.2.2.2.1,g,f,a.2.2.2.1⟩:Bare)])) (c,0,0,(zdd b c).Pending,b.Memory,b.Mons,b.Buffer,b.IoBuffer,[],[],[],[],(zdd b c).Guests,(zdd b c).Outs,()))
def zTU:=zx [(189,0,{n:=39,tm:=[(1,ti),(2,.lp 0 0),(4,.lp 1 0),(7,.lp 2 0),(8,ti)],lo:=[(0,[.sl 0 [],.sl 1 [],.sl 2 [],.sl 3 []]),(1,[.sl 4 [],.sl 5 [],.sl 6 [],ti]),(2,[.sl 7 [],.sl 8 [],.sl 9 [],ti])],ro:=[(0,.sl .int,false),(1,.mon,false),(2,.entry,false),(3,.entry,false),(4,.sl .int,true),(5,.guest,true),(6,.int,true),(7,.sl .int,true),(8,.guest,true),(9,.int,true)]})]
theorem zSp (a:Host)(b:Int)(f:zeV a b=true):∃N,zHe N a b=some [aT .bare<|zgR a b]:=by
 have e:=zJ.1 f;refine zbZ λN d=>?_;unfold zHe zgR zA oN nB;conv=>zeta
 refine must (zbj e) ?_;rw[show zqX a b=hasB b (ln a.Mons) from rfl];cases g:hasB b (ln a.Mons);{rfl};{refine zcQ rfl ?_;refine(zsW 8 (λi (t:lM)=>(b,(i:Int),0,(zdd a b).Pending,a.Memory,a.Mons,a.Buffer,a.IoBuffer,[],[],[],t,(zdd a b).Guests,(zdd a b).Outs,())) _ (λi (c:List (List Int)) j=>bif few (ln<|ap c [zcm a b (i:Int)]) then j (ap c [zcm a b (i:Int)]) else none) (λ(t:lM)=>some [.agg<|Ty.cells .bare (⟨t,(zdd a b).Guests,(zdd a b).Outs,(zdd a b).Pending⟩:Bare)]) (λi h t rec=>?_) (λt rec=>?_) _ ([])<|d (by decide)).trans ?_;{simp only [show ilt (i:Int) 8=true from qK (by omega),zQ h (show 8<=big by decide),cT];exact must (zbj e) rfl};{simp only [show ilt ((8:Nat):Int) 8=false from qI (by omega),cF]};rw[zAl a b _ 8 0 [] (by decide)];simp only[zdd,g,cT,jP]}
theorem zLx:vQ 189 zn4:=kF2 zRa zbh zo zu zTU zSp
def z4B:zV:=[(189,zn4)]++z4A
theorem zRb:zL z4B:=zh zLx zRa
theorem zRu {d:Type}(h:Host)(K:List Bare->Option d):∀(l:List Mon) (i:Nat) (a:List Bare),a.length+l.length<=2147483648->
 goL (λi (_:Mon) a c=>bif few (ln<|ap a [zA h (i:Int)]) then c (ap a [zA h (i:Int)]) else none) K l i a=K (a++(List.range' i l.length).map λ(i:Nat)=>zA h (i:Int))
 |[],_,a,_=>by simp[goL]
 |x::l,i,a,b=>by simp only[qV]at b;simp only[goL];rw[zf6 (by simp[ap];omega),cT,zRu h K l (i+1) _ (by simp[ap];omega)];simp[ap,uK]
@[simp] abbrev zql (h:Host):List Bare:=zbU h
def zuo:Run:=rF1 dH λb=>(zbi b,[aS .bare<|zql b])
def zya (N:Nat)(b:Host):OA:=
 (iter (σ:=(Int×lR×lM×lN×lE×lE×Unit)) N (λe a=>let c:=(⟨a.2.2.1,a.2.2.2.1,a.2.2.2.2.1,a.2.2.2.2.2.1⟩:Host);let d:=ap a.2.1 [zgR c a.1]; (cond (ilt a.1<|ln a.2.2.2.1) (oN (zeV c a.1)<|oN (few<|ln d)<|e (zI .i64 a.1 1,d,a.2.2.1,a.2.2.2.1,a.2.2.2.2.1,a.2.2.2.2.2.1,()))<|some [aS .bare a.2.1])) (0,[],b.Memory,b.Mons,b.Buffer,b.IoBuffer,()))
def zKc:=zx [(89,0,{n:=20,tm:=[(1,.lp 0 0),(3,.sl 0 []),(4,ti)],lo:=[(0,[.sl 1 [],.sl 2 [],.sl 3 [],.sl 4 []])],ro:=[(0,.bare,true),(1,.sl .int,false),(2,.mon,false),(3,.entry,false),(4,.entry,false)]})]
theorem zI8 (a:Host)(f:zbi a=true):∃N,zya N a=some [aS .bare<|zql a]:=by
 have d:=zJ.1 f;have e:a.Mons.length<=big:=(zcu ((zM a).1 d).2.1.1).1;refine zbZ λN c=>?_;unfold zya oN;conv=>zeta
 refine(zX a.Mons (λi (t:lR)=>((i:Int),t,a.Memory,a.Mons,a.Buffer,a.IoBuffer,())) _ (λi (x:Mon) (t:List Bare) g=>bif few (ln<|ap t [zA a (i:Int)]) then g (ap t [zA a (i:Int)]) else none) (λ(t:lR)=>some [.one<|.s .bare t]) (λi b t rec=>?_) (λt rec=>?_) _ ([])<|c e).trans ?_;{simp only [zbq b,zS b,zba b,zQ b e,cT];exact must (zbj d) rfl};{simp only [zbl,cF]};rw[zRu a _ _ 0 [] (by simpa using (zcu ((zM a).1 d).2.1.1).2)];simp[zbU,uL]
theorem zCs:vQ 89 zuo:=kF1 zRb zbh zo zu zKc zI8
def z4C:zV:=[(89,zuo)]++z4B
theorem zRc:zL z4C:=zh zCs zRb
theorem zVQ {a c:Type}(K:Unit->Option c):∀(l:List a) (i:Nat),goL (λ_ _ (_:Unit) b=>b ()) K l i ()=K ()
 |[],_=>rfl
 |_::l,i=>zVQ K l (i+1)
@[simp] abbrev ztm (h:Host)(l:List Bare):Bool:=pc (zbX h/\l=zbU h)
@[simp] abbrev zxP (_:Host)(_:List Bare):Bool:=true
def zwv:Run:=rF2 dH (dS .bare) λb c=>(ztm b c,[aB<|zxP b c])
def zzL (N:Nat)(b:Host)(d:lR):OA:=
 (cond (ine (ln d)<|ln b.Mons) oF<|iter (σ:=(Int×lR×lM×lN×lE×lE×Unit)) N (λf a=>let e:=ix a.2.1 a.1 zBJ;let c:=(⟨a.2.2.1,a.2.2.2.1,a.2.2.2.2.1,a.2.2.2.2.2.1⟩:Host); (cond (ilt a.1<|ln a.2.1) (oN (zeV c a.1)<|oN (inb a.1<|ln a.2.1)<|oN (ztn (zgR c a.1) e)<|cond (nB<|zr9 (zgR c a.1) e) oF<|f (zI .i64 a.1 1,a.2.1,a.2.2.1,a.2.2.2.1,a.2.2.2.2.1,a.2.2.2.2.2.1,())) oT)) (0,d,b.Memory,b.Mons,b.Buffer,b.IoBuffer,()))
def zMX:=zx [(88,0,{n:=27,tm:=[(1,.sl 0 []),(2,.lp 0 0),(5,ti)],lo:=[(0,[.sl 1 [],.sl 2 [],.sl 3 [],.sl 4 []])],ro:=[(0,.bare,false),(1,.sl .int,false),(2,.mon,false),(3,.entry,false),(4,.entry,false)]})]
theorem zMf (a:Host)(c:List Bare)(k:ztm a c=true):∃N,zzL N a c=some [aB<|zxP a c]:=by
 obtain⟨j,g⟩:=zJ.1 k;have h:c.length<=big:=(by rw[g,zhd];exact(zcu ((zM a).1 j).2.1.1).1);refine zbZ λN f=>?_;unfold zzL oN nB;conv=>zeta
 rw[show ine (ln c) (ln a.Mons)=false by unfold ln;rw[g,zhd];exact zhM _];refine zcQ rfl ?_;refine(zX c (λi (t:Unit)=>((i:Int),c,a.Memory,a.Mons,a.Buffer,a.IoBuffer,())) _ (λi (x:Bare) (_:Unit) l=>l ()) (λ(t:Unit)=>some [.one<|.b true]) (λi d t rec=>?_) (λt rec=>?_) _ ()<|f h).trans ?_;{simp only [zbq d,zS d,zba d,zQ d h,cT];have e:zgR a (i:Int)=c[i]:=(by simp[g,zbU]);refine must (zbj j) ?_;rw[e];exact must (zbo rfl) rfl};{simp only [zbl,cF]};rw[zVQ]
theorem zFJ:vQ 88 zwv:=kF2 zRc zbh zo zu zMX zMf
def z8B:zV:=[(88,zwv)]++z4C
theorem z1Q:zL z8B:=zh zFJ zRc
@[simp] abbrev zto (a b:Host):Bool:=pc (zbX a/\zbX b/\zbU a=zbU b)
@[simp] abbrev zxQ (_ _:Host):Bool:=true
def zwz:Run:=rF2 dH dH λb c=>(zto b c,[aB<|zxQ b c])
def zzQ (N:Nat)(b a:Host):OA:=
 (oN (zbi a)<|oN (ztm b<|zql a)<|some [aB<|zxP b<|zql a])
theorem zMk (a b:Host)(f:zto a b=true):∃N,zzQ N a b=some [aB<|zxQ a b]:=by obtain⟨c,d,e⟩:=zJ.1 f;refine⟨0,?_⟩;unfold zzQ oN;exact must (zbj d) (must (zbj ⟨c,e.symm⟩) rfl)
theorem zFP:vQ 25 zwz:=kF2 z1Q zbh zo zu (zx []) zMk
end
end Go.Proofs.YtgjpbkhaaiffkaaGreat.E
namespace Go.Proofs
open Go Go.Shelf
def Tryz.laysSort_ren:Go.Shelf.Ren:=⟨fun|189=>186|125=>277|257=>276|128=>340|129=>341|294=>331|295=>332|296=>333|297=>334|298=>335|299=>336|216=>337|300=>338|301=>339|328=>373|329=>374|330=>375|331=>376|332=>377|215=>378|343=>394|n=>n,fun|28=>52|3=>3|46=>228|0=>0|51=>257|53=>259|4=>4|183=>251|182=>250|131=>150|5=>5|9=>9|218=>273|222=>277|228=>282|229=>243|n=>n,fun|n=>n⟩
theorem Tryz.laysSort:Go.Proofs.Lays.n189 Tryz.prog Tryz.laysSort_ren:={
 mixed:=by kernel_rfl
 f125:=Tryz.func277.trans (congrArg some (by kernel_rfl))
 f128:=Tryz.func340.trans (congrArg some (by kernel_rfl))
 f129:=Tryz.func341.trans (congrArg some (by kernel_rfl))
 f189:=Tryz.func186.trans (congrArg some (by kernel_rfl))
 f215:=Tryz.func378.trans (congrArg some (by kernel_rfl))
 f216:=Tryz.func337.trans (congrArg some (by kernel_rfl))
 f257:=Tryz.func276.trans (congrArg some (by kernel_rfl))
 f294:=Tryz.func331.trans (congrArg some (by kernel_rfl))
 f295:=Tryz.func332.trans (congrArg some (by kernel_rfl))
 f296:=Tryz.func333.trans (congrArg some (by kernel_rfl))
 f297:=Tryz.func334.trans (congrArg some (by kernel_rfl))
 f298:=Tryz.func335.trans (congrArg some (by kernel_rfl))
 f299:=Tryz.func336.trans (congrArg some (by kernel_rfl))
 f300:=Tryz.func338.trans (congrArg some (by kernel_rfl))
 f301:=Tryz.func339.trans (congrArg some (by kernel_rfl))
 f328:=Tryz.func373.trans (congrArg some (by kernel_rfl))
 f329:=Tryz.func374.trans (congrArg some (by kernel_rfl))
 f330:=Tryz.func375.trans (congrArg some (by kernel_rfl))
 f331:=Tryz.func376.trans (congrArg some (by kernel_rfl))
 f332:=Tryz.func377.trans (congrArg some (by kernel_rfl))
 f343:=Tryz.func394.trans (congrArg some (by kernel_rfl))
 t0:=Tryz.underlying0
 a0:=Tryz.isAgg0
 z0:=Tryz.sizeOf0
 v0:=Tryz.zeroValue0
 t3:=Tryz.underlying3
 a3:=Tryz.isAgg3
 z3:=Tryz.sizeOf3
 v3:=Tryz.zeroValue3
 t4:=Tryz.underlying4
 a4:=Tryz.isAgg4
 z4:=Tryz.sizeOf4
 v4:=Tryz.zeroValue4
 t5:=Tryz.underlying5
 a5:=Tryz.isAgg5
 z5:=Tryz.sizeOf5
 v5:=Tryz.zeroValue5
 t9:=Tryz.underlying9
 a9:=Tryz.isAgg9
 z9:=Tryz.sizeOf9
 v9:=Tryz.zeroValue9
 t28:=Tryz.underlying52
 a28:=Tryz.isAgg52
 z28:=Tryz.sizeOf52
 v28:=Tryz.zeroValue52
 t46:=Tryz.underlying228
 a46:=Tryz.isAgg228
 z46:=Tryz.sizeOf228
 v46:=Tryz.zeroValue228
 t51:=Tryz.underlying257
 a51:=Tryz.isAgg257
 z51:=Tryz.sizeOf257
 v51:=Tryz.zeroValue257
 t53:=Tryz.underlying259
 a53:=Tryz.isAgg259
 z53:=Tryz.sizeOf259
 v53:=Tryz.zeroValue259
 t131:=Tryz.underlying150
 a131:=Tryz.isAgg150
 z131:=Tryz.sizeOf150
 v131:=Tryz.zeroValue150
 t182:=Tryz.underlying250
 a182:=Tryz.isAgg250
 z182:=Tryz.sizeOf250
 v182:=Tryz.zeroValue250
 t183:=Tryz.underlying251
 a183:=Tryz.isAgg251
 z183:=Tryz.sizeOf251
 v183:=Tryz.zeroValue251
 t218:=Tryz.underlying273
 a218:=Tryz.isAgg273
 z218:=Tryz.sizeOf273
 v218:=Tryz.zeroValue273
 t222:=Tryz.underlying277
 a222:=Tryz.isAgg277
 z222:=Tryz.sizeOf277
 v222:=Tryz.zeroValue277
 t228:=Tryz.underlying282
 a228:=Tryz.isAgg282
 z228:=Tryz.sizeOf282
 v228:=Tryz.zeroValue282
 t229:=Tryz.underlying243
 a229:=Tryz.isAgg243
 z229:=Tryz.sizeOf243
 v229:=Tryz.zeroValue243}
def Tryz.laysCompact_ren:Go.Shelf.Ren:=⟨fun|20=>187|n=>n,fun|22=>52|3=>3|4=>4|0=>0|n=>n,fun|n=>n⟩
theorem Tryz.laysCompact:Go.Proofs.Lays2.n20 Tryz.prog Tryz.laysCompact_ren:={
 mixed:=by kernel_rfl
 f20:=Tryz.func187.trans (congrArg some (by kernel_rfl))
 t0:=Tryz.underlying0
 a0:=Tryz.isAgg0
 z0:=Tryz.sizeOf0
 v0:=Tryz.zeroValue0
 t3:=Tryz.underlying3
 a3:=Tryz.isAgg3
 z3:=Tryz.sizeOf3
 v3:=Tryz.zeroValue3
 t4:=Tryz.underlying4
 a4:=Tryz.isAgg4
 z4:=Tryz.sizeOf4
 v4:=Tryz.zeroValue4
 t22:=Tryz.underlying52
 a22:=Tryz.isAgg52
 z22:=Tryz.sizeOf52
 v22:=Tryz.zeroValue52
 i3:=by kernel_rfl}
end Go.Proofs
namespace Go.Proofs.YtgjpbkhaaiffkaaGreat.E
open Go
set_option linter.constructorNameAsVariable false
set_option linter.unusedVariables false
set_option maxRecDepth 100000
set_option linter.unusedSimpArgs false
set_option linter.unusedSectionVars false
noncomputable section
section
open Go Go.Sort Go.Proofs
theorem zYo (blk a b:Nat)(d:List Int)(w:World)(g:Go.Sort.Holds (Value.int .i64) w blk a d.toArray)(c:blk<w.heap.size)(f:d.length<4611686018427387904) :
 Calls Tryz.prog 186 #[.slice (some ⟨blk,a,none⟩) d.length b] w λe i =>
  e = .returned (.tuple #[])/\∃n h,i=grow (putRow (Value.int .i64) (Sort.ahead w n) blk a (d.mergeSort λx y=>decide (x<=y)).toArray) h :=
 Any.slices_Sort_int Tryz.laysSort blk a b d w g c f
theorem z0Q (p:Option Addr)(a:Nat)(w:World):Calls Tryz.prog 186 #[.slice p 0 a] w λe b=>e = .returned (.tuple #[])/\b=w :=
 Any.slices_Sort_int_none Tryz.laysSort p a w
theorem zOF (blk a b:Nat)(c:List Int)(w:World)(g:Go.Sort.Holds (Value.int .i64) w blk a c.toArray)(f:c.length<=9223372036854775807)(d:c.length<=b) :
 Calls Tryz.prog 187 #[.slice (some ⟨blk,a,none⟩) c.length b] w λe h=>e = .returned (.slice (some ⟨blk,a,none⟩) (Lib.compact c).length b)/\∃q,h=putRow (Value.int .i64) (Sort.ahead w q) blk a (Lib.compact c++List.replicate (c.length-(Lib.compact c).length) 0).toArray :=
 Any.slices_Compact_int Tryz.laysCompact blk a b c w g f d
theorem zQP (a:Option Addr)(b:Nat)(w:World):Calls Tryz.prog 187 #[.slice a 0 b] w λe c=>e = .returned (.slice a 0 b)/\c=w :=
 Any.slices_Compact_int_empty Tryz.laysCompact a b w
def zf3 (a:List Int):List Int:=Lib.compact (a.mergeSort λx y=>decide (x<=y))
theorem zYG (a:List Int):(zf3 a).length<=a.length:=by have:=Lib.compact_length_le (a.mergeSort λx y=>decide (x<=y));simpa [zf3] using this
theorem zVh {blk a b n:Nat}{d:List Int}{w:World}(h:d.length=n)(g:Go.Sort.Holds (Value.int .i64) w blk a d.toArray)(c:blk<w.heap.size)(f:n<4611686018427387904) :
 Calls Tryz.prog 186 #[.slice (some ⟨blk,a,none⟩) n b] w λe j =>
  e = .returned (.tuple #[])/\∃n i,j=grow (putRow (Value.int .i64) (Sort.ahead w n) blk a (d.mergeSort λx y=>decide (x<=y)).toArray) i:=by
 subst h;exact zYo blk a b d w g c f
theorem zKw {blk a b n:Nat}{c:List Int}{w:World}(h:c.length=n)(g:Go.Sort.Holds (Value.int .i64) w blk a c.toArray)(f:n<=9223372036854775807)(d:n<=b) :
 Calls Tryz.prog 187 #[.slice (some ⟨blk,a,none⟩) n b] w λe i=>e = .returned (.slice (some ⟨blk,a,none⟩) (Lib.compact c).length b)/\∃q,i=putRow (Value.int .i64) (Sort.ahead w q) blk a (Lib.compact c++List.replicate (n-(Lib.compact c).length) 0).toArray:=by
 subst h;exact zOF blk a b c w g f d
theorem heap_put {w:World}{g off n:Nat}{os:Array Obj}{a:Array Value}{e:TypeId}{b:Nat×Nat}(d:Array Int)(c:w.heap[g]?=some (.cells a e b)) :
 (grow (putRow (Value.int .i64) (Sort.ahead w n) g off d) os).heap[g]?=some (.cells (Sort.putCells (Value.int .i64) off d a) e b):=by
 have hg:g<w.heap.size:=(qQ.1 c).1;rw[heap_grow_old _ _ (by simpa using hg)]
 simp[putRow,mapBlock,Sort.ahead,uI,c,onCells]
theorem zZI {w:World}{g off n:Nat}{a:Array Value}{e:TypeId}{b:Nat×Nat}(d:Array Int)(c:w.heap[g]?=some (.cells a e b)) :
 (putRow (Value.int .i64) (Sort.ahead w n) g off d).heap[g]?=some (.cells (Sort.putCells (Value.int .i64) off d a) e b):=by
 simp[putRow,mapBlock,Sort.ahead,uI,c,onCells]
theorem size_put {a:Array Value}{off:Nat}(d:Array Int):(Sort.putCells (Value.int .i64) off d a).size=a.size:=by simp[Sort.putCells]
theorem zNB:zf3 []=[]:=by simp[zf3,Lib.compact,Lib.compactUpTo]
theorem zVy {a:Array Value}{off:Nat}(d:List Int)(j:Nat)(x:Int)(b:d[j]?=some x)(h:off+d.length<=a.size):(Sort.putCells (Value.int .i64) off d.toArray a)[off+j]?=some (.int .i64 x):=by have f:j<d.length:=(qA.1 b).1;have e:d[j]=x:=(qA.1 b).2;have c:off+j<a.size:=(by omega);simp[Sort.putCells,c,show off<=off+j by omega,show off+j<off+d.length by omega,f,e]
theorem zRz {w:World}{g c:Nat}{a:Array Value}{e:TypeId}{d:List Int}(f:w.heap[g]?=some (.cells a e (0,0)))(i:∀(j:Nat) (x:Int),d[j]?=some x->a[c+j]?=some (.int .i64 x)):Go.Sort.Holds (Value.int .i64) w g c d.toArray:=by intro j h;have b:j<d.length:=(by simpa using h);refine⟨?_,by simp[World.frozen?,f]⟩;have:=i j d[j] (by simp[b]);simp[World.cell?,f,this,b]
theorem z1d {b off c n:Nat}{a:List Int}{w:World}{d:Array Value}{e:TypeId}(t:a.length=n)(i:w.heap[b]?=some (.cells d e (0,0)))(u:∀(j:Nat) (x:Int),a[j]?=some x->d[off+j]?=some (.int .i64 x))(s:off+n<=d.size)(m:n<4611686018427387904)(g:n<=c) :
 Calls Tryz.prog 87 #[.slice (some ⟨b,off,none⟩) n c] w λr p=>r = .returned (.slice (some ⟨b,off,none⟩) (zf3 a).length c)/\
  ∃k os q,p=putRow (Value.int .i64) (Sort.ahead (grow (putRow (Value.int .i64) (Sort.ahead w k) b off (a.mergeSort λx y=>decide (x<=y)).toArray) os) q) b off (zf3 a++List.replicate (n-(zf3 a).length) 0).toArray:=by
 have v:=zRz i u;have f:b<w.heap.size:=(qQ.1 i).1;have h:(a.mergeSort λx y=>decide (x<=y)).length=n:=by simpa using t
 have l:∀k os,Go.Sort.Holds (Value.int .i64) (grow (putRow (Value.int .i64) (Sort.ahead w k) b off (a.mergeSort λx y=>decide (x<=y)).toArray) os) b off (a.mergeSort λx y=>decide (x<=y)).toArray:=λk os=>
  zRz (heap_put _ i) (λj x z=>zVy _ j x z (by rw[h];exact s))
 clear u i s
 go_enter Tryz.func87,Tryz.ntmps87
 go_wp2_with (first
  |(go_at_call 186;refine(zVh t v f m).mono ?_;rintro r p ⟨rfl,k,os,rfl⟩)
  |(go_at_call 187;refine(zKw h (l _ _) (by omega) g).mono ?_;rintro r p ⟨rfl,q,rfl⟩))
 go_ret
 exact⟨rfl,_,_,_,rfl⟩
theorem zYH (p:Option Addr)(a:Nat)(w:World):Calls Tryz.prog 87 #[.slice p 0 a] w λr b=>r = .returned (.slice p 0 a)/\b=w:=by
 go_enter Tryz.func87,Tryz.ntmps87
 go_wp2_with (first
  |(go_at_call 186;refine(z0Q _ _ _).mono ?_;rintro r b ⟨rfl,rfl⟩)
  |(go_at_call 187;refine(zQP _ _ _).mono ?_;rintro r b ⟨rfl,rfl⟩))
 go_ret;exact⟨rfl,rfl⟩
end
section
open Go Go.Sort Go.Proofs
theorem z19 {w:World}{g off n:Nat}{os:Array Obj}(d:Array Int){x:Nat}(b:x<w.heap.size)(a:x≠g):(grow (putRow (Value.int .i64) (Sort.ahead w n) g off d) os).heap[x]?=w.heap[x]?:=by rw[heap_grow_old _ _ (by simpa using b)];have:g≠x:=λe=>a e.symm;simp[putRow,mapBlock,Sort.ahead,uI,this]
theorem zZH {w:World}{g off n:Nat}(d:Array Int){x:Nat}(a:x≠g):(putRow (Value.int .i64) (Sort.ahead w n) g off d).heap[x]?=w.heap[x]?:=by have:g≠x:=λe=>a e.symm;simp[putRow,mapBlock,Sort.ahead,uI,this]
theorem z5r {w:World}{u:Value}{l:List Int}{K:zW}(X:Rep true w u (.s .int l) K)(hK:∀x,K x->x<w.heap.size) :
 Calls Tryz.prog 87 #[u] w λr g=>∃v,r = .returned v/\Rep true g v (.s .int<|zf3 l) K/\g.os=w.os/\g.tape=w.tape/\g.output=w.output/\w.heap.size<=g.heap.size/\
  ∀b,b<w.heap.size->¬ K b->g.heap[b]?=w.heap[b]?:=by
 cases X with
 |nil t=>refine(zYH none 0 w).mono ?_;rintro r g ⟨rfl,rfl⟩;exact⟨_,rfl,by rw[zNB];exact .nil _ _,rfl,rfl,rfl,qX _,λ_ _ _=>rfl⟩
 |void t a S ho=>cases ho
 |sl t l b f G F e fz V K' S R I B A C Q W T hv Y=>have hz:=I rfl;subst hz;have d:Ty.int.width=1:=rfl;have N:∀(j:Nat) (x:Int),l[j]?=some x->F[f+j]?=some (.int .i64 x):=(by intro j x p;have J:j<l.length:=(qA.1 p).1;have E:=hv j 0 J (by rw[d];decide);have H:=(Y j x p 0 (.i .i64 x) rfl).int_inv;rw[d,Nat.mul_one,j7,H]at E;exact E);rw[d,Nat.mul_one]at C;have z:l.length<4611686018427387904:=(by unfold big at B;omega);refine(z1d rfl R N (by omega) z A).mono ?_;rintro r g ⟨rfl,k,P,q,rfl⟩;have Z:=zYG l;have a0:(l.mergeSort λx y=>decide (x<=y)).length=l.length:=(by simp);have E:=heap_put (off:=f) (n:=k) (os:=P) (l.mergeSort λx y=>decide (x<=y)).toArray R;have H:=zZI (off:=f) (n:=q) (zf3 l++List.replicate (l.length-(zf3 l).length) 0).toArray E;refine⟨_,rfl,?_,rfl,rfl,rfl,?_,λx p M=>?_⟩;{refine .sl .int (zf3 l) b f G _ e (0,0) (λi _=>.int .i64 ((zf3 l).getD i 0)) (λ_ _ _=>False) K H (λ_=>rfl) (by omega) (by omega) ?_ Q (λ_ _ _ _ _ h=>h.elim) (λ_ _ _ _ _ _ _ _ _ _ h=>h.elim) ?_ ?_;{rw [d,Nat.mul_one];rw[size_put,size_put];exact C};{intro i j U J;have L:j=0:=(by rw[d]at J;omega);subst L;rw[d,Nat.mul_one,j7];refine zVy _ i _ ?_ ?_;{rw [qU U];simp[List.getD,U]};{rw [size_put,jT,List.length_replicate];omega}};{intro i x p j c m;have O:(zf3 l).getD i 0=x:=(by simp[List.getD,p]);cases j with|zero=>simp only[Ty.cells,qH,qC]at m;subst m;rw[O];exact .i _ _ _|succ j=>simp[Ty.cells]at m}};{have:(putRow (Value.int .i64) (Sort.ahead (grow (putRow (Value.int .i64) (Sort.ahead w k) b f (l.mergeSort λx y=>decide (x<=y)).toArray) P) q) b f (zf3 l++List.replicate (l.length-(zf3 l).length) 0).toArray).heap.size=w.heap.size+P.size:=(by simp[putRow,mapBlock,grow,Sort.ahead]);omega};{have D:x≠b:=λe=>M (e ▸ Q);rw[zZH _ D,z19 _ p D]}
def zhY (_:List Int):Bool:=true
abbrev zj4 (l:List Int):List Int:=zf3 l
def zn6:List AV->Option (Bool×List AV)
 |[.one<|.s .int b]=>some (zhY b,[.one<|.s .int<|zj4 b])
 |_=>none
theorem zCo:zd9 Tryz.prog 87 [true] none zn6:=by
 refine zd9.of (by simp) λI z=>⟨zia (by kernel_rfl),?_⟩;intro w K k g Q d L H f J M a;unfold zn6 at a;split at a
 .rename_i a0;cases a;have E:g.length=1:=d
  match g,E with
  |[u],_=>have y:Rep true w u (.s .int a0) (K 0):=H 0 _ u rfl rfl;refine(z5r y λx d=>f 0 x (by simp[zB,AV.cvs]) d).mono ?_;rintro r R ⟨v,rfl,l,m,n,p,q,t⟩;refine⟨m,n,p,q,λb A F=>t b A (F 0 (by simp[zB,AV.cvs]) rfl),[v],λ_=>K 0,⟨rfl,?_⟩,rfl,?_,?_,?_⟩;{intro i c x B d;cases i with|zero=>simp only[qH,qC]at d;subst d;have:c = .s .int (zf3 a0):=(by simpa [zB,AV.cvs] using B.symm);subst this;exact l|succ i=>simp at d};{intro i x _ e;have:=f 0 x (by simp[zB,AV.cvs]) e;exact⟨by omega,.inl ⟨0,by simp[zB,AV.cvs],rfl,e⟩⟩};{intro i j x C D G;simp[zB,AV.cvs]at C D;omega};{intro N O P h;cases h}
 {cases a}
end
def zvb:List Int->Int->List Int
 |[],n=>[n]
 |x::l,n=>if x<n then x::zvb l n else if x=n then x::l else n::x::l
def zjq (l:List Int):Prop:=l.Pairwise (· < ·)
theorem zGg:∀(l:List Int) (n x:Int),x∈zvb l n↔x=n\/x∈l
 |[],n,x=>by simp[zvb]
 |y::l,n,x=>by unfold zvb;split;{have:=zGg l n x;simp only[qG,this];constructor;{rintro (h|h|h)<;>simp [h]};{rintro (h|h|h)<;>simp [h]}};{split;{rename_i h;subst h;simp only[qG];constructor;{exact λh=>.inr h};{rintro (h|h);{exact .inl h};{exact h}}};{simp only [qG]}}
theorem zWD:∀(l:List Int) (n:Int),zjq l->zjq (zvb l n)
 |[],n,_=>by simp[zvb,zjq]
 |y::l,n,h=>by have b:=kU.1 h;unfold zvb;split;{rename_i c;refine kU.2 ⟨λz a=>?_,zWD l n b.2⟩;rcases (zGg l n z).1 a with rfl|a;{exact c};{exact b.1 z a}};{split;{exact h};{rename_i d e;refine kU.2 ⟨λz a=>?_,h⟩;rcases qG.1 a with rfl|a;{omega};{have:=b.1 z a;omega}}}
theorem z0Z:∀(l m:List Int),zjq l->zjq m->(∀x,x∈l↔x∈m)->l=m
 |[],[],_,_,_=>rfl
 |[],y::m,_,_,h=>by have:=(h y).2 (by simp);cases this
 |x::l,[],_,_,h=>by have:=(h x).1 (by simp);cases this
 |x::l,y::m,f,g,h=>by
  have c:=kU.1 f;have d:=kU.1 g;have e:x=y:=by have a:x∈y::m:=(h x).1 (by simp);have b:y∈x::l:=(h y).2 (by simp);rcases qG.1 a with a|a;{exact a};{rcases qG.1 b with b|b;{exact b.symm};{have:=d.1 x a;have:=c.1 y b;omega}}
  subst e;have i:=z0Z l m c.2 d.2 (λz=>by
   constructor
   .intro hz;rcases qG.1 ((h z).1 (by simp[hz])) with a|a
    .have:=c.1 z hz;omega
    .exact a
   .intro hz;rcases qG.1 ((h z).2 (by simp[hz])) with a|a
    .have:=d.1 z hz;omega
    .exact a)
  rw[i]
def zA7 (l:List Int)(a:List Int):List Int:=a.foldl zvb l
theorem zOz:∀(a l:List Int),zjq l->zjq (zA7 l a)
 |[],_,h=>h
 |x::a,l,h=>zOz a (zvb l x) (zWD l x h)
theorem zxG:∀(a l:List Int) (x:Int),x∈zA7 l a↔x∈l\/x∈a
 |[],l,x=>by simp[zA7]
 |y::a,l,x=>by have:=zxG a (zvb l y) x;unfold zA7 at this ⊢;rw[k8,this,zGg,qG];constructor;{rintro ((h|h)|h)<;>simp [h]};{rintro (h|h|h)<;>simp [h]}
theorem zJ0 {d:List Int}(h:d.Pairwise (·<=·)){i j:Nat}(a:i<=j)(b:j<d.length):d[i]<=d[j]:=by by_cases e:i=j;{subst e;exact kL _};{exact List.pairwise_iff_getElem.1 h i j (by omega) b (by omega)}
theorem zjw {d:List Int}{i:Nat}(h:i<d.length):d.toArray[i]! = d[i]:=by simp[h]
theorem zYw {d:List Int}(h:d.Pairwise (·<=·)):zjq (Lib.compact d):=by unfold zjq Lib.compact Lib.compactUpTo;refine List.pairwise_map.2 (List.Pairwise.imp_of_mem ?_<|List.Pairwise.filter _ List.pairwise_lt_range);intro a b p k j;have f:=uA.1 k;have c:b<d.length:=j9.1 f.1;have i:=f.2;have g:a<d.length:=(by omega);rw[zjw g,zjw c];have l:d[a]<=d[b-1]:=zJ0 h (by omega) (by omega);have m:d[b-1]<=d[b]:=zJ0 h (by omega) c;have n:d[b-1]≠d[b]:=(by intro e;have:Lib.keeps d.toArray b=false:=Lib.keeps_neg (by omega) (by rw[zjw c,zjw (by omega)];exact e.symm);rw[this]at i;cases i);omega
theorem mem_compact {d:List Int}(x:Int):x∈Lib.compact d↔x∈d:=by
 unfold Lib.compact Lib.compactUpTo;simp only[jA,uA,j9];constructor;{rintro⟨j,⟨a,-⟩,rfl⟩;rw[zjw a];exact jD a}
 .intro hx;obtain ⟨j,a,rfl⟩:=List.mem_iff_getElem.1 hx;have b:∀(j:Nat) (a:j<d.length),∃i,(i<d.length/\Lib.keeps d.toArray i=true)/\d.toArray[i]! = d[j]:=by
   intro j
   induction j with
   |zero=>exact fun a=>⟨0,⟨a,Lib.keeps_lt_one _ 0 (by decide)⟩,zjw a⟩
   |succ j g=>intro a;by_cases e:d[j+1]=d[j];{obtain⟨i,c,f⟩:=g (by omega);exact⟨i,c,f.trans e.symm⟩};{exact⟨j+1,⟨a,Lib.keeps_pos (by rw[zjw a,zjw (by omega)];exact e)⟩,zjw a⟩}
  exact b j a
theorem zXY (d:List Int):zA7 [] d=zf3 d:=by have e:(d.mergeSort λx y=>decide (x<=y)).Pairwise (·<=·):=(by have:=List.pairwise_mergeSort (le:=λx y:Int=>decide (x<=y)) (λa b c f g=>by simp at *;omega) (λa b=>by simp;omega) d;exact this.imp (λh=>by simpa using h));refine z0Z _ _ (zOz d [] List.Pairwise.nil) (zYw e) (λx=>?_);rw[zxG,zf3,mem_compact,List.mem_mergeSort];simp
theorem zRk {a:Type}{l:List a}(h:l.length<=2147483648):few (ln l)=true:=zf6 h
def z9s:zfg:=[(87,[true],none,zn6)]++zMO
theorem zWy:zea z9s:=znc zu (by
 intro x a;simp only[qG,qW,or_false]at a;rcases a with rfl
 .exact zCo)
def z7C:zV:=[(281,zqi),(69,zBe),(391,zBh),(85,zBa),(86,zs6),(102,zml)]++zQU
theorem zNU:zL z7C:=zh zrf (zh zD5<|zh zD6<|zh zD4<|zh zvS<|zh zyq zgb)
def picks {a:Type}(f:Nat->a->Option Int):List a->Nat->List Int
 |[],_=>[]
 |x::l,i=>match f i x with
  |some n=>n::picks f l (i+1)
  |none=>picks f l (i+1)
theorem zA3 {a:Type}(f:Nat->a->Option Int):∀(l:List a) (i:Nat),(picks f l i).length<=l.length
 |[],_=>qX _
 |x::l,i=>by have:=zA3 f l (i+1);unfold picks;split<;>simp<;>omega
def zES {b:Type}(o:Option Int)(t:List Int)(a:List Int->Option b):Option b:=match o with
 |some n=>bif few (ln<|ap t [n]) then a (ap t [n]) else none
 |none=>a t
theorem zvO {a c:Type}(f:Nat->a->Option Int)(K:List Int->Option c):∀(l:List a) (i:Nat) (t:List Int),t.length+l.length<=2147483648->
 goL (λi x t b=>zES (f i x) t b) K l i t=K (t++picks f l i)
 |[],_,_,_=>by simp[goL,picks]
 |x::l,i,t,h=>by simp only[qV]at h;simp only[goL,zES,picks];cases f i x with|none=>exact zvO f K l (i+1) t (by omega)|some n=>simp only[zRk (show (ap t [n]).length<=2147483648 by simp[ap];omega),cT];refine(zvO f K l (i+1) (ap t [n]) (by simp[ap];omega)).trans ?_;simp[ap]
def zrW (s:Slot):Option Int:=bif ine s.Page (-1) then some s.Page else none
def zjD (h:Host)(m:Int):List Int:=zf3 (picks (λ_ s=>zrW s) (zdd h m).Outer 0)
theorem z6K {h:Host}(a:zbX h)(m:Int):(zdd h m).Outer.length<=1048576:=(z2x a m).len
def zrR (h:Host)(m:Int):List Int:=zjD h m
def zwj:Run:=rF2 dH dI λb c=>(znr b c,[aS .int<|zrR b c])
def zzo (N:Nat)(b:Host)(c:Int):OA:=
 (oN (zbg c<|ln b.Mons)<|cond (nB<|zcq c<|ln b.Mons) (some [aS .int []])<|oN (inb c<|ln b.Mons)<|iter (σ:=(Int×Int×Int×(List Int)×lN×Unit)) N (λf a=>let d:=a.2.2.2.1;let g:=(ix a.2.2.2.2.1 a.1 zf).Outer;let e:=(ix g a.2.2.1 zN).Page; (cond (ilt a.2.2.1 a.2.1) (oN (inb a.2.2.1<|ln g)<|cond (ine e<|-1) (oN (few<|ln<|ap d [e])<|f (a.1,a.2.1,zI .i64 a.2.2.1 1,ap d [e],a.2.2.2.2.1,()))<|f (a.1,a.2.1,zI .i64 a.2.2.1 1,d,a.2.2.2.2.1,()))<|oN (zhY d)<|some [aS .int<|zj4 d])) (c,ln (ix b.Mons c zf).Outer,0,[],b.Mons,()))
def zMR:=zx [(24,0,{n:=37,tm:=[(5,.sl 0 []),(20,.sl 1 [0]),(21,ti),(22,ti)],lo:=[],ro:=[(0,.int,true),(1,.mon,false)]})]
theorem zLW (b:Host)(a:Int)(j:znr b a=true):∃N,zzo N b a=some [aS .int<|zrR b a]:=by
 have k:=zJ.1 j;have h:=z6K k a;have c:=(zcu (n:=(zdd b a).Outer.length) h).1;refine zbZ λN f=>?_;unfold zzo zrR zjD zcq oN nB;conv=>zeta
 cases g:hasB a (ln b.Mons);{simp only [zbg,cT,kS,zdd,g,cF];rw[show zf.Outer=[] from rfl,picks,zNB]};{have e:zdd b a=ix b.Mons a zf:=(by unfold zdd;rw[g];rfl);rw[e]at h c ⊢;refine(show _=_ from rfl:_=(cond (inb a<|ln b.Mons) _ none)).trans ?_;rw[zy g,cT];refine(zX ((ix b.Mons a zf).Outer) (λi (t:(List Int))=>(a,ln (ix b.Mons a zf).Outer,(i:Int),t,b.Mons,())) _ (λ_ (x:Slot) (t:List Int) l=>zES (zrW x) t l) (λ(t:(List Int))=>cond (zhY t) (some [.one<|.s .int<|zj4 t]) none) (λi d t rec=>?_) (λt rec=>?_) _ ([])<|f c).trans ?_;{simp only [zbq d,zS d,zba d,zQ d c,cT];unfold zrW;cases ine (ix b.Mons a zf).Outer[i].Page (-1)<;>rfl};{simp only [zbl,cF]};rw[zvO (λ_ s=>zrW s) _ _ 0 [] (by simp;omega)];rfl}
theorem zFm:vQ 24 zwj:=kF2 zNU zq zo zWy zMR zLW
def zwZ (k:Kept)(j:Nat):Option Int:=bif zg3 k (j:Int) then zrW (zdq k (j:Int)) else none
def zJD (k:Kept):List Int:=picks (λj (_:Slot)=>zwZ k j) k.Slots 0
def zn1:List Kept->List Int
 |[]=>[]
 |k::l=>zJD k++zn1 l
def zo2:List Kept->Nat
 |[]=>0
 |k::l=>k.Slots.length+zo2 l
theorem zJC:∀l:List Kept,(zn1 l).length<=zo2 l
 |[]=>qX _
 |k::l=>by have a:=zJC l;have b:=zA3 (λj (_:Slot)=>zwZ k j) k.Slots 0;simp only[zn1,zo2,jT];unfold zJD;omega
theorem zHX {c:Type}(K:List Int->Option c):∀(l:List Kept) (i:Nat) (t:List Int),t.length+zo2 l<=2147483648->
 goL (λ_ (x:Kept) t b=>goL (λj (_:Slot) u a=>zES (zwZ x j) u a) b x.Slots 0 t) K l i t=K (t++zn1 l)
 |[],_,_,_=>by simp[goL,zn1]
 |k::l,i,t,h=>by simp only[zo2]at h;simp only[goL,zn1];have d:=zA3 (λj (_:Slot)=>zwZ k j) k.Slots 0;rw[zvO (λj (_:Slot)=>zwZ k j) _ k.Slots 0 t (by omega),<- j4];exact zHX K l (i+1) _ (by simp only[jT];omega)
def zTy (m:Int)(e:Entry):Option Int:=bif ieq (zcy e.Tag) m then some e.Host else none
def z0t (h:Host)(m:Int):List Int:=picks (λ_ e=>zTy m e) (h.Buffer++h.IoBuffer) 0
def zsn (h:Host)(m:Int):List Int:=bif hasB m (ln h.Mons) then zf3 (zn1 (ix h.Mons m zf).Tables++z0t h m) else []
def zKo (h:Host)(m:Int):Prop:=zbX h/\(hasB m (ln h.Mons)=true->zo2 (ix h.Mons m zf).Tables<=16777216)
theorem z6t {h:Host}(e:zbX h){m:Int}(c:hasB m (ln h.Mons)=true):∀x∈(ix h.Mons m zf).Tables,x.Known.length<=1048576/\x.Slots.length<=1048576:=by intro x b;have d:=e.mons.inv.2 _ (zbv c zf);have a:CVB sm (.s .kept (ix h.Mons m zf).Tables):=d _ (by simp[Ty.cells]);exact⟨(a.inv.2 x b (.s .bool x.Known) (by simp[Ty.cells])).len,(a.inv.2 x b (.s .slot x.Slots) (by simp[Ty.cells])).len⟩
def zAA (h:Host)(m:Int):Bool:=pc (zKo h m)
def zB2 (h:Host)(m:Int):List Int:=zsn h m
def zEn:Run:=rF2 dH dI λb c=>(zAA b c,[aS .int<|zB2 b c])
def zNh (N:Nat)(f:Host)(m:Int):OA:=
 (oN (zbg m<|ln f.Mons)<|cond (nB<|zcq m<|ln f.Mons) (some [aS .int []])<|oN (inb m<|ln f.Mons)<|iter (σ:=(Int×Int×Int×Int×(List Int)×lN×lM×lE×lE×Unit)) N (λA b=>let i:=b.2.2.2.2.2.2.2.1;let c:=b.2.2.2.1;let q:=(ix b.2.2.2.2.2.1 b.2.1 zf).Tables;let v:=ap (ap [] i) b.2.2.2.2.2.2.2.2.1; (cond (ilt c b.2.2.1) (oN (inb c<|ln q)<|iter (σ:=(Int×Int×Int×Int×Int×Int×Int×Int×Int×Int×(List Int)×lN×lM×lE×lE×Unit)) N (λp a=>let l:=a.2.2.2.2.2.2.1;let j:=a.2.2.2.2.2.2.2.1;let h:=a.2.2.2.2.2.2.2.2.1;let g:=a.2.2.2.2.2.2.2.2.2.1;let y:=a.2.2.2.2.2.2.2.2.2.2.2.2.1;let x:=a.2.2.2.2.2.2.2.2.2.2.2.2.2.1;let w:=a.2.2.2.2.2.2.2.2.2.2.2.2.2.2.1;let t:=a.2.2.2.2.2.2.2.2.2.2.1;let n:=a.2.2.2.2.2.1;let r:=a.2.2.2.2.2.2.2.2.2.2.2.1;let z:=p (a.1,a.2.1,a.2.2.1,a.2.2.2.1,a.2.2.2.2.1,zI .i64 n 1,l,j,h,g,t,r,y,x,w,());let u:=({ (ix (ix r l zf).Tables j zc3) with Slots:=(ix (ix r h zf).Tables g zc3).Slots}:Kept);let k:=(zgP u n).Page; (cond (ilt n a.2.2.2.2.1) (oN (zpp u n)<|cond (zj8 u n) (cond (ine k<|-1) (oN (few<|ln<|ap t [k])<|p (a.1,a.2.1,a.2.2.1,a.2.2.2.1,a.2.2.2.2.1,zI .i64 n 1,l,j,h,g,ap t [k],r,y,x,w,())) z) z)<|A (a.1,a.2.1,a.2.2.1,zI .i64 a.2.2.2.1 1,t,r,y,x,w,()))) (b.1,b.2.1,b.2.2.1,c,ln (ix q c zc3).Slots,0,b.2.1,c,b.2.1,c,b.2.2.2.2.1,b.2.2.2.2.2.1,b.2.2.2.2.2.2.1,i,b.2.2.2.2.2.2.2.2.1,()))<|oN (few<|ln<|ap [] i)<|oN (few<|ln v)<|iter (σ:=(Int×Int×Int×(List Int)×lE×Unit)) N (λp a=>let e:=a.2.2.2.2.1;let d:=a.2.2.2.1;let s:=ix e a.2.2.1 zd2; (cond (ilt a.2.2.1 a.2.1) (oN (inb a.2.2.1<|ln e)<|oN (zcN s.Tag)<|cond (ieq (zkH s.Tag) a.1) (oN (few<|ln<|ap d [s.Host])<|p (a.1,a.2.1,zI .i64 a.2.2.1 1,ap d [s.Host],e,()))<|p (a.1,a.2.1,zI .i64 a.2.2.1 1,d,e,()))<|oN (zhY d)<|some [aS .int<|zj4 d])) (b.1,ln v,0,b.2.2.2.2.1,v,()))) (m,m,ln (ix f.Mons m zf).Tables,0,[],f.Mons,f.Memory,f.Buffer,f.IoBuffer,()))
def zVk:=zx [(23,0,{n:=81,tm:=[(1,ti),(2,.lp 0 0),(5,.sl 0 []),(25,.sl 1 [7]),(26,ti),(27,ti)],lo:=[(0,[.sl 2 [],.sl 1 [],.sl 3 [],.sl 4 []])],ro:=[(0,.int,true),(1,.mon,false),(2,.sl .int,false),(3,.entry,false),(4,.entry,false)]}),(23,2,{n:=81,tm:=[(1,ti),(2,.lp 0 0),(5,.sl 0 []),(7,.lp 1 0),(25,.sl 1 [7]),(26,ti),(27,ti),(33,ti),(34,ti)],lo:=[(0,[.sl 2 [],.sl 1 [],.sl 3 [],.sl 4 []]),(1,[.sl 1 [7,0],.sl 1 [7,1]])],ro:=[(0,.int,true),(1,.mon,false),(2,.sl .int,false),(3,.entry,false),(4,.entry,false)]}),(23,4,{n:=81,tm:=[(1,ti),(5,.sl 0 []),(62,.sl 1 []),(63,ti),(64,ti)],lo:=[],ro:=[(0,.int,true),(1,.entry,true)]})]
theorem zUB (a:Host)(b:Int)(F:zAA a b=true):∃N,zNh N a b=some [aS .int<|zB2 a b]:=by
 have w:=zJ.1 F;have q:=w.1;refine zbZ λN k=>?_;unfold zNh zB2 zsn oN nB;conv=>zeta
 refine must rfl ?_;rw[show zcq b (ln a.Mons)=hasB b (ln a.Mons) from rfl];cases l:hasB b (ln a.Mons);{rfl};have D:=z6t q l;have H:=q.mons.inv.2 _ (zbv l zf);have E:CVB sm (.s .kept (ix a.Mons b zf).Tables):=H _ (by simp[Ty.cells]);have g:=(zcu E.len).1;have I:=w.2 l;have B:=q.buf.len;have C:=q.iob.len;unfold sm at B C;have J:=zJC (ix a.Mons b zf).Tables;refine zcQ rfl (must (zy l) ?_);refine(zX ((ix a.Mons b zf).Tables) (λi (t:(List Int))=>(b,b,ln (ix a.Mons b zf).Tables,(i:Int),t,a.Mons,a.Memory,a.Buffer,a.IoBuffer,())) _ (λ_ (x:Kept) (t:List Int) v=>goL (λj (_:Slot) u d=>zES (zwZ x j) u d) v x.Slots 0 t) (λ(t:(List Int))=>cond (few<|ln<|ap [] a.Buffer) (cond (few<|ln<|ap (ap [] a.Buffer) a.IoBuffer) (iter (σ:=(Int×Int×Int×(List Int)×lE×Unit)) N (λA c=>cond (ilt c.2.2.1 c.2.1) (cond (inb c.2.2.1<|ln c.2.2.2.2.1) (cond (zcN (ix c.2.2.2.2.1 c.2.2.1 zd2).Tag) (cond (ieq (zkH (ix c.2.2.2.2.1 c.2.2.1 zd2).Tag) c.1) (cond (few<|ln<|ap c.2.2.2.1 [(ix c.2.2.2.2.1 c.2.2.1 zd2).Host]) (A (c.1,c.2.1,zI .i64 c.2.2.1 1,ap c.2.2.2.1 [(ix c.2.2.2.2.1 c.2.2.1 zd2).Host],c.2.2.2.2.1,())) none)<|A (c.1,c.2.1,zI .i64 c.2.2.1 1,c.2.2.2.1,c.2.2.2.2.1,())) none) none)<|cond (zhY c.2.2.2.1) (some [.one<|.s .int<|zj4 c.2.2.2.1]) none) (b,ln<|ap (ap [] a.Buffer) a.IoBuffer,0,t,ap (ap [] a.Buffer) a.IoBuffer,())) none) none) (λi e t rec=>?_) (λt rec=>?_) _ ([])<|k g).trans ?_;{simp only [zbq e,zS e,zba e,zQ e g,cT];obtain⟨G,r⟩:=D _ (jD e);have p:=(zcu (n:=(ix a.Mons b zf).Tables[i].Slots.length) r).1;refine(zX (((ix a.Mons b zf).Tables)[i].Slots) (λj (u:(List Int))=>(b,b,ln (ix a.Mons b zf).Tables,(i:Int),ln ((ix a.Mons b zf).Tables)[i].Slots,(j:Int),b,(i:Int),b,(i:Int),u,a.Mons,a.Memory,a.Buffer,a.IoBuffer,())) _ (λj (_:Slot) (u:List Int) d=>zES (zwZ (ix a.Mons b zf).Tables[i] j) u d) (λ(u:(List Int))=>rec (b,b,ln (ix a.Mons b zf).Tables,((i+1:Nat):Int),u,a.Mons,a.Memory,a.Buffer,a.IoBuffer,())) (λj h u f=>?_) (λu f=>?_) _ (t)<|k p).trans ?_;{simp only [zbq h,zS h,zba h,zQ h p,cT,zS e,zba e,zQ e g,zy l];simp only[zpp,zgP,zj8,cT];unfold zwZ zrW;cases zg3 (ix a.Mons b zf).Tables[i] (j:Int);{rfl};{cases ine (zdq (ix a.Mons b zf).Tables[i] (j:Int)).Page (-1)<;>rfl}};{simp only [zbl,cF,zS e,zba e,zQ e g,zy l]};rfl};{simp only [zbl,cF]};rw[zHX _ _ 0 [] (by simp;omega)];refine must (zRk (by rw[zh6];omega)) (must (zRk (by rw[zh6];simp only[ap,jT];omega)) ?_);have m:(ap (ap [] a.Buffer) a.IoBuffer).length<=big:=(by rw[zpf,zh6];simp only[ap,jT];omega);obtain⟨t,z⟩:∃t,t=[]++zn1 (ix a.Mons b zf).Tables:=⟨_,rfl⟩;rw[<- z];refine(zX (ap (ap [] a.Buffer) a.IoBuffer) (λj (u:(List Int))=>(b,ln<|ap (ap [] a.Buffer) a.IoBuffer,(j:Int),u,ap (ap [] a.Buffer) a.IoBuffer,())) _ (λ_ (y:Entry) (u:List Int) v=>zES (zTy b y) u v) (λ(u:(List Int))=>cond (zhY u) (some [.one<|.s .int<|zj4 u]) none) (λj h u f=>?_) (λu f=>?_) _ (t)<|k m).trans ?_;{simp only [zbq h,zS h,zba h,zQ h m,cT];unfold zTy;simp only[zcN,zkH,cT];cases ieq (zcy (ap (ap [] a.Buffer) a.IoBuffer)[j].Tag) b<;>rfl};{simp only [zbl,cF]};subst z;rw[zvO (λ_ y=>zTy b y) _ _ 0 _ (by rw[zh6];simp only[ap,jT,vB];omega)];rfl
theorem zOP:vQ 23 zEn:=kF2 zNU zq zo zWy zVk zUB
section
open Go Go.RowKit Go.Maps
theorem zA4 {H:Type}{P:Program}{e:TypeId}(a:P.underlying e=some .bool){v:Value}{z:DataW H×List MemPlace}(h:plainElem P e v=some z):∃x,v = .bool x/\z=(.lit<|.bool x,[]):=by unfold plainElem at h;rw[a]at h;cases v<;>simp at h;exact⟨_,rfl,h.symm⟩
theorem zUS {H:Type}{P:Program}(w:World){j:Array Oper}{d:List Oper}{o:Oper}{a:Act}{Q:Exit->Act->World->Prop}(hg:o.guard=none)(m x:Operand)(t:TypeId)(p:o.op=Op.lookup t m x false)(k e:TypeId)(K:Keyed P k)(z:P.underlying t=some (.map k e))(r:P.underlying e=some .bool)(C:(zeroValue e).run P w = .ok (.bool false) w)(b n:Nat)(D:DataW H)(y:a.eval m = .map (some b))(g:w.ownsMap P k (plainElem P e) b n D)(i:Value)(s:Lit)(B:a.eval x=i)(f:keyOf P k i=some s)(u:∀c:Bool,D.atKey s (.lit<|.bool false) = .lit (.bool c)->wpList P j Q d (a.put o.dst<|.bool c) w) :
 wpList P j Q (o::d) a w:=by
 refine wpList_plain hg λE l=>?_;obtain⟨v,F,h,A⟩:=g.lookup K z C (plainElem_bool r false) f;obtain⟨c,rfl,q⟩:=zA4 r A;simp only[jM]at q;unfold Oper.wp;simp[execOp,p,y,B,h,Result.andThen];exact l _ _ (u c q.1)
def mapOf:List Int->DataW Unit
 |[]=>.map []
 |p::u=>(mapOf u).put (.int .i64 p) (.lit<|.bool true)
theorem zSC:∀u,IsMap (mapOf u)
 |[]=>isMap_empty
 |p::u=>(zSC u).put _ _
theorem zGf (p:Int):∀u,(mapOf u).atKey (.int .i64 p) (.lit<|.bool false) = .lit (.bool<|u.contains p)
 |[]=>rfl
 |q::u=>by by_cases h:p=q;{subst h;rw[mapOf,atKey_put_same (zSC u) (by exact True.intro)];simp};{rw [mapOf,atKey_put_other (by intro e;cases e;exact h rfl),zGf p u];simp[h]}
theorem zVX:Keyed Tryz.prog 3:=int_keyed Tryz.underlying3
theorem z3p (w:World):(zeroValue 4).run Tryz.prog w = .ok (.bool false) w:=by kernel_rfl
def wf64 (p:Int):Prop:=(Lit.int .i64 p).wf=true
def apS:List (Int×Int)->List Int->Option (List Int)
 |[],u=>some u
 |s::l,u=>if s.1 = -1 then apS l u else if u.contains s.1 then none else apS l (s.1::u)
def apM:List (List<|Int×Int)->List Int->Bool
 |[],_=>true
 |m::l,u=>match apS m u with
  |none=>false
  |some a=>apM l a
theorem zKq {l:List (Int×Int)}{j:Nat}{p r:Int}(h:l[j]?=some (p,r))(u:List Int):apS (l.drop j) u=if p = -1 then apS (l.drop<|j+1) u else if u.contains p then none else apS (l.drop<|j+1) (p::u):=by obtain⟨b,a⟩:=qA.1 h;rw[j3 b,a];rfl
theorem z5q {l:List (List<|Int×Int)}{k:Nat}{m:List (Int×Int)}(h:l[k]?=some m)(u:List Int):apM (l.drop k) u=match apS m u with|none=>false|some c=>apM (l.drop<|k+1) c:=by obtain⟨b,a⟩:=qA.1 h;rw[j3 b,a];rfl
structure SlotsAt (w:World) (B:Nat) (a:Option Addr) (l:List (Int×Int)):Prop where
 at1:∀j p r,l[j]?=some (p,r)->∃b off,a=some ⟨b,off,none⟩/\b<B/\w.cell? ⟨b,off+j*2,none⟩=some (.int .i64 p)/\w.cell? ⟨b,off+j*2+1,none⟩=some (.int .i64 r)/\wf64 p
structure MonsAt (w:World) (B:Nat) (a:Option Addr) (l:List (List (Int×Int))):Prop where
 at1:∀i m,l[i]?=some m->∃b off a2 cap p1 n1 q1 p2 n2 q2 p3 n3 q3 p4 n4 q4 x5 x6 p7 n7 q7 x8,a=some ⟨b,off,none⟩/\b<B/\w.cell? ⟨b,off+i*9,none⟩=some (.slice a2 m.length cap)/\SlotsAt w B a2 m/\m.length<=1048576/\
  w.cell? ⟨b,off+i*9+1,none⟩=some (.slice p1 n1 q1)/\w.cell? ⟨b,off+i*9+2,none⟩=some (.slice p2 n2 q2)/\w.cell? ⟨b,off+i*9+3,none⟩=some (.slice p3 n3 q3)/\w.cell? ⟨b,off+i*9+4,none⟩=some (.slice p4 n4 q4)/\
  w.cell? ⟨b,off+i*9+5,none⟩=some (.int .i64 x5)/\w.cell? ⟨b,off+i*9+6,none⟩=some (.int .i64 x6)/\w.cell? ⟨b,off+i*9+7,none⟩=some (.slice p7 n7 q7)/\w.cell? ⟨b,off+i*9+8,none⟩=some (.int .i64 x8)
theorem z6M (m x y:Value)(a:Option Addr)(B:Nat)(L:List (List<|Int×Int))(w:World)(hL:L.length<=1048576)(s:MonsAt w w.heap.size a L) :
 Calls Tryz.prog 51 #[.agg #[m,.slice a L.length B,x,y]] w λe w'=>e = .returned (.bool<|apM L [])/\Below w.heap.size w w':=by
 have a1:=@run_makeMap Tryz.prog
 go_enter Tryz.func51,Tryz.ntmps51
 go_wp2
 go_loopw [12] (λi wr=>∃(k:Nat) (u:List Int),k<=L.length/\i = .int .i64 k/\apM (L.drop k) u=apM L []/\wr.ownsMap Tryz.prog 3 (plainElem Tryz.prog 4) (w.heap.size+1) (k*1048576) (mapOf u)/\Below w.heap.size w wr/\w.heap.size+2<=wr.heap.size) (λi _=>L.length-(intOf i).toNat)
 case atStart=>exact⟨0,[],jS _,rfl,rfl,by
  have h:=World.ownsMap_made (H:=Unit) (w.alloc<|Obj.cells #[m,Value.slice a L.length B,x,y] 32) Tryz.prog 3 (plainElem Tryz.prog 4);rw[show (w.alloc<|Obj.cells #[m,Value.slice a L.length B,x,y] 32).heap.size=w.heap.size+1 from by simp]at h
  rw[Nat.zero_mul];exact h,((Below.refl _ _).alloc (qX _) _).alloc (by simp) _,by simp⟩
 case round=>
  obtain⟨k,u,hk,rfl,A,G,E,a3⟩:=hrel
  by_cases a0:k<L.length
  .obtain⟨t,hmm2⟩:∃t,L[k]?=some t:=⟨_,qB (by omega)⟩
   obtain⟨b,a4,a2,S,p1,n1,q1,p2,n2,q2,p3,n3,q3,p4,n4,q4,x5,x6,p7,n7,q7,x8,rfl,hb,T,O,M,W,X,Y,Z,e5,e6,e7,e8⟩:=s.at1 k t hmm2;obtain⟨U,D⟩:∃n,n=t.length:=⟨_,rfl⟩;rw[<- D] at T M;rw[<- E.cell (by exact hb)] at T W X Y Z e5 e6 e7 e8
   go_wp2
   go_loopw [19] (λj R=>∃(q:Nat) (v:List Int),q<=t.length/\j = .int .i64 q/\(match apS (t.drop q) v with|none=>false|some u'=>apM (L.drop<|k+1) u')=apM L []/\R.ownsMap Tryz.prog 3 (plainElem Tryz.prog 4) (w.heap.size+1) (k*1048576+q) (mapOf v)/\Below w.heap.size w R/\w.heap.size+2<=R.heap.size) (λj _=>t.length-(intOf j).toNat)
   case atStart=>exact⟨0,u,jS _,rfl,by rw[uW,<- z5q hmm2];exact A,(G.alloc _).mono (k5 _ _),E.alloc (by omega) _,by simp;omega⟩
   case round=>
    obtain⟨q,v,hq,rfl,d,f,g,I⟩:=hrel
    by_cases N:q<t.length
    .obtain⟨⟨p,r⟩,hpr⟩:∃Q,t[q]?=some Q:=⟨_,qB N⟩;obtain⟨b2,V,rfl,J,f0,f1,P⟩:=O.at1 q p r hpr;rw[<- g.cell (by exact J)] at f0 f1
     have z:keyOf Tryz.prog 3 (.int .i64 p)=some (.int .i64 p):=keyOf_int_mk Tryz.underlying3 P
     go_wp2_with (first
      |(at_lookup;refine zUS _ rfl _ _ 165 rfl 3 4 zVX Tryz.underlying165 Tryz.underlying4 (z3p _) (w.heap.size+1) _ _ rfl (f.alloc _) _ _ rfl z ?_;intro c s)
      |(at_mapUpdate;refine wpList_mapUpdate_own _ rfl _ _ _ 165 rfl 3 4 zVX Tryz.underlying165 _ (w.heap.size+1) _ _ rfl (f.alloc _) (by unfold maxLen;omega) _ _ _ rfl rfl z _ [] (plainElem_bool Tryz.underlying4 true) ?_;intro w1 F l)
      |go_in)
     .have h:p = -1:=by simpa using ‹(p == -1)=true›
      have e:=zKq hpr v;rw[if_pos h] at e;refine⟨⟨q+1,v,by omega,by go_num,by rw[<- e];exact d,(f.alloc _).mono (by omega),g.alloc (by omega) _,by simp;omega⟩,by simp[intOf];omega⟩
     .have h:p≠-1:=by simpa using ‹(p == -1)=false›
      have K:c=true:=by assumption
      subst K;rw[zGf]at s;have C:v.contains p=true:=by simpa using s
      have e:=zKq hpr v;rw[if_neg h,if_pos C] at e;rw[e]at d
      go_ret
      exact⟨by rw[<- d];rfl,g.alloc (by omega) _⟩
     .have h:p≠-1:=by simpa using ‹(p == -1)=false›
      have K:c=false:=by assumption
      subst K;rw[zGf]at s;have C:v.contains p=false:=by simpa using s
      have e:=zKq hpr v;rw[if_neg h,if_neg (by rw[C];simp)] at e
      have s1:=l.size;simp at s1
      go_roundw
      case rel=>
       exact⟨q+1,p::v,by omega,by go_num,by rw[<- e];exact d,by simpa [k6,mapOf] using F,(g.alloc (by omega) _).grown l (by simp;omega) (λj hj=>by cases hj;omega),by omega⟩
      case measure=>simp[intOf];omega
    .have hqe:q=t.length:=by omega
     subst hqe
     go_wp2
     rw[vL]at d;exact⟨⟨k+1,v,by omega,by go_num,d,f.mono (by omega),g,I⟩,by simp[intOf];omega⟩
  .have hke:k=L.length:=by omega
   subst hke
   go_wp2
   go_ret
   exact⟨by rw[<- A,vL];rfl,E⟩
def pairs (l:List Slot):List (Int×Int):=l.map λs=>(s.Page,s.Rights)
def z05 (h:Host):Prop:=∀m∈h.Mons,∀s∈m.Outer,wf64 s.Page
theorem zYk {w:World}{B:Nat}{v:Value}{l:List Slot}{S:zW}(h:Rep false w v (.s .slot l) S)(G:∀x,S x->x<B)(n:∀s∈l,wf64 s.Page):∃a c,v = .slice a (pairs l).length c/\SlotsAt w B a (pairs l):=by
 cases h with
 |nil=>exact⟨none,0,rfl,⟨λj p r h=>by simp[pairs]at h⟩⟩
 |void _ a _ M=>exact⟨some a,0,rfl,⟨λj p r h=>by simp[pairs]at h⟩⟩
 |sl _ _ b k c F e L V K _ u H C z I m D A E y=>refine⟨some ⟨b,k,none⟩,c,by simp[pairs],⟨λj p r d=>?_⟩⟩;unfold pairs at d;rw[qN]at d;cases f:l[j]? with|none=>rw[f]at d;cases d|some s=>rw[f]at d;cases d;have g:j<l.length:=(qA.1 f).1;have J:Ty.width .slot=2:=rfl;have q:=E j 0 g (by decide);have t:=E j 1 g (by decide);rw[(y j s f 0 (.i .i64 s.Page) rfl).int_inv] at q;rw[(y j s f 1 (.i .i64 s.Rights) rfl).int_inv] at t;exact⟨b,k,rfl,G b m,by rw[cell_of_block u];exact q,by rw[cell_of_block u];exact t,n s<|qJ f⟩
theorem zqU {w:World}{v:Value}{t:Ty}{l:List t.den}{S:zW}(h:Rep false w v (.s t l) S):∃p n q,v = .slice p n q:=by obtain⟨⟨a,b,c,_⟩,_⟩:=h.len;exact⟨a,_,b,c⟩
theorem zZ8 {w:World}{v:Value}{l:List Mon}{S:zW}(h:Rep false w v (.s .mon l) S)(B:∀x,S x->x<w.heap.size)(A:∀m∈l,∀s∈m.Outer,wf64 s.Page)(z:∀m∈l,m.Outer.length<=1048576) :
 ∃a g,v = .slice a (l.map λm=>pairs m.Outer).length g/\MonsAt w w.heap.size a (l.map λm=>pairs m.Outer):=by
 cases h with
 |nil=>exact⟨none,0,rfl,⟨λj m h=>by simp at h⟩⟩
 |void _ a _ ho=>exact⟨some a,0,rfl,⟨λj m h=>by simp at h⟩⟩
 |sl _ _ b k g H e fz V K _ U W E C Y t r D Z f=>refine⟨some ⟨b,k,none⟩,g,by simp,⟨λi mm p=>?_⟩⟩;rw[qN]at p;cases d:l[i]? with|none=>rw[d]at p;cases p|some m=>rw[d]at p;cases p;have q:i<l.length:=(qA.1 d).1;have T:∀j,j<9->∀x,K i j x->x<w.heap.size:=λj u x X=>B x (r i j x q u X).1;have c:∀j,j<9->w.cell? ⟨b,k+i*9+j,none⟩=some (V i j):=λj u=>(by rw[cell_of_block U];exact Z i j q u);have F:=qJ d;obtain⟨G,n,I,y⟩:=zYk (f i m d 0 (.s .slot m.Outer) rfl) (T 0 (by decide)) (A m F);obtain⟨p1,n1,q1,J⟩:=zqU (f i m d 1 (.s (.sl .int) m.Out) rfl);obtain⟨p2,n2,q2,L⟩:=zqU (f i m d 2 (.s .bool m.Dirty) rfl);obtain⟨p3,n3,q3,M⟩:=zqU (f i m d 3 (.s .guest m.Guests) rfl);obtain⟨p4,n4,q4,N⟩:=zqU (f i m d 4 (.s .int m.Outs) rfl);have O:=(f i m d 5 (.i .i64 m.Pending) rfl).int_inv;have P:=(f i m d 6 (.i .i64 m.Traps) rfl).int_inv;obtain⟨p7,n7,q7,Q⟩:=zqU (f i m d 7 (.s .kept m.Tables) rfl);have R:=(f i m d 8 (.i .i64 m.Own) rfl).int_inv;refine⟨b,k,G,n,p1,n1,q1,p2,n2,q2,p3,n3,q3,p4,n4,q4,m.Pending,m.Traps,p7,n7,q7,m.Own,rfl,B b t,?_,y,by simpa [pairs] using z m F,?_,?_,?_,?_,?_,?_,?_,?_⟩;{rw [<- I];exact c 0 (by decide)};{rw [<- J];exact c 1 (by decide)};{rw [<- L];exact c 2 (by decide)};{rw [<- M];exact c 3 (by decide)};{rw [<- N];exact c 4 (by decide)};{rw [<- O];exact c 5 (by decide)};{rw [<- P];exact c 6 (by decide)};{rw [<- Q];exact c 7 (by decide)};{rw [<- R];exact c 8 (by decide)}
def zrY (h:Host):Bool:=apM (h.Mons.map λm=>pairs m.Outer) []
@[simp] abbrev zvX (h:Host):Bool:=pc (zbX h/\z05 h)
@[simp] abbrev zAz (h:Host):Bool:=zrY h
def zm0:List AV->Option (Bool×List AV)
 |[.agg [.s (.sl .int) m,.s .mon l,.s .entry b,.s .entry c]]=>some (zvX ⟨m,l,b,c⟩,[.one<|.b<|zAz ⟨m,l,b,c⟩])
 |_=>none
theorem zAp:vQ 51 zm0:=by
 refine⟨zia (by kernel_rfl),?_⟩;intro w A z I f d;unfold zm0 at d;split at d
 .rename_i m l b c;simp only[qC,jM]at d;obtain⟨k,rfl⟩:=d;obtain⟨q,t⟩:=zJ.1 k;have D:z.length=4:=f.1
  match z,D with
  |[E,y,F,G],_=>
   have B:Rep false w y (.s .mon l) (λb=>b<w.heap.size):=f.2 1 _ y rfl rfl;have e:=q.mons;obtain⟨a,n,rfl,p⟩:=zZ8 B (λx u=>u) t (λm v=>by
    obtain⟨i,H⟩:=qS.1 v;exact(e.inv.2 m v (.s .slot m.Outer) (by simp[Ty.cells])).len)
   refine(z6M E F G a n _ w (by have:=e.len;unfold sm at this;simpa using this) p).mono ?_;rintro r J ⟨rfl,g⟩;refine⟨⟨g.os,g.tape,g.output,g.size,λb C=>g.block b C⟩,[.bool _],λ_ _=>False,⟨rfl,λi c x k u=>?_⟩,rfl,⟨λi x _ h=>h.elim,λi j c x _ _ _ h=>h.elim⟩⟩;cases i with|zero=>cases k;cases u;exact .b _ _|succ i=>simp[zB,AV.cvs]at k
 {cases d}
end
def spS:List Slot->List Int->Option (List Int)
 |[],u=>some u
 |s::l,u=>bif ieq s.Page (-1) then spS l u else (cond (u.any λz=>ieq z s.Page) none<|spS l<|ap u [s.Page])
def spM:List Mon->List Int->Bool
 |[],_=>true
 |m::l,u=>match spS m.Outer u with
  |none=>false
  |some v=>spM l v
def zB7:List Mon->Nat
 |[]=>0
 |m::l=>m.Outer.length+zB7 l
theorem zVS {x y:Int}:(ieq x y=true)↔x=y:=by simp[ieq]
theorem z5p (u:List Int)(p:Int):u.any (λz=>ieq z p)=u.reverse.contains p:=by cases h:u.any (λz=>ieq z p);{have:¬ u.reverse.contains p=true:=λa=>(by rw[kF]at h;have c:p∈u:=(by simpa using a);exact h p c (by simp[ieq]));cases a:u.reverse.contains p;{rfl};{exact absurd a this}};{obtain⟨z,b,e⟩:=kQ.1 h;rw[zVS.1 e]at b;simpa using b}
theorem zTr:∀(l:List Slot) (u:List Int),apS (pairs l) u.reverse=(spS l u).map List.reverse
 |[],u=>rfl
 |s::l,u=>by
  show (if s.Page = -1 then apS (pairs l) u.reverse else if u.reverse.contains s.Page then none else apS (pairs l) (s.Page::u.reverse))=_;unfold spS;rw[z5p];by_cases h:s.Page = -1;{rw [if_pos h,zVS.2 h,cT];exact zTr l u};{rw [if_neg h,show ieq s.Page (-1)=false from by simp[ieq,h],cF];cases a:u.reverse.contains s.Page;{have:=zTr l (ap u [s.Page]);rw[show (ap u [s.Page]).reverse=s.Page::u.reverse from by simp[ap]] at this;simpa using this};{rfl}}
theorem z0R:∀(l:List Mon) (u:List Int),apM (l.map λ(m:Mon)=>pairs m.Outer) u.reverse=spM l u
 |[],u=>rfl
 |m::l,u=>by
  show (match apS (pairs m.Outer) u.reverse with|none=>false|some v=>apM (l.map λ(m:Mon)=>pairs m.Outer) v)=_;rw[zTr];unfold spM;cases spS m.Outer u with|none=>rfl|some v=>exact z0R l v
theorem z1a (h:Host):zrY h=spM h.Mons []:=z0R h.Mons []
def z7f (h:Host):Prop:=zbX h/\zB7 h.Mons<=16777216
def z8A:zV:=[(51,zm0),(52,zl2),(53,zkZ)]++zWY
theorem z1O:zL z8A:=zh zAp (zh zo6<|zh znO zsC)
theorem zD7:∀(l:List Mon) (u:List Bool),zhJ l u=true->∀x∈l,zd6 x=true
 |[],_,_,x,a=>by cases a
 |m::l,u,h,x,a=>by
  unfold zhJ at h;cases b:zd6 m;{rw [b]at h;cases h}
  .rw [b]at h;simp only[cT]at h;cases c:zgJ m.Outer u with
   |none=>rw[c]at h;cases h
   |some d =>rw[c]at h;rcases qG.1 a with rfl|a;{exact b};{exact zD7 l d h x a}
theorem zD8 {h:Host}(a:zbM h=true):∀x∈h.Mons,zd6 x=true:=by unfold zbM at a;simp only[zcR]at a;exact zD7 _ _ a.2.2.2.2
theorem z2U {t:List Slot}{n:Int}(h:zcJ t n 12=true):∀s∈t,-1<=s.Page/\s.Page<12:=by intro s c;unfold zcJ at h;simp only[zcR]at h;have a:=qL.1 h.1 s c;unfold zdT at a;cases b:zct s noSlot;{rw [b]at a;simp only[cF,zcR]at a;have:=zfj.1 a.2.1;rw[show wsub .i64 12 1=11 from rfl] at this;omega};{unfold zct at b;rw[qE]at b;have:s.Page = -1:=qD b.1;omega}
theorem zOe:∀l:List Mon,(∀x∈l,zd6 x=true)->zB7 l=8*l.length
 |[],_=>rfl
 |m::l,h=>by have c:=znu (ziv<|h m (by simp));have a:=zOe l (λx b=>h x (by simp[b]));simp only[zB7,qV,a,ln] at *;omega
theorem zYE {h:Host}(b:zbX h)(a:zbM h=true):z7f h:=by refine⟨b,?_⟩;rw[zOe _<|zD8 a];have:=zIT a;omega
theorem z0m {h:Host}(c:zbM h=true):z05 h:=by intro m d s e;have:=z2U (ziv<|zD8 c m d) s e;unfold wf64 Lit.wf;simp only[qE,decide_eq_true_iff];have a:IntKind.i64.min = -9223372036854775808:=rfl;have b:IntKind.i64.max=9223372036854775807:=rfl;rw[a,b];omega
def zpM (h:Host):Bool:=bif zbM h then (cond (zrY h) (cond (zmy h) (cond (zkD h h.Buffer) (zkD h h.IoBuffer) false) false) false) else false
@[simp] abbrev zlu (h:Host):Bool:=zpM h
def zwk:Run:=rF1 dH λb=>(zbi b,[aB<|zlu b])
def zzq (N:Nat)(a:Host):OA:=
 (oN (zc9 a)<|cond (zdj a) (oN (zvX a)<|cond (zAz a) (oN (znQ a)<|cond (zhX a) (oN (zjB a a.Buffer)<|cond (zgg a a.Buffer) (oN (zjB a a.IoBuffer)<|some [aB<|zgg a a.IoBuffer]) oF) oF) oF) oF)
theorem zLY (a:Host)(b:zbi a=true):∃N,zzq N a=some [aB<|zlu a]:=by have c:=zJ.1 b;have d:zbM a=true->z7f a:=zYE c;have e:zbM a=true->z05 a:=z0m;refine⟨0,?_⟩;unfold zzq oN;refine must rfl (br (λ_=>mu (br (λ_=>must rfl (br (λ_=>must rfl (br (λ_=>must rfl ?_) λ_=>?_)) λ_=>?_)) λ_=>?_)) λ_=>?_);all_goals first|rfl|(simp only [*,zlu,zpM,zhX,zgg,cT,cF]<;>rfl)|simp_all[Ty.cells,zlu,zpM,zhX,zgg]
theorem zFp:vQ 11 zwk:=kF1 z1O zq zo zu (zx []) zLY
def Ends {b:Type}(G:b->Prop)(o:Option b):Prop:=∃a,o=some a/\G a
section
variable {ρ:Type} {G:ρ->Prop}
theorem zbF {c:Bool}{a b:Option ρ}(h:c=true)(k:Ends G a):Ends G (cond c a b):=by rw[h];exact k
theorem zdz {c:Bool}{a b:Option ρ}(d:c=true->Ends G a)(e:c=false->Ends G b):Ends G (cond c a b):=by cases c;{exact e rfl};{exact d rfl}
theorem zmW {x:Option ρ}{f:Option ρ->Option ρ}(h:Ends G x)(k:∀t,Ends G t->Ends G (f t)):Ends G (share x f):=k x h
theorem zHL {a:ρ}(h:G a):Ends G (some a):=⟨a,rfl,h⟩
theorem zsI {b:Type}{F:(b->Option ρ)->b->Option ρ}(I:Nat->b->Prop)(h:∀n s rec,I n s->(∀k a,k<n->I k a->Ends G (rec a))->Ends G (F rec s)):∀(N n:Nat) (s:b),I n s->n<N->Ends G (iter N F s)
 | 0,n,s,_,c=>absurd c (Nat.not_lt_zero n)
 |N+1,n,s,d,c=>h n s (iter N F) d λk a f e=>zsI I h N k a e (by omega)
theorem z6g {G:Ans->Prop}{o:OA}{r:Ans}(h:Ends (λa=>a=r) o):o=some r:=by obtain⟨a,b,c⟩:=h;rw[b,c]
end
instance:Inhabited Cur:=⟨⟨[],0,0⟩⟩
def uC {T:Type}(ok:T->Prop):Bool:=pc (∃v,ok v)
def uV {T:Type}[Nonempty T](ok:T->Prop):T:=Classical.epsilon ok
theorem uG {T:Type}[Nonempty T]{ok:T->Prop}(h:uC ok=true):ok (uV ok):=Classical.epsilon_spec (zJ.1 h)
def wC {T:Type}(ok:Cur->T->Prop):Bool:=uC λr:Cur×T=>ok r.1 r.2
def wS {T:Type}[Nonempty T](ok:Cur->T->Prop):Cur:=bif wC ok then (uV λr:Cur×T=>ok r.1 r.2).1 else ⟨[],0,0⟩
def wV {T:Type}[Nonempty T](ok:Cur->T->Prop):T:=(uV λr:Cur×T=>ok r.1 r.2).2
theorem wG {T:Type}[Nonempty T]{ok:Cur->T->Prop}(h:wC ok=true):ok (wS ok) (wV ok):=by unfold wS wV;rw[h,cT];exact uG h
theorem wP {T:Type}[Nonempty T]{ok:Cur->T->Prop}(k:∀{s v},ok s v->0<=s.i):0<=(wS ok).i:=by cases h:wC ok with|false=>unfold wS;rw[h];exact kL 0|true=>exact k (wG h)
abbrev wE {T:Type}(e:T->AV)(b:List Int)(c:T->Prop):Ans->Prop:=λa=>∃s d,a=(AV.agg (zfw s)::[e d])/\(s.b=b/\0<=s.i)/\c d
theorem wI {T:Type}{ok:Cur->T->Prop}{E:Nat->OA}{d:T->AV}{b:List Int}{c:T->Prop}(k:∀s v,((∃N,E N=some (AV.agg (zfw s)::[d v]))/\(s.b=b/\0<=s.i)/\c v)->ok s v)(h:∃N,Ends (wE d b c)<|E N):wC ok=true:=by obtain⟨N,a,e,s,v,rfl,h⟩:=h;exact zbo ⟨(s,v),k s v ⟨⟨N,e⟩,h⟩⟩
abbrev zkw:=List CV->List AV->Option (Bool×List CV×List AV)
abbrev zEP:=List AV->Option (Bool×List CV×List AV)
def pR (k:Cur->zEP):zkw
 |[.s .u8 b,.i .i64 i,.i .i64 h],a=>k ⟨b,i,h⟩ a
 |_,_=>none
def z2z {b:Type}(D:Dc b)(k:b->zEP):zEP
 |[]=>none
 |a::l=>match D.d a with
  |some x=>k x l
  |none=>none
def zQe (r:Bool×Cur×List AV):zEP
 |[]=>some (r.1,zfw r.2.1,r.2.2)
 |_=>none
theorem z8e {k:Cur->zEP}{b:List CV}{a:List AV}{r:Bool×List CV×List AV}(h:pR k b a=some r):∃c,b=zfw c/\k c a=some r:=by unfold pR at h;split at h;{exact⟨_,rfl,h⟩};{cases h}
theorem z2A {c:Type}{D:Dc c}{k:c->zEP}{b:List AV}{r:Bool×List CV×List AV}(h:z2z D k b=some r):∃x l,b=D.e x::l/\k x l=some r:=by unfold z2z at h;split at h;{cases h};{rename_i a l;split at h;{rename_i x d;exact⟨x,l,by rw[D.h d],h⟩};{cases h}}
theorem zOf {q:Bool×Cur×List AV}{b:Bool}{c:List CV}{d a:List AV}(h:zQe q a=some (b,c,d)):a=[]/\q.1=b/\c=zfw q.2.1/\d=q.2.2:=by unfold zQe at h;split at h<;>cases h;exact⟨rfl,rfl,rfl,rfl⟩
section
variable {c:zV} {m:zg6} {p:zdL} {t:zfg} (o1:zL c) (o2:zfG m) (o3:zcG p) (o4:zea t) (tms:FuncId->Nat->Option Tmpl) {f:FuncId}
include o1 o2 o3 o4
theorem hPx {k:Cur->zEP}(j:zfn f=true)(h:∀x b a d,k x b=some (true,a,d)->a.length=3/\∃N,zp2 (cQ c m p t) tms N 12 f [false,true,true] (zfw x) b=some (.agg a::d)):zdg Tryz.prog f [false,true,true] (pR k):=by refine zhz (zgL o1 o2 o3 o4) (zia j) ?_;intro l b a d n q e;obtain⟨x,rfl,e⟩:=z8e e;obtain⟨g,N,i⟩:=h x b a d e;exact⟨g,tms,N,12,i⟩
def rP0 (g:Cur->Bool×Cur×List AV):zkw:=pR λc=>zQe (g c)
theorem hP0 {g:Cur->Bool×Cur×List AV}{E:Nat->Cur->OA}(a:∀x,(g x).1=true->∃N,E N x=some (.agg (zfw (g x).2.1)::(g x).2.2))(k:∀N x,zp2 (cQ c m p t) tms N 12 f [false,true,true] (zfw x) []=E N x:=by intros;kernel_rfl)(j:zfn f=true:=by kernel_rfl):zdg Tryz.prog f [false,true,true] (rP0 g):=
 hPx o1 o2 o3 o4 tms j λx b d l e=>by obtain⟨rfl,i,rfl,rfl⟩:=zOf e;obtain⟨N,h⟩:=a x i;exact⟨rfl,N,(k N x).trans h⟩
def rP1 {A:Type}(D:Dc A)(g:Cur->A->Bool×Cur×List AV):zkw:=pR λc=>z2z D λa=>zQe (g c a)
theorem hP1 {A:Type}{D:Dc A}{g:Cur->A->Bool×Cur×List AV}{E:Nat->Cur->A->OA}(b:∀x a,(g x a).1=true->∃N,E N x a=some (.agg (zfw (g x a).2.1)::(g x a).2.2))(q:∀N x a,zp2 (cQ c m p t) tms N 12 f [false,true,true] (zfw x) [D.e a]=E N x a:=by intros;kernel_rfl)(n:zfn f=true:=by kernel_rfl):zdg Tryz.prog f [false,true,true] (rP1 D g):=
 hPx o1 o2 o3 o4 tms n λx d i r e=>by obtain⟨a,l,rfl,j⟩:=z2A e;obtain⟨rfl,k,rfl,rfl⟩:=zOf j;obtain⟨N,h⟩:=b x a k;exact⟨rfl,N,(q N x a).trans h⟩
end
instance:Inhabited Ins:=⟨⟨0,0⟩⟩
instance:Inhabited GAct:=⟨⟨0,0,0,0,0,0⟩⟩
instance:Inhabited Ctl:=⟨⟨0,0,false⟩⟩
instance:Inhabited Host:=⟨⟨[],[],[],[]⟩⟩
def zd3 (c:Cur):Prop:=0<=c.i/\c.b.length<=big
theorem zlp {T:Type}(d:T->AV){c:T->Prop}{b:List Int}{x y:Int}{v:T}(h:0<=x)(g:c v):Ends (λa=>∃s e,a=(AV.agg (zfw s)::[d e])/\(s.b=b/\0<=s.i)/\c e) (some (AV.agg [.s .u8 b,.i .i64 x,.i .i64 y]::[d v])):=
 ⟨_,rfl,⟨b,x,y⟩,v,rfl,⟨rfl,h⟩,g⟩
def zuO (N:Nat)(c:Cur)  : OA :=
 let a:=zI .i64 (zl3 .i64 c.h 6364136223846793005) 1442695040888963407;let d:=wand .i64 (z3o .i64 (zjR .i64 a 33)<|zjR .i64 a 45) 255; (oN (ile 0 33)<|oN (ile 0 45)<|cond (ilt c.i<|ln c.b) (oN (inb c.i<|ln c.b)<|some [.agg [.s .u8 c.b,.i .i64<|zI .i64 c.i 1,.i .i64 a],aI<|wand .i64 (zI .i64 d<|wcv .i64<|ix c.b c.i 0) 255])<|some [.agg [.s .u8 c.b,.i .i64 c.i,.i .i64 a],aI d])
def zoS (c:Cur)(s:Cur)(a:Int):Prop:=(∃N,zuO N c=some (AV.agg (zfw s)::[aI a]))/\(s.b=c.b/\0<=s.i)/\(0<=a/\a<=255)
def zeF (c:Cur)  : Bool:=wC (zoS c)
def zdf (c:Cur)  : Cur:=wS (zoS c)
def zgH (c:Cur)  : Int:=wV (zoS c)
theorem zms {c:Cur}(h:zeF c=true):zoS c (zdf c) (zgH c):=wG h
theorem zmt (c:Cur)  : 0<=(zdf c).i:=wP λh=>h.2.1.2
theorem zUZ (c:Cur)(h:∃N,Ends (wE (λa=>aI a) c.b λa=>0<=a/\a<=255)<|zuO N c):zeF c=true:=wI (λ_ _ h=>h) h
def zwd:zkw:=rP0 λc=>(zeF c,zdf c,[aI<|zgH c])
theorem zIC:zdg Tryz.prog 161 [false,true,true] zwd:=hP0 zgb zbh zo zu (zx []) (λ_ h=>(zms h).1)
theorem zOA {x m:Int}(c:0<=m)(d:m<9223372036854775808):0<=wand .i64 x m/\wand .i64 x m<=m:=by have b:(BitVec.ofInt 64 m).toNat=m.toNat:=(by rw[BitVec.toNat_ofInt];omega);have a:(BitVec.ofInt 64 x &&& BitVec.ofInt 64 m).toNat<=m.toNat:=(by rw[BitVec.toNat_and,b];exact Nat.and_le_right);unfold wand;show 0<=IntKind.wrap .i64 ((BitVec.ofInt 64 x &&& BitVec.ofInt 64 m).toNat:Int)/\IntKind.wrap .i64 ((BitVec.ofInt 64 x &&& BitVec.ofInt 64 m).toNat:Int)<=m;rw[zsq (by omega) (by omega)];omega
@[simp] theorem zHE {c:Cur}(h:zd3 c):zeF c=true:=by
 refine zUZ c ⟨0,?_⟩;unfold zuO oN;conv=>zeta
 refine zbF rfl (zbF rfl (zdz (λa=>zbF (qK ⟨h.1,qD a⟩) (zlp aI ?_<|zOA (by omega) (by omega))) λ_=>zlp aI h.1 (zOA (by omega) (by omega))));have d:c.i<ln c.b:=qD a;have e:=h.2;have f:=h.1;rw[zpf]at e;unfold ln at d;rw[zny (by omega) (by omega)];omega
def z4P:zdL:=[(161,[false,true,true],zwd)]++zMB
theorem zSO:zcG z4P:=zem zo (by
 intro x a;simp only[qG,qW,or_false]at a;rcases a with rfl
 .exact zIC)
theorem zE9 {b:List Int}{i h:Int}(a:0<=i)(c:b.length<=big):zd3 ⟨b,i,h⟩:=⟨a,c⟩
theorem zWG {x n:Int}(a:0<=x)(b:0<n):0<=zlc x n/\zlc x n<n:=by unfold zlc;exact⟨Int.tmod_nonneg _ a,Int.tmod_lt_of_pos _ b⟩
def zsv (N:Nat)(c:Cur)(a:Int):OA:=
 let f:=({ (zdf c) with b:=c.b}:Cur);let e:=({ (zdf f) with b:=c.b}:Cur);let d:=({ (zdf e) with b:=c.b}:Cur); (cond (ile a 0) (some [.agg [.s .u8 c.b,.i .i64 c.i,.i .i64 c.h],aI 0])<|cond (ile a 256) (oN (zeF c)<|oN (ine a 0)<|some [.agg [.s .u8 c.b,.i .i64 (zdf c).i,.i .i64 (zdf c).h],aI<|zlc (zgH c) a])<|oN (zeF c)<|oN (zeF f)<|oN (zeF e)<|oN (zeF d)<|oN (ine a 0)<|some [.agg [.s .u8 c.b,.i .i64 (zdf d).i,.i .i64 (zdf d).h],aI<|zlc (zI .i64 (zI .i64 (zI .i64 (zl3 .i64 (zgH c) 16777216)<|zl3 .i64 (zgH f) 65536)<|zl3 .i64 (zgH e) 256)<|zgH d) a])
def zmO (c:Cur)(a:Int)(s:Cur)(d:Int):Prop:=(∃N,zsv N c a=some (AV.agg (zfw s)::[aI d]))/\(s.b=c.b/\0<=s.i)/\(0<a->0<=d/\d<a)
def zbd (c:Cur)(a:Int):Bool:=wC (zmO c a)
def zF (c:Cur)(a:Int):Cur:=wS (zmO c a)
def zZ (c:Cur)(a:Int):Int:=wV (zmO c a)
theorem ztq {c:Cur}{a:Int}(h:zbd c a=true):zmO c a (zF c a) (zZ c a):=wG h
theorem zcO (c:Cur)(a:Int):0<=(zF c a).i:=wP λh=>h.2.1.2
theorem zTa (c:Cur)(a:Int)(h:∃N,Ends (wE (λd=>aI d) c.b λd=>0<a->0<=d/\d<a)<|zsv N c a):zbd c a=true:=wI (λ_ _ h=>h) h
def zui:zkw:=rP1 dI λc b=>(zbd c b,zF c b,[aI<|zZ c b])
theorem zFV:zdg Tryz.prog 65 [false,true,true] zui:=hP1 zgb zbh zSO zu (zx []) (λ_ _ h=>(ztq h).1)
theorem ziP {c:Cur}(h:zd3 c)(n:Int):zbd c n=true:=by
 refine zTa c n ⟨0,?_⟩;have f:=zHE h;have k:zeF {zdf c with b:=c.b}=true:=zHE (zE9 (zmt _) h.2);have l:zeF {zdf {zdf c with b:=c.b} with b:=c.b}=true:=zHE (zE9 (zmt _) h.2);have m:zeF {zdf {zdf {zdf c with b:=c.b} with b:=c.b} with b:=c.b}=true:=zHE (zE9 (zmt _) h.2);have i:=(zms f).2.2;have q:=(zms k).2.2;have r:=(zms l).2.2;have s:=(zms m).2.2;unfold zsv oN;conv=>zeta
 refine zdz (λd=>zlp aI h.1 λu=>absurd (qD d) (by omega)) (λd=>?_);have u:¬ n<=0:=jR d;have j:ine n 0=true:=(by simp[ine];omega);refine zdz (λt=>zbF f (zbF j<|zlp aI (zmt _) λe=>zWG i.1 e)) (λt=>?_);refine zbF f (zbF k<|zbF l<|zbF m<|zbF j<|zlp aI (zmt _) λe=>zWG ?_ e);generalize zgH c=a at i;generalize zgH _=g at q;generalize zgH _=p at r;generalize zgH _=z at s;have v:zl3 .i64 a 16777216=a*16777216:=zsq (by omega) (by omega);have w:zl3 .i64 g 65536=g*65536:=zsq (by omega) (by omega);have y:zl3 .i64 p 256=p*256:=zsq (by omega) (by omega);rw[v,w,y,zny (x:=a*16777216) (by omega) (by omega),zny (x:=a*16777216+g*65536) (by omega) (by omega),zny (by omega) (by omega)];omega
def z4Q:zdL:=[(65,[false,true,true],zui)]++z4P
theorem zGl:zcG z4Q:=zem zSO (by
 intro x a;simp only[qG,qW,or_false]at a;rcases a with rfl
 .exact zFV)
def zuP (N:Nat)(c:Cur)(a:Int):OA:=
 (oN (zbd c a)<|some [.agg [.s .u8 c.b,.i .i64 (zF c a).i,.i .i64 (zF c a).h],aB<|ieq (zZ c a) 0])
def zoT (c:Cur)(a:Int)(s:Cur)(d:Bool):Prop:=(∃N,zuP N c a=some (AV.agg (zfw s)::[aB d]))/\(s.b=c.b/\0<=s.i)/\(True)
def zho (c:Cur)(a:Int):Bool:=wC (zoT c a)
def zdC (c:Cur)(a:Int):Cur:=wS (zoT c a)
def zns (c:Cur)(a:Int):Bool:=wV (zoT c a)
theorem zU0 {c:Cur}{a:Int}(h:zho c a=true):zoT c a (zdC c a) (zns c a):=wG h
theorem ziA (c:Cur)(a:Int):0<=(zdC c a).i:=wP λh=>h.2.1.2
theorem zU1 (c:Cur)(a:Int)(h:∃N,Ends (wE (λd=>aB d) c.b λd=>True)<|zuP N c a):zho c a=true:=wI (λ_ _ h=>h) h
def zwe:zkw:=rP1 dI λc b=>(zho c b,zdC c b,[aB<|zns c b])
theorem zID:zdg Tryz.prog 93 [false,true,true] zwe:=hP1 zgb zbh zGl zu (zx []) (λ_ _ h=>(zU0 h).1)
theorem zSK {c:Cur}(h:zd3 c)(n:Int):zho c n=true:=by refine zU1 c n ⟨0,?_⟩;unfold zuP oN;exact zbF (ziP h _) (zlp aB (zcO _ _) trivial)
def zpb (N:Nat)(c:Cur)(a:List Int):OA:=
 (oN (zbd c<|ln a)<|oN (inb (zZ c<|ln a)<|ln a)<|some [.agg [.s .u8 c.b,.i .i64 (zF c<|ln a).i,.i .i64 (zF c<|ln a).h],aI<|ix a (zZ c<|ln a) 0])
def zku (c:Cur)(a:List Int)(s:Cur)(d:Int):Prop:=(∃N,zpb N c a=some (AV.agg (zfw s)::[aI d]))/\(s.b=c.b/\0<=s.i)/\(0<a.length->d∈a)
def zdR (c:Cur)(a:List Int):Bool:=wC (zku c a)
def zb6 (c:Cur)(a:List Int):Cur:=wS (zku c a)
def zex (c:Cur)(a:List Int):Int:=wV (zku c a)
theorem zwH {c:Cur}{a:List Int}(h:zdR c a=true):zku c a (zb6 c a) (zex c a):=wG h
theorem zlS (c:Cur)(a:List Int):0<=(zb6 c a).i:=wP λh=>h.2.1.2
theorem zMI (c:Cur)(a:List Int)(h:∃N,Ends (wE (λd=>aI d) c.b λd=>0<a.length->d∈a)<|zpb N c a):zdR c a=true:=wI (λ_ _ h=>h) h
def zrH:zkw:=rP1 (dS .int) λc b=>(zdR c b,zb6 c b,[aI<|zex c b])
theorem zAy:zdg Tryz.prog 194 [false,true,true] zrH:=hP1 zgb zbh zGl zu (zx []) (λ_ _ h=>(zwH h).1)
theorem zJz {c:Cur}(h:zd3 c){l:List Int}(b:l≠[]):zdR c l=true:=by refine zMI c l ⟨0,?_⟩;have d:0<ln l:=(by unfold ln;have:=kP.2 b;omega);have g:=(ztq<|ziP h<|ln l).2.2 d;have a:inb (zZ c<|ln l) (ln l)=true:=qK ⟨g.1,g.2⟩;unfold zpb oN;exact zbF (ziP h _) (zbF a<|zlp aI (zcO _ _) λ_=>zbv a 0)
def z4R:zdL:=[(93,[false,true,true],zwe),(194,[false,true,true],zrH)]++z4Q
theorem zSP:zcG z4R:=zem zGl (by
 intro x a;simp only[qG,qW,or_false]at a;rcases a with rfl|rfl
 .exact zID
 .exact zAy)
theorem zf5 {c:Cur}{i k:Int}(h:zd3 c)(a:0<=i):zd3 ⟨c.b,i,k⟩:=⟨a,h.2⟩
theorem z6N {c:Cur}(h:zd3 c){l:List Int}(a:l≠[]):zex c l∈l:=(zwH<|zJz h a).2.2 (kP.2 a)
theorem zmU {c:Cur}(h:zd3 c){n:Int}(a:0<n):0<=zZ c n/\zZ c n<n:=(ztq<|ziP h n).2.2 a
theorem zIW {o x:Int}(h:(o=1\/o=2\/o=5\/o=6)/\0<=x/\x<=99\/(o=3\/o=4)/\0<=x/\x<=15\/o=8/\0<=x/\x<=11):zeJ ⟨o,x⟩=true:=by have w:∀{a b:Int},a<=x->x<=b->zi x a b=true:=λc d=>(by simp only[zi,ige,ile,qE,qZ];exact⟨c,d⟩);rcases h with⟨h|h|h|h,c,d⟩|⟨h|h,c,d⟩|⟨h,c,d⟩<;>subst h<;>exact w c d
def zwP (N:Nat)(c:Cur)  : OA :=
 let d:=zex c [1,2,3,3,3,4,4,4,5,6,8];let a:=({ (zb6 c [1,2,3,3,3,4,4,4,5,6,8]) with b:=c.b}:Cur); (share (oN (zbd a 16)<|some [.agg [.s .u8 c.b,.i .i64 (zF a 16).i,.i .i64 (zF a 16).h],.agg [.i .i64 d,.i .i64<|zZ a 16]]) λf=>share (cond (ieq d 8) (oN (zbd a 4)<|some [.agg [.s .u8 c.b,.i .i64 (zF a 4).i,.i .i64 (zF a 4).h],.agg [.i .i64 d,.i .i64<|zZ a 4]])<|oN (zbd a 100)<|some [.agg [.s .u8 c.b,.i .i64 (zF a 100).i,.i .i64 (zF a 100).h],.agg [.i .i64 d,.i .i64<|zZ a 100]]) λe=>oN (zdR c [1,2,3,3,3,4,4,4,5,6,8])<|cond (ieq d 3) (cond (ieq d 3) f e)<|cond (ieq d 4) f e)
def zqs (c:Cur)(s:Cur)(a:Ins):Prop:=(∃N,zwP N c=some (AV.agg (zfw s)::[aT .ins a]))/\(s.b=c.b/\0<=s.i)/\(zeJ a=true)
def zoU (c:Cur)  : Bool:=wC (zqs c)
def zoV (c:Cur)  : Cur:=wS (zqs c)
def zxR (c:Cur)  : Ins:=wV (zqs c)
theorem zJK {c:Cur}(h:zoU c=true):zqs c (zoV c) (zxR c):=wG h
theorem zX1 (c:Cur)  : 0<=(zoV c).i:=wP λh=>h.2.1.2
theorem zX0 (c:Cur)(h:∃N,Ends (wE (λa=>aT .ins a) c.b λa=>zeJ a=true)<|zwP N c):zoU c=true:=wI (λ_ _ h=>h) h
def zyv:zkw:=rP0 λc=>(zoU c,zoV c,[aT .ins<|zxR c])
theorem zLF:zdg Tryz.prog 345 [false,true,true] zyv:=hP0 zgb zbh zSP zu (zx []) (λ_ h=>(zJK h).1)
theorem z4G {c:Cur}(h:zd3 c):zoU c=true:=by
 refine zX0 c ⟨0,?_⟩;have p:([1,2,3,3,3,4,4,4,5,6,8]:List Int)≠[]:=(by simp);have q:=z6N h p;have f:zd3 {zb6 c [1,2,3,3,3,4,4,4,5,6,8] with b:=c.b}:=zf5 h (zlS _ _);have t:=zmU f (n:=16) (by omega);have w:=zmU f (n:=4) (by omega);have m:=zmU f (n:=100) (by omega);unfold zwP oN;conv=>zeta
 generalize zex c [1,2,3,3,3,4,4,4,5,6,8]=o at q;simp only[qG,qW,or_false]at q;have j:∀{n:Int},ieq o n=false->o≠n:=λh e=>(by subst e;simp[ieq]at h);have k:∀{n:Int},ieq o n=true->o=n:=λh=>by simpa [ieq] using h
 have L:∀(n:Int),0<n->(zeJ ⟨o,zZ {zb6 c [1,2,3,3,3,4,4,4,5,6,8] with b:=c.b} n⟩=true)->Ends (λa=>∃s r,a=(AV.agg (zfw s)::[aT .ins r])/\(s.b=c.b/\0<=s.i)/\zeJ r=true)
  (cond (zbd {zb6 c [1,2,3,3,3,4,4,4,5,6,8] with b:=c.b} n) (some (AV.agg [.s .u8 c.b,.i .i64 (zF {zb6 c [1,2,3,3,3,4,4,4,5,6,8] with b:=c.b} n).i,.i .i64 (zF {zb6 c [1,2,3,3,3,4,4,4,5,6,8] with b:=c.b} n).h]::[.agg [.i .i64 o,.i .i64<|zZ {zb6 c [1,2,3,3,3,4,4,4,5,6,8] with b:=c.b} n]])) none):=
  λn x u=>zbF (ziP f n) (zlp (aT .ins) (v:=⟨o,zZ _ n⟩) (zcO _ _) u)
 refine zbF (zJz h p) (zdz (λg=>zdz (λ_=>L 16 (by omega) (zIW ?_)) λd=>absurd (k g) (j d)) λg=>zdz (λd=>L 16 (by omega) (zIW ?_)) λd=>zdz (λl=>L 4 (by omega) (zIW ?_)) λl=>L 100 (by omega) (zIW ?_));{have:=k g;omega};{have:=k d;omega};{have:=k l;omega};{have:=j g;have:=j d;have:=j l;omega}
def z4S:zdL:=[(345,[false,true,true],zyv)]++z4R
theorem zSQ:zcG z4S:=zem zSP (by
 intro x a;simp only[qG,qW,or_false]at a;rcases a with rfl
 .exact zLF)
theorem znz {x y:Int}(a:0<=x)(b:x<=1000000)(c:0<=y)(d:y<=1000000):zI .i64 x y=x+y:=zny (by omega) (by omega)
theorem zvL {a:Type}{l:List a}(h:ln l<=1000000):few (ln l)=true:=qK ⟨by unfold ln;omega,by omega⟩
theorem zp7 {a:Type}(l:List a)(x:a):ln (ap l [x])=ln l+1:=by simp[ln,ap]
def zuQ (N:Nat)(c:Cur)  : OA :=
 (iter (σ:=(Int×Int×Int×lI×(List Int)×Unit)) N (λj d=>let e:=d.2.2.2.1;let f:=d.2.2.2.2.1;let g:=(⟨f,d.2.1,d.2.2.1⟩:Cur);let a:=({ (zF g 7) with b:=f}:Cur); (oN (zbd g 7)<|cond (ilt d.1<|zI .i64 2<|zZ g 7) (oN (zoU a)<|oN (few<|ln<|ap e [zxR a])<|j (zI .i64 d.1 1,(zoV a).i,(zoV a).h,ap e [zxR a],f,()))<|oN (zho a 3)<|cond (zns a 3) (oN (few<|ln<|ap e [(⟨7,0⟩:Ins)])<|some [.agg [.s .u8 f,.i .i64 (zdC a 3).i,.i .i64 (zdC a 3).h],aS .ins<|ap e [(⟨7,0⟩:Ins)]])<|oN (few<|ln<|ap e [(⟨8,0⟩:Ins)])<|some [.agg [.s .u8 f,.i .i64 (zdC a 3).i,.i .i64 (zdC a 3).h],aS .ins<|ap e [(⟨8,0⟩:Ins)]])) (0,c.i,c.h,[],c.b,()))
def zP2:=zx [(283,0,{n:=29,tm:=[(0,.lp 0 0),(3,.sl 0 []),(4,ti)],lo:=[(0,[.sl 1 [],ti,ti])],ro:=[(0,.ins,true),(1,.u8,false)]})]
def zoW (c:Cur)(s:Cur)(a:List Ins):Prop:=(∃N,zuQ N c=some (AV.agg (zfw s)::[aS .ins a]))/\(s.b=c.b/\0<=s.i)/\(zdv a=true)
def zkd (c:Cur)  : Bool:=wC (zoW c)
def zke (c:Cur)  : Cur:=wS (zoW c)
def zqZ (c:Cur)  : List Ins:=wV (zoW c)
theorem zEu {c:Cur}(h:zkd c=true):zoW c (zke c) (zqZ c):=wG h
theorem zU3 (c:Cur)  : 0<=(zke c).i:=wP λh=>h.2.1.2
theorem zU2 (c:Cur)(h:∃N,Ends (wE (λa=>aS .ins a) c.b λa=>zdv a=true)<|zuQ N c):zkd c=true:=wI (λ_ _ h=>h) h
def zwf:zkw:=rP0 λc=>(zkd c,zke c,[aS .ins<|zqZ c])
theorem zIG:zdg Tryz.prog 283 [false,true,true] zwf:=hP0 zgb zbh zSQ zu zP2 (λ_ h=>(zEu h).1)
theorem z0o {c:Cur}(h:zd3 c):zkd c=true:=by
 refine zU2 c ⟨9,?_⟩;unfold zuQ oN;conv=>zeta
 refine zsI (λn s=>s.1+(n:Int)=8/\0<=s.1/\0<=s.2.1/\(∀x∈s.2.2.2.1,zeJ x=true)/\ln s.2.2.2.1=s.1/\s.2.2.2.2.1=c.b) ?_ 9 8 _ ⟨rfl,kL 0,h.1,by simp,rfl,rfl⟩ (by omega);rintro n ⟨t,i,k,l,b,u⟩ rec ⟨B,g,v,j,w,z⟩ f;dsimp only at B g v j w z ⊢;subst z;have a:zd3 ⟨c.b,i,k⟩:=zf5 h v;have d:=zmU a (n:=7) (by omega);have A:=znz (x:=2) (by omega) (by omega) d.1 (by omega);have m:zd3 {zF ⟨c.b,i,k⟩ 7 with b:=c.b}:=zf5 h (zcO _ _);have e:∀(y:Ins),zeJ y=true->2<=t->zdv (ap l [y])=true:=(by intro y C D;unfold zdv;rw[zp7,w];have:(ap l [y]).all zeJ=true:=(by simp only[ap,List.all_append,kX,List.all_nil,vI,qE];exact⟨qL.2 j,C⟩);rw[this,cT];simp only[zi,ige,ile,qE,qZ];omega);refine zbF (ziP a 7) (zdz (λp=>?_) λp=>?_);{have r:t<zI .i64 2 (zZ ⟨c.b,i,k⟩ 7):=qD p;rw[A]at r;refine zbF (z4G m) (zbF (zvL (by rw[zp7];omega))<|f (n-1) _ (by omega) ⟨?_,?_,zX1 _,?_,?_,rfl⟩);{show zI .i64 t 1+_=8;rw[znz g (by omega) (by omega) (by omega)];omega};{show 0<=zI .i64 t 1;rw[znz g (by omega) (by omega) (by omega)];omega};{intro x d;rcases jE.1 d with d|d;{exact j x d};{rw [qF.1 d];exact(zJK<|z4G m).2.2}};{show ln (ap l [_])=zI .i64 t 1;rw[zp7,znz g (by omega) (by omega) (by omega)];omega}};{have q:¬ t<zI .i64 2 (zZ ⟨c.b,i,k⟩ 7):=jR p;rw[A]at q;refine zbF (zSK m 3) (zdz (λ_=>zbF (zvL (by rw[zp7];omega)) (zlp (aS .ins) (ziA _ _) (e _ rfl (by omega)))) λ_=>zbF (zvL (by rw[zp7];omega)) (zlp (aS .ins) (ziA _ _) (e _ rfl (by omega))))}
def z4T:zdL:=[(283,[false,true,true],zwf)]++z4S
theorem zSR:zcG z4T:=zem zSQ (by
 intro x a;simp only[qG,qW,or_false]at a;rcases a with rfl
 .exact zIG)
theorem zT2 {f:Type}{c:Cur}(h:zd3 c){P:f->Prop}{fc:Cur->Bool}{fs:Cur->Cur}{fv:Cur->f}(C:∀{c:Cur},zd3 c->fc c=true)(D:∀c,0<=(fs c).i)(hg:∀{c:Cur},zd3 c->P (fv c)){G:Ans->Prop}{R:Cur->List f->Ans}(B:∀s l,s.b=c.b->0<=s.i->1<=l.length->l.length<=2->(∀x∈l,P x)->G (R s l)){F:(Int×Int×Int×List f×List Int×Unit->OA)->Int×Int×Int×List f×List Int×Unit->OA}(A:∀rec t i k l,F rec (t,i,k,l,c.b,())=bif zbd ⟨c.b,i,k⟩ 2 then (bif ilt t (zI .i64 1 (zZ ⟨c.b,i,k⟩ 2)) then (bif fc { zF ⟨c.b,i,k⟩ 2 with b:=c.b } then (bif few (ln (ap l [fv { zF ⟨c.b,i,k⟩ 2 with b:=c.b }])) then
        rec (zI .i64 t 1,(fs {zF ⟨c.b,i,k⟩ 2 with b:=c.b}).i,(fs {zF ⟨c.b,i,k⟩ 2 with b:=c.b}).h,ap l [fv {zF ⟨c.b,i,k⟩ 2 with b:=c.b}],c.b,()) else none) else none) else some (R ⟨c.b,(zF ⟨c.b,i,k⟩ 2).i,(zF ⟨c.b,i,k⟩ 2).h⟩ l)) else none) :
 Ends G (iter 3 F (0,c.i,c.h,[],c.b,())):=by
 refine zsI (fun n s=>s.1+(n:Int)=2/\0<=s.1/\0<=s.2.1/\(∀x∈s.2.2.2.1,P x)/\ln s.2.2.2.1=s.1/\s.2.2.2.2.1=c.b) ?_ 3 2 _ ⟨rfl,kL 0,h.1,by simp,rfl,rfl⟩ (by omega)
 rintro n ⟨t,i,k,l,b,u⟩ rec ⟨z,m,p,g,q,r⟩ e
 dsimp only at z m p g q r
 subst r;rw[A];have a:zd3 ⟨c.b,i,k⟩:=zf5 h p;have d:=zmU a (n:=2) (by omega)
 have w:=znz (x:=1) (by omega) (by omega) d.1 (by omega)
 have v:zd3 {zF ⟨c.b,i,k⟩ 2 with b:=c.b}:=zf5 h (zcO _ _);refine zbF (ziP a 2) (zdz (fun j=>?_) (fun j=>?_))
 .have hlt:t<zI .i64 1 (zZ ⟨c.b,i,k⟩ 2):=qD j;rw[w]at hlt;have E:=znz (y:=1) m (by omega) (by omega) (by omega)
  refine zbF (C v) (zbF (zvL (by rw[zp7];omega)) (e (n-1) _ (by omega) ⟨?_,?_,D _,?_,?_,rfl⟩))
  .show zI .i64 t 1+_=2
   omega
  .show 0<=zI .i64 t 1
   omega
  .intro x d;rcases jE.1 d with d|d
   .exact g x d
   .rw [qF.1 d];exact hg v
  .show ln (ap l [_])=zI .i64 t 1
   rw[zp7];omega
 .have hge:¬ t<zI .i64 1 (zZ ⟨c.b,i,k⟩ 2):=jR j;rw[w]at hge;unfold ln at q;exact zHL (B _ l rfl (zcO _ _) (by omega) (by omega) g)
def zsw (N:Nat)(c:Cur)  : OA :=
 (iter (σ:=(Int×Int×Int×lP×(List Int)×Unit)) N (λg a=>let f:=a.2.2.2.2.1;let e:=(⟨f,a.2.1,a.2.2.1⟩:Cur);let d:=({ (zF e 2) with b:=f}:Cur); (oN (zbd e 2)<|cond (ilt a.1<|zI .i64 1<|zZ e 2) (oN (zkd d)<|oN (few<|ln<|ap a.2.2.2.1 [zqZ d])<|g (zI .i64 a.1 1,(zke d).i,(zke d).h,ap a.2.2.2.1 [zqZ d],f,()))<|some [.agg [.s .u8 f,.i .i64 (zF e 2).i,.i .i64 (zF e 2).h],aS (.sl .ins) a.2.2.2.1])) (0,c.i,c.h,[],c.b,()))
def zM1:=zx [(190,0,{n:=19,tm:=[(0,.lp 0 0),(3,.sl 0 []),(4,ti)],lo:=[(0,[.sl 1 [],ti,ti])],ro:=[(0,.sl .ins,true),(1,.u8,false)]})]
def zmP (c:Cur)(s:Cur)(a:List (List Ins)):Prop:=(∃N,zsw N c=some (AV.agg (zfw s)::[aS (.sl .ins) a]))/\(s.b=c.b/\0<=s.i)/\(1<=a.length/\a.length<=2/\∀x∈a,zdv x=true)
def zi9 (c:Cur)  : Bool:=wC (zmP c)
def zja (c:Cur)  : Cur:=wS (zmP c)
def zoY (c:Cur)  : List (List Ins):=wV (zmP c)
theorem zBq {c:Cur}(h:zi9 c=true):zmP c (zja c) (zoY c):=wG h
theorem zTc (c:Cur)  : 0<=(zja c).i:=wP λh=>h.2.1.2
theorem zTb (c:Cur)(h:∃N,Ends (wE (λa=>aS (.sl .ins) a) c.b λa=>1<=a.length/\a.length<=2/\∀x∈a,zdv x=true)<|zsw N c):zi9 c=true:=wI (λ_ _ h=>h) h
def zuj:zkw:=rP0 λc=>(zi9 c,zja c,[aS (.sl .ins)<|zoY c])
theorem zFW:zdg Tryz.prog 190 [false,true,true] zuj:=hP0 zgb zbh zSR zu zM1 (λ_ h=>(zBq h).1)
theorem zWc {c:Cur}(h:zd3 c):zi9 c=true:=by
 refine zTb c ⟨3,?_⟩;unfold zsw oN;conv=>zeta
 exact zT2 h (P:=λx=>zdv x=true) (fc:=zkd) (fs:=zke) (fv:=zqZ) (R:=λs l=>AV.agg (zfw s)::[aS (.sl .ins) l]) z0o zU3 (λh=>(zEu<|z0o h).2.2) (λs l d e a b f=>⟨s,l,rfl,⟨d,e⟩,a,b,f⟩) (λrec t i k l=>rfl)
def z4U:zdL:=[(190,[false,true,true],zuj)]++z4T
theorem zSS:zcG z4U:=zem zSR (by
 intro x a;simp only[qG,qW,or_false]at a;rcases a with rfl
 .exact zFW)
def zwR (N:Nat)(c:Cur)  : OA :=
 (iter (σ:=(Int×Int×Int×lQ×(List Int)×Unit)) N (λg a=>let f:=a.2.2.2.2.1;let e:=(⟨f,a.2.1,a.2.2.1⟩:Cur);let d:=({ (zF e 2) with b:=f}:Cur); (oN (zbd e 2)<|cond (ilt a.1<|zI .i64 1<|zZ e 2) (oN (zi9 d)<|oN (few<|ln<|ap a.2.2.2.1 [zoY d])<|g (zI .i64 a.1 1,(zja d).i,(zja d).h,ap a.2.2.2.1 [zoY d],f,()))<|some [.agg [.s .u8 f,.i .i64 (zF e 2).i,.i .i64 (zF e 2).h],aS (.sl<|.sl .ins) a.2.2.2.1])) (0,c.i,c.h,[],c.b,()))
def zTX:=zx [(91,0,{n:=19,tm:=[(0,.lp 0 0),(3,.sl 0 []),(4,ti)],lo:=[(0,[.sl 1 [],ti,ti])],ro:=[(0,.sl<|.sl .ins,true),(1,.u8,false)]})]
def zqv (c:Cur)(s:Cur)(a:List (List<|List Ins)):Prop:=(∃N,zwR N c=some (AV.agg (zfw s)::[aS (.sl<|.sl .ins) a]))/\(s.b=c.b/\0<=s.i)/\(1<=a.length/\a.length<=2/\∀p∈a,1<=p.length/\p.length<=2/\∀x∈p,zdv x=true)
def zoZ (c:Cur)  : Bool:=wC (zqv c)
def zlT (c:Cur)  : Cur:=wS (zqv c)
def ztr (c:Cur)  : List (List<|List Ins):=wV (zqv c)
theorem zJL {c:Cur}(h:zoZ c=true):zqv c (zlT c) (ztr c):=wG h
theorem zX6 (c:Cur)  : 0<=(zlT c).i:=wP λh=>h.2.1.2
theorem zX5 (c:Cur)(h:∃N,Ends (wE (λa=>aS (.sl<|.sl .ins) a) c.b λa=>1<=a.length/\a.length<=2/\∀p∈a,1<=p.length/\p.length<=2/\∀x∈p,zdv x=true)<|zwR N c):zoZ c=true:=wI (λ_ _ h=>h) h
def zyx:zkw:=rP0 λc=>(zoZ c,zlT c,[aS (.sl<|.sl .ins)<|ztr c])
theorem zLH:zdg Tryz.prog 91 [false,true,true] zyx:=hP0 zgb zbh zSS zu zTX (λ_ h=>(zJL h).1)
theorem z3r {c:Cur}(h:zd3 c):zoZ c=true:=by
 refine zX5 c ⟨3,?_⟩;unfold zwR oN;conv=>zeta
 exact zT2 h (P:=λp=>1<=p.length/\p.length<=2/\∀x∈p,zdv x=true) (fc:=zi9) (fs:=zja) (fv:=zoY) (R:=λs l=>AV.agg (zfw s)::[aS (.sl<|.sl .ins) l]) zWc zTc (λh=>(zBq<|zWc h).2.2) (λs l d e a b f=>⟨s,l,rfl,⟨d,e⟩,a,b,f⟩) (λrec t i k l=>rfl)
def z4V:zdL:=[(91,[false,true,true],zyx)]++z4U
theorem zST:zcG z4V:=zem zSS (by
 intro x a;simp only[qG,qW,or_false]at a;rcases a with rfl
 .exact zLH)
theorem zBR {c:Type}{G:c->Prop}{x:Bool}{a b:Option c}(k:Ends G a)(h:x=true:=by first
 |exact ziP (by first|assumption|exact zf5 (by assumption) (zcO _ _)|exact zf5 (by assumption) (ziA _ _)|exact zf5 (by assumption) (zlS _ _)) _
 |exact zSK (by first|assumption|exact zf5 (by assumption) (zcO _ _)|exact zf5 (by assumption) (ziA _ _)) _
 |exact zJz (by first|assumption|exact zf5 (by assumption) (zcO _ _)) (by simp)):Ends G (cond x a b):=zbF h k
def zwQ (N:Nat)(c:Cur)  : OA :=
 let f:=zZ c 4;let j:=({ (zF c 4) with b:=c.b}:Cur);let e:=zns j 4;let d:=zdC j 4;let a:=({d with b:=c.b}:Cur);let g:=({ (zdC a 2) with b:=c.b}:Cur); (oN (zbd c 4)<|oN (zho j 4)<|cond (nB e) (cond (ine f 2) (oN (zho a 2)<|cond (zns a 2) (oN (zbd g 256)<|some [.agg [.s .u8 c.b,.i .i64 (zF g 256).i,.i .i64 (zF g 256).h],.agg [.i .i64 f,.i .i64<|zZ g 256,.b<|nB e]])<|some [.agg [.s .u8 c.b,.i .i64 (zdC a 2).i,.i .i64 (zdC a 2).h],.agg [.i .i64 f,.i .i64 0,.b<|nB e]])<|some [.agg [.s .u8 c.b,.i .i64 d.i,.i .i64 d.h],.agg [.i .i64 f,.i .i64 0,.b<|nB e]])<|some [.agg [.s .u8 c.b,.i .i64 d.i,.i .i64 d.h],.agg [.i .i64 f,.i .i64 0,.b<|nB e]])
def zqu (c:Cur)(s:Cur)(a:Ctl):Prop:=(∃N,zwQ N c=some (AV.agg (zfw s)::[.agg<|zw5 a]))/\(s.b=c.b/\0<=s.i)/\(True)
def zoX (c:Cur)  : Bool:=wC (zqu c)
def zjN (c:Cur)  : Cur:=wS (zqu c)
def zm6 (c:Cur)  : Ctl:=wV (zqu c)
theorem zX2 {c:Cur}(h:zoX c=true):zqu c (zjN c) (zm6 c):=wG h
theorem zX4 (c:Cur)  : 0<=(zjN c).i:=wP λh=>h.2.1.2
theorem zX3 (c:Cur)(h:∃N,Ends (wE (λa=>.agg (zw5 a)) c.b λa=>True)<|zwQ N c):zoX c=true:=wI (λ_ _ h=>h) h
def zyw:zkw:=rP0 λc=>(zoX c,zjN c,[.agg<|zw5<|zm6 c])
theorem zLG:zdg Tryz.prog 284 [false,true,true] zyw:=hP0 zgb zbh zST zu (zx []) (λ_ h=>(zX2 h).1)
theorem z8z {c:Cur}(h:zd3 c):zoX c=true:=by
 refine zX3 c ⟨0,?_⟩;unfold zwQ oN nB;conv=>zeta
 refine zBR (zBR<|zdz (λ_=>zdz (λ_=>zBR (zdz (λ_=>zBR (?_)) λ_=>?_)) λ_=>?_) λ_=>?_);all_goals exact zlp (λx=>AV.agg (zw5 x)) (v:=⟨_,_,_⟩) (by first|exact zcO _ _|exact ziA _ _) trivial
def z4W:zdL:=[(284,[false,true,true],zyw)]++z4V
theorem zGm:zcG z4W:=zem zST (by
 intro x a;simp only[qG,qW,or_false]at a;rcases a with rfl
 .exact zLG)
theorem zeg {c:Type}{G:c->Prop}{x:Bool}{a b:Option c}(k:Ends G a)(h:x=true:=by first
 |exact ziP (by first|assumption|exact zf5 (by assumption) (zcO _ _)|exact zf5 (by assumption) (zlS _ _)) _
 |exact zJz (by first|assumption|exact zf5 (by assumption) (zcO _ _)) (by simp)
 |exact z8z (zf5 (by assumption)<|zcO _ _)):Ends G (cond x a b):=zbF h k
def zwT (N:Nat)(c:Cur)  : OA :=
 let m:=({ (zF c 2) with b:=c.b}:Cur);let g:=zZ c 2;let f:=zZ m 2;let u:=({ (zF m 2) with b:=c.b}:Cur);let e:=zF u 24;let d:=zZ u 24;let a:=({e with b:=c.b}:Cur);let j:=zF a 8;let l:=({ (zF a 4) with b:=c.b}:Cur);let k:=({j with b:=c.b}:Cur);let t:=({ (zF a 16) with b:=c.b}:Cur);let r:=({ (zb6 a [16,17]) with b:=c.b}:Cur);let q:=({ (zb6 a [13,13,14,15]) with b:=c.b}:Cur);let p:=({ (zF k 4) with b:=c.b}:Cur);let n:=({ (zF l 8) with b:=c.b}:Cur); (share (oN (zdR a [13,13,14,15])<|oN (zbd q 8)<|some [.agg [.s .u8 c.b,.i .i64 (zF q 8).i,.i .i64 (zF q 8).h],.agg [.i .i64<|zex a [13,13,14,15],.i .i64 g,.i .i64 f,.i .i64<|zZ q 8,.i .i64 0,.i .i64 0]]) λA=>share (cond (ieq d 16) (oN (zdR a [16,17])<|oN (zbd r 4)<|some [.agg [.s .u8 c.b,.i .i64 (zF r 4).i,.i .i64 (zF r 4).h],.agg [.i .i64<|zex a [16,17],.i .i64 g,.i .i64 f,.i .i64<|zZ r 4,.i .i64 0,.i .i64 0]])<|some [.agg [.s .u8 c.b,.i .i64 e.i,.i .i64 e.h],.agg [.i .i64 1,.i .i64 g,.i .i64 f,.i .i64 0,.i .i64 0,.i .i64 0]]) λz=>share (oN (zbd a 4)<|oN (zbd l 8)<|oN (zdR n [3,3,1,2])<|some [.agg [.s .u8 c.b,.i .i64 (zb6 n [3,3,1,2]).i,.i .i64 (zb6 n [3,3,1,2]).h],.agg [.i .i64 2,.i .i64 g,.i .i64 f,.i .i64<|zZ a 4,.i .i64<|zZ l 8,.i .i64<|zex n [3,3,1,2]]]) λy=>share (oN (zbd a 4)<|some [.agg [.s .u8 c.b,.i .i64 (zF a 4).i,.i .i64 (zF a 4).h],.agg [.i .i64 3,.i .i64 g,.i .i64 f,.i .i64<|zZ a 4,.i .i64 0,.i .i64 0]]) λx=>share (cond (ieq d 7) (oN (zbd a 8)<|some [.agg [.s .u8 c.b,.i .i64 j.i,.i .i64 j.h],.agg [.i .i64 6,.i .i64 g,.i .i64 f,.i .i64<|zZ a 8,.i .i64 0,.i .i64 0]])<|cond (ieq d 8) (oN (zoX a)<|cond ((zm6 a).Open) (some [.agg [.s .u8 c.b,.i .i64 (zjN a).i,.i .i64 (zjN a).h],.agg [.i .i64 7,.i .i64 g,.i .i64 f,.i .i64 (zm6 a).Traps,.i .i64 (zm6 a).Post,.i .i64 1]])<|some [.agg [.s .u8 c.b,.i .i64 (zjN a).i,.i .i64 (zjN a).h],.agg [.i .i64 7,.i .i64 g,.i .i64 f,.i .i64 (zm6 a).Traps,.i .i64 (zm6 a).Post,.i .i64 0]])<|cond (ieq d 9) (oN (zbd a 8)<|oN (zbd k 4)<|oN (zbd p 100)<|some [.agg [.s .u8 c.b,.i .i64 (zF p 100).i,.i .i64 (zF p 100).h],.agg [.i .i64 8,.i .i64 g,.i .i64 f,.i .i64<|zZ a 8,.i .i64<|zZ k 4,.i .i64<|zZ p 100]])<|cond (ieq d 10) (oN (zbd a 8)<|some [.agg [.s .u8 c.b,.i .i64 j.i,.i .i64 j.h],.agg [.i .i64 9,.i .i64 g,.i .i64 f,.i .i64<|zZ a 8,.i .i64 0,.i .i64 0]])<|cond (ieq d 11) (some [.agg [.s .u8 c.b,.i .i64 e.i,.i .i64 e.h],.agg [.i .i64 10,.i .i64 g,.i .i64 f,.i .i64 0,.i .i64 0,.i .i64 0]])<|cond (ieq d 12) (oN (zbd a 16)<|oN (zbd t 100)<|some [.agg [.s .u8 c.b,.i .i64 (zF t 100).i,.i .i64 (zF t 100).h],.agg [.i .i64 11,.i .i64 g,.i .i64 f,.i .i64<|zZ a 16,.i .i64<|zZ t 100,.i .i64 0]])<|cond (ieq d 13) (oN (zbd a 16)<|some [.agg [.s .u8 c.b,.i .i64 (zF a 16).i,.i .i64 (zF a 16).h],.agg [.i .i64 12,.i .i64 g,.i .i64 f,.i .i64<|zZ a 16,.i .i64 0,.i .i64 0]])<|cond (ieq d 14) (cond (ieq d 14) A z)<|cond (ieq d 15) A z) λv=>share (cond (ieq d 4) (oN (zbd a 100)<|some [.agg [.s .u8 c.b,.i .i64 (zF a 100).i,.i .i64 (zF a 100).h],.agg [.i .i64 4,.i .i64 g,.i .i64 f,.i .i64<|zZ a 100,.i .i64 0,.i .i64 0]])<|cond (ieq d 5) (cond (ieq d 5) (some [.agg [.s .u8 c.b,.i .i64 e.i,.i .i64 e.h],.agg [.i .i64 5,.i .i64 g,.i .i64 f,.i .i64 0,.i .i64 0,.i .i64 0]]) v)<|cond (ieq d 6) (some [.agg [.s .u8 c.b,.i .i64 e.i,.i .i64 e.h],.agg [.i .i64 5,.i .i64 g,.i .i64 f,.i .i64 0,.i .i64 0,.i .i64 0]]) v) λw=>share (cond (ieq d 2) (cond (ieq d 2) x w)<|cond (ieq d 3) x w) λB=>oN (zbd c 2)<|oN (zbd m 2)<|oN (zbd u 24)<|cond (ieq d 0) (cond (ieq d 0) y B)<|cond (ieq d 1) y B)
def zqw (c:Cur)(s:Cur)(a:GAct):Prop:=(∃N,zwT N c=some (AV.agg (zfw s)::[aT .act a]))/\(s.b=c.b/\0<=s.i)/\(True)
def zil (c:Cur)  : Bool:=wC (zqw c)
def zgu (c:Cur)  : Cur:=wS (zqw c)
def zm8 (c:Cur)  : GAct:=wV (zqw c)
theorem zX7 {c:Cur}(h:zil c=true):zqw c (zgu c) (zm8 c):=wG h
theorem zX9 (c:Cur)  : 0<=(zgu c).i:=wP λh=>h.2.1.2
theorem zX8 (c:Cur)(h:∃N,Ends (wE (λa=>aT .act a) c.b λa=>True)<|zwT N c):zil c=true:=wI (λ_ _ h=>h) h
def zyy:zkw:=rP0 λc=>(zil c,zgu c,[aT .act<|zm8 c])
theorem zLL:zdg Tryz.prog 192 [false,true,true] zyy:=hP0 zgb zbh zGm zu (zx []) (λ_ h=>(zX7 h).1)
theorem z8w {c:Cur}(h:zd3 c):zil c=true:=by
 refine zX8 c ⟨0,?_⟩;unfold zwT oN;conv=>zeta
 refine zmW (zeg<|zeg<|?_) (λ_ g=>zmW (zdz (λ_=>zeg (zeg<|?_)) λ_=>?_) λ_ f=>zmW (zeg<|zeg<|zeg<|?_) λ_ e=>zmW (zeg<|?_) λ_ d=>zmW (zdz (λ_=>zeg (?_)) λ_=>zdz (λ_=>zeg (zdz (λ_=>?_) λ_=>?_)) λ_=>zdz (λ_=>zeg (zeg<|zeg<|?_)) λ_=>zdz (λ_=>zeg (?_)) λ_=>zdz (λ_=>?_) λ_=>zdz (λ_=>zeg (zeg<|?_)) λ_=>zdz (λ_=>zeg (?_)) λ_=>zdz (λ_=>zdz (λ_=>g) λ_=>f) λ_=>zdz (λ_=>g) λ_=>f) λ_ a=>zmW (zdz (λ_=>zeg (?_)) λ_=>zdz (λ_=>zdz (λ_=>?_) λ_=>a) λ_=>zdz (λ_=>?_) λ_=>a) λ_ b=>zmW (zdz (λ_=>zdz (λ_=>d) λ_=>b) λ_=>zdz (λ_=>d) λ_=>b) λ_ i=>zeg (zeg<|zeg<|zdz (λ_=>zdz (λ_=>e) λ_=>i) λ_=>zdz (λ_=>e) λ_=>i));all_goals exact zlp (aT .act) (v:=⟨_,_,_,_,_,_⟩) (by first|exact zcO _ _|exact zlS _ _|exact zX4 _) trivial
def zkv (N:Nat)  : OA :=
 (iter (σ:=(Int×lA×Unit)) N (λe c=>cond (ilt c.1 2) (iter (σ:=(Int×Int×lA×Unit)) N (λf b=>cond (ilt b.2.1 2) (iter (σ:=(Int×Int×Int×lA×Unit)) N (λg a=>let d:=ap a.2.2.2.1 [(⟨2,a.1,a.2.1,a.2.2.1,zI .i64 a.2.2.1<|zl3 .i64 3 a.2.1,3⟩:GAct),(⟨3,a.1,a.2.1,a.2.2.1,0,0⟩:GAct)]; (cond (ilt a.2.2.1 3) (oN (few<|ln d)<|g (a.1,a.2.1,zI .i64 a.2.2.1 1,d,()))<|f (a.1,zI .i64 a.2.1 1,a.2.2.2.1,()))) (b.1,b.2.1,0,b.2.2.1,()))<|e (zI .i64 b.1 1,b.2.2.1,())) (c.1,0,c.2.1,()))<|some [aS .act c.2.1]) (0,[],()))
def zM2:=zx [(191,0,{n:=34,tm:=[(1,.sl 0 []),(2,ti)],lo:=[],ro:=[(0,.act,true)]}),(191,2,{n:=34,tm:=[(1,.sl 0 []),(2,ti),(3,ti)],lo:=[],ro:=[(0,.act,true)]}),(191,4,{n:=34,tm:=[(1,.sl 0 []),(2,ti),(3,ti),(4,ti)],lo:=[],ro:=[(0,.act,true)]})]
def zry  (a:List GAct):Prop:=(∃N,zkv N=some [aS .act a])/\(a.length<=45)
def zjc  : Bool:=uC (T:=List GAct) (λr=>zry r)
def zTf  : List GAct:=uV (λr=>zry r)
def zsb  : List GAct:=(zTf)
theorem zBs  (h:zjc=true):zry zsb:=uG h
theorem zTe  (h:∃N,Ends (λa=>∃b,a=[aS .act b]/\(b.length<=45))<|zkv N):zjc=true:=by obtain⟨N,a,e,b,rfl,h⟩:=h;exact zbo ⟨b,⟨N,e⟩,h⟩
def zwC:Run:=rF0 (zjc,[aS .act zsb])
theorem zMq  (a:zjc=true):∃N,zkv N  = some [aS .act zsb]:=by exact(zBs a).1
theorem zFX:vQ 191 zwC:=kF0 zgb zbh zGm zu zM2 zMq
def zYN:List GAct:=match zkv 10 with
 |some [.one<|.s .act l]=>l
 |_=>[]
theorem zVz:zjc=true:=zTe ⟨10,_,(by kernel_rfl:zkv 10=some [aS .act zYN]),zYN,rfl,Nat.le_of_ble_eq_true (by kernel_rfl)⟩
def z4X:zdL:=[(192,[false,true,true],zyy)]++z4W
theorem zSU:zcG z4X:=zem zGm (by
 intro x a;simp only[qG,qW,or_false]at a;rcases a with rfl
 .exact zLL)
def z7B:zV:=[(191,zwC)]++zQU
theorem zYV:zL z7B:=zh zFX zgb
theorem zN5 {c:Cur}(h:zd3 c){m:Int}(e:0<=m)(J:m<=1000){G:Ans->Prop}{R:Cur->List GAct->Ans}(D:∀s l,s.b=c.b->0<=s.i->ln l<=45+m->G (R s l)){F:(Int×Int×Int×Int×List GAct×List Int×Unit->OA)->Int×Int×Int×Int×List GAct×List Int×Unit->OA}(C:∀rec t i k l,F rec (m,t,i,k,l,c.b,())=bif zbd ⟨c.b,i,k⟩ (zI .i64 m 1) then (bif ilt t (zZ ⟨c.b,i,k⟩ (zI .i64 m 1)) then (bif zil { zF ⟨c.b,i,k⟩ (zI .i64 m 1) with b:=c.b } then (bif few (ln (ap l [zm8 { zF ⟨c.b,i,k⟩ (zI .i64 m 1) with b:=c.b }])) then
        rec (m,zI .i64 t 1,(zgu {zF ⟨c.b,i,k⟩ (zI .i64 m 1) with b:=c.b}).i,(zgu {zF ⟨c.b,i,k⟩ (zI .i64 m 1) with b:=c.b}).h,ap l [zm8 {zF ⟨c.b,i,k⟩ (zI .i64 m 1) with b:=c.b}],c.b,()) else none) else none) else some (R ⟨c.b,(zF ⟨c.b,i,k⟩ (zI .i64 m 1)).i,(zF ⟨c.b,i,k⟩ (zI .i64 m 1)).h⟩ l)) else none){w I:Int}(f:0<=w){g:List GAct}(E:g.length<=45):Ends G (iter 1002 F (m,0,w,I,g,c.b,())):=by
 refine zsI (fun n s=>s.1=m/\s.2.1+(n:Int)=1000/\0<=s.2.1/\0<=s.2.2.1/\(ln s.2.2.2.2.1<=45+s.2.1/\s.2.1<=m)/\s.2.2.2.2.2.1=c.b) ?_ 1002 1000 _ ⟨rfl,rfl,kL 0,f,⟨by unfold ln;show ((g.length:Nat):Int)<=45+0;omega,e⟩,rfl⟩ (by omega)
 rintro n ⟨q,t,i,k,l,b,u⟩ rec ⟨e,z,j,p,⟨A,H⟩,r⟩ d
 dsimp only at e z j p A r H
 subst r;subst e;rw[C];have a:zd3 ⟨c.b,i,k⟩:=zf5 h p;have L:=znz (x:=q) (y:=1) (by omega) (by omega) (by omega) (by omega)
 have M:=zmU a (n:=zI .i64 q 1) (by omega)
 have B:zd3 {zF ⟨c.b,i,k⟩ (zI .i64 q 1) with b:=c.b}:=zf5 h (zcO _ _);refine zbF (ziP a _) (zdz (fun v=>?_) (fun v=>?_))
 .have hlt:t<zZ ⟨c.b,i,k⟩ (zI .i64 q 1):=qD v;have K:=znz (y:=1) j (by omega) (by omega) (by omega)
  refine zbF (z8w B) (zbF (zvL (by rw[zp7];omega)) (d (n-1) _ (by omega) ⟨rfl,?_,?_,zX9 _,⟨?_,?_⟩,rfl⟩))
  .show zI .i64 t 1+_=1000
   omega
  .show 0<=zI .i64 t 1
   omega
  .show ln (ap l [_])<=45+zI .i64 t 1
   rw[zp7];omega
  .show zI .i64 t 1<=q
   omega
 .refine zHL (D _ l rfl (zcO _ _) ?_);omega
def zuV (N:Nat)(c:Cur)(p:Int):OA:=
 (oN (zho c 5)<|cond (nB<|zns c 5) (oN zjc<|iter (σ:=(Int×Int×Int×Int×lA×(List Int)×Unit)) N (λn a=>let l:=a.2.2.2.2.2.1;let f:=zI .i64 a.1 1;let d:=(⟨l,a.2.2.1,a.2.2.2.1⟩:Cur);let j:=({ (zF d f) with b:=l}:Cur);let q:=ap a.2.2.2.2.1 [zm8 j]; (oN (zbd d f)<|cond (ilt a.2.1<|zZ d f) (oN (zil j)<|oN (few<|ln q)<|n (a.1,zI .i64 a.2.1 1,(zgu j).i,(zgu j).h,q,l,()))<|some [.agg [.s .u8 l,.i .i64 (zF d f).i,.i .i64 (zF d f).h],aS .act a.2.2.2.2.1])) (p,0,(zdC c 5).i,(zdC c 5).h,zsb,c.b,()))<|iter (σ:=(Int×Int×Int×Int×lA×(List Int)×Unit)) N (λn a=>let m:=a.2.2.2.2.2.1;let g:=zI .i64 a.1 1;let e:=(⟨m,a.2.2.1,a.2.2.2.1⟩:Cur);let k:=({ (zF e g) with b:=m}:Cur);let r:=ap a.2.2.2.2.1 [zm8 k]; (oN (zbd e g)<|cond (ilt a.2.1<|zZ e g) (oN (zil k)<|oN (few<|ln r)<|n (a.1,zI .i64 a.2.1 1,(zgu k).i,(zgu k).h,r,m,()))<|some [.agg [.s .u8 m,.i .i64 (zF e g).i,.i .i64 (zF e g).h],aS .act a.2.2.2.2.1])) (p,0,(zdC c 5).i,(zdC c 5).h,[],c.b,()))
def zP5:=zx [(92,0,{n:=26,tm:=[(0,.lp 0 0),(1,ti),(5,.sl 0 []),(6,ti)],lo:=[(0,[.sl 1 [],ti,ti])],ro:=[(0,.act,true),(1,.u8,false)]})]
def zo1 (c:Cur)(a:Int)(s:Cur)(d:List GAct):Prop:=(∃N,zuV N c a=some (AV.agg (zfw s)::[aS .act d]))/\(s.b=c.b/\0<=s.i)/\(ln d<=45+a)
def zmu (c:Cur)(a:Int):Bool:=wC (zo1 c a)
def zmv (c:Cur)(a:Int):Cur:=wS (zo1 c a)
def zq0 (c:Cur)(a:Int):List GAct:=wV (zo1 c a)
theorem zEx {c:Cur}{a:Int}(h:zmu c a=true):zo1 c a (zmv c a) (zq0 c a):=wG h
theorem zU6 (c:Cur)(a:Int):0<=(zmv c a).i:=wP λh=>h.2.1.2
theorem zU5 (c:Cur)(a:Int)(h:∃N,Ends (wE (λd=>aS .act d) c.b λd=>ln d<=45+a)<|zuV N c a):zmu c a=true:=wI (λ_ _ h=>h) h
def zwh:zkw:=rP1 dI λc b=>(zmu c b,zmv c b,[aS .act<|zq0 c b])
theorem zIR:zdg Tryz.prog 92 [false,true,true] zwh:=hP1 zYV zbh zSU zu zP5 (λ_ _ h=>(zEx h).1)
theorem zYD {c:Cur}(h:zd3 c){m:Int}(e:0<=m)(f:m<=1000):zmu c m=true:=by
 refine zU5 c m ⟨1002,?_⟩;unfold zuV oN nB;conv=>zeta
 have g:=zBs zVz;exact zbF (zSK h 5) (zdz (λ_=>zbF zVz (zN5 h e f (R:=λs l=>AV.agg (zfw s)::[aS .act l]) (λs l a b d=>⟨s,l,rfl,⟨a,b⟩,d⟩) (λrec t i k l=>rfl) (ziA _ _) g.2)) λ_=>zN5 h e f (R:=λs l=>AV.agg (zfw s)::[aS .act l]) (λs l a b d=>⟨s,l,rfl,⟨a,b⟩,d⟩) (λrec t i k l=>rfl) (ziA _ _) (jS _))
def z4Y:zdL:=[(92,[false,true,true],zwh)]++z4X
theorem zSV:zcG z4Y:=zem zSU (by
 intro x a;simp only[qG,qW,or_false]at a;rcases a with rfl
 .exact zIR)
end
end Go.Proofs.YtgjpbkhaaiffkaaGreat.E
