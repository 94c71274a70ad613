/- What is proved here: a part of the proof that the statement of this claim holds (several texts of wip/, laid together). -/
import Derived.Test.YthhbajmehldikaaGreatU5
import Derived.WalkKit
import Derived.Tactics2
import Derived.Deep.RegionWith
import Derived.Laws.Rows
namespace Go.Proofs.YthhbajmehldikaaGreat.E
open Go
set_option linter.constructorNameAsVariable false
set_option linter.unusedVariables false
set_option maxRecDepth 100000
set_option linter.unusedSimpArgs false
set_option linter.unusedSectionVars false
noncomputable section
def z3D:zba:=z3B
theorem zRK:zK z3D:=z3C
theorem zCy:∀(n i:Nat) (t:List Mon),i+n<=t.length->zrP t->zrP (zoa n i t)
 | 0,_,_,_,h=>h
 |n+1,i,t,b,h=>by have a:i<t.length:=(by omega);refine zCy n (i+1) _ (by rw[zgy];omega) (zjc h (zN5 ?_ (by omega)));rw[zbp a];exact h.2 _ (jL a)
theorem z7R {h:Host}(a:SmH h):SmH (cold h):=⟨a.1,zCy _ _ _ (by omega) a.2.1,by simp[cold],by simp[cold]⟩
theorem znK {h:Host}{m:Int}{b:Bare}(c:SmH h)(d:zcr h m=true->SmB b):SmH (zez h m b):=by unfold zez;cases a:zcr h m;{exact c};{exact zBd c (zcn.1 a).2 (d a).2.1}
theorem zSs {h:Host}{m g p:Int}(c:SmH h):SmH (zc1 h m g p):=by unfold zc1;cases e:zcr h m;{exact c};{cases l:zbS (zC h m) g (hasB p 4);{exact c};{have d:=(zcn.1 e).2;have f:=zBc c d;have k:SmB (chg (zC h m) g (hasB p 4) (zde (gAt (zC h m) g) p)):=znZ f (ztQ _ (zh8 _ f));have b:=zBd c d k.2.1;have i:=zz1 (chg (zC h m) g (hasB p 4) (zde (gAt (zC h m) g) p)) d;have j:=zvY c e (chg (zC h m) g (hasB p 4) (zde (gAt (zC h m) g) p)) l;have a:=b.2.1.2 _ (zbu i mZ);simp only[cT];exact⟨b.1,zjc b.2.1 ⟨a.1,a.2.1,a.2.2.1,a.2.2.2.1,a.2.2.2.2.1,zzE a.2.2.2.2.2 (zpI (a.2.2.2.2.2.2 _ (zbu j _)))⟩,qU (ztp _ _ _) b.2.2.1,qU (ztp _ _ _) b.2.2.2⟩}}
theorem zKz {h:Host}{m p c v:Int}(e:SmH h):SmH (zfE h m p c v):=by unfold zfE;cases a:zcH h m p c v;{exact e};{have f:zb8 h m p=true:=(by unfold zcH at a;cases b:zb8 h m p;{rw [b]at a;cases a};{rfl});obtain⟨g,i,b⟩:=zkh.1 f;have d:=(zvs (n:=2) (ze3 e g) i b).1.1;exact⟨zvw d.1,d.2⟩}
theorem zWi {h:Host}{m g c a:Int}(b:List Entry)(i:Bool)(f:SmH h)(d:zca h m g c a=true):SmH (lookOf h b m g c a i).1:=by have hg:zbZ h m g=true:=(by unfold zca at d;cases e:zbZ h m g;{rw [e]at d;cases d};{rfl});exact(zyH f hg).shape.1
theorem zbbr {h:Host}{m g a v:Int}(e:SmH h):SmH (zp4 h m g a v):=by unfold zp4;cases b:zgH h m g a v;{exact e};{have f:zca h m g (zbj a) 2=true:=(by unfold zgH at b;cases c:win a 0 15;{rw [c]at b;cases b};{cases d:win v 0 99;{rw [c,d]at b;cases b};{rw [c,d]at b;exact b}});have c:=zWi h.IoBuffer true e f;exact⟨zvw c.1,c.2⟩}
theorem z7S {h:Host}{m g a:Int}(d:SmH h):SmH (znp h m g a):=by unfold znp;cases b:zfR h m g a;{exact d};{have e:zca h m g (zbj a) 1=true:=(by unfold zfR at b;cases c:win a 0 15;{rw [c]at b;cases b};{rw [c]at b;exact b});exact zWi h.IoBuffer true d e}
theorem zbbs {h:Host}{m p:Int}(a:SmH h):SmH (zqb h m p):=by unfold zqb;cases b:zb8 h m p;{exact a};{obtain⟨c,d,e⟩:=zkh.1 b;cases zkv h m p;{exact(zNX (ze3 a c).1 d).1};{exact a}}
theorem zbcz {h:Host}{m p:Int}(a:SmH h):SmH (zuR h m p):=by unfold zuR;cases b:zb8 h m p;{exact a};{obtain⟨c,d,e⟩:=zkh.1 b;cases zkv h m p;{exact a};{exact(zj5 (ze3 a c) d e).1.1}}
theorem z5D {h:Host}{m t:Int}(a:SmH h):SmH (zjJ h m t):=by unfold zjJ;cases zbW h;{exact a};{cases c:hasB m (ln h.Mons);{exact a};{cases win t 0 3;{exact a};{have b:zeZ (ix h.Mons m mZ):=a.2.1.2 _ (zbu c mZ);exact⟨a.1,zjc a.2.1 ⟨b.1,b.2.1,b.2.2.1,b.2.2.2.1,b.2.2.2.2.1,b.2.2.2.2.2⟩,a.2.2⟩}}}
def zuL (h:Host)(a:GAct):Host:=bif ieq a.Kind 1 then (zbF h a.M a.G).1 else (cond (ieq a.Kind 2) (zYU h a.M a.G a.X ⟨a.Y,a.Z⟩) (cond (ieq a.Kind 3) (zc1 h a.M a.G a.X) (cond (ieq a.Kind 4) (zQm h a.M a.G a.X) (cond (ieq a.Kind 5) (zQq h a.M a.G) (cond (ieq a.Kind 6) (zQo h a.M a.G a.X) (cond (ieq a.Kind 7) (zYS h a.M a.G ⟨a.X,a.Y,ieq a.Z 1⟩) (cond (ieq a.Kind 8) (zfE h a.M a.X a.Y a.Z) (cond (ieq a.Kind 9) (zWk h a.M a.X) (cond (ieq a.Kind 10) (zYP h a.M) (cond (ieq a.Kind 11) (zp4 h a.M a.G a.X a.Y) (znp h a.M a.G a.X)))))))))))
def zEb (h:Host)(a:GAct):Told:=bif ieq a.Kind 1 then ⟨(zbF h a.M a.G).2,0⟩ else (cond (ieq a.Kind 2) ⟨zYV h a.M a.G a.X ⟨a.Y,a.Z⟩,0⟩ (cond (ieq a.Kind 3) ⟨zTE h a.M a.G a.X,0⟩ (cond (ieq a.Kind 4) ⟨zQn h a.M a.G a.X,0⟩ (cond (ieq a.Kind 5) ⟨zQr h a.M a.G,0⟩ (cond (ieq a.Kind 6) ⟨zQp h a.M a.G a.X,0⟩ (cond (ieq a.Kind 7) ⟨zYT h a.M a.G ⟨a.X,a.Y,ieq a.Z 1⟩,0⟩ (cond (ieq a.Kind 8) ⟨zcH h a.M a.X a.Y a.Z,0⟩ (cond (ieq a.Kind 9) ⟨zWl h a.M a.X,0⟩ (cond (ieq a.Kind 10) ⟨zYR h a.M,zYQ h a.M⟩ (cond (ieq a.Kind 11) ⟨zgH h a.M a.G a.X a.Y,0⟩ (⟨zfR h a.M a.G a.X,zr3 h a.M a.G a.X⟩)))))))))))
def zmI (h:Host)(a:GAct):Host:=bif ieq a.Kind 13 then zqb h a.M a.X else (cond (ieq a.Kind 14) (zuR h a.M a.X) (cond (ieq a.Kind 15) (zut h a.M a.X) (cond (ieq a.Kind 16) (zjJ h a.M a.X) (cold h))))
def zNr (h:Host)(a:GAct):Told:=bif ieq a.Kind 13 then ⟨zEq h a.M a.X,0⟩ else (cond (ieq a.Kind 14) ⟨zKd h a.M a.X,0⟩ (cond (ieq a.Kind 15) ⟨zb8 h a.M a.X,0⟩ (cond (ieq a.Kind 16) ⟨zA8 h a.M a.X,0⟩ (⟨true,0⟩))))
def zem (h:Host)(a:GAct):Host:=bif win a.Kind 1 17 then (cond (win a.Kind 13 17) (zmI h a) (zuL h a)) else h
def zjn (h:Host)(a:GAct):Told:=bif win a.Kind 1 17 then (cond (win a.Kind 13 17) (zNr h a) (zEb h a)) else ⟨false,0⟩
theorem z5C {h:Host}{a:GAct}(b:SmH h):SmH (zmI h a):=by unfold zmI;cases ieq a.Kind 13;{cases ieq a.Kind 14;{cases ieq a.Kind 15;{cases ieq a.Kind 16;{exact z7R b};{exact z5D b}};{exact z5A b}};{exact zbcz b}};{exact zbbs b}
theorem z5B {h:Host}{a:GAct}(c:SmH h):SmH (zuL h a):=by have d:zcr h a.M=true->SmB (zC h a.M):=fun b=>zBc c (zcn.1 b).2;unfold zuL;cases ieq a.Kind 1;{cases ieq a.Kind 2;{cases ieq a.Kind 3;{cases ieq a.Kind 4;{cases ieq a.Kind 5;{cases ieq a.Kind 6;{cases ieq a.Kind 7;{cases ieq a.Kind 8;{cases ieq a.Kind 9;{cases ieq a.Kind 10;{cases ieq a.Kind 11;{exact z7S c};{exact zbbr c}};{exact znK c (fun b=>z0h (d b))}};{exact znK c (fun b=>zXe _ (d b))}};{exact zKz c}};{exact znK c (fun b=>z0i _ _ (d b))}};{exact znK c (fun b=>zN0 _ _ (d b))}};{exact znK c (fun b=>zN1 _ (d b))}};{exact znK c (fun b=>zNZ _ _ (d b))}};{exact zSs c}};{exact znK c (fun b=>z0j _ _ _ (d b))}};{exact(z5r a.M a.G c).sm}
theorem z0m {h:Host}{a:GAct}(b:SmH h):SmH (zem h a):=by unfold zem;cases win a.Kind 1 17;{exact b};{cases win a.Kind 13 17;{exact z5B b};{exact z5C b}}
@[simp] abbrev zvq (h:Host)(a:GAct):Bool:=pc (zcD h)
@[simp] abbrev zll (h:Host)(a:GAct):Host:=zmI h a
@[simp] abbrev zi3 (h:Host)(a:GAct):Told:=zNr h a
def zzt:Run:=rF2 dH (dT .act) fun b c=>(zvq b c,[aH (zll b c),aT .told (zi3 b c)])
def zDs (N:Nat)(c:Host)(a:GAct):OA:=
 (cond (ieq a.Kind 13) (oN (zxV c a.M a.X) (some [(aH (zrr c a.M a.X)),(.agg [(.b (zrt c a.M a.X)),(.i .i64 0)])])) (cond (ieq a.Kind 14) (oN (zAU c a.M a.X) (some [(aH (ztE c a.M a.X)),(.agg [(.b (ztF c a.M a.X)),(.i .i64 0)])])) (cond (ieq a.Kind 15) (oN (zFh c a.M a.X) (some [(aH (zwI c a.M a.X)),(.agg [(.b (zwJ c a.M a.X)),(.i .i64 0)])])) (cond (ieq a.Kind 16) (oN (zvk c a.M a.X) (some [(aH (zpa c a.M a.X)),(.agg [(.b (zpb c a.M a.X)),(.i .i64 0)])])) (oN (zKr c) (some [(aH (zWT c)),(.agg [(.b true),(.i .i64 0)])]))))))
theorem zQj (a:Host)(b:GAct)(c:zvq a b=true):∃N,zDs N a b=some [aH (zll a b),aT .told (zi3 a b)]:=by have d:=zL.1 c;refine⟨0,?_⟩;unfold zDs oN;refine br (fun _=>mu ?_) (fun _=>br (fun _=>mu ?_) (fun _=>br (fun _=>mu ?_) (fun _=>br (fun _=>mu ?_) (fun _=>mu ?_))));all_goals first|rfl|(simp only [*,zll,zi3,zmI,zNr,cT,cF]<;>rfl)|simp_all[Ty.cells,zll,zi3,zmI,zNr]
theorem zJO:vN 325 zzt:=kF2 zRK zA zb9 zcZ (zq []) zQj
def z3E:zba:=[(325,zzt),(323,zIe),(324,zB9),(327,zIf)]++z3D
theorem zRL:zK z3E:=zh zJO (zh zSH (zh zMj (zh zSI zRK)))
@[simp] abbrev zrh (h:Host)(a:GAct):Bool:=pc (zcD h)
@[simp] abbrev zmN (h:Host)(a:GAct):Host:=zem h a
@[simp] abbrev zmO (h:Host)(a:GAct):Told:=zjn h a
def zsM:Run:=rF2 dH (dT .act) fun b c=>(zrh b c,[aH (zmN b c),aT .told (zmO b c)])
def zHo (N:Nat)(c:Host)(a:GAct):OA:=
 let d:=(⟨a.Y,a.Z⟩:Slot); (oN (zFf a) (cond (nB (zzu a)) (oN (zbU c) (some [(aH (zo c)),(.agg [(.b false),(.i .i64 0)])])) (oN (zxT a.Kind) (cond (zsf a.Kind) (oN (zvq c a) (some [(aH (zll c a)),(.agg [(.b (zi3 c a).Ok),(.i .i64 (zi3 c a).N)])])) (cond (ieq a.Kind 1) (oN (zet c a.M a.G) (some [(aH (zFj c a.M a.G)),(.agg [(.b (zFk c a.M a.G)),(.i .i64 0)])])) (cond (ieq a.Kind 2) (oN (zxS c a.M a.G a.X d) (some [(aH (zrn c a.M a.G a.X d)),(.agg [(.b (zro c a.M a.G a.X d)),(.i .i64 0)])])) (cond (ieq a.Kind 3) (oN (znb c a.M a.G a.X) (some [(aH (zhN c a.M a.G a.X)),(.agg [(.b (zjV c a.M a.G a.X)),(.i .i64 0)])])) (cond (ieq a.Kind 4) (oN (zqy c a.M a.G a.X) (some [(aH (zlX c a.M a.G a.X)),(.agg [(.b (zlY c a.M a.G a.X)),(.i .i64 0)])])) (cond (ieq a.Kind 5) (oN (zqA c a.M a.G) (some [(aH (zl1 c a.M a.G)),(.agg [(.b (zl2 c a.M a.G)),(.i .i64 0)])])) (cond (ieq a.Kind 6) (oN (zqz c a.M a.G a.X) (some [(aH (zlZ c a.M a.G a.X)),(.agg [(.b (zl0 c a.M a.G a.X)),(.i .i64 0)])])) (cond (ieq a.Kind 7) (oN (zFg a) (oN (zxQ c a.M a.G (zqw a)) (some [(aH (zri c a.M a.G (zqw a))),(.agg [(.b (zrj c a.M a.G (zqw a))),(.i .i64 0)])]))) (cond (ieq a.Kind 8) (oN (zo2 c a.M a.X a.Y a.Z) (some [(aH (ziS c a.M a.X a.Y a.Z)),(.agg [(.b (zld c a.M a.X a.Y a.Z)),(.i .i64 0)])])) (cond (ieq a.Kind 9) (oN (zvg c a.M a.X) (some [(aH (zo3 c a.M a.X)),(.agg [(.b (zo4 c a.M a.X)),(.i .i64 0)])])) (cond (ieq a.Kind 10) (oN (zxP c a.M) (some [(aH (zre c a.M)),(.agg [(.b (zrg c a.M)),(.i .i64 (zrf c a.M))])])) (cond (ieq a.Kind 11) (oN (zxR c a.M a.G a.X a.Y) (some [(aH (zrk c a.M a.G a.X a.Y)),(.agg [(.b (zrl c a.M a.G a.X a.Y)),(.i .i64 0)])])) (oN (zvh c a.M a.G a.X) (some [(aH (zo5 c a.M a.G a.X)),(.agg [(.b (zo7 c a.M a.G a.X)),(.i .i64 (zo6 c a.M a.G a.X))])])))))))))))))))))
theorem zTe (a:Host)(b:GAct)(c:zrh a b=true):∃N,zHo N a b=some [aH (zmN a b),aT .told (zmO a b)]:=by
 have d:=zL.1 c;refine⟨0,?_⟩;unfold zHo oN nB;conv=>zeta
 refine must rfl (brN (fun _=>mu ?_) (fun _=>must rfl (br (fun _=>mu ?_) (fun _=>br (fun _=>mu ?_) (fun _=>br (fun _=>mu ?_) (fun _=>br (fun _=>mu ?_) (fun _=>br (fun _=>mu ?_) (fun _=>br (fun _=>mu ?_) (fun _=>br (fun _=>mu ?_) (fun _=>br (fun _=>must rfl (mu ?_)) (fun _=>br (fun _=>mu ?_) (fun _=>br (fun _=>mu ?_) (fun _=>br (fun _=>mu ?_) (fun _=>br (fun _=>mu ?_) (fun _=>mu ?_)))))))))))))));all_goals first|rfl|(simp only [*,zmN,zmO,zem,zjn,zuL,zEb,cT,cF]<;>rfl)|simp_all[Ty.cells,zmN,zmO,zem,zjn,zuL,zEb]
theorem zv8:vN 298 zsM:=kF2 zRL zA zb9 zcZ (zq []) zTe
def z3F:zba:=[(298,zsM)]++z3E
theorem zRM:zK z3F:=zh zv8 zRL
def zEw:List GAct->Host×List Told->Host×List Told
 |[],u=>u
 |a::l,u=>zEw l (zem u.1 a,ap u.2 [zjn u.1 a])
def zAq (a:List (List (List Ins)))(l:List GAct):Host×List Told:=zEw (l.take 80) (zfp a,[])
abbrev HSt:Type:=(List Told)×(List (List Int))×(List Mon)×(List Entry)×(List Entry)
def hOf (t:HSt):Host:=⟨t.2.1,t.2.2.1,t.2.2.2.1,t.2.2.2.2⟩
def tOf (u:Host×List Told):HSt:=(u.2,u.1.Memory,u.1.Mons,u.1.Buffer,u.1.IoBuffer)
def zAH (t:HSt):OA:=some [AV.agg (zbk (hOf t)),AV.one (.s .told t.1)]
theorem zQK {e:List (List (List Ins))}(h:zFJ e):SmH (zfp e):=by refine⟨show SmM z1J from ⟨by decide,by decide⟩,⟨?_,?_⟩,by simp[zfp],by simp[zfp]⟩;{simp only [zfp,uM,vL];omega};{intro x d;simp only[zfp,jE]at d;obtain⟨p,f,rfl⟩:=d;have b:=h.2 p (jT f);refine⟨show zvu.length<=1048576 by decide,show SmM zQu from ⟨by decide,by decide⟩,show (rp 8 false).length<=1048576 by decide,⟨?_,?_⟩,by simp[zgt],⟨?_,?_⟩⟩;{simp only [zgt,uM,vL];omega};{intro y a;simp only[zgt,jE]at a;obtain⟨q,c,rfl⟩:=a;exact⟨b.2 q (jT c),show zlo.length<=1048576 by decide,show zlo.length<=1048576 by decide,by simp[zeD]⟩};{simp only [zgt,uM,vL];omega};{intro y a;simp only[zgt,jE]at a;obtain⟨q,c,rfl⟩:=a;exact⟨show (rp 4 false).length<=1048576 by decide,show zlo.length<=1048576 by decide⟩}}
theorem zHX {c:Host->GAct->Bool}(d:∀h a,SmH h->c h a=true)(m:Nat):∀(l:List GAct) (i:Nat) (u:Host×List Told),SmH u.1->u.2.length+l.length<=2147483648->
 goL (fun (i:Nat) x (t:HSt) n=>bif ilt (i:Int) (m:Int) then (cond (c (hOf t) x) (cond (few (ln (ap t.1 [zjn (hOf t) x]))) (n (ap t.1 [zjn (hOf t) x],(zem (hOf t) x).Memory,(zem (hOf t) x).Mons,(zem (hOf t) x).Buffer,(zem (hOf t) x).IoBuffer)) none) none) else zAH t) zAH l i (tOf u)=zAH (tOf (zEw (l.take (m-i)) u))
 |[],i,u,_,_=>by simp[goL,zEw]
 |a::l,i,u,e,k=>by simp only[q0]at k;have g:few (ln (ap u.2 [zjn u.1 a]))=true:=zg8 (by simp[ap];omega);have j:hOf (tOf u)=u.1:=rfl;have f:(tOf u).1=u.2:=rfl;by_cases h:i<m;{have b:ilt (i:Int) (m:Int)=true:=qJ (by omega);simp only[goL,b,j,f,g,d _ _ e,cT];refine(zHX d m l (i+1) (zem u.1 a,ap u.2 [zjn u.1 a]) (z0m e) (by simp[ap];omega)).trans ?_;rw[show m-i=m-(i+1)+1 by omega];rfl};{have b:ilt (i:Int) (m:Int)=false:=qH (by omega);simp only[goL,b,cF];rw[show m-i=0 by omega];rfl}
@[simp] abbrev zvf (a:List (List (List Ins)))(l:List GAct):Bool:=pc (zFJ a/\l.length<=1048576)
@[simp] abbrev zve (a:List (List (List Ins)))(l:List GAct):Host:=(zAq a l).1
@[simp] abbrev zFi (a:List (List (List Ins)))(l:List GAct):List Told:=(zAq a l).2
def zzi:Run:=rF2 (dS (.sl (.sl .ins))) (dS .act) fun b c=>(zvf b c,[aH (zve b c),aS .told (zFi b c)])
def zDe (N:Nat)(b:lQ)(g:lA):OA:=
 (oN (zrm b) (iter (σ:=(Int×(lA×(lT×(lM×(lN×(lE×(lE×(lM×(lN×(lE×(lE×Unit)))))))))))) N (fun h a=>let e:=(ix a.2.1 a.1 zbda);let c:=(⟨a.2.2.2.2.2.2.2.1,a.2.2.2.2.2.2.2.2.1,a.2.2.2.2.2.2.2.2.2.1,a.2.2.2.2.2.2.2.2.2.2.1⟩:Host);let f:=(ap a.2.2.1 [(zmO c e)]);let d:=(zmN c e); (cond (ilt a.1 (ln a.2.1)) (cond (ilt a.1 80) (oN (inb a.1 (ln a.2.1)) (oN (zrh c e) (oN (few (ln f)) (h ((zM .i64 a.1 1),(a.2.1,(f,(a.2.2.2.1,(a.2.2.2.2.1,(a.2.2.2.2.2.1,(a.2.2.2.2.2.2.1,(d.Memory,(d.Mons,(d.Buffer,(d.IoBuffer,()))))))))))))))) (some [(aH c),(aS .told a.2.2.1)])) (some [(aH c),(aS .told a.2.2.1)]))) (0,(g,([],([],([],([],([],((zd3 b).Memory,((zd3 b).Mons,((zd3 b).Buffer,((zd3 b).IoBuffer,())))))))))))))
def zQW:FuncId->Nat->Option Tmpl:=zq [(240,0,{n:=39,tm:=[(1,.sl 0 []),(4,.lp 0 0),(6,.lp 1 0),(7,.sl 1 []),(8,ti)],lo:=[(0,[.sl 2 [],.sl 3 [],.sl 4 [],.sl 5 []]),(1,[.sl 6 [],.sl 7 [],.sl 8 [],.sl 9 []])],ro:=[(0,.act,false),(1,.told,true),(2,(.sl .int),true),(3,.mon,true),(4,.entry,true),(5,.entry,true),(6,(.sl .int),true),(7,.mon,true),(8,.entry,true),(9,.entry,true)]})]
theorem zP5 (b:List lP)(c:List GAct)(k:zvf b c=true):∃N,zDe N b c=some [aH (zve b c),aS .told (zFi b c)]:=by
 obtain⟨j,g⟩:=zL.1 k;have f:=zc3 g;refine zcz fun N e=>?_;unfold zDe oN;conv=>zeta
 refine must (zbh j) ?_;refine(zbo c (fun i (t:lT×lM×lN×lE×lE)=>((i:Int),c,t.1,[],[],[],[],t.2.1,t.2.2.1,t.2.2.2.1,t.2.2.2.2,())) _ (fun i (x:GAct) (t:HSt) m=>bif ilt (i:Int) ((80:Nat):Int) then (cond (zrh (hOf t) x) (cond (few (ln (ap t.1 [zjn (hOf t) x]))) (m (ap t.1 [zjn (hOf t) x],(zem (hOf t) x).Memory,(zem (hOf t) x).Mons,(zem (hOf t) x).Buffer,(zem (hOf t) x).IoBuffer)) none) none) else zAH t) (fun (t:lT×lM×lN×lE×lE)=>(some [(.agg (zbk (⟨t.2.1,t.2.2.1,t.2.2.2.1,t.2.2.2.2⟩:Host))),(.one (.s .told t.1))])) (fun i d t rec=>?_) (fun t rec=>?_) _ ([],(zd3 b).Memory,(zd3 b).Mons,(zd3 b).Buffer,(zd3 b).IoBuffer) (e f.1)).trans ?_;{simp only [zbD d,zbf d,zbp d,zbi d f.1,cT];rfl};{simp only [zbt,cF]};exact zHX (fun h a l=>zbh ((zT h).2 l)) 80 c 0 (zfp b,[]) (zQK j) (by simpa using f.2)
theorem zJv:vN 240 zzi:=kF2 zRM zA zb9 zcZ zQW zP5
def zUN:zba:=[(240,zzi)]++z3F
theorem zHN:zK zUN:=zh zJv zRM
def z0D (h:Host):Prop:=∃a l,zFJ a/\(1<=a.length/\∀p∈a,1<=p.length/\∀x∈p,zc7 x=true)/\h=(zAq a l).1
theorem zKm {p:List Ins}(h:zc7 p=true):p.length<=12:=by unfold zc7 at h;cases a:p.all zdN with|false=>rw[a]at h;cases h|true=>rw[a,cT]at h;have b:=(zfP.1 h).2;unfold ln at b;omega
def zxs (N:Nat)(c:Cur)  : OA :=
 let a:=({ (zme c) with b:=c.b}:Cur); (oN (zpB c) (oN (zmY a 20) (oN (zvf (zvp c) (zsl a 20)) (some [(.agg [(.s .u8 c.b),(.i .i64 (zmZ a 20).i),(.i .i64 (zmZ a 20).h)]),(aH (zve (zvp c) (zsl a 20)))]))))
def zpC (c:Cur)(s:Cur)(a:Host):Prop:=(∃N,zxs N c=some (AV.agg (zbT s)::[aH a]))/\(s.b=c.b/\0<=s.i)/\(z0D a)
def zmW (c:Cur)  : Bool:=wC (zpC c)
def ziu (c:Cur)  : Cur:=wS (zpC c)
def zsk (c:Cur)  : Host:=wV (zpC c)
theorem zIw {c:Cur}(h:zmW c=true):zpC c (ziu c) (zsk c):=wG h
theorem zZi (c:Cur)  : 0<=(ziu c).i:=wP fun h=>h.2.1.2
theorem zZh (c:Cur)(h:∃N,Ends (wE (fun a=>aH a) c.b fun a=>z0D a) (zxs N c)):zmW c=true:=wI (fun _ _ h=>h) h
def zyZ:zdn:=rP0 fun c=>(zmW c,ziu c,[aH (zsk c)])
theorem zMH:zbK Tryz.prog 149 [false,true,true] zyZ:=hP0 zHN zW zWE zn (zq []) (fun _ h=>(zIw h).1)
theorem z4j {c:Cur}(h:zbc c):zmW c=true:=by
 refine zZh c ⟨0,?_⟩;have e:zbc {zme c with b:=c.b}:=zbL h (z2t _);have a:=(zNR (z8g h)).2.2;have f:=(zIx (z2W e (m:=20) (by omega) (by omega))).2.2;unfold zxs oN;conv=>zeta
 have i:(zsl {zme c with b:=c.b} 20).length<=65:=by unfold ln at f;omega
 have S:zFJ (zvp c):=⟨by omega,fun p d=>by
  have g:=a.2.2 p d;exact⟨by omega,fun x j=>by have:=zKm (g.2.2 x j);omega⟩⟩
 exact zu (z8g h) (zu (z2W e (by omega) (by omega)) (zu (zbh ⟨S,qU i (by decide)⟩) (zbE aH (zZk _ _) ⟨_,_,S,⟨a.1,fun p d=>⟨(a.2.2 p d).1,(a.2.2 p d).2.2⟩⟩,rfl⟩)))
def z9G:zcL:=[(149,([false,true,true],zyZ))]++z9F
theorem zKg:zb3 z9G:=zcq zWE (by
 intro x a;simp only[qG,qN,or_false]at a;rcases a with rfl
 .exact zMH)
def z3j:zba:=zUN
theorem z3k:zK z3j:=zHN
instance:Inhabited Slot:=⟨⟨0,0⟩⟩
instance:Inhabited Entry:=⟨⟨0,0,0,0⟩⟩
instance:Inhabited GExit:=⟨⟨0,0,false,0⟩⟩
instance:Inhabited Guest:=⟨⟨[],0,0,[],[],⟨0,0,false⟩,0,⟨0,0,false,0⟩,false,[]⟩⟩
theorem zvM {c:Cur}(h:zbc c){n m:Int}(a:0<n)(b:n<=m):inb (zk c n) m=true:=by have:=zfC h a;exact qJ (by omega)
theorem zDA {c:Cur}(h:zbc c){n m:Int}(a:0<n)(b:n<=m+1):inr 0 (zk c n) m=true:=by have:=zfC h a;exact qJ (by omega)
theorem zEk {a:Type}(l:List a)(n:Int):(tk l n).length<=l.length:=by simp[tk];omega
theorem zhZ {a:Type}(l:List a)(n:Int)(x:a):(up l n x).length=l.length:=by simp[up]
theorem z7f {a:Type}(l:List a)(n:Int):ln (tk l n)<=ln l:=by have:=zEk l n;unfold ln;omega
theorem z7g {a:Type}(l:List a)(n:Int)(x:a):ln (up l n x)=ln l:=by unfold ln;rw[zhZ]
def I64 (x:Int):Prop:=-9223372036854775808<=x/\x<=9223372036854775807
theorem zWp {f:Type}{c:Cur}(h:zbc c){P:f->Prop}{m:Int}(r:0<=m)(I:m<=1000){fc:Cur->Bool}{fs:Cur->Cur}{fv:Cur->f}(z:∀{c:Cur},zbc c->fc c=true)(C:∀c,0<=(fs c).i)(hg:∀{c:Cur},zbc c->P (fv c)){G:Ans->Prop}{R:Cur->List f->Ans}(w:∀s l,s.b=c.b->0<=s.i->ln l=m->(∀x∈l,P x)->G (R s l)){j:Type}(S:Int->Int×Int×List f->j){F:(j->OA)->j->OA}(v:∀rec t i k l,F rec (S t (i,k,l))=bif ilt t m then (cond (fc ⟨c.b,i,k⟩) (cond (few (ln (ap l [fv ⟨c.b,i,k⟩]))) (rec (S (zM .i64 t 1) ((fs ⟨c.b,i,k⟩).i,(fs ⟨c.b,i,k⟩).h,ap l [fv ⟨c.b,i,k⟩]))) none) none) else some (R ⟨c.b,i,k⟩ l)):Ends G (iter 1002 F (S 0 (c.i,c.h,[]))):=by refine zms (fun n s=>∃t i k l,s=S t (i,k,l)/\t+(n:Int)=1000/\0<=t/\t<=m/\0<=i/\(∀x∈l,P x)/\ln l=t) ?_ 1002 1000 _ ⟨0,c.i,c.h,[],rfl,rfl,kS 0,r,h.1,by simp,rfl⟩ (by omega);rintro n s rec ⟨t,i,k,l,rfl,D,u,E,p,q,H⟩ d;rw[v];have a:zbc ⟨c.b,i,k⟩:=zbL h p;refine zbA (fun g=>?_) (fun g=>?_);{have B:t<m:=qE g;have J:=zg3 (y:=1) u (by omega) (by omega) (by omega);refine zu (z a) (zu (zkL (by rw[zhx];omega)) (d (n-1) _ (by omega) ⟨_,_,_,_,rfl,by omega,by omega,by omega,C _,?_,by rw[zhx];omega⟩));intro x e;rcases jJ.1 e with e|e;{exact q x e};{rw [qF.1 e];exact hg a}};{have A:¬ t<m:=jU g;exact zod (w _ l rfl p (by omega) q)}
def zsq (N:Nat)(c:Cur)  : OA :=
 let a:=(zU c [3,3,1,2,0,3,1,(-1),4,9223372036854775807]); (oN (zbl c [3,3,1,2,0,3,1,(-1),4,9223372036854775807]) (some [(.agg [(.s .u8 c.b),(.i .i64 a.i),(.i .i64 a.h)]),(aI (zbg c [3,3,1,2,0,3,1,(-1),4,9223372036854775807]))]))
def zl8 (c:Cur)(s:Cur)(a:Int):Prop:=(∃N,zsq N c=some (AV.agg (zbT s)::[aI a]))/\(s.b=c.b/\0<=s.i)/\(True)
def zjZ (c:Cur)  : Bool:=wC (zl8 c)
def zj0 (c:Cur)  : Cur:=wS (zl8 c)
def zrv (c:Cur)  : Int:=wV (zl8 c)
theorem zTF {c:Cur}(h:zjZ c=true):zl8 c (zj0 c) (zrv c):=wG h
theorem zTH (c:Cur)  : 0<=(zj0 c).i:=wP fun h=>h.2.1.2
theorem zTG (c:Cur)(h:∃N,Ends (wE (fun a=>aI a) c.b fun a=>True) (zsq N c)):zjZ c=true:=wI (fun _ _ h=>h) h
def zuU:zdn:=rP0 fun c=>(zjZ c,zj0 c,[aI (zrv c)])
theorem zGI:zbK Tryz.prog 158 [false,true,true] zuU:=hP0 zdI zW zKg zn (zq []) (fun _ h=>(zTF h).1)
theorem z7B {c:Cur}(h:zbc c):zjZ c=true:=by
 refine zTG c ⟨0,?_⟩;unfold zsq oN;conv=>zeta
 exact zu (zdW h (by simp)) (zbE aI (zbJ _ _) trivial)
def z9H:zcL:=[(158,([false,true,true],zuU))]++z9G
theorem zWF:zb3 z9H:=zcq zKg (by
 intro x a;simp only[qG,qN,or_false]at a;rcases a with rfl
 .exact zGI)
def z8N:zba:=[(100,zu9),(260,zoJ),(261,zqo),(262,zsO)]++zOA
theorem zdT:zK z8N:=zh zyA (zh ztb (zh zuz (zh zwa zdI)))
def zxn (N:Nat)(c:Cur)(d:Int):OA:=
 let e:=({ (zN c 5) with b:=c.b}:Cur);let a:=({ (zf e d) with b:=c.b}:Cur); (oN (zcI c 5) (cond (zcT c 5) (oN zcx (some [(.agg [(.s .u8 c.b),(.i .i64 (zN c 5).i),(.i .i64 (zN c 5).h)]),(.agg [(.i .i64 zbw.Page),(.i .i64 zbw.Rights)])])) (oN (zx e d) (oN (zbl a [3,3,3,1,2]) (some [(.agg [(.s .u8 c.b),(.i .i64 (zU a [3,3,3,1,2]).i),(.i .i64 (zU a [3,3,3,1,2]).h)]),(.agg [(.i .i64 (zk e d)),(.i .i64 (zbg a [3,3,3,1,2]))])])))))
def zpl (c:Cur)(a:Int)(s:Cur)(d:Slot):Prop:=(∃N,zxn N c a=some (AV.agg (zbT s)::[aT .slot d]))/\(s.b=c.b/\0<=s.i)/\((0<a->a<=1000->I64 d.Page))
def ziq (c:Cur)(a:Int):Bool:=wC (zpl c a)
def zfU (c:Cur)(a:Int):Cur:=wS (zpl c a)
def zfy (c:Cur)(a:Int):Slot:=wV (zpl c a)
theorem zxX {c:Cur}{a:Int}(h:ziq c a=true):zpl c a (zfU c a) (zfy c a):=wG h
theorem zIs (c:Cur)(a:Int):0<=(zfU c a).i:=wP fun h=>h.2.1.2
theorem zY8 (c:Cur)(a:Int)(h:∃N,Ends (wE (fun d=>aT .slot d) c.b fun d=>(0<a->a<=1000->I64 d.Page)) (zxn N c a)):ziq c a=true:=wI (fun _ _ h=>h) h
def zyT:zdn:=rP1 dI fun c b=>(ziq c b,zfU c b,[aT .slot (zfy c b)])
theorem zMv:zbK Tryz.prog 157 [false,true,true] zyT:=hP1 zdT zW zWF zn (zq []) (fun _ _ h=>(zxX h).1)
theorem zNY {c:Cur}(h:zbc c)(a:Int):ziq c a=true:=by
 refine zY8 c a ⟨0,?_⟩;unfold zxn oN;conv=>zeta
 have d:zbc {zN c 5 with b:=c.b}:=zbL h (zcj _ _);have g:zbc {zf {zN c 5 with b:=c.b} a with b:=c.b}:=zbL h (zF _ _);refine zu (ziN h 5) (zbA (fun _=>zu rfl (zbE (aT .slot) (v:=⟨_,_⟩) (zcj _ _) (fun _ _=>?_))) (fun _=>zu (zbz d a) (zu (zdW g (by simp)) (zbE (aT .slot) (v:=⟨_,_⟩) (zbJ _ _) (fun e f=>?_)))));{exact⟨by decide,by decide⟩};{have:=zfC d e;exact⟨Int.le_trans (by decide) this.1,Int.le_trans (vM this.2) (by omega)⟩}
def z9I:zcL:=[(157,([false,true,true],zyT))]++z9H
theorem zKh:zb3 z9I:=zcq zWF (by
 intro x a;simp only[qG,qN,or_false]at a;rcases a with rfl
 .exact zMv)
def zzN (N:Nat)(c:Cur)(a:Int):OA:=
 let e:=({ (zfU c a) with b:=c.b}:Cur);let d:=({ (zf e 12) with b:=c.b}:Cur);let f:=(zU d [(-1),(-2),a,9223372036854775807,(-9223372036854775808)]); (oN (ziq c a) (oN (zx e 12) (cond (ieq (zk e 12) 0) (oN (zbl d [(-1),(-2),a,9223372036854775807,(-9223372036854775808)]) (some [(.agg [(.s .u8 c.b),(.i .i64 f.i),(.i .i64 f.h)]),(.agg [(.i .i64 (zbg d [(-1),(-2),a,9223372036854775807,(-9223372036854775808)])),(.i .i64 (zfy c a).Rights)])])) (cond (ieq (zk e 12) 1) (oN (zjZ d) (some [(.agg [(.s .u8 c.b),(.i .i64 (zj0 d).i),(.i .i64 (zj0 d).h)]),(.agg [(.i .i64 (zfy c a).Page),(.i .i64 (zrv d))])])) (some [(.agg [(.s .u8 c.b),(.i .i64 (zf e 12).i),(.i .i64 (zf e 12).h)]),(.agg [(.i .i64 (zfy c a).Page),(.i .i64 (zfy c a).Rights)])])))))
def zrx (c:Cur)(a:Int)(s:Cur)(d:Slot):Prop:=(∃N,zzN N c a=some (AV.agg (zbT s)::[aT .slot d]))/\(s.b=c.b/\0<=s.i)/\((0<a->a<=1000->I64 d.Page))
def zpi (c:Cur)(a:Int):Bool:=wC (zrx c a)
def zpj (c:Cur)(a:Int):Cur:=wS (zrx c a)
def zKv (c:Cur)(a:Int):Slot:=wV (zrx c a)
theorem zNM {c:Cur}{a:Int}(h:zpi c a=true):zrx c a (zpj c a) (zKv c a):=wG h
theorem z18 (c:Cur)(a:Int):0<=(zpj c a).i:=wP fun h=>h.2.1.2
theorem z16 (c:Cur)(a:Int)(h:∃N,Ends (wE (fun d=>aT .slot d) c.b fun d=>(0<a->a<=1000->I64 d.Page)) (zzN N c a)):zpi c a=true:=wI (fun _ _ h=>h) h
def zBL:zdn:=rP1 dI fun c b=>(zpi c b,zpj c b,[aT .slot (zKv c b)])
theorem zPn:zbK Tryz.prog 69 [false,true,true] zBL:=hP1 zdT zW zKh zn (zq []) (fun _ _ h=>(zNM h).1)
theorem zRx {c:Cur}(h:zbc c)(a:Int):zpi c a=true:=by
 refine z16 c a ⟨0,?_⟩;unfold zzN oN;conv=>zeta
 have d:zbc {zfU c a with b:=c.b}:=zbL h (zIs _ _);have f:zbc {zf {zfU c a with b:=c.b} 12 with b:=c.b}:=zbL h (zF _ _);have g:=(zxX (zNY h a)).2.2;refine zu (zNY h a) (zu (zbz d 12) (zbA (fun _=>zu (zdW f (by simp)) (zbE (aT .slot) (v:=⟨zbg _ _,(zfy c a).Rights⟩) (zbJ _ _) (fun e i=>?_))) (fun _=>zbA (fun _=>zu (z7B f) (zbE (aT .slot) (v:=⟨(zfy c a).Page,zrv _⟩) (zTH _) (fun e d=>g e d))) (fun _=>zbE (aT .slot) (v:=⟨(zfy c a).Page,(zfy c a).Rights⟩) (zF _ _) (fun e d=>g e d)))));have j:=z0b f (l:=[-1,-2,a,9223372036854775807,-9223372036854775808]) (by simp);simp only[qG,qN,or_false]at j;unfold I64;dsimp only;omega
def zt8 (N:Nat)(c:Cur)(g j:Int):OA:=
 (iter (σ:=(Int×(Int×(Int×(Int×(Int×(lS×((List Int)×Unit)))))))) N (fun k a=>let e:=a.2.2.2.2.2.2.1;let d:=(⟨e,a.2.2.2.1,a.2.2.2.2.1⟩:Cur);let f:=(ap a.2.2.2.2.2.1 [(zfy d a.2.1)]); (cond (ilt a.2.2.1 a.1) (oN (ziq d a.2.1) (oN (few (ln f)) (k (a.1,(a.2.1,((zM .i64 a.2.2.1 1),((zfU d a.2.1).i,((zfU d a.2.1).h,(f,(e,())))))))))) (some [(.agg [(.s .u8 e),(.i .i64 a.2.2.2.1),(.i .i64 a.2.2.2.2.1)]),(aS .slot a.2.2.2.2.2.1)]))) (g,(j,(0,(c.i,(c.h,([],(c.b,()))))))))
def zQZ:FuncId->Nat->Option Tmpl:=zq [(244,0,{n:=22,tm:=[(0,.lp 0 0),(1,ti),(2,ti),(7,.sl 0 []),(8,ti)],lo:=[(0,[.sl 1 [],ti,ti])],ro:=[(0,.slot,true),(1,.u8,false)]})]
def znd (c:Cur)(a:Int)(d:Int)(s:Cur)(e:List Slot):Prop:=(∃N,zt8 N c a d=some (AV.agg (zbT s)::[aS .slot e]))/\(s.b=c.b/\0<=s.i)/\((0<=a->a<=1000->ln e=a/\(0<d->d<=1000->∀s∈e,I64 s.Page)))
def zhr (c:Cur)(a:Int)(b:Int):Bool:=wC (znd c a b)
def zJ (c:Cur)(a:Int)(b:Int):Cur:=wS (znd c a b)
def zdl (c:Cur)(a:Int)(b:Int):List Slot:=wV (znd c a b)
theorem zvm {c:Cur}{a:Int}{b:Int}(h:zhr c a b=true):znd c a b (zJ c a b) (zdl c a b):=wG h
theorem zhs (c:Cur)(a:Int)(b:Int):0<=(zJ c a b).i:=wP fun h=>h.2.1.2
theorem zWW (c:Cur)(a:Int)(d:Int)(h:∃N,Ends (wE (fun e=>aS .slot e) c.b fun e=>(0<=a->a<=1000->ln e=a/\(0<d->d<=1000->∀s∈e,I64 s.Page))) (zt8 N c a d)):zhr c a d=true:=wI (fun _ _ h=>h) h
def zwh:zdn:=rP2 dI dI fun c b d=>(zhr c b d,zJ c b d,[aS .slot (zdl c b d)])
theorem zJG:zbK Tryz.prog 244 [false,true,true] zwh:=hP2 zdT zW zKh zn zQZ (fun _ _ _ h=>(zvm h).1)
theorem zzG {c:Cur}(h:zbc c){d:Int}(g:0<=d)(j:d<=1000)(a:Int):zhr c d a=true:=by
 refine zWW c d a ⟨1002,?_⟩;unfold zt8 oN;conv=>zeta
 exact zWp h (P:=fun s=>0<a->a<=1000->I64 s.Page) g j (fc:=fun c=>ziq c a) (fs:=fun c=>zfU c a) (fv:=fun c=>zfy c a) (R:=fun s l=>AV.agg (zbT s)::[aS .slot l]) (fun h=>zNY h a) (fun c=>zIs c a) (fun h=>(zxX (zNY h a)).2.2) (fun s l m n p q=>⟨s,l,rfl,⟨m,n⟩,fun _ _=>⟨p,fun e f s r=>q s r e f⟩⟩) ((fun i t=>(d,a,(i:Int),t.1,t.2.1,t.2.2,c.b,())):Int->Int×Int×List Slot->_) (fun rec t i k l=>rfl)
theorem zbby {c:Cur}(h:zbc c){n m:Int}(a:0<=n)(b:n<=1000)(d:0<m)(e:m<=1000):ln (zdl c n m)=n/\∀s∈zdl c n m,I64 s.Page:=by have g:=(zvm (zzG h a b m)).2.2 a b;exact⟨g.1,g.2 d e⟩
def z9J:zcL:=[(69,([false,true,true],zBL)),(244,([false,true,true],zwh))]++z9I
theorem zKi:zb3 z9J:=zcq zKh (by
 intro x a;simp only[qG,qN,or_false]at a;rcases a with rfl|rfl
 .exact zPn
 .exact zJG)
def zn3 (N:Nat)(c:Cur)(a d:Int):OA:=
 let g:=(zdl c a d);let f:=({ (zJ c a d) with b:=c.b}:Cur);let e:=({ (zf f 8) with b:=c.b}:Cur);let k:=(zk e a);let j:=({ (zf e a) with b:=c.b}:Cur); (oN (zhr c a d) (oN (zx f 8) (cond (ieq (zk f 8) 0) (oN (zx e a) (oN (zpi j d) (oN (inb k (ln g)) (share (up g k (zKv j d)) (fun l=>(some [(.agg [(.s .u8 c.b),(.i .i64 (zpj j d).i),(.i .i64 (zpj j d).h)]),(aS .slot l)])))))) (cond (ieq (zk f 8) 1) (oN (zx e a) (oN (inr 0 k (ln g)) (some [(.agg [(.s .u8 c.b),(.i .i64 (zf e a).i),(.i .i64 (zf e a).h)]),(aS .slot (tk g k))]))) (some [(.agg [(.s .u8 c.b),(.i .i64 (zf f 8).i),(.i .i64 (zf f 8).h)]),(aS .slot g)])))))
def zjF (c:Cur)(a:Int)(d:Int)(s:Cur)(e:List Slot):Prop:=(∃N,zn3 N c a d=some (AV.agg (zbT s)::[aS .slot e]))/\(s.b=c.b/\0<=s.i)/\((0<a->a<=1000->ln e<=a/\(0<d->d<=1000->∀s∈e,I64 s.Page)))
def zfk (c:Cur)(a:Int)(b:Int):Bool:=wC (zjF c a b)
def zgj (c:Cur)(a:Int)(b:Int):Cur:=wS (zjF c a b)
def zeC (c:Cur)(a:Int)(b:Int):List Slot:=wV (zjF c a b)
theorem zpg {c:Cur}{a:Int}{b:Int}(h:zfk c a b=true):zjF c a b (zgj c a b) (zeC c a b):=wG h
theorem zph (c:Cur)(a:Int)(b:Int):0<=(zgj c a b).i:=wP fun h=>h.2.1.2
theorem zNL (c:Cur)(a:Int)(d:Int)(h:∃N,Ends (wE (fun e=>aS .slot e) c.b fun e=>(0<a->a<=1000->ln e<=a/\(0<d->d<=1000->∀s∈e,I64 s.Page))) (zn3 N c a d)):zfk c a d=true:=wI (fun _ _ h=>h) h
def zsb:zdn:=rP2 dI dI fun c b d=>(zfk c b d,zgj c b d,[aS .slot (zeC c b d)])
theorem zCN:zbK Tryz.prog 151 [false,true,true] zsb:=hP2 zdT zW zKi zn (zq []) (fun _ _ _ h=>(zpg h).1)
theorem zn6 {c:Cur}(h:zbc c){n:Int}(a:0<n)(j:n<=1000)(m:Int):zfk c n m=true:=by
 refine zNL c n m ⟨0,?_⟩;unfold zn3 oN;conv=>zeta
 have l:zbc {zJ c n m with b:=c.b}:=zbL h (zhs _ _ _);have i:zbc {zf {zJ c n m with b:=c.b} 8 with b:=c.b}:=zbL h (zF _ _);have k:zbc {zf {zf {zJ c n m with b:=c.b} 8 with b:=c.b} n with b:=c.b}:=zbL h (zF _ _);have g:=(zvm (zzG h (vM a) j m)).2.2 (vM a) j;generalize zdl c n m=T at g;refine zu (zzG h (vM a) j m) (zu (zbz l 8) (zbA (fun _=>zu (zbz i n) (zu (zRx k m) (zu (zvM i a (by omega)) (zlz (zbE (aS .slot) (z18 _ _) (fun _ _=>⟨by rw[z7g];omega,fun e f s d=>?_⟩)))))) (fun _=>zbA (fun _=>zu (zbz i n) (zu (zDA i a (by omega)) (zbE (aS .slot) (zF _ _) (fun _ _=>⟨?_,fun e f s d=>g.2 e f s (jT d)⟩)))) (fun _=>zbE (aS .slot) (zF _ _) (fun _ _=>⟨by omega,g.2⟩)))));{rcases qY d with d|rfl;{exact g.2 e f s d};{exact(zNM (zRx k m)).2.2 e f}};{have:=z7f T;exact Int.le_trans (this _) (by omega)}
def zxo (N:Nat)(c:Cur)  : OA :=
 (iter (σ:=(Int×(Int×(Int×((List Int)×((List Int)×Unit)))))) N (fun f a=>let d:=(⟨a.2.2.2.2.1,a.2.1,a.2.2.1⟩:Cur);let e:=(ap a.2.2.2.1 [(zk d 100)]); (cond (ilt a.1 4) (oN (zx d 100) (oN (few (ln e)) (f ((zM .i64 a.1 1),((zf d 100).i,((zf d 100).h,(e,(a.2.2.2.2.1,())))))))) (some [(.agg [(.s .u8 a.2.2.2.2.1),(.i .i64 a.2.1),(.i .i64 a.2.2.1)]),(aS .int a.2.2.2.1)]))) (0,(c.i,(c.h,([],(c.b,()))))))
def zTW:FuncId->Nat->Option Tmpl:=zq [(245,0,{n:=16,tm:=[(0,.lp 0 0),(3,.sl 0 []),(4,ti)],lo:=[(0,[.sl 1 [],ti,ti])],ro:=[(0,.int,true),(1,.u8,false)]})]
def zpn (c:Cur)(s:Cur)(a:List Int):Prop:=(∃N,zxo N c=some (AV.agg (zbT s)::[aS .int a]))/\(s.b=c.b/\0<=s.i)/\(a.length=4)
def zir (c:Cur)  : Bool:=wC (zpn c)
def zeU (c:Cur)  : Cur:=wS (zpn c)
def znV (c:Cur)  : List Int:=wV (zpn c)
theorem zxY {c:Cur}(h:zir c=true):zpn c (zeU c) (znV c):=wG h
theorem zIt (c:Cur)  : 0<=(zeU c).i:=wP fun h=>h.2.1.2
theorem zY9 (c:Cur)(h:∃N,Ends (wE (fun a=>aS .int a) c.b fun a=>a.length=4) (zxo N c)):zir c=true:=wI (fun _ _ h=>h) h
def zyU:zdn:=rP0 fun c=>(zir c,zeU c,[aS .int (znV c)])
theorem zMx:zbK Tryz.prog 245 [false,true,true] zyU:=hP0 zdT zW zKi zn zTW (fun _ h=>(zxY h).1)
theorem zNx {c:Cur}(h:zbc c):zir c=true:=by
 refine zY9 c ⟨1002,?_⟩;unfold zxo oN;conv=>zeta
 exact zWp h (P:=fun _=>True) (m:=4) (by omega) (by omega) (fc:=fun c=>zx c 100) (fs:=fun c=>zf c 100) (fv:=fun c=>zk c 100) (R:=fun s l=>AV.agg (zbT s)::[aS .int l]) (fun h=>zbz h _) (fun c=>zF c _) (fun _=>trivial) (fun s l a d e f=>⟨s,l,rfl,⟨a,d⟩,by unfold ln at e;omega⟩) ((fun i t=>((i:Int),t.1,t.2.1,t.2.2,c.b,())):Int->Int×Int×List Int->_) (fun rec t i k l=>rfl)
def z9K:zcL:=[(151,([false,true,true],zsb)),(245,([false,true,true],zyU))]++z9J
theorem zKj:zb3 z9K:=zcq zKi (by
 intro x a;simp only[qG,qN,or_false]at a;rcases a with rfl|rfl
 .exact zCN
 .exact zMx)
def zzO (N:Nat)(c:Cur)(f:Int):OA:=
 (iter (σ:=(Int×(Int×(Int×(Int×(lM×((List Int)×Unit))))))) N (fun g a=>let d:=(⟨a.2.2.2.2.2.1,a.2.2.1,a.2.2.2.1⟩:Cur);let e:=(ap a.2.2.2.2.1 [(znV d)]); (cond (ilt a.2.1 a.1) (oN (zir d) (oN (few (ln e)) (g (a.1,((zM .i64 a.2.1 1),((zeU d).i,((zeU d).h,(e,(a.2.2.2.2.2.1,()))))))))) (some [(.agg [(.s .u8 a.2.2.2.2.2.1),(.i .i64 a.2.2.1),(.i .i64 a.2.2.2.1)]),(aS (.sl .int) a.2.2.2.2.1)]))) (f,(0,(c.i,(c.h,([],(c.b,())))))))
def zXL:FuncId->Nat->Option Tmpl:=zq [(251,0,{n:=19,tm:=[(0,.lp 0 0),(1,ti),(5,.sl 0 []),(6,ti)],lo:=[(0,[.sl 1 [],ti,ti])],ro:=[(0,(.sl .int),true),(1,.u8,false)]})]
def zrA (c:Cur)(a:Int)(s:Cur)(d:List (List Int)):Prop:=(∃N,zzO N c a=some (AV.agg (zbT s)::[aS (.sl .int) d]))/\(s.b=c.b/\0<=s.i)/\((0<=a->a<=1000->ln d=a/\∀r∈d,r.length=4))
def zh7 (c:Cur)(a:Int):Bool:=wC (zrA c a)
def zl9 (c:Cur)(a:Int):Cur:=wS (zrA c a)
def zvn (c:Cur)(a:Int):List (List Int):=wV (zrA c a)
theorem zAZ {c:Cur}{a0:Int}(h:zh7 c a0=true):zrA c a0 (zl9 c a0) (zvn c a0):=wG h
theorem z2d (c:Cur)(a0:Int):0<=(zl9 c a0).i:=wP fun h=>h.2.1.2
theorem z2c (c:Cur)(a:Int)(h:∃N,Ends (wE (fun d=>aS (.sl .int) d) c.b fun d=>(0<=a->a<=1000->ln d=a/\∀r∈d,r.length=4)) (zzO N c a)):zh7 c a=true:=wI (fun _ _ h=>h) h
def zBM:zdn:=rP1 dI fun c b=>(zh7 c b,zl9 c b,[aS (.sl .int) (zvn c b)])
theorem zyB:zbK Tryz.prog 251 [false,true,true] zBM:=hP1 zdT zW zKj zn zXL (fun _ _ h=>(zAZ h).1)
theorem zbcT {c:Cur}(h:zbc c){a0:Int}(a:0<=a0)(d:a0<=1000):zh7 c a0=true:=by
 refine z2c c a0 ⟨1002,?_⟩;unfold zzO oN;conv=>zeta
 exact zWp h (P:=fun r=>r.length=4) a d (fc:=zir) (fs:=zeU) (fv:=znV) (R:=fun s l=>AV.agg (zbT s)::[aS (.sl .int) l]) zNx zIt (fun h=>(zxY (zNx h)).2.2) (fun s l e f g j=>⟨s,l,rfl,⟨e,f⟩,fun _ _=>⟨g,j⟩⟩) ((fun i t=>(a0,(i:Int),t.1,t.2.1,t.2.2,c.b,())):Int->Int×Int×List (List Int)->_) (fun rec t i k l=>rfl)
def zt9 (N:Nat)(c:Cur)  : OA :=
 let d:=(znV c);let e:=({ (zeU c) with b:=c.b}:Cur);let f:=(zf e 6);let a:=({f with b:=c.b}:Cur);let g:=({ (zf a 4) with b:=c.b}:Cur); (oN (zir c) (oN (zx e 6) (cond (ieq (zk e 6) 0) (oN (zx a 4) (oN (inr 0 (zk a 4) (ln d)) (some [(.agg [(.s .u8 c.b),(.i .i64 (zf a 4).i),(.i .i64 (zf a 4).h)]),(aS .int (tk d (zk a 4)))]))) (cond (ieq (zk e 6) 1) (oN (zx a 4) (oN (zbl g [(-1),99,100]) (oN (inb (zk a 4) (ln d)) (share (up d (zk a 4) (zbg g [(-1),99,100])) (fun j=>(some [(.agg [(.s .u8 c.b),(.i .i64 (zU g [(-1),99,100]).i),(.i .i64 (zU g [(-1),99,100]).h)]),(aS .int j)])))))) (cond (ieq (zk e 6) 2) (oN (few (ln (ap d [1]))) (some [(.agg [(.s .u8 c.b),(.i .i64 f.i),(.i .i64 f.h)]),(aS .int (ap d [1]))])) (some [(.agg [(.s .u8 c.b),(.i .i64 f.i),(.i .i64 f.h)]),(aS .int d)]))))))
def zne (c:Cur)(s:Cur)(a:List Int):Prop:=(∃N,zt9 N c=some (AV.agg (zbT s)::[aS .int a]))/\(s.b=c.b/\0<=s.i)/\(a.length<=5)
def zlg (c:Cur)  : Bool:=wC (zne c)
def zlh (c:Cur)  : Cur:=wS (zne c)
def ztJ (c:Cur)  : List Int:=wV (zne c)
theorem zFn {c:Cur}(h:zlg c=true):zne c (zlh c) (ztJ c):=wG h
theorem zWY (c:Cur)  : 0<=(zlh c).i:=wP fun h=>h.2.1.2
theorem zWX (c:Cur)(h:∃N,Ends (wE (fun a=>aS .int a) c.b fun a=>a.length<=5) (zt9 N c)):zlg c=true:=wI (fun _ _ h=>h) h
def zwi:zdn:=rP0 fun c=>(zlg c,zlh c,[aS .int (ztJ c)])
theorem zJH:zbK Tryz.prog 152 [false,true,true] zwi:=hP0 zdT zW zKj zn (zq []) (fun _ h=>(zFn h).1)
theorem zZJ {c:Cur}(h:zbc c):zlg c=true:=by
 refine zWX c ⟨0,?_⟩;unfold zt9 oN;conv=>zeta
 have e:zbc {zeU c with b:=c.b}:=zbL h (zIt _);have a:zbc {zf {zeU c with b:=c.b} 6 with b:=c.b}:=zbL h (zF _ _);have f:zbc {zf {zf {zeU c with b:=c.b} 6 with b:=c.b} 4 with b:=c.b}:=zbL h (zF _ _);have g:=(zxY (zNx h)).2.2;generalize znV c=T at g;have d:ln T=4:=(by unfold ln;omega);refine zu (zNx h) (zu (zbz e 6) (zbA (fun _=>zu (zbz a 4) (zu (zDA a (by omega) (by omega)) (zbE (aS .int) (zF _ _) (qU (zEk T _) (by omega))))) (fun _=>zbA (fun _=>zu (zbz a 4) (zu (zdW f (by simp)) (zu (zvM a (by omega) (by omega)) (zlz (zbE (aS .int) (zbJ _ _) (by rw[zhZ];omega)))))) (fun _=>zbA (fun _=>zu (zkL (by rw[zhx];omega)) (zbE (aS .int) (zF _ _) ?_)) (fun _=>zbE (aS .int) (zF _ _) (by omega))))));simp[ap];omega
def z9L:zcL:=[(251,([false,true,true],zBM)),(152,([false,true,true],zwi))]++z9K
theorem zWG:zb3 z9L:=zcq zKj (by
 intro x a;simp only[qG,qN,or_false]at a;rcases a with rfl|rfl
 .exact zyB
 .exact zJH)
def zss (N:Nat)(c:Cur)  : OA :=
 let d:=({ (zfX c) with b:=c.b}:Cur);let a:=({ (zf d 10) with b:=c.b}:Cur);let e:=(zU a [(-1),0,12,15,16,99,100,9223372036854775807]); (oN (zjG c) (oN (zx d 10) (cond (ieq (zk d 10) 0) (oN (zx a 11) (some [(.agg [(.s .u8 c.b),(.i .i64 (zf a 11).i),(.i .i64 (zf a 11).h)]),(.agg [(.i .i64 (wsub .i64 (zk a 11) 1)),(.i .i64 (zfN c).X)])])) (cond (ieq (zk d 10) 1) (oN (zbl a [(-1),0,12,15,16,99,100,9223372036854775807]) (some [(.agg [(.s .u8 c.b),(.i .i64 e.i),(.i .i64 e.h)]),(.agg [(.i .i64 (zfN c).Op),(.i .i64 (zbg a [(-1),0,12,15,16,99,100,9223372036854775807]))])])) (some [(.agg [(.s .u8 c.b),(.i .i64 (zf d 10).i),(.i .i64 (zf d 10).h)]),(.agg [(.i .i64 (zfN c).Op),(.i .i64 (zfN c).X)])])))))
def zmc (c:Cur)(s:Cur)(a:Ins):Prop:=(∃N,zss N c=some (AV.agg (zbT s)::[aT .ins a]))/\(s.b=c.b/\0<=s.i)/\(True)
def zj3 (c:Cur)  : Bool:=wC (zmc c)
def zj4 (c:Cur)  : Cur:=wS (zmc c)
def zxZ (c:Cur)  : Ins:=wV (zmc c)
theorem zTK {c:Cur}(h:zj3 c=true):zmc c (zj4 c) (zxZ c):=wG h
theorem zTM (c:Cur)  : 0<=(zj4 c).i:=wP fun h=>h.2.1.2
theorem zTL (c:Cur)(h:∃N,Ends (wE (fun a=>aT .ins a) c.b fun a=>True) (zss N c)):zj3 c=true:=wI (fun _ _ h=>h) h
def zuW:zdn:=rP0 fun c=>(zj3 c,zj4 c,[aT .ins (zxZ c)])
theorem zGK:zbK Tryz.prog 303 [false,true,true] zuW:=hP0 zdT zW zWG zn (zq []) (fun _ h=>(zTK h).1)
theorem z5V {c:Cur}(h:zbc c):zj3 c=true:=by
 refine zTL c ⟨0,?_⟩;unfold zss oN;conv=>zeta
 have d:zbc {zfX c with b:=c.b}:=zbL h (zA0 _);have a:zbc {zf {zfX c with b:=c.b} 10 with b:=c.b}:=zbL h (zF _ _);exact zu (zT7 h) (zu (zbz d 10) (zbA (fun _=>zu (zbz a 11) (zbE (aT .ins) (v:=⟨wsub .i64 _ 1,(zfN c).X⟩) (zF _ _) trivial)) (fun _=>zbA (fun _=>zu (zdW a (by simp)) (zbE (aT .ins) (v:=⟨(zfN c).Op,zbg _ _⟩) (zbJ _ _) trivial)) (fun _=>zbE (aT .ins) (v:=zfN c) (zF _ _) trivial))))
def z9M:zcL:=[(303,([false,true,true],zuW))]++z9L
theorem zAN:zb3 z9M:=zcq zWG (by
 intro x a;simp only[qG,qN,or_false]at a;rcases a with rfl
 .exact zGK)
def zpQ (N:Nat)(c:Cur)  : OA :=
 let e:=(zb1 c);let g:=({ (zY c) with b:=c.b}:Cur);let k:=(zf g 8);let d:=({k with b:=c.b}:Cur); (oN (zgM c) (oN (zx g 8) (cond (ieq (zk g 8) 0) (oN (zj3 d) (oN (inb 0 (ln e)) (share (up e 0 (zxZ d)) (fun m=>(some [(.agg [(.s .u8 c.b),(.i .i64 (zj4 d).i),(.i .i64 (zj4 d).h)]),(aS .ins m)]))))) (cond (ieq (zk g 8) 1) (iter (σ:=(Int×(Int×(lI×((List Int)×Unit))))) N (fun l a=>let j:=(⟨a.2.2.2.1,a.1,a.2.1⟩:Cur);let f:=({ (zf j 2) with b:=a.2.2.2.1}:Cur); (oN (zx j 2) (cond (ilt (ln a.2.2.1) (zM .i64 12 (zk j 2))) (oN (zjG f) (oN (few (ln (ap a.2.2.1 [(zfN f)]))) (l ((zfX f).i,((zfX f).h,((ap a.2.2.1 [(zfN f)]),(a.2.2.2.1,()))))))) (some [(.agg [(.s .u8 a.2.2.2.1),(.i .i64 (zf j 2).i),(.i .i64 (zf j 2).h)]),(aS .ins a.2.2.1)])))) (k.i,(k.h,(e,(c.b,()))))) (cond (ieq (zk g 8) 2) (oN (zx d 2) (oN (inr 0 (zk d 2) (ln e)) (some [(.agg [(.s .u8 c.b),(.i .i64 (zf d 2).i),(.i .i64 (zf d 2).h)]),(aS .ins (tk e (zk d 2)))]))) (some [(.agg [(.s .u8 c.b),(.i .i64 k.i),(.i .i64 k.h)]),(aS .ins e)]))))))
def zKH:FuncId->Nat->Option Tmpl:=zq [(247,1,{n:=34,tm:=[(0,.lp 0 0),(3,.sl 0 [])],lo:=[(0,[.sl 1 [],ti,ti])],ro:=[(0,.ins,true),(1,.u8,false)]})]
def zkz (c:Cur)(s:Cur)(a:List Ins):Prop:=(∃N,zpQ N c=some (AV.agg (zbT s)::[aS .ins a]))/\(s.b=c.b/\0<=s.i)/\(a.length<=13)
def ziW (c:Cur)  : Bool:=wC (zkz c)
def ziX (c:Cur)  : Cur:=wS (zkz c)
def zpp (c:Cur)  : List Ins:=wV (zkz c)
theorem zzB {c:Cur}(h:ziW c=true):zkz c (ziX c) (zpp c):=wG h
theorem zQI (c:Cur)  : 0<=(ziX c).i:=wP fun h=>h.2.1.2
theorem zQH (c:Cur)(h:∃N,Ends (wE (fun a=>aS .ins a) c.b fun a=>a.length<=13) (zpQ N c)):ziW c=true:=wI (fun _ _ h=>h) h
def ztf:zdn:=rP0 fun c=>(ziW c,ziX c,[aS .ins (zpp c)])
theorem zD3:zbK Tryz.prog 247 [false,true,true] ztf:=hP0 zdT zW zAN zn zKH (fun _ h=>(zzB h).1)
theorem zRw {c:Cur}(h:zbc c):ziW c=true:=by
 refine zQH c ⟨1002,?_⟩;unfold zpQ oN;conv=>zeta
 have B:zbc {zY c with b:=c.b}:=zbL h (zit _);have q:zbc {zf {zY c with b:=c.b} 8 with b:=c.b}:=zbL h (zF _ _);have g:=(zrD (zEs h)).2.2;have p:=zKm g;have j:1<=(zb1 c).length:=(by unfold zc7 at g;cases d:(zb1 c).all zdN with|false=>rw[d] at g;cases g|true=>rw[d,cT] at g;have:=(zfP.1 g).1;unfold ln at this;omega);generalize zb1 c=T at p j;have y:1<=ln T/\ln T<=12:=(by unfold ln;omega);have e:(2:Int)<=ln T+1:=(by omega);refine zu (zEs h) (zu (zbz B 8) (zbA (fun _=>zu (z5V q) (zu (qJ (by omega)) (zlz (zbE (aS .ins) (zTM _) (by rw[zhZ];omega))))) (fun _=>zbA (fun _=>?_) (fun _=>zbA (fun _=>zu (zbz q 2) (zu (zDA q (n:=2) (by omega) e) (zbE (aS .ins) (zF _ _) (qU (zEk T _) (by omega))))) (fun _=>zbE (aS .ins) (zF _ _) (by omega))))));{refine zms (fun n s=>s.2.2.1.length+n=13/\0<=s.1/\s.2.2.2.1=c.b) ?_ 1002 (13-T.length) _ ⟨by dsimp only;omega,zF _ _,rfl⟩ (by omega);rintro n ⟨i,k,l,b,u⟩ rec ⟨v,r,t⟩ m;dsimp only at v r t ⊢;subst t;have a:zbc ⟨c.b,i,k⟩:=zbL h r;have A:=zfC a (n:=2) (by omega);have z:=zg3 (x:=12) (by omega) (by omega) A.1 (by omega);have w:zbc {zf ⟨c.b,i,k⟩ 2 with b:=c.b}:=zbL h (zF _ _);refine zu (zbz a 2) (zbA (fun d=>?_) (fun d=>?_));{have f:ln l<zM .i64 12 (zk ⟨c.b,i,k⟩ 2):=qE d;rw[z]at f;unfold ln at f;exact zu (zT7 w) (zu (zkL (by rw[zhx];unfold ln;omega)) (m (n-1) _ (by omega) ⟨by simp[ap];omega,zA0 _,rfl⟩))};{exact zbE (aS .ins) (zF _ _) (by omega)}}
def zzQ (N:Nat)(c:Cur)  : OA :=
 let a:=(zcy c);let e:=({ (zcf c) with b:=c.b}:Cur);let f:=(zf e 8);let d:=({f with b:=c.b}:Cur);let g:=(zU d [(-1),255,256,9223372036854775807]); (oN (zjH c) (oN (zx e 8) (cond (ieq (zk e 8) 0) (oN (zbl d [(-1),2,3,4]) (some [(.agg [(.s .u8 c.b),(.i .i64 (zU d [(-1),2,3,4]).i),(.i .i64 (zU d [(-1),2,3,4]).h)]),(.agg [(.i .i64 (zbg d [(-1),2,3,4])),(.i .i64 a.Post),(.b a.Open)])])) (cond (ieq (zk e 8) 1) (oN (zbl d [(-1),255,256,9223372036854775807]) (some [(.agg [(.s .u8 c.b),(.i .i64 g.i),(.i .i64 g.h)]),(.agg [(.i .i64 a.Traps),(.i .i64 (zbg d [(-1),255,256,9223372036854775807])),(.b a.Open)])])) (cond (ieq (zk e 8) 2) (some [(.agg [(.s .u8 c.b),(.i .i64 f.i),(.i .i64 f.h)]),(.agg [(.i .i64 a.Traps),(.i .i64 a.Post),(.b (nB a.Open))])]) (some [(.agg [(.s .u8 c.b),(.i .i64 f.i),(.i .i64 f.h)]),(.agg [(.i .i64 a.Traps),(.i .i64 a.Post),(.b a.Open)])]))))))
def zrE (c:Cur)(s:Cur)(a:Ctl):Prop:=(∃N,zzQ N c=some (AV.agg (zbT s)::[.agg (zob a)]))/\(s.b=c.b/\0<=s.i)/\(True)
def zpr (c:Cur)  : Bool:=wC (zrE c)
def zps (c:Cur)  : Cur:=wS (zrE c)
def zA1 (c:Cur)  : Ctl:=wV (zrE c)
theorem z2f {c:Cur}(h:zpr c=true):zrE c (zps c) (zA1 c):=wG h
theorem z2h (c:Cur)  : 0<=(zps c).i:=wP fun h=>h.2.1.2
theorem z2g (c:Cur)(h:∃N,Ends (wE (fun a=>.agg (zob a)) c.b fun a=>True) (zzQ N c)):zpr c=true:=wI (fun _ _ h=>h) h
def zBO:zdn:=rP0 fun c=>(zpr c,zps c,[.agg (zob (zA1 c))])
theorem zPs:zbK Tryz.prog 90 [false,true,true] zBO:=hP0 zdT zW zAN zn (zq []) (fun _ h=>(z2f h).1)
theorem z5U {c:Cur}(h:zbc c):zpr c=true:=by
 refine z2g c ⟨0,?_⟩;unfold zzQ oN nB;conv=>zeta
 have d:zbc {zcf c with b:=c.b}:=zbL h (zA2 _);have a:zbc {zf {zcf c with b:=c.b} 8 with b:=c.b}:=zbL h (zF _ _);exact zu (z0T h) (zu (zbz d 8) (zbA (fun _=>zu (zdW a (by simp)) (zbE (fun x=>AV.agg (zob x)) (v:=⟨zbg _ _,(zcy c).Post,(zcy c).Open⟩) (zbJ _ _) trivial)) (fun _=>zbA (fun _=>zu (zdW a (by simp)) (zbE (fun x=>AV.agg (zob x)) (v:=⟨(zcy c).Traps,zbg _ _,(zcy c).Open⟩) (zbJ _ _) trivial)) (fun _=>zbA (fun _=>zbE (fun x=>AV.agg (zob x)) (v:=⟨(zcy c).Traps,(zcy c).Post,bif (zcy c).Open then false else true⟩) (zF _ _) trivial) (fun _=>zbE (fun x=>AV.agg (zob x)) (v:=(zcy c)) (zF _ _) trivial)))))
def zxq (N:Nat)(c:Cur)  : OA :=
 let f:=(zf c 5);let d:=({f with b:=c.b}:Cur);let j:=(zf d 100);let a:=(zk d 100);let e:=({ (zf d 4) with b:=c.b}:Cur);let g:=(zeT (zk d 4) (zcT e 2)); (oN (zx c 5) (cond (ieq (zk c 5) 0) (oN (zx d 4) (oN (zcI e 2) (oN (zjU (zk d 4) (zcT e 2)) (some [(.agg [(.s .u8 c.b),(.i .i64 (zN e 2).i),(.i .i64 (zN e 2).h)]),(.agg [(.i .i64 g.Kind),(.i .i64 g.Page),(.b g.Write),(.i .i64 g.N)])])))) (cond (ieq (zk c 5) 1) (oN (zx d 100) (oN (zo0 a) (some [(.agg [(.s .u8 c.b),(.i .i64 j.i),(.i .i64 j.h)]),(.agg [(.i .i64 (zfc a).Kind),(.i .i64 (zfc a).Page),(.b (zfc a).Write),(.i .i64 (zfc a).N)])]))) (cond (ieq (zk c 5) 2) (oN (zx d 100) (oN (zrp a) (some [(.agg [(.s .u8 c.b),(.i .i64 j.i),(.i .i64 j.h)]),(.agg [(.i .i64 (zga a).Kind),(.i .i64 (zga a).Page),(.b (zga a).Write),(.i .i64 (zga a).N)])]))) (cond (ieq (zk c 5) 3) (some [(.agg [(.s .u8 c.b),(.i .i64 f.i),(.i .i64 f.h)]),(.agg [(.i .i64 4),(.i .i64 0),(.b false),(.i .i64 0)])]) (some [(.agg [(.s .u8 c.b),(.i .i64 f.i),(.i .i64 f.h)]),(.agg [(.i .i64 0),(.i .i64 0),(.b false),(.i .i64 0)])]))))))
def zpv (c:Cur)(s:Cur)(a:GExit):Prop:=(∃N,zxq N c=some (AV.agg (zbT s)::[.agg (zfB a)]))/\(s.b=c.b/\0<=s.i)/\(True)
def zgN (c:Cur)  : Bool:=wC (zpv c)
def zea (c:Cur)  : Cur:=wS (zpv c)
def zb6 (c:Cur)  : GExit:=wV (zpv c)
theorem zZb {c:Cur}(h:zgN c=true):zpv c (zea c) (zb6 c):=wG h
theorem zx0 (c:Cur)  : 0<=(zea c).i:=wP fun h=>h.2.1.2
theorem zZc (c:Cur)(h:∃N,Ends (wE (fun a=>.agg (zfB a)) c.b fun a=>True) (zxq N c)):zgN c=true:=wI (fun _ _ h=>h) h
def zyW:zdn:=rP0 fun c=>(zgN c,zea c,[.agg (zfB (zb6 c))])
theorem zMA:zbK Tryz.prog 175 [false,true,true] zyW:=hP0 zdT zW zAN zn (zq []) (fun _ h=>(zZb h).1)
theorem zU1 {c:Cur}(h:zbc c):zgN c=true:=by
 refine zZc c ⟨0,?_⟩;unfold zxq oN;conv=>zeta
 have a:zbc {zf c 5 with b:=c.b}:=zbL h (zF _ _);have d:zbc {zf {zf c 5 with b:=c.b} 4 with b:=c.b}:=zbL h (zF _ _);exact zu (zbz h 5) (zbA (fun _=>zu (zbz a 4) (zu (ziN d 2) (zu rfl (zbE (fun x=>AV.agg (zfB x)) (v:=zeT _ _) (zcj _ _) trivial)))) (fun _=>zbA (fun _=>zu (zbz a 100) (zu rfl (zbE (fun x=>AV.agg (zfB x)) (v:=zfc _) (zF _ _) trivial))) (fun _=>zbA (fun _=>zu (zbz a 100) (zu rfl (zbE (fun x=>AV.agg (zfB x)) (v:=zga _) (zF _ _) trivial))) (fun _=>zbA (fun _=>zbE (fun x=>AV.agg (zfB x)) (v:=⟨4,0,false,0⟩) (zF _ _) trivial) (fun _=>zbE (fun x=>AV.agg (zfB x)) (v:=⟨0,0,false,0⟩) (zF _ _) trivial)))))
def z9N:zcL:=[(247,([false,true,true],ztf)),(90,([false,true,true],zBO)),(175,([false,true,true],zyW))]++z9M
theorem znw:zb3 z9N:=zcq zAN (by
 intro x a;simp only[qG,qN,or_false]at a;rcases a with rfl|rfl|rfl
 .exact zD3
 .exact zPs
 .exact zMA)
def zzS (N:Nat)(c:Cur)  : OA :=
 let a:=(zb6 c);let e:=({ (zea c) with b:=c.b}:Cur);let d:=({ (zf e 8) with b:=c.b}:Cur); (oN (zgN c) (oN (zx e 8) (cond (ieq (zk e 8) 0) (oN (zx d 7) (some [(.agg [(.s .u8 c.b),(.i .i64 (zf d 7).i),(.i .i64 (zf d 7).h)]),(.agg [(.i .i64 (wsub .i64 (zk d 7) 1)),(.i .i64 a.Page),(.b a.Write),(.i .i64 a.N)])])) (cond (ieq (zk e 8) 1) (oN (zbl d [(-1),3,4]) (some [(.agg [(.s .u8 c.b),(.i .i64 (zU d [(-1),3,4]).i),(.i .i64 (zU d [(-1),3,4]).h)]),(.agg [(.i .i64 a.Kind),(.i .i64 (zbg d [(-1),3,4])),(.b a.Write),(.i .i64 a.N)])])) (cond (ieq (zk e 8) 2) (oN (zbl d [(-1),99,100]) (some [(.agg [(.s .u8 c.b),(.i .i64 (zU d [(-1),99,100]).i),(.i .i64 (zU d [(-1),99,100]).h)]),(.agg [(.i .i64 a.Kind),(.i .i64 a.Page),(.b a.Write),(.i .i64 (zbg d [(-1),99,100]))])])) (some [(.agg [(.s .u8 c.b),(.i .i64 (zf e 8).i),(.i .i64 (zf e 8).h)]),(.agg [(.i .i64 a.Kind),(.i .i64 a.Page),(.b a.Write),(.i .i64 a.N)])]))))))
def zrG (c:Cur)(s:Cur)(a:GExit):Prop:=(∃N,zzS N c=some (AV.agg (zbT s)::[.agg (zfB a)]))/\(s.b=c.b/\0<=s.i)/\(True)
def zpt (c:Cur)  : Bool:=wC (zrG c)
def zpu (c:Cur)  : Cur:=wS (zrG c)
def zA3 (c:Cur)  : GExit:=wV (zrG c)
theorem z2k {c:Cur}(h:zpt c=true):zrG c (zpu c) (zA3 c):=wG h
theorem z2m (c:Cur)  : 0<=(zpu c).i:=wP fun h=>h.2.1.2
theorem z2l (c:Cur)(h:∃N,Ends (wE (fun a=>.agg (zfB a)) c.b fun a=>True) (zzS N c)):zpt c=true:=wI (fun _ _ h=>h) h
def zBQ:zdn:=rP0 fun c=>(zpt c,zpu c,[.agg (zfB (zA3 c))])
theorem zPu:zbK Tryz.prog 249 [false,true,true] zBQ:=hP0 zdT zW znw zn (zq []) (fun _ h=>(z2k h).1)
theorem z2X {c:Cur}(h:zbc c):zpt c=true:=by
 refine z2l c ⟨0,?_⟩;unfold zzS oN;conv=>zeta
 have d:zbc {zea c with b:=c.b}:=zbL h (zx0 _);have a:zbc {zf {zea c with b:=c.b} 8 with b:=c.b}:=zbL h (zF _ _);exact zu (zU1 h) (zu (zbz d 8) (zbA (fun _=>zu (zbz a 7) (zbE (fun x=>AV.agg (zfB x)) (v:=⟨wsub .i64 _ 1,(zb6 c).Page,(zb6 c).Write,(zb6 c).N⟩) (zF _ _) trivial)) (fun _=>zbA (fun _=>zu (zdW a (by simp)) (zbE (fun x=>AV.agg (zfB x)) (v:=⟨(zb6 c).Kind,zbg _ _,(zb6 c).Write,(zb6 c).N⟩) (zbJ _ _) trivial)) (fun _=>zbA (fun _=>zu (zdW a (by simp)) (zbE (fun x=>AV.agg (zfB x)) (v:=⟨(zb6 c).Kind,(zb6 c).Page,(zb6 c).Write,zbg _ _⟩) (zbJ _ _) trivial)) (fun _=>zbE (fun x=>AV.agg (zfB x)) (v:=(zb6 c)) (zF _ _) trivial)))))
def zxr (N:Nat)(c:Cur)  : OA :=
 let a:=({ (zf c 256) with b:=c.b}:Cur);let d:=({ (zf a 256) with b:=c.b}:Cur);let e:=(zU d [0,1,128,255,(zk c 256),(zk a 256),(-1),256,9223372036854775807]); (oN (zx c 256) (oN (zx a 256) (oN (zbl d [0,1,128,255,(zk c 256),(zk a 256),(-1),256,9223372036854775807]) (some [(.agg [(.s .u8 c.b),(.i .i64 e.i),(.i .i64 e.h)]),(aI (zbg d [0,1,128,255,(zk c 256),(zk a 256),(-1),256,9223372036854775807]))]))))
def zpw (c:Cur)(s:Cur)(a:Int):Prop:=(∃N,zxr N c=some (AV.agg (zbT s)::[aI a]))/\(s.b=c.b/\0<=s.i)/\(True)
def zmU (c:Cur)  : Bool:=wC (zpw c)
def zmV (c:Cur)  : Cur:=wS (zpw c)
def zw9 (c:Cur)  : Int:=wV (zpw c)
theorem zZd {c:Cur}(h:zmU c=true):zpw c (zmV c) (zw9 c):=wG h
theorem zZf (c:Cur)  : 0<=(zmV c).i:=wP fun h=>h.2.1.2
theorem zZe (c:Cur)(h:∃N,Ends (wE (fun a=>aI a) c.b fun a=>True) (zxr N c)):zmU c=true:=wI (fun _ _ h=>h) h
def zyX:zdn:=rP0 fun c=>(zmU c,zmV c,[aI (zw9 c)])
theorem zMB:zbK Tryz.prog 248 [false,true,true] zyX:=hP0 zdT zW znw zn (zq []) (fun _ h=>(zZd h).1)
theorem zbcs {c:Cur}(h:zbc c):zmU c=true:=by
 refine zZe c ⟨0,?_⟩;unfold zxr oN;conv=>zeta
 have a:zbc {zf c 256 with b:=c.b}:=zbL h (zF _ _);have d:zbc {zf {zf c 256 with b:=c.b} 256 with b:=c.b}:=zbL h (zF _ _);exact zu (zbz h 256) (zu (zbz a 256) (zu (zdW d (by simp)) (zbE aI (zbJ _ _) trivial)))
def zue (N:Nat)(c:Cur)  : OA :=
 let a:=(zU c [0,1,2,3,0,1,(-1),4,9223372036854775807]); (oN (zbl c [0,1,2,3,0,1,(-1),4,9223372036854775807]) (some [(.agg [(.s .u8 c.b),(.i .i64 a.i),(.i .i64 a.h)]),(aI (zbg c [0,1,2,3,0,1,(-1),4,9223372036854775807]))]))
def zng (c:Cur)(s:Cur)(a:Int):Prop:=(∃N,zue N c=some (AV.agg (zbT s)::[aI a]))/\(s.b=c.b/\0<=s.i)/\(True)
def zli (c:Cur)  : Bool:=wC (zng c)
def zlj (c:Cur)  : Cur:=wS (zng c)
def ztL (c:Cur)  : Int:=wV (zng c)
theorem zW1 {c:Cur}(h:zli c=true):zng c (zlj c) (ztL c):=wG h
theorem zW3 (c:Cur)  : 0<=(zlj c).i:=wP fun h=>h.2.1.2
theorem zW2 (c:Cur)(h:∃N,Ends (wE (fun a=>aI a) c.b fun a=>True) (zue N c)):zli c=true:=wI (fun _ _ h=>h) h
def zwk:zdn:=rP0 fun c=>(zli c,zlj c,[aI (ztL c)])
theorem zJJ:zbK Tryz.prog 155 [false,true,true] zwk:=hP0 zdT zW znw zn (zq []) (fun _ h=>(zW1 h).1)
theorem zbbA {c:Cur}(h:zbc c):zli c=true:=by
 refine zW2 c ⟨0,?_⟩;unfold zue oN;conv=>zeta
 exact zu (zdW h (by simp)) (zbE aI (zbJ _ _) trivial)
def zDp (N:Nat)(c:Cur)  : OA :=
 let a:=(zU c [0,0,1,1,2,(-1),9223372036854775807]); (oN (zbl c [0,0,1,1,2,(-1),9223372036854775807]) (some [(.agg [(.s .u8 c.b),(.i .i64 a.i),(.i .i64 a.h)]),(aI (zbg c [0,0,1,1,2,(-1),9223372036854775807]))]))
def ztM (c:Cur)(s:Cur)(a:Int):Prop:=(∃N,zDp N c=some (AV.agg (zbT s)::[aI a]))/\(s.b=c.b/\0<=s.i)/\(True)
def znW (c:Cur)  : Bool:=wC (ztM c)
def zxa (c:Cur)  : Cur:=wS (ztM c)
def zGc (c:Cur)  : Int:=wV (ztM c)
theorem z5j {c:Cur}(h:znW c=true):ztM c (zxa c) (zGc c):=wG h
theorem z5l (c:Cur)  : 0<=(zxa c).i:=wP fun h=>h.2.1.2
theorem z5k (c:Cur)(h:∃N,Ends (wE (fun a=>aI a) c.b fun a=>True) (zDp N c)):znW c=true:=wI (fun _ _ h=>h) h
def zEt:zdn:=rP0 fun c=>(znW c,zxa c,[aI (zGc c)])
theorem zSS:zbK Tryz.prog 67 [false,true,true] zEt:=hP0 zdT zW znw zn (zq []) (fun _ h=>(z5j h).1)
theorem zbbH {c:Cur}(h:zbc c):znW c=true:=by
 refine z5k c ⟨0,?_⟩;unfold zDp oN;conv=>zeta
 exact zu (zdW h (by simp)) (zbE aI (zbJ _ _) trivial)
def zxm (N:Nat)(c:Cur)  : OA :=
 let a:=(zU c [0,1,2,3,3,4,7,8,(-1),9223372036854775807,(-9223372036854775808)]); (oN (zbl c [0,1,2,3,3,4,7,8,(-1),9223372036854775807,(-9223372036854775808)]) (some [(.agg [(.s .u8 c.b),(.i .i64 a.i),(.i .i64 a.h)]),(aI (zbg c [0,1,2,3,3,4,7,8,(-1),9223372036854775807,(-9223372036854775808)]))]))
def zpk (c:Cur)(s:Cur)(a:Int):Prop:=(∃N,zxm N c=some (AV.agg (zbT s)::[aI a]))/\(s.b=c.b/\0<=s.i)/\(True)
def zgL (c:Cur)  : Bool:=wC (zpk c)
def zry (c:Cur)  : Cur:=wS (zpk c)
def znU (c:Cur)  : Int:=wV (zpk c)
theorem zY5 {c:Cur}(h:zgL c=true):zpk c (zry c) (znU c):=wG h
theorem zY7 (c:Cur)  : 0<=(zry c).i:=wP fun h=>h.2.1.2
theorem zY6 (c:Cur)(h:∃N,Ends (wE (fun a=>aI a) c.b fun a=>True) (zxm N c)):zgL c=true:=wI (fun _ _ h=>h) h
def zyS:zdn:=rP0 fun c=>(zgL c,zry c,[aI (znU c)])
theorem zMu:zbK Tryz.prog 68 [false,true,true] zyS:=hP0 zdT zW znw zn (zq []) (fun _ h=>(zY5 h).1)
theorem zZ9 {c:Cur}(h:zbc c):zgL c=true:=by
 refine zY6 c ⟨0,?_⟩;unfold zxm oN;conv=>zeta
 exact zu (zdW h (by simp)) (zbE aI (zbJ _ _) trivial)
def zua (N:Nat)(c:Cur)  : OA :=
 let e:=({ (zf c 3) with b:=c.b}:Cur);let d:=({ (zf e 4) with b:=c.b}:Cur);let a:=({ (zf d 6) with b:=c.b}:Cur); (oN (zx c 3) (oN (zx e 4) (oN (zx d 6) (oN (zx a 3) (some [(.agg [(.s .u8 c.b),(.i .i64 (zf a 3).i),(.i .i64 (zf a 3).h)]),(.agg [(.i .i64 (zM .i64 1 (zk c 3))),(.i .i64 (zk e 4)),(.i .i64 (zk d 6)),(.i .i64 (zM .i64 1 (zk a 3)))])])))))
def znf (c:Cur)(s:Cur)(a:Entry):Prop:=(∃N,zua N c=some (AV.agg (zbT s)::[aT .entry a]))/\(s.b=c.b/\0<=s.i)/\(True)
def zht (c:Cur)  : Bool:=wC (znf c)
def zgc (c:Cur)  : Cur:=wS (znf c)
def zmb (c:Cur)  : Entry:=wV (znf c)
theorem zWZ {c:Cur}(h:zht c=true):znf c (zgc c) (zmb c):=wG h
theorem zvo (c:Cur)  : 0<=(zgc c).i:=wP fun h=>h.2.1.2
theorem zW0 (c:Cur)(h:∃N,Ends (wE (fun a=>aT .entry a) c.b fun a=>True) (zua N c)):zht c=true:=wI (fun _ _ h=>h) h
def zwj:zdn:=rP0 fun c=>(zht c,zgc c,[aT .entry (zmb c)])
theorem zJI:zbK Tryz.prog 250 [false,true,true] zwj:=hP0 zdT zW znw zn (zq []) (fun _ h=>(zWZ h).1)
theorem zOE {c:Cur}(h:zbc c):zht c=true:=by
 refine zW0 c ⟨0,?_⟩;unfold zua oN;conv=>zeta
 have a:zbc {zf c 3 with b:=c.b}:=zbL h (zF _ _);have d:zbc {zf {zf c 3 with b:=c.b} 4 with b:=c.b}:=zbL h (zF _ _);have e:zbc {zf {zf {zf c 3 with b:=c.b} 4 with b:=c.b} 6 with b:=c.b}:=zbL h (zF _ _);exact zu (zbz h 3) (zu (zbz a 4) (zu (zbz d 6) (zu (zbz e 3) (zbE (aT .entry) (v:=⟨_,_,_,_⟩) (zF _ _) trivial))))
def z9O:zcL:=[(249,([false,true,true],zBQ)),(248,([false,true,true],zyX)),(155,([false,true,true],zwk)),(67,([false,true,true],zEt)),(68,([false,true,true],zyS)),(250,([false,true,true],zwj))]++z9N
theorem z7w:zb3 z9O:=zcq znw (by
 intro x a;simp only[qG,qN,or_false]at a;rcases a with rfl|rfl|rfl|rfl|rfl|rfl
 .exact zPu
 .exact zMB
 .exact zJJ
 .exact zSS
 .exact zMu
 .exact zJI)
section
open Go Go.RowKit
structure Cw (w0:World) (blk:Nat) (u:Value) (c:Cur) (w:World):Prop where
 os:w.os=w0.os
 tape:w.tape=w0.tape
 output:w.output=w0.output
 size:w0.heap.size<=w.heap.size
 keep:∀b,b<w0.heap.size->b≠blk->w.heap[b]?=w0.heap[b]?
 cur:∃e,w.heap[blk]?=some (.cells #[u,.int .i64 c.i,.int .i64 c.h] e (0,0))
theorem Cw.trans {g w1 h:World}{blk:Nat}{u:Value}{i d:Cur}(a:Cw g blk u i w1)(c:Cw w1 blk u d h):Cw g blk u d h :=
 ⟨c.os.trans a.os,c.tape.trans a.tape,c.output.trans a.output,qU a.size c.size,fun b e f=>(c.keep b (jK e a.size) f).trans (a.keep b e f),c.cur⟩
theorem Cw.drew {a w:World}{blk:Nat}{u:Value}{c:Cur}(h:Cw a blk u c w):Cw a blk u c w.drew:=⟨h.os,h.tape,h.output,h.size,h.keep,h.cur⟩
theorem Cw.at (w:World)(blk:Nat)(u:Value)(c:Cur)(h:∃e,w.heap[blk]?=some (.cells #[u,.int .i64 c.i,.int .i64 c.h] e (0,0))):Cw w blk u c w:=⟨rfl,rfl,rfl,qW _,fun _ _ _=>rfl,h⟩
theorem Cw.alloc {d w:World}{blk:Nat}{u:Value}{c:Cur}(h:Cw d blk u c w)(a:blk<w.heap.size)(o:Obj):Cw d blk u c (w.alloc o):=
 ⟨h.os,h.tape,h.output,qU h.size (by simp),fun b a g=>(heap_alloc_old w o (jK a h.size)).trans (h.keep b a g),by obtain⟨e,f⟩:=h.cur;exact⟨e,(heap_alloc_old w o a).trans f⟩⟩
theorem Cw.lt {b w:World}{blk:Nat}{u:Value}{c:Cur}(h:Cw b blk u c w):blk<w.heap.size:=by obtain⟨e,a⟩:=h.cur;exact(qQ.1 a).1
theorem zI5 {P:Program}{f:FuncId}{y:List CV->List AV->Option (Bool×List CV×List AV)}(V:zbK P f [false,true,true] y){w:World}{blk:Nat}{u:Value}{c c2:Cur}{z:zX}(q:∃e,w.heap[blk]?=some (.cells #[u,.int .i64 c.i,.int .i64 c.h] e (0,0)))(hu:Rep false w u (.s .u8 c.b) z)(W:∀x,z x->x<w.heap.size/\x≠blk){avs rs:List AV}{xs:List Value}{Ka:zX}(l:zdj false w (zy avs) xs (fun _=>Ka))(p:∀x,Ka x->x<w.heap.size/\x≠blk)(hr:y (zbT c) avs=some (true,zbT c2,rs)) :
 Calls P f (#[.pointer (some ⟨blk,0,none⟩)]++(zbV avs xs).toArray) w fun e B=>∃C A,e = .returned (zjz (zbV rs C))/\Cw w blk u c2 B/\ztR (zoB f) B (zy rs) C A/\(∀i x,i<(zy rs).length->A i x->w.heap.size<=x/\x<B.heap.size):=by
 obtain⟨e,Y⟩:=q;refine(V.2 w blk _ e (zbT c) (fun j x=>j=0/\z x) avs xs Ka (zbT c2) rs Y rfl rfl ?_ ?_ ?_ l ?_ hr).mono ?_
 .intro j cv v m k
  match j,m,k with
  | 0,m,k=>cases m;cases k;exact hu.weak (fun x l=>⟨rfl,l⟩)
  | 1,m,k=>cases m;cases k;exact .i _ _ _
  | 2,m,k=>cases m;cases k;exact .i _ _ _
  |j+3,m,k=>simp[zbT]at m
 .intro j x _ l;exact W x l.2
 .intro i j x r t n hne l hx2;have:i=0:=l.1;subst this;simp[zbb]at n
 .intro x l;refine⟨(p x l).1,(p x l).2,fun j t n d=>?_⟩;have:j=0:=d.1;subst this;simp[zbb]at n
 .intro E B hp;cases E with
  |panicked _=>exact hp.elim
  |outgrown=>exact hp.elim
  |returned v=>
   obtain⟨Q,R,S,T,U,a,G,K',C,A,I,L,g3,F,M,N,g7,O,g9,J,K⟩:=hp;have g:∀i x,i<(zbT c).length->zbb [false,true,true] i->¬ ((fun (j:Nat) x=>j=0/\z x) i x):=by intro i x r n d;have:i=0:=d.1;subst this;simp[zbb]at n
   have k:a = #[u,.int .i64 c2.i,.int .i64 c2.h]:=by
    have hs:a.size=3:=L;have D:=(F 0 _ (a[0]'(by omega)) rfl (jH _)).2 (by simp[zbb]);have H:=F 1 _ (a[1]'(by omega)) rfl (jH _);have E:=F 2 _ (a[2]'(by omega)) rfl (jH _);have D:u=a[0]'(by omega):=(by simpa using D);apply Array.ext;{exact hs}
    .intro i r hi2
     match i,r with
     | 0,_=>exact D.symm
     | 1,_=>exact H
     | 2,_=>exact E
     |i+3,h=>omega
   subst k;refine⟨C,A,by rw[N],⟨Q,R,S,T,fun b X Z=>U b X Z (fun j t n d=>g j b t n d),G,I⟩,M,fun i x r d=>?_⟩;obtain⟨k1,k2,k3⟩:=O i x r d;rcases k3 with⟨j,t,n,d⟩|d;{exact absurd d (g j x t n)};{exact⟨d,k1⟩}
def zej (c:Cur):List (List Int):=zvn c 3
def zAD (c:Cur):Cur:={zl9 c 3 with b:=c.b}
def z1C (c:Cur):Int:=zk (zAD c) 8
def zhw (c:Cur):Cur:={zf (zAD c) 8 with b:=c.b}
def z1B (c:Cur):Int:=zk (zhw c) 3
def ztu (c:Cur):Cur:={zf (zhw c) 3 with b:=c.b}
def l04n (c:Cur):Int:=zk (ztu c) 4
def z1z (c:Cur):Cur:={zf (ztu c) 4 with b:=c.b}
def zuN (c:Cur):Int:=zbg (zhw c) [-1,100]
def z1A (c:Cur):Cur:={zU (zhw c) [-1,100] with b:=c.b}
def zn4 (_:Nat)(c:Cur):OA:=
 bif zh7 c 3 then (bif zx (zAD c) 8 then (bif ieq (z1C c) 0 then (cond (zx (zhw c) 3) (cond (zx (ztu c) 4) (some (AV.agg (zbT (z1z c))::[aS (.sl .int) (up (zej c) (z1B c) (tk (ix (zej c) 0 []) (l04n c)))])) none) none)
  else (bif ieq (z1C c) 1 then (cond (zbl (zhw c) [-1,100]) (some (AV.agg (zbT (z1A c))::[aS (.sl .int) (up (zej c) 1 (up (ix (zej c) 1 []) 2 (zuN c)))])) none)
  else (cond (ieq (z1C c) 2) (cond (zx (zhw c) 3) (some (AV.agg (zbT (ztu c))::[aS (.sl .int) (tk (zej c) (z1B c))])) none) (some (AV.agg (zbT (zhw c))::[aS (.sl .int) (zej c)]))))) else none) else none
def zrz (c:Cur)(s:Cur)(a:List (List Int)):Prop:=(∃N,zn4 N c=some (AV.agg (zbT s)::[aS (.sl .int) a]))/\(s.b=c.b/\0<=s.i)/\(a.length<=3/\∀r∈a,r.length<=4)
def zpm (c:Cur)  : Bool:=wC (zrz c)
def zh6 (c:Cur)  : Cur:=wS (zrz c)
def zqE (c:Cur)  : List (List Int):=wV (zrz c)
theorem zNN {c:Cur}(h:zpm c=true):zrz c (zh6 c) (zqE c):=wG h
theorem z2a (c:Cur)  : 0<=(zh6 c).i:=wP fun h=>h.2.1.2
theorem z19 (c:Cur)(h:∃N,Ends (wE (fun a=>aS (.sl .int) a) c.b fun a=>a.length<=3/\∀r∈a,r.length<=4) (zn4 N c)):zpm c=true:=wI (fun _ _ h=>h) h
def zsG:zdn:=rP0 fun c=>(zpm c,zh6 c,[aS (.sl .int) (zqE c)])
theorem z7n {w:World}{blk:Nat}{u:Value}{c:Cur}{l:zX}{n:Int}(g:∃e,w.heap[blk]?=some (.cells #[u,.int .i64 c.i,.int .i64 c.h] e (0,0)))(t:Rep false w u (.s .u8 c.b) l)(q:∀x,l x->x<w.heap.size/\x≠blk)(r:zh7 c n=true) :
 Calls Tryz.prog 251 #[.pointer (some ⟨blk,0,none⟩),.int .i64 n] w fun e k=>∃v j,e = .returned v/\Cw w blk u {zl9 c n with b:=c.b} k/\Rep true k v (.s (.sl .int) (zvn c n)) j/\(∀x,j x->w.heap.size<=x/\x<k.heap.size):=by
 have:=zI5 (c:=c) (c2:=zl9 c n) zyB g t q (avs:=[.one (.i .i64 n)]) (rs:=[aS (.sl .int) (zvn c n)]) (xs:=[.int .i64 n]) (Ka:=fun _=>False) ⟨rfl,fun i A x a d=>by
  match i,a,d with
  | 0,a,d=>cases a;cases d;exact .i _ _ _
  |i+1,a,d=>simp at d⟩ (fun x d=>d.elim) (by show some (zh7 ⟨c.b,c.i,c.h⟩ n,_,_)=_;rw[show (⟨c.b,c.i,c.h⟩:Cur)=c from rfl,r])
 refine Calls.mono this ?_
 rintro e k ⟨z,j,rfl,f,m,p⟩
 match z,m.1 with
 |[y],_=>exact⟨y,j 0,rfl,⟨f.os,f.tape,f.output,f.size,f.keep,f.cur⟩,m.2 0 _ y rfl rfl,fun x d=>p 0 x (by simp[zy,AV.cvs]) d⟩
theorem ztn {w:World}{blk:Nat}{u:Value}{c:Cur}{j:zX}{n:Int}(g:∃e,w.heap[blk]?=some (.cells #[u,.int .i64 c.i,.int .i64 c.h] e (0,0)))(r:Rep false w u (.s .u8 c.b) j)(p:∀x,j x->x<w.heap.size/\x≠blk)(q:zx c n=true) :
 Calls Tryz.prog 150 #[.pointer (some ⟨blk,0,none⟩),.int .i64 n] w fun e l=>e = .returned (.int .i64 (zk c n))/\Cw w blk u {zf c n with b:=c.b} l:=by
 have:=zI5 (c:=c) (c2:=zf c n) zuD g r p (avs:=[.one (.i .i64 n)]) (rs:=[aI (zk c n)]) (xs:=[.int .i64 n]) (Ka:=fun _=>False) ⟨rfl,fun i z x a d=>by
  match i,a,d with
  | 0,a,d=>cases a;cases d;exact .i _ _ _
  |i+1,a,d=>simp at d⟩ (fun x d=>d.elim) (by show some (zx ⟨c.b,c.i,c.h⟩ n,_,_)=_;rw[show (⟨c.b,c.i,c.h⟩:Cur)=c from rfl,q])
 refine Calls.mono this ?_
 rintro e l ⟨t,v,rfl,f,k,A⟩
 match t,k.1,k.2 with
 |[y],_,m=>have:=(m 0 _ y rfl rfl).int_inv;subst this;exact⟨rfl,f.os,f.tape,f.output,f.size,f.keep,f.cur⟩
theorem z4W {w:World}{blk:Nat}{u:Value}{c:Cur}{k:zX}{l:List Int}{v:Value}{Ka:zX}(f:∃e,w.heap[blk]?=some (.cells #[u,.int .i64 c.i,.int .i64 c.h] e (0,0)))(t:Rep false w u (.s .u8 c.b) k)(q:∀x,k x->x<w.heap.size/\x≠blk)(r:zbl c l=true)(z:Rep false w v (.s .int l) Ka)(j:∀x,Ka x->x<w.heap.size/\x≠blk) :
 Calls Tryz.prog 86 #[.pointer (some ⟨blk,0,none⟩),v] w fun e n=>e = .returned (.int .i64 (zbg c l))/\Cw w blk u {zU c l with b:=c.b} n:=by
 have:=zI5 (c:=c) (c2:=zU c l) zr2 f t q (avs:=[.one (.s .int l)]) (rs:=[aI (zbg c l)]) (xs:=[v]) (Ka:=Ka) ⟨rfl,fun i C x a g=>by
  match i,a,g with
  | 0,a,g=>cases a;cases g;exact z
  |i+1,a,g=>simp at g⟩ j (by show some (zbl ⟨c.b,c.i,c.h⟩ l,_,_)=_;rw[show (⟨c.b,c.i,c.h⟩:Cur)=c from rfl,r])
 refine Calls.mono this ?_
 rintro e n ⟨A,B,rfl,d,m,D⟩
 match A,m.1,m.2 with
 |[y],_,p=>have:=(p 0 _ y rfl rfl).int_inv;subst this;exact⟨rfl,d.os,d.tape,d.output,d.size,d.keep,d.cur⟩
theorem z5e {w:World}{v:Value}{l:List (List Int)}{K:zX}(h:Rep true w v (.s (.sl .int) l) K)(n:l.length=3):∃(b off cap:Nat) (arr:Array Value) (e:TypeId) (V:Nat->Value) (c:Nat->zX),v = .slice (some ⟨b,off,none⟩) 3 cap/\w.heap[b]?=some (.cells arr e (0,0))/\3<=cap/\off+cap<=arr.size/\K b/\
 (∀i x,i<3->c i x->K x/\x≠b)/\(∀i g x,i<3->g<3->c i x->c g x->i=g)/\(∀i,i<3->arr[off+i]?=some (V i))/\∀i x,l[i]?=some x->Rep true w (V i) (.s .int x) (c i):=by
 cases h with
 |nil=>simp at n
 |void _ _ _ B=>cases B
 |sl _ _ b off cap arr e E V c _ y k r p f u a d C z=>have:=k rfl;subst this;have t:Ty.width (.sl .int)=1:=rfl;rw[t,uZ]at f;refine⟨b,off,cap,arr,e,fun i=>V i 0,fun i=>c i 0,by rw[n],y,by omega,f,u,fun i x q j=>⟨(a i 0 x (by omega) (by decide) j).1,(a i 0 x (by omega) (by decide) j).2 rfl⟩,fun i g x q A j m=>(d rfl i 0 g 0 x (by omega) (by decide) (by omega) (by decide) j m).1,fun i q=>?_,fun i x D=>z i x D 0 _ rfl⟩;have:=C i 0 (by omega) (by decide);rwa [t,uZ,jZ] at this
theorem zWS {w:World}{v:Value}{l:List Int}{K:zX}(h:Rep true w v (.s .int l) K)(d:l.length=4):∃(b off cap:Nat) (arr:Array Value) (e:TypeId),v = .slice (some ⟨b,off,none⟩) 4 cap/\w.heap[b]?=some (.cells arr e (0,0))/\4<=cap/\off+cap<=arr.size/\K b/\
 ∀i x,l[i]?=some x->arr[off+i]?=some (.int .i64 x):=by
 cases h with
 |nil=>simp at d
 |void _ _ _ u=>cases u
 |sl _ _ b off cap arr e A V z _ q c j f a p k g y r=>have:=c rfl;subst this;have m:Ty.width .int=1:=rfl;rw[m,uZ]at a;refine⟨b,off,cap,arr,e,by rw[d],q,by omega,a,p,fun i x n=>?_⟩;have t:i<l.length:=(qA.1 n).1;have:=y i 0 t (by decide);rw[m,uZ,jZ] at this;rw[this,(r i x n 0 (.i .i64 x) rfl).int_inv]
theorem zKp {o:Bool}{w:World}{b off cap:Nat}{arr:Array Value}{e:TypeId}(g:w.heap[b]?=some (.cells arr e (0,0))){l:List Int}(r:l.length<=1000)(c:l.length<=cap)(m:off+cap<=arr.size)(n:∀i x,l[i]?=some x->arr[off+i]?=some (.int .i64 x)):Rep o w (.slice (some ⟨b,off,none⟩) l.length cap) (.s .int l) (fun x=>x=b):=by
 refine .sl .int l b off cap arr e (0,0) (fun i j=>.int .i64 (l.getD i 0)) (fun _ _ _=>False) _ g (fun _=>rfl) (by rw[zpT];omega) c (by show off+cap*1<=arr.size;omega) rfl (fun i j x _ _ h=>h.elim) (fun _ i j t u x _ _ _ _ h=>h.elim) (fun i j f k=>?_) (fun i x p j q a=>?_);{have d:j=0:=(by have:j<1:=k;omega);subst d;have:=n i _ (qB f);show arr[off+i*1+0]?=_;rw[uZ,jZ,this];simp[List.getD,qB f]}
 .match j,a with
  | 0,a=>cases a;have:l.getD i 0=x:=(by simp[List.getD,p]);show Rep o w (.int .i64 (l.getD i 0)) _ _;rw[this];exact .i _ _ _
  |j+1,a=>simp[Ty.cells]at a
theorem zKq {w:World}{b off cap:Nat}{arr:Array Value}{e:TypeId}(n:w.heap[b]?=some (.cells arr e (0,0))){l:List (List Int)}(A:l.length<=1000)(c:l.length<=cap)(t:off+cap<=arr.size)(V:Nat->Value){K:zX}(f:K b)(u:∀i,i<l.length->arr[off+i]?=some (V i))(r:∀i x,l[i]?=some x->∃d,Rep false w (V i) (.s .int x) d/\∀y,d y->K y):Rep false w (.slice (some ⟨b,off,none⟩) l.length cap) (.s (.sl .int) l) K:=by
 refine .sl (.sl .int) l b off cap arr e (0,0) (fun i _=>V i) (fun _ _=>K) _ n (fun _=>rfl) (by rw[zpT];omega) c (by show off+cap*1<=arr.size;omega) f (fun i j x _ _ h=>⟨h,fun h=>by cases h⟩) (fun h=>by cases h) (fun i j p q=>?_) (fun i x v j z a=>?_);{have g:j=0:=(by have:j<1:=q;omega);subst g;show arr[off+i*1+0]?=_;rw[uZ,jZ];exact u i p}
 .match j,a with
  | 0,a=>cases a;obtain⟨d,k,m⟩:=r i x v;exact k.weak m
  |j+1,a=>simp[Ty.cells]at a
theorem zv1 {w:World}{b o:Nat}{arr:Array Value}{e:TypeId}(a:w.heap[b]?=some (.cells arr e (0,0))):w.frozen? ⟨b,o,none⟩=false:=by simp[World.frozen?,a]
set_option maxHeartbeats 3000000 in
theorem zYr {w:World}{blk:Nat}{u:Value}{c:Cur}{K0:zX}{r:Ans}(N:Nat)(b5:∃e,w.heap[blk]?=some (.cells #[u,.int .i64 c.i,.int .i64 c.h] e (0,0)))(hu:Rep false w u (.s .u8 c.b) K0)(hK:∀x,K0 x->x<w.heap.size/\x≠blk)(hE:zn4 N c=some r) :
 Calls Tryz.prog 156 #[.pointer (some ⟨blk,0,none⟩)] w fun e p=>∃c2 l v Kr,r=AV.agg (zbT c2)::[aS (.sl .int) l]/\e = .returned v/\Cw w blk u c2 p/\Rep false p v (.s (.sl .int) l) Kr/\(∀x,Kr x->w.heap.size<=x/\x<p.heap.size):=by
 unfold zn4 at hE;cases hm:zh7 c 3 with
 |false=>rw[hm]at hE;cases hE
 |true=>
 cases K:zx (zAD c) 8 with
 |false=>rw[hm,K]at hE;cases hE
 |true=>
 rw[hm,K,cT,cT]at hE;have a7:∀{p:World} {O:Cur},Cw w blk u O p->O.b=c.b->Rep false p u (.s .u8 O.b) K0/\∀x,K0 x->x<p.heap.size/\x≠blk:=by intro p O h e;rw[e];exact⟨hu.frame (fun x d=>h.keep x (hK x d).1 (hK x d).2),fun x d=>⟨jK (hK x d).1 h.size,(hK x d).2⟩⟩
 have hM:=(zAZ hm).2.2 (by omega) (by omega)
 have a8:(zej c).length=3:=by have:=hM.1;unfold ln at this;unfold zej;omega
 have h5:=(zhq K).2.2 (by omega)
 obtain⟨k,hk⟩:∃k,zk (zAD c) 8=k:=⟨_,rfl⟩;have f1:z1C c=k:=hk;rw[f1]at hE
 go_enter Tryz.func156,Tryz.ntmps156
 go_wp2_with fail
 refine(z7n b5 hu hK hm).mono ?_
 rintro e L ⟨v,K1,rfl,F,b3,m⟩
 have b3:Rep true L v (.s (.sl .int) (zej c)) K1:=b3;have F:Cw w blk u (zAD c) L:=F;obtain⟨E,t,a3,d7,e0,V,Kc,rfl,c3,g9,d1,Z,G,e9,hV,c1⟩:=z5e b3 a8;have h3:blk<w.heap.size:=by obtain⟨e,he⟩:=b5;exact(qQ.1 he).1
 have e5:E≠blk:=by have:=(m E Z).1;omega
 have cellAt:∀{p:World} {O:Cur},Cw L blk u O p->p.heap[E]?=some (.cells d7 e0 (0,0)):=fun h=>(h.keep E (m E Z).2 e5).trans c3
 go_wp2_with fail
 obtain⟨g1,f2⟩:=a7 F rfl;refine(ztn F.cur g1 f2 K).mono ?_;rw[hk]
 rintro e X ⟨rfl,B⟩
 have B:Cw L blk u (zhw c) X:=B;obtain⟨g2,f3⟩:=a7 (F.trans B) rfl;have g0:=B.size;have g8:w.heap.size<=E/\E<L.heap.size:=m E Z
 have b2:∀{p:World} (i:Nat) (x:List Int),(∀b,Kc i b->b<L.heap.size->b≠blk->b≠E->p.heap[b]?=L.heap[b]?)->i<3->(zej c)[i]?=some x->Rep false p (V i) (.s .int x) (Kc i)/\∀y,Kc i y->w.heap.size<=y/\y<L.heap.size:=by intro p i x hf P d;refine⟨((c1 i x d).frame (fun y S=>?_)).ro,fun y S=>m y (G i y P S).1⟩;have:=m y (G i y P S).1;exact hf y S this.2 (by omega) (G i y P S).2
 go_wp2_with fail
 .have h0:ieq k 0=true:=by assumption
  rw[h0,cT]at hE;cases J:zx (zhw c) 3 with
  |false=>rw[J]at hE;cases hE
  |true=>
  cases b4:zx (ztu c) 4 with
  |false=>rw[J,b4]at hE;cases hE
  |true=>
   rw[J,b4,cT,cT]at hE;have hj:=(zhq J).2.2 (by omega);obtain⟨j,a0⟩:=uU hj.1;have c8:z1B c=(j:Int):=a0;have hn:=(zhq b4).2.2 (by omega);obtain⟨n,c9⟩:=uU hn.1;have f8:l04n c=(n:Int):=c9;rw[c8,f8]at hE;rw[a0]at hj;rw[c9]at hn;have e6:j<3:=(by omega);have h6:n<4:=(by omega);obtain⟨R0,c0⟩:∃R0,(zej c)[0]?=some R0:=⟨_,qB (by omega)⟩;have e2:R0.length=4:=hM.2 R0 (qK c0);obtain⟨f,a,g,T,e1,f0,c4,c6,a9,D,W⟩:=zWS (c1 0 R0 c0) e2;have Q:∀{p:World} {O:Cur},Cw L blk u O p->p.cell? ⟨E,t,none⟩=some (.slice (some ⟨f,a,none⟩) 4 g):=fun h=>(by have:=hV 0 (by omega);rw[jZ,f0] at this;rw[cell_of_block (cellAt h)];exact this);have b7:∀{p:World} {O:Cur},Cw L blk u O p->p.cell? ⟨E,t+j,none⟩=some (V j)/\p.frozen? ⟨E,t+j,none⟩=false:=fun h=>by rw[cell_of_block (cellAt h)];exact⟨hV j e6,zv1 (cellAt h)⟩
   have d8:∀{I:World},Cw L blk u (z1z c) I->∃c2 l v Kr,r=AV.agg (zbT c2)::[aS (.sl .int) l]/\Ending.returned (.slice (some ⟨E,t,none⟩) 3 a3) = .returned v/\Cw w blk u c2 (I.setCell ⟨E,t+j,none⟩ (.slice (some ⟨f,a,none⟩) n g))/\Rep false (I.setCell ⟨E,t+j,none⟩ (.slice (some ⟨f,a,none⟩) n g)) v (.s (.sl .int) l) Kr/\
    (∀x,Kr x->w.heap.size<=x/\x<(I.setCell ⟨E,t+j,none⟩ (.slice (some ⟨f,a,none⟩) n g)).heap.size):=by
    intro I h4;have hz:=h4.size;have a6:=m f (G 0 f (by omega) D).1
    have U:f≠blk:=by omega
    have a5:f≠E:=(G 0 f (by omega) D).2
    have ho:∀b,b≠E->(I.setCell ⟨E,t+j,none⟩ (.slice (some ⟨f,a,none⟩) n g)).heap[b]?=I.heap[b]?:=fun b K=>heap_setCell_other I _ b _ K;have d0:=heap_setCell_same I E (t+j) d7 e0 (.slice (some ⟨f,a,none⟩) n g) (cellAt h4);have A:=F.trans h4;refine⟨_,_,_,K1,(Option.some.inj hE).symm,rfl,⟨A.os,A.tape,A.output,by rw[World.size_setCell];exact A.size,fun b K hn=>(ho b (by omega)).trans (A.keep b K hn),by obtain⟨e,he⟩:=A.cur;exact⟨e,(ho blk (fun h=>e5 h.symm)).trans he⟩⟩,?_,fun x d=>⟨(m x d).1,by rw[World.size_setCell];have:=m x d;omega⟩⟩
    have c7:ix (zej c) 0 []=R0:=by unfold ix;simp[List.getD,c0]
    have a1:(up (zej c) (j:Int) (tk (ix (zej c) 0 []) (n:Int))).length=3:=by rw[zhZ];exact a8
    have:=zKq d0 (l:=up (zej c) (j:Int) (tk (ix (zej c) 0 []) (n:Int))) (by omega) (cap:=a3) (off:=t) (by omega) (by simpa using d1) (fun i=>if i=j then .slice (some ⟨f,a,none⟩) n g else V i) Z (fun i P=>by
     rw[a1]at P;rw[kF]
     by_cases M:i=j
     .subst M;rw[if_pos rfl,if_pos (by omega),if_pos rfl]
     .rw [if_neg (by omega),if_neg M]
      exact hV i P) (fun i x d=>by
     have P:i<3:=by rw[<- a1];exact(qA.1 d).1
     unfold up at d;rw[q9]at d
     by_cases M:i=j
     .subst M;rw[kH,if_pos rfl,if_pos (by omega),c7]at d
      cases d;refine⟨fun x=>x=f,?_,fun y S=>by rw[S];exact(G 0 f (by omega) D).1⟩
      have hl:(tk R0 (n:Int)).length=n:=by simp[tk];omega
      have:=zKp (o:=false) (w:=I.setCell ⟨E,t+i,none⟩ (.slice (some ⟨f,a,none⟩) n g)) (b:=f) (off:=a) (cap:=g) (arr:=T) (e:=e1) ((ho f a5).trans ((h4.keep f a6.2 U).trans c4)) (l:=tk R0 (n:Int)) (by omega) (by omega) a9 (fun q z hq=>by
       unfold tk at hq;rw[jI]at hq;split at hq
       .exact W q z hq
       .cases hq)
      rw[hl] at this;rw[if_pos rfl];exact this
     .rw [kH,if_neg (by omega)]at d
      rw[if_neg M];exact⟨Kc i,(b2 i x (fun b _ K hn c3=>(ho b c3).trans (h4.keep b K hn)) P d).1,fun y S=>(G i y P S).1⟩)
    rw[a1] at this;exact this
   have Y:Cw L blk u (zhw c) X.drew:=B.drew;obtain⟨e8,e7⟩:=a7 (F.trans Y) rfl;have d2:=Q Y
   go_region_with (first
    |(go_at_call_of 150 (Value.int IntKind.i64 3);refine(ztn (c:=zhw c) (n:=3) Y.cur e8 e7 J).mono ?_;rw[a0];rintro e w3 ⟨rfl,H⟩;have H:Cw X.drew blk u (ztu c) w3:=H;have C:=Y.trans H;have d3:=Q C;obtain⟨g3,f4⟩:=a7 (F.trans C) rfl)
    |(go_at_call_of 150 (Value.int IntKind.i64 4);refine(ztn (c:=ztu c) (n:=4) C.cur g3 f4 b4).mono ?_;rw[c9];rintro e I ⟨rfl,b8⟩;have b8:Cw w3 blk u (z1z c) I:=b8;have b9:=C.trans b8;have d4:=Q b9;obtain⟨d5,d6⟩:=b7 b9))
   (all_goals go_wp2);(all_goals go_ret);all_goals exact d8 b9
 .have h0:ieq k 0=false:=by assumption
  have h1:ieq k 1=true:=by assumption
  rw[h0,h1,cF,cT]at hE;cases c5:zbl (zhw c) [-1,100] with
  |false=>rw[c5]at hE;cases hE
  |true=>
   rw[c5,cT]at hE;obtain⟨R1,a4⟩:∃R1,(zej c)[1]?=some R1:=⟨_,qB (by omega)⟩;have e3:R1.length=4:=hM.2 R1 (qK a4);obtain⟨f,a,g,T,e1,e4,c4,c6,a9,D,W⟩:=zWS (c1 1 R1 a4) e3;have a6:=m f (G 1 f (by omega) D).1;have U:f≠blk:=(by omega);have a5:f≠E:=(G 1 f (by omega) D).2;have R:∀{p:World} {O:Cur},Cw L blk u O p->p.cell? ⟨E,t+1,none⟩=some (.slice (some ⟨f,a,none⟩) 4 g):=fun h=>(by have:=hV 1 (by omega);rw[e4] at this;rw[cell_of_block (cellAt h)];exact this);have a2:∀{p:World} {O:Cur},Cw L blk u O p->p.heap[f]?=some (.cells T e1 (0,0)):=fun h=>(h.keep f a6.2 U).trans c4;have b6:∀{p:World} {O:Cur},Cw L blk u O p->p.cell? ⟨f,a+2,none⟩=some (.int .i64 R1[2])/\p.frozen? ⟨f,a+2,none⟩=false:=fun h=>by rw[cell_of_block (a2 h)];exact⟨W 2 _ (qB (by omega)),zv1 (a2 h)⟩
   have Y:Cw L blk u (zhw c) X.drew:=B.drew;have d2:=R Y;have d9:∀{I:World},Cw L blk u (z1A c) I->∃c2 l v Kr,r=AV.agg (zbT c2)::[aS (.sl .int) l]/\Ending.returned (.slice (some ⟨E,t,none⟩) 3 a3) = .returned v/\Cw w blk u c2 (I.setCell ⟨f,a+2,none⟩ (.int .i64 (zuN c)))/\Rep false (I.setCell ⟨f,a+2,none⟩ (.int .i64 (zuN c))) v (.s (.sl .int) l) Kr/\
    (∀x,Kr x->w.heap.size<=x/\x<(I.setCell ⟨f,a+2,none⟩ (.int .i64 (zuN c))).heap.size):=by
    intro I h4;have hz:=h4.size;have ho:∀b,b≠f->(I.setCell ⟨f,a+2,none⟩ (.int .i64 (zuN c))).heap[b]?=I.heap[b]?:=fun b K=>heap_setCell_other I _ b _ K;have d0:=heap_setCell_same I f (a+2) T e1 (.int .i64 (zuN c)) (a2 h4);have A:=F.trans h4;refine⟨_,_,_,K1,(Option.some.inj hE).symm,rfl,⟨A.os,A.tape,A.output,by rw[World.size_setCell];exact A.size,fun b K hn=>(ho b (by omega)).trans (A.keep b K hn),by obtain⟨e,he⟩:=A.cur;exact⟨e,(ho blk (fun h=>U h.symm)).trans he⟩⟩,?_,fun x d=>⟨(m x d).1,by rw[World.size_setCell];have:=m x d;omega⟩⟩
    have c7:ix (zej c) 1 []=R1:=by unfold ix;show (zej c).getD 1 []=R1;simp[List.getD,a4]
    have a1:(up (zej c) 1 (up (ix (zej c) 1 []) 2 (zuN c))).length=3:=by rw[zhZ];exact a8
    have:=zKq ((ho E (fun h=>a5 h.symm)).trans (cellAt h4)) (l:=up (zej c) 1 (up (ix (zej c) 1 []) 2 (zuN c))) (by omega) (cap:=a3) (off:=t) (by omega) d1 V Z (fun i P=>hV i (by omega)) (fun i x d=>by
     have P:i<3:=by rw[<- a1];exact(qA.1 d).1
     unfold up at d;rw[q9]at d
     by_cases M:i=1
     .subst M;rw[show (1:Int).toNat=1 from rfl,if_pos rfl,if_pos (by omega),c7]at d
      cases d;refine⟨fun x=>x=f,?_,fun y S=>by rw[S];exact(G 1 f (by omega) D).1⟩
      have hl:(List.set R1 (2:Int).toNat (zuN c)).length=4:=by simp;omega
      have:=zKp (o:=false) (w:=I.setCell ⟨f,a+2,none⟩ (.int .i64 (zuN c))) (b:=f) (off:=a) (cap:=g) d0 (l:=List.set R1 (2:Int).toNat (zuN c)) (by omega) (by omega) (by simpa using a9) (fun q z hq=>by
       rw[q9]at hq;rw[kF]
       by_cases f9:q=2
       .subst f9;rw[show (2:Int).toNat=2 from rfl,if_pos rfl,if_pos (by omega)]at hq
        cases hq;rw[if_pos rfl,if_pos (by omega)]
       .rw [show (2:Int).toNat=2 from rfl,if_neg (by omega)]at hq
        rw[if_neg (by omega)]
        exact W q z hq)
      rw[hl] at this;rw[e4];exact this
     .rw [show (1:Int).toNat=1 from rfl,if_neg (by omega)]at d
      refine⟨Kc i,(b2 i x (fun b f6 K hn g7=>?_) P d).1,fun y S=>(G i y P S).1⟩;exact(ho b (fun e=>M (e9 i 1 b P (by omega) f6 (by rw[e];exact D)))).trans (h4.keep b K hn))
    rw[a1] at this;exact this
   have hA:Cw L blk u (zhw c) (X.alloc (Obj.cells #[Value.int .i64 (-1),Value.int .i64 100] 3)).drew:=(B.alloc B.lt _).drew;obtain⟨g4,f5⟩:=a7 (F.trans hA) rfl;have dA:=R hA;have g5:Rep false (X.alloc (Obj.cells #[Value.int .i64 (-1),Value.int .i64 100] 3)).drew (.slice (some ⟨X.heap.size,0,none⟩) 2 2) (.s .int [-1,100]) (fun x=>x=X.heap.size):=by
    have hh:(X.alloc (Obj.cells #[Value.int .i64 (-1),Value.int .i64 100] 3)).drew.heap[X.heap.size]?=some (.cells #[Value.int .i64 (-1),Value.int .i64 100] 3 (0,0)):=heap_alloc_new X _;exact zKp (o:=false) hh (l:=[-1,100]) (cap:=2) (off:=0) (by decide) (by decide) (by decide) (fun i x d=>by
     match i,d with
     | 0,d=>cases d;rfl
     | 1,d=>cases d;rfl
     |i+2,d=>simp at d)
   go_region_with (first
    |(go_at_call_of 86 (Value.slice (some ⟨X.heap.size,0,none⟩) 2 2);refine(z4W (c:=zhw c) (l:=[-1,100]) hA.cur g4 f5 c5 g5 (fun x d=>by rw[d];exact⟨by simp,Nat.ne_of_gt B.lt⟩)).mono ?_;rintro e w3 ⟨rfl,H⟩;have H:Cw (X.alloc (Obj.cells #[Value.int .i64 (-1),Value.int .i64 100] 3)).drew blk u (z1A c) w3:=H;have C:=hA.trans H;have d3:=R C;obtain⟨d4,d5⟩:=b6 C))
   (all_goals go_wp2);(all_goals go_ret);all_goals exact d9 C
 .have h0:ieq k 0=false:=by assumption
  have h1:ieq k 1=false:=by assumption
  have h2:ieq k 2=true:=by assumption
  rw[h0,h1,h2,cF,cF,cT]at hE;cases J:zx (zhw c) 3 with
  |false=>rw[J]at hE;cases hE
  |true=>
   rw[J,cT]at hE;have hj:=(zhq J).2.2 (by omega);obtain⟨j,a0⟩:=uU hj.1;have c8:z1B c=(j:Int):=a0;rw[c8]at hE;refine(ztn B.cur g2 f3 J).mono ?_;rw[a0];rintro e w3 ⟨rfl,H⟩;have H:Cw X blk u (ztu c) w3:=H;go_wp2;go_ret;have e6:j<3:=(by omega);have f7:(tk (zej c) (j:Int)).length=j:=(by simp[tk];omega);have C:=B.trans H;refine⟨_,_,_,K1,(Option.some.inj hE).symm,rfl,F.trans C,?_,fun x d=>⟨(m x d).1,by have:=m x d;have:=C.size;omega⟩⟩
   have:=zKq (cellAt C) (l:=tk (zej c) (j:Int)) (by omega) (cap:=a3) (off:=t) (by omega) d1 V Z (fun i P=>hV i (by omega)) (fun i x d=>by
    have P:i<(tk (zej c) (j:Int)).length:=(qA.1 d).1;have g6:(zej c)[i]?=some x:=by unfold tk at d;rw[jI]at d;split at d;{exact d};{cases d}
    exact⟨Kc i,(b2 i x (fun b _ K hn _=>C.keep b K hn) (by omega) g6).1,fun y S=>(G i y (by omega) S).1⟩)
   rw[f7] at this;exact this
 .have h0:ieq k 0=false:=by assumption
  have h1:ieq k 1=false:=by assumption
  have h2:ieq k 2=false:=by assumption
  rw[h0,h1,h2,cF,cF,cF]at hE
  go_ret
  exact⟨_,_,_,K1,(Option.some.inj hE).symm,rfl,F.trans B,(b3.frame (fun x d=>B.keep x (m x d).2 (by have:=m x d;omega))).ro,fun x d=>⟨(m x d).1,by have:=m x d;omega⟩⟩
theorem zVs {c:Cur}(h:zbc c):zpm c=true:=by
 refine z19 c ⟨0,?_⟩;unfold zn4;have t:=zbcT h (a0:=3) (by omega) (by omega);have y:zbc (zAD c):=zbL h (z2d _ _);have k:zbc (zhw c):=zbL h (zF _ _);have z:zbc (ztu c):=zbL h (zF _ _);have p:=(zAZ t).2.2 (by omega) (by omega);have A:(zej c).length=3:=(by have:=p.1;unfold ln at this;unfold zej;omega);have f:∀r∈zej c,r.length<=4:=fun r f=>kY (p.2 r f);have u:∀n,(ix (zej c) n []).length<=4:=(by intro n;unfold ix List.getD;cases e:(zej c)[n.toNat]? with|none=>simp|some r=>exact f r (qK e));have g:∀(n:Int) (r:List Int),r.length<=4->∀q∈up (zej c) n r,q.length<=4:=by intro n r j q e;rcases qY e with e|rfl;{exact f q e};{exact j}
 have d:∀(s:Cur) (l:List (List Int)),s.b=c.b->0<=s.i->l.length<=3->(∀r∈l,r.length<=4)->Ends (fun a=>∃s m,a=(AV.agg (zbT s)::[aS (.sl .int) m])/\(s.b=c.b/\0<=s.i)/\(m.length<=3/\∀r∈m,r.length<=4)) (some (AV.agg (zbT s)::[aS (.sl .int) l])):=
  fun s l v w x j=>⟨_,rfl,s,l,rfl,⟨v,w⟩,x,j⟩
 exact zu t (zu (zbz y 8) (zbA (fun _=>zu (zbz k 3) (zu (zbz z 4) (d _ _ rfl (zF _ _) (by rw[zhZ];omega) (g _ _ (qU (zEk _ _) (u _))))))
  (fun _=>zbA (fun _=>zu (zdW k (by simp)) (d _ _ rfl (zbJ _ _) (by rw[zhZ];omega) (g _ _ (by rw[zhZ];exact u _)))) (fun _=>zbA (fun _=>zu (zbz k 3) (d _ _ rfl (zF _ _) (qU (zEk _ _) (by omega)) (fun r e=>f r (jT e)))) (fun _=>d _ _ rfl (zF _ _) (by omega) f)))))
theorem zPo:zbK Tryz.prog 156 [false,true,true] zsG:=by
 refine⟨zjj (by kernel_rfl),?_⟩;intro w blk d e cs K T xs Ka U rs D P a4 k A X n W g;unfold zsG rP0 at g;obtain⟨⟨p,q,r⟩,rfl,g⟩:=z4R g;obtain⟨rfl,R,rfl,rfl⟩:=zwe g;dsimp only at R ⊢;have hs:d.size=3:=P;have M:xs=[]:=List.eq_nil_of_length_eq_zero n.1;subst M;obtain⟨N,hE⟩:=(zNN R).1;have v1:=(k 1 _ (d[1]'(by omega)) rfl (jH _)).int_inv;have v2:=(k 2 _ (d[2]'(by omega)) rfl (jH _)).int_inv
 have m:d = #[d[0]'(by omega),.int .i64 q,.int .i64 r]:=by
  apply Array.ext;{exact hs}
  .intro i E hi2
   match i,E with
   | 0,_=>rfl
   | 1,_=>exact v1
   | 2,_=>exact v2
   |i+3,h=>omega
 have hu:=k 0 _ (d[0]'(by omega)) rfl (jH _);have f:Rep false w (d[0]'(by omega)) (.s .u8 p) (K 0):=hu;generalize d[0]'(by omega)=u at m f;subst m;refine(zYr (c:=⟨p,q,r⟩) (u:=u) (K0:=K 0) N ⟨e,D⟩ f (fun x n=>A 0 x (show 0<3 by decide) n) hE).mono ?_;rintro e2 w' ⟨z,l,v,S,hr,rfl,y,Y,t⟩;have B:AV.agg (zbT (zh6 ⟨p,q,r⟩))::[aS (.sl .int) (zqE ⟨p,q,r⟩)]=AV.agg (zbT z)::[aS (.sl .int) l]:=hr;simp only[List.cons.injEq,AV.agg.injEq,AV.one.injEq,and_true]at B;obtain⟨C,I⟩:=B;have I:zqE ⟨p,q,r⟩=l:=(by cases I;rfl);subst I;have O:zh6 ⟨p,q,r⟩=z:=(by have C:=C;simp only[zbT,List.cons.injEq,CV.s.injEq,CV.i.injEq,true_and,and_true,heq_eq_eq]at C;obtain⟨F,G,H⟩:=C;generalize zh6 ⟨p,q,r⟩=s at F G H;obtain⟨a1,a2,a3⟩:=s;obtain⟨b1,b2,b3⟩:=z;simp only at F G H;rw[F,G,H]);rw[O];obtain⟨V,J⟩:=y.cur;refine⟨y.os,y.tape,y.output,y.size,fun b D hn _=>y.keep b D hn,#[u,.int .i64 z.i,.int .i64 z.h],V,fun _ _=>False,[v],fun _=>S,J,rfl,rfl,?_,⟨rfl,fun i Q x a n=>?_⟩,rfl,fun j x _ h=>h.elim,fun i x E L=>⟨(t x L).2,?_,.inr (t x L).1⟩,fun i j x _ _ _ h=>h.elim,?_,fun i j x _ _ h=>h.elim⟩
 .intro j Q u' a f
  match j,a,f with
  | 0,a,f=>cases a;exact⟨fun h=>by simp[zbb]at h,fun _=>f⟩
  | 1,a,f=>cases a;cases f;rfl
  | 2,a,f=>cases a;cases f;rfl
  |j+3,a,f=>simp[zbT]at a
 .match i,a,n with
  | 0,a,n=>cases a;cases n;exact Y
  |i+1,a,n=>simp at n
 {have:=(qQ.1 D).1;have:=(t x L).1;omega};{intro i j Q x E ho Z a0 _;have h1:i<1:=(qA.1 E).1;have h2:j<1:=Z;omega}
def z9P:zcL:=[(156,([false,true,true],zsG))]++z9O
theorem zWH:zb3 z9P:=zcq z7w (by
 intro x a;simp only[qG,qN,or_false]at a;rcases a with rfl
 .exact zPo)
end
def zbcK:zba:=[(195,zlQ),(224,zqr)]++z8N
theorem zIZ:zK zbcK:=zh zno (zh zuB zdT)
theorem zFP {g:Type}{c e:Cur}(h:zbc c)(j:0<=e.i){P:g->Prop}{q:Int}(A:0<q)(M:q<=1000){fc:Cur->Bool}{fs:Cur->Cur}{fv:Cur->g}(E:∀{c:Cur},zbc c->fc c=true)(H:∀c,0<=(fs c).i)(hg:∀{c:Cur},zbc c->P (fv c)){G:Ans->Prop}{l0:List g}{z:Nat}(O:l0.length<=z)(I:z<=1000)(m:∀x∈l0,P x){p:Type}(S:Nat->Int×Int×Int×List g->p){F:(p->OA)->p->OA}(D:∀rec t i k l,∃r,F rec (S 0 (t,i,k,l))=(bif zx ⟨c.b,i,k⟩ q then (bif ilt t (zk ⟨c.b,i,k⟩ q) then (bif fc { zf ⟨c.b,i,k⟩ q with b:=c.b } then (bif few (ln (ap l [fv { zf ⟨c.b,i,k⟩ q with b:=c.b }])) then
        rec (S 0 (zM .i64 t 1,(fs {zf ⟨c.b,i,k⟩ q with b:=c.b}).i,(fs {zf ⟨c.b,i,k⟩ q with b:=c.b}).h,ap l [fv {zf ⟨c.b,i,k⟩ q with b:=c.b}])) else none) else none) else some r) else none)/\(ln l<=z+q->(∀x∈l,P x)->G r)):Ends G (iter 1002 F (S 0 (0,e.i,e.h,l0))):=by
 refine zms (fun n s=>∃t i k l,s=S 0 (t,i,k,l)/\t+(n:Int)=1000/\0<=t/\t<=q/\0<=i/\(∀x∈l,P x)/\ln l<=z+t) ?_ 1002 1000 _ ⟨0,e.i,e.h,l0,rfl,rfl,kS 0,by omega,j,m,by unfold ln;omega⟩ (by omega)
 rintro n s rec ⟨t,i,k,l,rfl,J,B,K,C,u,L⟩ f
 obtain⟨r,hF1,hF2⟩:=D rec t i k l;rw[hF1];have a:zbc ⟨c.b,i,k⟩:=zbL h C;have d:=zfC a A;have v:zbc {zf ⟨c.b,i,k⟩ q with b:=c.b}:=zbL h (zF _ _);refine zu (zbz a _) (zbA (fun w=>?_) (fun w=>?_))
 .have hlt:t<zk ⟨c.b,i,k⟩ q:=qE w;have N:=zg3 (y:=1) B (by omega) (by omega) (by omega)
  refine zu (E v) (zu (zkL (by rw[zhx];omega)) (f (n-1) _ (by omega) ⟨_,_,_,_,rfl,by omega,by omega,by omega,H _,?_,by rw[zhx];omega⟩))
  intro x d;rcases jJ.1 d with d|d
  .exact u x d
  .rw [qF.1 d];exact hg v
 .exact zod (hF2 (by omega) u)
theorem zbcb {c d:Cur}(h:zbc c)(f:0<=d.i){m q x:Int}(t:0<q)(g:0<=m)(D:m+q<=1000){G:Ans->Prop}{l0:List Int}(B:ln l0<=m+q){j:Type}(S:Nat->Int×Int×List Int->j){F:(j->OA)->j->OA}(w:∀rec i k l,∃r,F rec (S 0 (i,k,l))=(bif zx ⟨c.b,i,k⟩ q then (bif ilt (ln l) (zM .i64 m (zk ⟨c.b,i,k⟩ q)) then (bif few (ln (ap l [x])) then
        rec (S 0 ((zf ⟨c.b,i,k⟩ q).i,(zf ⟨c.b,i,k⟩ q).h,ap l [x])) else none) else some r) else none)/\(ln l<=m+q->G r)):Ends G (iter 1002 F (S 0 (d.i,d.h,l0))):=by
 refine zms (fun n s=>∃i k l,s=S 0 (i,k,l)/\ln l+(n:Int)=1000/\0<=i/\ln l<=m+q) ?_ 1002 (1000-ln l0).toNat _ ⟨d.i,d.h,l0,rfl,by unfold ln at *;omega,f,B⟩ (by unfold ln at *;omega)
 rintro n s rec ⟨i,k,l,rfl,C,u,v⟩ e
 obtain⟨r,hF1,hF2⟩:=w rec i k l;rw[hF1];have a:zbc ⟨c.b,i,k⟩:=zbL h u;have A:=zfC a t;have z:=zg3 (x:=m) (y:=zk ⟨c.b,i,k⟩ q) g (by omega) A.1 (by omega)
 refine zu (zbz a _) (zbA (fun p=>?_) (fun p=>?_))
 .have hlt:ln l<zM .i64 m (zk ⟨c.b,i,k⟩ q):=qE p;rw[z]at hlt;exact zu (zkL (by rw[zhx];omega)) (e (n-1) _ (by unfold ln at *;omega) ⟨_,_,_,rfl,by rw[zhx];omega,zF _ _,by rw[zhx];omega⟩)
 .exact zod (hF2 v)
def GuS (g:Guest):Prop:=g.Prog.length<=13/\g.Written.length<=4/\g.Live.length<=4/\g.Seen.length<=50
theorem zFy {c:Cur}(h:zbc c):(zdl c 4 8).length<=4:=by have:=(zbby h (n:=4) (m:=8) (by omega) (by omega) (by omega) (by omega)).1;unfold ln at this;omega
def zuf (N:Nat)(c:Cur)  : OA :=
 let C:=({ (zY c) with b:=c.b}:Cur);let v:=(zdl C 4 8);let d:=(zco (zb1 c));let y9:=({ (zJ C 4 8) with b:=c.b}:Cur);let x:=(zdl y9 4 8);let y2:=({ (zJ y9 4 8) with b:=c.b}:Cur);let w:=(zk y2 100);let B:=({ (zf y2 100) with b:=c.b}:Cur);let y:=(zk B 4);let y0:=({ (zf B 4) with b:=c.b}:Cur);let I:=({ (zcf y0) with b:=c.b}:Cur);let e:=(zcy y0);let A:=({ (zN I 3) with b:=c.b}:Cur);let H:=({ (zf A 256) with b:=c.b}:Cur);let r:=({ (zN A 4) with b:=c.b}:Cur);let u:=({ (zea r) with b:=c.b}:Cur);let q:=({ (zN H 4) with b:=c.b}:Cur);let t:=({ (zea q) with b:=c.b}:Cur); (oN (zgM c) (oN (ziR (zb1 c)) (oN (zhr C 4 8) (oN (zhr y9 4 8) (oN (zx y2 100) (oN (zx B 4) (oN (zjH y0) (oN (zcI I 3) (cond (zcT I 3) (oN (zx A 256) (oN (zcI H 4) (cond (zcT H 4) (oN (zgN q) (oN (zcI t 12) (iter (σ:=(Int×(Int×(Int×(Int×(Int×(Int×(Int×(Bool×(Int×(Int×(Int×(Bool×(Int×(Bool×(Int×(Int×(Int×(Int×(Bool×(Int×(Int×(Int×(Bool×(Int×(Bool×((List Int)×(lI×(lS×(lS×((List Int)×(lI×(lS×(lS×((List Int)×Unit))))))))))))))))))))))))))))))))))) N (fun z a=>let d6:=a.2.2.2.2.2.2.2.2.2.2.2.2.2.2.1;let d2:=a.2.2.2.2.2.2.2.2.2.2.2.2.2.2.2.1;let c8:=a.2.2.2.2.2.2.2.2.2.2.2.2.2.2.2.2.1;let c4:=a.2.2.2.2.2.2.2.2.2.2.2.2.2.2.2.2.2.1;let c0:=a.2.2.2.2.2.2.2.2.2.2.2.2.2.2.2.2.2.2.1;let b6:=a.2.2.2.2.2.2.2.2.2.2.2.2.2.2.2.2.2.2.2.1;let b2:=a.2.2.2.2.2.2.2.2.2.2.2.2.2.2.2.2.2.2.2.2.1;let a8:=a.2.2.2.2.2.2.2.2.2.2.2.2.2.2.2.2.2.2.2.2.2.1;let a4:=a.2.2.2.2.2.2.2.2.2.2.2.2.2.2.2.2.2.2.2.2.2.2.1;let a0:=a.2.2.2.2.2.2.2.2.2.2.2.2.2.2.2.2.2.2.2.2.2.2.2.1;let W:=a.2.2.2.2.2.2.2.2.2.2.2.2.2.2.2.2.2.2.2.2.2.2.2.2.1;let S:=a.2.2.2.2.2.2.2.2.2.2.2.2.2.2.2.2.2.2.2.2.2.2.2.2.2.2.2.2.2.2.1;let O:=a.2.2.2.2.2.2.2.2.2.2.2.2.2.2.2.2.2.2.2.2.2.2.2.2.2.2.2.2.2.2.2.1;let J:=a.2.2.2.2.2.2.2.2.2.2.2.2.2.2.2.2.2.2.2.2.2.2.2.2.2.2.2.2.2.2.2.2.1;let D:=a.2.2.2.2.2.2.2.2.2.2.2.2.2.2.2.2.2.2.2.2.2.2.2.2.2.2.2.2.2.2.2.2.2.1;let y4:=a.2.2.2.2.2.2.2.2.2.2.2.2.2.2.2.2.2.2.2.2.2.2.2.2.2.1;let l:=(⟨y4,a.2.1,a.2.2.1⟩:Cur);let f:=({ (zf l 4) with b:=y4}:Cur); (oN (zx l 4) (cond (ilt a.1 (zk l 4)) (oN (zx f 100) (oN (few (ln (ap D [(zk f 100)]))) (z ((zM .i64 a.1 1),((zf f 100).i,((zf f 100).h,(a.2.2.2.1,(a.2.2.2.2.1,(a.2.2.2.2.2.1,(a.2.2.2.2.2.2.1,(a.2.2.2.2.2.2.2.1,(a.2.2.2.2.2.2.2.2.1,(a.2.2.2.2.2.2.2.2.2.1,(a.2.2.2.2.2.2.2.2.2.2.1,(a.2.2.2.2.2.2.2.2.2.2.2.1,(a.2.2.2.2.2.2.2.2.2.2.2.2.1,(a.2.2.2.2.2.2.2.2.2.2.2.2.2.1,(d6,(d2,(c8,(c4,(c0,(b6,(b2,(a8,(a4,(a0,(W,(y4,(a.2.2.2.2.2.2.2.2.2.2.2.2.2.2.2.2.2.2.2.2.2.2.2.2.2.2.1,(a.2.2.2.2.2.2.2.2.2.2.2.2.2.2.2.2.2.2.2.2.2.2.2.2.2.2.2.1,(a.2.2.2.2.2.2.2.2.2.2.2.2.2.2.2.2.2.2.2.2.2.2.2.2.2.2.2.2.1,(a.2.2.2.2.2.2.2.2.2.2.2.2.2.2.2.2.2.2.2.2.2.2.2.2.2.2.2.2.2.1,(S,(O,(J,((ap D [(zk f 100)]),()))))))))))))))))))))))))))))))))))))) (some [(.agg [(.s .u8 y4),(.i .i64 (zf l 4).i),(.i .i64 (zf l 4).h)]),(aT .guest (⟨S,d6,d2,O,J,⟨c8,c4,c0⟩,b6,⟨b2,a8,a4,a0⟩,W,D⟩:Guest))])))) (0,((zN t 12).i,((zN t 12).h,(0,(0,(0,(0,(false,(0,(0,(0,(false,(0,(false,(w,(y,(e.Traps,(e.Post,(e.Open,((zk A 256),((zb6 q).Kind,((zb6 q).Page,((zb6 q).Write,((zb6 q).N,((zcT t 12),(c.b,([],([],([],([],(d.Prog,(v,(x,(d.Seen,()))))))))))))))))))))))))))))))))))))) (oN (zcI q 12) (iter (σ:=(Int×(Int×(Int×(Int×(Int×(Int×(Int×(Bool×(Int×(Int×(Int×(Bool×(Int×(Bool×(Int×(Int×(Int×(Int×(Bool×(Int×(Int×(Int×(Bool×(Int×(Bool×((List Int)×(lI×(lS×(lS×((List Int)×(lI×(lS×(lS×((List Int)×Unit))))))))))))))))))))))))))))))))))) N (fun z a=>let d7:=a.2.2.2.2.2.2.2.2.2.2.2.2.2.2.1;let d3:=a.2.2.2.2.2.2.2.2.2.2.2.2.2.2.2.1;let c9:=a.2.2.2.2.2.2.2.2.2.2.2.2.2.2.2.2.1;let c5:=a.2.2.2.2.2.2.2.2.2.2.2.2.2.2.2.2.2.1;let c1:=a.2.2.2.2.2.2.2.2.2.2.2.2.2.2.2.2.2.2.1;let b7:=a.2.2.2.2.2.2.2.2.2.2.2.2.2.2.2.2.2.2.2.1;let b3:=a.2.2.2.2.2.2.2.2.2.2.2.2.2.2.2.2.2.2.2.2.1;let a9:=a.2.2.2.2.2.2.2.2.2.2.2.2.2.2.2.2.2.2.2.2.2.1;let a5:=a.2.2.2.2.2.2.2.2.2.2.2.2.2.2.2.2.2.2.2.2.2.2.1;let a1:=a.2.2.2.2.2.2.2.2.2.2.2.2.2.2.2.2.2.2.2.2.2.2.2.1;let X:=a.2.2.2.2.2.2.2.2.2.2.2.2.2.2.2.2.2.2.2.2.2.2.2.2.1;let T:=a.2.2.2.2.2.2.2.2.2.2.2.2.2.2.2.2.2.2.2.2.2.2.2.2.2.2.2.2.2.2.1;let P:=a.2.2.2.2.2.2.2.2.2.2.2.2.2.2.2.2.2.2.2.2.2.2.2.2.2.2.2.2.2.2.2.1;let K:=a.2.2.2.2.2.2.2.2.2.2.2.2.2.2.2.2.2.2.2.2.2.2.2.2.2.2.2.2.2.2.2.2.1;let E:=a.2.2.2.2.2.2.2.2.2.2.2.2.2.2.2.2.2.2.2.2.2.2.2.2.2.2.2.2.2.2.2.2.2.1;let y5:=a.2.2.2.2.2.2.2.2.2.2.2.2.2.2.2.2.2.2.2.2.2.2.2.2.2.1;let m:=(⟨y5,a.2.1,a.2.2.1⟩:Cur);let g:=({ (zf m 4) with b:=y5}:Cur); (oN (zx m 4) (cond (ilt a.1 (zk m 4)) (oN (zx g 100) (oN (few (ln (ap E [(zk g 100)]))) (z ((zM .i64 a.1 1),((zf g 100).i,((zf g 100).h,(a.2.2.2.1,(a.2.2.2.2.1,(a.2.2.2.2.2.1,(a.2.2.2.2.2.2.1,(a.2.2.2.2.2.2.2.1,(a.2.2.2.2.2.2.2.2.1,(a.2.2.2.2.2.2.2.2.2.1,(a.2.2.2.2.2.2.2.2.2.2.1,(a.2.2.2.2.2.2.2.2.2.2.2.1,(a.2.2.2.2.2.2.2.2.2.2.2.2.1,(a.2.2.2.2.2.2.2.2.2.2.2.2.2.1,(d7,(d3,(c9,(c5,(c1,(b7,(b3,(a9,(a5,(a1,(X,(y5,(a.2.2.2.2.2.2.2.2.2.2.2.2.2.2.2.2.2.2.2.2.2.2.2.2.2.2.1,(a.2.2.2.2.2.2.2.2.2.2.2.2.2.2.2.2.2.2.2.2.2.2.2.2.2.2.2.1,(a.2.2.2.2.2.2.2.2.2.2.2.2.2.2.2.2.2.2.2.2.2.2.2.2.2.2.2.2.1,(a.2.2.2.2.2.2.2.2.2.2.2.2.2.2.2.2.2.2.2.2.2.2.2.2.2.2.2.2.2.1,(T,(P,(K,((ap E [(zk g 100)]),()))))))))))))))))))))))))))))))))))))) (some [(.agg [(.s .u8 y5),(.i .i64 (zf m 4).i),(.i .i64 (zf m 4).h)]),(aT .guest (⟨T,d7,d3,P,K,⟨c9,c5,c1⟩,b7,⟨b3,a9,a5,a1⟩,X,E⟩:Guest))])))) (0,((zN q 12).i,((zN q 12).h,(0,(0,(0,(0,(false,(0,(0,(0,(false,(0,(false,(w,(y,(e.Traps,(e.Post,(e.Open,((zk A 256),(d.Exit.Kind,(d.Exit.Page,(d.Exit.Write,(d.Exit.N,((zcT q 12),(c.b,([],([],([],([],(d.Prog,(v,(x,(d.Seen,()))))))))))))))))))))))))))))))))))))))) (oN (zcI A 4) (cond (zcT A 4) (oN (zgN r) (oN (zcI u 12) (iter (σ:=(Int×(Int×(Int×(Int×(Int×(Int×(Int×(Bool×(Int×(Int×(Int×(Bool×(Int×(Bool×(Int×(Int×(Int×(Int×(Bool×(Int×(Int×(Int×(Bool×(Int×(Bool×((List Int)×(lI×(lS×(lS×((List Int)×(lI×(lS×(lS×((List Int)×Unit))))))))))))))))))))))))))))))))))) N (fun z a=>let d8:=a.2.2.2.2.2.2.2.2.2.2.2.2.2.2.1;let d4:=a.2.2.2.2.2.2.2.2.2.2.2.2.2.2.2.1;let d0:=a.2.2.2.2.2.2.2.2.2.2.2.2.2.2.2.2.1;let c6:=a.2.2.2.2.2.2.2.2.2.2.2.2.2.2.2.2.2.1;let c2:=a.2.2.2.2.2.2.2.2.2.2.2.2.2.2.2.2.2.2.1;let b8:=a.2.2.2.2.2.2.2.2.2.2.2.2.2.2.2.2.2.2.2.1;let b4:=a.2.2.2.2.2.2.2.2.2.2.2.2.2.2.2.2.2.2.2.2.1;let b0:=a.2.2.2.2.2.2.2.2.2.2.2.2.2.2.2.2.2.2.2.2.2.1;let a6:=a.2.2.2.2.2.2.2.2.2.2.2.2.2.2.2.2.2.2.2.2.2.2.1;let a2:=a.2.2.2.2.2.2.2.2.2.2.2.2.2.2.2.2.2.2.2.2.2.2.2.1;let Y:=a.2.2.2.2.2.2.2.2.2.2.2.2.2.2.2.2.2.2.2.2.2.2.2.2.1;let U:=a.2.2.2.2.2.2.2.2.2.2.2.2.2.2.2.2.2.2.2.2.2.2.2.2.2.2.2.2.2.2.1;let Q:=a.2.2.2.2.2.2.2.2.2.2.2.2.2.2.2.2.2.2.2.2.2.2.2.2.2.2.2.2.2.2.2.1;let L:=a.2.2.2.2.2.2.2.2.2.2.2.2.2.2.2.2.2.2.2.2.2.2.2.2.2.2.2.2.2.2.2.2.1;let F:=a.2.2.2.2.2.2.2.2.2.2.2.2.2.2.2.2.2.2.2.2.2.2.2.2.2.2.2.2.2.2.2.2.2.1;let y6:=a.2.2.2.2.2.2.2.2.2.2.2.2.2.2.2.2.2.2.2.2.2.2.2.2.2.1;let n:=(⟨y6,a.2.1,a.2.2.1⟩:Cur);let j:=({ (zf n 4) with b:=y6}:Cur); (oN (zx n 4) (cond (ilt a.1 (zk n 4)) (oN (zx j 100) (oN (few (ln (ap F [(zk j 100)]))) (z ((zM .i64 a.1 1),((zf j 100).i,((zf j 100).h,(a.2.2.2.1,(a.2.2.2.2.1,(a.2.2.2.2.2.1,(a.2.2.2.2.2.2.1,(a.2.2.2.2.2.2.2.1,(a.2.2.2.2.2.2.2.2.1,(a.2.2.2.2.2.2.2.2.2.1,(a.2.2.2.2.2.2.2.2.2.2.1,(a.2.2.2.2.2.2.2.2.2.2.2.1,(a.2.2.2.2.2.2.2.2.2.2.2.2.1,(a.2.2.2.2.2.2.2.2.2.2.2.2.2.1,(d8,(d4,(d0,(c6,(c2,(b8,(b4,(b0,(a6,(a2,(Y,(y6,(a.2.2.2.2.2.2.2.2.2.2.2.2.2.2.2.2.2.2.2.2.2.2.2.2.2.2.1,(a.2.2.2.2.2.2.2.2.2.2.2.2.2.2.2.2.2.2.2.2.2.2.2.2.2.2.2.1,(a.2.2.2.2.2.2.2.2.2.2.2.2.2.2.2.2.2.2.2.2.2.2.2.2.2.2.2.2.1,(a.2.2.2.2.2.2.2.2.2.2.2.2.2.2.2.2.2.2.2.2.2.2.2.2.2.2.2.2.2.1,(U,(Q,(L,((ap F [(zk j 100)]),()))))))))))))))))))))))))))))))))))))) (some [(.agg [(.s .u8 y6),(.i .i64 (zf n 4).i),(.i .i64 (zf n 4).h)]),(aT .guest (⟨U,d8,d4,Q,L,⟨d0,c6,c2⟩,b8,⟨b4,b0,a6,a2⟩,Y,F⟩:Guest))])))) (0,((zN u 12).i,((zN u 12).h,(0,(0,(0,(0,(false,(0,(0,(0,(false,(0,(false,(w,(y,(e.Traps,(e.Post,(e.Open,(d.Pending,((zb6 r).Kind,((zb6 r).Page,((zb6 r).Write,((zb6 r).N,((zcT u 12),(c.b,([],([],([],([],(d.Prog,(v,(x,(d.Seen,()))))))))))))))))))))))))))))))))))))) (oN (zcI r 12) (iter (σ:=(Int×(Int×(Int×(Int×(Int×(Int×(Int×(Bool×(Int×(Int×(Int×(Bool×(Int×(Bool×(Int×(Int×(Int×(Int×(Bool×(Int×(Int×(Int×(Bool×(Int×(Bool×((List Int)×(lI×(lS×(lS×((List Int)×(lI×(lS×(lS×((List Int)×Unit))))))))))))))))))))))))))))))))))) N (fun z a=>let d9:=a.2.2.2.2.2.2.2.2.2.2.2.2.2.2.1;let d5:=a.2.2.2.2.2.2.2.2.2.2.2.2.2.2.2.1;let d1:=a.2.2.2.2.2.2.2.2.2.2.2.2.2.2.2.2.1;let c7:=a.2.2.2.2.2.2.2.2.2.2.2.2.2.2.2.2.2.1;let c3:=a.2.2.2.2.2.2.2.2.2.2.2.2.2.2.2.2.2.2.1;let b9:=a.2.2.2.2.2.2.2.2.2.2.2.2.2.2.2.2.2.2.2.1;let b5:=a.2.2.2.2.2.2.2.2.2.2.2.2.2.2.2.2.2.2.2.2.1;let b1:=a.2.2.2.2.2.2.2.2.2.2.2.2.2.2.2.2.2.2.2.2.2.1;let a7:=a.2.2.2.2.2.2.2.2.2.2.2.2.2.2.2.2.2.2.2.2.2.2.1;let a3:=a.2.2.2.2.2.2.2.2.2.2.2.2.2.2.2.2.2.2.2.2.2.2.2.1;let Z:=a.2.2.2.2.2.2.2.2.2.2.2.2.2.2.2.2.2.2.2.2.2.2.2.2.1;let V:=a.2.2.2.2.2.2.2.2.2.2.2.2.2.2.2.2.2.2.2.2.2.2.2.2.2.2.2.2.2.2.1;let R:=a.2.2.2.2.2.2.2.2.2.2.2.2.2.2.2.2.2.2.2.2.2.2.2.2.2.2.2.2.2.2.2.1;let M:=a.2.2.2.2.2.2.2.2.2.2.2.2.2.2.2.2.2.2.2.2.2.2.2.2.2.2.2.2.2.2.2.2.1;let G:=a.2.2.2.2.2.2.2.2.2.2.2.2.2.2.2.2.2.2.2.2.2.2.2.2.2.2.2.2.2.2.2.2.2.1;let y7:=a.2.2.2.2.2.2.2.2.2.2.2.2.2.2.2.2.2.2.2.2.2.2.2.2.2.1;let p:=(⟨y7,a.2.1,a.2.2.1⟩:Cur);let k:=({ (zf p 4) with b:=y7}:Cur); (oN (zx p 4) (cond (ilt a.1 (zk p 4)) (oN (zx k 100) (oN (few (ln (ap G [(zk k 100)]))) (z ((zM .i64 a.1 1),((zf k 100).i,((zf k 100).h,(a.2.2.2.1,(a.2.2.2.2.1,(a.2.2.2.2.2.1,(a.2.2.2.2.2.2.1,(a.2.2.2.2.2.2.2.1,(a.2.2.2.2.2.2.2.2.1,(a.2.2.2.2.2.2.2.2.2.1,(a.2.2.2.2.2.2.2.2.2.2.1,(a.2.2.2.2.2.2.2.2.2.2.2.1,(a.2.2.2.2.2.2.2.2.2.2.2.2.1,(a.2.2.2.2.2.2.2.2.2.2.2.2.2.1,(d9,(d5,(d1,(c7,(c3,(b9,(b5,(b1,(a7,(a3,(Z,(y7,(a.2.2.2.2.2.2.2.2.2.2.2.2.2.2.2.2.2.2.2.2.2.2.2.2.2.2.1,(a.2.2.2.2.2.2.2.2.2.2.2.2.2.2.2.2.2.2.2.2.2.2.2.2.2.2.2.1,(a.2.2.2.2.2.2.2.2.2.2.2.2.2.2.2.2.2.2.2.2.2.2.2.2.2.2.2.2.1,(a.2.2.2.2.2.2.2.2.2.2.2.2.2.2.2.2.2.2.2.2.2.2.2.2.2.2.2.2.2.1,(V,(R,(M,((ap G [(zk k 100)]),()))))))))))))))))))))))))))))))))))))) (some [(.agg [(.s .u8 y7),(.i .i64 (zf p 4).i),(.i .i64 (zf p 4).h)]),(aT .guest (⟨V,d9,d5,R,M,⟨d1,c7,c3⟩,b9,⟨b5,b1,a7,a3⟩,Z,G⟩:Guest))])))) (0,((zN r 12).i,((zN r 12).h,(0,(0,(0,(0,(false,(0,(0,(0,(false,(0,(false,(w,(y,(e.Traps,(e.Post,(e.Open,(d.Pending,(d.Exit.Kind,(d.Exit.Page,(d.Exit.Write,(d.Exit.N,((zcT r 12),(c.b,([],([],([],([],(d.Prog,(v,(x,(d.Seen,())))))))))))))))))))))))))))))))))))))))))))))))
def zQ0:FuncId->Nat->Option Tmpl:=zq [(246,0,{n:=50,tm:=[(0,.lp 0 0),(2,.lp 1 0),(3,.lp 2 0),(4,ti)],lo:=[(0,[.sl 0 [],ti,ti]),(1,[.sl 1 [],ti,ti,.sl 2 [],.sl 3 [],ti,ti,.b,ti,ti,ti,.b,ti,.b,.sl 4 []]),(2,[.sl 5 [],ti,ti,.sl 6 [],.sl 7 [],ti,ti,.b,ti,ti,ti,.b,ti,.b,.sl 8 []])],ro:=[(0,.u8,false),(1,.ins,true),(2,.slot,true),(3,.slot,true),(4,.int,true),(5,.ins,true),(6,.slot,true),(7,.slot,true),(8,.int,true)]})]
def znh (c:Cur)(s:Cur)(a:Guest):Prop:=(∃N,zuf N c=some (AV.agg (zbT s)::[aT .guest a]))/\(s.b=c.b/\0<=s.i)/\(GuS a/\a.Seen.length<=4)
def zlk (c:Cur)  : Bool:=wC (znh c)
def ziY (c:Cur)  : Cur:=wS (znh c)
def zb5 (c:Cur)  : Guest:=wV (znh c)
theorem zFo {c:Cur}(h:zlk c=true):znh c (ziY c) (zb5 c):=wG h
theorem zW5 (c:Cur)  : 0<=(ziY c).i:=wP fun h=>h.2.1.2
theorem zW4 (c:Cur)(h:∃N,Ends (wE (fun a=>aT .guest a) c.b fun a=>GuS a/\a.Seen.length<=4) (zuf N c)):zlk c=true:=wI (fun _ _ h=>h) h
def zwl:zdn:=rP0 fun c=>(zlk c,ziY c,[aT .guest (zb5 c)])
theorem zJK:zbK Tryz.prog 246 [false,true,true] zwl:=hP0 zIZ zW zWH zn zQ0 (fun _ h=>(zFo h).1)
theorem zUY {c:Cur}(h:zbc c):zlk c=true:=by
 refine zW4 c ⟨1002,?_⟩;unfold zuf oN;conv=>zeta
 have f:=zEs h;have j:=zKm (zrD f).2.2;have e:ziR (zb1 c)=true:=zbh (by omega);have q:∀{s:Cur},0<=s.i->zbc {s with b:=c.b}:=fun g=>zbL h g;have d:GuS ⟨zb1 c,0,0,[],[],⟨0,0,false⟩,0,⟨0,0,false,0⟩,false,[]⟩:=⟨by dsimp only;omega,by simp,by simp,by simp⟩
 refine zu f (zu e (zu (zzG (q (zit _)) (by omega) (by omega) _) (zu (zzG (q (zhs _ _ _)) (by omega) (by omega) _) (zu (zbz (q (zhs _ _ _)) _) (zu (zbz (q (zF _ _)) _) (zu (z0T (q (zF _ _))) (zu (ziN (q (zA2 _)) _)
  (zbA (fun _=>zu (zbz (q (zcj _ _)) _) (zu (ziN (q (zF _ _)) _) (zbA (fun _=>zu (zU1 (q (zcj _ _))) (zu (ziN (q (zx0 _)) _) ?_)) (fun _=>zu (ziN (q (zcj _ _)) _) ?_))))
   (fun _=>zu (ziN (q (zcj _ _)) _) (zbA (fun _=>zu (zU1 (q (zcj _ _))) (zu (ziN (q (zx0 _)) _) ?_)) (fun _=>zu (ziN (q (zcj _ _)) _) ?_)))))))))))
 .exact zFP h (zcj _ _) (P:=fun _=>True) (q:=4) (by omega) (by omega) (fc:=fun c=>zx c 100) (fs:=fun c=>zf c 100) (fv:=fun c=>zk c 100) (fun h=>zbz h _) (fun c=>zF c _) (fun _=>trivial) (z:=0) (l0:=(zco (zb1 c)).Seen) (qW 0) (by omega) (by simp) ((fun _ t=>(t.1,t.2.1,t.2.2.1,0,0,0,0,false,0,0,0,false,0,false,(zk ({ (zJ ({ (zJ ({ (zY c) with b:=c.b }:Cur) 4 8) with b:=c.b }:Cur) 4 8) with b:=c.b }:Cur) 100),(zk ({ (zf ({ (zJ ({ (zJ ({ (zY c) with b:=c.b }:Cur) 4 8) with b:=c.b }:Cur) 4 8) with b:=c.b }:Cur) 100) with b:=c.b }:Cur) 4),(zcy ({ (zf ({ (zf ({ (zJ ({ (zJ ({ (zY c) with b:=c.b }:Cur) 4 8) with b:=c.b }:Cur) 4 8) with b:=c.b }:Cur) 100) with b:=c.b }:Cur) 4) with b:=c.b }:Cur)).Traps,(zcy ({ (zf ({ (zf ({ (zJ ({ (zJ ({ (zY c) with b:=c.b }:Cur) 4 8) with b:=c.b }:Cur) 4 8) with b:=c.b }:Cur) 100) with b:=c.b }:Cur) 4) with b:=c.b }:Cur)).Post,(zcy ({ (zf ({ (zf ({ (zJ ({ (zJ ({ (zY c) with b:=c.b }:Cur) 4 8) with b:=c.b }:Cur) 4 8) with b:=c.b }:Cur) 100) with b:=c.b }:Cur) 4) with b:=c.b }:Cur)).Open,(zk ({ (zN ({ (zcf ({ (zf ({ (zf ({ (zJ ({ (zJ ({ (zY c) with b:=c.b }:Cur) 4 8) with b:=c.b }:Cur) 4 8) with b:=c.b }:Cur) 100) with b:=c.b }:Cur) 4) with b:=c.b }:Cur)) with b:=c.b }:Cur) 3) with b:=c.b }:Cur) 256),(zb6 ({ (zN ({ (zf ({ (zN ({ (zcf ({ (zf ({ (zf ({ (zJ ({ (zJ ({ (zY c) with b:=c.b }:Cur) 4 8) with b:=c.b }:Cur) 4 8) with b:=c.b }:Cur) 100) with b:=c.b }:Cur) 4) with b:=c.b }:Cur)) with b:=c.b }:Cur) 3) with b:=c.b }:Cur) 256) with b:=c.b }:Cur) 4) with b:=c.b }:Cur)).Kind,(zb6 ({ (zN ({ (zf ({ (zN ({ (zcf ({ (zf ({ (zf ({ (zJ ({ (zJ ({ (zY c) with b:=c.b }:Cur) 4 8) with b:=c.b }:Cur) 4 8) with b:=c.b }:Cur) 100) with b:=c.b }:Cur) 4) with b:=c.b }:Cur)) with b:=c.b }:Cur) 3) with b:=c.b }:Cur) 256) with b:=c.b }:Cur) 4) with b:=c.b }:Cur)).Page,(zb6 ({ (zN ({ (zf ({ (zN ({ (zcf ({ (zf ({ (zf ({ (zJ ({ (zJ ({ (zY c) with b:=c.b }:Cur) 4 8) with b:=c.b }:Cur) 4 8) with b:=c.b }:Cur) 100) with b:=c.b }:Cur) 4) with b:=c.b }:Cur)) with b:=c.b }:Cur) 3) with b:=c.b }:Cur) 256) with b:=c.b }:Cur) 4) with b:=c.b }:Cur)).Write,(zb6 ({ (zN ({ (zf ({ (zN ({ (zcf ({ (zf ({ (zf ({ (zJ ({ (zJ ({ (zY c) with b:=c.b }:Cur) 4 8) with b:=c.b }:Cur) 4 8) with b:=c.b }:Cur) 100) with b:=c.b }:Cur) 4) with b:=c.b }:Cur)) with b:=c.b }:Cur) 3) with b:=c.b }:Cur) 256) with b:=c.b }:Cur) 4) with b:=c.b }:Cur)).N,(zcT ({ (zea ({ (zN ({ (zf ({ (zN ({ (zcf ({ (zf ({ (zf ({ (zJ ({ (zJ ({ (zY c) with b:=c.b }:Cur) 4 8) with b:=c.b }:Cur) 4 8) with b:=c.b }:Cur) 100) with b:=c.b }:Cur) 4) with b:=c.b }:Cur)) with b:=c.b }:Cur) 3) with b:=c.b }:Cur) 256) with b:=c.b }:Cur) 4) with b:=c.b }:Cur)) with b:=c.b }:Cur) 12),c.b,[],[],[],[],(zco (zb1 c)).Prog,(zdl ({ (zY c) with b:=c.b }:Cur) 4 8),(zdl ({ (zJ ({ (zY c) with b:=c.b }:Cur) 4 8) with b:=c.b }:Cur) 4 8),t.2.2.2,())):Nat->Int×Int×Int×List Int->_)
   (fun rec t i k l=>⟨_,rfl,fun a _=>⟨⟨_,_,_⟩,_,rfl,⟨rfl,zF _ _⟩,⟨⟨d.1,zFy (q (zit _)),zFy (q (zhs _ _ _)),by unfold ln at a;dsimp only;omega⟩,by unfold ln at a;dsimp only;omega⟩⟩⟩)
 .exact zFP h (zcj _ _) (P:=fun _=>True) (q:=4) (by omega) (by omega) (fc:=fun c=>zx c 100) (fs:=fun c=>zf c 100) (fv:=fun c=>zk c 100) (fun h=>zbz h _) (fun c=>zF c _) (fun _=>trivial) (z:=0) (l0:=(zco (zb1 c)).Seen) (qW 0) (by omega) (by simp) ((fun _ t=>(t.1,t.2.1,t.2.2.1,0,0,0,0,false,0,0,0,false,0,false,(zk ({ (zJ ({ (zJ ({ (zY c) with b:=c.b }:Cur) 4 8) with b:=c.b }:Cur) 4 8) with b:=c.b }:Cur) 100),(zk ({ (zf ({ (zJ ({ (zJ ({ (zY c) with b:=c.b }:Cur) 4 8) with b:=c.b }:Cur) 4 8) with b:=c.b }:Cur) 100) with b:=c.b }:Cur) 4),(zcy ({ (zf ({ (zf ({ (zJ ({ (zJ ({ (zY c) with b:=c.b }:Cur) 4 8) with b:=c.b }:Cur) 4 8) with b:=c.b }:Cur) 100) with b:=c.b }:Cur) 4) with b:=c.b }:Cur)).Traps,(zcy ({ (zf ({ (zf ({ (zJ ({ (zJ ({ (zY c) with b:=c.b }:Cur) 4 8) with b:=c.b }:Cur) 4 8) with b:=c.b }:Cur) 100) with b:=c.b }:Cur) 4) with b:=c.b }:Cur)).Post,(zcy ({ (zf ({ (zf ({ (zJ ({ (zJ ({ (zY c) with b:=c.b }:Cur) 4 8) with b:=c.b }:Cur) 4 8) with b:=c.b }:Cur) 100) with b:=c.b }:Cur) 4) with b:=c.b }:Cur)).Open,(zk ({ (zN ({ (zcf ({ (zf ({ (zf ({ (zJ ({ (zJ ({ (zY c) with b:=c.b }:Cur) 4 8) with b:=c.b }:Cur) 4 8) with b:=c.b }:Cur) 100) with b:=c.b }:Cur) 4) with b:=c.b }:Cur)) with b:=c.b }:Cur) 3) with b:=c.b }:Cur) 256),(zco (zb1 c)).Exit.Kind,(zco (zb1 c)).Exit.Page,(zco (zb1 c)).Exit.Write,(zco (zb1 c)).Exit.N,(zcT ({ (zN ({ (zf ({ (zN ({ (zcf ({ (zf ({ (zf ({ (zJ ({ (zJ ({ (zY c) with b:=c.b }:Cur) 4 8) with b:=c.b }:Cur) 4 8) with b:=c.b }:Cur) 100) with b:=c.b }:Cur) 4) with b:=c.b }:Cur)) with b:=c.b }:Cur) 3) with b:=c.b }:Cur) 256) with b:=c.b }:Cur) 4) with b:=c.b }:Cur) 12),c.b,[],[],[],[],(zco (zb1 c)).Prog,(zdl ({ (zY c) with b:=c.b }:Cur) 4 8),(zdl ({ (zJ ({ (zY c) with b:=c.b }:Cur) 4 8) with b:=c.b }:Cur) 4 8),t.2.2.2,())):Nat->Int×Int×Int×List Int->_)
   (fun rec t i k l=>⟨_,rfl,fun a _=>⟨⟨_,_,_⟩,_,rfl,⟨rfl,zF _ _⟩,⟨⟨d.1,zFy (q (zit _)),zFy (q (zhs _ _ _)),by unfold ln at a;dsimp only;omega⟩,by unfold ln at a;dsimp only;omega⟩⟩⟩)
 .exact zFP h (zcj _ _) (P:=fun _=>True) (q:=4) (by omega) (by omega) (fc:=fun c=>zx c 100) (fs:=fun c=>zf c 100) (fv:=fun c=>zk c 100) (fun h=>zbz h _) (fun c=>zF c _) (fun _=>trivial) (z:=0) (l0:=(zco (zb1 c)).Seen) (qW 0) (by omega) (by simp) ((fun _ t=>(t.1,t.2.1,t.2.2.1,0,0,0,0,false,0,0,0,false,0,false,(zk ({ (zJ ({ (zJ ({ (zY c) with b:=c.b }:Cur) 4 8) with b:=c.b }:Cur) 4 8) with b:=c.b }:Cur) 100),(zk ({ (zf ({ (zJ ({ (zJ ({ (zY c) with b:=c.b }:Cur) 4 8) with b:=c.b }:Cur) 4 8) with b:=c.b }:Cur) 100) with b:=c.b }:Cur) 4),(zcy ({ (zf ({ (zf ({ (zJ ({ (zJ ({ (zY c) with b:=c.b }:Cur) 4 8) with b:=c.b }:Cur) 4 8) with b:=c.b }:Cur) 100) with b:=c.b }:Cur) 4) with b:=c.b }:Cur)).Traps,(zcy ({ (zf ({ (zf ({ (zJ ({ (zJ ({ (zY c) with b:=c.b }:Cur) 4 8) with b:=c.b }:Cur) 4 8) with b:=c.b }:Cur) 100) with b:=c.b }:Cur) 4) with b:=c.b }:Cur)).Post,(zcy ({ (zf ({ (zf ({ (zJ ({ (zJ ({ (zY c) with b:=c.b }:Cur) 4 8) with b:=c.b }:Cur) 4 8) with b:=c.b }:Cur) 100) with b:=c.b }:Cur) 4) with b:=c.b }:Cur)).Open,(zco (zb1 c)).Pending,(zb6 ({ (zN ({ (zN ({ (zcf ({ (zf ({ (zf ({ (zJ ({ (zJ ({ (zY c) with b:=c.b }:Cur) 4 8) with b:=c.b }:Cur) 4 8) with b:=c.b }:Cur) 100) with b:=c.b }:Cur) 4) with b:=c.b }:Cur)) with b:=c.b }:Cur) 3) with b:=c.b }:Cur) 4) with b:=c.b }:Cur)).Kind,(zb6 ({ (zN ({ (zN ({ (zcf ({ (zf ({ (zf ({ (zJ ({ (zJ ({ (zY c) with b:=c.b }:Cur) 4 8) with b:=c.b }:Cur) 4 8) with b:=c.b }:Cur) 100) with b:=c.b }:Cur) 4) with b:=c.b }:Cur)) with b:=c.b }:Cur) 3) with b:=c.b }:Cur) 4) with b:=c.b }:Cur)).Page,(zb6 ({ (zN ({ (zN ({ (zcf ({ (zf ({ (zf ({ (zJ ({ (zJ ({ (zY c) with b:=c.b }:Cur) 4 8) with b:=c.b }:Cur) 4 8) with b:=c.b }:Cur) 100) with b:=c.b }:Cur) 4) with b:=c.b }:Cur)) with b:=c.b }:Cur) 3) with b:=c.b }:Cur) 4) with b:=c.b }:Cur)).Write,(zb6 ({ (zN ({ (zN ({ (zcf ({ (zf ({ (zf ({ (zJ ({ (zJ ({ (zY c) with b:=c.b }:Cur) 4 8) with b:=c.b }:Cur) 4 8) with b:=c.b }:Cur) 100) with b:=c.b }:Cur) 4) with b:=c.b }:Cur)) with b:=c.b }:Cur) 3) with b:=c.b }:Cur) 4) with b:=c.b }:Cur)).N,(zcT ({ (zea ({ (zN ({ (zN ({ (zcf ({ (zf ({ (zf ({ (zJ ({ (zJ ({ (zY c) with b:=c.b }:Cur) 4 8) with b:=c.b }:Cur) 4 8) with b:=c.b }:Cur) 100) with b:=c.b }:Cur) 4) with b:=c.b }:Cur)) with b:=c.b }:Cur) 3) with b:=c.b }:Cur) 4) with b:=c.b }:Cur)) with b:=c.b }:Cur) 12),c.b,[],[],[],[],(zco (zb1 c)).Prog,(zdl ({ (zY c) with b:=c.b }:Cur) 4 8),(zdl ({ (zJ ({ (zY c) with b:=c.b }:Cur) 4 8) with b:=c.b }:Cur) 4 8),t.2.2.2,())):Nat->Int×Int×Int×List Int->_)
   (fun rec t i k l=>⟨_,rfl,fun a _=>⟨⟨_,_,_⟩,_,rfl,⟨rfl,zF _ _⟩,⟨⟨d.1,zFy (q (zit _)),zFy (q (zhs _ _ _)),by unfold ln at a;dsimp only;omega⟩,by unfold ln at a;dsimp only;omega⟩⟩⟩)
 .exact zFP h (zcj _ _) (P:=fun _=>True) (q:=4) (by omega) (by omega) (fc:=fun c=>zx c 100) (fs:=fun c=>zf c 100) (fv:=fun c=>zk c 100) (fun h=>zbz h _) (fun c=>zF c _) (fun _=>trivial) (z:=0) (l0:=(zco (zb1 c)).Seen) (qW 0) (by omega) (by simp) ((fun _ t=>(t.1,t.2.1,t.2.2.1,0,0,0,0,false,0,0,0,false,0,false,(zk ({ (zJ ({ (zJ ({ (zY c) with b:=c.b }:Cur) 4 8) with b:=c.b }:Cur) 4 8) with b:=c.b }:Cur) 100),(zk ({ (zf ({ (zJ ({ (zJ ({ (zY c) with b:=c.b }:Cur) 4 8) with b:=c.b }:Cur) 4 8) with b:=c.b }:Cur) 100) with b:=c.b }:Cur) 4),(zcy ({ (zf ({ (zf ({ (zJ ({ (zJ ({ (zY c) with b:=c.b }:Cur) 4 8) with b:=c.b }:Cur) 4 8) with b:=c.b }:Cur) 100) with b:=c.b }:Cur) 4) with b:=c.b }:Cur)).Traps,(zcy ({ (zf ({ (zf ({ (zJ ({ (zJ ({ (zY c) with b:=c.b }:Cur) 4 8) with b:=c.b }:Cur) 4 8) with b:=c.b }:Cur) 100) with b:=c.b }:Cur) 4) with b:=c.b }:Cur)).Post,(zcy ({ (zf ({ (zf ({ (zJ ({ (zJ ({ (zY c) with b:=c.b }:Cur) 4 8) with b:=c.b }:Cur) 4 8) with b:=c.b }:Cur) 100) with b:=c.b }:Cur) 4) with b:=c.b }:Cur)).Open,(zco (zb1 c)).Pending,(zco (zb1 c)).Exit.Kind,(zco (zb1 c)).Exit.Page,(zco (zb1 c)).Exit.Write,(zco (zb1 c)).Exit.N,(zcT ({ (zN ({ (zN ({ (zcf ({ (zf ({ (zf ({ (zJ ({ (zJ ({ (zY c) with b:=c.b }:Cur) 4 8) with b:=c.b }:Cur) 4 8) with b:=c.b }:Cur) 100) with b:=c.b }:Cur) 4) with b:=c.b }:Cur)) with b:=c.b }:Cur) 3) with b:=c.b }:Cur) 4) with b:=c.b }:Cur) 12),c.b,[],[],[],[],(zco (zb1 c)).Prog,(zdl ({ (zY c) with b:=c.b }:Cur) 4 8),(zdl ({ (zJ ({ (zY c) with b:=c.b }:Cur) 4 8) with b:=c.b }:Cur) 4 8),t.2.2.2,())):Nat->Int×Int×Int×List Int->_)
   (fun rec t i k l=>⟨_,rfl,fun a _=>⟨⟨_,_,_⟩,_,rfl,⟨rfl,zF _ _⟩,⟨⟨d.1,zFy (q (zit _)),zFy (q (zhs _ _ _)),by unfold ln at a;dsimp only;omega⟩,by unfold ln at a;dsimp only;omega⟩⟩⟩)
def z9Q:zcL:=[(246,([false,true,true],zwl))]++z9P
theorem zKk:zb3 z9Q:=zcq zWH (by
 intro x a;simp only[qG,qN,or_false]at a;rcases a with rfl
 .exact zJK)
def zzT (N:Nat)(c:Cur)  : OA :=
 let e:=(zb5 c);let B:=({ (ziY c) with b:=c.b}:Cur);let f:=(zf B 14);let j:=(zk B 14);let d:=({f with b:=c.b}:Cur);let g:=(zgj d 4 8);let p:=(zU d [(-1),12,13,9223372036854775807]); (oN (zlk c) (oN (zx B 14) (cond (ieq j 0) (oN (ziW d) (some [(.agg [(.s .u8 c.b),(.i .i64 (ziX d).i),(.i .i64 (ziX d).h)]),(aT .guest ({e with Prog:=(zpp d)}:Guest))])) (cond (ieq j 1) (oN (zbl d [(-1),100]) (some [(.agg [(.s .u8 c.b),(.i .i64 (zU d [(-1),100]).i),(.i .i64 (zU d [(-1),100]).h)]),(aT .guest ({e with A:=(zbg d [(-1),100])}:Guest))])) (cond (ieq j 2) (oN (zbl d [(-1),12,13,9223372036854775807]) (some [(.agg [(.s .u8 c.b),(.i .i64 p.i),(.i .i64 p.h)]),(aT .guest ({e with Pc:=(zbg d [(-1),12,13,9223372036854775807])}:Guest))])) (cond (ieq j 3) (oN (zfk d 4 8) (some [(.agg [(.s .u8 c.b),(.i .i64 g.i),(.i .i64 g.h)]),(aT .guest ({e with Live:=(zeC d 4 8)}:Guest))])) (cond (ieq j 4) (oN (zpr d) (some [(.agg [(.s .u8 c.b),(.i .i64 (zps d).i),(.i .i64 (zps d).h)]),(aT .guest ({e with Ctl:=(zA1 d)}:Guest))])) (cond (ieq j 5) (oN (zmU d) (some [(.agg [(.s .u8 c.b),(.i .i64 (zmV d).i),(.i .i64 (zmV d).h)]),(aT .guest ({e with Pending:=(zw9 d)}:Guest))])) (cond (ieq j 6) (oN (zpt d) (some [(.agg [(.s .u8 c.b),(.i .i64 (zpu d).i),(.i .i64 (zpu d).h)]),(aT .guest ({e with Exit:=(zA3 d)}:Guest))])) (cond (ieq j 7) (iter (σ:=(Int×(Int×(Int×(Int×(Int×(Int×(Bool×(Int×(Int×(Int×(Bool×(Int×(Bool×(Int×(Int×(Int×(Int×(Bool×(Int×(Int×(Int×(Bool×(Int×(Bool×((List Int)×(lI×(lS×(lS×((List Int)×(lI×(lS×(lS×((List Int)×Unit)))))))))))))))))))))))))))))))))) N (fun G a=>let y:=a.2.2.2.2.2.2.2.2.2.2.2.2.2.1;let x:=a.2.2.2.2.2.2.2.2.2.2.2.2.2.2.1;let w:=a.2.2.2.2.2.2.2.2.2.2.2.2.2.2.2.1;let v:=a.2.2.2.2.2.2.2.2.2.2.2.2.2.2.2.2.1;let u:=a.2.2.2.2.2.2.2.2.2.2.2.2.2.2.2.2.2.1;let t:=a.2.2.2.2.2.2.2.2.2.2.2.2.2.2.2.2.2.2.1;let r:=a.2.2.2.2.2.2.2.2.2.2.2.2.2.2.2.2.2.2.2.1;let q:=a.2.2.2.2.2.2.2.2.2.2.2.2.2.2.2.2.2.2.2.2.1;let n:=a.2.2.2.2.2.2.2.2.2.2.2.2.2.2.2.2.2.2.2.2.2.1;let m:=a.2.2.2.2.2.2.2.2.2.2.2.2.2.2.2.2.2.2.2.2.2.2.1;let l:=a.2.2.2.2.2.2.2.2.2.2.2.2.2.2.2.2.2.2.2.2.2.2.2.1;let F:=a.2.2.2.2.2.2.2.2.2.2.2.2.2.2.2.2.2.2.2.2.2.2.2.2.2.2.2.2.2.1;let E:=a.2.2.2.2.2.2.2.2.2.2.2.2.2.2.2.2.2.2.2.2.2.2.2.2.2.2.2.2.2.2.1;let D:=a.2.2.2.2.2.2.2.2.2.2.2.2.2.2.2.2.2.2.2.2.2.2.2.2.2.2.2.2.2.2.2.1;let C:=a.2.2.2.2.2.2.2.2.2.2.2.2.2.2.2.2.2.2.2.2.2.2.2.2.1;let z:=a.2.2.2.2.2.2.2.2.2.2.2.2.2.2.2.2.2.2.2.2.2.2.2.2.2.2.2.2.2.2.2.2.1;let k:=(⟨C,a.1,a.2.1⟩:Cur); (oN (zx k 3) (cond (ilt (ln z) (zM .i64 39 (zk k 3))) (oN (few (ln (ap z [1]))) (G ((zf k 3).i,((zf k 3).h,(a.2.2.1,(a.2.2.2.1,(a.2.2.2.2.1,(a.2.2.2.2.2.1,(a.2.2.2.2.2.2.1,(a.2.2.2.2.2.2.2.1,(a.2.2.2.2.2.2.2.2.1,(a.2.2.2.2.2.2.2.2.2.1,(a.2.2.2.2.2.2.2.2.2.2.1,(a.2.2.2.2.2.2.2.2.2.2.2.1,(a.2.2.2.2.2.2.2.2.2.2.2.2.1,(y,(x,(w,(v,(u,(t,(r,(q,(n,(m,(l,(C,(a.2.2.2.2.2.2.2.2.2.2.2.2.2.2.2.2.2.2.2.2.2.2.2.2.2.1,(a.2.2.2.2.2.2.2.2.2.2.2.2.2.2.2.2.2.2.2.2.2.2.2.2.2.2.1,(a.2.2.2.2.2.2.2.2.2.2.2.2.2.2.2.2.2.2.2.2.2.2.2.2.2.2.2.1,(a.2.2.2.2.2.2.2.2.2.2.2.2.2.2.2.2.2.2.2.2.2.2.2.2.2.2.2.2.1,(F,(E,(D,((ap z [1]),()))))))))))))))))))))))))))))))))))) (some [(.agg [(.s .u8 C),(.i .i64 (zf k 3).i),(.i .i64 (zf k 3).h)]),(aT .guest (⟨F,y,x,E,D,⟨w,v,u⟩,t,⟨r,q,n,m⟩,l,z⟩:Guest))])))) (f.i,(f.h,(0,(0,(0,(0,(false,(0,(0,(0,(false,(0,(false,(e.A,(e.Pc,(e.Ctl.Traps,(e.Ctl.Post,(e.Ctl.Open,(e.Pending,(e.Exit.Kind,(e.Exit.Page,(e.Exit.Write,(e.Exit.N,(e.Halted,(c.b,([],([],([],([],(e.Prog,(e.Written,(e.Live,(e.Seen,())))))))))))))))))))))))))))))))))) (cond (ieq j 8) (oN (zfk d 4 8) (some [(.agg [(.s .u8 c.b),(.i .i64 g.i),(.i .i64 g.h)]),(aT .guest ({e with Written:=(zeC d 4 8)}:Guest))])) (some [(.agg [(.s .u8 c.b),(.i .i64 f.i),(.i .i64 f.h)]),(aT .guest e)]))))))))))))
def zXM:FuncId->Nat->Option Tmpl:=zq [(153,1,{n:=65,tm:=[(0,.lp 0 0),(2,.lp 1 0),(3,.lp 2 0)],lo:=[(0,[.sl 0 [],ti,ti]),(1,[.sl 1 [],ti,ti,.sl 2 [],.sl 3 [],ti,ti,.b,ti,ti,ti,.b,ti,.b,.sl 4 []]),(2,[.sl 5 [],ti,ti,.sl 6 [],.sl 7 [],ti,ti,.b,ti,ti,ti,.b,ti,.b,.sl 8 []])],ro:=[(0,.u8,false),(1,.ins,true),(2,.slot,true),(3,.slot,true),(4,.int,true),(5,.ins,true),(6,.slot,true),(7,.slot,true),(8,.int,true)]})]
def zrH (c:Cur)(s:Cur)(a:Guest):Prop:=(∃N,zzT N c=some (AV.agg (zbT s)::[aT .guest a]))/\(s.b=c.b/\0<=s.i)/\(GuS a)
def zpx (c:Cur)  : Bool:=wC (zrH c)
def zpy (c:Cur)  : Cur:=wS (zrH c)
def zA4 (c:Cur)  : Guest:=wV (zrH c)
theorem zNP {c:Cur}(h:zpx c=true):zrH c (zpy c) (zA4 c):=wG h
theorem z2p (c:Cur)  : 0<=(zpy c).i:=wP fun h=>h.2.1.2
theorem z2o (c:Cur)(h:∃N,Ends (wE (fun a=>aT .guest a) c.b fun a=>GuS a) (zzT N c)):zpx c=true:=wI (fun _ _ h=>h) h
def zBR:zdn:=rP0 fun c=>(zpx c,zpy c,[aT .guest (zA4 c)])
theorem zPv:zbK Tryz.prog 153 [false,true,true] zBR:=hP0 zIZ zW zKk zn zXM (fun _ h=>(zNP h).1)
theorem zLx {c:Cur}(h:zbc c):zpx c=true:=by
 refine z2o c ⟨1002,?_⟩;unfold zzT oN;conv=>zeta
 have q:∀{s:Cur},0<=s.i->zbc {s with b:=c.b}:=fun r=>zbL h r;have a:zbc {zf {ziY c with b:=c.b} 14 with b:=c.b}:=q (zF _ _);obtain⟨⟨d,e,f,g⟩,w⟩:=(zFo (zUY h)).2.2;have p:(zeC {zf {ziY c with b:=c.b} 14 with b:=c.b} 4 8).length<=4:=by have:=((zpg (zn6 a (n:=4) (by omega) (by omega) 8)).2.2 (by omega) (by omega)).1;unfold ln at this;omega
 have j:=(zzB (zRw a)).2.2;refine zu (zUY h) (zu (zbz (q (zW5 _)) _) (zbA (fun _=>zu (zRw a) (zbE (aT .guest) (v:={zb5 c with Prog:=zpp _}) (zQI _) ⟨j,e,f,g⟩))
  (fun _=>zbA (fun _=>zu (zdW a (by simp)) (zbE (aT .guest) (v:={zb5 c with A:=zbg _ _}) (zbJ _ _) ⟨d,e,f,g⟩))
  (fun _=>zbA (fun _=>zu (zdW a (by simp)) (zbE (aT .guest) (v:={zb5 c with Pc:=zbg _ _}) (zbJ _ _) ⟨d,e,f,g⟩))
  (fun _=>zbA (fun _=>zu (zn6 a (by omega) (by omega) _) (zbE (aT .guest) (v:={zb5 c with Live:=zeC _ _ _}) (zph _ _ _) ⟨d,e,p,g⟩))
  (fun _=>zbA (fun _=>zu (z5U a) (zbE (aT .guest) (v:={zb5 c with Ctl:=zA1 _}) (z2h _) ⟨d,e,f,g⟩))
  (fun _=>zbA (fun _=>zu (zbcs a) (zbE (aT .guest) (v:={zb5 c with Pending:=zw9 _}) (zZf _) ⟨d,e,f,g⟩))
  (fun _=>zbA (fun _=>zu (z2X a) (zbE (aT .guest) (v:={zb5 c with Exit:=zA3 _}) (z2m _) ⟨d,e,f,g⟩))
  (fun _=>zbA (fun _=>?_)
  (fun _=>zbA (fun _=>zu (zn6 a (by omega) (by omega) _) (zbE (aT .guest) (v:={zb5 c with Written:=zeC _ _ _}) (zph _ _ _) ⟨d,p,f,g⟩))
  (fun _=>zbE (aT .guest) (v:=zb5 c) (zF _ _) ⟨d,e,f,g⟩)))))))))))
 exact zbcb h (zF _ _) (m:=39) (q:=3) (x:=1) (by omega) (by omega) (by omega) (l0:=(zb5 c).Seen) (by unfold ln;omega) ((fun _ t=>(t.1,t.2.1,0,0,0,0,false,0,0,0,false,0,false,(zb5 c).A,(zb5 c).Pc,(zb5 c).Ctl.Traps,(zb5 c).Ctl.Post,(zb5 c).Ctl.Open,(zb5 c).Pending,(zb5 c).Exit.Kind,(zb5 c).Exit.Page,(zb5 c).Exit.Write,(zb5 c).Exit.N,(zb5 c).Halted,c.b,[],[],[],[],(zb5 c).Prog,(zb5 c).Written,(zb5 c).Live,t.2.2,())):Nat->Int×Int×List Int->_)
  (fun rec i k l=>⟨_,rfl,fun u=>⟨⟨_,_,_⟩,_,rfl,⟨rfl,zF _ _⟩,⟨d,e,f,by unfold ln at u;dsimp only;omega⟩⟩⟩)
theorem zbbe (b:List Entry)(e:Entry)(h:b.length<=1048576):(zqe b e).length<=6:=by have c:=(zAP e h).2;unfold zqe;generalize ap (zcg b e.Tag e.Page) [e]=l at c;cases a:igt (ln l) 6 with|false=>have:¬ ln l>6:=jU a;rw[cF];unfold ln at this;omega|true=>rw[cT,zzM (by unfold ln;omega) (by unfold ln;omega)];have:ln l>6:=qE a;simp only[dp,vK];unfold ln at *;omega
def zsr (N:Nat)(c:Cur)  : OA :=
 (iter (σ:=(Int×(Int×(Int×(lE×((List Int)×Unit)))))) N (fun l d=>let e:=d.2.2.2.2.1;let j:=(⟨e,d.2.1,d.2.2.1⟩:Cur);let a:=({ (zf j 9) with b:=e}:Cur);let g:=({ (zN a 8) with b:=e}:Cur);let f:=({ (zgc g) with b:=e}:Cur);let k:=(ap d.2.2.2.1 [(zmb g),(zmb f)]); (oN (zx j 9) (cond (ilt d.1 (zk j 9)) (oN (zht a) (oN (zle d.2.2.2.1 (zmb a)) (l ((zM .i64 d.1 1),((zgc a).i,((zgc a).h,((zl5 d.2.2.2.1 (zmb a)),(e,())))))))) (oN (zcI a 8) (cond (zcT a 8) (oN (zht g) (oN (zht f) (oN (few (ln k)) (some [(.agg [(.s .u8 e),(.i .i64 (zgc f).i),(.i .i64 (zgc f).h)]),(aS .entry k)])))) (some [(.agg [(.s .u8 e),(.i .i64 (zN a 8).i),(.i .i64 (zN a 8).h)]),(aS .entry d.2.2.2.1)])))))) (0,(c.i,(c.h,([],(c.b,()))))))
def zOo:FuncId->Nat->Option Tmpl:=zq [(154,0,{n:=26,tm:=[(0,.lp 0 0),(3,.sl 0 []),(4,ti)],lo:=[(0,[.sl 1 [],ti,ti])],ro:=[(0,.entry,true),(1,.u8,false)]})]
def zma (c:Cur)(s:Cur)(a:List Entry):Prop:=(∃N,zsr N c=some (AV.agg (zbT s)::[aS .entry a]))/\(s.b=c.b/\0<=s.i)/\(a.length<=8)
def zj1 (c:Cur)  : Bool:=wC (zma c)
def zj2 (c:Cur)  : Cur:=wS (zma c)
def zrB (c:Cur)  : List Entry:=wV (zma c)
theorem zCx {c:Cur}(h:zj1 c=true):zma c (zj2 c) (zrB c):=wG h
theorem zTJ (c:Cur)  : 0<=(zj2 c).i:=wP fun h=>h.2.1.2
theorem zTI (c:Cur)(h:∃N,Ends (wE (fun a=>aS .entry a) c.b fun a=>a.length<=8) (zsr N c)):zj1 c=true:=wI (fun _ _ h=>h) h
def zuV:zdn:=rP0 fun c=>(zj1 c,zj2 c,[aS .entry (zrB c)])
theorem zGJ:zbK Tryz.prog 154 [false,true,true] zuV:=hP0 zIZ zW zKk zn zOo (fun _ h=>(zCx h).1)
theorem zUy {c:Cur}(h:zbc c):zj1 c=true:=by
 refine zTI c ⟨1002,?_⟩;unfold zsr oN;conv=>zeta
 refine zms (fun n s=>∃t i k l,s=(((fun _ t=>(t.1,t.2.1,t.2.2.1,t.2.2.2,c.b,())):Nat->Int×Int×Int×List Entry->_) 0 (t,i,k,l))/\t+(n:Int)=10/\0<=t/\0<=i/\l.length<=6) ?_ 1002 10 _ ⟨0,c.i,c.h,[],rfl,rfl,kS 0,h.1,by simp⟩ (by omega);rintro n s rec ⟨t,i,k,l,rfl,p,g,j,r⟩ d;dsimp only;have a:zbc ⟨c.b,i,k⟩:=zbL h j;have v:=zfC a (n:=9) (by omega);have q:∀{s:Cur},0<=s.i->zbc {s with b:=c.b}:=fun f=>zbL h f;refine zu (zbz a 9) (zbA (fun e=>?_) (fun e=>?_));{have m:t<zk ⟨c.b,i,k⟩ 9:=qE e;have u:=zg3 (y:=1) g (by omega) (by omega) (by omega);exact zu (zOE (q (zF _ _))) (zu (zbh (by omega)) (d (n-1) _ (by omega) ⟨zM .i64 t 1,_,_,_,rfl,by omega,by omega,zvo _,zbbe _ _ (by omega)⟩))};{refine zu (ziN (q (zF _ _)) 8) (zbA (fun _=>zu (zOE (q (zcj _ _))) (zu (zOE (q (zvo _))) (zu (zkL ?_) (zbE (aS .entry) (zvo _) ?_)))) (fun _=>zbE (aS .entry) (zcj _ _) (by omega)));{simp only [ln,ap,kD,q0,uK];omega};{simp only [ap,kD,q0,uK];omega}}
def z9R:zcL:=[(153,([false,true,true],zBR)),(154,([false,true,true],zuV))]++z9Q
theorem zWI:zb3 z9R:=zcq zKk (by
 intro x a;simp only[qG,qN,or_false]at a;rcases a with rfl|rfl
 .exact zPv
 .exact zGJ)
def zLy (b:Bare)(a:GAct):Bare:=bif ieq a.Kind 1 then zic b a.G else (cond (ieq a.Kind 2) (chg b a.G (zs3 a.X ⟨a.Y,a.Z⟩) (zA9 (gAt b a.G) a.X ⟨a.Y,a.Z⟩)) (cond (ieq a.Kind 3) (chg b a.G (hasB a.X 4) (zde (gAt b a.G) a.X)) (cond (ieq a.Kind 4) (chg b a.G (zsw (gAt b a.G) a.X) (zxx (gAt b a.G) a.X)) (cond (ieq a.Kind 5) (chg b a.G (zxK (gAt b a.G)) (zxL (gAt b a.G))) (cond (ieq a.Kind 6) (chg b a.G (zf7 (gAt b a.G).Pending a.X) (znu (gAt b a.G) a.X)) (cond (ieq a.Kind 7) (chg b a.G (zhv ⟨a.X,a.Y,ieq a.Z 1⟩) (zIV (gAt b a.G) ⟨a.X,a.Y,ieq a.Z 1⟩)) (cond (ieq a.Kind 8) (zm8 b a.X a.Y a.Z) (cond (ieq a.Kind 9) (zjy b a.X) (cond (ieq a.Kind 10) (zmi b) (cond (ieq a.Kind 11) (z09 b a.G a.X a.Y) (b)))))))))))
def zLz (b:Bare)(a:GAct):Told:=bif ieq a.Kind 1 then ⟨zlv b a.G,0⟩ else (cond (ieq a.Kind 2) ⟨zbS b a.G (zs3 a.X ⟨a.Y,a.Z⟩),0⟩ (cond (ieq a.Kind 3) ⟨zbS b a.G (hasB a.X 4),0⟩ (cond (ieq a.Kind 4) ⟨zbS b a.G (zsw (gAt b a.G) a.X),0⟩ (cond (ieq a.Kind 5) ⟨zbS b a.G (zxK (gAt b a.G)),0⟩ (cond (ieq a.Kind 6) ⟨zbS b a.G (zf7 (gAt b a.G).Pending a.X),0⟩ (cond (ieq a.Kind 7) ⟨zbS b a.G (zhv ⟨a.X,a.Y,ieq a.Z 1⟩),0⟩ (cond (ieq a.Kind 8) ⟨ziO b a.X a.Y a.Z,0⟩ (cond (ieq a.Kind 9) ⟨zeN b a.X,0⟩ (cond (ieq a.Kind 10) ⟨zls b,zsv b⟩ (cond (ieq a.Kind 11) ⟨zAd b a.G a.X a.Y,0⟩ (⟨zoc b a.G a.X 1,zUc b a.G a.X⟩)))))))))))
def zLA (l:List Bare)(a:GAct):List Bare:=bif win a.Kind 1 17 then (cond (win a.Kind 13 17) l (cond (hasB a.M (ln l)) (up l a.M (zLy (ix l a.M zXZ) a)) l)) else l
def z0I (l:List Bare)(a:GAct):Told:=bif win a.Kind 1 17 then (cond (win a.Kind 13 17) ⟨false,0⟩ (cond (hasB a.M (ln l)) (zLz (ix l a.M zXZ) a) (cond (ieq a.Kind 10) ⟨false,-1⟩ ⟨false,0⟩))) else ⟨false,0⟩
theorem zI {i n:Int}:hasB i n=true↔0<=i/\i<n:=by unfold hasB;exact decide_eq_true_iff
theorem zcJ {x a b:Int}:win x a b=true↔a<=x/\x<=b:=by simp[win,ige,ile]
theorem zbq {x y:Int}:ieq x y=true↔x=y:=by simp[ieq]
theorem ztX {x y:Int}:ine x y=true↔x≠y:=by simp[ine]
theorem zbX {x y:Int}:ieq x y=false↔x≠y:=by simp[ieq]
theorem zbY {a b:Bool}:(cond a b false)=true↔a=true/\b=true:=by cases a<;>simp
theorem zbO {a:Type}(l:List a)(i:Int)(x:a):(up l i x).length=l.length:=by simp[up]
theorem zc5 {a:Type}(l:List a)(i:Int)(x:a):ln (up l i x)=ln l:=by simp[up,ln]
theorem zAB {a:Type}{l:List a}{i:Int}(h:hasB i (ln l)=true)(d:a):∃k:Nat,∃b:k<l.length,i=(k:Int)/\ix l i d=l[k]:=by rw[zI]at h;unfold ln at h;refine⟨i.toNat,by omega,by omega,?_⟩;simp[ix,List.getD,qB (show i.toNat<l.length by omega)]
theorem zmz {a:Type}{l:List a}{k:Nat}(h:k<l.length)(d:a):ix l (k:Int) d=l[k]:=by simp[ix,List.getD,qB h]
theorem zlI {a:Type}{l:List a}{i:Int}(h:hasB i (ln l)=true)(d:a):ix l i d∈l:=by obtain⟨k,b,_,e⟩:=zAB h d;rw[e];exact jL b
theorem zEn {a:Type}{l:List a}{x:a}(h:x∈l)(d:a):∃i,hasB i (ln l)=true/\ix l i d=x:=by obtain⟨k,b,e⟩:=List.mem_iff_getElem.1 h;exact⟨(k:Int),zI.2 (by unfold ln;omega),(zmz b d).trans e⟩
theorem zbe {a:Type}{l:List a}{i:Int}(h:hasB i (ln l)=true)(x d:a):ix (up l i x) i d=x:=by rw[zI]at h;unfold ln at h;simp[ix,up,List.getD,show i.toNat<l.length by omega]
theorem zbs {a:Type}{l:List a}{i j:Int}(b:0<=i)(c:0<=j)(h:i≠j)(x d:a):ix (up l i x) j d=ix l j d:=by have:i.toNat≠j.toNat:=(by omega);simp[ix,up,List.getD,q9,this]
theorem z5M {a:Type}(l:List a)(i:Int)(x y:a):up (up l i x) i y=up l i y:=by simp[up]
theorem zQk {a:Type}{l m:List a}(d:a)(h:l.length=m.length)(e:∀i,hasB i (ln l)=true->ix l i d=ix m i d):l=m:=by refine List.ext_getElem h fun k b c=>?_;have:=e (k:Int) (zI.2 (by unfold ln;omega));rwa [zmz b,zmz c] at this
theorem zKI {a:Type}{l:List a}{i:Int}(h:hasB i (ln l)=true)(d:a):up l i (ix l i d)=l:=by obtain⟨k,b,rfl,e⟩:=zAB h d;rw[e];simp[up]
def cPg (x:Mon)(q:Int):Nat:=x.Outer.countP fun s=>ieq s.Page q
def zeR (l:List Mon)(q:Int):Nat:=(l.map fun x=>cPg x q).sum
theorem zRD {a:Type}(P:a->Bool){l:List a}{i:Int}(h:hasB i (ln l)=true)(x d:a):(up l i x).countP P+(if P (ix l i d) then 1 else 0)=l.countP P+(if P x then 1 else 0):=by
 obtain⟨k,b,rfl,e⟩:=zAB h d;rw[e];simp only[up,kH,List.countP_set b];have:(if P l[k]=true then 1 else 0)<=l.countP P:=by
  split
  .rename_i hp;exact List.countP_pos_iff.2 ⟨l[k],jL b,hp⟩
  .omega
 omega
theorem zzF {l:List Mon}{m:Int}(h:hasB m (ln l)=true)(x:Mon)(q:Int):zeR (up l m x) q+cPg (ix l m mZ) q=zeR l q+cPg x q:=by obtain⟨k,a,rfl,e⟩:=zAB h mZ;rw[e];clear h e;unfold up;simp only[kH];induction l generalizing k with|nil=>simp at a|cons y l b=>(cases k with|zero=>simp[zeR];omega|succ k=>have:=b k (by simpa using a);simp[zeR] at this ⊢;omega)
theorem zIR {l:List Mon}{m p:Int}(a:hasB m (ln l)=true)(b:hasB p (ln (ix l m mZ).Outer)=true):1<=zeR l (ix (ix l m mZ).Outer p sZ).Page:=by have d:1<=cPg (ix l m mZ) (ix (ix l m mZ).Outer p sZ).Page:=List.countP_pos_iff.2 ⟨_,zlI b sZ,by simp[ieq]⟩;have:=zzF a (⟨[],[],[],[],[],0,0,[],0⟩:Mon) (ix (ix l m mZ).Outer p sZ).Page;have c:cPg (⟨[],[],[],[],[],0,0,[],0⟩:Mon) (ix (ix l m mZ).Outer p sZ).Page=0:=rfl;omega
theorem z5Z {l:List Mon}{m p n k:Int}{q:Int}(b:hasB m (ln l)=true)(v:hasB p (ln (ix l m mZ).Outer)=true)(u:hasB n (ln l)=true)(f:hasB k (ln (ix l n mZ).Outer)=true)(z:(ix (ix l m mZ).Outer p sZ).Page=q)(t:(ix (ix l n mZ).Outer k sZ).Page=q)(h:zeR l q<=1):m=n/\p=k:=by have c:=zI.1 b;have d:=zI.1 u;have i:=zI.1 v;have g:=zI.1 f;have B:¬ ieq q (q+1)=true:=(by simp[ieq];omega);obtain⟨y,r⟩:∃y:Mon,y.Outer=up (ix l m mZ).Outer p ⟨q+1,0⟩:=⟨{ix l m mZ with Outer:=up (ix l m mZ).Outer p ⟨q+1,0⟩},rfl⟩;have x:=zRD (fun s=>ieq s.Page q) v (⟨q+1,0⟩:Slot) sZ;simp only[z,show ieq q q=true by simp[ieq],show ieq (q+1) q=false by simp[ieq];omega,if_true,kE,if_false] at x;have C:=zzF b y q;simp only[cPg,r] at C;have D:zeR (up l m y) q=0:=(by omega);apply Classical.byContradiction;intro A;have w:1<=zeR (up l m y) q:=(by by_cases a:m=n;{subst a;have j:p≠k:=fun e=>A ⟨rfl,e⟩;have:=zIR (l:=up l m y) (m:=m) (p:=k) (by rw[zc5];exact b) (by rw[zbe b,r,zc5];exact f);rw[zbe b,r,zbs i.1 g.1 j,t] at this;exact this};{have:=zIR (l:=up l m y) (m:=n) (p:=k) (by rw[zc5];exact u) (by rw[zbs c.1 d.1 a];exact f);rw[zbs c.1 d.1 a,t] at this;exact this});omega
theorem zui {a b c:Bool}:(cond a b c)=true↔(a=true/\b=true)\/(a=false/\c=true):=by cases a<;>simp
def SOk (s:Slot):Prop:=s=noSlot\/(0<=s.Page/\s.Page<=11/\1<=s.Rights/\s.Rights<=3)
theorem zXd {a b:Slot}(c:a.Page=b.Page)(d:a.Rights=b.Rights):a=b:=by cases a;cases b;simp_all
theorem zpF {a b:Slot}:zcU a b=true↔a=b:=by simp only[zcU,qD,zbq];exact⟨fun h=>zXd h.1 h.2,fun h=>by rw[h];exact⟨rfl,rfl⟩⟩
theorem zsm {a b:Slot}:zcU a b=false↔a≠b:=by rw[<- Bool.not_eq_true,zpF]
theorem z0g {s:Slot}:zdD s 12=true↔SOk s:=by unfold zdD SOk;rw[zui,zpF,zsm];have:wsub .i64 12 1=11:=(by decide);simp only[this,zui,zcJ];simp[igt];constructor;{rintro (h|⟨h,⟨a,b⟩,c⟩);{exact .inl h};{exact .inr ⟨a,b,c⟩}};{intro h;by_cases d:s=noSlot;{exact .inl d};{rcases h with h|⟨a,b,c⟩;{exact .inl h};{exact .inr ⟨d,⟨a,b⟩,c⟩}}}
theorem SOk.none {s:Slot}(h:SOk s)(a:s.Page = -1):s=noSlot:=by rcases h with h|h;{exact h};{omega}
theorem SOk.pos {s:Slot}(h:SOk s)(a:s.Page≠-1):0<=s.Page/\s.Page<=11/\1<=s.Rights/\s.Rights<=3:=by rcases h with h|h;{rw [h]at a;exact absurd rfl a};{exact h}
structure MOk (x:Mon):Prop where
 g1:1<=x.Guests.length
 g2:x.Guests.length<=2
 gt:x.Tables.length=x.Guests.length
 o8:x.Outer.length=8
 sl:∀s∈x.Outer,SOk s
 u8:x.Out.length=8
 d8:x.Dirty.length=8
 outs:x.Outs.length<=40
 pend:zc6 x.Pending=true
 tr:win x.Traps 0 3=true
 own:win x.Own 0 1000000000=true
 gs:∀g∈x.Guests,zc4 g=true
 fit:∀p,hasB p 8=true->zlN (ix x.Outer p sZ) (ix x.Out p [])=true
theorem zUs {P:Nat->Bool}:∀{n i:Nat},zn5 P n i=true↔∀j,i<=j->j<i+n->P j=true
 | 0,i=>by simp[zn5];intro j a b;omega
 |n+1,i=>by rw[zn5,qD,zUs];constructor;{rintro⟨a,b⟩ j c d;by_cases e:j=i;{rw [e];exact a};{exact b j (by omega) (by omega)}};{intro h;exact⟨h i (by omega) (by omega),fun j a b=>h j (by omega) (by omega)⟩}
theorem zrN {t:List Slot}{n p:Int}:zcS t n p=true↔(∀s∈t,zdD s p=true)/\ln t=n:=by unfold zcS;rw[zbY,qM,zbq]
theorem zbaZ {x:Mon}:zdY x=true↔MOk x:=by unfold zdY;simp only[zbY,zcJ,zbq,zrN,zUs,qM,ile,qX];constructor;{rintro⟨⟨g,i⟩,m,⟨k,l⟩,n,q,r,e,a,b,c,d⟩;unfold ln at *;refine⟨by omega,by omega,by omega,by omega,fun s f=>z0g.1 (k s f),by omega,by omega,by omega,e,zcJ.2 a,zcJ.2 b,c,fun p t=>?_⟩;have u:=zI.1 t;have:=d p.toNat (by omega) (by omega);unfold fits at this;rwa [show ((p.toNat:Nat):Int)=p by omega] at this};{intro h;obtain⟨g,i,m,k,l,n,q,r,e,a,b,c,d⟩:=h;unfold ln;exact⟨⟨by omega,by omega⟩,by omega,⟨fun s f=>z0g.2 (l s f),by omega⟩,by omega,by omega,by omega,e,zcJ.1 a,zcJ.1 b,c,fun j g i=>d (j:Int) (zI.2 (by omega))⟩}
theorem zz4 (o:List Slot)(s:Slot)(q:Int):(s::o).countP (fun s=>ieq s.Page q)=o.countP (fun s=>ieq s.Page q)+if s.Page=q then 1 else 0:=by rw[vG];simp[ieq]
theorem zBh:∀{o:List Slot} {u:List Bool},(∀s∈o,s.Page<u.length)->
 (∀c,zgz o u=some c↔(∀q,0<=q->o.countP (fun s=>ieq s.Page q)+(if ix u q false then 1 else 0)<=1)/\
  c=(o.foldl (fun u s=>bif ilt s.Page 0 then u else up u s.Page true) u))
 |[],u,h,c=>by simp[zgz];exact⟨fun h=>⟨fun q _=>by split<;>omega,h.symm⟩,fun h=>h.2.symm⟩
 |s::o,u,h,c=>by
  unfold zgz;by_cases g:s.Page<0;{have b:ilt s.Page 0=true:=qJ g;rw[b,cond_true,zBh (fun y d=>h y (qZ _ d))];simp only[uL,b,cond_true];refine and_congr (forall_congr' fun q=>forall_congr' fun f=>?_) Iff.rfl;have e:(if s.Page=q then 1 else 0)=0:=if_neg (by omega);rw[zz4,e,jZ]};{have b:ilt s.Page 0=false:=qH g;have k:=h s jC;have j:hasB s.Page (ln u)=true:=zI.2 ⟨by omega,by unfold ln;omega⟩;rw[b,cond_false];cases i:ix u s.Page false with|true=>rw[cond_true];constructor;{intro h;cases h};{rintro⟨h,_⟩;have:=h s.Page (by omega);rw[zz4,if_pos rfl,i] at this;simp at this}|false=>rw[cond_false,zBh (fun y d=>by rw[zbO];exact h y (qZ _ d))];simp only[uL,b,cond_false];refine and_congr (forall_congr' fun q=>forall_congr' fun f=>?_) Iff.rfl;rw[zz4];by_cases a:s.Page=q;{subst a;rw[zbe j,i];simp};{rw [zbs (by omega) f a,if_neg a,jZ]}}
theorem zKJ:∀(o:List Slot) (u:List Bool),(o.foldl (fun u s=>bif ilt s.Page 0 then u else up u s.Page true) u).length=u.length
 |[],u=>rfl
 |s::o,u=>by rw[uL,zKJ];cases ilt s.Page 0<;>simp [zbO]
theorem zQ5:∀(o:List Slot) (u:List Bool) (q:Int),0<=q->(∀s∈o,s.Page<u.length)->(ix (o.foldl (fun u s=>bif ilt s.Page 0 then u else up u s.Page true) u) q false=true↔ix u q false=true\/1<=o.countP (fun s=>ieq s.Page q))
 |[],u,q,b,h=>by simp
 |s::o,u,q,b,h=>by
  rw[uL,zQ5 _ _ q b (fun y f=>by have:=h y (qZ _ f);cases ilt s.Page 0<;>simpa [zbO] using this),zz4];by_cases c:s.Page<0;{rw [show ilt s.Page 0=true from qJ c,cond_true,if_neg (by omega),jZ]};{rw [show ilt s.Page 0=false from qH c,cond_false];have e:=h s jC;have d:hasB s.Page (ln u)=true:=zI.2 ⟨by omega,by unfold ln;omega⟩;by_cases a:s.Page=q;{subst a;rw[zbe d];simp};{rw [zbs (by omega) b a,if_neg a,jZ]}}
theorem zAp:∀{l:List Mon} {u:List Bool},u.length=12->(ziE l u=true↔(∀x∈l,MOk x)/\∀q,0<=q->zeR l q+(if l≠[]/\ix u q false then 1 else 0)<=1)
 |[],u,c=>by simp[ziE,zeR]
 |x::l,u,c=>by
  unfold ziE;rw[zbY,zbaZ];constructor;{rintro⟨f,b⟩;have k:∀s∈x.Outer,s.Page<u.length:=fun s n=>(by rcases f.sl s n with h|h;{rw [h,c];decide};{rw [c];omega});split at b;{rename_i B d;obtain⟨g,rfl⟩:=(zBh k B).1 d;rw[zAp (by rw[zKJ,c])]at b;obtain⟨v,w⟩:=b;refine⟨by simpa using ⟨f,v⟩,fun q a=>?_⟩;have z:=g q a;have i:=w q a;have m:=zQ5 x.Outer u q a k;simp only[zeR,jD,uJ]at i ⊢;unfold cPg at i ⊢;simp only[ne_eq,reduceCtorEq,not_false_eq_true,true_and];by_cases r:l=[];{subst r;simpa using z};{simp only [r,ne_eq,not_false_eq_true,true_and]at i;by_cases j:ix (x.Outer.foldl (fun u s=>bif ilt s.Page 0 then u else up u s.Page true) u) q false=true;{rw [if_pos j]at i;omega};{rw [if_neg j]at i;have p:¬ (ix u q false=true\/1<=x.Outer.countP (fun s=>ieq s.Page q)):=fun e=>j (m.2 e);rw[not_or]at p;rw[if_neg p.1];omega}}};{cases b}}
  .rintro⟨f,b⟩;have t:MOk x:=f x jC;refine⟨t,?_⟩;have k:∀s∈x.Outer,s.Page<u.length:=fun s n=>by rcases t.sl s n with h|h;{rw [h,c];decide};{rw [c];omega}
   have d:=(zBh k _).2 ⟨fun q a=>by
    have:=b q a;simp only[zeR,jD,uJ,ne_eq,reduceCtorEq,not_false_eq_true,true_and] at this;unfold cPg at this;omega,rfl⟩
   rw[d];simp only;rw[zAp (by rw[zKJ,c])];refine⟨fun y A=>f y (qZ _ A),fun q a=>?_⟩;have g:=b q a;have m:=zQ5 x.Outer u q a k;simp only[zeR,jD,uJ,ne_eq,reduceCtorEq,not_false_eq_true,true_and]at g ⊢;unfold cPg at g ⊢;split;{rename_i j;rcases m.1 j.2 with h|h;{rw [if_pos h]at g;omega};{omega}};{omega}
structure HOk (h:Host):Prop where
 m12:h.Memory.length=12
 pgs:∀c∈h.Memory,zci c=true
 n1:1<=h.Mons.length
 n3:h.Mons.length<=3
 b1:zeQ h.Buffer=true
 b2:zeQ h.IoBuffer=true
 mons:∀x∈h.Mons,MOk x
 uq:∀q,0<=q->zeR h.Mons q<=1
theorem zj9 {h:Host}:zbW h=true↔HOk h:=by unfold zbW zhy;simp only[zbY,zcJ,zbq,qM];rw[zAp (by simp[rp])];have g:∀q,ix (rp 12 false) q false=false:=fun q=>(by unfold ix rp;rw[kB,kG];split<;>rfl);simp only[g,kE,and_false,if_false,jZ];unfold ln;constructor;{rintro⟨⟨e,f⟩,⟨i,j⟩,a,b,c,d⟩;exact⟨by omega,e,by omega,by omega,a,b,c,d⟩};{rintro⟨e,f,i,j,a,b,c,d⟩;exact⟨⟨f,by omega⟩,⟨by omega,by omega⟩,a,b,c,d⟩}
theorem HOk.mon {h:Host}(H:HOk h){m:Int}(a:hasB m (ln h.Mons)=true):MOk (ix h.Mons m mZ):=H.mons _ (zlI a _)
theorem MOk.hasO {x:Mon}(H:MOk x){p:Int}(a:hasB p 8=true):hasB p (ln x.Outer)=true:=by rw[ln,H.o8];exact a
theorem MOk.hasU {x:Mon}(H:MOk x){p:Int}(a:hasB p 8=true):hasB p (ln x.Out)=true:=by rw[ln,H.u8];exact a
theorem MOk.hasD {x:Mon}(H:MOk x){p:Int}(a:hasB p 8=true):hasB p (ln x.Dirty)=true:=by rw[ln,H.d8];exact a
theorem MOk.slot {x:Mon}(H:MOk x){p:Int}(a:hasB p 8=true):SOk (ix x.Outer p sZ):=H.sl _ (zlI (H.hasO a) _)
theorem HOk.uniq {h:Host}(H:HOk h){m p n k q:Int}(a:hasB m (ln h.Mons)=true)(f:hasB p 8=true)(b:hasB n (ln h.Mons)=true)(e:hasB k 8=true)(c:(ix (ix h.Mons m mZ).Outer p sZ).Page=q)(d:(ix (ix h.Mons n mZ).Outer k sZ).Page=q)(g:0<=q):m=n/\p=k :=
 z5Z a ((H.mon a).hasO f) b ((H.mon b).hasO e) c d (H.uq q g)
theorem HOk.up {h:Host}(H:HOk h){m:Int}(k:hasB m (ln h.Mons)=true){x:Mon}(l:MOk x){a:Host}(e:a.Mons=up h.Mons m x)(d:a.Memory.length=12)(f:∀c∈a.Memory,zci c=true)(i:zeQ a.Buffer=true)(j:zeQ a.IoBuffer=true)(n:∀q,0<=q->cPg x q<=cPg (ix h.Mons m mZ) q\/zeR h.Mons q=0/\cPg x q<=1):HOk a:=by refine⟨d,f,by rw[e,zbO];exact H.n1,by rw[e,zbO];exact H.n3,i,j,fun y b=>?_,fun q g=>?_⟩;{rw [e]at b;unfold E.up at b;rcases qY b with h|h;{exact H.mons y h};{rw [h];exact l}};{rw [e];have p:=zzF k x q;have r:=H.uq q g;have s:=n q g;omega}
structure KOk (k:Kept) (inner outer:List Slot):Prop where
 l1:k.Known.length=inner.length
 l2:k.Slots.length=inner.length
 at':∀i,hasB i (ln inner)=true->ix k.Slots i sZ=bif ix k.Known i false then zbx (ix inner i sZ) outer else noSlot
def TOk (x:Mon):Prop:=∀g,hasB g (ln x.Guests)=true->KOk (ix x.Tables g kZ) (ix x.Guests g gZ).Live x.Outer
structure Rt (h:Host):Prop where
 t:∀m,hasB m (ln h.Mons)=true->TOk (ix h.Mons m mZ)
 e1:∀e∈h.Buffer,zcW h e=true
 e2:∀e∈h.IoBuffer,zcW h e=true
structure Safe (h:Host):Prop where
 ok:HOk h
 rt:Rt h
theorem zrR {a b:Slot}:below' a b=true↔a=noSlot\/(a.Page=b.Page/\enough b.Rights a.Rights=true):=by unfold below';rw[zui,zpF,zsm,zbY,zbq];by_cases h:a=noSlot<;>simp [h]
theorem z5N (x:Int):wand .i64 0 x=0:=by unfold wand;have:(BitVec.ofInt 64 0 &&& BitVec.ofInt 64 x)=0#64:=(by rw[show BitVec.ofInt 64 0=0#64 from rfl,BitVec.zero_and]);show IntKind.wrap .i64 ((BitVec.ofInt 64 0 &&& BitVec.ofInt 64 x).toNat:Int)=0;rw[this];rfl
theorem z5Y {a:Slot}(h:below' a noSlot=true):a=noSlot:=by rcases zrR.1 h with h|⟨c,b⟩;{exact h};{refine zXd c ?_;unfold enough at b;rw[show noSlot.Rights=0 from rfl,z5N]at b;simp only[zbY,zbq]at b;exact b.2.2.symm}
theorem zfs {h:Host}{e:Entry}:zcW h e=true↔hasB (zds e.Tag) (ln h.Mons)=true/\hasB (zd6 e.Tag) (ln (ix h.Mons (zds e.Tag) mZ).Guests)=true/\
 below' ⟨e.Host,e.Rights⟩ (zbx (zbv (ix (ix h.Mons (zds e.Tag) mZ).Guests (zd6 e.Tag) gZ).Live e.Page) (ix h.Mons (zds e.Tag) mZ).Outer)=true:=by
 unfold zcW;rw[zbY,zbY]
theorem zSp {o:List Slot}{p q:Int}{s:Slot}(a:0<=p)(h:q≠p):zbv (up o p s) q=zbv o q:=by unfold zbv;rw[zc5];cases b:hasB q (ln o) with|false=>rfl|true=>rw[cond_true,cond_true,zbs a (zI.1 b).1 (Ne.symm h)]
theorem zLK {s:Slot}{o:List Slot}{p:Int}{t:Slot}(a:0<=p)(h:s.Page≠p):zbx s (up o p t)=zbx s o:=by unfold zbx;rw[zSp a h]
theorem z0P {s:Slot}{o:List Slot}:zbx s o=noSlot\/(zbx s o).Page=(zbv o s.Page).Page:=by unfold zbx;cases ieq s.Page (-1)<;>cases ieq (zbv o s.Page).Page (-1)<;>cases ieq (zdV s.Rights (zbv o s.Page).Rights) 0<;>simp
theorem zkN (k:Kept)(q:Int):(zbR k q).Known.length=k.Known.length/\(zbR k q).Slots.length=k.Slots.length:=by unfold zbR;cases zdi k q<;>simp [zbO]
theorem zBI:∀(l:List Int) (k:Kept),(zel k l).Known.length=k.Known.length/\(zel k l).Slots.length=k.Slots.length
 |[],k=>⟨rfl,rfl⟩
 |q::l,k=>by have a:=zBI l (zbR k q);have b:=zkN k q;exact⟨a.1.trans b.1,a.2.trans b.2⟩
theorem zxD {k:Kept}{q i:Int}(d:k.Known.length=k.Slots.length)(b:hasB i (ln k.Known)=true) :
 ix (zbR k q).Known i false=(cond (ieq q i) false (ix k.Known i false))/\ix (zbR k q).Slots i sZ=(cond (ieq q i) noSlot (ix k.Slots i sZ)):=by
 have c:hasB i (ln k.Slots)=true:=by unfold ln at b ⊢;rwa [<- d]
 unfold zbR zdi
 by_cases e:q=i
 .subst e;simp only[b,c,cond_true,ieq,beq_self_eq_true];exact⟨zbe b _ _,zbe c _ _⟩
 .rw [show ieq q i=false from zbX.2 e]
  by_cases a:hasB q (ln k.Known)=true
  .have hq':hasB q (ln k.Slots)=true:=by unfold ln at a ⊢;rwa [<- d]
   simp only[a,hq',cond_true,cond_false];exact⟨zbs (zI.1 a).1 (zI.1 b).1 e _ _,zbs (zI.1 a).1 (zI.1 b).1 e _ _⟩
  .rw [Bool.not_eq_true]at a;simp[a]
theorem zDP:∀(l:List Int) {k:Kept} {i:Int},k.Known.length=k.Slots.length->hasB i (ln k.Known)=true->
 (i∈l->ix (zel k l).Known i false=false/\ix (zel k l).Slots i sZ=noSlot)/\
 (i∉l->ix (zel k l).Known i false=ix k.Known i false/\ix (zel k l).Slots i sZ=ix k.Slots i sZ)
 |[],k,i,d,c=>⟨fun h=>by simp at h,fun _=>⟨rfl,rfl⟩⟩
 |q::l,k,i,d,c=>by have b:=zkN k q;have g:=zxD (q:=q) d c;have f:=zDP l (k:=zbR k q) (i:=i) (by rw[b.1,b.2,d]) (by unfold ln at c ⊢;rwa [b.1]);show (_->ix (zel (zbR k q) l).Known i false=_/\ix (zel (zbR k q) l).Slots i sZ=_)/\(_->ix (zel (zbR k q) l).Known i false=_/\ix (zel (zbR k q) l).Slots i sZ=_);by_cases a:i∈l;{refine⟨fun _=>f.1 a,fun h=>absurd (qZ _ a) h⟩};{rw [(f.2 a).1,(f.2 a).2,g.1,g.2];by_cases e:q=i;{subst e;simp[ieq]};{rw [zbX.2 e];simp[a,Ne.symm e]}}
theorem zJS {e:Type}{P:e->Bool}{d:e}:∀{l:List e} {n:Nat} {i:Int},i∈idxs P l n↔∃k:Nat,∃h:k<l.length,i=((n+k:Nat):Int)/\P l[k]=true
 |[],n,i=>by simp[idxs]
 |x::l,n,i=>by
  have g:=@zJS e P d l (n+1) i;unfold idxs;constructor
  .intro h;cases f:P x with
   |true=>rw[f,cond_true,qG]at h;rcases h with h|h;{exact⟨0,by simp,by simpa using h,f⟩};{obtain⟨k,c,b,a⟩:=g.1 h;exact⟨k+1,by simpa using c,by rw[b];congr 1;omega,by simpa using a⟩}
   |false=>rw[f,cond_false]at h;obtain⟨k,c,b,a⟩:=g.1 h;exact⟨k+1,by simpa using c,by rw[b];congr 1;omega,by simpa using a⟩
  {rintro⟨k,c,b,a⟩;cases k with|zero=>simp only[List.getElem_cons_zero]at a;rw[a,cond_true,b];exact jC|succ k=>have:=g.2 ⟨k,by simpa using c,by rw[b];congr 1;omega,by simpa using a⟩;cases P x;{exact this};{exact qZ _ this}}
theorem zXX {l:List Slot}{p i:Int}:i∈zFG l p↔hasB i (ln l)=true/\(ix l i sZ).Page=p:=by unfold zFG;rw[zJS (d:=sZ)];constructor;{rintro⟨k,a,rfl,c⟩;rw[j7,zmz a];exact⟨zI.2 (by unfold ln;omega),zbq.1 c⟩};{rintro⟨a,b⟩;obtain⟨k,f,rfl,e⟩:=zAB a sZ;exact⟨k,f,by simp,by rw[e]at b;exact zbq.2 b⟩}
theorem z1w {k:Kept}{a b:List Slot}(h:KOk k a b){p:Int}(j:0<=p)(s:Slot):KOk (zhV k a p) a (up b p s):=by have g:=zBI (zFG a p) k;refine⟨g.1.trans h.l1,g.2.trans h.l2,fun i d=>?_⟩;have e:hasB i (ln k.Known)=true:=(by unfold ln at d ⊢;rwa [h.l1]);have f:=zDP (zFG a p) (by rw[h.l1,h.l2]) e;unfold zhV;by_cases c:(ix a i sZ).Page=p;{have:=f.1 (zXX.2 ⟨d,c⟩);rw[this.1,this.2];rfl};{have:=f.2 (fun h=>c (zXX.1 h).2);rw[this.1,this.2,h.at' i d,zLK j c]}
theorem zFz (b:List Guest)(p:Int):∀(n:Nat) (a:List Kept),(zlq b p n a).length=a.length
 | 0,a=>rfl
 |n+1,a=>by rw[zlq,zbO,zFz b p n]
theorem zQN (b:List Guest)(p:Int):∀(n:Nat) (a:List Kept),n<=a.length->∀i,0<=i->ix (zlq b p n a) i kZ=if i<n then zhV (ix a i kZ) (ix b i gZ).Live p else ix a i kZ
 | 0,a,_,i,c=>by rw[if_neg (by omega)];rfl
 |n+1,a,d,i,c=>by rw[zlq];by_cases e:i=n;{subst e;rw[zbe (by rw[ln,zFz];exact zI.2 (by omega)),if_pos (by omega),zQN b p n a (by omega) _ c,if_neg (by omega)]};{rw [zbs (by omega) c (Ne.symm e),zQN b p n a (by omega) i c];by_cases h:i<n;{rw [if_pos h,if_pos (by omega)]};{rw [if_neg h,if_neg (by omega)]}}
def zjK (x:Mon)(p:Int)(s:Slot):Mon:={zks x p x.Tables.length with Outer:=up x.Outer p s}
theorem z5y {x:Mon}(h:TOk x)(c:x.Tables.length=x.Guests.length){p:Int}(b:0<=p)(s:Slot):TOk (zjK x p s):=by intro g hg;have a:hasB g (ln x.Guests)=true:=hg;show KOk (ix (zlq x.Guests p x.Tables.length x.Tables) g kZ) (ix x.Guests g gZ).Live (up x.Outer p s);rw[zQN _ _ _ _ (qW _) _ (zI.1 a).1,if_pos (by have:=zI.1 a;unfold ln at this;omega)];exact z1w (h g a) b s
theorem zs6 (h:Host)(m p:Int)(s:Slot):(zcm h m p s).Mons=up h.Mons m (zjK (ix h.Mons m mZ) p s):=by unfold zcm;cases ine (ix (ix h.Mons m zi).Outer p zV).Page (-1)<;>rfl
theorem zx2 (h:Host)(m p:Int)(s:Slot):(zcm h m p s).Memory=h.Memory:=by unfold zcm;cases ine (ix (ix h.Mons m zi).Outer p zV).Page (-1)<;>rfl
theorem zSr (h:Host)(m p:Int)(s:Slot):(zcm h m p s).Buffer=(cond (ieq (ix (ix h.Mons m mZ).Outer p sZ).Page (-1)) h.Buffer (flushed h.Buffer (ix (ix h.Mons m mZ).Outer p sZ).Page))/\
 (zcm h m p s).IoBuffer=(cond (ieq (ix (ix h.Mons m mZ).Outer p sZ).Page (-1)) h.IoBuffer (flushed h.IoBuffer (ix (ix h.Mons m mZ).Outer p sZ).Page)):=by
 unfold zcm
 by_cases e:(ix (ix h.Mons m zi).Outer p zV).Page = -1
 .rw [show ine (ix (ix h.Mons m zi).Outer p zV).Page (-1)=false by simp[ine,e],show ieq (ix (ix h.Mons m mZ).Outer p sZ).Page (-1)=true from zbq.2 e]
  exact⟨rfl,rfl⟩
 .rw [show ine (ix (ix h.Mons m zi).Outer p zV).Page (-1)=true from ztX.2 e,show ieq (ix (ix h.Mons m mZ).Outer p sZ).Page (-1)=false from zbX.2 e]
  exact⟨rfl,rfl⟩
theorem zLO {h k:Host}{m p:Int}{s:Slot}(n:hasB m (ln h.Mons)=true)(q:hasB p (ln (ix h.Mons m mZ).Outer)=true){x:Mon}(u:k.Mons=up h.Mons m x)(t:x.Guests=(ix h.Mons m mZ).Guests)(v:x.Outer=up (ix h.Mons m mZ).Outer p s){e:Entry}(w:zcW h e=true)(c:(ix (ix h.Mons m mZ).Outer p sZ).Page = -1\/e.Host≠(ix (ix h.Mons m mZ).Outer p sZ).Page):zcW k e=true:=by obtain⟨f,g,b⟩:=zfs.1 w;rw[zfs,u,zc5];refine⟨f,?_⟩;by_cases l:m=zds e.Tag;{rw [<- l]at f g b ⊢;rw[zbe n,t,v];refine⟨g,?_⟩;by_cases j:(zbv (ix (ix h.Mons m mZ).Guests (zd6 e.Tag) gZ).Live e.Page).Page=p;{have a:zbx (zbv (ix (ix h.Mons m mZ).Guests (zd6 e.Tag) gZ).Live e.Page) (ix h.Mons m mZ).Outer=noSlot\/e.Host≠(zbx (zbv (ix (ix h.Mons m mZ).Guests (zd6 e.Tag) gZ).Live e.Page) (ix h.Mons m mZ).Outer).Page:=(by rcases z0P (s:=zbv (ix (ix h.Mons m mZ).Guests (zd6 e.Tag) gZ).Live e.Page) (o:=(ix h.Mons m mZ).Outer) with d|d;{exact .inl d};{rw [j]at d;have r:zbv (ix h.Mons m mZ).Outer p=ix (ix h.Mons m mZ).Outer p sZ:=(by unfold zbv;rw[q];rfl);rw[r]at d;rcases c with c|c;{left;unfold zbx;rw[j,r,c,show ieq (-1) (-1)=true from rfl];cases ieq p (-1)<;>rfl};{exact .inr (by rw[d];exact c)}});have i:(⟨e.Host,e.Rights⟩:Slot)=noSlot:=(by rcases a with a|a;{rw [a]at b;exact z5Y b};{rcases zrR.1 b with h|h;{exact h};{exact absurd h.1 a}});rw[i];exact zrR.2 (.inl rfl)};{rw [zLK (zI.1 q).1 j];exact b}};{rw [zbs (zI.1 n).1 (zI.1 f).1 l];exact⟨g,b⟩}
theorem zAQ {h:Host}(H:Rt h){m p:Int}(d:hasB m (ln h.Mons)=true)(q:hasB p (ln (ix h.Mons m mZ).Outer)=true)(u:(ix h.Mons m mZ).Tables.length=(ix h.Mons m mZ).Guests.length)(s:Slot):Rt (zcm h m p s):=by have c:=zSr h m p s;have i:=zs6 h m p s;have f:∀(b:List Entry),(∀e∈b,zcW h e=true)->∀e∈(cond (ieq (ix (ix h.Mons m mZ).Outer p sZ).Page (-1)) b (flushed b (ix (ix h.Mons m mZ).Outer p sZ).Page)),zcW (zcm h m p s) e=true:=(by intro b c e a;by_cases n:(ix (ix h.Mons m mZ).Outer p sZ).Page = -1;{rw [zbq.2 n,cond_true]at a;exact zLO d q i rfl rfl (c e a) (.inl n)};{rw [zbX.2 n,cond_false]at a;obtain⟨j,l⟩:=u5.1 a;exact zLO d q i rfl rfl (c e j) (.inr (by simpa [ieq] using l))});refine⟨fun k g=>?_,fun e a=>f _ H.e1 e (by rwa [c.1]at a),fun e a=>f _ H.e2 e (by rwa [c.2]at a)⟩;rw[i]at g ⊢;rw[zc5]at g;by_cases r:m=k;{subst r;rw[zbe d];exact z5y (H.t m d) u (zI.1 q).1 s};{rw [zbs (zI.1 d).1 (zI.1 g).1 r];exact H.t k g}
theorem zRv:∀(l a:List Entry),allI (alone (a++l)) l a.length=true↔(∀x∈l,∀y∈a,sameKey x y=false)/\l.Pairwise (fun y x=>sameKey x y=false)
 |[],a=>by simp[allI]
 |x::l,a=>by have g:=zRv l (a++[x]);rw[kC,List.singleton_append,kD,k9] at g;rw[allI,qD,g,List.pairwise_cons];have h:alone (a++x::l) a.length x=true↔∀y∈a,sameKey x y=false:=(by unfold alone;rw[kN rfl,qM];simp);rw[h];constructor;{rintro⟨d,e,f⟩;refine⟨fun z c y b=>?_,fun z c=>e z c x (by simp),f⟩;rcases qG.1 c with rfl|c;{exact d y b};{exact e z c y (by simp[b])}};{rintro⟨d,e,f⟩;refine⟨fun y b=>d x (by simp) y b,fun z c y b=>?_,f⟩;rcases jJ.1 b with b|b;{exact d z (by simp[c]) y b};{rw [qF.1 b];exact e z c}}
theorem zFM {l:List Entry}:zeQ l=true↔l.Pairwise (fun y x=>sameKey x y=false)/\l.length<=6:=by unfold zeQ;have:=zRv l [];simp only[jQ,uK] at this;have a:ile (ln l) 6=true↔l.length<=6:=(by rw[ile,qX,ln];omega);rw[zbY,this,a];simp
theorem zz3 {l:List Entry}(h:zeQ l=true)(P:Entry->Bool):zeQ (l.filter P)=true:=by rw[zFM]at h ⊢;exact⟨h.1.sublist List.filter_sublist,qU (uA _ _) h.2⟩
theorem zHK {l:List Entry}(h:zeQ l=true)(p:Int):zeQ (flushed l p)=true:=zz3 h _
theorem zUz {x x':Mon}{p:Int}(a:hasB p (ln x.Outer)=true){s:Slot}(h:x'.Outer=up x.Outer p s)(q:Int):cPg x' q+(if (ix x.Outer p sZ).Page=q then 1 else 0)=cPg x q+(if s.Page=q then 1 else 0):=by have:=zRD (fun s=>ieq s.Page q) a s sZ;simp only[zbq] at this;unfold cPg;rw[h];exact this
theorem zp0 {s:Slot}(d:SOk s){c:List Int}:zlN s c=true↔(s.Page = -1->zci c=true)/\(s.Page≠-1->enough s.Rights 1=true/\c=[]):=by unfold zlN;by_cases e:s=noSlot;{rw [zpF.2 e,cond_true,e];simp[noSlot]};{rw [zsm.2 e,cond_false,zbY];have:s.Page≠-1:=fun h=>e (d.none h);have b:ile (ln c) 0=true↔c=[]:=(by rw[ile,qX,ln,<- uS];omega);rw[b];exact⟨fun h=>⟨fun a=>absurd a this,fun _=>h⟩,fun h=>h.2 this⟩}
structure Chg (x x':Mon) (p:Int) (s:Slot) (c:List Int):Prop where
 o:x'.Outer=up x.Outer p s
 u:x'.Out=up x.Out p c
 g:x'.Guests=x.Guests
 t:x'.Tables.length=x.Tables.length
 d:x'.Dirty.length=x.Dirty.length
 a1:x'.Outs=x.Outs
 a2:x'.Pending=x.Pending
 a3:x'.Traps=x.Traps
 a4:x'.Own=x.Own
theorem MOk.chg {x i:Mon}(H:MOk x){p:Int}(a:hasB p 8=true){s:Slot}{c:List Int}(k:Chg x i p s c)(l:SOk s)(j:zlN s c=true):MOk i:=by refine⟨by rw[k.g];exact H.g1,by rw[k.g];exact H.g2,by rw[k.t,k.g];exact H.gt,by rw[k.o,zbO];exact H.o8,fun y f=>?_,by rw[k.u,zbO];exact H.u8,by rw[k.d];exact H.d8,by rw[k.a1];exact H.outs,by rw[k.a2];exact H.pend,by rw[k.a3];exact H.tr,by rw[k.a4];exact H.own,by rw[k.g];exact H.gs,fun q b=>?_⟩;{rw [k.o]at f;rcases qY f with h|h;{exact H.sl y h};{rw [h];exact l}};{rw [k.o,k.u];by_cases e:p=q;{subst e;rw[zbe (H.hasO a),zbe (H.hasU a)];exact j};{rw [zbs (zI.1 a).1 (zI.1 b).1 e,zbs (zI.1 a).1 (zI.1 b).1 e];exact H.fit q b}}
structure Like (h r:Host):Prop where
 len:r.Mons.length=h.Mons.length
 g:∀i,hasB i (ln h.Mons)=true->(ix r.Mons i mZ).Guests=(ix h.Mons i mZ).Guests
 o:∀i,hasB i (ln h.Mons)=true->(ix r.Mons i mZ).Outs=(ix h.Mons i mZ).Outs
 p:∀i,hasB i (ln h.Mons)=true->(ix r.Mons i mZ).Pending=(ix h.Mons i mZ).Pending
 tr:∀i,hasB i (ln h.Mons)=true->(ix r.Mons i mZ).Traps=(ix h.Mons i mZ).Traps
 ow:∀i,hasB i (ln h.Mons)=true->(ix r.Mons i mZ).Own=(ix h.Mons i mZ).Own
 pg:∀i k,hasB i (ln h.Mons)=true->hasB k 8=true->zcd r i k=zcd h i k
theorem Like.refl (h:Host):Like h h:=⟨rfl,fun _ _=>rfl,fun _ _=>rfl,fun _ _=>rfl,fun _ _=>rfl,fun _ _=>rfl,fun _ _ _ _=>rfl⟩
theorem Like.trans {a b c:Host}(x:Like a b)(y:Like b c):Like a c:=by have k:∀i,hasB i (ln a.Mons)=true->hasB i (ln b.Mons)=true:=fun i e=>(by unfold ln at e ⊢;rwa [x.len]);exact⟨y.len.trans x.len,fun i h=>(y.g i (k i h)).trans (x.g i h),fun i h=>(y.o i (k i h)).trans (x.o i h),fun i h=>(y.p i (k i h)).trans (x.p i h),fun i h=>(y.tr i (k i h)).trans (x.tr i h),fun i h=>(y.ow i (k i h)).trans (x.ow i h),fun i q h d=>(y.pg i q (k i h) d).trans (x.pg i q h d)⟩
theorem Like.has {h r:Host}(k:Like h r){i:Int}:hasB i (ln r.Mons)=hasB i (ln h.Mons):=by unfold ln;rw[k.len]
theorem zq5 {h r:Host}{m:Int}:∀(n i:Nat),(∀k:Nat,i<=k->k<i+n->zcd r m (k:Int)=zcd h m (k:Int))->zcw r m n i=zcw h m n i
 | 0,i,_=>rfl
 |n+1,i,h=>by rw[zcw,zcw,h i (by omega) (by omega),zq5 n (i+1) (fun k a b=>h k (by omega) (by omega))]
theorem Like.seen {h r:Host}(k:Like h r)(m:Int):zC r m=zC h m:=by unfold zC;rw[k.has];cases a:hasB m (ln h.Mons) with|false=>rfl|true=>simp only[cond_true];rw[k.g m a,k.o m a,k.p m a,zq5 8 0 (fun j b c=>k.pg m j a (zI.2 (by omega)))]
theorem znR {h:Host}{m p:Int}(a:hasB m (ln h.Mons)=true)(c:hasB p 8=true)(b:hasB p (ln (ix h.Mons m mZ).Outer)=true) :
 zcd h m p=bif ieq (ix (ix h.Mons m mZ).Outer p sZ).Page (-1) then zct (ix h.Mons m mZ).Out p else zct h.Memory (ix (ix h.Mons m mZ).Outer p sZ).Page:=by
 unfold zcd;have:zbv (ix h.Mons m mZ).Outer p=ix (ix h.Mons m mZ).Outer p sZ:=by unfold zbv;rw[b];rfl
 rw[a,c,cond_true,cond_true,this]
 by_cases e:(ix (ix h.Mons m mZ).Outer p sZ).Page = -1
 .rw [zbq.2 e,show ine (ix (ix h.Mons m mZ).Outer p sZ).Page (-1)=false by simp[ine,e]];rfl
 .rw [zbX.2 e,show ine (ix (ix h.Mons m mZ).Outer p sZ).Page (-1)=true from ztX.2 e];rfl
theorem zk2 {m:List (List Int)}{p:Int}(h:hasB p (ln m)=true):zct m p=ix m p []:=by unfold zct;rw[h];rfl
theorem zSb {m:List (List Int)}(h:∀c∈m,zci c=true)(p:Int):zci (zct m p)=true:=by unfold zct;cases a:hasB p (ln m) with|false=>rfl|true=>exact h _ (zlI a _)
theorem zxg {h r:Host}(H:HOk h){m p:Int}(b:hasB m (ln h.Mons)=true)(i:hasB p 8=true){x:Mon}{s:Slot}{c:List Int}(n:r.Mons=up h.Mons m x)(k:Chg (ix h.Mons m mZ) x p s c)(u:SOk s)(t:zlN s c=true)(f:r.Memory.length=12)(g:∀c∈r.Memory,zci c=true)(j:zeQ r.Buffer=true)(l:zeQ r.IoBuffer=true)(v:0<=s.Page->s.Page=(ix (ix h.Mons m mZ).Outer p sZ).Page\/zeR h.Mons s.Page=0):HOk r:=by refine H.up b ((H.mon b).chg i k u t) n f g j l fun q z=>?_;have d:=zUz ((H.mon b).hasO i) k.o q;by_cases e:s.Page=q;{have a:=v (by omega);rw[if_pos e]at d;rcases a with a|a;{rw [if_pos (by omega)]at d;left;omega};{right;rw[e] at a;refine⟨a,?_⟩;have:=zzF b x q;have y:cPg (ix h.Mons m mZ) q<=zeR h.Mons q:=(by have:=zzF b (⟨[],[],[],[],[],0,0,[],0⟩:Mon) q;have w:cPg (⟨[],[],[],[],[],0,0,[],0⟩:Mon) q=0:=rfl;omega);omega}};{rw [if_neg e]at d;left;split at d<;>omega}
theorem zwc {h r:Host}(H:HOk h){m p:Int}(a:hasB m (ln h.Mons)=true)(y:hasB p 8=true){x:Mon}{s:Slot}{c:List Int}(n:r.Mons=up h.Mons m x)(k:Chg (ix h.Mons m mZ) x p s c)(B:(cond (ieq s.Page (-1)) c (zct r.Memory s.Page))=zcd h m p)(f:∀i q,hasB i (ln h.Mons)=true->hasB q 8=true->¬ (i=m/\q=p)->(ix (ix h.Mons i mZ).Outer q sZ).Page≠-1->zct r.Memory (ix (ix h.Mons i mZ).Outer q sZ).Page=zct h.Memory (ix (ix h.Mons i mZ).Outer q sZ).Page):Like h r:=by have l:=(zI.1 a).1;have t:=(zI.1 y).1;have e:∀{C:Type} (F:Mon->C),F x=F (ix h.Mons m mZ)->∀i,hasB i (ln h.Mons)=true->F (ix r.Mons i mZ)=F (ix h.Mons i mZ):=(by intro C F D i d;rw[n];by_cases e:m=i;{subst e;rw[zbe a];exact D};{rw [zbs l (zI.1 d).1 e]});refine⟨by rw[n,zbO],e Mon.Guests k.g,e Mon.Outs k.a1,e Mon.Pending k.a2,e Mon.Traps k.a3,e Mon.Own k.a4,fun i q d b=>?_⟩;have A:hasB i (ln r.Mons)=true:=(by rw[n,zc5];exact d);have w:=(H.mon d).hasO b;have z:hasB q (ln (ix r.Mons i mZ).Outer)=true:=(by rw[n];by_cases e:m=i;{subst e;rw[zbe a,k.o,zc5];exact w};{rw [zbs l (zI.1 d).1 e];exact w});rw[znR A b z];by_cases e:m=i;{subst e;rw[n,zbe a,k.o,k.u];by_cases v:p=q;{subst v;rw[zbe ((H.mon a).hasO y),<- B];cases ieq s.Page (-1);{rfl};{rw [cond_true,cond_true,zk2 (by rw[zc5];exact(H.mon a).hasU y),zbe ((H.mon a).hasU y)]}};{rw [zbs t (zI.1 b).1 v,znR a b w];by_cases j:(ix (ix h.Mons m mZ).Outer q sZ).Page = -1;{rw [zbq.2 j,cond_true,cond_true,zk2 (by rw[zc5];exact(H.mon a).hasU b),zk2 ((H.mon a).hasU b),zbs t (zI.1 b).1 v]};{rw [zbX.2 j,cond_false,cond_false,f m q a b (fun h=>v h.2.symm) j]}}};{rw [n,zbs l (zI.1 d).1 e,znR d b w];by_cases j:(ix (ix h.Mons i mZ).Outer q sZ).Page = -1;{rw [zbq.2 j,cond_true,cond_true]};{rw [zbX.2 j,cond_false,cond_false,f i q d b (fun h=>e h.1.symm) j]}}
structure Op (h r:Host):Prop where
 ok:HOk r
 like:Like h r
 rt:Rt h->Rt r
theorem Op.refl {h:Host}(H:HOk h):Op h h:=⟨H,Like.refl h,id⟩
theorem Op.trans {a b c:Host}(x:Op a b)(y:Op b c):Op a c:=⟨y.ok,x.like.trans y.like,fun h=>y.rt (x.rt h)⟩
theorem Op.safe {h r:Host}(k:Op h r)(s:Safe h):Safe r:=⟨k.ok,k.rt s.rt⟩
theorem zNE {h r:Host}(H:Rt h){m:Int}(l:hasB m (ln h.Mons)=true){x:Mon}(u:r.Mons=up h.Mons m x)(q:r.Buffer=h.Buffer)(s:r.IoBuffer=h.IoBuffer)(y:x.Guests.length=(ix h.Mons m mZ).Guests.length)(w:∀g,hasB g (ln (ix h.Mons m mZ).Guests)=true->(ix x.Guests g gZ).Live=(ix (ix h.Mons m mZ).Guests g gZ).Live)(z:x.Tables=(ix h.Mons m mZ).Tables)(v:x.Outer=(ix h.Mons m mZ).Outer):Rt r:=by have d:=(zI.1 l).1;have hg:∀g,hasB g (ln x.Guests)=hasB g (ln (ix h.Mons m mZ).Guests):=fun g=>(by unfold ln;rw[y]);have f:∀e,zcW h e=true->zcW r e=true:=(by intro e c;obtain⟨n,i,p⟩:=zfs.1 c;rw[zfs,u,zc5];refine⟨n,?_⟩;by_cases b:m=zds e.Tag;{rw [<- b]at n i p ⊢;rw[zbe l,hg,w _ i,v];exact⟨i,p⟩};{rw [zbs d (zI.1 n).1 b];exact⟨i,p⟩});refine⟨fun k j=>?_,fun e c=>f e (H.e1 e (by rwa [q]at c)),fun e c=>f e (H.e2 e (by rwa [s]at c))⟩;rw[u]at j ⊢;rw[zc5]at j;by_cases b:m=k;{subst b;rw[zbe l];intro g a;rw[hg]at a;rw[z,w g a,v];exact H.t m l g a};{rw [zbs d (zI.1 j).1 b];exact H.t k j}
theorem zpG {h a:Host}{m p:Int}{s:Slot}{x:Mon}(b:hasB m (ln h.Mons)=true)(e:a.Mons=up h.Mons m x):(zcm a m p s).Mons=up h.Mons m (zjK x p s):=by rw[zs6,e,zbe b,z5M]
theorem zDB {x a:Mon}{p:Int}{s:Slot}{c:List Int}(h:a.Outer=x.Outer)(j:a.Out=up x.Out p c)(hg:a.Guests=x.Guests)(i:a.Tables=x.Tables)(g:a.Dirty.length=x.Dirty.length)(b:a.Outs=x.Outs)(d:a.Pending=x.Pending)(e:a.Traps=x.Traps)(f:a.Own=x.Own):Chg x (zjK a p s) p s c :=
 ⟨by show up a.Outer p s=_;rw[h],j,hg,by show (zlq a.Guests p a.Tables.length a.Tables).length=_;rw[zFz,i],g,b,d,e,f⟩
theorem zvv {h:Host}{m p:Int}{s:Slot}(a:zeQ h.Buffer=true)(b:zeQ h.IoBuffer=true):zeQ (zcm h m p s).Buffer=true/\zeQ (zcm h m p s).IoBuffer=true:=by have:=zSr h m p s;rw[this.1,this.2];cases ieq (ix (ix h.Mons m mZ).Outer p sZ).Page (-1);{exact⟨zHK a _,zHK b _⟩};{exact⟨a,b⟩}
theorem hasM {h:Host}(H:HOk h){s:Slot}(b:SOk s)(a:s.Page≠-1):hasB s.Page (ln h.Memory)=true:=by have:=b.pos a;exact zI.2 ⟨this.1,by unfold ln;rw[H.m12];omega⟩
theorem zZ6 {h:Host}(H:HOk h){m p:Int}(b:hasB m (ln h.Mons)=true)(c:hasB p 8=true)(l:(ix (ix h.Mons m mZ).Outer p sZ).Page≠-1):Op h (zdq h m p):=by
 have X:=H.mon b;have f:(zdq h m p).Mons=up h.Mons m (zjK {ix h.Mons m mZ with Out:=up (ix h.Mons m mZ).Out p (zct h.Memory (ix (ix h.Mons m mZ).Outer p sZ).Page)} p noSlot):=zpG b rfl;have k:Chg (ix h.Mons m mZ) (zjK {ix h.Mons m mZ with Out:=up (ix h.Mons m mZ).Out p (zct h.Memory (ix (ix h.Mons m mZ).Outer p sZ).Page)} p noSlot) p noSlot (zct h.Memory (ix (ix h.Mons m mZ).Outer p sZ).Page):=zDB rfl rfl rfl rfl rfl rfl rfl rfl rfl;have a:(zdq h m p).Memory=h.Memory:=zx2 _ _ _ _;have g:=zvv (h:=zey h m p) (m:=m) (p:=p) (s:=noSlot) H.b1 H.b2;refine⟨zxg H b c f k (.inl rfl) ((zp0 (.inl rfl)).2 ⟨fun _=>zSb H.pgs _,fun h=>absurd rfl h⟩) (by rw[a];exact H.m12) (by rw[a];exact H.pgs) g.1 g.2 (fun h=>absurd h (by decide)),
  zwc H b c f k ?_ (fun i q _ _ _ _=>by rw[a]),fun R=>?_⟩
 {rw [znR b c (X.hasO c),zbX.2 l];rfl};{have j:Rt (zey h m p):=zNE (x:={ix h.Mons m mZ with Out:=up (ix h.Mons m mZ).Out p (zct h.Memory (ix (ix h.Mons m mZ).Outer p sZ).Page)}) R b rfl rfl rfl rfl (fun _ _=>rfl) rfl rfl;have d:hasB m (ln (zey h m p).Mons)=true:=(by show hasB m (ln (up h.Mons m _))=true;rw[zc5];exact b);have e:ix (zey h m p).Mons m mZ={ix h.Mons m mZ with Out:=up (ix h.Mons m mZ).Out p (zct h.Memory (ix (ix h.Mons m mZ).Outer p sZ).Page)}:=zbe b _ _;exact zAQ j d (by rw[e];exact X.hasO c) (by rw[e];exact X.gt) noSlot}
theorem zHR {o:List Slot}{q:Int}:zog o q=none↔o.countP (fun s=>ieq s.Page q)=0:=by unfold zog;rw[List.findIdx?_eq_none_iff,vA];simp
theorem zYh {o:List Slot}{q:Int}{k:Nat}(h:zog o q=some k):∃a:k<o.length,o[k].Page=q:=by unfold zog at h;rw[uY]at h;obtain⟨a,b,_⟩:=h;exact⟨a,zbq.1 b⟩
theorem zAJ {q:Int}:∀(l:List Mon) (i:Nat),((zh2 q l i).1<0↔zeR l q=0)/\(¬ (zh2 q l i).1<0->∃a b:Nat,∃f:a<l.length,∃g:b<l[a].Outer.length,zh2 q l i=(((i+a:Nat):Int),(b:Int))/\l[a].Outer[b].Page=q)
 |[],i=>⟨by simp[zh2,zeR],fun h=>absurd (show (-1:Int)<0 by decide) h⟩
 |x::l,i=>by have j:=zAJ (q:=q) l (i+1);unfold zh2;split;{rename_i k c;obtain⟨m,n⟩:=zYh c;refine⟨⟨fun h=>by simp at h;omega,fun h=>?_⟩,fun _=>⟨0,k,by simp,m,by simp,n⟩⟩;exfalso;simp only[zeR,jD,uJ]at h;have d:x.Outer.countP (fun s=>ieq s.Page q)=0:=(by unfold cPg at h;omega);rw[zHR.2 d]at c;cases c};{rename_i c;have d:=zHR.1 c;refine⟨?_,fun h=>?_⟩;{rw [j.1];simp only[zeR,jD,uJ];unfold cPg;omega};{obtain⟨a,b,f,g,e,p⟩:=j.2 h;exact⟨a+1,b,by simpa using f,by simpa using g,by rw[e];simp;omega,by simpa using p⟩}}
theorem zKb {h:Host}{q:Int}(a:0<=q):(zbG h q).1<0↔zeR h.Mons q=0:=by unfold zbG;rw[show ilt q 0=false from qH (by omega),cond_false];exact(zAJ h.Mons 0).1
theorem z7t {h:Host}(H:HOk h){q:Int}(j:0<=q)(c:¬ (zbG h q).1<0):hasB (zbG h q).1 (ln h.Mons)=true/\hasB (zbG h q).2 8=true/\(ix (ix h.Mons (zbG h q).1 mZ).Outer (zbG h q).2 sZ).Page=q:=by unfold zbG at c ⊢;rw[show ilt q 0=false from qH (by omega),cond_false]at c ⊢;obtain⟨a,b,d,f,e,g⟩:=(zAJ h.Mons 0).2 c;rw[e,j7];have i:=(H.mons _ (jL d)).o8;exact⟨zI.2 (by unfold ln;simp;omega),zI.2 (by simp;omega),by rw[zmz d,zmz f];exact g⟩
theorem zVm {P:Nat->Bool}:∀{n i:Nat} {q:Int},q∈zxF P n i↔∃k:Nat,q=(k:Int)/\i<=k/\k<i+n/\P k=true
 | 0,i,q=>by simp[zxF];intro k _ _ _;omega
 |n+1,i,q=>by
  have d:=@zVm P n (i+1) q;unfold zxF;constructor
  .intro h;cases c:P i with
   |true=>rw[c,cond_true,qG]at h;rcases h with h|h;{exact⟨i,h,by omega,by omega,c⟩};{obtain⟨k,a,f,g,b⟩:=d.1 h;exact⟨k,a,by omega,by omega,b⟩}
   |false=>rw[c,cond_false]at h;obtain⟨k,a,f,g,b⟩:=d.1 h;exact⟨k,a,by omega,by omega,b⟩
  {rintro⟨k,a,f,g,b⟩;by_cases e:k=i;{subst e;rw[b,cond_true,a];exact jC};{have:=d.2 ⟨k,a,by omega,by omega,b⟩;cases P i;{exact this};{exact qZ _ this}}}
theorem zJa {h:Host}{q:Int}:q∈zch h↔hasB q (ln h.Memory)=true/\zeR h.Mons q=0:=by unfold zch;rw[zVm];constructor;{rintro⟨k,rfl,b,c,d⟩;exact⟨zI.2 (by unfold ln;omega),(zKb (by omega)).1 (qE d)⟩};{rintro⟨b,c⟩;have a:=zI.1 b;unfold ln at a;refine⟨q.toNat,by omega,by omega,by omega,?_⟩;rw[show ((q.toNat:Nat):Int)=q by omega];exact qJ ((zKb a.1).2 c)}
theorem z1k {h:Host}(a:zch h≠[]):hasB (ix (zch h) 0 0) (ln h.Memory)=true/\zeR h.Mons (ix (zch h) 0 0)=0:=by refine zJa.1 (zlI (zI.2 ⟨by omega,?_⟩) 0);unfold ln;have:=kR.2 a;omega
structure But (h r:Host) (m p:Int):Prop where
 ne:∀i k,hasB i (ln h.Mons)=true->hasB k 8=true->¬ (i=m/\k=p)->ix (ix r.Mons i mZ).Outer k sZ=ix (ix h.Mons i mZ).Outer k sZ
theorem zIQ {h r:Host}{m p:Int}(a:hasB m (ln h.Mons)=true)(j:hasB p 8=true){x:Mon}{s:Slot}(b:r.Mons=up h.Mons m x)(g:x.Outer=up (ix h.Mons m mZ).Outer p s):But h r m p:=by refine⟨fun i k d f c=>?_⟩;rw[b];by_cases e:m=i;{subst e;rw[zbe a,g,zbs (zI.1 j).1 (zI.1 f).1 (fun e=>c ⟨rfl,e.symm⟩)]};{rw [zbs (zI.1 a).1 (zI.1 d).1 e]}
theorem z5s {h:Host}(H:HOk h){m p:Int}(a:hasB m (ln h.Mons)=true)(c:hasB p 8=true):But h (zdq h m p) m p/\ix (ix (zdq h m p).Mons m mZ).Outer p sZ=noSlot:=by have b:(zdq h m p).Mons=up h.Mons m (zjK {ix h.Mons m mZ with Out:=up (ix h.Mons m mZ).Out p (zct h.Memory (ix (ix h.Mons m mZ).Outer p sZ).Page)} p noSlot):=zpG a rfl;refine⟨zIQ a c b rfl,?_⟩;rw[b,zbe a];exact zbe ((H.mon a).hasO c) _ _
structure Roomy (h r:Host):Prop where
 op:Op h r
 free:zch r≠[]
 sl:∀i k,hasB i (ln h.Mons)=true->hasB k 8=true->ix (ix r.Mons i mZ).Outer k sZ=ix (ix h.Mons i mZ).Outer k sZ\/ix (ix r.Mons i mZ).Outer k sZ=noSlot
 dirt:∀i,(ix r.Mons i mZ).Dirty=(ix h.Mons i mZ).Dirty
theorem zOD {h r:Host}{m:Int}(c:hasB m (ln h.Mons)=true){x:Mon}(a:r.Mons=up h.Mons m x)(b:x.Dirty=(ix h.Mons m mZ).Dirty)(i:Int):(ix r.Mons i mZ).Dirty=(ix h.Mons i mZ).Dirty:=by
 rw[a];by_cases e:i.toNat=m.toNat
 {have:∀l:List Mon,ix l i mZ=ix l m mZ:=fun l=>(by unfold ix;rw[e]);rw[this,this,zbe c,b]};{unfold ix up;simp[List.getD,q9,Ne.symm e]}
theorem roomy {h:Host}(H:HOk h):Roomy h (zc8 h):=by unfold zc8;by_cases b:zch h=[];{rw [show ieq (ln (zch h)) 0=true by rw[b];rfl,cond_true];have p:¬ (zbG h 0).1<0:=fun d=>(by have:(0:Int)∈zch h:=zJa.2 ⟨zI.2 (by unfold ln;rw[H.m12];omega),(zKb (by omega)).1 d⟩;rw[b] at this;cases this);obtain⟨a,c,f⟩:=z7t H (by omega) p;have k:=zZ6 H a c (by rw[f];decide);have j:=z5s H a c;refine⟨k,fun d=>?_,fun i q g r=>?_,fun i=>zOD (x:=zjK {ix h.Mons (zbG h 0).1 mZ with Out:=up (ix h.Mons (zbG h 0).1 mZ).Out (zbG h 0).2 (zct h.Memory (ix (ix h.Mons (zbG h 0).1 mZ).Outer (zbG h 0).2 sZ).Page)} (zbG h 0).2 noSlot) a (zpG a rfl) rfl i⟩;{have:(0:Int)∈zch (zdq h (zbG h 0).1 (zbG h 0).2):=(by refine zJa.2 ⟨zI.2 (by unfold ln;rw[k.ok.m12];omega),?_⟩;have n:(zdq h (zbG h 0).1 (zbG h 0).2).Mons=up h.Mons (zbG h 0).1 (zjK {ix h.Mons (zbG h 0).1 mZ with Out:=up (ix h.Mons (zbG h 0).1 mZ).Out (zbG h 0).2 (zct h.Memory (ix (ix h.Mons (zbG h 0).1 mZ).Outer (zbG h 0).2 sZ).Page)} (zbG h 0).2 noSlot):=zpG a rfl;have l:=zzF a (zjK {ix h.Mons (zbG h 0).1 mZ with Out:=up (ix h.Mons (zbG h 0).1 mZ).Out (zbG h 0).2 (zct h.Memory (ix (ix h.Mons (zbG h 0).1 mZ).Outer (zbG h 0).2 sZ).Page)} (zbG h 0).2 noSlot) 0;rw[<- n] at l;have m:=zUz (x':=zjK {ix h.Mons (zbG h 0).1 mZ with Out:=up (ix h.Mons (zbG h 0).1 mZ).Out (zbG h 0).2 (zct h.Memory (ix (ix h.Mons (zbG h 0).1 mZ).Outer (zbG h 0).2 sZ).Page)} (zbG h 0).2 noSlot) ((H.mon a).hasO c) (s:=noSlot) rfl 0;rw[if_pos f,if_neg (by decide)] at m;have t:=H.uq 0 (by omega);omega);rw[d] at this;cases this};{by_cases e:i=(zbG h 0).1/\q=(zbG h 0).2;{rw [e.1,e.2];exact .inr j.2};{exact .inl (j.1.ne i q g r e)}}};{have:ieq (ln (zch h)) 0=false:=zbX.2 (by unfold ln;have:=kR.2 b;omega);rw[this,cond_false];exact⟨Op.refl H,b,fun i k g u=>.inl rfl,fun _=>rfl⟩}
theorem zZz {m:List (List Int)}{p:Int}{c:List Int}(b:hasB p (ln m)=true)(a:zci c=true):zhu m p c=up m p c:=by unfold zhu;rw[b,a];rfl
theorem zEp {m:List (List Int)}{p q:Int}{c:List Int}(a:0<=p)(h:q≠p):zct (up m p c) q=zct m q:=by unfold zct;rw[zc5];cases b:hasB q (ln m) with|false=>rfl|true=>rw[cond_true,cond_true,zbs a (zI.1 b).1 (Ne.symm h)]
theorem zuQ {m:List (List Int)}{p:Int}{c:List Int}(a:hasB p (ln m)=true):zct (up m p c) p=c:=by rw[zk2 (by rw[zc5];exact a),zbe a]
theorem z1R {h:Host}(H:HOk h){m p a:Int}(d:hasB m (ln h.Mons)=true)(f:hasB p 8=true)(z:(ix (ix h.Mons m mZ).Outer p sZ).Page = -1)(u:hasB a (ln h.Memory)=true)(B:zeR h.Mons a=0) :
 Op h (zeH h m p a)/\But h (zeH h m p a) m p/\ix (ix (zeH h m p a).Mons m mZ).Outer p sZ=⟨a,3⟩/\∀i,(ix (zeH h m p a).Mons i mZ).Dirty=(ix h.Mons i mZ).Dirty:=by
 have X:=H.mon d;have g:=zI.1 u;unfold ln at g;rw[H.m12]at g;have l:(zeH h m p a).Mons=up h.Mons m (zjK {ix h.Mons m mZ with Out:=up (ix h.Mons m mZ).Out p []} p ⟨a,3⟩):=zpG d rfl;have k:Chg (ix h.Mons m mZ) (zjK {ix h.Mons m mZ with Out:=up (ix h.Mons m mZ).Out p []} p ⟨a,3⟩) p ⟨a,3⟩ []:=zDB rfl rfl rfl rfl rfl rfl rfl rfl rfl;have j:=((zp0 (X.slot f)).1 (X.fit p f)).1 z;have b:(zeH h m p a).Memory=up h.Memory a (ix (ix h.Mons m mZ).Out p []):=by show (zcm (landing h m p a) m p ⟨a,3⟩).Memory=_;rw[zx2];exact zZz u j
 have A:SOk ⟨a,3⟩:=.inr ⟨g.1,by show a<=11;omega,by show (1:Int)<=3;omega,by show (3:Int)<=3;omega⟩
 have w:=zvv (h:=landing h m p a) (m:=m) (p:=p) (s:=⟨a,3⟩) H.b1 H.b2;refine⟨⟨zxg H d f l k A ((zp0 A).2 ⟨fun h=>absurd h (by show a≠-1;omega),fun _=>⟨show enough 3 1=true by decide,rfl⟩⟩) (by rw[b,zbO];exact H.m12) (fun c r=>?_) w.1 w.2 (fun _=>.inr B),
  zwc H d f l k ?_ (fun i q y D r C=>?_),fun R=>?_⟩,zIQ d f l rfl,?_,fun i=>zOD (x:=zjK {ix h.Mons m mZ with Out:=up (ix h.Mons m mZ).Out p []} p ⟨a,3⟩) d l rfl i⟩
 .rw [b]at r;rcases qY r with n|n
  .exact H.pgs c n
  .rw [n];exact j
 .rw [znR d f (X.hasO f),zbq.2 z,cond_true,zk2 (X.hasU f)];rw[show ieq (⟨a,3⟩:Slot).Page (-1)=false from zbX.2 (by show a≠-1;omega),cond_false,b]
  exact zuQ u
 .rw [b];refine zEp g.1 (fun e=>?_);have:=zIR y ((H.mon y).hasO D);rw[e] at this;omega
 .have R1:Rt (landing h m p a):=zNE (x:={ix h.Mons m mZ with Out:=up (ix h.Mons m mZ).Out p []}) R d rfl rfl rfl rfl (fun _ _=>rfl) rfl rfl;have t:hasB m (ln (landing h m p a).Mons)=true:=by show hasB m (ln (up h.Mons m _))=true;rw[zc5];exact d
  have v:ix (landing h m p a).Mons m mZ={ix h.Mons m mZ with Out:=up (ix h.Mons m mZ).Out p []}:=zbe d _ _;exact zAQ R1 t (by rw[v];exact X.hasO f) (by rw[v];exact X.gt) _
 .rw [l,zbe d];exact zbe (X.hasO f) _ _
theorem zNq {h:Host}(H:HOk h){m p:Int}(f:hasB m (ln h.Mons)=true)(g:hasB p 8=true)(k:(ix (ix h.Mons m mZ).Outer p sZ).Page = -1) :
 Op h (fetched h m p)/\(∃e,0<=e/\e<=11/\ix (ix (fetched h m p).Mons m mZ).Outer p sZ=⟨e,3⟩)/\∀i,(ix (fetched h m p).Mons i mZ).Dirty=(ix h.Mons i mZ).Dirty:=by
 have R:=roomy H;have c:hasB m (ln (zc8 h).Mons)=true:=by rw[R.op.like.has];exact f
 have d:(ix (ix (zc8 h).Mons m mZ).Outer p sZ).Page = -1:=by rcases R.sl m p f g with b|b<;>rw [b];{exact k};{rfl}
 obtain⟨b,j⟩:=z1k R.free;obtain⟨l,r,n,q⟩:=z1R R.op.ok c g d b j;have a:=zI.1 b;unfold ln at a;rw[R.op.ok.m12]at a;exact⟨R.op.trans l,⟨_,a.1,by omega,n⟩,fun i=>(q i).trans (R.dirt i)⟩
theorem zln {o:List Slot}{p:Int}(h:hasB p (ln o)=true):zbv o p=ix o p sZ:=by unfold zbv;rw[h];rfl
theorem zk4 {h:Host}(H:HOk h){m p:Int}(a:hasB m (ln h.Mons)=true)(b:hasB p 8=true) :
 (cond (ieq (ix (ix h.Mons m mZ).Outer p sZ).Page (-1)) (ix (ix h.Mons m mZ).Out p []) (zct h.Memory (ix (ix h.Mons m mZ).Outer p sZ).Page))=zcd h m p:=by
 rw[znR a b ((H.mon a).hasO b),zk2 ((H.mon a).hasU b)]
structure Mark (x y:Mon):Prop where
 o:y.Outer=x.Outer
 u:y.Out=x.Out
 g:y.Guests=x.Guests
 t:y.Tables=x.Tables
 d:y.Dirty.length=x.Dirty.length
 a1:y.Outs=x.Outs
 a2:y.Pending=x.Pending
 a3:y.Traps=x.Traps
 a4:y.Own=x.Own
theorem zZ5 {h:Host}(H:HOk h){m:Int}(b:hasB m (ln h.Mons)=true){y:Mon}(k:Mark (ix h.Mons m mZ) y):Op h {h with Mons:=up h.Mons m y}/\∀i q,ix (ix (up h.Mons m y) i mZ).Outer q sZ=ix (ix h.Mons i mZ).Outer q sZ:=by
 have X:=H.mon b;have a:hasB 0 8=true:=(by decide);have c:Chg (ix h.Mons m mZ) y 0 (ix (ix h.Mons m mZ).Outer 0 sZ) (ix (ix h.Mons m mZ).Out 0 []):=⟨by rw[zKI (X.hasO a),k.o],by rw[zKI (X.hasU a),k.u],k.g,by rw[k.t],k.d,k.a1,k.a2,k.a3,k.a4⟩
 refine⟨⟨zxg H b a rfl c (X.slot a) (X.fit 0 a) H.m12 H.pgs H.b1 H.b2 (fun _=>.inl rfl),zwc H b a rfl c (zk4 H b a) (fun _ _ _ _ _ _=>rfl),
  fun R=>zNE R b rfl rfl rfl (by rw[k.g]) (fun g _=>by rw[k.g]) k.t k.o⟩,fun i q=>?_⟩
 by_cases e:i.toNat=m.toNat
 {have:∀l:List Mon,ix l i mZ=ix l m mZ:=fun l=>(by unfold ix;rw[e]);rw[this,this,zbe b,k.o]};{have:ix (up h.Mons m y) i mZ=ix h.Mons i mZ:=(by unfold ix up;simp[List.getD,q9,Ne.symm e]);rw[this]}
theorem zNp {h:Host}(H:HOk h){m:Int}(a:hasB m (ln h.Mons)=true)(p:Int):Op h (zbI h m p)/\∀i q,ix (ix (zbI h m p).Mons i mZ).Outer q sZ=ix (ix h.Mons i mZ).Outer q sZ :=
 zZ5 H a ⟨rfl,rfl,rfl,rfl,zbO _ _ _,rfl,rfl,rfl,rfl⟩
theorem z4O {h:Host}(H:HOk h){m:Int}(a:hasB m (ln h.Mons)=true)(p:Int):Op h (zqL h m p)/\∀i q,ix (ix (zqL h m p).Mons i mZ).Outer q sZ=ix (ix h.Mons i mZ).Outer q sZ :=
 zZ5 H a ⟨rfl,rfl,rfl,rfl,zbO _ _ _,rfl,rfl,rfl,rfl⟩
theorem rights {r:Int}(a:1<=r)(b:r<=3):r=1\/r=2\/r=3:=by omega
theorem MOk.enough1 {x:Mon}(X:MOk x){p:Int}(a:hasB p 8=true)(d:(ix x.Outer p sZ).Page≠-1):(ix x.Outer p sZ).Rights=1\/(ix x.Outer p sZ).Rights=3:=by have b:=(((zp0 (X.slot a)).1 (X.fit p a)).2 d).1;have c:=(X.slot a).pos d;rcases rights c.2.2.1 c.2.2.2 with e|e|e;{exact .inl e};{rw [e]at b;exact absurd b (by decide)};{exact .inr e}
theorem zR8 {h:Host}(H:HOk h){m p:Int}(c:hasB m (ln h.Mons)=true)(b:hasB p 8=true)(g:(ix (ix h.Mons m mZ).Outer p sZ).Page≠-1){r:Int}(n:r=1\/r=3) :
 Op h (zcm h m p ⟨(ix (ix h.Mons m mZ).Outer p sZ).Page,r⟩)/\But h (zcm h m p ⟨(ix (ix h.Mons m mZ).Outer p sZ).Page,r⟩) m p/\
  ix (ix (zcm h m p ⟨(ix (ix h.Mons m mZ).Outer p sZ).Page,r⟩).Mons m mZ).Outer p sZ=⟨(ix (ix h.Mons m mZ).Outer p sZ).Page,r⟩/\∀i,(ix (zcm h m p ⟨(ix (ix h.Mons m mZ).Outer p sZ).Page,r⟩).Mons i mZ).Dirty=(ix h.Mons i mZ).Dirty:=by
 have X:=H.mon c;have d:=(X.slot b).pos g;have e:=zs6 h m p ⟨(ix (ix h.Mons m mZ).Outer p sZ).Page,r⟩;have k:Chg (ix h.Mons m mZ) (zjK (ix h.Mons m mZ) p ⟨(ix (ix h.Mons m mZ).Outer p sZ).Page,r⟩) p ⟨(ix (ix h.Mons m mZ).Outer p sZ).Page,r⟩ (ix (ix h.Mons m mZ).Out p []):=
  zDB rfl (zKI (X.hasU b) _).symm rfl rfl rfl rfl rfl rfl rfl
 have l:SOk ⟨(ix (ix h.Mons m mZ).Outer p sZ).Page,r⟩:=.inr ⟨d.1,d.2.1,by show 1<=r;omega,by show r<=3;omega⟩
 have f:=((zp0 (X.slot b)).1 (X.fit p b)).2 g;have j:=zvv (h:=h) (m:=m) (p:=p) (s:=⟨(ix (ix h.Mons m mZ).Outer p sZ).Page,r⟩) H.b1 H.b2;have a:=zx2 h m p ⟨(ix (ix h.Mons m mZ).Outer p sZ).Page,r⟩;refine⟨⟨zxg H c b e k l ((zp0 l).2 ⟨fun h=>absurd h g,fun _=>⟨?_,f.2⟩⟩) (by rw[a];exact H.m12) (by rw[a];exact H.pgs) j.1 j.2 (fun _=>.inl rfl),
  zwc H c b e k (by rw[a];exact zk4 H c b) (fun i q _ _ _ _=>by rw[a]),fun R=>zAQ R c (X.hasO b) X.gt _⟩,zIQ c b e rfl,?_,fun i=>zOD c e rfl i⟩
 .show enough r 1=true
  rcases n with rfl|rfl<;>decide
 .rw [e,zbe c];exact zbe (X.hasO b) _ _
structure Mended (h r:Host) (m p n:Int):Prop where
 op:Op h r
 inn:(ix (ix r.Mons m mZ).Outer p sZ).Page≠-1
 ri:ieq (wand .i64 n 2) 0=false->(ix (ix r.Mons m mZ).Outer p sZ).Rights=3
 dt:ieq (wand .i64 n 2) 0=false->ix (ix r.Mons m mZ).Dirty p false=true
 d0:ieq (wand .i64 n 2) 0=true->(ix r.Mons m mZ).Dirty=(ix h.Mons m mZ).Dirty
 dk:∀k,hasB k 8=true->k≠p->ix (ix r.Mons m mZ).Dirty k false=ix (ix h.Mons m mZ).Dirty k false
 dm:∀i,hasB i (ln h.Mons)=true->i≠m->(ix r.Mons i mZ).Dirty=(ix h.Mons i mZ).Dirty
theorem zWt {h:Host}(H:HOk h){m p:Int}(n:Int)(c:hasB m (ln h.Mons)=true)(g:hasB p 8=true)(v:(ix (ix h.Mons m mZ).Outer p sZ).Page≠-1):Mended h (zjw h m p n) m p n:=by
 unfold zjw;cases s:ieq (wand .i64 n 2) 0 with
 |true=>exact⟨Op.refl H,v,fun e=>(Bool.noConfusion (s.symm.trans e)),fun e=>(Bool.noConfusion (s.symm.trans e)),fun _=>rfl,fun _ _ _=>rfl,fun _ _ _=>rfl⟩
 |false=>rw[cond_false];obtain⟨f,C⟩:=zNp H c p;have d:hasB m (ln (zbI h m p).Mons)=true:=(by rw[f.like.has];exact c);have a:(ix (ix (zbI h m p).Mons m mZ).Outer p sZ).Page≠-1:=(by rw[C];exact v);have u:(ix (zbI h m p).Mons m mZ).Dirty=up (ix h.Mons m mZ).Dirty p true:=(by show (ix (up h.Mons m _) m mZ).Dirty=_;rw[zbe c]);have l:∀i,hasB i (ln h.Mons)=true->i≠m->(ix (zbI h m p).Mons i mZ).Dirty=(ix h.Mons i mZ).Dirty:=fun i q b=>(by show (ix (up h.Mons m _) i mZ).Dirty=_;rw[zbs (zI.1 c).1 (zI.1 q).1 (Ne.symm b)]);have A:=(f.ok.mon d).enough1 g a;have t:∀r:Host,(∀i,(ix r.Mons i mZ).Dirty=(ix (zbI h m p).Mons i mZ).Dirty)->Op (zbI h m p) r->(ix (ix r.Mons m mZ).Outer p sZ).Page≠-1->(ix (ix r.Mons m mZ).Outer p sZ).Rights=3->Mended h r m p n:=(by intro r j x y z;refine⟨f.trans x,y,fun _=>z,fun _=>?_,fun e=>(Bool.noConfusion (s.symm.trans e)),fun k B b=>?_,fun i q b=>by rw[j,l i q b]⟩;{rw [j,u,zbe ((H.mon c).hasD g)]};{rw [j,u,zbs (zI.1 g).1 (zI.1 B).1 (Ne.symm b)]});unfold opened;rcases A with e|e;{rw [e,show ieq (wand .i64 1 2) 0=true by decide,cond_true];obtain⟨D,F,w,E⟩:=zR8 f.ok d g a (r:=3) (.inr rfl);exact t _ E D (by rw[w];exact a) (by rw[w])};{rw [e,show ieq (wand .i64 3 2) 0=false by decide,cond_false];exact t _ (fun _=>rfl) (Op.refl f.ok) a e}
theorem zEo {h:Host}(H:HOk h){m p:Int}(n:Int)(c:hasB m (ln h.Mons)=true)(d:hasB p 8=true):Mended h (mended h m p n) m p n:=by unfold mended;by_cases e:(ix (ix h.Mons m mZ).Outer p sZ).Page = -1;{rw [zbq.2 e,cond_true];obtain⟨a,⟨q,r,s,l⟩,f⟩:=zNq H c d e;have K:=zWt a.ok n (by rw[a.like.has];exact c) d (by rw[l];show q≠-1;omega);exact⟨a.trans K.op,K.inn,K.ri,K.dt,fun e=>by rw[K.d0 e,f],fun k j b=>by rw[K.dk k j b,f],fun i g b=>by rw[K.dm i (by rw[a.like.has];exact g) b,f]⟩};{rw [zbX.2 e,cond_false];exact zWt H n c d e}
theorem zk3 {h:Host}{m p:Int}:zb8 h m p=true↔HOk h/\hasB m (ln h.Mons)=true/\hasB p 8=true:=by unfold zb8;rw[zbY,zbY,zj9]
theorem z1S {h:Host}(H:HOk h)(m p:Int):Op h (zqb h m p):=by unfold zqb;cases a:zb8 h m p with|false=>exact Op.refl H|true=>obtain⟨_,b,c⟩:=zk3.1 a;rw[cond_true];unfold zkv;by_cases e:(ix (ix h.Mons m mZ).Outer p sZ).Page = -1;{rw [zbq.2 e];exact Op.refl H};{rw [zbX.2 e];exact zZ6 H b c e}
theorem z4N {h:Host}(H:HOk h)(m p:Int):Op h (zuR h m p):=by unfold zuR;cases a:zb8 h m p with|false=>exact Op.refl H|true=>obtain⟨_,b,c⟩:=zk3.1 a;rw[cond_true];unfold zkv;by_cases e:(ix (ix h.Mons m mZ).Outer p sZ).Page = -1;{rw [zbq.2 e];exact(zNq H b c e).1};{rw [zbX.2 e];exact Op.refl H}
theorem z4M {h:Host}(H:HOk h)(m p:Int):Op h (zut h m p):=by unfold zut;cases g:zb8 h m p with|false=>exact Op.refl H|true=>obtain⟨_,b,c⟩:=zk3.1 g;rw[cond_true];obtain⟨a,d⟩:=z4O H b p;(cases e:zcU (ix (ix h.Mons m zi).Outer p zV) noSlot with|true=>exact a|false=>rw[cond_false];have i:(ix (ix h.Mons m mZ).Outer p sZ).Page≠-1:=fun f=>zsm.1 e (((H.mon b).slot c).none f);have:=zR8 a.ok (m:=m) (p:=p) (by rw[a.like.has];exact b) c (by rw[d];exact i) (r:=1) (.inl rfl);rw[d m p] at this;exact a.trans this.1)
structure KeepP (x y:Mon):Prop where
 o:y.Outer=x.Outer
 u:y.Out=x.Out
theorem zNw {h r:Host}{m:Int}(b:hasB m (ln h.Mons)=true){y:Mon}(c:r.Mons=up h.Mons m y)(a:r.Memory=h.Memory)(k:KeepP (ix h.Mons m mZ) y)(i q:Int):zcd r i q=zcd h i q:=by unfold zcd;rw[c,zc5,a];cases d:hasB i (ln h.Mons) with|false=>rfl|true=>by_cases e:m=i;{subst e;rw[zbe b,k.o,k.u]};{rw [zbs (zI.1 b).1 (zI.1 d).1 e]}
theorem zvr {h r:Host}{m:Int}(b:hasB m (ln h.Mons)=true){y:Mon}(c:r.Mons=up h.Mons m y)(a:r.Memory=h.Memory)(k:KeepP (ix h.Mons m mZ) y)(i:Int) :
 zC r i=bif ieq i m then ⟨(zC h i).Memory,y.Guests,y.Outs,y.Pending⟩ else zC h i:=by
 have f:zcw r i 8 0=zcw h i 8 0:=zq5 8 0 (fun j _ _=>zNw b c a k i j);unfold zC;rw[f,c,zc5]
 by_cases e:i=m
 .subst e;rw[b,zbq.2 rfl,zbe b];rfl
 .rw [zbX.2 e,cond_false];cases d:hasB i (ln h.Mons) with
  |false=>rfl
  |true=>rw[zbs (zI.1 b).1 (zI.1 d).1 (Ne.symm e)]
theorem zkX {x y:Mon}(X:MOk x)(k:KeepP x y)(g:y.Guests.length=x.Guests.length)(t:y.Tables.length=x.Tables.length)(d:y.Dirty.length=x.Dirty.length)(o:y.Outs.length<=40)(p:zc6 y.Pending=true)(tr:win y.Traps 0 3=true)(b:win y.Own 0 1000000000=true)(a:∀g∈y.Guests,zc4 g=true):MOk y :=
 ⟨by rw[g];exact X.g1,by rw[g];exact X.g2,by rw[t,g];exact X.gt,by rw[k.o];exact X.o8,by rw[k.o];exact X.sl,by rw[k.u];exact X.u8,by rw[d];exact X.d8,o,p,tr,b,a,by rw[k.o,k.u];exact X.fit⟩
theorem zVd {h:Host}(H:HOk h){m:Int}(a:hasB m (ln h.Mons)=true){y:Mon}(k:KeepP (ix h.Mons m mZ) y)(b:MOk y):HOk {h with Mons:=up h.Mons m y} :=
 H.up a b rfl H.m12 H.pgs H.b1 H.b2 fun q _=>.inl (by unfold cPg;rw[k.o];exact qW _)
theorem zxc {h:Host}(S:Safe h){m:Int}(a:hasB m (ln h.Mons)=true){y:Mon}(k:KeepP (ix h.Mons m mZ) y)(d:MOk y)(hg:y.Guests.length=(ix h.Mons m mZ).Guests.length)(c:∀g,hasB g (ln (ix h.Mons m mZ).Guests)=true->(ix y.Guests g gZ).Live=(ix (ix h.Mons m mZ).Guests g gZ).Live)(b:y.Tables=(ix h.Mons m mZ).Tables):Safe {h with Mons:=up h.Mons m y} :=
 ⟨zVd S.ok a k d,zNE S.rt a rfl rfl rfl hg c b k.o⟩
theorem zTN {h:Host}(S:Safe h)(m t:Int):Safe (zjJ h m t)/\∀i,zC (zjJ h m t) i=zC h i:=by
 unfold zjJ;rw[zj9.2 S.ok,cond_true];cases a:hasB m (ln h.Mons) with
 |false=>exact⟨S,fun _=>rfl⟩
 |true=>
  cases b:win t 0 3 with
  |false=>exact⟨S,fun _=>rfl⟩
  |true=>have X:=S.ok.mon a;have k:KeepP (ix h.Mons m mZ) {ix h.Mons m mZ with Traps:=t}:=⟨rfl,rfl⟩;refine⟨zxc S a k (zkX X k rfl rfl rfl X.outs X.pend b X.own X.gs) rfl (fun _ _=>rfl) rfl,fun i=>?_⟩;rw[cond_true,cond_true];refine(zvr (h:=h) (r:={h with Mons:=up h.Mons m {ix h.Mons m mZ with Traps:=t}}) a rfl rfl k i).trans ?_;by_cases e:i=m;{subst e;rw[zbq.2 rfl,cond_true];unfold zC;rw[a];rfl};{rw [zbX.2 e];rfl}
theorem zHU:∀(n i:Nat) (k:Kept),(ziD n i k).Known.length=k.Known.length/\(ziD n i k).Slots.length=k.Slots.length
 | 0,i,k=>⟨rfl,rfl⟩
 |n+1,i,k=>by have a:=zHU n (i+1) (zbR k (i:Int));have b:=zkN k (i:Int);exact⟨a.1.trans b.1,a.2.trans b.2⟩
theorem zLV:∀(n i:Nat) (k:Kept),k.Known.length=k.Slots.length->∀j,hasB j (ln k.Known)=true->
 ((i:Int)<=j/\j<((i+n:Nat):Int)->ix (ziD n i k).Known j false=false/\ix (ziD n i k).Slots j sZ=noSlot)/\
 (¬ ((i:Int)<=j/\j<((i+n:Nat):Int))->ix (ziD n i k).Known j false=ix k.Known j false/\ix (ziD n i k).Slots j sZ=ix k.Slots j sZ)
 | 0,i,k,_,j,_=>⟨fun h=>by omega,fun _=>⟨rfl,rfl⟩⟩
 |n+1,i,k,g,j,f=>by have b:=zkN k (i:Int);have d:=zxD (q:=(i:Int)) g f;have c:=zLV n (i+1) (zbR k (i:Int)) (by rw[b.1,b.2,g]) j (by unfold ln at f ⊢;rwa [b.1]);rw[ziD];by_cases a:((i+1:Nat):Int)<=j/\j<((i+1+n:Nat):Int);{exact⟨fun _=>c.1 a,fun h=>absurd (by omega) h⟩};{rw [(c.2 a).1,(c.2 a).2,d.1,d.2];by_cases e:(i:Int)=j;{rw [zbq.2 e];exact⟨fun _=>⟨rfl,rfl⟩,fun h=>absurd (by omega) h⟩};{rw [zbX.2 e];exact⟨fun h=>absurd (by omega) a,fun _=>⟨rfl,rfl⟩⟩}}
theorem zSY {k:Kept}{a b:List Slot}(h:KOk k a b):KOk (zjk k) a b:=by have e:=zHU k.Known.length 0 k;refine⟨e.1.trans h.l1,e.2.trans h.l2,fun i f=>?_⟩;have c:hasB i (ln k.Known)=true:=(by unfold ln at f ⊢;rwa [h.l1]);have d:=zI.1 c;unfold ln at d;have:=(zLV k.Known.length 0 k (by rw[h.l1,h.l2]) i c).1 ⟨by omega,by omega⟩;unfold zjk;rw[this.1,this.2];rfl
theorem zLJ:∀(n j:Nat) (l:List Kept),(zvN n j l).length=l.length
 | 0,_,_=>rfl
 |n+1,j,l=>by rw[zvN,zLJ n,zbO]
theorem zUD:∀(n j:Nat) (l:List Kept),j+n<=l.length->∀g,0<=g->ix (zvN n j l) g kZ=if (j:Int)<=g/\g<((j+n:Nat):Int) then zjk (ix l g kZ) else ix l g kZ
 | 0,j,l,_,g,hg=>by rw[if_neg (by omega)];rfl
 |n+1,j,l,a,g,hg=>by rw[zvN,zUD n (j+1) _ (by rw[zbO];omega) g hg];by_cases e:(j:Int)=g;{subst e;rw[if_neg (by omega),if_pos (by omega),zbe (zI.2 ⟨by omega,by unfold ln;omega⟩)]};{rw [zbs (by omega) hg e];by_cases h:((j+1:Nat):Int)<=g/\g<((j+1+n:Nat):Int);{rw [if_pos h,if_pos (by omega)]};{rw [if_neg h,if_neg (by omega)]}}
theorem zLI:∀(n i:Nat) (l:List Mon),(zoa n i l).length=l.length
 | 0,_,_=>rfl
 |n+1,i,l=>by rw[zoa,zLI n,zbO]
theorem zRC:∀(n i:Nat) (l:List Mon),i+n<=l.length->∀m,0<=m->ix (zoa n i l) m mZ=if (i:Int)<=m/\m<((i+n:Nat):Int) then zvO (ix l m mZ) (ix l m mZ).Tables.length 0 else ix l m mZ
 | 0,i,l,_,m,a=>by rw[if_neg (by omega)];rfl
 |n+1,i,l,b,m,a=>by rw[zoa,zRC n (i+1) _ (by rw[zbO];omega) m a];by_cases e:(i:Int)=m;{subst e;rw[if_neg (by omega),if_pos (by omega),zbe (zI.2 ⟨by omega,by unfold ln;omega⟩)]};{rw [zbs (by omega) a e];by_cases h:((i+1:Nat):Int)<=m/\m<((i+1+n:Nat):Int);{rw [if_pos h,if_pos (by omega)]};{rw [if_neg h,if_neg (by omega)]}}
theorem z6f (h:Host){m:Int}(a:hasB m (ln h.Mons)=true):ix (cold h).Mons m mZ=zvO (ix h.Mons m mZ) (ix h.Mons m mZ).Tables.length 0:=by have:=zI.1 a;unfold ln at this;show ix (zoa h.Mons.length 0 h.Mons) m mZ=_;rw[zRC _ _ _ (by omega) m this.1,if_pos (by omega)]
theorem zyo (h:Host):(cold h).Mons.length=h.Mons.length:=zLI _ _ _
theorem zIT (h:Host)(m:Int):hasB m (ln (cold h).Mons)=hasB m (ln h.Mons):=by unfold ln;rw[zyo]
theorem zbab {l a:List Mon}(d:a.length=l.length)(h:∀m,hasB m (ln l)=true->(ix a m mZ).Outer=(ix l m mZ).Outer)(q:Int):zeR a q=zeR l q:=by have:a.map (fun x=>cPg x q)=l.map (fun x=>cPg x q):=(by refine List.ext_getElem (by simp[d]) fun k b c=>?_;simp only[uM]at b c;have:=h (k:Int) (zI.2 ⟨by omega,by unfold ln;omega⟩);rw[zmz b,zmz c] at this;simp[cPg,this]);unfold zeR;rw[this]
theorem zbba {h:Host}(H:HOk h):Op h (cold h):=by have c:∀m,hasB m (ln h.Mons)=true->ix (cold h).Mons m mZ=zvO (ix h.Mons m mZ) (ix h.Mons m mZ).Tables.length 0:=fun m a=>z6f h a;have n:∀i q,zcd (cold h) i q=zcd h i q:=(by intro i q;unfold zcd;rw[zIT];cases b:hasB i (ln h.Mons) with|false=>rfl|true=>rw[c i b];rfl);refine⟨⟨H.m12,H.pgs,by rw[zyo];exact H.n1,by rw[zyo];exact H.n3,rfl,rfl,fun y s=>?_,fun q r=>?_⟩,⟨zyo h,fun i b=>by rw[c i b];rfl,fun i b=>by rw[c i b];rfl,fun i b=>by rw[c i b];rfl,fun i b=>by rw[c i b];rfl,fun i b=>by rw[c i b];rfl,fun i k _ _=>n i k⟩,fun R=>⟨fun m a=>?_,fun e j=>(by cases j),fun e j=>(by cases j)⟩⟩;{obtain⟨m,a,rfl⟩:=zEn s mZ;rw[zIT]at a;rw[c m a];have X:=H.mon a;have k:KeepP (ix h.Mons m mZ) (zvO (ix h.Mons m mZ) (ix h.Mons m mZ).Tables.length 0):=⟨rfl,rfl⟩;exact zkX X k rfl (zLJ _ _ _) rfl X.outs X.pend X.tr X.own X.gs};{rw [zbab (l:=h.Mons) (zyo h) (fun m a=>by rw[c m a];rfl)];exact H.uq q r};{rw [zIT]at a;rw[c m a];have X:=H.mon a;intro g hg;show KOk (ix (zvN (ix h.Mons m mZ).Tables.length 0 (ix h.Mons m mZ).Tables) g kZ) (ix (ix h.Mons m mZ).Guests g gZ).Live (ix h.Mons m mZ).Outer;have d:hasB g (ln (ix h.Mons m mZ).Guests)=true:=hg;have f:=zI.1 d;unfold ln at f;have p:=X.gt;rw[zUD _ _ _ (by omega) g f.1,if_pos (by omega)];exact zSY (R.t m a g d)}
theorem zXq {m g:Int}(c:win m 0 2=true)(hg:win g 0 1=true):zds (zdm m g)=m/\zd6 (zdm m g)=g/\1<=zdm m g/\zdm m g<=6:=by have d:=zcJ.1 c;have e:=zcJ.1 hg;have a:m=0\/m=1\/m=2:=(by omega);have b:g=0\/g=1:=(by omega);rcases a with rfl|rfl|rfl<;>rcases b with rfl|rfl<;>decide
theorem HOk.tag {h:Host}(H:HOk h){m g:Int}(a:hasB m (ln h.Mons)=true)(hg:hasB g (ln (ix h.Mons m mZ).Guests)=true):win m 0 2=true/\win g 0 1=true:=by have b:=zI.1 a;have c:=zI.1 hg;have d:=H.n3;have e:=(H.mon a).g2;unfold ln at b c;exact⟨zcJ.2 (by omega),zcJ.2 (by omega)⟩
theorem zf8 {r:Int}:zcY r=true↔r=0\/r=1\/r=2\/r=3:=by unfold zcY ige ile;rw[qD,qX,qX];omega
theorem zrT {a b:Int}(h:enough a b=true):zcY a=true/\zcY b=true:=by unfold enough at h;rw[zbY,zbY]at h;exact⟨h.1,h.2.1⟩
theorem zUZ {a b c:Int}(d:enough a b=true)(e:enough b c=true):enough a c=true:=by have f:=zf8.1 (zrT d).1;have g:=zf8.1 (zrT d).2;have h:=zf8.1 (zrT e).2;rcases f with rfl|rfl|rfl|rfl<;>rcases g with rfl|rfl|rfl|rfl<;>rcases h with rfl|rfl|rfl|rfl<;>revert d e<;>decide
theorem zX8 {a b n:Int}(g:n=1\/n=2)(c:enough a n=true)(d:enough b n=true):zdV a b≠0/\enough (zdV a b) n=true:=by have e:=zf8.1 (zrT c).1;have f:=zf8.1 (zrT d).1;rcases g with rfl|rfl<;>rcases e with rfl|rfl|rfl|rfl<;>rcases f with rfl|rfl|rfl|rfl<;>revert c d<;>decide
theorem both_ok (a b:Int):zcY (zdV a b)=true:=by
 unfold zdV;cases c:zcY a with
 |false=>rfl
 |true=>
  cases d:zcY b with
  |false=>rfl
  |true=>have c:=zf8.1 c;have d:=zf8.1 d;rcases c with rfl|rfl|rfl|rfl<;>rcases d with rfl|rfl|rfl|rfl<;>decide
theorem zYf {a:Int}(h:zcY a=true):enough a a=true:=by rcases zf8.1 h with rfl|rfl|rfl|rfl<;>decide
theorem zqW {n:Int}(a:n=1\/n=2):enough 0 n=false:=by rcases a with rfl|rfl<;>decide
theorem z0Q {s:Slot}{o:List Slot}(a:s.Page≠-1)(b:(zbv o s.Page).Page≠-1):zbx s o=bif ieq (zdV s.Rights (zbv o s.Page).Rights) 0 then noSlot else ⟨(zbv o s.Page).Page,zdV s.Rights (zbv o s.Page).Rights⟩:=by unfold zbx;rw[zbX.2 a,zbX.2 b];rfl
theorem zpV {s:Slot}{o:List Slot}{n:Int}(c:n=1\/n=2)(h:enough (zbx s o).Rights n=true):s.Page≠-1/\(zbv o s.Page).Page≠-1/\(zbx s o).Page=(zbv o s.Page).Page:=by unfold zbx at h ⊢;by_cases a:s.Page = -1;{rw [zbq.2 a,cond_true]at h;rw[show noSlot.Rights=0 from rfl,zqW c]at h;cases h};{rw [zbX.2 a,cond_false]at h ⊢;by_cases b:(zbv o s.Page).Page = -1;{rw [zbq.2 b,cond_true]at h;rw[show noSlot.Rights=0 from rfl,zqW c]at h;cases h};{rw [zbX.2 b,cond_false]at h ⊢;by_cases d:zdV s.Rights (zbv o s.Page).Rights=0;{rw [zbq.2 d,cond_true]at h;rw[show noSlot.Rights=0 from rfl,zqW c]at h;cases h};{rw [zbX.2 d];exact⟨a,b,rfl⟩}}}
theorem zUE {s:Slot}{o:List Slot}{n:Int}(e:n=1\/n=2)(a:s.Page≠-1)(b:(zbv o s.Page).Page≠-1)(c:enough s.Rights n=true)(d:enough (zbv o s.Page).Rights n=true) :
 (zbx s o).Page=(zbv o s.Page).Page/\enough (zbx s o).Rights n=true:=by
 have:=zX8 e c d;rw[z0Q a b,zbX.2 this.1];exact⟨rfl,this.2⟩
theorem z0R (s:Slot)(o:List Slot):zcY (zbx s o).Rights=true:=by unfold zbx;cases ieq s.Page (-1)<;>cases ieq (zbv o s.Page).Page (-1)<;>cases ieq (zdV s.Rights (zbv o s.Page).Rights) 0<;>first|rfl|exact both_ok _ _
theorem zAe {b:List Entry}{t p:Int}{e:Entry}:e∈zcg b t p↔e∈b/\¬ (e.Tag=t/\e.Page=p):=by unfold zcg;rw[u5];refine and_congr Iff.rfl ?_;unfold zoz;by_cases h:e.Tag=t;{rw [show ine e.Tag t=false by simp[ine,h],cond_false,ztX];simp[h]};{rw [ztX.2 h];simp[h]}
theorem z7z {b:List Entry}{e x:Entry}(h:x∈zqe b e):x∈b\/x=e:=by unfold zqe ap at h;have:x∈zcg b e.Tag e.Page++[e]:=(by cases a:igt (ln (zcg b e.Tag e.Page++[e])) 6 with|true=>rw[a,cond_true]at h;exact kM h|false=>rw[a,cond_false]at h;exact h);rcases jJ.1 this with h|h;{exact .inl (zAe.1 h).1};{exact .inr (qF.1 h)}
theorem zbc9 {n:Nat}(h:n<=100):wsub .i64 (n:Int) 6=(n:Int)-6:=by unfold wsub IntKind.wrap;simp[IntKind.signed,IntKind.bits];omega
theorem zZH {b:List Entry}(h:zeQ b=true)(e:Entry):zeQ (zqe b e)=true:=by have c:=zFM.1 h;have k:(zcg b e.Tag e.Page).length<=6:=qU (uA _ _) c.2;have d:(zcg b e.Tag e.Page++[e]).Pairwise (fun y x=>sameKey x y=false):=(by rw[List.pairwise_append];refine⟨c.1.sublist List.filter_sublist,List.pairwise_singleton _ _,fun x i y j=>?_⟩;rw[qF.1 j];have:=(zAe.1 i).2;unfold sameKey;by_cases a:e.Tag=x.Tag;{rw [zbq.2 a,cond_true,zbX];exact fun f=>this ⟨a.symm,f.symm⟩};{rw [zbX.2 a];rfl});unfold zqe ap;cases g:igt (ln (zcg b e.Tag e.Page++[e])) 6 with|true=>rw[cond_true,zFM];refine⟨d.sublist (List.drop_sublist _ _),?_⟩;unfold dp ln;rw[kD,k9,zbc9 (by omega),vK,kD,k9];omega|false=>rw[cond_false,zFM];refine⟨d,?_⟩;have:=jU g;unfold ln at this;omega
theorem z4w {h r:Host}{m:Int}(c:hasB m (ln h.Mons)=true){y:Mon}(b:r.Mons=up h.Mons m y)(a:r.Memory=h.Memory)(k:KeepP (ix h.Mons m mZ) y)(g:y.Guests=(ix h.Mons m mZ).Guests)(o:y.Outs=(ix h.Mons m mZ).Outs)(p:y.Pending=(ix h.Mons m mZ).Pending)(t:y.Traps=(ix h.Mons m mZ).Traps)(w:y.Own=(ix h.Mons m mZ).Own):Like h r:=by have e:∀{d:Type} (F:Mon->d),F y=F (ix h.Mons m mZ)->∀i,hasB i (ln h.Mons)=true->F (ix r.Mons i mZ)=F (ix h.Mons i mZ):=(by intro d F f i j;rw[b];by_cases e:m=i;{subst e;rw[zbe c];exact f};{rw [zbs (zI.1 c).1 (zI.1 j).1 e]});exact⟨by rw[b,zbO],e Mon.Guests g,e Mon.Outs o,e Mon.Pending p,e Mon.Traps t,e Mon.Own w,fun i q _ _=>zNw c b a k i q⟩
theorem z7C {h:Host}(R:Rt h){m g:Int}(d:hasB m (ln h.Mons)=true)(r:hasB g (ln (ix h.Mons m mZ).Tables)=true){k:Kept}(u:KOk k (ix (ix h.Mons m mZ).Guests g gZ).Live (ix h.Mons m mZ).Outer) :
 Rt {h with Mons:=up h.Mons m {ix h.Mons m mZ with Tables:=up (ix h.Mons m mZ).Tables g k}}:=by
 have f:∀e,zcW h e=true->zcW {h with Mons:=up h.Mons m {ix h.Mons m mZ with Tables:=up (ix h.Mons m mZ).Tables g k}} e=true:=by intro e b;obtain⟨l,n,p⟩:=zfs.1 b;rw[zfs];show hasB (zds e.Tag) (ln (up h.Mons m _))=true/\hasB (zd6 e.Tag) (ln (ix (up h.Mons m _) (zds e.Tag) mZ).Guests)=true/\below' _ (zbx (zbv (ix (ix (up h.Mons m _) (zds e.Tag) mZ).Guests (zd6 e.Tag) gZ).Live e.Page) (ix (up h.Mons m _) (zds e.Tag) mZ).Outer)=true;rw[zc5];refine⟨l,?_⟩;by_cases a:m=zds e.Tag;{rw [<- a]at l n p ⊢;rw[zbe d];exact⟨n,p⟩};{rw [zbs (zI.1 d).1 (zI.1 l).1 a];exact⟨n,p⟩}
 refine⟨fun i s=>?_,fun e b=>f e (R.e1 e b),fun e b=>f e (R.e2 e b)⟩
 show TOk (ix (up h.Mons m _) i mZ)
 have c:hasB i (ln h.Mons)=true:=by have:hasB i (ln (up h.Mons m {ix h.Mons m mZ with Tables:=up (ix h.Mons m mZ).Tables g k}))=true:=s;rwa [zc5] at this
 by_cases a:m=i
 .subst a;rw[zbe d];intro j q
  by_cases e:g=j
  .subst e
   show KOk (ix (up _ g k) g kZ) _ _
   rw[zbe r];exact u
  .show KOk (ix (up _ g k) j kZ) _ _
   rw[zbs (zI.1 r).1 (zI.1 q).1 e];exact R.t m d j q
 .rw [zbs (zI.1 d).1 (zI.1 c).1 a];exact R.t i c
theorem z7q {h:Host}(H:HOk h){m g:Int}(a:hasB m (ln h.Mons)=true)(c:hasB g (ln (ix h.Mons m mZ).Tables)=true){k:Kept}(b:Rt h->KOk k (ix (ix h.Mons m mZ).Guests g gZ).Live (ix h.Mons m mZ).Outer) :
 Op h {h with Mons:=up h.Mons m {ix h.Mons m mZ with Tables:=up (ix h.Mons m mZ).Tables g k}}:=by
 have X:=H.mon a;have kp:KeepP (ix h.Mons m mZ) {ix h.Mons m mZ with Tables:=up (ix h.Mons m mZ).Tables g k}:=⟨rfl,rfl⟩;exact⟨zVd H a kp (zkX X kp rfl (zbO _ _ _) rfl X.outs X.pend X.tr X.own X.gs),z4w (y:={ix h.Mons m mZ with Tables:=up (ix h.Mons m mZ).Tables g k}) a rfl rfl kp rfl rfl rfl rfl rfl,fun R=>z7C R a c (b R)⟩
theorem zMQ {k:Kept}{a b:List Slot}(h:KOk k a b)(p:Int):KOk (filled k a b p) a b:=by unfold filled zdi;cases d:hasB p (ln k.Known) with|false=>exact h|true=>have f:hasB p (ln k.Slots)=true:=(by unfold ln at d ⊢;rw[h.l2,<- h.l1];exact d);have g:hasB p (ln a)=true:=(by unfold ln at d ⊢;rw[<- h.l1];exact d);rw[cond_true,f,cond_true,g,cond_true];refine⟨by rw[zbO];exact h.l1,by rw[zbO];exact h.l2,fun i c=>?_⟩;by_cases e:p=i;{subst e;show ix (up _ p _) p sZ=bif ix (up _ p true) p false then _ else _;rw[zbe f,zbe d];rfl};{show ix (up _ p _) i sZ=bif ix (up _ p true) i false then _ else _;rw[zbs (zI.1 f).1 (zI.1 c).1 e,zbs (zI.1 f).1 (zI.1 c).1 e];exact h.at' i c}
theorem zbbb {h:Host}(H:HOk h){m g:Int}(b:hasB m (ln h.Mons)=true)(hg:hasB g (ln (ix h.Mons m mZ).Guests)=true)(a:Int):Op h (zdL h m g a):=
 z7q H b (by unfold ln;rw[(H.mon b).gt];exact hg) fun R=>zMQ (R.t m b g hg) a
theorem z2Z {k:Kept}{a b:List Slot}(h:KOk k a b){p:Int}(c:hasB p (ln a)=true):ze0 k p=bif ix k.Known p false then zbx (ix a p sZ) b else noSlot:=by have d:hasB p (ln k.Known)=true:=(by unfold ln at c ⊢;rw[h.l1];exact c);have e:hasB p (ln k.Slots)=true:=(by unfold ln at c ⊢;rw[h.l2];exact c);unfold ze0 zhe zdi;rw[d,e,cond_true,cond_true,h.at' p c];cases ix k.Known p false<;>rfl
theorem z0H {k:Kept}{a b:List Slot}(h:KOk k a b){p:Int}(c:hasB p (ln a)=true):ze0 (filled k a b p) p=zbx (ix a p sZ) b:=by rw[z2Z (zMQ h p) c];have d:hasB p (ln k.Known)=true:=(by unfold ln at c ⊢;rw[h.l1];exact c);have e:hasB p (ln k.Slots)=true:=(by unfold ln at c ⊢;rw[h.l2];exact c);have:ix (filled k a b p).Known p false=true:=(by unfold filled zdi;rw[d,e,c];exact zbe d _ _);rw[this];rfl
theorem zbcr {h:Host}(H:HOk h){m g a:Int}(i:Bool)(n:Rt h->zcW h (zT5 h m g a)=true):Op h (zwo h m g a i):=by have f:∀(j k:List Entry),Like h ⟨h.Memory,h.Mons,j,k⟩:=fun _ _=>⟨rfl,fun _ _=>rfl,fun _ _=>rfl,fun _ _=>rfl,fun _ _=>rfl,fun _ _=>rfl,fun _ _ _ _=>rfl⟩;have d:∀(b:List Entry),(∀e∈b,zcW h e=true)->Rt h->∀e∈zqe b (zT5 h m g a),zcW h e=true:=(by intro b l R e c;rcases z7z c with c|c;{exact l e c};{rw [c];exact n R});unfold zwo;cases i;{exact⟨⟨H.m12,H.pgs,H.n1,H.n3,zZH H.b1 _,H.b2,H.mons,H.uq⟩,f _ _,fun R=>⟨R.t,fun e c=>d _ R.e1 R e c,R.e2⟩⟩};{exact⟨⟨H.m12,H.pgs,H.n1,H.n3,H.b1,zZH H.b2 _,H.mons,H.uq⟩,f _ _,fun R=>⟨R.t,R.e1,fun e c=>d _ R.e2 R e c⟩⟩}
theorem z6Q {b:List Entry}{t p:Int}{e:Entry}(h:zvW b t p=some e):e∈b/\e.Tag=t/\e.Page=p:=by unfold zvW at h;have a:=List.find?_some h;rw[zbY,zbq,zbq]at a;exact⟨uN h,a⟩
theorem zjQ {h:Host}{m g:Int}:zbZ h m g=true↔HOk h/\hasB m (ln h.Mons)=true/\hasB g (ln (ix h.Mons m mZ).Guests)=true:=by unfold zbZ;rw[zbY,zbY,zj9]
structure GOk (x:Guest):Prop where
 prog:zc7 x.Prog=true
 a:win x.A 0 99=true
 pc:win x.Pc 0 12=true
 w:zcS x.Written 4 8=true
 l:zcS x.Live 4 8=true
 ctl:zhv x.Ctl=true
 pend:zc6 x.Pending=true
 ex:zg7 x.Exit=true
 seen:ile (ln x.Seen) 40=true
theorem ztV {x:Guest}:zc4 x=true↔GOk x:=by unfold zc4;simp only[qD];exact⟨fun⟨a,b,c,d,e,f,g,h,i⟩=>⟨a,b,c,d,e,f,g,h,i⟩,fun⟨a,b,c,d,e,f,g,h,i⟩=>⟨a,b,c,d,e,f,g,h,i⟩⟩
theorem z5x {s:Slot}:zdD s 8=true↔s=noSlot\/(0<=s.Page/\s.Page<=7/\1<=s.Rights/\s.Rights<=3):=by unfold zdD;rw[zui,zpF,zsm];have:wsub .i64 8 1=7:=(by decide);simp only[this,zui,zcJ];simp[igt];constructor;{rintro (h|⟨h,⟨a,b⟩,c⟩);{exact .inl h};{exact .inr ⟨a,b,c⟩}};{intro h;by_cases d:s=noSlot;{exact .inl d};{rcases h with h|⟨a,b,c⟩;{exact .inl h};{exact .inr ⟨d,⟨a,b⟩,c⟩}}}
theorem HOk.guest {h:Host}(H:HOk h){m g:Int}(a:hasB m (ln h.Mons)=true)(hg:hasB g (ln (ix h.Mons m mZ).Guests)=true):GOk (ix (ix h.Mons m mZ).Guests g gZ):=ztV.1 ((H.mon a).gs _ (zlI hg _))
structure Walked (l:List Slot) (p n q:Int):Prop where
 hp:hasB p (ln l)=true
 pg:(ix l p sZ).Page=q
 q8:hasB q 8=true
 en:enough (ix l p sZ).Rights n=true
theorem walked {x:Guest}(X:GOk x){p n:Int}(a:zfn x.Live p n=true):Walked x.Live p n (zcE x.Live p n):=by have e:zcE x.Live p n=(zbv x.Live p).Page:=(by unfold zcE;rw[a];rfl);unfold zfn at a;by_cases b:(zbv x.Live p).Page = -1;{rw [zbq.2 b]at a;cases a};{rw [zbX.2 b,cond_false,zbY]at a;have c:hasB p (ln x.Live)=true:=(by cases c:hasB p (ln x.Live) with|true=>rfl|false=>exact absurd (by unfold zbv;rw[c];rfl) b);rw[zln c] at e b a;rw[e];have d:=z5x.1 ((zrN.1 X.l).1 _ (zlI c sZ));refine⟨c,rfl,?_,a.1⟩;rcases d with d|d;{rw [d]at b;exact absurd rfl b};{exact zI.2 (by omega)}}
structure Looked (h r:Host) (m g page need q host:Int):Prop where
 op:Op h r
 inn:(ix (ix r.Mons m mZ).Outer q sZ).Page=host
 ne:host≠-1
 en:enough (zbx (ix (ix (ix h.Mons m mZ).Guests g gZ).Live page sZ) (ix r.Mons m mZ).Outer).Rights need=true
 cp:(zbx (ix (ix (ix h.Mons m mZ).Guests g gZ).Live page sZ) (ix r.Mons m mZ).Outer).Page=host
 dk:∀k,hasB k 8=true->k≠q->ix (ix r.Mons m mZ).Dirty k false=ix (ix h.Mons m mZ).Dirty k false
 dq:need=2->ix (ix r.Mons m mZ).Dirty q false=true
 d1:need=1->(ix r.Mons m mZ).Dirty=(ix h.Mons m mZ).Dirty
 dm:∀i,hasB i (ln h.Mons)=true->i≠m->(ix r.Mons i mZ).Dirty=(ix h.Mons i mZ).Dirty
theorem zRZ {h:Host}(S:Safe h){m g a b q:Int}(f:hasB m (ln h.Mons)=true)(hg:hasB g (ln (ix h.Mons m mZ).Guests)=true)(l:b=1\/b=2)(W:Walked (ix (ix h.Mons m mZ).Guests g gZ).Live a b q)(c:Bool)(d:ze0 (zcA h m g) a=zbx (ix (ix (ix h.Mons m mZ).Guests g gZ).Live a sZ) (ix h.Mons m mZ).Outer)(i:enough (ze0 (zcA h m g) a).Rights b=true) :
 Op h (zh1 h m g a c).1/\(zh1 h m g a c).2=((ix (ix h.Mons m mZ).Outer q sZ).Page,true)/\(ix (ix h.Mons m mZ).Outer q sZ).Page≠-1/\(zh1 h m g a c).1.Mons=h.Mons:=by
 rw[d]at i;have e:=zpV l i;rw[W.pg,zln ((S.ok.mon f).hasO W.q8)]at e;refine⟨zbcr S.ok c fun R=>?_,?_,e.2.1,?_⟩
 .obtain⟨t1,t2⟩:=S.ok.tag f hg;obtain⟨j,k,_⟩:=zXq t1 t2;rw[zfs]
  show hasB (zds (zdm m g)) _=true/\hasB (zd6 (zdm m g)) (ln (ix h.Mons (zds (zdm m g)) mZ).Guests)=true/\below' ⟨(ze0 (zcA h m g) a).Page,(ze0 (zcA h m g) a).Rights⟩ (zbx (zbv (ix (ix h.Mons (zds (zdm m g)) mZ).Guests (zd6 (zdm m g)) gZ).Live a) (ix h.Mons (zds (zdm m g)) mZ).Outer)=true
  rw[j,k,zln W.hp,d];exact⟨f,hg,zrR.2 (.inr ⟨rfl,zYf (z0R _ _)⟩)⟩
 .show ((ze0 (zcA h m g) a).Page,true)=_
  rw[d,e.2.2]
 .show (zwo h m g a c).Mons=_
  unfold zwo;cases c<;>rfl
theorem zWh {h:Host}(S:Safe h){m g page need q:Int}(x:hasB m (ln h.Mons)=true)(hg:hasB g (ln (ix h.Mons m mZ).Guests)=true)(D:need=1\/need=2)(W:Walked (ix (ix h.Mons m mZ).Guests g gZ).Live page need q)(N:Bool){b:List Entry}(hb:∀e∈b,zcW h e=true)(hd:need=2->ix (ix h.Mons m mZ).Dirty q false=true) :
 Looked h (zh0 h b m g page need q N).1 m g page need q (zh0 h b m g page need q N).2.1/\(zh0 h b m g page need q N).2.2=true:=by
 have X:=S.ok.mon x;have r:=W.q8;have L:=zln (X.hasO W.q8);unfold zh0;cases K:zhF b m g page need with
 |true=>
  rw[cond_true];unfold zhF at K;cases B:zrW b m g page with
  |none=>rw[B]at K;cases K
  |some e=>rw[B]at K;have A:enough e.Rights need=true:=K;obtain⟨f1,f2,f3⟩:=z6Q B;obtain⟨t1,t2⟩:=S.ok.tag x hg;obtain⟨b1,b2,_⟩:=zXq t1 t2;obtain⟨_,_,v⟩:=zfs.1 (hb e f1);rw[f2,b1,b2,f3,zln W.hp]at v;have T:(⟨e.Host,e.Rights⟩:Slot)≠noSlot:=fun f=>(by have:e.Rights=0:=congrArg Slot.Rights f;rw[this,zqW D]at A;cases A);rcases zrR.1 v with v|⟨v,h4⟩;{exact absurd v T};{have h5:=zUZ h4 A;have f:=zpV D h5;rw[W.pg,L]at f;have O:e.Host=_:=v;refine⟨⟨Op.refl S.ok,f.2.2.symm.trans v.symm,?_,h5,v.symm,fun _ _ _=>rfl,hd,fun _=>rfl,fun _ _ _=>rfl⟩,rfl⟩;show e.Host≠-1;rw[O,f.2.2];exact f.2.1}
 |false=>
  rw[cond_false];have P:=S.rt.t m x g hg;cases y:zeO h m g page need with
  |false=>rw[cond_false];have E:ix (zcA h m g).Known page false=true/\enough (ze0 (zcA h m g) page).Rights need=true:=(by unfold zeO at y;cases n:zhe (zcA h m g) page with|false=>rw[n]at y;cases y|true=>rw[n,cond_true]at y;refine⟨?_,?_⟩;{unfold zhe at n;cases hh:zdi (zcA h m g) page with|false=>rw[hh]at n;cases n|true=>rw[hh]at n;exact n};{cases hz:ieq (ze0 (zcA h m g) page).Page (-1) with|true=>rw[hz]at y;cases y|false=>rw[hz]at y;simpa using y});have H:ze0 (zcA h m g) page=zbx (ix (ix (ix h.Mons m mZ).Guests g gZ).Live page sZ) (ix h.Mons m mZ).Outer:=(by have Z:=z2Z P W.hp;have h1:ix (ix (ix h.Mons m mZ).Tables g kZ).Known page false=true:=E.1;rw[h1]at Z;exact Z);obtain⟨U,V,Y,d⟩:=zRZ S x hg D W N H E.2;rw[V];have J:=E.2;rw[H]at J;have f:=zpV D J;rw[W.pg,L]at f;exact⟨⟨U,by rw[d],Y,by rw[d];exact J,by rw[d];exact f.2.2,fun _ _ _=>by rw[d],fun e=>by rw[d];exact hd e,fun _=>by rw[d],fun _ _ _=>by rw[d]⟩,rfl⟩
  |true=>
   rw[cond_true];have M:=zEo S.ok (m:=m) (p:=q) need x r;have c:hasB m (ln (mended h m q need).Mons)=true:=(by rw[M.op.like.has];exact x);have C:(ix (mended h m q need).Mons m mZ).Guests=(ix h.Mons m mZ).Guests:=M.op.like.g m x;have l:hasB g (ln (ix (mended h m q need).Mons m mZ).Guests)=true:=(by rw[C];exact hg);have G:Safe (mended h m q need):=M.op.safe S;have F:=zbbb G.ok c l page;have S2:Safe (zdL (mended h m q need) m g page):=F.safe G;have R:hasB m (ln (zdL (mended h m q need) m g page).Mons)=true:=(by rw[F.like.has];exact c);have u:ix (zdL (mended h m q need) m g page).Mons m mZ={ix (mended h m q need).Mons m mZ with Tables:=up (ix (mended h m q need).Mons m mZ).Tables g (filled (zcA (mended h m q need) m g) (zcO (mended h m q need) m g) (ix (mended h m q need).Mons m mZ).Outer page)}:=zbe c _ _;have Q:hasB g (ln (ix (zdL (mended h m q need) m g page).Mons m mZ).Guests)=true:=(by rw[u];exact l);have w:(ix (zdL (mended h m q need) m g page).Mons m mZ).Guests=(ix h.Mons m mZ).Guests:=(by rw[u];exact C);have W2:Walked (ix (ix (zdL (mended h m q need) m g page).Mons m mZ).Guests g gZ).Live page need q:=(by rw[w];exact W);have H:ze0 (zcA (zdL (mended h m q need) m g page) m g) page=zbx (ix (ix (ix (zdL (mended h m q need) m g page).Mons m mZ).Guests g gZ).Live page sZ) (ix (zdL (mended h m q need) m g page).Mons m mZ).Outer:=(by have:zcA (zdL (mended h m q need) m g page) m g=filled (zcA (mended h m q need) m g) (zcO (mended h m q need) m g) (ix (mended h m q need).Mons m mZ).Outer page:=(by unfold zcA;rw[u];exact zbe (by unfold ln;rw[(G.ok.mon c).gt];exact l) _ _);rw[this];refine(z0H (p:=page) (G.rt.t m c g l) (by rw[C];exact W.hp)).trans ?_;rw[u]);have z:(ix (zdL (mended h m q need) m g page).Mons m mZ).Outer=(ix (mended h m q need).Mons m mZ).Outer:=by rw[u]
   have j:=zln ((G.ok.mon c).hasO r);have a:=zUE (s:=ix (ix (ix h.Mons m mZ).Guests g gZ).Live page sZ) (o:=(ix (mended h m q need).Mons m mZ).Outer) D (by rw[W.pg];have:=zI.1 r;omega) (by rw[W.pg,j];exact M.inn) W.en (by
    rw[W.pg,j];rcases D with rfl|rfl
    .rcases (G.ok.mon c).enough1 r M.inn with e|e<;>rw [e]<;>decide
    .rw [M.ri (by decide)];decide)
   have J:enough (ze0 (zcA (zdL (mended h m q need) m g page) m g) page).Rights need=true:=(by rw[H,w,z];exact a.2);obtain⟨U,V,Y,d⟩:=zRZ S2 R Q D W2 N H J;rw[V];have I:=a.1;rw[W.pg,j]at I;refine⟨⟨(M.op.trans F).trans U,by rw[d],Y,by rw[d,z];exact a.2,by rw[d,z];exact I,fun k n f=>?_,fun e=>?_,fun e=>?_,fun i hi f=>?_⟩,rfl⟩;{rw [d,u];exact M.dk k n f};{rw [d,u];exact M.dt (by rw[e];decide)};{rw [d,u];exact M.d0 (by rw[e];decide)};{rw [d];show (ix (up (mended h m q need).Mons m _) i mZ).Dirty=_;rw[zbs (zI.1 x).1 (zI.1 hi).1 (Ne.symm f)];exact M.dm i hi f}
theorem zH0 {n:Int}:zjR n=true↔n=1\/n=2:=by unfold zjR;by_cases h:n=1;{rw [zbq.2 h];simp[h]};{rw [zbX.2 h,cond_false,zbq];simp[h]}
theorem zq1 {h:Host}{m g page need:Int}:zca h m g page need=true↔zbZ h m g=true/\(need=1\/need=2)/\zfn (zcO h m g) page need=true:=by unfold zca;rw[zbY,zbY,zH0]
theorem zR1 {h:Host}(S:Safe h){m g page need:Int}(j:Bool)(t:zca h m g page need=true){b:List Entry}(r:∀e∈b,zcW h e=true) :
 Looked h (lookOf h b m g page need j).1 m g page need (zcE (zcO h m g) page need) (lookOf h b m g page need j).2.1/\(lookOf h b m g page need j).2.2=true:=by
 obtain⟨w,A,B⟩:=zq1.1 t;obtain⟨_,a,hg⟩:=zjQ.1 w;have W:=walked (S.ok.guest a hg) B;unfold lookOf;rw[t,cond_true];rcases A with rfl|rfl
 .rw [show ieq 1 2=false by decide,cond_false]
  exact zWh S a hg (.inl rfl) W j r (fun e=>absurd e (by decide))
 .rw [show ieq 2 2=true by decide,cond_true]
  obtain⟨d,C⟩:=zNp S.ok a (zcE (zcO h m g) page 2);have p:hasB m (ln (zbI h m (zcE (zcO h m g) page 2)).Mons)=true:=by rw[d.like.has];exact a
  have f:ix (zbI h m (zcE (zcO h m g) page 2)).Mons m mZ={ix h.Mons m mZ with Dirty:=up (ix h.Mons m mZ).Dirty (zcE (zcO h m g) page 2) true}:=zbe a _ _;have x:=(S.ok.mon a).hasD W.q8;obtain⟨L,y⟩:=zWh (d.safe S) p (g:=g) (page:=page) (need:=2) (q:=zcE (zcO h m g) page 2) (by rw[f];exact hg) (.inr rfl) (by rw[f];exact W) j (b:=b) (fun e z=>by
   obtain⟨l,u,v⟩:=zfs.1 (r e z);rw[zfs];have n:hasB (zds e.Tag) (ln (zbI h m (zcE (zcO h m g) page 2)).Mons)=true:=by rw[d.like.has];exact l
   refine⟨n,by rw[d.like.g _ l];exact u,?_⟩
   rw[d.like.g _ l];have:(ix (zbI h m (zcE (zcO h m g) page 2)).Mons (zds e.Tag) mZ).Outer=(ix h.Mons (zds e.Tag) mZ).Outer:=by show (ix (up h.Mons m _) _ mZ).Outer=_;by_cases c:m=zds e.Tag;{rw [<- c,zbe a]};{rw [zbs (zI.1 a).1 (zI.1 l).1 c]}
   rw[this];exact v) (fun _=>by rw[f];exact zbe x _ _)
  refine⟨⟨d.trans L.op,L.inn,L.ne,?_,?_,fun k s c=>?_,L.dq,fun e=>absurd e (by decide),fun i n c=>?_⟩,y⟩
  .have:=L.en;rw[f] at this;exact this
  .have:=L.cp;rw[f] at this;exact this
  .rw [L.dk k s c,f];exact zbs (zI.1 W.q8).1 (zI.1 s).1 (Ne.symm c) _ _
  .rw [L.dm i (by rw[d.like.has];exact n) c]
   show (ix (up h.Mons m _) i mZ).Dirty=_
   rw[zbs (zI.1 a).1 (zI.1 n).1 (Ne.symm c)]
theorem zQ6 {x y:Int}(a : -9223372036854775808<=x+y)(b:x+y<=9223372036854775807):zM .i64 x y=x+y:=by unfold zM;simp only[IntKind.wrap,IntKind.signed,IntKind.bits];simp;omega
theorem zLQ {n:Nat}{P:Int->Prop}(h:∀i:Fin n,P ((i.val:Nat):Int)){x:Int}(a:0<=x)(b:x<n):P x:=by have:=h ⟨x.toNat,by omega⟩;simpa [show ((x.toNat:Nat):Int)=x by omega] using this
theorem zWL {p:Int}:zc6 p=true↔0<=p/\p<=255:=by unfold zc6;exact zcJ
theorem zSe {p:Int}(h:zc6 p=true):zc6 (zkd p)=true:=by have a:=zWL.1 h;exact zLQ (n:=256) (P:=fun x=>zc6 (zkd x)=true) (by decide +kernel) a.1 (by omega)
theorem zSd {p:Int}(h:zc6 p=true)(n:Int):zc6 (zty p n)=true:=by unfold zty zf7;rw[h,cond_true];cases e:win n 0 7 with|false=>exact h|true=>rw[cond_true];have b:=zWL.1 h;have a:=zcJ.1 e;exact zLQ (n:=256) (P:=fun x=>∀k,0<=k->k<(8:Int)->zc6 (wor .i64 x (zpK .i64 1 k))=true) (fun i k c d=>zLQ (n:=8) (P:=fun k=>zc6 (wor .i64 ((i.val:Nat):Int) (zpK .i64 1 k))=true) (by revert i;decide +kernel) c d) b.1 (by omega) n a.1 (by omega)
structure GKeep (x y:Guest):Prop where
 ok:GOk y
 live:y.Live=x.Live
theorem z1m {x:Guest}(X:GOk x){c:Int}(b:win c 0 12=true):GOk {x with Pc:=c}:=⟨X.prog,X.a,b,X.w,X.l,X.ctl,X.pend,X.ex,X.seen⟩
theorem z1l {x:Guest}(X:GOk x){c:Int}(a:win c 0 99=true):GOk {x with A:=c}:=⟨X.prog,a,X.pc,X.w,X.l,X.ctl,X.pend,X.ex,X.seen⟩
theorem zjl {x:Guest}(X:GOk x):GKeep x (zcb x):=by unfold zcb;have a:=zcJ.1 X.pc;cases h:ige x.Pc 12 with|true=>exact⟨z1m X (by decide),rfl⟩|false=>have:¬ x.Pc≥12:=jU h;refine⟨z1m X ?_,rfl⟩;rw[zQ6 (by omega) (by omega)];exact zcJ.2 (by omega)
theorem zU7 {x:Guest}(X:GOk x)(n:Int):GKeep x (saw x n):=by unfold saw;cases h:ilt (ln x.Seen) 40 with|false=>exact⟨X,rfl⟩|true=>have:ln x.Seen<40:=qE h;refine⟨⟨X.prog,X.a,X.pc,X.w,X.l,X.ctl,X.pend,X.ex,qJ ?_⟩,rfl⟩;unfold ln ap at *;simp;omega
theorem zjm {x:Guest}(X:GOk x){e:GExit}(b:zg7 e=true):GKeep x (stopped x e):=⟨⟨X.prog,X.a,X.pc,X.w,X.l,X.ctl,X.pend,b,X.seen⟩,rfl⟩
theorem zZW {x:Guest}(X:GOk x){p:Int}(b:zc6 p=true):GKeep x {x with Pending:=p}:=⟨⟨X.prog,X.a,X.pc,X.w,X.l,X.ctl,b,X.ex,X.seen⟩,rfl⟩
theorem zZT {x:Guest}(X:GOk x)(b:Bool):GKeep x {x with Halted:=b}:=⟨⟨X.prog,X.a,X.pc,X.w,X.l,X.ctl,X.pend,X.ex,X.seen⟩,rfl⟩
theorem zZU {x:Guest}(X:GOk x):GKeep x (held x):=⟨(zjl (zZT X true).ok).ok,(zjl (zZT X true).ok).live⟩
theorem z4e {x:Guest}(X:GOk x){v:Int}(c:win v 0 99=true):GKeep x (loaded x v):=by have a:=zU7 (z1l X c) v;have b:=zjl a.ok;exact⟨b.ok,b.live.trans a.live⟩
theorem zOH {x:Guest}(X:GOk x):GKeep x (interrupted x):=by unfold interrupted;cases ziw x with|false=>exact⟨X,rfl⟩|true=>have a:=zZW X (zSe X.pend);rw[cond_true];exact⟨(zU7 a.ok _).ok,(zU7 a.ok _).live⟩
theorem zKl {p:List Ins}(h:zc7 p=true)(i:Int):zdN (zcv p i)=true:=by unfold zcv;cases a:hasB i (ln p) with|false=>rfl|true=>unfold zc7 at h;rw[zbY,qM]at h;exact h.1 _ (zlI a _)
theorem zbcj {i:Ins}(h:zdN i=true)(a:i.Op=3\/i.Op=4):0<=i.X/\i.X<=15:=by unfold zdN at h;rcases a with e|e<;>rw [e]at h<;>exact zcJ.1 h
theorem z4l {i:Ins}(h:zdN i=true)(a:i.Op=5\/i.Op=6):0<=i.X/\i.X<=99:=by unfold zdN at h;rcases a with e|e<;>rw [e]at h<;>exact zcJ.1 h
theorem zbcR {i:Ins}(h:zdN i=true)(a:i.Op=8):0<=i.X/\i.X<=11:=by unfold zdN at h;rw[a]at h;exact zcJ.1 h
theorem zbcQ {i:Ins}(h:zdN i=true)(a:i.Op=1):0<=i.X/\i.X<=99:=by unfold zdN at h;rw[a]at h;exact zcJ.1 h
theorem z1o {x:Guest}(X:GOk x):GKeep x (plainly x):=by have M:=zjl X;have b:=zKl X.prog x.Pc;unfold plainly;cases ine (zbd x) 2 with|true=>exact⟨X,rfl⟩|false=>rw[cond_false];(cases win x.A 0 99 with|false=>exact M|true=>rw[cond_true];(cases win (zcv x.Prog x.Pc).X 0 99 with|false=>exact M|true=>rw[cond_true];by_cases c:(zcv x.Prog x.Pc).Op=1;{rw [zbq.2 c,cond_true];exact⟨z1l M.ok (zcJ.2 (zbcQ b c)),M.live⟩};{rw [zbX.2 c,cond_false];by_cases d:(zcv x.Prog x.Pc).Op=2;{rw [zbq.2 d,cond_true];refine⟨z1l M.ok ?_,M.live⟩;have f:=zcJ.1 X.a;have i:0<=(zcv x.Prog x.Pc).X/\(zcv x.Prog x.Pc).X<=99:=(by unfold zdN at b;rw[d]at b;exact zcJ.1 b);rw[zcJ];unfold zqN;rw[zQ6 (by omega) (by omega)];have g:=Int.tmod_nonneg (a:=x.A+(zcv x.Prog x.Pc).X) 100 (by omega);have h:=Int.tmod_lt_of_pos (x.A+(zcv x.Prog x.Pc).X) (show (0:Int)<100 by omega);omega};{rw [zbX.2 d,cond_false];by_cases e:(zcv x.Prog x.Pc).Op=8;{rw [zbq.2 e,cond_true];cases ieq x.A 0 with|true=>have:=zbcR b e;exact⟨z1m M.ok (zcJ.2 (by omega)),M.live⟩|false=>exact M};{rw [zbX.2 e];exact M}}}))
theorem zoC {c:List Int}:zci c=true↔(∀x∈c,win x 0 99=true)/\ln c=4:=by unfold zci;rw[zbY,qM,zbq]
theorem zmJ (h:Host)(m:Int):∀(n i:Nat),(zcw h m n i).length=n
 | 0,_=>rfl
 |n+1,i=>by rw[zcw,q0,zmJ h m n]
theorem zNy (h:Host)(m:Int):∀(n i k:Nat) (a:k<(zcw h m n i).length),(zcw h m n i)[k]=zcd h m ((i+k:Nat):Int)
 | 0,i,k,a=>by simp[zcw]at a
 |n+1,i,k,a=>by cases k with|zero=>rfl|succ k=>have:=zNy h m n (i+1) k (by simpa [zcw] using a);simp only[zcw,List.getElem_cons_succ];rw[this];congr 1;omega
theorem zqc {h:Host}{m q:Int}(b:hasB q 8=true)(d:List Int):ix (zcw h m 8 0) q d=zcd h m q:=by have c:=zI.1 b;have a:q.toNat<(zcw h m 8 0).length:=(by rw[zmJ];omega);have:=zmz a d;rw[show ((q.toNat:Nat):Int)=q by omega] at this;rw[this,zNy];congr 1;omega
theorem zuS (h:Host)(m:Int):ln (zcw h m 8 0)=8:=by unfold ln;rw[zmJ];rfl
theorem zAL {h:Host}(H:HOk h){m p:Int}(b:hasB m (ln h.Mons)=true)(a:hasB p 8=true):zci (zcd h m p)=true:=by have X:=H.mon b;rw[<- zk4 H b a];by_cases e:(ix (ix h.Mons m mZ).Outer p sZ).Page = -1;{rw [zbq.2 e];exact((zp0 (X.slot a)).1 (X.fit p a)).1 e};{rw [zbX.2 e];exact zSb H.pgs _}
theorem zzD {h:Host}(H:HOk h){m:Int}(b:hasB m (ln h.Mons)=true):zbQ (zC h m)=true:=by have X:=H.mon b;unfold zC;rw[b,cond_true];unfold zbQ zhy;rw[zbY,qM];refine⟨X.gs,?_⟩;simp only[qD,zbY,qM,zbq,zcJ];refine⟨⟨fun c d=>?_,zuS h m⟩,⟨?_,?_⟩,?_,X.pend⟩;{obtain⟨i,a,rfl⟩:=zEn d [];rw[zuS]at a;rw[zqc a];exact zAL H b a};{unfold ln;have:=X.g1;omega};{unfold ln;have:=X.g2;omega};{unfold ile ln;have:=X.outs;exact qJ (by omega)}
structure SimT (h r:Host) (m:Int) (f:Bare->Bare):Prop where
 safe:Safe r
 seen:∀i,zC r i=bif ieq i m then f (zC h i) else zC h i
 len:r.Mons.length=h.Mons.length
theorem SimT.trans {a b c:Host}{m:Int}{f g:Bare->Bare}(x:SimT a b m f)(y:SimT b c m g):SimT a c m (fun t=>g (f t)):=by refine⟨y.safe,fun i=>?_,y.len.trans x.len⟩;rw[y.seen i,x.seen i];cases ieq i m<;>rfl
theorem Op.sim {h r:Host}(k:Op h r)(S:Safe h)(m:Int):SimT h r m id:=⟨k.safe S,fun i=>by rw[k.like.seen i];cases ieq i m<;>rfl,k.like.len⟩
theorem SimT.congr {h r:Host}{m:Int}{f g:Bare->Bare}(x:SimT h r m f)(e:f (zC h m)=g (zC h m)):SimT h r m g:=by refine⟨x.safe,fun i=>?_,x.len⟩;rw[x.seen i];by_cases a:i=m;{subst a;rw[zbq.2 rfl,cond_true,cond_true,e]};{rw [zbX.2 a];rfl}
theorem SimT.has {h r:Host}{m:Int}{f:Bare->Bare}(x:SimT h r m f)(i:Int):hasB i (ln r.Mons)=hasB i (ln h.Mons):=by unfold ln;rw[x.len]
theorem SimT.refl {h:Host}(S:Safe h)(m:Int):SimT h h m id:=⟨S,fun i=>by cases ieq i m<;>rfl,rfl⟩
theorem zxd {h:Host}(S:Safe h){m q a:Int}(l:hasB m (ln h.Mons)=true)(f:hasB q 8=true)(J:(ix (ix h.Mons m mZ).Outer q sZ).Page=a)(y:a≠-1)(c v:Int) :
 SimT h {h with Memory:=zbC h.Memory a c v} m (fun b=>{b with Memory:=zbC b.Memory q c v})/\cellAt h.Memory a c=cellAt (zC h m).Memory q c:=by
 have H:=S.ok;have X:=H.mon l;have N:=X.slot f;have E:=hasM H N (by rw[J];exact y)
 rw[J]at E;have z:ix h.Memory a []=zcd h m q:=by have:=zk4 H l f;rw[J,zbX.2 y,cond_false,zk2 E] at this;exact this
 have n:ln (zcd h m q)=4:=(zoC.1 (zAL H l f)).2;have d:(zC h m).Memory=zcw h m 8 0:=by unfold zC;rw[l];rfl
 have C:zgs h.Memory a c=hasB c 4:=by unfold zgs;rw[E,cond_true,z,n]
 have D:zgs (zcw h m 8 0) q c=hasB c 4:=by unfold zgs;rw[zuS,f,cond_true,zqc f,n]
 have u:cellAt h.Memory a c=cellAt (zC h m).Memory q c:=by rw[d];unfold cellAt;rw[C,D,z,zqc f]
 refine⟨?_,u⟩;cases A:hasB c 4 with
 |false=>have s:zbC h.Memory a c v=h.Memory:=(by unfold zbC;rw[C,A];rfl);rw[s];refine(SimT.refl S m).congr ?_;show zC h m={zC h m with Memory:=zbC (zC h m).Memory q c v};rw[d];have B:zbC (zcw h m 8 0) q c v=zcw h m 8 0:=(by unfold zbC;rw[D,A];rfl);rw[B,<- d]
 |true=>
  cases K:win v 0 99 with
  |false=>have s:zbC h.Memory a c v=h.Memory:=(by unfold zbC;rw[C,A,K];rfl);rw[s];refine(SimT.refl S m).congr ?_;show zC h m={zC h m with Memory:=zbC (zC h m).Memory q c v};rw[d];have B:zbC (zcw h m 8 0) q c v=zcw h m 8 0:=(by unfold zbC;rw[D,A,K];rfl);rw[B,<- d]
  |true=>have s:zbC h.Memory a c v=up h.Memory a (up (zcd h m q) c v):=(by unfold zbC;rw[C,A,K,z];rfl);have B:zbC (zcw h m 8 0) q c v=up (zcw h m 8 0) q (up (zcd h m q) c v):=(by unfold zbC;rw[D,A,K,zqc f];rfl);have G:zci (up (zcd h m q) c v)=true:=(by have:=zoC.1 (zAL H l f);rw[zoC,zc5];refine⟨fun x O=>?_,this.2⟩;rcases qY O with h|h;{exact this.1 x h};{rw [h];exact K});have P:=(zI.1 E).1;have L:HOk {h with Memory:=zbC h.Memory a c v}:=(by rw[s];refine⟨by show (up _ _ _).length=12;rw[zbO];exact H.m12,fun x O=>?_,H.n1,H.n3,H.b1,H.b2,H.mons,H.uq⟩;rcases qY O with h|h;{exact H.pgs x h};{rw [h];exact G});refine⟨⟨L,⟨S.rt.t,S.rt.e1,S.rt.e2⟩⟩,fun i=>?_,rfl⟩;have r:∀i k,hasB i (ln h.Mons)=true->hasB k 8=true->¬ (i=m/\k=q)->zcd {h with Memory:=zbC h.Memory a c v} i k=zcd h i k:=(by intro i k w g I;rw[<- zk4 L (m:=i) (p:=k) w g,<- zk4 H w g];show (cond (ieq (ix (ix h.Mons i mZ).Outer k sZ).Page (-1)) _ (zct (zbC h.Memory a c v) _))=_;by_cases e:(ix (ix h.Mons i mZ).Outer k sZ).Page = -1;{rw [zbq.2 e];rfl};{rw [zbX.2 e,cond_false,cond_false,s];exact zEp P (fun e=>I (H.uniq w g l f e J P))});have F:zcd {h with Memory:=zbC h.Memory a c v} m q=up (zcd h m q) c v:=(by rw[<- zk4 L (m:=m) (p:=q) l f];show (cond (ieq (ix (ix h.Mons m mZ).Outer q sZ).Page (-1)) _ (zct (zbC h.Memory a c v) (ix (ix h.Mons m mZ).Outer q sZ).Page))=_;rw[J,zbX.2 y,cond_false,s];exact zuQ E);by_cases w:i=m;{subst w;rw[zbq.2 rfl,cond_true];unfold zC;show (cond (hasB i (ln h.Mons)) _ _)=_;rw[l,cond_true,cond_true];show Bare.mk (zcw {h with Memory:=zbC h.Memory a c v} i 8 0) _ _ _=Bare.mk (zbC (zcw h i 8 0) q c v) _ _ _;congr 1;rw[B];refine zQk [] (by rw[zbO,zmJ,zmJ]) fun k g=>?_;rw[zuS]at g;rw[zqc g];by_cases e:q=k;{subst e;rw[zbe (by rw[zuS];exact f),F]};{rw [zbs (zI.1 f).1 (zI.1 g).1 e,zqc g];exact r i k l g (fun h=>e h.2.symm)}};{rw [zbX.2 w,cond_false];unfold zC;show (cond (hasB i (ln h.Mons)) _ _)=_;cases M:hasB i (ln h.Mons) with|false=>rfl|true=>rw[cond_true,cond_true];show Bare.mk (zcw {h with Memory:=zbC h.Memory a c v} i 8 0) _ _ _=_;rw[zq5 8 0 (fun j C D=>r i (j:Int) M (zI.2 (by omega)) (fun h=>w h.1))]}
theorem zqI {h:Host}(S:Safe h){m g:Int}(a:hasB m (ln h.Mons)=true)(hg:hasB g (ln (ix h.Mons m mZ).Guests)=true){y:Guest}(k:GKeep (gOf h m g) y):SimT h (zk6 h m g y) m (fun b=>zdU b g y):=by have X:=S.ok.mon a;have kp:KeepP (ix h.Mons m mZ) {ix h.Mons m mZ with Guests:=up (ix h.Mons m mZ).Guests g y}:=⟨rfl,rfl⟩;refine⟨zxc S a kp (zkX X kp (zbO _ _ _) rfl rfl X.outs X.pend X.tr X.own fun z d=>?_) (zbO _ _ _) (fun j c=>?_) rfl,fun i=>?_,zbO _ _ _⟩;{rcases qY d with h|h;{exact X.gs z h};{rw [h];exact ztV.2 k.ok}};{show (ix (up (ix h.Mons m mZ).Guests g y) j gZ).Live=_;by_cases e:g=j;{subst e;rw[zbe hg];exact k.live};{rw [zbs (zI.1 hg).1 (zI.1 c).1 e]}};{refine(zvr (h:=h) (r:=zk6 h m g y) a rfl rfl kp i).trans ?_;by_cases e:i=m;{subst e;rw[zbq.2 rfl,cond_true,cond_true];unfold zdU zC;rw[a];rfl};{rw [zbX.2 e];rfl}}
theorem zXc {h:Host}(S:Safe h){m:Int}(a:hasB m (ln h.Mons)=true){y:Mon}(kp:KeepP (ix h.Mons m mZ) y)(d:MOk y)(hg:y.Guests=(ix h.Mons m mZ).Guests)(c:y.Tables=(ix h.Mons m mZ).Tables) :
 SimT h {h with Mons:=up h.Mons m y} m (fun b=>{b with Outs:=y.Outs,Pending:=y.Pending}):=by
 refine⟨zxc S a kp d (by rw[hg]) (fun j _=>by rw[hg]) c,fun i=>?_,zbO _ _ _⟩
 refine(zvr (h:=h) (r:={h with Mons:=up h.Mons m y}) a rfl rfl kp i).trans ?_
 by_cases e:i=m
 .subst e;rw[zbq.2 rfl,cond_true,cond_true];unfold zC;rw[a,hg];rfl
 .rw [zbX.2 e];rfl
theorem zeY {h:Host}{m:Int}(a:hasB m (ln h.Mons)=true):zC h m=⟨zcw h m 8 0,(ix h.Mons m mZ).Guests,(ix h.Mons m mZ).Outs,(ix h.Mons m mZ).Pending⟩:=by unfold zC;rw[a];rfl
theorem z5u {h:Host}(S:Safe h){m:Int}(a:hasB m (ln h.Mons)=true):SimT h (owned h m) m id:=by unfold owned;cases b:ilt (ix h.Mons m mZ).Own 1000000000 with|false=>exact SimT.refl S m|true=>rw[cond_true];have X:=S.ok.mon a;have d:=zcJ.1 X.own;have c:(ix h.Mons m mZ).Own<1000000000:=qE b;have kp:KeepP (ix h.Mons m mZ) {ix h.Mons m mZ with Own:=zM .i64 (ix h.Mons m mZ).Own 1}:=⟨rfl,rfl⟩;refine(zXc S a kp (zkX X kp rfl rfl rfl X.outs X.pend X.tr ?_ X.gs) rfl rfl).congr ?_;{show win (zM .i64 (ix h.Mons m mZ).Own 1) 0 1000000000=true;rw[zQ6 (by omega) (by omega),zcJ];omega};{rw [zeY a];rfl}
theorem z2E {h:Host}(S:Safe h){m:Int}(a:hasB m (ln h.Mons)=true)(n:Int):SimT h (zoA h m n) m (fun b=>zoD b n):=by unfold zoA;have X:=S.ok.mon a;cases c:ilt (ln (ix h.Mons m mZ).Outs) 40 with|false=>refine(SimT.refl S m).congr ?_;rw[zeY a];unfold zoD;rw[c];rfl|true=>rw[cond_true];have d:ln (ix h.Mons m mZ).Outs<40:=qE c;have kp:KeepP (ix h.Mons m mZ) {ix h.Mons m mZ with Outs:=ap (ix h.Mons m mZ).Outs [n]}:=⟨rfl,rfl⟩;refine(zXc S a kp (zkX X kp rfl rfl rfl ?_ X.pend X.tr X.own X.gs) rfl rfl).congr ?_;{show (ap (ix h.Mons m mZ).Outs [n]).length<=40;unfold ln ap at *;simp;omega};{rw [zeY a];unfold zoD;rw[c];rfl}
theorem zur {h:Host}{m g:Int}(a:hasB m (ln h.Mons)=true)(hg:hasB g (ln (ix h.Mons m mZ).Guests)=true):gAt (zC h m) g=gOf h m g:=by rw[zeY a];unfold gAt;show (cond (hasB g (ln (ix h.Mons m mZ).Guests)) _ _)=_;rw[hg];rfl
theorem zQ7 {x:Guest}(h:zbd x=3\/zbd x=4\/zbd x=5\/zbd x=6):(zcv x.Prog x.Pc).Op=zbd x:=by unfold zbd at h ⊢;cases e:canRun x with|false=>simp[e]at h|true=>simp only[e,cond_true]at h ⊢;(cases f:ziw x with|true=>simp[f]at h|false=>simp only[f,cond_false]at h ⊢;unfold zyO at h ⊢;by_cases a:(zcv x.Prog x.Pc).Op=3;{rw [a];rfl};{rw [zbX.2 a,cond_false]at h ⊢;by_cases b:(zcv x.Prog x.Pc).Op=4;{rw [b];rfl};{rw [zbX.2 b,cond_false]at h ⊢;by_cases c:(zcv x.Prog x.Pc).Op=5;{rw [c];rfl};{rw [zbX.2 c,cond_false]at h ⊢;by_cases d:(zcv x.Prog x.Pc).Op=6;{rw [d];rfl};{rw [zbX.2 d,cond_false]at h ⊢;cases g:ieq (zcv x.Prog x.Pc).Op 7<;>simp [g]at h}}}})
theorem z98 {x:Guest}(X:GOk x){w:Int}(a:zbd x=w)(h:w=3\/w=4):0<=address x/\address x<=15:=by have e:address x=(zcv x.Prog x.Pc).X:=(by unfold address;rcases h with e|e;{rw [a,e];rfl};{rw [a,e];rfl});rw[e];exact zbcj (zKl X.prog _) (by rw[zQ7 (by omega),a];exact h)
theorem z99 {a:Int}(b:0<=a)(c:a<=15):win (zbj a) 0 3=true/\hasB (zdf a) 4=true :=
 zLQ (n:=16) (P:=fun a=>win (zbj a) 0 3=true/\hasB (zdf a) 4=true) (by decide) b (by omega)
theorem z1c {p:Int}(h:win p 0 3=true)(w:Bool):zg7 (zrV p w)=true:=by unfold zg7 zrV;simp[ieq,h]
theorem z3V {n:Int}(h:win n 0 99=true):zg7 (zz5 n)=true:=by unfold zg7 zz5;simp[ieq,h]
theorem z6P {n:Int}(h:win n 0 99=true):zg7 (zyP n)=true:=by unfold zg7 zyP;simp[ieq,h]
theorem z6W {x:Guest}(X:GOk x)(t:Int){w:Int}(d:zbd x=w):GKeep x (zjN x t w):=by have c:=zKl X.prog x.Pc;unfold zjN;by_cases b:w=6;{rw [zbq.2 b];exact zjm X (z3V (zcJ.2 (z4l c (by rw[zQ7 (by omega),d];omega))))};{rw [zbX.2 b,cond_false];by_cases a:w=5;{rw [zbq.2 a];cases zgU t 1 with|true=>exact zjm X (z6P (zcJ.2 (z4l c (by rw[zQ7 (by omega),d];omega))))|false=>rw[a];exact zjl X};{rw [zbX.2 a];rw[Bool.false_and,cond_false];cases e:(ieq w 7&&zgU t 2) with|true=>exact zjm X rfl|false=>rw[cond_false];cases ieq w 7;{exact zjl X};{exact zZU X}}}
theorem zZ1 {a:Type}(g:Int):hasB g (ln ([]:List a))=false:=by cases h:hasB g (ln ([]:List a)) with|false=>rfl|true=>have:=zI.1 h;simp[ln] at this;omega
theorem z6b {m:List (List Int)}(h:∀c∈m,zci c=true)(p c:Int):win (cellAt m p c) 0 99=true:=by unfold cellAt zgs;cases b:hasB p (ln m) with|false=>rfl|true=>rw[cond_true];(cases a:hasB c (ln (ix m p [])) with|false=>rfl|true=>rw[cond_true];exact(zoC.1 (h _ (zlI b []))).1 _ (zlI a 0))
theorem HOk.seenG {h:Host}(H:HOk h){m g:Int}(a:hasB m (ln h.Mons)=true)(hg:hasB g (ln (ix h.Mons m mZ).Guests)=true):GOk (gOf h m g):=H.guest a hg
theorem zXn {h:Host}(S:Safe h){m g:Int}(i:hasB m (ln h.Mons)=true)(hg:hasB g (ln (ix h.Mons m mZ).Guests)=true)(w:Bool)(B:zbd (gOf h m g)=bif w then 4 else 3) :
 SimT h (zjM (zm7 h m g (gOf h m g) w) m g (gOf h m g) w) m (fun b=>zn0 b g (gOf h m g) w):=by
 have X:=S.ok.seenG i hg;have t:=z98 X B (by cases w<;>simp)
 have n:=z99 t.1 t.2;have z:zcc w=1\/zcc w=2:=by cases w<;>simp [zcc]
 unfold zjM zm7;cases k:zca h m g (zbj (address (gOf h m g))) (zcc w) with
 |false=>have e:lookOf h h.Buffer m g (zbj (address (gOf h m g))) (zcc w) false=(h,-1,false):=(by unfold lookOf;rw[k];rfl);have q:zfn (gOf h m g).Live (zbj (address (gOf h m g))) (zcc w)=false:=(by cases y:zfn (gOf h m g).Live (zbj (address (gOf h m g))) (zcc w) with|false=>rfl|true=>exact Bool.noConfusion (k.symm.trans (zq1.2 ⟨zjQ.2 ⟨S.ok,i,hg⟩,z,y⟩)));rw[e];refine(zqI S i hg (zjm X (z1c n.1 w))).congr ?_;unfold zn0;rw[q];rfl
 |true=>obtain⟨L,x⟩:=zR1 S false k S.rt.e1;obtain⟨_,_,j⟩:=zq1.1 k;have c:zfn (gOf h m g).Live (zbj (address (gOf h m g))) (zcc w)=true:=j;have W:=walked X j;rw[x,cond_true];have l:=L.op.safe S;have f:hasB m (ln (lookOf h h.Buffer m g (zbj (address (gOf h m g))) (zcc w) false).1.Mons)=true:=(by rw[L.op.like.has];exact i);have a:=L.op.like.g m i;have C:hasB (zcE (zcO h m g) (zbj (address (gOf h m g))) (zcc w)) 8=true:=W.q8;obtain⟨u,v⟩:=zxd l f C L.inn L.ne (zdf (address (gOf h m g))) (gOf h m g).A;rw[L.op.like.seen m] at v;cases w with|true=>rw[cond_true];have r:=L.op.sim S m;have p:hasB m (ln ({ (lookOf h h.Buffer m g (zbj (address (gOf h m g))) (zcc true) false).1 with Memory:=zbC (lookOf h h.Buffer m g (zbj (address (gOf h m g))) (zcc true) false).1.Memory (lookOf h h.Buffer m g (zbj (address (gOf h m g))) (zcc true) false).2.1 (zdf (address (gOf h m g))) (gOf h m g).A}:Host).Mons)=true:=f;have d:hasB g (ln (ix ({ (lookOf h h.Buffer m g (zbj (address (gOf h m g))) (zcc true) false).1 with Memory:=zbC (lookOf h h.Buffer m g (zbj (address (gOf h m g))) (zcc true) false).1.Memory (lookOf h h.Buffer m g (zbj (address (gOf h m g))) (zcc true) false).2.1 (zdf (address (gOf h m g))) (gOf h m g).A}:Host).Mons m mZ).Guests)=true:=(by show hasB g (ln (ix (lookOf h h.Buffer m g (zbj (address (gOf h m g))) (zcc true) false).1.Mons m mZ).Guests)=true;rw[a];exact hg);have s:GKeep (gOf { (lookOf h h.Buffer m g (zbj (address (gOf h m g))) (zcc true) false).1 with Memory:=zbC (lookOf h h.Buffer m g (zbj (address (gOf h m g))) (zcc true) false).1.Memory (lookOf h h.Buffer m g (zbj (address (gOf h m g))) (zcc true) false).2.1 (zdf (address (gOf h m g))) (gOf h m g).A} m g) (zcb (gOf h m g)):=(by have:gOf { (lookOf h h.Buffer m g (zbj (address (gOf h m g))) (zcc true) false).1 with Memory:=zbC (lookOf h h.Buffer m g (zbj (address (gOf h m g))) (zcc true) false).1.Memory (lookOf h h.Buffer m g (zbj (address (gOf h m g))) (zcc true) false).2.1 (zdf (address (gOf h m g))) (gOf h m g).A} m g=gOf h m g:=(by show ix (ix (lookOf h h.Buffer m g (zbj (address (gOf h m g))) (zcc true) false).1.Mons m mZ).Guests g gZ=_;rw[a];rfl);rw[this];exact zjl X);refine((r.trans u).trans (zqI u.safe p d s)).congr ?_;unfold zn0;rw[c];rfl|false=>rw[cond_false];have r:=L.op.sim S m;have d:hasB g (ln (ix (lookOf h h.Buffer m g (zbj (address (gOf h m g))) (zcc false) false).1.Mons m mZ).Guests)=true:=(by rw[a];exact hg);have s:GKeep (gOf (lookOf h h.Buffer m g (zbj (address (gOf h m g))) (zcc false) false).1 m g) (loaded (gOf h m g) (cellAt (lookOf h h.Buffer m g (zbj (address (gOf h m g))) (zcc false) false).1.Memory (lookOf h h.Buffer m g (zbj (address (gOf h m g))) (zcc false) false).2.1 (zdf (address (gOf h m g))))):=(by have:gOf (lookOf h h.Buffer m g (zbj (address (gOf h m g))) (zcc false) false).1 m g=gOf h m g:=(by show ix (ix (lookOf h h.Buffer m g (zbj (address (gOf h m g))) (zcc false) false).1.Mons m mZ).Guests g gZ=_;rw[a];rfl);rw[this];exact z4e X (z6b l.ok.pgs _ _));refine(r.trans (zqI l f d s)).congr ?_;unfold zn0;rw[c,v];rfl
theorem z6V {h r:Host}{m g:Int}(e:(ix r.Mons m mZ).Guests=(ix h.Mons m mZ).Guests):gOf r m g=gOf h m g:=by unfold gOf;rw[e]
theorem zbbc (h:Host)(m:Int)(a:hasB m (ln h.Mons)=true):(ix (owned h m).Mons m mZ).Guests=(ix h.Mons m mZ).Guests:=by unfold owned;cases ilt (ix h.Mons m mZ).Own 1000000000 with|false=>rfl|true=>show (ix (up h.Mons m _) m mZ).Guests=_;rw[zbe a]
theorem z7r (h:Host)(m n:Int)(a:hasB m (ln h.Mons)=true):(ix (zoA h m n).Mons m mZ).Guests=(ix h.Mons m mZ).Guests:=by unfold zoA;cases ilt (ln (ix h.Mons m mZ).Outs) 40 with|false=>rfl|true=>show (ix (up h.Mons m _) m mZ).Guests=_;rw[zbe a]
theorem z5w {h:Host}(S:Safe h){m:Int}(a:hasB m (ln h.Mons)=true)(x:Guest)(w:Int):SimT h (zgl h m x w) m id/\(ix (zgl h m x w).Mons m mZ).Guests=(ix h.Mons m mZ).Guests:=by unfold zgl;cases (cond (ine w 6) (ieq (zAK (ix h.Mons m mZ).Traps x.Ctl.Traps (zzJ w)) 2) false) with|false=>exact⟨SimT.refl S m,rfl⟩|true=>exact⟨z5u S a,zbbc h m a⟩
theorem z5v {h:Host}(S:Safe h){m:Int}(a:hasB m (ln h.Mons)=true)(x:Guest)(w:Int):SimT h (zgk h m x w) m (fun b=>bif (cond (zkA x.Ctl.Traps w) (ieq w 5) false) then zoD b (zcv x.Prog x.Pc).X else b)/\(ix (zgk h m x w).Mons m mZ).Guests=(ix h.Mons m mZ).Guests:=by unfold zgk;cases (cond (zkA x.Ctl.Traps w) (ieq w 5) false) with|false=>exact⟨SimT.refl S m,rfl⟩|true=>exact⟨z2E S a _,z7r h m _ a⟩
theorem zFu {h:Host}(S:Safe h){m g:Int}(d:hasB m (ln h.Mons)=true)(hg:hasB g (ln (ix h.Mons m mZ).Guests)=true){w:Int}(l:zbd (gOf h m g)=w) :
 SimT h (zxh h m g (gOf h m g) w) m (fun b=>zGg b g (gOf h m g) w):=by
 have X:=S.ok.seenG d hg;obtain⟨f,j⟩:=z5w S d (gOf h m g) w;have a:hasB m (ln (zgl h m (gOf h m g) w).Mons)=true:=by rw[f.has];exact d
 obtain⟨i,k⟩:=z5v f.safe a (gOf h m g) w;have e:hasB m (ln (zgk (zgl h m (gOf h m g) w) m (gOf h m g) w).Mons)=true:=by rw[i.has];exact a
 have c:hasB g (ln (ix (zgk (zgl h m (gOf h m g) w) m (gOf h m g) w).Mons m mZ).Guests)=true:=by rw[k,j];exact hg
 have n:GKeep (gOf (zgk (zgl h m (gOf h m g) w) m (gOf h m g) w) m g) (zjN (gOf h m g) (gOf h m g).Ctl.Traps w):=by rw[z6V (k.trans j)];exact z6W X _ l
 exact((f.trans i).trans (zqI i.safe e c n)).congr rfl
theorem z2R (x:Guest):zbd x=0\/zbd x=1\/zbd x=2\/zbd x=3\/zbd x=4\/zbd x=5\/zbd x=6\/zbd x=7:=by unfold zbd zyO;cases canRun x<;>cases ziw x<;>cases ieq (zcv x.Prog x.Pc).Op 3<;>cases ieq (zcv x.Prog x.Pc).Op 4<;>cases ieq (zcv x.Prog x.Pc).Op 5<;>cases ieq (zcv x.Prog x.Pc).Op 6<;>cases ieq (zcv x.Prog x.Pc).Op 7<;>simp
theorem zUB {h:Host}(H:HOk h)(m g:Int):zlv (zC h m) g=bif zbZ h m g then !ieq (zbd (gOf h m g)) 0 else false:=by unfold zlv zbZ;rw[zj9.2 H,cond_true];cases a:hasB m (ln h.Mons) with|false=>have:(zC h m).Guests=[]:=(by unfold zC;rw[a];rfl);rw[this,zZ1];rfl|true=>rw[cond_true,zzD H a,cond_true];have:(zC h m).Guests=(ix h.Mons m mZ).Guests:=(by rw[zeY a]);rw[this];(cases hg:hasB g (ln (ix h.Mons m mZ).Guests) with|false=>rfl|true=>rw[cond_true,cond_true,zur a hg])
theorem step_ok {h:Host}(S:Safe h)(m g:Int):SimT h (zbF h m g).1 m (fun b=>zic b g)/\(zbF h m g).2=zlv (zC h m) g:=by
 have a:=zUB S.ok m g;unfold zbF;cases i:zbZ h m g with
 |false=>rw[i,cond_false]at a;refine⟨(SimT.refl S m).congr ?_,a.symm⟩;unfold zic;rw[a];rfl
 |true=>rw[i,cond_true]at a;rw[cond_true];obtain⟨_,c,hg⟩:=zjQ.1 i;have X:=S.ok.seenG c hg;have f:=zur c hg;have d:∀w,zbd (gOf h m g)=w->w≠0->zic (zC h m) g=stepped (zC h m) g (gOf h m g) w:=(by intro w j k;unfold zic;rw[a,j,zbX.2 k,f,j];rfl);rcases z2R (gOf h m g) with e|e|e|e|e|e|e|e;{rw [e];rw[e]at a;refine⟨(SimT.refl S m).congr ?_,a.symm⟩;unfold zic;rw[a];rfl};{rw [e]at a ⊢;exact⟨(zqI S c hg (zOH X)).congr (d 1 e (by decide)).symm,a.symm⟩};{rw [e]at a ⊢;exact⟨(zqI S c hg (z1o X)).congr (d 2 e (by decide)).symm,a.symm⟩};{rw [e]at a ⊢;exact⟨(zXn S c hg false e).congr (d 3 e (by decide)).symm,a.symm⟩};{rw [e]at a ⊢;exact⟨(zXn S c hg true e).congr (d 4 e (by decide)).symm,a.symm⟩};{rw [e]at a ⊢;exact⟨(zFu S c hg e).congr (d 5 e (by decide)).symm,a.symm⟩};{rw [e]at a ⊢;exact⟨(zFu S c hg e).congr (d 6 e (by decide)).symm,a.symm⟩};{rw [e]at a ⊢;exact⟨(zFu S c hg e).congr (d 7 e (by decide)).symm,a.symm⟩}
end
end Go.Proofs.YthhbajmehldikaaGreat.E
