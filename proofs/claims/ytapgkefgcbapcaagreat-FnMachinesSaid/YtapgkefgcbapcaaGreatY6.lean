/- What is proved here: a part of the proof of the claim. -/
import Derived.Test.YtapgkefgcbapcaaGreatY5
import Derived.WalkKit
import Derived.Tactics2
import Derived.Deep.RegionWith
import Derived.Laws.Rows
namespace Go.Proofs.YtapgkefgcbapcaaGreat.E
open Go
set_option linter.defProp false
set_option linter.constructorNameAsVariable false
set_option linter.unusedVariables false
set_option maxRecDepth 100000
set_option linter.unusedSimpArgs false
set_option linter.unusedSectionVars false
noncomputable section
def z1k:zW:=z1i
def zPG:zL z1k:=z1j
def zBn:∀(n i:Nat) (t:List Mon),i+n<=t.length->zrZ t->zrZ (zoS n i t)
 | 0,_,_,_,h=>h
 |n+1,i,t,b,h=>by have a:i<t.length:=(by omega);refine zBn n (i+1) _ (by rw[zht];omega) (zj3 h<|zMg ?_ (by omega));rw[zbi a];exact h.2 _ (jK a)
def z5F {h:ad}(a:SmH h):SmH (cold h):=⟨a.1,zBn _ _ _ (by omega) a.2.1,by simp[cold],by simp[cold]⟩
def zon {h:ad}{m:Int}{b:am}(c:SmH h)(d:zc2 h m=true->SmB b):SmH (zim h m b):=by unfold zim;cases a:zc2 h m;{exact c};{exact zIP c (zcJ.1 a).2 (d a).2.1}
def z3g {h:ad}{m g p:Int}(c:SmH h):SmH (zlI h m g p):=by unfold zlI;cases e:zc2 h m;{exact c};{cases l:zci (zM h m) g (i0 p 4);{exact c};{have d:=(zcJ.1 e).2;have f:=zVe c d;have k:SmB (chg (zM h m) g (i0 p 4)<|zeh (gAt (zM h m) g) p):=zq7 f (zMc _<|zkY _ f);have b:=zIP c d k.2.1;have i:=zSC (chg (zM h m) g (i0 p 4)<|zeh (gAt (zM h m) g) p) d;have j:=zPP c e (chg (zM h m) g (i0 p 4)<|zeh (gAt (zM h m) g) p) l;have a:=b.2.1.2 _ (zbE i mZ);simp only[cT];exact⟨b.1,zj3 b.2.1 ⟨a.1,a.2.1,a.2.2.1,a.2.2.2.1,a.2.2.2.2.1,zyD a.2.2.2.2.2<|zqd<|a.2.2.2.2.2.2 _<|zbE j _⟩,qU (zze _ _ _) b.2.2.1,qU (zze _ _ _) b.2.2.2⟩}}
def z5G {h:ad}{m p c v:Int}(e:SmH h):SmH (zn5 h m p c v):=by unfold zn5;cases a:zfR h m p c v;{exact e};{have f:zcI h m p=true:=(by unfold zfR at a;cases b:zcI h m p;{rw [b]at a;cases a};{rfl});obtain⟨g,i,b⟩:=zk6.1 f;have d:=(zuY (n:=2) (zfQ e g) i b).1.1;exact⟨zz2 d.1,d.2⟩}
def zUg {h:ad}{m g c a:Int}(b:List au)(i:Bool)(f:SmH h)(d:zb9 h m g c a=true):SmH (lookOf h b m g c a i).1:=by have hg:zbZ h m g=true:=(by unfold zb9 at d;cases e:zbZ h m g;{rw [e]at d;cases d};{rfl});exact(zxU f hg).shape.1
def z9A {h:ad}{m g a v:Int}(e:SmH h):SmH (zqB h m g a v):=by unfold zqB;cases b:zhG h m g a v;{exact e};{have f:zb9 h m g (zbk a) 2=true:=(by unfold zhG at b;cases c:zk a 0 15;{rw [c]at b;cases b};{cases d:zk v 0 99;{rw [c,d]at b;cases b};{rw [c,d]at b;exact b}});have c:=zUg h.an true e f;exact⟨zz2 c.1,c.2⟩}
def z5H {h:ad}{m g a:Int}(d:SmH h):SmH (zn6 h m g a):=by unfold zn6;cases b:zgC h m g a;{exact d};{have e:zb9 h m g (zbk a) 1=true:=(by unfold zgC at b;cases c:zk a 0 15;{rw [c]at b;cases b};{rw [c]at b;exact b});exact zUg h.an true d e}
def z9B {h:ad}{m p:Int}(a:SmH h):SmH (zqG h m p):=by unfold zqG;cases b:zcI h m p;{exact a};{obtain⟨c,d,e⟩:=zk6.1 b;cases zln h m p;{exact(zL7 (zfQ a c).1 d).1};{exact a}}
def zbaI {h:ad}{m p:Int}(a:SmH h):SmH (zus h m p):=by unfold zus;cases b:zcI h m p;{exact a};{obtain⟨c,d,e⟩:=zk6.1 b;cases zln h m p;{exact a};{exact(zkX (zfQ a c) d e).1.1}}
def z3k {h:ad}{m t:Int}(a:SmH h):SmH (zkx h m t):=by unfold zkx;cases zcc h;{exact a};{cases c:i0 m (ln h.aa);{exact a};{cases zk t 0 3;{exact a};{have b:ze4 (ix h.aa m mZ):=a.2.1.2 _ (zbE c mZ);exact⟨a.1,zj3 a.2.1 ⟨b.1,b.2.1,b.2.2.1,b.2.2.2.1,b.2.2.2.2.1,b.2.2.2.2.2⟩,a.2.2⟩}}}
def zum (h:ad)(a:GAct):ad:=bif ieq a.Kind 1 then (zcv h a.M a.G).1 else (cond (ieq a.Kind 2) (znd h a.M a.G a.X ⟨a.Y,a.Z⟩)<|cond (ieq a.Kind 3) (zlI h a.M a.G a.X)<|cond (ieq a.Kind 4) (zjE h a.M a.G a.X)<|cond (ieq a.Kind 5) (zjI h a.M a.G)<|cond (ieq a.Kind 6) (zjG h a.M a.G a.X)<|cond (ieq a.Kind 7) (znb h a.M a.G ⟨a.X,a.Y,ieq a.Z 1⟩)<|cond (ieq a.Kind 8) (zn5 h a.M a.X a.Y a.Z)<|cond (ieq a.Kind 9) (zlM h a.M a.X)<|cond (ieq a.Kind 10) (zm8 h a.M)<|cond (ieq a.Kind 11) (zqB h a.M a.G a.X a.Y)<|zn6 h a.M a.G a.X)
def zCX (h:ad)(a:GAct):aE:=bif ieq a.Kind 1 then ⟨(zcv h a.M a.G).2,0⟩ else (cond (ieq a.Kind 2) ⟨zne h a.M a.G a.X ⟨a.Y,a.Z⟩,0⟩<|cond (ieq a.Kind 3) ⟨zkF h a.M a.G a.X,0⟩<|cond (ieq a.Kind 4) ⟨zjF h a.M a.G a.X,0⟩<|cond (ieq a.Kind 5) ⟨zjJ h a.M a.G,0⟩<|cond (ieq a.Kind 6) ⟨zjH h a.M a.G a.X,0⟩<|cond (ieq a.Kind 7) ⟨znc h a.M a.G ⟨a.X,a.Y,ieq a.Z 1⟩,0⟩<|cond (ieq a.Kind 8) ⟨zfR h a.M a.X a.Y a.Z,0⟩<|cond (ieq a.Kind 9) ⟨zlN h a.M a.X,0⟩<|cond (ieq a.Kind 10) ⟨zna h a.M,zm9 h a.M⟩<|cond (ieq a.Kind 11) ⟨zhG h a.M a.G a.X a.Y,0⟩<|⟨zgC h a.M a.G a.X,zsf h a.M a.G a.X⟩)
def znh (h:ad)(a:GAct):ad:=bif ieq a.Kind 13 then zqG h a.M a.X else (cond (ieq a.Kind 14) (zus h a.M a.X)<|cond (ieq a.Kind 15) (zua h a.M a.X)<|cond (ieq a.Kind 16) (zkx h a.M a.X)<|cold h)
def zLz (h:ad)(a:GAct):aE:=bif ieq a.Kind 13 then ⟨zDg h a.M a.X,0⟩ else (cond (ieq a.Kind 14) ⟨zIx h a.M a.X,0⟩<|cond (ieq a.Kind 15) ⟨zcI h a.M a.X,0⟩<|cond (ieq a.Kind 16) ⟨zzZ h a.M a.X,0⟩<|⟨true,0⟩)
def ze6 (h:ad)(a:GAct):ad:=bif zk a.Kind 1 17 then (cond (zk a.Kind 13 17) (znh h a)<|zum h a) else h
def zke (h:ad)(a:GAct):aE:=bif zk a.Kind 1 17 then (cond (zk a.Kind 13 17) (zLz h a)<|zCX h a) else ⟨false,0⟩
def z3j {h:ad}{a:GAct}(b:SmH h):SmH (znh h a):=by unfold znh;cases ieq a.Kind 13;{cases ieq a.Kind 14;{cases ieq a.Kind 15;{cases ieq a.Kind 16;{exact z5F b};{exact z3k b}};{exact z3h b}};{exact zbaI b}};{exact z9B b}
def z3i {h:ad}{a:GAct}(c:SmH h):SmH (zum h a):=by have d:zc2 h a.M=true->SmB (zM h a.M):=λb=>zVe c (zcJ.1 b).2;unfold zum;cases ieq a.Kind 1;{cases ieq a.Kind 2;{cases ieq a.Kind 3;{cases ieq a.Kind 4;{cases ieq a.Kind 5;{cases ieq a.Kind 6;{cases ieq a.Kind 7;{cases ieq a.Kind 8;{cases ieq a.Kind 9;{cases ieq a.Kind 10;{cases ieq a.Kind 11;{exact z5H c};{exact z9A c}};{exact zon c (λb=>zX8 (d b))}};{exact zon c (λb=>zVd _ (d b))}};{exact z5G c}};{exact zon c (λb=>zX9 _ _ (d b))}};{exact zon c (λb=>zMa _ _ (d b))}};{exact zon c (λb=>zMb _ (d b))}};{exact zon c (λb=>zL9 _ _ (d b))}};{exact z3g c}};{exact zon c (λb=>zYa _ _ _ (d b))}};{exact(z2W a.M a.G c).sm}
def zYd {h:ad}{a:GAct}(b:SmH h):SmH (ze6 h a):=by unfold ze6;cases zk a.Kind 1 17;{exact b};{cases zk a.Kind 13 17;{exact z3i b};{exact z3j b}}
@[simp] abbrev zij (h:ad)(a:GAct):Bool:=pc (zdY h)
@[simp] abbrev zmf (h:ad)(a:GAct):ad:=znh h a
@[simp] abbrev zjU (h:ad)(a:GAct):aE:=zLz h a
def zyw:Run:=rF2 dH (dT .act) λb c=>(zij b c,[aH<|zmf b c,aT .told<|zjU b c])
def zCe (N:Nat)(c:ad)(a:GAct):OA:=
 (cond (ieq a.Kind 13) (oN (ziR c a.M a.X)<|some [aH<|zrH c a.M a.X,.agg [.b<|zrI c a.M a.X,.i .i64 0]])<|cond (ieq a.Kind 14) (oN (ziR c a.M a.X)<|some [aH<|ztu c a.M a.X,.agg [.b<|ztv c a.M a.X,.i .i64 0]])<|cond (ieq a.Kind 15) (oN (ziR c a.M a.X)<|some [aH<|zwi c a.M a.X,.agg [.b<|zga c a.M a.X,.i .i64 0]])<|cond (ieq a.Kind 16) (oN (zuT c a.M a.X)<|some [aH<|zpH c a.M a.X,.agg [.b<|zpI c a.M a.X,.i .i64 0]])<|oN (zby c)<|some [aH<|zUR c,.agg [.b true,.i .i64 0]])
def zOl (a:ad)(b:GAct)(c:zij a b=true):∃N,zCe N a b=some [aH<|zmf a b,aT .told<|zjU a b]:=by have d:=zS.1 c;refine⟨0,?_⟩;unfold zCe oN;refine br (λ_=>mu ?_) (λ_=>br (λ_=>mu ?_) λ_=>br (λ_=>mu ?_) λ_=>br (λ_=>mu ?_) λ_=>mu ?_);all_goals first|rfl|(simp only [*,zmf,zjU,znh,zLz,cT,cF]<;>rfl)|simp_all[Ty.cells,zmf,zjU,znh,zLz]
def zH9:vR 140 zyw:=kF2 zPG zC zb6 zc7 (zx []) zOl
def z1l:zW:=[(140,zyw),(42,zGE),(40,zAZ),(38,zGF)]++z1k
def zPH:zL z1l:=zh zH9 (zh zQE<|zh zKq<|zh zQF zPG)
@[simp] abbrev znm (h:ad)(a:GAct):ad:=ze6 h a
@[simp] abbrev znn (h:ad)(a:GAct):aE:=zke h a
def zsM:Run:=rF2 dH (dT .act) λb c=>(zij b c,[aH<|znm b c,aT .told<|znn b c])
def zFP (N:Nat)(c:ad)(a:GAct):OA:=
 let d:=(⟨a.Y,a.Z⟩:k0); (oN (zoB a)<|cond (nB<|zyx a) (oN (zby c)<|some [aH<|zo c,.agg [.b false,.i .i64 0]])<|oN (zw6 a.Kind)<|cond (zsn a.Kind) (oN (zij c a)<|some [aH<|zmf c a,.agg [.b (zjU c a).Ok,.i .i64 (zjU c a).N]])<|cond (ieq a.Kind 1) (oN (zdk c a.M a.G)<|some [aH<|zcL c a.M a.G,.agg [.b<|zcM c a.M a.G,.i .i64 0]])<|cond (ieq a.Kind 2) (oN (zw5 c a.M a.G a.X d)<|some [aH<|znd c a.M a.G a.X d,.agg [.b<|zne c a.M a.G a.X d,.i .i64 0]])<|cond (ieq a.Kind 3) (oN (zsU c a.M a.G a.X)<|some [aH<|znP c a.M a.G a.X,.agg [.b<|zkF c a.M a.G a.X,.i .i64 0]])<|cond (ieq a.Kind 4) (oN (zqY c a.M a.G a.X)<|some [aH<|zjE c a.M a.G a.X,.agg [.b<|zjF c a.M a.G a.X,.i .i64 0]])<|cond (ieq a.Kind 5) (oN (zq0 c a.M a.G)<|some [aH<|zjI c a.M a.G,.agg [.b<|zjJ c a.M a.G,.i .i64 0]])<|cond (ieq a.Kind 6) (oN (zqZ c a.M a.G a.X)<|some [aH<|zjG c a.M a.G a.X,.agg [.b<|zjH c a.M a.G a.X,.i .i64 0]])<|cond (ieq a.Kind 7) (oN (zoB a)<|oN (zw3 c a.M a.G<|zqU a)<|some [aH<|znb c a.M a.G<|zqU a,.agg [.b<|znc c a.M a.G<|zqU a,.i .i64 0]])<|cond (ieq a.Kind 8) (oN (zuP c a.M a.X a.Y a.Z)<|some [aH<|zpB c a.M a.X a.Y a.Z,.agg [.b<|zpC c a.M a.X a.Y a.Z,.i .i64 0]])<|cond (ieq a.Kind 9) (oN (zuQ c a.M a.X)<|some [aH<|zlM c a.M a.X,.agg [.b<|zlN c a.M a.X,.i .i64 0]])<|cond (ieq a.Kind 10) (oN (zov c a.M)<|some [aH<|zm8 c a.M,.agg [.b<|zna c a.M,.i .i64<|zm9 c a.M]])<|cond (ieq a.Kind 11) (oN (zw4 c a.M a.G a.X a.Y)<|some [aH<|zrE c a.M a.G a.X a.Y,.agg [.b<|zrF c a.M a.G a.X a.Y,.i .i64 0]])<|oN (zuR c a.M a.G a.X)<|some [aH<|zpD c a.M a.G a.X,.agg [.b<|zpF c a.M a.G a.X,.i .i64<|zpE c a.M a.G a.X]])
def zRb (a:ad)(b:GAct)(c:zij a b=true):∃N,zFP N a b=some [aH<|znm a b,aT .told<|znn a b]:=by
 have d:=zS.1 c;refine⟨0,?_⟩;unfold zFP oN nB;conv=>zeta
 refine j0 rfl (brN (λ_=>mu ?_) λ_=>j0 rfl (br (λ_=>mu ?_) λ_=>br (λ_=>mu ?_) λ_=>br (λ_=>mu ?_) λ_=>br (λ_=>mu ?_) λ_=>br (λ_=>mu ?_) λ_=>br (λ_=>mu ?_) λ_=>br (λ_=>mu ?_) λ_=>br (λ_=>j0 rfl (mu ?_)) λ_=>br (λ_=>mu ?_) λ_=>br (λ_=>mu ?_) λ_=>br (λ_=>mu ?_) λ_=>br (λ_=>mu ?_) λ_=>mu ?_));all_goals first|rfl|(simp only [*,znm,znn,ze6,zke,zum,zCX,cT,cF]<;>rfl)|simp_all[Ty.cells,znm,znn,ze6,zke,zum,zCX]
def zvL:vR 31 zsM:=kF2 zPH zC zb6 zc7 (zx []) zRb
def z1m:zW:=[(31,zsM)]++z1l
def zPI:zL z1m:=zh zvL zPH
def zDl:List GAct->ad×List aE->ad×List aE
 |[],u=>u
 |a::l,u=>zDl l (ze6 u.1 a,ap u.2 [zke u.1 a])
def zzr (a:List (List<|List Ins))(l:List GAct):ad×List aE:=zDl (l.take 80) (zcS a,[])
abbrev HSt:Type:=(List aE)×(List<|LI)×(List Mon)×(List au)×(List au)
def hOf (t:HSt):ad:=⟨t.2.1,t.2.2.1,t.2.2.2.1,t.2.2.2.2⟩
def tOf (u:ad×List aE):HSt:=(u.2,u.1.ag,u.1.aa,u.1.ao,u.1.an)
def zzy (t:HSt):OA:=some [AV.agg<|zbo<|hOf t,AV.one<|.s .told t.1]
def zYe {e:List (List<|List Ins)}(h:zvh e):SmH (zcS e):=by refine⟨show SmM zZC from ⟨by decide,by decide⟩,⟨?_,?_⟩,by simp[zcS],by simp[zcS]⟩;{simp only [zcS,uO,vP];omega};{intro x d;simp only[zcS,jD]at d;obtain⟨p,f,rfl⟩:=d;have b:=h.2 p (jU f);refine⟨show zuZ.length<=1048576 by decide,show SmM zOq from ⟨by decide,by decide⟩,show (rp 8 false).length<=1048576 by decide,⟨?_,?_⟩,by simp[zfV],⟨?_,?_⟩⟩;{simp only [zfV,uO,vP];omega};{intro y a;simp only[zfV,jD]at a;obtain⟨q,c,rfl⟩:=a;exact⟨b.2 q<|jU c,show zjV.length<=1048576 by decide,show zjV.length<=1048576 by decide,by simp[zdO]⟩};{simp only [zfV,uO,vP];omega};{intro y a;simp only[zfV,jD]at a;obtain⟨q,c,rfl⟩:=a;exact⟨show (rp 4 false).length<=1048576 by decide,show zjV.length<=1048576 by decide⟩}}
def zGq {c:ad->GAct->Bool}(d:∀h a,SmH h->c h a=true)(m:Nat):∀(l:List GAct) (i:Nat) (u:ad×List aE),SmH u.1->u.2.length+l.length<=2147483648->
 goL (λ(i:Nat) x (t:HSt) n=>bif ilt (i:Int) (m:Int) then (cond (c (hOf t) x) (cond (few<|ln<|ap t.1 [zke (hOf t) x]) (n (ap t.1 [zke (hOf t) x],(ze6 (hOf t) x).ag,(ze6 (hOf t) x).aa,(ze6 (hOf t) x).ao,(ze6 (hOf t) x).an)) none) none) else zzy t) zzy l i (tOf u)=zzy (tOf<|zDl (l.take<|m-i) u)
 |[],i,u,_,_=>by simp[goL,zDl]
 |a::l,i,u,e,k=>by simp only[qW]at k;have g:few (ln<|ap u.2 [zke u.1 a])=true:=zfO (by simp[ap];omega);have j:hOf (tOf u)=u.1:=rfl;have f:(tOf u).1=u.2:=rfl;by_cases h:i<m;{have b:ilt (i:Int) (m:Int)=true:=qK (by omega);simp only[goL,b,j,f,g,d _ _ e,cT];refine(zGq d m l (i+1) (ze6 u.1 a,ap u.2 [zke u.1 a]) (zYd e) (by simp[ap];omega)).trans ?_;rw[show m-i=m-(i+1)+1 by omega];rfl};{have b:ilt (i:Int) (m:Int)=false:=qV (by omega);simp only[goL,b,cF];rw[show m-i=0 by omega];rfl}
@[simp] abbrev zuO (a:List (List<|List Ins))(l:List GAct):Bool:=pc (zvh a/\l.length<=1048576)
@[simp] abbrev zuN (a:List (List<|List Ins))(l:List GAct):ad:=(zzr a l).1
@[simp] abbrev zDz (a:List (List<|List Ins))(l:List GAct):List aE:=(zzr a l).2
def zym:Run:=rF2 (dS<|.sl<|.sl .ins) (dS .act) λb c=>(zuO b c,[aH<|zuN b c,aS .told<|zDz b c])
def zB1 (N:Nat)(b:lQ)(g:lA):OA:=
 (oN (zjd b)<|r0 (σ:=(Int×lA×lT×lM×lN×lE×lE×lM×lN×lE×lE×Unit)) N (λh a=>let b:=a.2.2.2.2.2;let e:=ix a.2.1 a.1 zbbk;let c:=(⟨b.2.2.1,b.2.2.2.1,b.2.2.2.2.1,b.2.2.2.2.2.1⟩:ad);let f:=ap a.2.2.1 [znn c e];let d:=znm c e; (cond (ilt a.1<|ln a.2.1) (cond (ilt a.1 80) (oN (inb a.1<|ln a.2.1)<|oN (zij c e)<|oN (few<|ln f)<|h (zK .i64 a.1 1,a.2.1,f,a.2.2.2.1,a.2.2.2.2.1,b.1,b.2.1,d.ag,d.aa,d.ao,d.an,()))<|some [aH c,aS .told a.2.2.1])<|some [aH c,aS .told a.2.2.1])) (0,g,[],[],[],[],[],(zeH b).ag,(zeH b).aa,(zeH b).ao,(zeH b).an,()))
def zOT:=zx [(235,0,{n:=39,tm:=[(1,.sl 0 []),(4,.lp 0 0),(6,.lp 1 0),(7,.sl 1 []),(8,ti)],lo:=[(0,[.sl 2 [],.sl 3 [],.sl 4 [],.sl 5 []]),(1,[.sl 6 [],.sl 7 [],.sl 8 [],.sl 9 []])],ro:=[(0,.act,false),(1,.told,true),(2,.sl .int,true),(3,.mon,true),(4,.entry,true),(5,.entry,true),(6,.sl .int,true),(7,.mon,true),(8,.entry,true),(9,.entry,true)]})]
def zN8 (b:List lP)(c:List GAct)(k:zuO b c=true):∃N,zB1 N b c=some [aH<|zuN b c,aS .told<|zDz b c]:=by
 obtain⟨j,g⟩:=zS.1 k;have f:=zcV g;refine zcj λN e=>?_;unfold zB1 oN;conv=>zeta
 refine j0 (zY j) ?_;refine(zbq c (λi (t:lT×lM×lN×lE×lE)=>((i:Int),c,t.1,[],[],[],[],t.2.1,t.2.2.1,t.2.2.2.1,t.2.2.2.2,())) _ (λi (x:GAct) (t:HSt) m=>bif ilt (i:Int) ((80:Nat):Int) then (cond (zij (hOf t) x) (cond (few<|ln<|ap t.1 [zke (hOf t) x]) (m (ap t.1 [zke (hOf t) x],(ze6 (hOf t) x).ag,(ze6 (hOf t) x).aa,(ze6 (hOf t) x).ao,(ze6 (hOf t) x).an)) none) none) else zzy t) (λ(t:lT×lM×lN×lE×lE)=>some [.agg<|zbo (⟨t.2.1,t.2.2.1,t.2.2.2.1,t.2.2.2.2⟩:ad),.one<|.s .told t.1]) (λi d t rec=>?_) (λt rec=>?_) _ ([],(zeH b).ag,(zeH b).aa,(zeH b).ao,(zeH b).an)<|e f.1).trans ?_;{simp only [zbu d,zT d,zbi d,zbj d f.1,cT];rfl};{simp only [zbh,cF]};exact zGq (λh a l=>zY ((zbc h).2 l)) 80 c 0 (zcS b,[]) (zYe j) (by simpa using f.2)
def zHQ:vR 235 zym:=kF2 zPI zC zb6 zc7 zOT zN8
def zSU:zW:=[(235,zym)]++z1m
def zGg:zL zSU:=zh zHQ zPI
def zYw (h:ad):Prop:=∃a l,zvh a/\(1<=a.length/\∀p∈a,1<=p.length/\∀x∈p,zdg x=true)/\h=(zzr a l).1
def zuu {p:List Ins}(h:zdg p=true):p.length<=12:=by unfold zdg at h;cases a:p.all zez with|false=>rw[a]at h;cases h|true=>rw[a,cT]at h;have b:=(zgA.1 h).2;unfold ln at b;omega
def zwJ (N:Nat)(c:Cur)  : OA :=
 let a:=({ (zgP c) with b:=c.b}:Cur); (oN (zkv c)<|oN (znx a 20)<|oN (zuO (zku c)<|zsq a 20)<|some [.agg [.s .u8 c.b,.i .i64 (zny a 20).i,.i .i64 (zny a 20).h],aH<|zuN (zku c)<|zsq a 20])
def zp8 (c:Cur)(s:Cur)(a:ad):Prop:=(∃N,zwJ N c=some (AV.agg (zbV s)::[aH a]))/\(s.b=c.b/\0<=s.i)/\(zYw a)
def zjk (c:Cur)  : Bool:=wC (zp8 c)
def zjl (c:Cur)  : Cur:=wS (zp8 c)
def zi0 (c:Cur)  : ad:=wV (zp8 c)
def zxb {c:Cur}(h:zjk c=true):zp8 c (zjl c) (zi0 c):=wG h
def zW8 (c:Cur)  : 0<=(zjl c).i:=wP λh=>h.2.1.2
def zW7 (c:Cur)(h:∃N,Ends (wE (λa=>aH a) c.b λa=>zYw a)<|zwJ N c):zjk c=true:=wI (λ_ _ h=>h) h
def zyc:zdX:=rP0 λc=>(zjk c,zjl c,[aH<|zi0 c])
def zKO:zbR Tryz.prog 99 [false,true,true] zyc:=hP0 zGg zQ zUC zq (zx []) (λ_ h=>(zxb h).1)
def zKV {c:Cur}(h:zbf c):zjk c=true:=by
 refine zW7 c ⟨0,?_⟩;have e:zbf {zgP c with b:=c.b}:=zbM h (zL3 _);have a:=(zzX<|zR6 h).2.2;have f:=(zGR<|z0G e (m:=20) (by omega) (by omega)).2.2;unfold zwJ oN;conv=>zeta
 have i:(zsq {zgP c with b:=c.b} 20).length<=65:=by unfold ln at f;omega
 have S:zvh (zku c):=⟨by omega,λp d=>by
  have g:=a.2.2 p d;exact⟨by omega,λx j=>by have:=zuu (g.2.2 x j);omega⟩⟩
 exact zu (zR6 h) (zu (z0G e (by omega) (by omega))<|zu (zY ⟨S,qU i (by decide)⟩)<|zbJ aH (zXa _ _) ⟨_,_,S,⟨a.1,λp d=>⟨(a.2.2 p d).1,(a.2.2 p d).2.2⟩⟩,rfl⟩)
def zZP:zcY:=[(99,[false,true,true],zyc)]++z7y
def zzH:zb2 zZP:=zcq zUC (by
 intro x a;simp only[qG,qP,or_false]at a;rcases a with rfl
 .exact zKO)
def z0T:zW:=zSU
def z0U:zL z0T:=zGg
instance:Inhabited k0:=⟨⟨0,0⟩⟩
instance:Inhabited au:=⟨⟨0,0,0,0⟩⟩
instance:Inhabited aD:=⟨⟨0,0,false,0⟩⟩
instance:Inhabited ah:=⟨⟨[],0,0,[],[],⟨0,0,false⟩,0,⟨0,0,false,0⟩,false,[]⟩⟩
def zvm {c:Cur}(h:zbf c){n m:Int}(a:0<n)(b:n<=m):inb (zn c n) m=true:=by have:=zgn h a;exact qK (by omega)
def zCl {c:Cur}(h:zbf c){n m:Int}(a:0<n)(b:n<=m+1):inr 0 (zn c n) m=true:=by have:=zgn h a;exact qK (by omega)
def zC9 {a:Type}(l:List a)(n:Int):(tk l n).length<=l.length:=by simp[tk];omega
def ziG {a:Type}(l:List a)(n:Int)(x:a):(up l n x).length=l.length:=by simp[up]
def z4S {a:Type}(l:List a)(n:Int):ln (tk l n)<=ln l:=by have:=zC9 l n;unfold ln;omega
def z4T {a:Type}(l:List a)(n:Int)(x:a):ln (up l n x)=ln l:=by unfold ln;rw[ziG]
def I64 (x:Int):Prop:=-9223372036854775808<=x/\x<=9223372036854775807
def zUn {f:Type}{c:Cur}(h:zbf c){P:f->Prop}{m:Int}(r:0<=m)(I:m<=1000){fc:Cur->Bool}{fs:Cur->Cur}{fv:Cur->f}(z:∀{c:Cur},zbf c->fc c=true)(C:∀c,0<=(fs c).i)(hg:∀{c:Cur},zbf c->P (fv c)){G:Ans->Prop}{R:Cur->List f->Ans}(w:∀s l,s.b=c.b->0<=s.i->ln l=m->(∀x∈l,P x)->G (R s l)){j:Type}(S:Int->Int×Int×List f->j){F:(j->OA)->j->OA}(v:∀rec t i k l,F rec (S t (i,k,l))=bif ilt t m then (cond (fc ⟨c.b,i,k⟩) (cond (few<|ln<|ap l [fv ⟨c.b,i,k⟩]) (rec<|S (zK .i64 t 1) ((fs ⟨c.b,i,k⟩).i,(fs ⟨c.b,i,k⟩).h,ap l [fv ⟨c.b,i,k⟩])) none) none) else some (R ⟨c.b,i,k⟩ l)):Ends G (r0 1002 F<|S 0 (c.i,c.h,[])):=by refine zlG (λn s=>∃t i k l,s=S t (i,k,l)/\t+(n:Int)=1000/\0<=t/\t<=m/\0<=i/\(∀x∈l,P x)/\ln l=t) ?_ 1002 1000 _ ⟨0,c.i,c.h,[],rfl,rfl,kS 0,r,h.1,by simp,rfl⟩ (by omega);rintro n s rec ⟨t,i,k,l,rfl,D,u,E,p,q,H⟩ d;rw[v];have a:zbf ⟨c.b,i,k⟩:=zbM h p;refine zbz (λg=>?_) (λg=>?_);{have B:t<m:=qF g;have J:=zh1 (y:=1) u (by omega) (by omega) (by omega);refine zu (z a) (zu (zjz (by rw[zil];omega))<|d (n-1) _ (by omega) ⟨_,_,_,_,rfl,by omega,by omega,by omega,C _,?_,by rw[zil];omega⟩);intro x e;rcases jJ.1 e with e|e;{exact q x e};{rw [qD.1 e];exact hg a}};{have A:¬ t<m:=jY g;exact zt4 (w _ l rfl p (by omega) q)}
def zsu (N:Nat)(c:Cur)  : OA :=
 let a:=zZ c [3,3,1,2,0,3,1,-1,4,9223372036854775807]; (oN (zbt c [3,3,1,2,0,3,1,-1,4,9223372036854775807])<|some [.agg [.s .u8 c.b,.i .i64 a.i,.i .i64 a.h],aI<|zbn c [3,3,1,2,0,3,1,-1,4,9223372036854775807]])
def zmR (c:Cur)(s:Cur)(a:Int):Prop:=(∃N,zsu N c=some (AV.agg (zbV s)::[aI a]))/\(s.b=c.b/\0<=s.i)/\(True)
def zkR (c:Cur)  : Bool:=wC (zmR c)
def zkS (c:Cur)  : Cur:=wS (zmR c)
def zrJ (c:Cur)  : Int:=wV (zmR c)
def zRG {c:Cur}(h:zkR c=true):zmR c (zkS c) (zrJ c):=wG h
def zRI (c:Cur)  : 0<=(zkS c).i:=wP λh=>h.2.1.2
def zRH (c:Cur)(h:∃N,Ends (wE (λa=>aI a) c.b λa=>True)<|zsu N c):zkR c=true:=wI (λ_ _ h=>h) h
def zux:zdX:=rP0 λc=>(zkR c,zkS c,[aI<|zrJ c])
def zE1:zbR Tryz.prog 457 [false,true,true] zux:=hP0 zd5 zQ zzH zq (zx []) (λ_ h=>(zRG h).1)
def z5r {c:Cur}(h:zbf c):zkR c=true:=by
 refine zRH c ⟨0,?_⟩;unfold zsu oN;conv=>zeta
 exact zu (zfy h (by simp)) (zbJ aI (zb0 _ _) trivial)
def z7z:zcY:=[(457,[false,true,true],zux)]++zZP
def zUD:zb2 z7z:=zcq zzH (by
 intro x a;simp only[qG,qP,or_false]at a;rcases a with rfl
 .exact zE1)
def z6C:zW:=[(215,zlX),(286,zpg),(409,zqP),(411,zsN)]++zMQ
def zeC:zL z6C:=zh zxP (zh zs6<|zh zui<|zh zvN zd5)
def zwE (N:Nat)(c:Cur)(d:Int):OA:=
 let e:=({ (zO c 5) with b:=c.b}:Cur);let a:=({ (zf e d) with b:=c.b}:Cur); (oN (zck c 5)<|cond (zcC c 5) (oN zbU<|some [.agg [.s .u8 c.b,.i .i64 (zO c 5).i,.i .i64 (zO c 5).h],.agg [.i .i64 zbl.af,.i .i64 zbl.aj]])<|oN (zA e d)<|oN (zbt a [3,3,3,1,2])<|some [.agg [.s .u8 c.b,.i .i64 (zZ a [3,3,3,1,2]).i,.i .i64 (zZ a [3,3,3,1,2]).h],.agg [.i .i64<|zn e d,.i .i64<|zbn a [3,3,3,1,2]]])
def zpT (c:Cur)(a:Int)(s:Cur)(d:k0):Prop:=(∃N,zwE N c a=some (AV.agg (zbV s)::[aT .slot d]))/\(s.b=c.b/\0<=s.i)/\(0<a->a<=1000->I64 d.af)
def zjg (c:Cur)(a:Int):Bool:=wC (zpT c a)
def zgK (c:Cur)(a:Int):Cur:=wS (zpT c a)
def zgg (c:Cur)(a:Int):k0:=wV (zpT c a)
def zw7 {c:Cur}{a:Int}(h:zjg c a=true):zpT c a (zgK c a) (zgg c a):=wG h
def zGP (c:Cur)(a:Int):0<=(zgK c a).i:=wP λh=>h.2.1.2
def zWZ (c:Cur)(a:Int)(h:∃N,Ends (wE (λd=>aT .slot d) c.b λd=>0<a->a<=1000->I64 d.af)<|zwE N c a):zjg c a=true:=wI (λ_ _ h=>h) h
def zx7:zdX:=rP1 dI λc b=>(zjg c b,zgK c b,[aT .slot<|zgg c b])
def zKE:zbR Tryz.prog 456 [false,true,true] zx7:=hP1 zeC zQ zUD zq (zx []) (λ_ _ h=>(zw7 h).1)
def zL8 {c:Cur}(h:zbf c)(a:Int):zjg c a=true:=by
 refine zWZ c a ⟨0,?_⟩;unfold zwE oN;conv=>zeta
 have d:zbf {zO c 5 with b:=c.b}:=zbM h (zb5 _ _);have g:zbf {zf {zO c 5 with b:=c.b} a with b:=c.b}:=zbM h (zF _ _);refine zu (zh8 h 5) (zbz (λ_=>zu rfl (zbJ (aT .slot) (v:=⟨_,_⟩) (zb5 _ _) λ_ _=>?_)) λ_=>zu (zbA d a) (zu (zfy g (by simp))<|zbJ (aT .slot) (v:=⟨_,_⟩) (zb0 _ _) λe f=>?_));{exact⟨by decide,by decide⟩};{have:=zgn d e;exact⟨Int.le_trans (by decide) this.1,Int.le_trans (vQ this.2) (by omega)⟩}
def z7A:zcY:=[(456,[false,true,true],zx7)]++z7z
def zIA:zb2 z7A:=zcq zUD (by
 intro x a;simp only[qG,qP,or_false]at a;rcases a with rfl
 .exact zKE)
def zyL (N:Nat)(c:Cur)(a:Int):OA:=
 let e:=({ (zgK c a) with b:=c.b}:Cur);let d:=({ (zf e 12) with b:=c.b}:Cur);let f:=zZ d [-1,-2,a,9223372036854775807,-9223372036854775808]; (oN (zjg c a)<|oN (zA e 12)<|cond (ieq (zn e 12) 0) (oN (zbt d [-1,-2,a,9223372036854775807,-9223372036854775808])<|some [.agg [.s .u8 c.b,.i .i64 f.i,.i .i64 f.h],.agg [.i .i64<|zbn d [-1,-2,a,9223372036854775807,-9223372036854775808],.i .i64 (zgg c a).aj]])<|cond (ieq (zn e 12) 1) (oN (zkR d)<|some [.agg [.s .u8 c.b,.i .i64 (zkS d).i,.i .i64 (zkS d).h],.agg [.i .i64 (zgg c a).af,.i .i64<|zrJ d]])<|some [.agg [.s .u8 c.b,.i .i64 (zf e 12).i,.i .i64 (zf e 12).h],.agg [.i .i64 (zgg c a).af,.i .i64 (zgg c a).aj]])
def zrK (c:Cur)(a:Int)(s:Cur)(d:k0):Prop:=(∃N,zyL N c a=some (AV.agg (zbV s)::[aT .slot d]))/\(s.b=c.b/\0<=s.i)/\(0<a->a<=1000->I64 d.af)
def zpQ (c:Cur)(a:Int):Bool:=wC (zrK c a)
def zpR (c:Cur)(a:Int):Cur:=wS (zrK c a)
def zIM (c:Cur)(a:Int):k0:=wV (zrK c a)
def zLZ {c:Cur}{a:Int}(h:zpQ c a=true):zrK c a (zpR c a) (zIM c a):=wG h
def zZV (c:Cur)(a:Int):0<=(zpR c a).i:=wP λh=>h.2.1.2
def zZU (c:Cur)(a:Int)(h:∃N,Ends (wE (λd=>aT .slot d) c.b λd=>0<a->a<=1000->I64 d.af)<|zyL N c a):zpQ c a=true:=wI (λ_ _ h=>h) h
def zAG:zdX:=rP1 dI λc b=>(zpQ c b,zpR c b,[aT .slot<|zIM c b])
def zNv:zbR Tryz.prog 392 [false,true,true] zAG:=hP1 zeC zQ zIA zq (zx []) (λ_ _ h=>(zLZ h).1)
def zPt {c:Cur}(h:zbf c)(a:Int):zpQ c a=true:=by
 refine zZU c a ⟨0,?_⟩;unfold zyL oN;conv=>zeta
 have d:zbf {zgK c a with b:=c.b}:=zbM h (zGP _ _);have f:zbf {zf {zgK c a with b:=c.b} 12 with b:=c.b}:=zbM h (zF _ _);have g:=(zw7<|zL8 h a).2.2;refine zu (zL8 h a) (zu (zbA d 12)<|zbz (λ_=>zu (zfy f (by simp)) (zbJ (aT .slot) (v:=⟨zbn _ _,(zgg c a).aj⟩) (zb0 _ _) λe i=>?_)) λ_=>zbz (λ_=>zu (z5r f) (zbJ (aT .slot) (v:=⟨(zgg c a).af,zrJ _⟩) (zRI _) λe d=>g e d)) λ_=>zbJ (aT .slot) (v:=⟨(zgg c a).af,(zgg c a).aj⟩) (zF _ _) λe d=>g e d);have j:=zX1 f (l:=[-1,-2,a,9223372036854775807,-9223372036854775808]) (by simp);simp only[qG,qP,or_false]at j;unfold I64;dsimp only;omega
def ztO (N:Nat)(c:Cur)(g j:Int):OA:=
 (r0 (σ:=(Int×Int×Int×Int×Int×lS×LI×Unit)) N (λk a=>let b:=a.2.2.2.2;let e:=b.2.2.1;let d:=(⟨e,a.2.2.2.1,b.1⟩:Cur);let f:=ap b.2.1 [zgg d a.2.1]; (cond (ilt a.2.2.1 a.1) (oN (zjg d a.2.1)<|oN (few<|ln f)<|k (a.1,a.2.1,zK .i64 a.2.2.1 1,(zgK d a.2.1).i,(zgK d a.2.1).h,f,e,()))<|some [.agg [.s .u8 e,.i .i64 a.2.2.2.1,.i .i64 b.1],aS .slot b.2.1])) (g,j,0,c.i,c.h,[],c.b,()))
def zOW:=zx [(391,0,{n:=22,tm:=[(0,.lp 0 0),(1,ti),(2,ti),(7,.sl 0 []),(8,ti)],lo:=[(0,[.sl 1 [],ti,ti])],ro:=[(0,.slot,true),(1,.u8,false)]})]
def znR (c:Cur)(a:Int)(d:Int)(s:Cur)(e:List k0):Prop:=(∃N,ztO N c a d=some (AV.agg (zbV s)::[aS .slot e]))/\(s.b=c.b/\0<=s.i)/\(0<=a->a<=1000->ln e=a/\(0<d->d<=1000->∀s∈e,I64 s.af))
def zih (c:Cur)(a:Int)(b:Int):Bool:=wC (znR c a b)
def zJ (c:Cur)(a:Int)(b:Int):Cur:=wS (znR c a b)
def zdA (c:Cur)(a:Int)(b:Int):List k0:=wV (znR c a b)
def zuU {c:Cur}{a:Int}{b:Int}(h:zih c a b=true):znR c a b (zJ c a b) (zdA c a b):=wG h
def zii (c:Cur)(a:Int)(b:Int):0<=(zJ c a b).i:=wP λh=>h.2.1.2
def zUV (c:Cur)(a:Int)(d:Int)(h:∃N,Ends (wE (λe=>aS .slot e) c.b λe=>0<=a->a<=1000->ln e=a/\(0<d->d<=1000->∀s∈e,I64 s.af))<|ztO N c a d):zih c a d=true:=wI (λ_ _ h=>h) h
def zvV:zdX:=rP2 dI dI λc b d=>(zih c b d,zJ c b d,[aS .slot<|zdA c b d])
def zH2:zbR Tryz.prog 391 [false,true,true] zvV:=hP2 zeC zQ zIA zq zOW (λ_ _ _ h=>(zuU h).1)
def zyF {c:Cur}(h:zbf c){d:Int}(g:0<=d)(j:d<=1000)(a:Int):zih c d a=true:=by
 refine zUV c d a ⟨1002,?_⟩;unfold ztO oN;conv=>zeta
 exact zUn h (P:=λs=>0<a->a<=1000->I64 s.af) g j (fc:=λc=>zjg c a) (fs:=λc=>zgK c a) (fv:=λc=>zgg c a) (R:=λs l=>AV.agg (zbV s)::[aS .slot l]) (λh=>zL8 h a) (λc=>zGP c a) (λh=>(zw7<|zL8 h a).2.2) (λs l m n p q=>⟨s,l,rfl,⟨m,n⟩,λ_ _=>⟨p,λe f s r=>q s r e f⟩⟩) ((λi t=>(d,a,(i:Int),t.1,t.2.1,t.2.2,c.b,())):Int->Int×Int×List k0->_) (λrec t i k l=>rfl)
def z9H {c:Cur}(h:zbf c){n m:Int}(a:0<=n)(b:n<=1000)(d:0<m)(e:m<=1000):ln (zdA c n m)=n/\∀s∈zdA c n m,I64 s.af:=by have g:=(zuU<|zyF h a b m).2.2 a b;exact⟨g.1,g.2 d e⟩
def z7B:zcY:=[(392,[false,true,true],zAG),(391,[false,true,true],zvV)]++z7A
def zIB:zb2 z7B:=zcq zIA (by
 intro x a;simp only[qG,qP,or_false]at a;rcases a with rfl|rfl
 .exact zNv
 .exact zH2)
def zoL (N:Nat)(c:Cur)(a d:Int):OA:=
 let g:=zdA c a d;let f:=({ (zJ c a d) with b:=c.b}:Cur);let e:=({ (zf f 8) with b:=c.b}:Cur);let k:=zn e a;let j:=({ (zf e a) with b:=c.b}:Cur); (oN (zih c a d)<|oN (zA f 8)<|cond (ieq (zn f 8) 0) (oN (zA e a)<|oN (zpQ j d)<|oN (inb k<|ln g)<|p0 (up g k<|zIM j d) λl=>some [.agg [.s .u8 c.b,.i .i64 (zpR j d).i,.i .i64 (zpR j d).h],aS .slot l])<|cond (ieq (zn f 8) 1) (oN (zA e a)<|oN (inr 0 k<|ln g)<|some [.agg [.s .u8 c.b,.i .i64 (zf e a).i,.i .i64 (zf e a).h],aS .slot<|tk g k])<|some [.agg [.s .u8 c.b,.i .i64 (zf f 8).i,.i .i64 (zf f 8).h],aS .slot g])
def zkq (c:Cur)(a:Int)(d:Int)(s:Cur)(e:List k0):Prop:=(∃N,zoL N c a d=some (AV.agg (zbV s)::[aS .slot e]))/\(s.b=c.b/\0<=s.i)/\(0<a->a<=1000->ln e<=a/\(0<d->d<=1000->∀s∈e,I64 s.af))
def zf1 (c:Cur)(a:Int)(b:Int):Bool:=wC (zkq c a b)
def zhe (c:Cur)(a:Int)(b:Int):Cur:=wS (zkq c a b)
def zfk (c:Cur)(a:Int)(b:Int):List k0:=wV (zkq c a b)
def zpO {c:Cur}{a:Int}{b:Int}(h:zf1 c a b=true):zkq c a b (zhe c a b) (zfk c a b):=wG h
def zpP (c:Cur)(a:Int)(b:Int):0<=(zhe c a b).i:=wP λh=>h.2.1.2
def zLY (c:Cur)(a:Int)(d:Int)(h:∃N,Ends (wE (λe=>aS .slot e) c.b λe=>0<a->a<=1000->ln e<=a/\(0<d->d<=1000->∀s∈e,I64 s.af))<|zoL N c a d):zf1 c a d=true:=wI (λ_ _ h=>h) h
def zsk:zdX:=rP2 dI dI λc b d=>(zf1 c b d,zhe c b d,[aS .slot<|zfk c b d])
def zBE:zbR Tryz.prog 239 [false,true,true] zsk:=hP2 zeC zQ zIB zq (zx []) (λ_ _ _ h=>(zpO h).1)
def zoO {c:Cur}(h:zbf c){n:Int}(a:0<n)(j:n<=1000)(m:Int):zf1 c n m=true:=by
 refine zLY c n m ⟨0,?_⟩;unfold zoL oN;conv=>zeta
 have l:zbf {zJ c n m with b:=c.b}:=zbM h (zii _ _ _);have i:zbf {zf {zJ c n m with b:=c.b} 8 with b:=c.b}:=zbM h (zF _ _);have k:zbf {zf {zf {zJ c n m with b:=c.b} 8 with b:=c.b} n with b:=c.b}:=zbM h (zF _ _);have g:=(zuU<|zyF h (vQ a) j m).2.2 (vQ a) j;generalize zdA c n m=T at g;refine zu (zyF h (vQ a) j m) (zu (zbA l 8)<|zbz (λ_=>zu (zbA i n) (zu (zPt k m)<|zu (zvm i a (by omega))<|zjx<|zbJ (aS .slot) (zZV _ _) λ_ _=>⟨by rw[z4T];omega,λe f s d=>?_⟩)) λ_=>zbz (λ_=>zu (zbA i n) (zu (zCl i a (by omega))<|zbJ (aS .slot) (zF _ _) λ_ _=>⟨?_,λe f s d=>g.2 e f s (jU d)⟩)) λ_=>zbJ (aS .slot) (zF _ _) λ_ _=>⟨by omega,g.2⟩);{rcases qY d with d|rfl;{exact g.2 e f s d};{exact(zLZ<|zPt k m).2.2 e f}};{have:=z4S T;exact Int.le_trans (this _) (by omega)}
def zwF (N:Nat)(c:Cur)  : OA :=
 (r0 (σ:=(Int×Int×Int×LI×LI×Unit)) N (λf a=>let d:=(⟨a.2.2.2.2.1,a.2.1,a.2.2.1⟩:Cur);let e:=ap a.2.2.2.1 [zn d 100]; (cond (ilt a.1 4) (oN (zA d 100)<|oN (few<|ln e)<|f (zK .i64 a.1 1,(zf d 100).i,(zf d 100).h,e,a.2.2.2.2.1,()))<|some [.agg [.s .u8 a.2.2.2.2.1,.i .i64 a.2.1,.i .i64 a.2.2.1],aS .int a.2.2.2.1])) (0,c.i,c.h,[],c.b,()))
def zR0:=zx [(393,0,{n:=16,tm:=[(0,.lp 0 0),(3,.sl 0 []),(4,ti)],lo:=[(0,[.sl 1 [],ti,ti])],ro:=[(0,.int,true),(1,.u8,false)]})]
def zpV (c:Cur)(s:Cur)(a:LI):Prop:=(∃N,zwF N c=some (AV.agg (zbV s)::[aS .int a]))/\(s.b=c.b/\0<=s.i)/\(a.length=4)
def zjh (c:Cur)  : Bool:=wC (zpV c)
def zfF (c:Cur)  : Cur:=wS (zpV c)
def zoD (c:Cur)  : LI:=wV (zpV c)
def zw8 {c:Cur}(h:zjh c=true):zpV c (zfF c) (zoD c):=wG h
def zGQ (c:Cur)  : 0<=(zfF c).i:=wP λh=>h.2.1.2
def zW0 (c:Cur)(h:∃N,Ends (wE (λa=>aS .int a) c.b λa=>a.length=4)<|zwF N c):zjh c=true:=wI (λ_ _ h=>h) h
def zx8:zdX:=rP0 λc=>(zjh c,zfF c,[aS .int<|zoD c])
def zKG:zbR Tryz.prog 393 [false,true,true] zx8:=hP0 zeC zQ zIB zq zR0 (λ_ h=>(zw8 h).1)
def zLF {c:Cur}(h:zbf c):zjh c=true:=by
 refine zW0 c ⟨1002,?_⟩;unfold zwF oN;conv=>zeta
 exact zUn h (P:=λ_=>True) (m:=4) (by omega) (by omega) (fc:=λc=>zA c 100) (fs:=λc=>zf c 100) (fv:=λc=>zn c 100) (R:=λs l=>AV.agg (zbV s)::[aS .int l]) (λh=>zbA h _) (λc=>zF c _) (λ_=>trivial) (λs l a d e f=>⟨s,l,rfl,⟨a,d⟩,by unfold ln at e;omega⟩) ((λi t=>((i:Int),t.1,t.2.1,t.2.2,c.b,())):Int->Int×Int×LI->_) (λrec t i k l=>rfl)
def z7C:zcY:=[(239,[false,true,true],zsk),(393,[false,true,true],zx8)]++z7B
def zIC:zb2 z7C:=zcq zIB (by
 intro x a;simp only[qG,qP,or_false]at a;rcases a with rfl|rfl
 .exact zBE
 .exact zKG)
def zyM (N:Nat)(c:Cur)(f:Int):OA:=
 (r0 (σ:=(Int×Int×Int×Int×lM×LI×Unit)) N (λg a=>let b:=a.2.2.2.2;let d:=(⟨b.2.1,a.2.2.1,a.2.2.2.1⟩:Cur);let e:=ap b.1 [zoD d]; (cond (ilt a.2.1 a.1) (oN (zjh d)<|oN (few<|ln e)<|g (a.1,zK .i64 a.2.1 1,(zfF d).i,(zfF d).h,e,b.2.1,()))<|some [.agg [.s .u8 b.2.1,.i .i64 a.2.2.1,.i .i64 a.2.2.2.1],aS (.sl .int) b.1])) (f,0,c.i,c.h,[],c.b,()))
def zVM:=zx [(340,0,{n:=19,tm:=[(0,.lp 0 0),(1,ti),(5,.sl 0 []),(6,ti)],lo:=[(0,[.sl 1 [],ti,ti])],ro:=[(0,.sl .int,true),(1,.u8,false)]})]
def zrM (c:Cur)(a:Int)(s:Cur)(d:List LI):Prop:=(∃N,zyM N c a=some (AV.agg (zbV s)::[aS (.sl .int) d]))/\(s.b=c.b/\0<=s.i)/\(0<=a->a<=1000->ln d=a/\∀r∈d,r.length=4)
def ziY (c:Cur)(a:Int):Bool:=wC (zrM c a)
def zmS (c:Cur)(a:Int):Cur:=wS (zrM c a)
def zuV (c:Cur)(a:Int):List LI:=wV (zrM c a)
def zzR {c:Cur}{a0:Int}(h:ziY c a0=true):zrM c a0 (zmS c a0) (zuV c a0):=wG h
def zZZ (c:Cur)(a0:Int):0<=(zmS c a0).i:=wP λh=>h.2.1.2
def zZY (c:Cur)(a:Int)(h:∃N,Ends (wE (λd=>aS (.sl .int) d) c.b λd=>(0<=a->a<=1000->ln d=a/\∀r∈d,r.length=4))<|zyM N c a):ziY c a=true:=wI (λ_ _ h=>h) h
def zAH:zdX:=rP1 dI λc b=>(ziY c b,zmS c b,[aS (.sl .int)<|zuV c b])
def zxQ:zbR Tryz.prog 340 [false,true,true] zAH:=hP1 zeC zQ zIC zq zVM (λ_ _ h=>(zzR h).1)
def zba3 {c:Cur}(h:zbf c){a0:Int}(a:0<=a0)(d:a0<=1000):ziY c a0=true:=by
 refine zZY c a0 ⟨1002,?_⟩;unfold zyM oN;conv=>zeta
 exact zUn h (P:=λr=>r.length=4) a d (fc:=zjh) (fs:=zfF) (fv:=zoD) (R:=λs l=>AV.agg (zbV s)::[aS (.sl .int) l]) zLF zGQ (λh=>(zw8<|zLF h).2.2) (λs l e f g j=>⟨s,l,rfl,⟨e,f⟩,λ_ _=>⟨g,j⟩⟩) ((λi t=>(a0,(i:Int),t.1,t.2.1,t.2.2,c.b,())):Int->Int×Int×List LI->_) (λrec t i k l=>rfl)
def ztP (N:Nat)(c:Cur)  : OA :=
 let d:=zoD c;let e:=({ (zfF c) with b:=c.b}:Cur);let f:=zf e 6;let a:=({f with b:=c.b}:Cur);let g:=({ (zf a 4) with b:=c.b}:Cur); (oN (zjh c)<|oN (zA e 6)<|cond (ieq (zn e 6) 0) (oN (zA a 4)<|oN (inr 0 (zn a 4)<|ln d)<|some [.agg [.s .u8 c.b,.i .i64 (zf a 4).i,.i .i64 (zf a 4).h],aS .int<|tk d<|zn a 4])<|cond (ieq (zn e 6) 1) (oN (zA a 4)<|oN (zbt g [-1,99,100])<|oN (inb (zn a 4)<|ln d)<|p0 (up d (zn a 4)<|zbn g [-1,99,100]) λj=>some [.agg [.s .u8 c.b,.i .i64 (zZ g [-1,99,100]).i,.i .i64 (zZ g [-1,99,100]).h],aS .int j])<|cond (ieq (zn e 6) 2) (oN (few<|ln<|ap d [1])<|some [.agg [.s .u8 c.b,.i .i64 f.i,.i .i64 f.h],aS .int<|ap d [1]])<|some [.agg [.s .u8 c.b,.i .i64 f.i,.i .i64 f.h],aS .int d])
def znS (c:Cur)(s:Cur)(a:LI):Prop:=(∃N,ztP N c=some (AV.agg (zbV s)::[aS .int a]))/\(s.b=c.b/\0<=s.i)/\(a.length<=5)
def zl6 (c:Cur)  : Bool:=wC (znS c)
def zl7 (c:Cur)  : Cur:=wS (znS c)
def ztx (c:Cur)  : LI:=wV (znS c)
def zDC {c:Cur}(h:zl6 c=true):znS c (zl7 c) (ztx c):=wG h
def zUX (c:Cur)  : 0<=(zl7 c).i:=wP λh=>h.2.1.2
def zUW (c:Cur)(h:∃N,Ends (wE (λa=>aS .int a) c.b λa=>a.length<=5)<|ztP N c):zl6 c=true:=wI (λ_ _ h=>h) h
def zvW:zdX:=rP0 λc=>(zl6 c,zl7 c,[aS .int<|ztx c])
def zH3:zbR Tryz.prog 240 [false,true,true] zvW:=hP0 zeC zQ zIC zq (zx []) (λ_ h=>(zDC h).1)
def zXy {c:Cur}(h:zbf c):zl6 c=true:=by
 refine zUW c ⟨0,?_⟩;unfold ztP oN;conv=>zeta
 have e:zbf {zfF c with b:=c.b}:=zbM h (zGQ _);have a:zbf {zf {zfF c with b:=c.b} 6 with b:=c.b}:=zbM h (zF _ _);have f:zbf {zf {zf {zfF c with b:=c.b} 6 with b:=c.b} 4 with b:=c.b}:=zbM h (zF _ _);have g:=(zw8<|zLF h).2.2;generalize zoD c=T at g;have d:ln T=4:=(by unfold ln;omega);refine zu (zLF h) (zu (zbA e 6)<|zbz (λ_=>zu (zbA a 4) (zu (zCl a (by omega) (by omega))<|zbJ (aS .int) (zF _ _)<|qU (zC9 T _) (by omega))) λ_=>zbz (λ_=>zu (zbA a 4) (zu (zfy f (by simp))<|zu (zvm a (by omega) (by omega))<|zjx<|zbJ (aS .int) (zb0 _ _) (by rw[ziG];omega))) λ_=>zbz (λ_=>zu (zjz (by rw[zil];omega)) (zbJ (aS .int) (zF _ _) ?_)) λ_=>zbJ (aS .int) (zF _ _) (by omega));simp[ap];omega
def z7D:zcY:=[(340,[false,true,true],zAH),(240,[false,true,true],zvW)]++z7C
def zUE:zb2 z7D:=zcq zIC (by
 intro x a;simp only[qG,qP,or_false]at a;rcases a with rfl|rfl
 .exact zxQ
 .exact zH3)
def zsw (N:Nat)(c:Cur)  : OA :=
 let d:=({ (zgN c) with b:=c.b}:Cur);let a:=({ (zf d 10) with b:=c.b}:Cur);let e:=zZ a [-1,0,12,15,16,99,100,9223372036854775807]; (oN (zks c)<|oN (zA d 10)<|cond (ieq (zn d 10) 0) (oN (zA a 11)<|some [.agg [.s .u8 c.b,.i .i64 (zf a 11).i,.i .i64 (zf a 11).h],.agg [.i .i64<|wsub .i64 (zn a 11) 1,.i .i64 (zgy c).X]])<|cond (ieq (zn d 10) 1) (oN (zbt a [-1,0,12,15,16,99,100,9223372036854775807])<|some [.agg [.s .u8 c.b,.i .i64 e.i,.i .i64 e.h],.agg [.i .i64 (zgy c).Op,.i .i64<|zbn a [-1,0,12,15,16,99,100,9223372036854775807]]])<|some [.agg [.s .u8 c.b,.i .i64 (zf d 10).i,.i .i64 (zf d 10).h],.agg [.i .i64 (zgy c).Op,.i .i64 (zgy c).X]])
def zmU (c:Cur)(s:Cur)(a:Ins):Prop:=(∃N,zsw N c=some (AV.agg (zbV s)::[aT .ins a]))/\(s.b=c.b/\0<=s.i)/\(True)
def zkV (c:Cur)  : Bool:=wC (zmU c)
def zkW (c:Cur)  : Cur:=wS (zmU c)
def zw9 (c:Cur)  : Ins:=wV (zmU c)
def zRL {c:Cur}(h:zkV c=true):zmU c (zkW c) (zw9 c):=wG h
def zRN (c:Cur)  : 0<=(zkW c).i:=wP λh=>h.2.1.2
def zRM (c:Cur)(h:∃N,Ends (wE (λa=>aT .ins a) c.b λa=>True)<|zsw N c):zkV c=true:=wI (λ_ _ h=>h) h
def zuz:zdX:=rP0 λc=>(zkV c,zkW c,[aT .ins<|zw9 c])
def zE3:zbR Tryz.prog 448 [false,true,true] zuz:=hP0 zeC zQ zUE zq (zx []) (λ_ h=>(zRL h).1)
def z3F {c:Cur}(h:zbf c):zkV c=true:=by
 refine zRM c ⟨0,?_⟩;unfold zsw oN;conv=>zeta
 have d:zbf {zgN c with b:=c.b}:=zbM h (zzS _);have a:zbf {zf {zgN c with b:=c.b} 10 with b:=c.b}:=zbM h (zF _ _);exact zu (zSc h) (zu (zbA d 10)<|zbz (λ_=>zu (zbA a 11) (zbJ (aT .ins) (v:=⟨wsub .i64 _ 1,(zgy c).X⟩) (zF _ _) trivial)) λ_=>zbz (λ_=>zu (zfy a (by simp)) (zbJ (aT .ins) (v:=⟨(zgy c).Op,zbn _ _⟩) (zb0 _ _) trivial)) λ_=>zbJ (aT .ins) (v:=zgy c) (zF _ _) trivial)
def z7E:zcY:=[(448,[false,true,true],zuz)]++z7D
def zzI:zb2 z7E:=zcq zUE (by
 intro x a;simp only[qG,qP,or_false]at a;rcases a with rfl
 .exact zE3)
def zqo (N:Nat)(c:Cur)  : OA :=
 let e:=zbY c;let g:=({ (zbb c) with b:=c.b}:Cur);let k:=zf g 8;let d:=({k with b:=c.b}:Cur); (oN (zfG c)<|oN (zA g 8)<|cond (ieq (zn g 8) 0) (oN (zkV d)<|oN (inb 0<|ln e)<|p0 (up e 0<|zw9 d) λm=>some [.agg [.s .u8 c.b,.i .i64 (zkW d).i,.i .i64 (zkW d).h],aS .ins m])<|cond (ieq (zn g 8) 1) (r0 (σ:=(Int×Int×lI×LI×Unit)) N (λl a=>let j:=(⟨a.2.2.2.1,a.1,a.2.1⟩:Cur);let f:=({ (zf j 2) with b:=a.2.2.2.1}:Cur); (oN (zA j 2)<|cond (ilt (ln a.2.2.1)<|zK .i64 12<|zn j 2) (oN (zks f)<|oN (few<|ln<|ap a.2.2.1 [zgy f])<|l ((zgN f).i,(zgN f).h,ap a.2.2.1 [zgy f],a.2.2.2.1,()))<|some [.agg [.s .u8 a.2.2.2.1,.i .i64 (zf j 2).i,.i .i64 (zf j 2).h],aS .ins a.2.2.1])) (k.i,k.h,e,c.b,()))<|cond (ieq (zn g 8) 2) (oN (zA d 2)<|oN (inr 0 (zn d 2)<|ln e)<|some [.agg [.s .u8 c.b,.i .i64 (zf d 2).i,.i .i64 (zf d 2).h],aS .ins<|tk e<|zn d 2])<|some [.agg [.s .u8 c.b,.i .i64 k.i,.i .i64 k.h],aS .ins e])
def zIX:=zx [(364,1,{n:=34,tm:=[(0,.lp 0 0),(3,.sl 0 [])],lo:=[(0,[.sl 1 [],ti,ti])],ro:=[(0,.ins,true),(1,.u8,false)]})]
def zlw (c:Cur)(s:Cur)(a:List Ins):Prop:=(∃N,zqo N c=some (AV.agg (zbV s)::[aS .ins a]))/\(s.b=c.b/\0<=s.i)/\(a.length<=13)
def zgx (c:Cur)  : Bool:=wC (zlw c)
def zjQ (c:Cur)  : Cur:=wS (zlw c)
def zl8 (c:Cur)  : List Ins:=wV (zlw c)
def zq3 {c:Cur}(h:zgx c=true):zlw c (zjQ c) (zl8 c):=wG h
def zOF (c:Cur)  : 0<=(zjQ c).i:=wP λh=>h.2.1.2
def zOE (c:Cur)(h:∃N,Ends (wE (λa=>aS .ins a) c.b λa=>a.length<=13)<|zqo N c):zgx c=true:=wI (λ_ _ h=>h) h
def zs8:zdX:=rP0 λc=>(zgx c,zjQ c,[aS .ins<|zl8 c])
def zCU:zbR Tryz.prog 364 [false,true,true] zs8:=hP0 zeC zQ zzI zq zIX (λ_ h=>(zq3 h).1)
def zvj {c:Cur}(h:zbf c):zgx c=true:=by
 refine zOE c ⟨1002,?_⟩;unfold zqo oN;conv=>zeta
 have B:zbf {zbb c with b:=c.b}:=zbM h (zhN _);have q:zbf {zf {zbb c with b:=c.b} 8 with b:=c.b}:=zbM h (zF _ _);have g:=(znu<|zuv h).2.2;have p:=zuu g;have j:1<=(zbY c).length:=(by unfold zdg at g;cases d:(zbY c).all zez with|false=>rw[d] at g;cases g|true=>rw[d,cT] at g;have:=(zgA.1 g).1;unfold ln at this;omega);generalize zbY c=T at p j;have y:1<=ln T/\ln T<=12:=(by unfold ln;omega);have e:(2:Int)<=ln T+1:=(by omega);refine zu (zuv h) (zu (zbA B 8)<|zbz (λ_=>zu (z3F q) (zu (qK (by omega))<|zjx<|zbJ (aS .ins) (zRN _) (by rw[ziG];omega))) λ_=>zbz (λ_=>?_) λ_=>zbz (λ_=>zu (zbA q 2) (zu (zCl q (n:=2) (by omega) e)<|zbJ (aS .ins) (zF _ _)<|qU (zC9 T _) (by omega))) λ_=>zbJ (aS .ins) (zF _ _) (by omega));{refine zlG (λn s=>s.2.2.1.length+n=13/\0<=s.1/\s.2.2.2.1=c.b) ?_ 1002 (13-T.length) _ ⟨by dsimp only;omega,zF _ _,rfl⟩ (by omega);rintro n ⟨i,k,l,b,u⟩ rec ⟨v,r,t⟩ m;dsimp only at v r t ⊢;subst t;have a:zbf ⟨c.b,i,k⟩:=zbM h r;have A:=zgn a (n:=2) (by omega);have z:=zh1 (x:=12) (by omega) (by omega) A.1 (by omega);have w:zbf {zf ⟨c.b,i,k⟩ 2 with b:=c.b}:=zbM h (zF _ _);refine zu (zbA a 2) (zbz (λd=>?_) λd=>?_);{have f:ln l<zK .i64 12 (zn ⟨c.b,i,k⟩ 2):=qF d;rw[z]at f;unfold ln at f;exact zu (zSc w) (zu (zjz (by rw[zil];unfold ln;omega))<|m (n-1) _ (by omega) ⟨by simp[ap];omega,zzS _,rfl⟩)};{exact zbJ (aS .ins) (zF _ _) (by omega)}}
def zyO (N:Nat)(c:Cur)  : OA :=
 let a:=zcy c;let e:=({ (zcf c) with b:=c.b}:Cur);let f:=zf e 8;let d:=({f with b:=c.b}:Cur);let g:=zZ d [-1,255,256,9223372036854775807]; (oN (zkt c)<|oN (zA e 8)<|cond (ieq (zn e 8) 0) (oN (zbt d [-1,2,3,4])<|some [.agg [.s .u8 c.b,.i .i64 (zZ d [-1,2,3,4]).i,.i .i64 (zZ d [-1,2,3,4]).h],.agg [.i .i64<|zbn d [-1,2,3,4],.i .i64 a.Post,.b a.Open]])<|cond (ieq (zn e 8) 1) (oN (zbt d [-1,255,256,9223372036854775807])<|some [.agg [.s .u8 c.b,.i .i64 g.i,.i .i64 g.h],.agg [.i .i64 a.aq,.i .i64<|zbn d [-1,255,256,9223372036854775807],.b a.Open]])<|cond (ieq (zn e 8) 2) (some [.agg [.s .u8 c.b,.i .i64 f.i,.i .i64 f.h],.agg [.i .i64 a.aq,.i .i64 a.Post,.b<|nB a.Open]])<|some [.agg [.s .u8 c.b,.i .i64 f.i,.i .i64 f.h],.agg [.i .i64 a.aq,.i .i64 a.Post,.b a.Open]])
def zrP (c:Cur)(s:Cur)(a:Ctl):Prop:=(∃N,zyO N c=some (AV.agg (zbV s)::[.agg<|zm0 a]))/\(s.b=c.b/\0<=s.i)/\(True)
def zpX (c:Cur)  : Bool:=wC (zrP c)
def zpY (c:Cur)  : Cur:=wS (zrP c)
def zzT (c:Cur)  : Ctl:=wV (zrP c)
def zZ1 {c:Cur}(h:zpX c=true):zrP c (zpY c) (zzT c):=wG h
def zZ3 (c:Cur)  : 0<=(zpY c).i:=wP λh=>h.2.1.2
def zZ2 (c:Cur)(h:∃N,Ends (wE (λa=>.agg (zm0 a)) c.b λa=>True)<|zyO N c):zpX c=true:=wI (λ_ _ h=>h) h
def zAJ:zdX:=rP0 λc=>(zpX c,zpY c,[.agg<|zm0<|zzT c])
def zNA:zbR Tryz.prog 394 [false,true,true] zAJ:=hP0 zeC zQ zzI zq (zx []) (λ_ h=>(zZ1 h).1)
def z3E {c:Cur}(h:zbf c):zpX c=true:=by
 refine zZ2 c ⟨0,?_⟩;unfold zyO oN nB;conv=>zeta
 have d:zbf {zcf c with b:=c.b}:=zbM h (zzU _);have a:zbf {zf {zcf c with b:=c.b} 8 with b:=c.b}:=zbM h (zF _ _);exact zu (zYL h) (zu (zbA d 8)<|zbz (λ_=>zu (zfy a (by simp)) (zbJ (λx=>AV.agg (zm0 x)) (v:=⟨zbn _ _,(zcy c).Post,(zcy c).Open⟩) (zb0 _ _) trivial)) λ_=>zbz (λ_=>zu (zfy a (by simp)) (zbJ (λx=>AV.agg (zm0 x)) (v:=⟨(zcy c).aq,zbn _ _,(zcy c).Open⟩) (zb0 _ _) trivial)) λ_=>zbz (λ_=>zbJ (λx=>AV.agg (zm0 x)) (v:=⟨(zcy c).aq,(zcy c).Post,bif (zcy c).Open then false else true⟩) (zF _ _) trivial) λ_=>zbJ (λx=>AV.agg (zm0 x)) (v:=(zcy c)) (zF _ _) trivial)
def zwH (N:Nat)(c:Cur)  : OA :=
 let f:=zf c 5;let d:=({f with b:=c.b}:Cur);let j:=zf d 100;let a:=zn d 100;let e:=({ (zf d 4) with b:=c.b}:Cur);let g:=zfE (zn d 4)<|zcC e 2; (oN (zA c 5)<|cond (ieq (zn c 5) 0) (oN (zA d 4)<|oN (zck e 2)<|oN (zkM (zn d 4)<|zcC e 2)<|some [.agg [.s .u8 c.b,.i .i64 (zO e 2).i,.i .i64 (zO e 2).h],.agg [.i .i64 g.Kind,.i .i64 g.af,.b g.Write,.i .i64 g.N]])<|cond (ieq (zn c 5) 1) (oN (zA d 100)<|oN (zg1 a)<|some [.agg [.s .u8 c.b,.i .i64 j.i,.i .i64 j.h],.agg [.i .i64 (zfW a).Kind,.i .i64 (zfW a).af,.b (zfW a).Write,.i .i64 (zfW a).N]])<|cond (ieq (zn c 5) 2) (oN (zA d 100)<|oN (zg1 a)<|some [.agg [.s .u8 c.b,.i .i64 j.i,.i .i64 j.h],.agg [.i .i64 (zg2 a).Kind,.i .i64 (zg2 a).af,.b (zg2 a).Write,.i .i64 (zg2 a).N]])<|cond (ieq (zn c 5) 3) (some [.agg [.s .u8 c.b,.i .i64 f.i,.i .i64 f.h],.agg [.i .i64 4,.i .i64 0,.b false,.i .i64 0]])<|some [.agg [.s .u8 c.b,.i .i64 f.i,.i .i64 f.h],.agg [.i .i64 0,.i .i64 0,.b false,.i .i64 0]])
def zp1 (c:Cur)(s:Cur)(a:aD):Prop:=(∃N,zwH N c=some (AV.agg (zbV s)::[.agg<|zgl a]))/\(s.b=c.b/\0<=s.i)/\(True)
def zjj (c:Cur)  : Bool:=wC (zp1 c)
def zfH (c:Cur)  : Cur:=wS (zp1 c)
def zb8 (c:Cur)  : aD:=wV (zp1 c)
def zW2 {c:Cur}(h:zjj c=true):zp1 c (zfH c) (zb8 c):=wG h
def zxa (c:Cur)  : 0<=(zfH c).i:=wP λh=>h.2.1.2
def zW3 (c:Cur)(h:∃N,Ends (wE (λa=>.agg (zgl a)) c.b λa=>True)<|zwH N c):zjj c=true:=wI (λ_ _ h=>h) h
def zya:zdX:=rP0 λc=>(zjj c,zfH c,[.agg<|zgl<|zb8 c])
def zKJ:zbR Tryz.prog 435 [false,true,true] zya:=hP0 zeC zQ zzI zq (zx []) (λ_ h=>(zW2 h).1)
def zS6 {c:Cur}(h:zbf c):zjj c=true:=by
 refine zW3 c ⟨0,?_⟩;unfold zwH oN;conv=>zeta
 have a:zbf {zf c 5 with b:=c.b}:=zbM h (zF _ _);have d:zbf {zf {zf c 5 with b:=c.b} 4 with b:=c.b}:=zbM h (zF _ _);exact zu (zbA h 5) (zbz (λ_=>zu (zbA a 4) (zu (zh8 d 2) (zu rfl (zbJ (λx=>AV.agg (zgl x)) (v:=zfE _ _) (zb5 _ _) trivial)))) λ_=>zbz (λ_=>zu (zbA a 100) (zu rfl (zbJ (λx=>AV.agg (zgl x)) (v:=zfW _) (zF _ _) trivial))) λ_=>zbz (λ_=>zu (zbA a 100) (zu rfl (zbJ (λx=>AV.agg (zgl x)) (v:=zg2 _) (zF _ _) trivial))) λ_=>zbz (λ_=>zbJ (λx=>AV.agg (zgl x)) (v:=⟨4,0,false,0⟩) (zF _ _) trivial) λ_=>zbJ (λx=>AV.agg (zgl x)) (v:=⟨0,0,false,0⟩) (zF _ _) trivial)
def z7F:zcY:=[(364,[false,true,true],zs8),(394,[false,true,true],zAJ),(435,[false,true,true],zya)]++z7E
def zqI:zb2 z7F:=zcq zzI (by
 intro x a;simp only[qG,qP,or_false]at a;rcases a with rfl|rfl|rfl
 .exact zCU
 .exact zNA
 .exact zKJ)
def zyQ (N:Nat)(c:Cur)  : OA :=
 let a:=zb8 c;let e:=({ (zfH c) with b:=c.b}:Cur);let d:=({ (zf e 8) with b:=c.b}:Cur); (oN (zjj c)<|oN (zA e 8)<|cond (ieq (zn e 8) 0) (oN (zA d 7)<|some [.agg [.s .u8 c.b,.i .i64 (zf d 7).i,.i .i64 (zf d 7).h],.agg [.i .i64<|wsub .i64 (zn d 7) 1,.i .i64 a.af,.b a.Write,.i .i64 a.N]])<|cond (ieq (zn e 8) 1) (oN (zbt d [-1,3,4])<|some [.agg [.s .u8 c.b,.i .i64 (zZ d [-1,3,4]).i,.i .i64 (zZ d [-1,3,4]).h],.agg [.i .i64 a.Kind,.i .i64<|zbn d [-1,3,4],.b a.Write,.i .i64 a.N]])<|cond (ieq (zn e 8) 2) (oN (zbt d [-1,99,100])<|some [.agg [.s .u8 c.b,.i .i64 (zZ d [-1,99,100]).i,.i .i64 (zZ d [-1,99,100]).h],.agg [.i .i64 a.Kind,.i .i64 a.af,.b a.Write,.i .i64<|zbn d [-1,99,100]]])<|some [.agg [.s .u8 c.b,.i .i64 (zf e 8).i,.i .i64 (zf e 8).h],.agg [.i .i64 a.Kind,.i .i64 a.af,.b a.Write,.i .i64 a.N]])
def zrR (c:Cur)(s:Cur)(a:aD):Prop:=(∃N,zyQ N c=some (AV.agg (zbV s)::[.agg<|zgl a]))/\(s.b=c.b/\0<=s.i)/\(True)
def zpZ (c:Cur)  : Bool:=wC (zrR c)
def zp0 (c:Cur)  : Cur:=wS (zrR c)
def zzV (c:Cur)  : aD:=wV (zrR c)
def zZ6 {c:Cur}(h:zpZ c=true):zrR c (zp0 c) (zzV c):=wG h
def zZ8 (c:Cur)  : 0<=(zp0 c).i:=wP λh=>h.2.1.2
def zZ7 (c:Cur)(h:∃N,Ends (wE (λa=>.agg (zgl a)) c.b λa=>True)<|zyQ N c):zpZ c=true:=wI (λ_ _ h=>h) h
def zAL:zdX:=rP0 λc=>(zpZ c,zp0 c,[.agg<|zgl<|zzV c])
def zNC:zbR Tryz.prog 395 [false,true,true] zAL:=hP0 zeC zQ zqI zq (zx []) (λ_ h=>(zZ6 h).1)
def z0H {c:Cur}(h:zbf c):zpZ c=true:=by
 refine zZ7 c ⟨0,?_⟩;unfold zyQ oN;conv=>zeta
 have d:zbf {zfH c with b:=c.b}:=zbM h (zxa _);have a:zbf {zf {zfH c with b:=c.b} 8 with b:=c.b}:=zbM h (zF _ _);exact zu (zS6 h) (zu (zbA d 8)<|zbz (λ_=>zu (zbA a 7) (zbJ (λx=>AV.agg (zgl x)) (v:=⟨wsub .i64 _ 1,(zb8 c).af,(zb8 c).Write,(zb8 c).N⟩) (zF _ _) trivial)) λ_=>zbz (λ_=>zu (zfy a (by simp)) (zbJ (λx=>AV.agg (zgl x)) (v:=⟨(zb8 c).Kind,zbn _ _,(zb8 c).Write,(zb8 c).N⟩) (zb0 _ _) trivial)) λ_=>zbz (λ_=>zu (zfy a (by simp)) (zbJ (λx=>AV.agg (zgl x)) (v:=⟨(zb8 c).Kind,(zb8 c).af,(zb8 c).Write,zbn _ _⟩) (zb0 _ _) trivial)) λ_=>zbJ (λx=>AV.agg (zgl x)) (v:=(zb8 c)) (zF _ _) trivial)
def zwI (N:Nat)(c:Cur)  : OA :=
 let a:=({ (zf c 256) with b:=c.b}:Cur);let d:=({ (zf a 256) with b:=c.b}:Cur);let e:=zZ d [0,1,128,255,zn c 256,zn a 256,-1,256,9223372036854775807]; (oN (zA c 256)<|oN (zA a 256)<|oN (zbt d [0,1,128,255,zn c 256,zn a 256,-1,256,9223372036854775807])<|some [.agg [.s .u8 c.b,.i .i64 e.i,.i .i64 e.h],aI<|zbn d [0,1,128,255,zn c 256,zn a 256,-1,256,9223372036854775807]])
def zp2 (c:Cur)(s:Cur)(a:Int):Prop:=(∃N,zwI N c=some (AV.agg (zbV s)::[aI a]))/\(s.b=c.b/\0<=s.i)/\(True)
def znv (c:Cur)  : Bool:=wC (zp2 c)
def znw (c:Cur)  : Cur:=wS (zp2 c)
def zwu (c:Cur)  : Int:=wV (zp2 c)
def zW4 {c:Cur}(h:znv c=true):zp2 c (znw c) (zwu c):=wG h
def zW6 (c:Cur)  : 0<=(znw c).i:=wP λh=>h.2.1.2
def zW5 (c:Cur)(h:∃N,Ends (wE (λa=>aI a) c.b λa=>True)<|zwI N c):znv c=true:=wI (λ_ _ h=>h) h
def zyb:zdX:=rP0 λc=>(znv c,znw c,[aI<|zwu c])
def zKK:zbR Tryz.prog 339 [false,true,true] zyb:=hP0 zeC zQ zqI zq (zx []) (λ_ h=>(zW4 h).1)
def zbaA {c:Cur}(h:zbf c):znv c=true:=by
 refine zW5 c ⟨0,?_⟩;unfold zwI oN;conv=>zeta
 have a:zbf {zf c 256 with b:=c.b}:=zbM h (zF _ _);have d:zbf {zf {zf c 256 with b:=c.b} 256 with b:=c.b}:=zbM h (zF _ _);exact zu (zbA h 256) (zu (zbA a 256)<|zu (zfy d (by simp))<|zbJ aI (zb0 _ _) trivial)
def ztR (N:Nat)(c:Cur)  : OA :=
 let a:=zZ c [0,1,2,3,0,1,-1,4,9223372036854775807]; (oN (zbt c [0,1,2,3,0,1,-1,4,9223372036854775807])<|some [.agg [.s .u8 c.b,.i .i64 a.i,.i .i64 a.h],aI<|zbn c [0,1,2,3,0,1,-1,4,9223372036854775807]])
def znU (c:Cur)(s:Cur)(a:Int):Prop:=(∃N,ztR N c=some (AV.agg (zbV s)::[aI a]))/\(s.b=c.b/\0<=s.i)/\(True)
def zl9 (c:Cur)  : Bool:=wC (znU c)
def zma (c:Cur)  : Cur:=wS (znU c)
def zty (c:Cur)  : Int:=wV (znU c)
def zU0 {c:Cur}(h:zl9 c=true):znU c (zma c) (zty c):=wG h
def zU2 (c:Cur)  : 0<=(zma c).i:=wP λh=>h.2.1.2
def zU1 (c:Cur)(h:∃N,Ends (wE (λa=>aI a) c.b λa=>True)<|ztR N c):zl9 c=true:=wI (λ_ _ h=>h) h
def zvY:zdX:=rP0 λc=>(zl9 c,zma c,[aI<|zty c])
def zH5:zbR Tryz.prog 242 [false,true,true] zvY:=hP0 zeC zQ zqI zq (zx []) (λ_ h=>(zU0 h).1)
def z9J {c:Cur}(h:zbf c):zl9 c=true:=by
 refine zU1 c ⟨0,?_⟩;unfold ztR oN;conv=>zeta
 exact zu (zfy h (by simp)) (zbJ aI (zb0 _ _) trivial)
def zV5 (N:Nat)(c:Cur)  : OA :=
 let a:=zZ c [0,1,2,3,3,4,7,8,-1,9223372036854775807,-9223372036854775808]; (oN (zbt c [0,1,2,3,3,4,7,8,-1,9223372036854775807,-9223372036854775808])<|some [.agg [.s .u8 c.b,.i .i64 a.i,.i .i64 a.h],aI<|zbn c [0,1,2,3,3,4,7,8,-1,9223372036854775807,-9223372036854775808]])
def zpS (c:Cur)(s:Cur)(a:Int):Prop:=(∃N,zV5 N c=some (AV.agg (zbV s)::[aI a]))/\(s.b=c.b/\0<=s.i)/\(True)
def zGN (c:Cur)  : Bool:=wC (zpS c)
def zGO (c:Cur)  : Cur:=wS (zpS c)
def zQm (c:Cur)  : Int:=wV (zpS c)
def zWY {c:Cur}(h:zGN c=true):zpS c (zGO c) (zQm c):=wG h
def zx6:zdX:=rP0 λc=>(zGN c,zGO c,[aI<|zQm c])
def zKD:zbR Tryz.prog 355 [false,true,true] zx6:=hP0 zeC zQ zqI zq (zx []) (λ_ h=>(zWY h).1)
def ztQ (N:Nat)(c:Cur)  : OA :=
 let e:=({ (zf c 3) with b:=c.b}:Cur);let d:=({ (zf e 4) with b:=c.b}:Cur);let a:=({ (zf d 6) with b:=c.b}:Cur); (oN (zA c 3)<|oN (zA e 4)<|oN (zA d 6)<|oN (zA a 3)<|some [.agg [.s .u8 c.b,.i .i64 (zf a 3).i,.i .i64 (zf a 3).h],.agg [.i .i64<|zK .i64 1<|zn c 3,.i .i64<|zn e 4,.i .i64<|zn d 6,.i .i64<|zK .i64 1<|zn a 3]])
def znT (c:Cur)(s:Cur)(a:au):Prop:=(∃N,ztQ N c=some (AV.agg (zbV s)::[aT .entry a]))/\(s.b=c.b/\0<=s.i)/\(True)
def zf2 (c:Cur)  : Bool:=wC (znT c)
def zg4 (c:Cur)  : Cur:=wS (znT c)
def zkr (c:Cur)  : au:=wV (znT c)
def zUY {c:Cur}(h:zf2 c=true):znT c (zg4 c) (zkr c):=wG h
def zuW (c:Cur)  : 0<=(zg4 c).i:=wP λh=>h.2.1.2
def zUZ (c:Cur)(h:∃N,Ends (wE (λa=>aT .entry a) c.b λa=>True)<|ztQ N c):zf2 c=true:=wI (λ_ _ h=>h) h
def zvX:zdX:=rP0 λc=>(zf2 c,zg4 c,[aT .entry<|zkr c])
def zH4:zbR Tryz.prog 202 [false,true,true] zvX:=hP0 zeC zQ zqI zq (zx []) (λ_ h=>(zUY h).1)
def zD3 {c:Cur}(h:zbf c):zf2 c=true:=by
 refine zUZ c ⟨0,?_⟩;unfold ztQ oN;conv=>zeta
 have a:zbf {zf c 3 with b:=c.b}:=zbM h (zF _ _);have d:zbf {zf {zf c 3 with b:=c.b} 4 with b:=c.b}:=zbM h (zF _ _);have e:zbf {zf {zf {zf c 3 with b:=c.b} 4 with b:=c.b} 6 with b:=c.b}:=zbM h (zF _ _);exact zu (zbA h 3) (zu (zbA a 4)<|zu (zbA d 6)<|zu (zbA e 3)<|zbJ (aT .entry) (v:=⟨_,_,_,_⟩) (zF _ _) trivial)
def z7G:zcY:=[(395,[false,true,true],zAL),(339,[false,true,true],zyb),(242,[false,true,true],zvY),(355,[false,true,true],zx6),(202,[false,true,true],zvX)]++z7F
def z5l:zb2 z7G:=zcq zqI (by
 intro x a;simp only[qG,qP,or_false]at a;rcases a with rfl|rfl|rfl|rfl|rfl
 .exact zNC
 .exact zKK
 .exact zH5
 .exact zKD
 .exact zH4)
section
open Go Go.RowKit
structure Cw (w0:World) (blk:Nat) (u:Value) (c:Cur) (w:World):Prop where
 os:w.os=w0.os
 tape:w.tape=w0.tape
 output:w.output=w0.output
 size:w0.heap.size<=w.heap.size
 keep:∀b,b<w0.heap.size->b≠blk->w.heap[b]?=w0.heap[b]?
 cur:∃e,w.heap[blk]?=some (.cells #[u,.int .i64 c.i,.int .i64 c.h] e (0,0))
def Cw.trans {g w1 h:World}{blk:Nat}{u:Value}{i d:Cur}(a:Cw g blk u i w1)(c:Cw w1 blk u d h):Cw g blk u d h :=
 ⟨c.os.trans a.os,c.tape.trans a.tape,c.output.trans a.output,qU a.size c.size,λb e f=>(c.keep b (q0 e a.size) f).trans (a.keep b e f),c.cur⟩
def Cw.drew {a w:World}{blk:Nat}{u:Value}{c:Cur}(h:Cw a blk u c w):Cw a blk u c w.drew:=⟨h.os,h.tape,h.output,h.size,h.keep,h.cur⟩
def Cw.at (w:World)(blk:Nat)(u:Value)(c:Cur)(h:∃e,w.heap[blk]?=some (.cells #[u,.int .i64 c.i,.int .i64 c.h] e (0,0))):Cw w blk u c w:=⟨rfl,rfl,rfl,qQ _,λ_ _ _=>rfl,h⟩
def Cw.alloc {d w:World}{blk:Nat}{u:Value}{c:Cur}(h:Cw d blk u c w)(a:blk<w.heap.size)(o:Obj):Cw d blk u c (w.alloc o):=
 ⟨h.os,h.tape,h.output,qU h.size (by simp),λb a g=>(heap_alloc_old w o<|q0 a h.size).trans (h.keep b a g),by obtain⟨e,f⟩:=h.cur;exact⟨e,(heap_alloc_old w o a).trans f⟩⟩
def Cw.lt {b w:World}{blk:Nat}{u:Value}{c:Cur}(h:Cw b blk u c w):blk<w.heap.size:=by obtain⟨e,a⟩:=h.cur;exact(qL.1 a).1
def zHq {P:Program}{f:FuncId}{y:LC->LA->Option (Bool×LC×LA)}(V:zbR P f [false,true,true] y){w:World}{blk:Nat}{u:Value}{c c2:Cur}{z:zV}(q:∃e,w.heap[blk]?=some (.cells #[u,.int .i64 c.i,.int .i64 c.h] e (0,0)))(hu:Rep false w u (.s .u8 c.b) z)(W:∀x,z x->x<w.heap.size/\x≠blk){avs rs:LA}{xs:List Value}{Ka:zV}(l:zdn false w (zy avs) xs λ_=>Ka)(p:∀x,Ka x->x<w.heap.size/\x≠blk)(hr:y (zbV c) avs=some (true,zbV c2,rs)) :
 Calls P f (#[.pointer<|some ⟨blk,0,none⟩]++(zbS avs xs).toArray) w λe B=>∃C A,e = .returned (zkk<|zbS rs C)/\Cw w blk u c2 B/\zqk (zlf f) B (zy rs) C A/\(∀i x,i<(zy rs).length->A i x->w.heap.size<=x/\x<B.heap.size):=by
 obtain⟨e,Y⟩:=q;refine(V.2 w blk _ e (zbV c) (λj x=>j=0/\z x) avs xs Ka (zbV c2) rs Y rfl rfl ?_ ?_ ?_ l ?_ hr).mono ?_
 .intro j cv v m k
  match j,m,k with
  | 0,m,k=>cases m;cases k;exact hu.weak (λx l=>⟨rfl,l⟩)
  | 1,m,k=>cases m;cases k;exact .i _ _ _
  | 2,m,k=>cases m;cases k;exact .i _ _ _
  |j+3,m,k=>simp[zbV]at m
 .intro j x _ l;exact W x l.2
 .intro i j x r t n hne l hx2;have:i=0:=l.1;subst this;simp[zbd]at n
 .intro x l;refine⟨(p x l).1,(p x l).2,λj t n d=>?_⟩;have:j=0:=d.1;subst this;simp[zbd]at n
 .intro E B hp;cases E with
  |panicked _=>exact hp.elim
  |outgrown=>exact hp.elim
  |returned v=>
   obtain⟨Q,R,S,T,U,a,G,K',C,A,I,L,g3,F,M,N,g7,O,g9,J,K⟩:=hp;have g:∀i x,i<(zbV c).length->zbd [false,true,true] i->¬ ((λ(j:Nat) x=>j=0/\z x) i x):=by intro i x r n d;have:i=0:=d.1;subst this;simp[zbd]at n
   have k:a = #[u,.int .i64 c2.i,.int .i64 c2.h]:=by
    have hs:a.size=3:=L;have D:=(F 0 _ (a[0]'(by omega)) rfl (jL _)).2 (by simp[zbd]);have H:=F 1 _ (a[1]'(by omega)) rfl (jL _);have E:=F 2 _ (a[2]'(by omega)) rfl (jL _);have D:u=a[0]'(by omega):=(by simpa using D);apply Array.ext;{exact hs}
    .intro i r hi2
     match i,r with
     | 0,_=>exact D.symm
     | 1,_=>exact H
     | 2,_=>exact E
     |i+3,h=>omega
   subst k;refine⟨C,A,by rw[N],⟨Q,R,S,T,λb X Z=>U b X Z λj t n d=>g j b t n d,G,I⟩,M,λi x r d=>?_⟩;obtain⟨k1,k2,k3⟩:=O i x r d;rcases k3 with⟨j,t,n,d⟩|d;{exact absurd d (g j x t n)};{exact⟨d,k1⟩}
def ze2 (c:Cur):List LI:=zuV c 3
def zzv (c:Cur):Cur:={zmS c 3 with b:=c.b}
def zZt (c:Cur):Int:=zn (zzv c) 8
def zik (c:Cur):Cur:={zf (zzv c) 8 with b:=c.b}
def zZs (c:Cur):Int:=zn (zik c) 3
def ztj (c:Cur):Cur:={zf (zik c) 3 with b:=c.b}
def l04n (c:Cur):Int:=zn (ztj c) 4
def zZq (c:Cur):Cur:={zf (ztj c) 4 with b:=c.b}
def zuo (c:Cur):Int:=zbn (zik c) [-1,100]
def zZr (c:Cur):Cur:={zZ (zik c) [-1,100] with b:=c.b}
def zoM (_:Nat)(c:Cur):OA:=
 bif ziY c 3 then (bif zA (zzv c) 8 then (bif ieq (zZt c) 0 then (cond (zA (zik c) 3) (cond (zA (ztj c) 4) (some (AV.agg (zbV<|zZq c)::[aS (.sl .int)<|up (ze2 c) (zZs c)<|tk (ix (ze2 c) 0 [])<|l04n c])) none) none)
  else (bif ieq (zZt c) 1 then (cond (zbt (zik c) [-1,100]) (some (AV.agg (zbV<|zZr c)::[aS (.sl .int)<|up (ze2 c) 1<|up (ix (ze2 c) 1 []) 2<|zuo c])) none)
  else (cond (ieq (zZt c) 2) (cond (zA (zik c) 3) (some (AV.agg (zbV<|ztj c)::[aS (.sl .int)<|tk (ze2 c)<|zZs c])) none)<|some (AV.agg (zbV<|zik c)::[aS (.sl .int)<|ze2 c])))) else none) else none
def zrL (c:Cur)(s:Cur)(a:List LI):Prop:=(∃N,zoM N c=some (AV.agg (zbV s)::[aS (.sl .int) a]))/\(s.b=c.b/\0<=s.i)/\(a.length<=3/\∀r∈a,r.length<=4)
def zpU (c:Cur)  : Bool:=wC (zrL c)
def ziW (c:Cur)  : Cur:=wS (zrL c)
def zq1 (c:Cur)  : List LI:=wV (zrL c)
def zL0 {c:Cur}(h:zpU c=true):zrL c (ziW c) (zq1 c):=wG h
def zZX (c:Cur)  : 0<=(ziW c).i:=wP λh=>h.2.1.2
def zZW (c:Cur)(h:∃N,Ends (wE (λa=>aS (.sl .int) a) c.b λa=>a.length<=3/\∀r∈a,r.length<=4)<|zoM N c):zpU c=true:=wI (λ_ _ h=>h) h
def zsF:zdX:=rP0 λc=>(zpU c,ziW c,[aS (.sl .int)<|zq1 c])
def z5b {w:World}{blk:Nat}{u:Value}{c:Cur}{l:zV}{n:Int}(g:∃e,w.heap[blk]?=some (.cells #[u,.int .i64 c.i,.int .i64 c.h] e (0,0)))(t:Rep false w u (.s .u8 c.b) l)(q:∀x,l x->x<w.heap.size/\x≠blk)(r:ziY c n=true) :
 Calls Tryz.prog 340 #[.pointer<|some ⟨blk,0,none⟩,.int .i64 n] w λe k=>∃v j,e = .returned v/\Cw w blk u {zmS c n with b:=c.b} k/\Rep true k v (.s (.sl .int)<|zuV c n) j/\(∀x,j x->w.heap.size<=x/\x<k.heap.size):=by
 have:=zHq (c:=c) (c2:=zmS c n) zxQ g t q (avs:=[.one<|.i .i64 n]) (rs:=[aS (.sl .int)<|zuV c n]) (xs:=[.int .i64 n]) (Ka:=λ_=>False) ⟨rfl,λi A x a d=>by
  match i,a,d with
  | 0,a,d=>cases a;cases d;exact .i _ _ _
  |i+1,a,d=>simp at d⟩ (λx d=>d.elim) (by show some (ziY ⟨c.b,c.i,c.h⟩ n,_,_)=_;rw[show (⟨c.b,c.i,c.h⟩:Cur)=c from rfl,r])
 refine Calls.mono this ?_
 rintro e k ⟨z,j,rfl,f,m,p⟩
 match z,m.1 with
 |[y],_=>exact⟨y,j 0,rfl,⟨f.os,f.tape,f.output,f.size,f.keep,f.cur⟩,m.2 0 _ y rfl rfl,λx d=>p 0 x (by simp[zy,AV.cvs]) d⟩
def ztg {w:World}{blk:Nat}{u:Value}{c:Cur}{j:zV}{n:Int}(g:∃e,w.heap[blk]?=some (.cells #[u,.int .i64 c.i,.int .i64 c.h] e (0,0)))(r:Rep false w u (.s .u8 c.b) j)(p:∀x,j x->x<w.heap.size/\x≠blk)(q:zA c n=true) :
 Calls Tryz.prog 101 #[.pointer<|some ⟨blk,0,none⟩,.int .i64 n] w λe l=>e = .returned (.int .i64<|zn c n)/\Cw w blk u {zf c n with b:=c.b} l:=by
 have:=zHq (c:=c) (c2:=zf c n) zul g r p (avs:=[.one<|.i .i64 n]) (rs:=[aI<|zn c n]) (xs:=[.int .i64 n]) (Ka:=λ_=>False) ⟨rfl,λi z x a d=>by
  match i,a,d with
  | 0,a,d=>cases a;cases d;exact .i _ _ _
  |i+1,a,d=>simp at d⟩ (λx d=>d.elim) (by show some (zA ⟨c.b,c.i,c.h⟩ n,_,_)=_;rw[show (⟨c.b,c.i,c.h⟩:Cur)=c from rfl,q])
 refine Calls.mono this ?_
 rintro e l ⟨t,v,rfl,f,k,A⟩
 match t,k.1,k.2 with
 |[y],_,m=>have:=(m 0 _ y rfl rfl).int_inv;subst this;exact⟨rfl,f.os,f.tape,f.output,f.size,f.keep,f.cur⟩
def z2E {w:World}{blk:Nat}{u:Value}{c:Cur}{k:zV}{l:LI}{v:Value}{Ka:zV}(f:∃e,w.heap[blk]?=some (.cells #[u,.int .i64 c.i,.int .i64 c.h] e (0,0)))(t:Rep false w u (.s .u8 c.b) k)(q:∀x,k x->x<w.heap.size/\x≠blk)(r:zbt c l=true)(z:Rep false w v (.s .int l) Ka)(j:∀x,Ka x->x<w.heap.size/\x≠blk) :
 Calls Tryz.prog 109 #[.pointer<|some ⟨blk,0,none⟩,v] w λe n=>e = .returned (.int .i64<|zbn c l)/\Cw w blk u {zZ c l with b:=c.b} n:=by
 have:=zHq (c:=c) (c2:=zZ c l) zse f t q (avs:=[.one<|.s .int l]) (rs:=[aI<|zbn c l]) (xs:=[v]) (Ka:=Ka) ⟨rfl,λi C x a g=>by
  match i,a,g with
  | 0,a,g=>cases a;cases g;exact z
  |i+1,a,g=>simp at g⟩ j (by show some (zbt ⟨c.b,c.i,c.h⟩ l,_,_)=_;rw[show (⟨c.b,c.i,c.h⟩:Cur)=c from rfl,r])
 refine Calls.mono this ?_
 rintro e n ⟨A,B,rfl,d,m,D⟩
 match A,m.1,m.2 with
 |[y],_,p=>have:=(p 0 _ y rfl rfl).int_inv;subst this;exact⟨rfl,d.os,d.tape,d.output,d.size,d.keep,d.cur⟩
def z2L {w:World}{v:Value}{l:List LI}{K:zV}(h:Rep true w v (.s (.sl .int) l) K)(n:l.length=3):∃(b off cap:Nat) (arr:LV) (e:TypeId) (V:Nat->Value) (c:Nat->zV),v = .slice (some ⟨b,off,none⟩) 3 cap/\w.heap[b]?=some (.cells arr e (0,0))/\3<=cap/\off+cap<=arr.size/\K b/\
 (∀i x,i<3->c i x->K x/\x≠b)/\(∀i g x,i<3->g<3->c i x->c g x->i=g)/\(∀i,i<3->arr[off+i]?=some (V i))/\∀i x,l[i]?=some x->Rep true w (V i) (.s .int x) (c i):=by
 cases h with
 |nil=>simp at n
 |void _ _ _ B=>cases B
 |sl _ _ b off cap arr e E V c _ y k r p f u a d C z=>have:=k rfl;subst this;have t:Ty.wi (.sl .int)=1:=rfl;rw[t,uZ]at f;refine⟨b,off,cap,arr,e,λi=>V i 0,λi=>c i 0,by rw[n],y,by omega,f,u,λi x q j=>⟨(a i 0 x (by omega) (by decide) j).1,(a i 0 x (by omega) (by decide) j).2 rfl⟩,λi g x q A j m=>(d rfl i 0 g 0 x (by omega) (by decide) (by omega) (by decide) j m).1,λi q=>?_,λi x D=>z i x D 0 _ rfl⟩;have:=C i 0 (by omega) (by decide);rwa [t,uZ,j5] at this
def zUQ {w:World}{v:Value}{l:LI}{K:zV}(h:Rep true w v (.s .int l) K)(d:l.length=4):∃(b off cap:Nat) (arr:LV) (e:TypeId),v = .slice (some ⟨b,off,none⟩) 4 cap/\w.heap[b]?=some (.cells arr e (0,0))/\4<=cap/\off+cap<=arr.size/\K b/\
 ∀i x,l[i]?=some x->arr[off+i]?=some (.int .i64 x):=by
 cases h with
 |nil=>simp at d
 |void _ _ _ u=>cases u
 |sl _ _ b off cap arr e A V z _ q c j f a p k g y r=>have:=c rfl;subst this;have m:Ty.wi .int=1:=rfl;rw[m,uZ]at a;refine⟨b,off,cap,arr,e,by rw[d],q,by omega,a,p,λi x n=>?_⟩;have t:i<l.length:=(qA.1 n).1;have:=y i 0 t (by decide);rw[m,uZ,j5] at this;rw[this,(r i x n 0 (.i .i64 x) rfl).int_inv]
def zIH {o:Bool}{w:World}{b off cap:Nat}{arr:LV}{e:TypeId}(g:w.heap[b]?=some (.cells arr e (0,0))){l:LI}(r:l.length<=1000)(c:l.length<=cap)(m:off+cap<=arr.size)(n:∀i x,l[i]?=some x->arr[off+i]?=some (.int .i64 x)):Rep o w (.slice (some ⟨b,off,none⟩) l.length cap) (.s .int l) (λx=>x=b):=by
 refine .sl .int l b off cap arr e (0,0) (λi j=>.int .i64 (l.getD i 0)) (λ_ _ _=>False) _ g (λ_=>rfl) (by rw[zqr];omega) c (by show off+cap*1<=arr.size;omega) rfl (λi j x _ _ h=>h.elim) (λ_ i j t u x _ _ _ _ h=>h.elim) (λi j f k=>?_) (λi x p j q a=>?_);{have d:j=0:=(by have:j<1:=k;omega);subst d;have:=n i _ (qB f);show arr[off+i*1+0]?=_;rw[uZ,j5,this];simp[List.getD,qB f]}
 .match j,a with
  | 0,a=>cases a;have:l.getD i 0=x:=(by simp[List.getD,p]);show Rep o w (.int .i64<|l.getD i 0) _ _;rw[this];exact .i _ _ _
  |j+1,a=>simp[Ty.cells]at a
def zII {w:World}{b off cap:Nat}{arr:LV}{e:TypeId}(n:w.heap[b]?=some (.cells arr e (0,0))){l:List LI}(A:l.length<=1000)(c:l.length<=cap)(t:off+cap<=arr.size)(V:Nat->Value){K:zV}(f:K b)(u:∀i,i<l.length->arr[off+i]?=some (V i))(r:∀i x,l[i]?=some x->∃d,Rep false w (V i) (.s .int x) d/\∀y,d y->K y):Rep false w (.slice (some ⟨b,off,none⟩) l.length cap) (.s (.sl .int) l) K:=by
 refine .sl (.sl .int) l b off cap arr e (0,0) (λi _=>V i) (λ_ _=>K) _ n (λ_=>rfl) (by rw[zqr];omega) c (by show off+cap*1<=arr.size;omega) f (λi j x _ _ h=>⟨h,λh=>by cases h⟩) (λh=>by cases h) (λi j p q=>?_) (λi x v j z a=>?_);{have g:j=0:=(by have:j<1:=q;omega);subst g;show arr[off+i*1+0]?=_;rw[uZ,j5];exact u i p}
 .match j,a with
  | 0,a=>cases a;obtain⟨d,k,m⟩:=r i x v;exact k.weak m
  |j+1,a=>simp[Ty.cells]at a
def zvA {w:World}{b o:Nat}{arr:LV}{e:TypeId}(a:w.heap[b]?=some (.cells arr e (0,0))):w.frozen? ⟨b,o,none⟩=false:=by simp[World.frozen?,a]
set_option maxHeartbeats 3000000 in
def zWt {w:World}{blk:Nat}{u:Value}{c:Cur}{K0:zV}{r:Ans}(N:Nat)(b5:∃e,w.heap[blk]?=some (.cells #[u,.int .i64 c.i,.int .i64 c.h] e (0,0)))(hu:Rep false w u (.s .u8 c.b) K0)(hK:∀x,K0 x->x<w.heap.size/\x≠blk)(hE:zoM N c=some r) :
 Calls Tryz.prog 243 #[.pointer<|some ⟨blk,0,none⟩] w λe p=>∃c2 l v Kr,r=AV.agg (zbV c2)::[aS (.sl .int) l]/\e = .returned v/\Cw w blk u c2 p/\Rep false p v (.s (.sl .int) l) Kr/\(∀x,Kr x->w.heap.size<=x/\x<p.heap.size):=by
 unfold zoM at hE;cases hm:ziY c 3 with
 |false=>rw[hm]at hE;cases hE
 |true=>
 cases K:zA (zzv c) 8 with
 |false=>rw[hm,K]at hE;cases hE
 |true=>
 rw[hm,K,cT,cT]at hE;have a7:∀{p:World} {O:Cur},Cw w blk u O p->O.b=c.b->Rep false p u (.s .u8 O.b) K0/\∀x,K0 x->x<p.heap.size/\x≠blk:=by intro p O h e;rw[e];exact⟨hu.frame λx d=>h.keep x (hK x d).1 (hK x d).2,λx d=>⟨q0 (hK x d).1 h.size,(hK x d).2⟩⟩
 have hM:=(zzR hm).2.2 (by omega) (by omega)
 have a8:(ze2 c).length=3:=by have:=hM.1;unfold ln at this;unfold ze2;omega
 have h5:=(zif K).2.2 (by omega)
 obtain⟨k,hk⟩:∃k,zn (zzv c) 8=k:=⟨_,rfl⟩;have f1:zZt c=k:=hk;rw[f1]at hE
 go_enter Tryz.func243,Tryz.ntmps243
 go_wp2_with fail
 refine(z5b b5 hu hK hm).mono ?_
 rintro e L ⟨v,K1,rfl,F,b3,m⟩
 have b3:Rep true L v (.s (.sl .int)<|ze2 c) K1:=b3;have F:Cw w blk u (zzv c) L:=F;obtain⟨E,t,a3,d7,e0,V,Kc,rfl,c3,g9,d1,Z,G,e9,hV,c1⟩:=z2L b3 a8;have h3:blk<w.heap.size:=by obtain⟨e,he⟩:=b5;exact(qL.1 he).1
 have e5:E≠blk:=by have:=(m E Z).1;omega
 have cellAt:∀{p:World} {O:Cur},Cw L blk u O p->p.heap[E]?=some (.cells d7 e0 (0,0)):=λh=>(h.keep E (m E Z).2 e5).trans c3
 go_wp2_with fail
 obtain⟨g1,f2⟩:=a7 F rfl;refine(ztg F.cur g1 f2 K).mono ?_;rw[hk]
 rintro e X ⟨rfl,B⟩
 have B:Cw L blk u (zik c) X:=B;obtain⟨g2,f3⟩:=a7 (F.trans B) rfl;have g0:=B.size;have g8:w.heap.size<=E/\E<L.heap.size:=m E Z
 have b2:∀{p:World} (i:Nat) (x:LI),(∀b,Kc i b->b<L.heap.size->b≠blk->b≠E->p.heap[b]?=L.heap[b]?)->i<3->(ze2 c)[i]?=some x->Rep false p (V i) (.s .int x) (Kc i)/\∀y,Kc i y->w.heap.size<=y/\y<L.heap.size:=by intro p i x hf P d;refine⟨((c1 i x d).frame λy S=>?_).ro,λy S=>m y (G i y P S).1⟩;have:=m y (G i y P S).1;exact hf y S this.2 (by omega) (G i y P S).2
 go_wp2_with fail
 .have h0:ieq k 0=true:=by assumption
  rw[h0,cT]at hE;cases J:zA (zik c) 3 with
  |false=>rw[J]at hE;cases hE
  |true=>
  cases b4:zA (ztj c) 4 with
  |false=>rw[J,b4]at hE;cases hE
  |true=>
   rw[J,b4,cT,cT]at hE;have hj:=(zif J).2.2 (by omega);obtain⟨j,a0⟩:=uU hj.1;have c8:zZs c=(j:Int):=a0;have hn:=(zif b4).2.2 (by omega);obtain⟨n,c9⟩:=uU hn.1;have f8:l04n c=(n:Int):=c9;rw[c8,f8]at hE;rw[a0]at hj;rw[c9]at hn;have e6:j<3:=(by omega);have h6:n<4:=(by omega);obtain⟨R0,c0⟩:∃R0,(ze2 c)[0]?=some R0:=⟨_,qB (by omega)⟩;have e2:R0.length=4:=hM.2 R0 (qH c0);obtain⟨f,a,g,T,e1,f0,c4,c6,a9,D,W⟩:=zUQ (c1 0 R0 c0) e2;have Q:∀{p:World} {O:Cur},Cw L blk u O p->p.cell? ⟨E,t,none⟩=some (.slice (some ⟨f,a,none⟩) 4 g):=λh=>(by have:=hV 0 (by omega);rw[j5,f0] at this;rw[F0<|cellAt h];exact this);have b7:∀{p:World} {O:Cur},Cw L blk u O p->p.cell? ⟨E,t+j,none⟩=some (V j)/\p.frozen? ⟨E,t+j,none⟩=false:=λh=>by rw[F0<|cellAt h];exact⟨hV j e6,zvA<|cellAt h⟩
   have d8:∀{I:World},Cw L blk u (zZq c) I->∃c2 l v Kr,r=AV.agg (zbV c2)::[aS (.sl .int) l]/\Ending.returned (.slice (some ⟨E,t,none⟩) 3 a3) = .returned v/\Cw w blk u c2 (I.setCell ⟨E,t+j,none⟩<|.slice (some ⟨f,a,none⟩) n g)/\Rep false (I.setCell ⟨E,t+j,none⟩<|.slice (some ⟨f,a,none⟩) n g) v (.s (.sl .int) l) Kr/\
    (∀x,Kr x->w.heap.size<=x/\x<(I.setCell ⟨E,t+j,none⟩<|.slice (some ⟨f,a,none⟩) n g).heap.size):=by
    intro I h4;have hz:=h4.size;have a6:=m f (G 0 f (by omega) D).1
    have U:f≠blk:=by omega
    have a5:f≠E:=(G 0 f (by omega) D).2
    have ho:∀b,b≠E->(I.setCell ⟨E,t+j,none⟩<|.slice (some ⟨f,a,none⟩) n g).heap[b]?=I.heap[b]?:=λb K=>heap_setCell_other I _ b _ K;have d0:=heap_setCell_same I E (t+j) d7 e0 (.slice (some ⟨f,a,none⟩) n g) (cellAt h4);have A:=F.trans h4;refine⟨_,_,_,K1,(Option.some.inj hE).symm,rfl,⟨A.os,A.tape,A.output,by rw[World.size_setCell];exact A.size,λb K hn=>(ho b (by omega)).trans (A.keep b K hn),by obtain⟨e,he⟩:=A.cur;exact⟨e,(ho blk λh=>e5 h.symm).trans he⟩⟩,?_,λx d=>⟨(m x d).1,by rw[World.size_setCell];have:=m x d;omega⟩⟩
    have c7:ix (ze2 c) 0 []=R0:=by unfold ix;simp[List.getD,c0]
    have a1:(up (ze2 c) (j:Int)<|tk (ix (ze2 c) 0 []) (n:Int)).length=3:=by rw[ziG];exact a8
    have:=zII d0 (l:=up (ze2 c) (j:Int) (tk (ix (ze2 c) 0 []) (n:Int))) (by omega) (cap:=a3) (off:=t) (by omega) (by simpa using d1) (λi=>if i=j then .slice (some ⟨f,a,none⟩) n g else V i) Z (λi P=>by
     rw[a1]at P;rw[uD]
     by_cases M:i=j
     .subst M;rw[if_pos rfl,if_pos (by omega),if_pos rfl]
     .rw [if_neg (by omega),if_neg M]
      exact hV i P) (λi x d=>by
     have P:i<3:=by rw[<- a1];exact(qA.1 d).1
     unfold up at d;rw[jC]at d
     by_cases M:i=j
     .subst M;rw[j4,if_pos rfl,if_pos (by omega),c7]at d
      cases d;refine⟨λx=>x=f,?_,λy S=>by rw[S];exact(G 0 f (by omega) D).1⟩
      have hl:(tk R0 (n:Int)).length=n:=by simp[tk];omega
      have:=zIH (o:=false) (w:=I.setCell ⟨E,t+i,none⟩ (.slice (some ⟨f,a,none⟩) n g)) (b:=f) (off:=a) (cap:=g) (arr:=T) (e:=e1) ((ho f a5).trans ((h4.keep f a6.2 U).trans c4)) (l:=tk R0 (n:Int)) (by omega) (by omega) a9 (λq z hq=>by
       unfold tk at hq;rw[jG]at hq;split at hq
       .exact W q z hq
       .cases hq)
      rw[hl] at this;rw[if_pos rfl];exact this
     .rw [j4,if_neg (by omega)]at d
      rw[if_neg M];exact⟨Kc i,(b2 i x (λb _ K hn c3=>(ho b c3).trans (h4.keep b K hn)) P d).1,λy S=>(G i y P S).1⟩)
    rw[a1] at this;exact this
   have Y:Cw L blk u (zik c) X.drew:=B.drew;obtain⟨e8,e7⟩:=a7 (F.trans Y) rfl;have d2:=Q Y
   go_region_with (first
    |(go_at_call_of 101 (Value.int IntKind.i64 3);refine(ztg (c:=zik c) (n:=3) Y.cur e8 e7 J).mono ?_;rw[a0];rintro e w3 ⟨rfl,H⟩;have H:Cw X.drew blk u (ztj c) w3:=H;have C:=Y.trans H;have d3:=Q C;obtain⟨g3,f4⟩:=a7 (F.trans C) rfl)
    |(go_at_call_of 101 (Value.int IntKind.i64 4);refine(ztg (c:=ztj c) (n:=4) C.cur g3 f4 b4).mono ?_;rw[c9];rintro e I ⟨rfl,b8⟩;have b8:Cw w3 blk u (zZq c) I:=b8;have b9:=C.trans b8;have d4:=Q b9;obtain⟨d5,d6⟩:=b7 b9))
   (all_goals go_wp2);(all_goals go_ret);all_goals exact d8 b9
 .have h0:ieq k 0=false:=by assumption
  have h1:ieq k 1=true:=by assumption
  rw[h0,h1,cF,cT]at hE;cases c5:zbt (zik c) [-1,100] with
  |false=>rw[c5]at hE;cases hE
  |true=>
   rw[c5,cT]at hE;obtain⟨R1,a4⟩:∃R1,(ze2 c)[1]?=some R1:=⟨_,qB (by omega)⟩;have e3:R1.length=4:=hM.2 R1 (qH a4);obtain⟨f,a,g,T,e1,e4,c4,c6,a9,D,W⟩:=zUQ (c1 1 R1 a4) e3;have a6:=m f (G 1 f (by omega) D).1;have U:f≠blk:=(by omega);have a5:f≠E:=(G 1 f (by omega) D).2;have R:∀{p:World} {O:Cur},Cw L blk u O p->p.cell? ⟨E,t+1,none⟩=some (.slice (some ⟨f,a,none⟩) 4 g):=λh=>(by have:=hV 1 (by omega);rw[e4] at this;rw[F0<|cellAt h];exact this);have a2:∀{p:World} {O:Cur},Cw L blk u O p->p.heap[f]?=some (.cells T e1 (0,0)):=λh=>(h.keep f a6.2 U).trans c4;have b6:∀{p:World} {O:Cur},Cw L blk u O p->p.cell? ⟨f,a+2,none⟩=some (.int .i64 R1[2])/\p.frozen? ⟨f,a+2,none⟩=false:=λh=>by rw[F0<|a2 h];exact⟨W 2 _<|qB (by omega),zvA<|a2 h⟩
   have Y:Cw L blk u (zik c) X.drew:=B.drew;have d2:=R Y;have d9:∀{I:World},Cw L blk u (zZr c) I->∃c2 l v Kr,r=AV.agg (zbV c2)::[aS (.sl .int) l]/\Ending.returned (.slice (some ⟨E,t,none⟩) 3 a3) = .returned v/\Cw w blk u c2 (I.setCell ⟨f,a+2,none⟩<|.int .i64<|zuo c)/\Rep false (I.setCell ⟨f,a+2,none⟩<|.int .i64<|zuo c) v (.s (.sl .int) l) Kr/\
    (∀x,Kr x->w.heap.size<=x/\x<(I.setCell ⟨f,a+2,none⟩<|.int .i64<|zuo c).heap.size):=by
    intro I h4;have hz:=h4.size;have ho:∀b,b≠f->(I.setCell ⟨f,a+2,none⟩<|.int .i64<|zuo c).heap[b]?=I.heap[b]?:=λb K=>heap_setCell_other I _ b _ K;have d0:=heap_setCell_same I f (a+2) T e1 (.int .i64<|zuo c) (a2 h4);have A:=F.trans h4;refine⟨_,_,_,K1,(Option.some.inj hE).symm,rfl,⟨A.os,A.tape,A.output,by rw[World.size_setCell];exact A.size,λb K hn=>(ho b (by omega)).trans (A.keep b K hn),by obtain⟨e,he⟩:=A.cur;exact⟨e,(ho blk λh=>U h.symm).trans he⟩⟩,?_,λx d=>⟨(m x d).1,by rw[World.size_setCell];have:=m x d;omega⟩⟩
    have c7:ix (ze2 c) 1 []=R1:=by unfold ix;show (ze2 c).getD 1 []=R1;simp[List.getD,a4]
    have a1:(up (ze2 c) 1<|up (ix (ze2 c) 1 []) 2<|zuo c).length=3:=by rw[ziG];exact a8
    have:=zII ((ho E λh=>a5 h.symm).trans (cellAt h4)) (l:=up (ze2 c) 1 (up (ix (ze2 c) 1 []) 2<|zuo c)) (by omega) (cap:=a3) (off:=t) (by omega) d1 V Z (λi P=>hV i (by omega)) (λi x d=>by
     have P:i<3:=by rw[<- a1];exact(qA.1 d).1
     unfold up at d;rw[jC]at d
     by_cases M:i=1
     .subst M;rw[show (1:Int).toNat=1 from rfl,if_pos rfl,if_pos (by omega),c7]at d
      cases d;refine⟨λx=>x=f,?_,λy S=>by rw[S];exact(G 1 f (by omega) D).1⟩
      have hl:(List.set R1 (2:Int).toNat<|zuo c).length=4:=by simp;omega
      have:=zIH (o:=false) (w:=I.setCell ⟨f,a+2,none⟩ (.int .i64<|zuo c)) (b:=f) (off:=a) (cap:=g) d0 (l:=List.set R1 (2:Int).toNat (zuo c)) (by omega) (by omega) (by simpa using a9) (λq z hq=>by
       rw[jC]at hq;rw[uD]
       by_cases f9:q=2
       .subst f9;rw[show (2:Int).toNat=2 from rfl,if_pos rfl,if_pos (by omega)]at hq
        cases hq;rw[if_pos rfl,if_pos (by omega)]
       .rw [show (2:Int).toNat=2 from rfl,if_neg (by omega)]at hq
        rw[if_neg (by omega)]
        exact W q z hq)
      rw[hl] at this;rw[e4];exact this
     .rw [show (1:Int).toNat=1 from rfl,if_neg (by omega)]at d
      refine⟨Kc i,(b2 i x (λb f6 K hn g7=>?_) P d).1,λy S=>(G i y P S).1⟩;exact(ho b λe=>M (e9 i 1 b P (by omega) f6 (by rw[e];exact D))).trans (h4.keep b K hn))
    rw[a1] at this;exact this
   have hA:Cw L blk u (zik c) (X.alloc<|Obj.cells #[Value.int .i64<|-1,Value.int .i64 100] 3).drew:=(B.alloc B.lt _).drew;obtain⟨g4,f5⟩:=a7 (F.trans hA) rfl;have dA:=R hA;have g5:Rep false (X.alloc<|Obj.cells #[Value.int .i64<|-1,Value.int .i64 100] 3).drew (.slice (some ⟨X.heap.size,0,none⟩) 2 2) (.s .int [-1,100]) (λx=>x=X.heap.size):=by
    have hh:(X.alloc<|Obj.cells #[Value.int .i64<|-1,Value.int .i64 100] 3).drew.heap[X.heap.size]?=some (.cells #[Value.int .i64<|-1,Value.int .i64 100] 3 (0,0)):=heap_alloc_new X _;exact zIH (o:=false) hh (l:=[-1,100]) (cap:=2) (off:=0) (by decide) (by decide) (by decide) (λi x d=>by
     match i,d with
     | 0,d=>cases d;rfl
     | 1,d=>cases d;rfl
     |i+2,d=>simp at d)
   go_region_with (first
    |(go_at_call_of 109 (Value.slice (some ⟨X.heap.size,0,none⟩) 2 2);refine(z2E (c:=zik c) (l:=[-1,100]) hA.cur g4 f5 c5 g5 (λx d=>by rw[d];exact⟨by simp,Nat.ne_of_gt B.lt⟩)).mono ?_;rintro e w3 ⟨rfl,H⟩;have H:Cw (X.alloc<|Obj.cells #[Value.int .i64<|-1,Value.int .i64 100] 3).drew blk u (zZr c) w3:=H;have C:=hA.trans H;have d3:=R C;obtain⟨d4,d5⟩:=b6 C))
   (all_goals go_wp2);(all_goals go_ret);all_goals exact d9 C
 .have h0:ieq k 0=false:=by assumption
  have h1:ieq k 1=false:=by assumption
  have h2:ieq k 2=true:=by assumption
  rw[h0,h1,h2,cF,cF,cT]at hE;cases J:zA (zik c) 3 with
  |false=>rw[J]at hE;cases hE
  |true=>
   rw[J,cT]at hE;have hj:=(zif J).2.2 (by omega);obtain⟨j,a0⟩:=uU hj.1;have c8:zZs c=(j:Int):=a0;rw[c8]at hE;refine(ztg B.cur g2 f3 J).mono ?_;rw[a0];rintro e w3 ⟨rfl,H⟩;have H:Cw X blk u (ztj c) w3:=H;go_wp2;go_ret;have e6:j<3:=(by omega);have f7:(tk (ze2 c) (j:Int)).length=j:=(by simp[tk];omega);have C:=B.trans H;refine⟨_,_,_,K1,(Option.some.inj hE).symm,rfl,F.trans C,?_,λx d=>⟨(m x d).1,by have:=m x d;have:=C.size;omega⟩⟩
   have:=zII (cellAt C) (l:=tk (ze2 c) (j:Int)) (by omega) (cap:=a3) (off:=t) (by omega) d1 V Z (λi P=>hV i (by omega)) (λi x d=>by
    have P:i<(tk (ze2 c) (j:Int)).length:=(qA.1 d).1;have g6:(ze2 c)[i]?=some x:=by unfold tk at d;rw[jG]at d;split at d;{exact d};{cases d}
    exact⟨Kc i,(b2 i x (λb _ K hn _=>C.keep b K hn) (by omega) g6).1,λy S=>(G i y (by omega) S).1⟩)
   rw[f7] at this;exact this
 .have h0:ieq k 0=false:=by assumption
  have h1:ieq k 1=false:=by assumption
  have h2:ieq k 2=false:=by assumption
  rw[h0,h1,h2,cF,cF,cF]at hE
  go_ret
  exact⟨_,_,_,K1,(Option.some.inj hE).symm,rfl,F.trans B,(b3.frame λx d=>B.keep x (m x d).2 (by have:=m x d;omega)).ro,λx d=>⟨(m x d).1,by have:=m x d;omega⟩⟩
def zTy {c:Cur}(h:zbf c):zpU c=true:=by
 refine zZW c ⟨0,?_⟩;unfold zoM;have t:=zba3 h (a0:=3) (by omega) (by omega);have y:zbf (zzv c):=zbM h (zZZ _ _);have k:zbf (zik c):=zbM h (zF _ _);have z:zbf (ztj c):=zbM h (zF _ _);have p:=(zzR t).2.2 (by omega) (by omega);have A:(ze2 c).length=3:=(by have:=p.1;unfold ln at this;unfold ze2;omega);have f:∀r∈ze2 c,r.length<=4:=λr f=>k6 (p.2 r f);have u:∀n,(ix (ze2 c) n []).length<=4:=(by intro n;unfold ix List.getD;cases e:(ze2 c)[n.toNat]? with|none=>simp|some r=>exact f r (qH e));have g:∀(n:Int) (r:LI),r.length<=4->∀q∈up (ze2 c) n r,q.length<=4:=by intro n r j q e;rcases qY e with e|rfl;{exact f q e};{exact j}
 have d:∀(s:Cur) (l:List LI),s.b=c.b->0<=s.i->l.length<=3->(∀r∈l,r.length<=4)->Ends (λa=>∃s m,a=(AV.agg (zbV s)::[aS (.sl .int) m])/\(s.b=c.b/\0<=s.i)/\(m.length<=3/\∀r∈m,r.length<=4)) (some (AV.agg (zbV s)::[aS (.sl .int) l])):=
  λs l v w x j=>⟨_,rfl,s,l,rfl,⟨v,w⟩,x,j⟩
 exact zu t (zu (zbA y 8) (zbz (λ_=>zu (zbA k 3) (zu (zbA z 4) (d _ _ rfl (zF _ _) (by rw[ziG];omega) (g _ _<|qU (zC9 _ _)<|u _))))
  (λ_=>zbz (λ_=>zu (zfy k (by simp)) (d _ _ rfl (zb0 _ _) (by rw[ziG];omega) (g _ _ (by rw[ziG];exact u _)))) λ_=>zbz (λ_=>zu (zbA k 3) (d _ _ rfl (zF _ _) (qU (zC9 _ _) (by omega)) λr e=>f r (jU e))) λ_=>d _ _ rfl (zF _ _) (by omega) f)))
def zNw:zbR Tryz.prog 243 [false,true,true] zsF:=by
 refine⟨zjs (by kernel_rfl),?_⟩;intro w blk d e cs K T xs Ka U rs D P a4 k A X n W g;unfold zsF rP0 at g;obtain⟨⟨p,q,r⟩,rfl,g⟩:=z2z g;obtain⟨rfl,R,rfl,rfl⟩:=zvS g;dsimp only at R ⊢;have hs:d.size=3:=P;have M:xs=[]:=List.eq_nil_of_length_eq_zero n.1;subst M;obtain⟨N,hE⟩:=(zL0 R).1;have v1:=(k 1 _ (d[1]'(by omega)) rfl (jL _)).int_inv;have v2:=(k 2 _ (d[2]'(by omega)) rfl (jL _)).int_inv
 have m:d = #[d[0]'(by omega),.int .i64 q,.int .i64 r]:=by
  apply Array.ext;{exact hs}
  .intro i E hi2
   match i,E with
   | 0,_=>rfl
   | 1,_=>exact v1
   | 2,_=>exact v2
   |i+3,h=>omega
 have hu:=k 0 _ (d[0]'(by omega)) rfl (jL _);have f:Rep false w (d[0]'(by omega)) (.s .u8 p) (K 0):=hu;generalize d[0]'(by omega)=u at m f;subst m;refine(zWt (c:=⟨p,q,r⟩) (u:=u) (K0:=K 0) N ⟨e,D⟩ f (λx n=>A 0 x (show 0<3 by decide) n) hE).mono ?_;rintro e2 w' ⟨z,l,v,S,hr,rfl,y,Y,t⟩;have B:AV.agg (zbV<|ziW ⟨p,q,r⟩)::[aS (.sl .int)<|zq1 ⟨p,q,r⟩]=AV.agg (zbV z)::[aS (.sl .int) l]:=hr;simp only[List.cons.injEq,AV.agg.injEq,AV.one.injEq,and_true]at B;obtain⟨C,I⟩:=B;have I:zq1 ⟨p,q,r⟩=l:=(by cases I;rfl);subst I;have O:ziW ⟨p,q,r⟩=z:=(by have C:=C;simp only[zbV,List.cons.injEq,CV.s.injEq,CV.i.injEq,true_and,and_true,heq_eq_eq]at C;obtain⟨F,G,H⟩:=C;generalize ziW ⟨p,q,r⟩=s at F G H;obtain⟨a1,a2,a3⟩:=s;obtain⟨b1,b2,b3⟩:=z;simp only at F G H;rw[F,G,H]);rw[O];obtain⟨V,J⟩:=y.cur;refine⟨y.os,y.tape,y.output,y.size,λb D hn _=>y.keep b D hn,#[u,.int .i64 z.i,.int .i64 z.h],V,λ_ _=>False,[v],λ_=>S,J,rfl,rfl,?_,⟨rfl,λi Q x a n=>?_⟩,rfl,λj x _ h=>h.elim,λi x E L=>⟨(t x L).2,?_,.inr (t x L).1⟩,λi j x _ _ _ h=>h.elim,?_,λi j x _ _ h=>h.elim⟩
 .intro j Q u' a f
  match j,a,f with
  | 0,a,f=>cases a;exact⟨λh=>by simp[zbd]at h,λ_=>f⟩
  | 1,a,f=>cases a;cases f;rfl
  | 2,a,f=>cases a;cases f;rfl
  |j+3,a,f=>simp[zbV]at a
 .match i,a,n with
  | 0,a,n=>cases a;cases n;exact Y
  |i+1,a,n=>simp at n
 {have:=(qL.1 D).1;have:=(t x L).1;omega};{intro i j Q x E ho Z a0 _;have h1:i<1:=(qA.1 E).1;have h2:j<1:=Z;omega}
def z7H:zcY:=[(243,[false,true,true],zsF)]++z7G
def zUF:zb2 z7H:=zcq z5l (by
 intro x a;simp only[qG,qP,or_false]at a;rcases a with rfl
 .exact zNw)
end
def zbaU:zW:=[(197,zgs),(384,zqR)]++z6C
def zHk:zL zbaU:=zh zn4 (zh zuj zeC)
def zD0 {g:Type}{c e:Cur}(h:zbf c)(j:0<=e.i){P:g->Prop}{q:Int}(A:0<q)(M:q<=1000){fc:Cur->Bool}{fs:Cur->Cur}{fv:Cur->g}(E:∀{c:Cur},zbf c->fc c=true)(H:∀c,0<=(fs c).i)(hg:∀{c:Cur},zbf c->P (fv c)){G:Ans->Prop}{l0:List g}{z:Nat}(O:l0.length<=z)(I:z<=1000)(m:∀x∈l0,P x){p:Type}(S:Nat->Int×Int×Int×List g->p){F:(p->OA)->p->OA}(D:∀rec t i k l,∃r,F rec (S 0 (t,i,k,l))=(bif zA ⟨c.b,i,k⟩ q then (bif ilt t (zn ⟨c.b,i,k⟩ q) then (bif fc { zf ⟨c.b,i,k⟩ q with b:=c.b } then (bif few (ln (ap l [fv { zf ⟨c.b,i,k⟩ q with b:=c.b }])) then
        rec (S 0 (zK .i64 t 1,(fs {zf ⟨c.b,i,k⟩ q with b:=c.b}).i,(fs {zf ⟨c.b,i,k⟩ q with b:=c.b}).h,ap l [fv {zf ⟨c.b,i,k⟩ q with b:=c.b}])) else none) else none) else some r) else none)/\(ln l<=z+q->(∀x∈l,P x)->G r)):Ends G (r0 1002 F (S 0 (0,e.i,e.h,l0))):=by
 refine zlG (fun n s=>∃t i k l,s=S 0 (t,i,k,l)/\t+(n:Int)=1000/\0<=t/\t<=q/\0<=i/\(∀x∈l,P x)/\ln l<=z+t) ?_ 1002 1000 _ ⟨0,e.i,e.h,l0,rfl,rfl,kS 0,by omega,j,m,by unfold ln;omega⟩ (by omega)
 rintro n s rec ⟨t,i,k,l,rfl,J,B,K,C,u,L⟩ f
 obtain⟨r,hF1,hF2⟩:=D rec t i k l;rw[hF1];have a:zbf ⟨c.b,i,k⟩:=zbM h C;have d:=zgn a A;have v:zbf {zf ⟨c.b,i,k⟩ q with b:=c.b}:=zbM h (zF _ _);refine zu (zbA a _) (zbz (fun w=>?_) (fun w=>?_))
 .have hlt:t<zn ⟨c.b,i,k⟩ q:=qF w;have N:=zh1 (y:=1) B (by omega) (by omega) (by omega)
  refine zu (E v) (zu (zjz (by rw[zil];omega)) (f (n-1) _ (by omega) ⟨_,_,_,_,rfl,by omega,by omega,by omega,H _,?_,by rw[zil];omega⟩))
  intro x d;rcases jJ.1 d with d|d
  .exact u x d
  .rw [qD.1 d];exact hg v
 .exact zt4 (hF2 (by omega) u)
def zbal {c d:Cur}(h:zbf c)(f:0<=d.i){m q x:Int}(t:0<q)(g:0<=m)(D:m+q<=1000){G:Ans->Prop}{l0:LI}(B:ln l0<=m+q){j:Type}(S:Nat->Int×Int×LI->j){F:(j->OA)->j->OA}(w:∀rec i k l,∃r,F rec (S 0 (i,k,l))=(bif zA ⟨c.b,i,k⟩ q then (bif ilt (ln l) (zK .i64 m (zn ⟨c.b,i,k⟩ q)) then (bif few (ln (ap l [x])) then
        rec (S 0 ((zf ⟨c.b,i,k⟩ q).i,(zf ⟨c.b,i,k⟩ q).h,ap l [x])) else none) else some r) else none)/\(ln l<=m+q->G r)):Ends G (r0 1002 F (S 0 (d.i,d.h,l0))):=by
 refine zlG (fun n s=>∃i k l,s=S 0 (i,k,l)/\ln l+(n:Int)=1000/\0<=i/\ln l<=m+q) ?_ 1002 (1000-ln l0).toNat _ ⟨d.i,d.h,l0,rfl,by unfold ln at *;omega,f,B⟩ (by unfold ln at *;omega)
 rintro n s rec ⟨i,k,l,rfl,C,u,v⟩ e
 obtain⟨r,hF1,hF2⟩:=w rec i k l;rw[hF1];have a:zbf ⟨c.b,i,k⟩:=zbM h u;have A:=zgn a t;have z:=zh1 (x:=m) (y:=zn ⟨c.b,i,k⟩ q) g (by omega) A.1 (by omega)
 refine zu (zbA a _) (zbz (fun p=>?_) (fun p=>?_))
 .have hlt:ln l<zK .i64 m (zn ⟨c.b,i,k⟩ q):=qF p;rw[z]at hlt;exact zu (zjz (by rw[zil];omega)) (e (n-1) _ (by unfold ln at *;omega) ⟨_,_,_,rfl,by rw[zil];omega,zF _ _,by rw[zil];omega⟩)
 .exact zt4 (hF2 v)
def GuS (g:ah):Prop:=g.aw.length<=13/\g.az.length<=4/\g.av.length<=4/\g.aC.length<=50
def zDM {c:Cur}(h:zbf c):(zdA c 4 8).length<=4:=by have:=(z9H h (n:=4) (m:=8) (by omega) (by omega) (by omega) (by omega)).1;unfold ln at this;omega
def ztS (N:Nat)(c:Cur)  : OA :=
 let C:=({ (zbb c) with b:=c.b}:Cur);let v:=zdA C 4 8;let d:=zb1<|zbY c;let y9:=({ (zJ C 4 8) with b:=c.b}:Cur);let x:=zdA y9 4 8;let y2:=({ (zJ y9 4 8) with b:=c.b}:Cur);let w:=zn y2 100;let B:=({ (zf y2 100) with b:=c.b}:Cur);let y:=zn B 4;let y0:=({ (zf B 4) with b:=c.b}:Cur);let I:=({ (zcf y0) with b:=c.b}:Cur);let e:=zcy y0;let A:=({ (zO I 3) with b:=c.b}:Cur);let H:=({ (zf A 256) with b:=c.b}:Cur);let r:=({ (zO A 4) with b:=c.b}:Cur);let u:=({ (zfH r) with b:=c.b}:Cur);let q:=({ (zO H 4) with b:=c.b}:Cur);let t:=({ (zfH q) with b:=c.b}:Cur); (oN (zfG c)<|oN (zfY<|zbY c)<|oN (zih C 4 8)<|oN (zih y9 4 8)<|oN (zA y2 100)<|oN (zA B 4)<|oN (zkt y0)<|oN (zck I 3)<|cond (zcC I 3) (oN (zA A 256)<|oN (zck H 4)<|cond (zcC H 4) (oN (zjj q)<|oN (zck t 12)<|r0 (σ:=(Int×Int×Int×Int×Int×Int×Int×Bool×Int×Int×Int×Bool×Int×Bool×Int×Int×Int×Int×Bool×Int×Int×Int×Bool×Int×Bool×LI×lI×lS×lS×LI×lI×lS×lS×LI×Unit)) N (λz a=>let c:=a.2.2.2.2.2.2.2.2.2.2.2.2;let d:=c.2.2.2.2.2.2.2.2.2.2;let d6:=c.2.2.1;let d2:=c.2.2.2.1;let c8:=c.2.2.2.2.1;let c4:=c.2.2.2.2.2.1;let c0:=c.2.2.2.2.2.2.1;let b6:=c.2.2.2.2.2.2.2.1;let b2:=c.2.2.2.2.2.2.2.2.1;let a8:=c.2.2.2.2.2.2.2.2.2.1;let a4:=d.1;let a0:=d.2.1;let W:=d.2.2.1;let S:=d.2.2.2.2.2.2.2.2.1;let O:=d.2.2.2.2.2.2.2.2.2.1;let J:=d.2.2.2.2.2.2.2.2.2.2.1;let D:=d.2.2.2.2.2.2.2.2.2.2.2.1;let y4:=d.2.2.2.1;let l:=(⟨y4,a.2.1,a.2.2.1⟩:Cur);let f:=({ (zf l 4) with b:=y4}:Cur); (oN (zA l 4)<|cond (ilt a.1<|zn l 4) (oN (zA f 100)<|oN (few<|ln<|ap D [zn f 100])<|z (zK .i64 a.1 1,(zf f 100).i,(zf f 100).h,a.2.2.2.1,a.2.2.2.2.1,a.2.2.2.2.2.1,a.2.2.2.2.2.2.1,a.2.2.2.2.2.2.2.1,a.2.2.2.2.2.2.2.2.1,a.2.2.2.2.2.2.2.2.2.1,a.2.2.2.2.2.2.2.2.2.2.1,a.2.2.2.2.2.2.2.2.2.2.2.1,c.1,c.2.1,d6,d2,c8,c4,c0,b6,b2,a8,a4,a0,W,y4,d.2.2.2.2.1,d.2.2.2.2.2.1,d.2.2.2.2.2.2.1,d.2.2.2.2.2.2.2.1,S,O,J,ap D [zn f 100],()))<|some [.agg [.s .u8 y4,.i .i64 (zf l 4).i,.i .i64 (zf l 4).h],aT .guest (⟨S,d6,d2,O,J,⟨c8,c4,c0⟩,b6,⟨b2,a8,a4,a0⟩,W,D⟩:ah)])) (0,(zO t 12).i,(zO t 12).h,0,0,0,0,false,0,0,0,false,0,false,w,y,e.aq,e.Post,e.Open,zn A 256,(zb8 q).Kind,(zb8 q).af,(zb8 q).Write,(zb8 q).N,zcC t 12,c.b,[],[],[],[],d.aw,v,x,d.aC,()))<|oN (zck q 12)<|r0 (σ:=(Int×Int×Int×Int×Int×Int×Int×Bool×Int×Int×Int×Bool×Int×Bool×Int×Int×Int×Int×Bool×Int×Int×Int×Bool×Int×Bool×LI×lI×lS×lS×LI×lI×lS×lS×LI×Unit)) N (λz a=>let c:=a.2.2.2.2.2.2.2.2.2.2.2.2;let d:=c.2.2.2.2.2.2.2.2.2.2;let d7:=c.2.2.1;let d3:=c.2.2.2.1;let c9:=c.2.2.2.2.1;let c5:=c.2.2.2.2.2.1;let c1:=c.2.2.2.2.2.2.1;let b7:=c.2.2.2.2.2.2.2.1;let b3:=c.2.2.2.2.2.2.2.2.1;let a9:=c.2.2.2.2.2.2.2.2.2.1;let a5:=d.1;let a1:=d.2.1;let X:=d.2.2.1;let T:=d.2.2.2.2.2.2.2.2.1;let P:=d.2.2.2.2.2.2.2.2.2.1;let K:=d.2.2.2.2.2.2.2.2.2.2.1;let E:=d.2.2.2.2.2.2.2.2.2.2.2.1;let y5:=d.2.2.2.1;let m:=(⟨y5,a.2.1,a.2.2.1⟩:Cur);let g:=({ (zf m 4) with b:=y5}:Cur); (oN (zA m 4)<|cond (ilt a.1<|zn m 4) (oN (zA g 100)<|oN (few<|ln<|ap E [zn g 100])<|z (zK .i64 a.1 1,(zf g 100).i,(zf g 100).h,a.2.2.2.1,a.2.2.2.2.1,a.2.2.2.2.2.1,a.2.2.2.2.2.2.1,a.2.2.2.2.2.2.2.1,a.2.2.2.2.2.2.2.2.1,a.2.2.2.2.2.2.2.2.2.1,a.2.2.2.2.2.2.2.2.2.2.1,a.2.2.2.2.2.2.2.2.2.2.2.1,c.1,c.2.1,d7,d3,c9,c5,c1,b7,b3,a9,a5,a1,X,y5,d.2.2.2.2.1,d.2.2.2.2.2.1,d.2.2.2.2.2.2.1,d.2.2.2.2.2.2.2.1,T,P,K,ap E [zn g 100],()))<|some [.agg [.s .u8 y5,.i .i64 (zf m 4).i,.i .i64 (zf m 4).h],aT .guest (⟨T,d7,d3,P,K,⟨c9,c5,c1⟩,b7,⟨b3,a9,a5,a1⟩,X,E⟩:ah)])) (0,(zO q 12).i,(zO q 12).h,0,0,0,0,false,0,0,0,false,0,false,w,y,e.aq,e.Post,e.Open,zn A 256,d.Exit.Kind,d.Exit.af,d.Exit.Write,d.Exit.N,zcC q 12,c.b,[],[],[],[],d.aw,v,x,d.aC,()))<|oN (zck A 4)<|cond (zcC A 4) (oN (zjj r)<|oN (zck u 12)<|r0 (σ:=(Int×Int×Int×Int×Int×Int×Int×Bool×Int×Int×Int×Bool×Int×Bool×Int×Int×Int×Int×Bool×Int×Int×Int×Bool×Int×Bool×LI×lI×lS×lS×LI×lI×lS×lS×LI×Unit)) N (λz a=>let c:=a.2.2.2.2.2.2.2.2.2.2.2.2;let d:=c.2.2.2.2.2.2.2.2.2.2;let d8:=c.2.2.1;let d4:=c.2.2.2.1;let d0:=c.2.2.2.2.1;let c6:=c.2.2.2.2.2.1;let c2:=c.2.2.2.2.2.2.1;let b8:=c.2.2.2.2.2.2.2.1;let b4:=c.2.2.2.2.2.2.2.2.1;let b0:=c.2.2.2.2.2.2.2.2.2.1;let a6:=d.1;let a2:=d.2.1;let Y:=d.2.2.1;let U:=d.2.2.2.2.2.2.2.2.1;let Q:=d.2.2.2.2.2.2.2.2.2.1;let L:=d.2.2.2.2.2.2.2.2.2.2.1;let F:=d.2.2.2.2.2.2.2.2.2.2.2.1;let y6:=d.2.2.2.1;let n:=(⟨y6,a.2.1,a.2.2.1⟩:Cur);let j:=({ (zf n 4) with b:=y6}:Cur); (oN (zA n 4)<|cond (ilt a.1<|zn n 4) (oN (zA j 100)<|oN (few<|ln<|ap F [zn j 100])<|z (zK .i64 a.1 1,(zf j 100).i,(zf j 100).h,a.2.2.2.1,a.2.2.2.2.1,a.2.2.2.2.2.1,a.2.2.2.2.2.2.1,a.2.2.2.2.2.2.2.1,a.2.2.2.2.2.2.2.2.1,a.2.2.2.2.2.2.2.2.2.1,a.2.2.2.2.2.2.2.2.2.2.1,a.2.2.2.2.2.2.2.2.2.2.2.1,c.1,c.2.1,d8,d4,d0,c6,c2,b8,b4,b0,a6,a2,Y,y6,d.2.2.2.2.1,d.2.2.2.2.2.1,d.2.2.2.2.2.2.1,d.2.2.2.2.2.2.2.1,U,Q,L,ap F [zn j 100],()))<|some [.agg [.s .u8 y6,.i .i64 (zf n 4).i,.i .i64 (zf n 4).h],aT .guest (⟨U,d8,d4,Q,L,⟨d0,c6,c2⟩,b8,⟨b4,b0,a6,a2⟩,Y,F⟩:ah)])) (0,(zO u 12).i,(zO u 12).h,0,0,0,0,false,0,0,0,false,0,false,w,y,e.aq,e.Post,e.Open,d.ak,(zb8 r).Kind,(zb8 r).af,(zb8 r).Write,(zb8 r).N,zcC u 12,c.b,[],[],[],[],d.aw,v,x,d.aC,()))<|oN (zck r 12)<|r0 (σ:=(Int×Int×Int×Int×Int×Int×Int×Bool×Int×Int×Int×Bool×Int×Bool×Int×Int×Int×Int×Bool×Int×Int×Int×Bool×Int×Bool×LI×lI×lS×lS×LI×lI×lS×lS×LI×Unit)) N (λz a=>let c:=a.2.2.2.2.2.2.2.2.2.2.2.2;let d:=c.2.2.2.2.2.2.2.2.2.2;let d9:=c.2.2.1;let d5:=c.2.2.2.1;let d1:=c.2.2.2.2.1;let c7:=c.2.2.2.2.2.1;let c3:=c.2.2.2.2.2.2.1;let b9:=c.2.2.2.2.2.2.2.1;let b5:=c.2.2.2.2.2.2.2.2.1;let b1:=c.2.2.2.2.2.2.2.2.2.1;let a7:=d.1;let a3:=d.2.1;let Z:=d.2.2.1;let V:=d.2.2.2.2.2.2.2.2.1;let R:=d.2.2.2.2.2.2.2.2.2.1;let M:=d.2.2.2.2.2.2.2.2.2.2.1;let G:=d.2.2.2.2.2.2.2.2.2.2.2.1;let y7:=d.2.2.2.1;let p:=(⟨y7,a.2.1,a.2.2.1⟩:Cur);let k:=({ (zf p 4) with b:=y7}:Cur); (oN (zA p 4)<|cond (ilt a.1<|zn p 4) (oN (zA k 100)<|oN (few<|ln<|ap G [zn k 100])<|z (zK .i64 a.1 1,(zf k 100).i,(zf k 100).h,a.2.2.2.1,a.2.2.2.2.1,a.2.2.2.2.2.1,a.2.2.2.2.2.2.1,a.2.2.2.2.2.2.2.1,a.2.2.2.2.2.2.2.2.1,a.2.2.2.2.2.2.2.2.2.1,a.2.2.2.2.2.2.2.2.2.2.1,a.2.2.2.2.2.2.2.2.2.2.2.1,c.1,c.2.1,d9,d5,d1,c7,c3,b9,b5,b1,a7,a3,Z,y7,d.2.2.2.2.1,d.2.2.2.2.2.1,d.2.2.2.2.2.2.1,d.2.2.2.2.2.2.2.1,V,R,M,ap G [zn k 100],()))<|some [.agg [.s .u8 y7,.i .i64 (zf p 4).i,.i .i64 (zf p 4).h],aT .guest (⟨V,d9,d5,R,M,⟨d1,c7,c3⟩,b9,⟨b5,b1,a7,a3⟩,Z,G⟩:ah)])) (0,(zO r 12).i,(zO r 12).h,0,0,0,0,false,0,0,0,false,0,false,w,y,e.aq,e.Post,e.Open,d.ak,d.Exit.Kind,d.Exit.af,d.Exit.Write,d.Exit.N,zcC r 12,c.b,[],[],[],[],d.aw,v,x,d.aC,()))
def zOX:=zx [(338,0,{n:=50,tm:=[(0,.lp 0 0),(2,.lp 1 0),(3,.lp 2 0),(4,ti)],lo:=[(0,[.sl 0 [],ti,ti]),(1,[.sl 1 [],ti,ti,.sl 2 [],.sl 3 [],ti,ti,.b,ti,ti,ti,.b,ti,.b,.sl 4 []]),(2,[.sl 5 [],ti,ti,.sl 6 [],.sl 7 [],ti,ti,.b,ti,ti,ti,.b,ti,.b,.sl 8 []])],ro:=[(0,.u8,false),(1,.ins,true),(2,.slot,true),(3,.slot,true),(4,.int,true),(5,.ins,true),(6,.slot,true),(7,.slot,true),(8,.int,true)]})]
def znV (c:Cur)(s:Cur)(a:ah):Prop:=(∃N,ztS N c=some (AV.agg (zbV s)::[aT .guest a]))/\(s.b=c.b/\0<=s.i)/\(GuS a/\a.aC.length<=4)
def zmb (c:Cur)  : Bool:=wC (znV c)
def zjR (c:Cur)  : Cur:=wS (znV c)
def zb4 (c:Cur)  : ah:=wV (znV c)
def zDD {c:Cur}(h:zmb c=true):znV c (zjR c) (zb4 c):=wG h
def zU4 (c:Cur)  : 0<=(zjR c).i:=wP λh=>h.2.1.2
def zU3 (c:Cur)(h:∃N,Ends (wE (λa=>aT .guest a) c.b λa=>GuS a/\a.aC.length<=4)<|ztS N c):zmb c=true:=wI (λ_ _ h=>h) h
def zvZ:zdX:=rP0 λc=>(zmb c,zjR c,[aT .guest<|zb4 c])
def zH6:zbR Tryz.prog 338 [false,true,true] zvZ:=hP0 zHk zQ zUF zq zOX (λ_ h=>(zDD h).1)
def zS3 {c:Cur}(h:zbf c):zmb c=true:=by
 refine zU3 c ⟨1002,?_⟩;unfold ztS oN;conv=>zeta
 have f:=zuv h;have j:=zuu (znu f).2.2;have e:zfY (zbY c)=true:=zY (by omega);have q:∀{s:Cur},0<=s.i->zbf {s with b:=c.b}:=fun g=>zbM h g;have d:GuS ⟨zbY c,0,0,[],[],⟨0,0,false⟩,0,⟨0,0,false,0⟩,false,[]⟩:=⟨by dsimp only;omega,by simp,by simp,by simp⟩
 refine zu f (zu e (zu (zyF (q (zhN _)) (by omega) (by omega) _) (zu (zyF (q (zii _ _ _)) (by omega) (by omega) _) (zu (zbA (q (zii _ _ _)) _) (zu (zbA (q (zF _ _)) _) (zu (zYL (q (zF _ _))) (zu (zh8 (q (zzU _)) _)
  (zbz (fun _=>zu (zbA (q (zb5 _ _)) _) (zu (zh8 (q (zF _ _)) _) (zbz (fun _=>zu (zS6 (q (zb5 _ _))) (zu (zh8 (q (zxa _)) _) ?_)) (fun _=>zu (zh8 (q (zb5 _ _)) _) ?_))))
   (fun _=>zu (zh8 (q (zb5 _ _)) _) (zbz (fun _=>zu (zS6 (q (zb5 _ _))) (zu (zh8 (q (zxa _)) _) ?_)) (fun _=>zu (zh8 (q (zb5 _ _)) _) ?_)))))))))))
 .exact zD0 h (zb5 _ _) (P:=fun _=>True) (q:=4) (by omega) (by omega) (fc:=fun c=>zA c 100) (fs:=fun c=>zf c 100) (fv:=fun c=>zn c 100) (fun h=>zbA h _) (fun c=>zF c _) (fun _=>trivial) (z:=0) (l0:=(zb1 (zbY c)).aC) (qQ 0) (by omega) (by simp) ((fun _ t=>(t.1,t.2.1,t.2.2.1,0,0,0,0,false,0,0,0,false,0,false,(zn ({ (zJ ({ (zJ ({ (zbb c) with b:=c.b }:Cur) 4 8) with b:=c.b }:Cur) 4 8) with b:=c.b }:Cur) 100),(zn ({ (zf ({ (zJ ({ (zJ ({ (zbb c) with b:=c.b }:Cur) 4 8) with b:=c.b }:Cur) 4 8) with b:=c.b }:Cur) 100) with b:=c.b }:Cur) 4),(zcy ({ (zf ({ (zf ({ (zJ ({ (zJ ({ (zbb c) with b:=c.b }:Cur) 4 8) with b:=c.b }:Cur) 4 8) with b:=c.b }:Cur) 100) with b:=c.b }:Cur) 4) with b:=c.b }:Cur)).aq,(zcy ({ (zf ({ (zf ({ (zJ ({ (zJ ({ (zbb c) with b:=c.b }:Cur) 4 8) with b:=c.b }:Cur) 4 8) with b:=c.b }:Cur) 100) with b:=c.b }:Cur) 4) with b:=c.b }:Cur)).Post,(zcy ({ (zf ({ (zf ({ (zJ ({ (zJ ({ (zbb c) with b:=c.b }:Cur) 4 8) with b:=c.b }:Cur) 4 8) with b:=c.b }:Cur) 100) with b:=c.b }:Cur) 4) with b:=c.b }:Cur)).Open,(zn ({ (zO ({ (zcf ({ (zf ({ (zf ({ (zJ ({ (zJ ({ (zbb c) with b:=c.b }:Cur) 4 8) with b:=c.b }:Cur) 4 8) with b:=c.b }:Cur) 100) with b:=c.b }:Cur) 4) with b:=c.b }:Cur)) with b:=c.b }:Cur) 3) with b:=c.b }:Cur) 256),(zb8 ({ (zO ({ (zf ({ (zO ({ (zcf ({ (zf ({ (zf ({ (zJ ({ (zJ ({ (zbb c) with b:=c.b }:Cur) 4 8) with b:=c.b }:Cur) 4 8) with b:=c.b }:Cur) 100) with b:=c.b }:Cur) 4) with b:=c.b }:Cur)) with b:=c.b }:Cur) 3) with b:=c.b }:Cur) 256) with b:=c.b }:Cur) 4) with b:=c.b }:Cur)).Kind,(zb8 ({ (zO ({ (zf ({ (zO ({ (zcf ({ (zf ({ (zf ({ (zJ ({ (zJ ({ (zbb c) with b:=c.b }:Cur) 4 8) with b:=c.b }:Cur) 4 8) with b:=c.b }:Cur) 100) with b:=c.b }:Cur) 4) with b:=c.b }:Cur)) with b:=c.b }:Cur) 3) with b:=c.b }:Cur) 256) with b:=c.b }:Cur) 4) with b:=c.b }:Cur)).af,(zb8 ({ (zO ({ (zf ({ (zO ({ (zcf ({ (zf ({ (zf ({ (zJ ({ (zJ ({ (zbb c) with b:=c.b }:Cur) 4 8) with b:=c.b }:Cur) 4 8) with b:=c.b }:Cur) 100) with b:=c.b }:Cur) 4) with b:=c.b }:Cur)) with b:=c.b }:Cur) 3) with b:=c.b }:Cur) 256) with b:=c.b }:Cur) 4) with b:=c.b }:Cur)).Write,(zb8 ({ (zO ({ (zf ({ (zO ({ (zcf ({ (zf ({ (zf ({ (zJ ({ (zJ ({ (zbb c) with b:=c.b }:Cur) 4 8) with b:=c.b }:Cur) 4 8) with b:=c.b }:Cur) 100) with b:=c.b }:Cur) 4) with b:=c.b }:Cur)) with b:=c.b }:Cur) 3) with b:=c.b }:Cur) 256) with b:=c.b }:Cur) 4) with b:=c.b }:Cur)).N,(zcC ({ (zfH ({ (zO ({ (zf ({ (zO ({ (zcf ({ (zf ({ (zf ({ (zJ ({ (zJ ({ (zbb c) with b:=c.b }:Cur) 4 8) with b:=c.b }:Cur) 4 8) with b:=c.b }:Cur) 100) with b:=c.b }:Cur) 4) with b:=c.b }:Cur)) with b:=c.b }:Cur) 3) with b:=c.b }:Cur) 256) with b:=c.b }:Cur) 4) with b:=c.b }:Cur)) with b:=c.b }:Cur) 12),c.b,[],[],[],[],(zb1 (zbY c)).aw,(zdA ({ (zbb c) with b:=c.b }:Cur) 4 8),(zdA ({ (zJ ({ (zbb c) with b:=c.b }:Cur) 4 8) with b:=c.b }:Cur) 4 8),t.2.2.2,())):Nat->Int×Int×Int×LI->_)
   (fun rec t i k l=>⟨_,rfl,fun a _=>⟨⟨_,_,_⟩,_,rfl,⟨rfl,zF _ _⟩,⟨⟨d.1,zDM (q (zhN _)),zDM (q (zii _ _ _)),by unfold ln at a;dsimp only;omega⟩,by unfold ln at a;dsimp only;omega⟩⟩⟩)
 .exact zD0 h (zb5 _ _) (P:=fun _=>True) (q:=4) (by omega) (by omega) (fc:=fun c=>zA c 100) (fs:=fun c=>zf c 100) (fv:=fun c=>zn c 100) (fun h=>zbA h _) (fun c=>zF c _) (fun _=>trivial) (z:=0) (l0:=(zb1 (zbY c)).aC) (qQ 0) (by omega) (by simp) ((fun _ t=>(t.1,t.2.1,t.2.2.1,0,0,0,0,false,0,0,0,false,0,false,(zn ({ (zJ ({ (zJ ({ (zbb c) with b:=c.b }:Cur) 4 8) with b:=c.b }:Cur) 4 8) with b:=c.b }:Cur) 100),(zn ({ (zf ({ (zJ ({ (zJ ({ (zbb c) with b:=c.b }:Cur) 4 8) with b:=c.b }:Cur) 4 8) with b:=c.b }:Cur) 100) with b:=c.b }:Cur) 4),(zcy ({ (zf ({ (zf ({ (zJ ({ (zJ ({ (zbb c) with b:=c.b }:Cur) 4 8) with b:=c.b }:Cur) 4 8) with b:=c.b }:Cur) 100) with b:=c.b }:Cur) 4) with b:=c.b }:Cur)).aq,(zcy ({ (zf ({ (zf ({ (zJ ({ (zJ ({ (zbb c) with b:=c.b }:Cur) 4 8) with b:=c.b }:Cur) 4 8) with b:=c.b }:Cur) 100) with b:=c.b }:Cur) 4) with b:=c.b }:Cur)).Post,(zcy ({ (zf ({ (zf ({ (zJ ({ (zJ ({ (zbb c) with b:=c.b }:Cur) 4 8) with b:=c.b }:Cur) 4 8) with b:=c.b }:Cur) 100) with b:=c.b }:Cur) 4) with b:=c.b }:Cur)).Open,(zn ({ (zO ({ (zcf ({ (zf ({ (zf ({ (zJ ({ (zJ ({ (zbb c) with b:=c.b }:Cur) 4 8) with b:=c.b }:Cur) 4 8) with b:=c.b }:Cur) 100) with b:=c.b }:Cur) 4) with b:=c.b }:Cur)) with b:=c.b }:Cur) 3) with b:=c.b }:Cur) 256),(zb1 (zbY c)).Exit.Kind,(zb1 (zbY c)).Exit.af,(zb1 (zbY c)).Exit.Write,(zb1 (zbY c)).Exit.N,(zcC ({ (zO ({ (zf ({ (zO ({ (zcf ({ (zf ({ (zf ({ (zJ ({ (zJ ({ (zbb c) with b:=c.b }:Cur) 4 8) with b:=c.b }:Cur) 4 8) with b:=c.b }:Cur) 100) with b:=c.b }:Cur) 4) with b:=c.b }:Cur)) with b:=c.b }:Cur) 3) with b:=c.b }:Cur) 256) with b:=c.b }:Cur) 4) with b:=c.b }:Cur) 12),c.b,[],[],[],[],(zb1 (zbY c)).aw,(zdA ({ (zbb c) with b:=c.b }:Cur) 4 8),(zdA ({ (zJ ({ (zbb c) with b:=c.b }:Cur) 4 8) with b:=c.b }:Cur) 4 8),t.2.2.2,())):Nat->Int×Int×Int×LI->_)
   (fun rec t i k l=>⟨_,rfl,fun a _=>⟨⟨_,_,_⟩,_,rfl,⟨rfl,zF _ _⟩,⟨⟨d.1,zDM (q (zhN _)),zDM (q (zii _ _ _)),by unfold ln at a;dsimp only;omega⟩,by unfold ln at a;dsimp only;omega⟩⟩⟩)
 .exact zD0 h (zb5 _ _) (P:=fun _=>True) (q:=4) (by omega) (by omega) (fc:=fun c=>zA c 100) (fs:=fun c=>zf c 100) (fv:=fun c=>zn c 100) (fun h=>zbA h _) (fun c=>zF c _) (fun _=>trivial) (z:=0) (l0:=(zb1 (zbY c)).aC) (qQ 0) (by omega) (by simp) ((fun _ t=>(t.1,t.2.1,t.2.2.1,0,0,0,0,false,0,0,0,false,0,false,(zn ({ (zJ ({ (zJ ({ (zbb c) with b:=c.b }:Cur) 4 8) with b:=c.b }:Cur) 4 8) with b:=c.b }:Cur) 100),(zn ({ (zf ({ (zJ ({ (zJ ({ (zbb c) with b:=c.b }:Cur) 4 8) with b:=c.b }:Cur) 4 8) with b:=c.b }:Cur) 100) with b:=c.b }:Cur) 4),(zcy ({ (zf ({ (zf ({ (zJ ({ (zJ ({ (zbb c) with b:=c.b }:Cur) 4 8) with b:=c.b }:Cur) 4 8) with b:=c.b }:Cur) 100) with b:=c.b }:Cur) 4) with b:=c.b }:Cur)).aq,(zcy ({ (zf ({ (zf ({ (zJ ({ (zJ ({ (zbb c) with b:=c.b }:Cur) 4 8) with b:=c.b }:Cur) 4 8) with b:=c.b }:Cur) 100) with b:=c.b }:Cur) 4) with b:=c.b }:Cur)).Post,(zcy ({ (zf ({ (zf ({ (zJ ({ (zJ ({ (zbb c) with b:=c.b }:Cur) 4 8) with b:=c.b }:Cur) 4 8) with b:=c.b }:Cur) 100) with b:=c.b }:Cur) 4) with b:=c.b }:Cur)).Open,(zb1 (zbY c)).ak,(zb8 ({ (zO ({ (zO ({ (zcf ({ (zf ({ (zf ({ (zJ ({ (zJ ({ (zbb c) with b:=c.b }:Cur) 4 8) with b:=c.b }:Cur) 4 8) with b:=c.b }:Cur) 100) with b:=c.b }:Cur) 4) with b:=c.b }:Cur)) with b:=c.b }:Cur) 3) with b:=c.b }:Cur) 4) with b:=c.b }:Cur)).Kind,(zb8 ({ (zO ({ (zO ({ (zcf ({ (zf ({ (zf ({ (zJ ({ (zJ ({ (zbb c) with b:=c.b }:Cur) 4 8) with b:=c.b }:Cur) 4 8) with b:=c.b }:Cur) 100) with b:=c.b }:Cur) 4) with b:=c.b }:Cur)) with b:=c.b }:Cur) 3) with b:=c.b }:Cur) 4) with b:=c.b }:Cur)).af,(zb8 ({ (zO ({ (zO ({ (zcf ({ (zf ({ (zf ({ (zJ ({ (zJ ({ (zbb c) with b:=c.b }:Cur) 4 8) with b:=c.b }:Cur) 4 8) with b:=c.b }:Cur) 100) with b:=c.b }:Cur) 4) with b:=c.b }:Cur)) with b:=c.b }:Cur) 3) with b:=c.b }:Cur) 4) with b:=c.b }:Cur)).Write,(zb8 ({ (zO ({ (zO ({ (zcf ({ (zf ({ (zf ({ (zJ ({ (zJ ({ (zbb c) with b:=c.b }:Cur) 4 8) with b:=c.b }:Cur) 4 8) with b:=c.b }:Cur) 100) with b:=c.b }:Cur) 4) with b:=c.b }:Cur)) with b:=c.b }:Cur) 3) with b:=c.b }:Cur) 4) with b:=c.b }:Cur)).N,(zcC ({ (zfH ({ (zO ({ (zO ({ (zcf ({ (zf ({ (zf ({ (zJ ({ (zJ ({ (zbb c) with b:=c.b }:Cur) 4 8) with b:=c.b }:Cur) 4 8) with b:=c.b }:Cur) 100) with b:=c.b }:Cur) 4) with b:=c.b }:Cur)) with b:=c.b }:Cur) 3) with b:=c.b }:Cur) 4) with b:=c.b }:Cur)) with b:=c.b }:Cur) 12),c.b,[],[],[],[],(zb1 (zbY c)).aw,(zdA ({ (zbb c) with b:=c.b }:Cur) 4 8),(zdA ({ (zJ ({ (zbb c) with b:=c.b }:Cur) 4 8) with b:=c.b }:Cur) 4 8),t.2.2.2,())):Nat->Int×Int×Int×LI->_)
   (fun rec t i k l=>⟨_,rfl,fun a _=>⟨⟨_,_,_⟩,_,rfl,⟨rfl,zF _ _⟩,⟨⟨d.1,zDM (q (zhN _)),zDM (q (zii _ _ _)),by unfold ln at a;dsimp only;omega⟩,by unfold ln at a;dsimp only;omega⟩⟩⟩)
 .exact zD0 h (zb5 _ _) (P:=fun _=>True) (q:=4) (by omega) (by omega) (fc:=fun c=>zA c 100) (fs:=fun c=>zf c 100) (fv:=fun c=>zn c 100) (fun h=>zbA h _) (fun c=>zF c _) (fun _=>trivial) (z:=0) (l0:=(zb1 (zbY c)).aC) (qQ 0) (by omega) (by simp) ((fun _ t=>(t.1,t.2.1,t.2.2.1,0,0,0,0,false,0,0,0,false,0,false,(zn ({ (zJ ({ (zJ ({ (zbb c) with b:=c.b }:Cur) 4 8) with b:=c.b }:Cur) 4 8) with b:=c.b }:Cur) 100),(zn ({ (zf ({ (zJ ({ (zJ ({ (zbb c) with b:=c.b }:Cur) 4 8) with b:=c.b }:Cur) 4 8) with b:=c.b }:Cur) 100) with b:=c.b }:Cur) 4),(zcy ({ (zf ({ (zf ({ (zJ ({ (zJ ({ (zbb c) with b:=c.b }:Cur) 4 8) with b:=c.b }:Cur) 4 8) with b:=c.b }:Cur) 100) with b:=c.b }:Cur) 4) with b:=c.b }:Cur)).aq,(zcy ({ (zf ({ (zf ({ (zJ ({ (zJ ({ (zbb c) with b:=c.b }:Cur) 4 8) with b:=c.b }:Cur) 4 8) with b:=c.b }:Cur) 100) with b:=c.b }:Cur) 4) with b:=c.b }:Cur)).Post,(zcy ({ (zf ({ (zf ({ (zJ ({ (zJ ({ (zbb c) with b:=c.b }:Cur) 4 8) with b:=c.b }:Cur) 4 8) with b:=c.b }:Cur) 100) with b:=c.b }:Cur) 4) with b:=c.b }:Cur)).Open,(zb1 (zbY c)).ak,(zb1 (zbY c)).Exit.Kind,(zb1 (zbY c)).Exit.af,(zb1 (zbY c)).Exit.Write,(zb1 (zbY c)).Exit.N,(zcC ({ (zO ({ (zO ({ (zcf ({ (zf ({ (zf ({ (zJ ({ (zJ ({ (zbb c) with b:=c.b }:Cur) 4 8) with b:=c.b }:Cur) 4 8) with b:=c.b }:Cur) 100) with b:=c.b }:Cur) 4) with b:=c.b }:Cur)) with b:=c.b }:Cur) 3) with b:=c.b }:Cur) 4) with b:=c.b }:Cur) 12),c.b,[],[],[],[],(zb1 (zbY c)).aw,(zdA ({ (zbb c) with b:=c.b }:Cur) 4 8),(zdA ({ (zJ ({ (zbb c) with b:=c.b }:Cur) 4 8) with b:=c.b }:Cur) 4 8),t.2.2.2,())):Nat->Int×Int×Int×LI->_)
   (fun rec t i k l=>⟨_,rfl,fun a _=>⟨⟨_,_,_⟩,_,rfl,⟨rfl,zF _ _⟩,⟨⟨d.1,zDM (q (zhN _)),zDM (q (zii _ _ _)),by unfold ln at a;dsimp only;omega⟩,by unfold ln at a;dsimp only;omega⟩⟩⟩)
def z7I:zcY:=[(338,[false,true,true],zvZ)]++z7H
def zID:zb2 z7I:=zcq zUF (by
 intro x a;simp only[qG,qP,or_false]at a;rcases a with rfl
 .exact zH6)
def zyR (N:Nat)(c:Cur)  : OA :=
 let e:=zb4 c;let B:=({ (zjR c) with b:=c.b}:Cur);let f:=zf B 14;let j:=zn B 14;let d:=({f with b:=c.b}:Cur);let g:=zhe d 4 8;let p:=zZ d [-1,12,13,9223372036854775807]; (oN (zmb c)<|oN (zA B 14)<|cond (ieq j 0) (oN (zgx d)<|some [.agg [.s .u8 c.b,.i .i64 (zjQ d).i,.i .i64 (zjQ d).h],aT .guest ({e with aw:=(zl8 d)}:ah)])<|cond (ieq j 1) (oN (zbt d [-1,100])<|some [.agg [.s .u8 c.b,.i .i64 (zZ d [-1,100]).i,.i .i64 (zZ d [-1,100]).h],aT .guest ({e with A:=(zbn d [-1,100])}:ah)])<|cond (ieq j 2) (oN (zbt d [-1,12,13,9223372036854775807])<|some [.agg [.s .u8 c.b,.i .i64 p.i,.i .i64 p.h],aT .guest ({e with Pc:=(zbn d [-1,12,13,9223372036854775807])}:ah)])<|cond (ieq j 3) (oN (zf1 d 4 8)<|some [.agg [.s .u8 c.b,.i .i64 g.i,.i .i64 g.h],aT .guest ({e with av:=(zfk d 4 8)}:ah)])<|cond (ieq j 4) (oN (zpX d)<|some [.agg [.s .u8 c.b,.i .i64 (zpY d).i,.i .i64 (zpY d).h],aT .guest ({e with Ctl:=(zzT d)}:ah)])<|cond (ieq j 5) (oN (znv d)<|some [.agg [.s .u8 c.b,.i .i64 (znw d).i,.i .i64 (znw d).h],aT .guest ({e with ak:=(zwu d)}:ah)])<|cond (ieq j 6) (oN (zpZ d)<|some [.agg [.s .u8 c.b,.i .i64 (zp0 d).i,.i .i64 (zp0 d).h],aT .guest ({e with Exit:=(zzV d)}:ah)])<|cond (ieq j 7) (r0 (σ:=(Int×Int×Int×Int×Int×Int×Bool×Int×Int×Int×Bool×Int×Bool×Int×Int×Int×Int×Bool×Int×Int×Int×Bool×Int×Bool×LI×lI×lS×lS×LI×lI×lS×lS×LI×Unit)) N (λG a=>let y:=a.2.2.2.2.2.2.2.2.2.2.2.2.2.1;let x:=a.2.2.2.2.2.2.2.2.2.2.2.2.2.2.1;let w:=a.2.2.2.2.2.2.2.2.2.2.2.2.2.2.2.1;let v:=a.2.2.2.2.2.2.2.2.2.2.2.2.2.2.2.2.1;let u:=a.2.2.2.2.2.2.2.2.2.2.2.2.2.2.2.2.2.1;let t:=a.2.2.2.2.2.2.2.2.2.2.2.2.2.2.2.2.2.2.1;let r:=a.2.2.2.2.2.2.2.2.2.2.2.2.2.2.2.2.2.2.2.1;let q:=a.2.2.2.2.2.2.2.2.2.2.2.2.2.2.2.2.2.2.2.2.1;let n:=a.2.2.2.2.2.2.2.2.2.2.2.2.2.2.2.2.2.2.2.2.2.1;let m:=a.2.2.2.2.2.2.2.2.2.2.2.2.2.2.2.2.2.2.2.2.2.2.1;let l:=a.2.2.2.2.2.2.2.2.2.2.2.2.2.2.2.2.2.2.2.2.2.2.2.1;let F:=a.2.2.2.2.2.2.2.2.2.2.2.2.2.2.2.2.2.2.2.2.2.2.2.2.2.2.2.2.2.1;let E:=a.2.2.2.2.2.2.2.2.2.2.2.2.2.2.2.2.2.2.2.2.2.2.2.2.2.2.2.2.2.2.1;let D:=a.2.2.2.2.2.2.2.2.2.2.2.2.2.2.2.2.2.2.2.2.2.2.2.2.2.2.2.2.2.2.2.1;let C:=a.2.2.2.2.2.2.2.2.2.2.2.2.2.2.2.2.2.2.2.2.2.2.2.2.1;let z:=a.2.2.2.2.2.2.2.2.2.2.2.2.2.2.2.2.2.2.2.2.2.2.2.2.2.2.2.2.2.2.2.2.1;let k:=(⟨C,a.1,a.2.1⟩:Cur); (oN (zA k 3)<|cond (ilt (ln z)<|zK .i64 39<|zn k 3) (oN (few<|ln<|ap z [1])<|G ((zf k 3).i,(zf k 3).h,a.2.2.1,a.2.2.2.1,a.2.2.2.2.1,a.2.2.2.2.2.1,a.2.2.2.2.2.2.1,a.2.2.2.2.2.2.2.1,a.2.2.2.2.2.2.2.2.1,a.2.2.2.2.2.2.2.2.2.1,a.2.2.2.2.2.2.2.2.2.2.1,a.2.2.2.2.2.2.2.2.2.2.2.1,a.2.2.2.2.2.2.2.2.2.2.2.2.1,y,x,w,v,u,t,r,q,n,m,l,C,a.2.2.2.2.2.2.2.2.2.2.2.2.2.2.2.2.2.2.2.2.2.2.2.2.2.1,a.2.2.2.2.2.2.2.2.2.2.2.2.2.2.2.2.2.2.2.2.2.2.2.2.2.2.1,a.2.2.2.2.2.2.2.2.2.2.2.2.2.2.2.2.2.2.2.2.2.2.2.2.2.2.2.1,a.2.2.2.2.2.2.2.2.2.2.2.2.2.2.2.2.2.2.2.2.2.2.2.2.2.2.2.2.1,F,E,D,ap z [1],()))<|some [.agg [.s .u8 C,.i .i64 (zf k 3).i,.i .i64 (zf k 3).h],aT .guest (⟨F,y,x,E,D,⟨w,v,u⟩,t,⟨r,q,n,m⟩,l,z⟩:ah)])) (f.i,f.h,0,0,0,0,false,0,0,0,false,0,false,e.A,e.Pc,e.Ctl.aq,e.Ctl.Post,e.Ctl.Open,e.ak,e.Exit.Kind,e.Exit.af,e.Exit.Write,e.Exit.N,e.aF,c.b,[],[],[],[],e.aw,e.az,e.av,e.aC,()))<|cond (ieq j 8) (oN (zf1 d 4 8)<|some [.agg [.s .u8 c.b,.i .i64 g.i,.i .i64 g.h],aT .guest ({e with az:=(zfk d 4 8)}:ah)])<|some [.agg [.s .u8 c.b,.i .i64 f.i,.i .i64 f.h],aT .guest e])
def zVN:=zx [(241,1,{n:=65,tm:=[(0,.lp 0 0),(2,.lp 1 0),(3,.lp 2 0)],lo:=[(0,[.sl 0 [],ti,ti]),(1,[.sl 1 [],ti,ti,.sl 2 [],.sl 3 [],ti,ti,.b,ti,ti,ti,.b,ti,.b,.sl 4 []]),(2,[.sl 5 [],ti,ti,.sl 6 [],.sl 7 [],ti,ti,.b,ti,ti,ti,.b,ti,.b,.sl 8 []])],ro:=[(0,.u8,false),(1,.ins,true),(2,.slot,true),(3,.slot,true),(4,.int,true),(5,.ins,true),(6,.slot,true),(7,.slot,true),(8,.int,true)]})]
def zrS (c:Cur)(s:Cur)(a:ah):Prop:=(∃N,zyR N c=some (AV.agg (zbV s)::[aT .guest a]))/\(s.b=c.b/\0<=s.i)/\(GuS a)
def zp3 (c:Cur)  : Bool:=wC (zrS c)
def zp4 (c:Cur)  : Cur:=wS (zrS c)
def zzW (c:Cur)  : ah:=wV (zrS c)
def zL2 {c:Cur}(h:zp3 c=true):zrS c (zp4 c) (zzW c):=wG h
def z0a (c:Cur)  : 0<=(zp4 c).i:=wP λh=>h.2.1.2
def zZ9 (c:Cur)(h:∃N,Ends (wE (λa=>aT .guest a) c.b λa=>GuS a)<|zyR N c):zp3 c=true:=wI (λ_ _ h=>h) h
def zAM:zdX:=rP0 λc=>(zp3 c,zp4 c,[aT .guest<|zzW c])
def zND:zbR Tryz.prog 241 [false,true,true] zAM:=hP0 zHk zQ zID zq zVN (λ_ h=>(zL2 h).1)
def zJE {c:Cur}(h:zbf c):zp3 c=true:=by
 refine zZ9 c ⟨1002,?_⟩;unfold zyR oN;conv=>zeta
 have q:∀{s:Cur},0<=s.i->zbf {s with b:=c.b}:=λr=>zbM h r;have a:zbf {zf {zjR c with b:=c.b} 14 with b:=c.b}:=q (zF _ _);obtain⟨⟨d,e,f,g⟩,w⟩:=(zDD<|zS3 h).2.2;have p:(zfk {zf {zjR c with b:=c.b} 14 with b:=c.b} 4 8).length<=4:=by have:=((zpO<|zoO a (n:=4) (by omega) (by omega) 8).2.2 (by omega) (by omega)).1;unfold ln at this;omega
 have j:=(zq3<|zvj a).2.2;refine zu (zS3 h) (zu (zbA (q<|zU4 _) _) (zbz (λ_=>zu (zvj a) (zbJ (aT .guest) (v:={zb4 c with aw:=zl8 _}) (zOF _) ⟨j,e,f,g⟩))
  (λ_=>zbz (λ_=>zu (zfy a (by simp)) (zbJ (aT .guest) (v:={zb4 c with A:=zbn _ _}) (zb0 _ _) ⟨d,e,f,g⟩))
  (λ_=>zbz (λ_=>zu (zfy a (by simp)) (zbJ (aT .guest) (v:={zb4 c with Pc:=zbn _ _}) (zb0 _ _) ⟨d,e,f,g⟩))
  (λ_=>zbz (λ_=>zu (zoO a (by omega) (by omega) _) (zbJ (aT .guest) (v:={zb4 c with av:=zfk _ _ _}) (zpP _ _ _) ⟨d,e,p,g⟩))
  (λ_=>zbz (λ_=>zu (z3E a) (zbJ (aT .guest) (v:={zb4 c with Ctl:=zzT _}) (zZ3 _) ⟨d,e,f,g⟩))
  (λ_=>zbz (λ_=>zu (zbaA a) (zbJ (aT .guest) (v:={zb4 c with ak:=zwu _}) (zW6 _) ⟨d,e,f,g⟩))
  (λ_=>zbz (λ_=>zu (z0H a) (zbJ (aT .guest) (v:={zb4 c with Exit:=zzV _}) (zZ8 _) ⟨d,e,f,g⟩))
  (λ_=>zbz (λ_=>?_)
  (λ_=>zbz (λ_=>zu (zoO a (by omega) (by omega) _) (zbJ (aT .guest) (v:={zb4 c with az:=zfk _ _ _}) (zpP _ _ _) ⟨d,p,f,g⟩))
  (λ_=>zbJ (aT .guest) (v:=zb4 c) (zF _ _) ⟨d,e,f,g⟩)))))))))))
 exact zbal h (zF _ _) (m:=39) (q:=3) (x:=1) (by omega) (by omega) (by omega) (l0:=(zb4 c).aC) (by unfold ln;omega) ((λ_ t=>(t.1,t.2.1,0,0,0,0,false,0,0,0,false,0,false,(zb4 c).A,(zb4 c).Pc,(zb4 c).Ctl.aq,(zb4 c).Ctl.Post,(zb4 c).Ctl.Open,(zb4 c).ak,(zb4 c).Exit.Kind,(zb4 c).Exit.af,(zb4 c).Exit.Write,(zb4 c).Exit.N,(zb4 c).aF,c.b,[],[],[],[],(zb4 c).aw,(zb4 c).az,(zb4 c).av,t.2.2,())):Nat->Int×Int×LI->_)
  (λrec i k l=>⟨_,rfl,λu=>⟨⟨_,_,_⟩,_,rfl,⟨rfl,zF _ _⟩,⟨d,e,f,by unfold ln at u;dsimp only;omega⟩⟩⟩)
def z9n (b:List au)(e:au)(h:b.length<=1048576):(zqJ b e).length<=6:=by have c:=(zzJ e h).2;unfold zqJ;generalize ap (zcP b e.Tag e.af) [e]=l at c;cases a:igt (ln l) 6 with|false=>have:¬ ln l>6:=jY a;rw[cF];unfold ln at this;omega|true=>rw[cT,zyK (by unfold ln;omega) (by unfold ln;omega)];have:ln l>6:=qF a;simp only[dp,vO];unfold ln at *;omega
def zsv (N:Nat)(c:Cur)  : OA :=
 (r0 (σ:=(Int×Int×Int×lE×LI×Unit)) N (λl d=>let e:=d.2.2.2.2.1;let j:=(⟨e,d.2.1,d.2.2.1⟩:Cur);let a:=({ (zf j 9) with b:=e}:Cur);let g:=({ (zO a 8) with b:=e}:Cur);let f:=({ (zg4 g) with b:=e}:Cur);let k:=ap d.2.2.2.1 [zkr g,zkr f]; (oN (zA j 9)<|cond (ilt d.1<|zn j 9) (oN (zf2 a)<|oN (zl3 d.2.2.2.1<|zkr a)<|l (zK .i64 d.1 1,(zg4 a).i,(zg4 a).h,zmN d.2.2.2.1<|zkr a,e,()))<|oN (zck a 8)<|cond (zcC a 8) (oN (zf2 g)<|oN (zf2 f)<|oN (few<|ln k)<|some [.agg [.s .u8 e,.i .i64 (zg4 f).i,.i .i64 (zg4 f).h],aS .entry k])<|some [.agg [.s .u8 e,.i .i64 (zO a 8).i,.i .i64 (zO a 8).h],aS .entry d.2.2.2.1])) (0,c.i,c.h,[],c.b,()))
def zMA:=zx [(220,0,{n:=26,tm:=[(0,.lp 0 0),(3,.sl 0 []),(4,ti)],lo:=[(0,[.sl 1 [],ti,ti])],ro:=[(0,.entry,true),(1,.u8,false)]})]
def zmT (c:Cur)(s:Cur)(a:List au):Prop:=(∃N,zsv N c=some (AV.agg (zbV s)::[aS .entry a]))/\(s.b=c.b/\0<=s.i)/\(a.length<=8)
def zkT (c:Cur)  : Bool:=wC (zmT c)
def zkU (c:Cur)  : Cur:=wS (zmT c)
def zrN (c:Cur)  : List au:=wV (zmT c)
def zBm {c:Cur}(h:zkT c=true):zmT c (zkU c) (zrN c):=wG h
def zRK (c:Cur)  : 0<=(zkU c).i:=wP λh=>h.2.1.2
def zRJ (c:Cur)(h:∃N,Ends (wE (λa=>aS .entry a) c.b λa=>a.length<=8)<|zsv N c):zkT c=true:=wI (λ_ _ h=>h) h
def zuy:zdX:=rP0 λc=>(zkT c,zkU c,[aS .entry<|zrN c])
def zE2:zbR Tryz.prog 220 [false,true,true] zuy:=hP0 zHk zQ zID zq zMA (λ_ h=>(zBm h).1)
def zSG {c:Cur}(h:zbf c):zkT c=true:=by
 refine zRJ c ⟨1002,?_⟩;unfold zsv oN;conv=>zeta
 refine zlG (λn s=>∃t i k l,s=(((λ_ t=>(t.1,t.2.1,t.2.2.1,t.2.2.2,c.b,())):Nat->Int×Int×Int×List au->_) 0 (t,i,k,l))/\t+(n:Int)=10/\0<=t/\0<=i/\l.length<=6) ?_ 1002 10 _ ⟨0,c.i,c.h,[],rfl,rfl,kS 0,h.1,by simp⟩ (by omega);rintro n s rec ⟨t,i,k,l,rfl,p,g,j,r⟩ d;dsimp only;have a:zbf ⟨c.b,i,k⟩:=zbM h j;have v:=zgn a (n:=9) (by omega);have q:∀{s:Cur},0<=s.i->zbf {s with b:=c.b}:=λf=>zbM h f;refine zu (zbA a 9) (zbz (λe=>?_) λe=>?_);{have m:t<zn ⟨c.b,i,k⟩ 9:=qF e;have u:=zh1 (y:=1) g (by omega) (by omega) (by omega);exact zu (zD3<|q<|zF _ _) (zu (zY (by omega))<|d (n-1) _ (by omega) ⟨zK .i64 t 1,_,_,_,rfl,by omega,by omega,zuW _,z9n _ _ (by omega)⟩)};{refine zu (zh8 (q<|zF _ _) 8) (zbz (λ_=>zu (zD3<|q<|zb5 _ _) (zu (zD3<|q<|zuW _)<|zu (zjz ?_)<|zbJ (aS .entry) (zuW _) ?_)) λ_=>zbJ (aS .entry) (zb5 _ _) (by omega));{simp only [ln,ap,jR,qW,jZ];omega};{simp only [ap,jR,qW,jZ];omega}}
def z7J:zcY:=[(241,[false,true,true],zAM),(220,[false,true,true],zuy)]++z7I
def zUG:zb2 z7J:=zcq zID (by
 intro x a;simp only[qG,qP,or_false]at a;rcases a with rfl|rfl
 .exact zND
 .exact zE2)
def zJF (b:am)(a:GAct):am:=bif ieq a.Kind 1 then zi4 b a.G else (cond (ieq a.Kind 2) (chg b a.G (zxc a.X ⟨a.Y,a.Z⟩)<|zDF (gAt b a.G) a.X ⟨a.Y,a.Z⟩)<|cond (ieq a.Kind 3) (chg b a.G (i0 a.X 4)<|zeh (gAt b a.G) a.X)<|cond (ieq a.Kind 4) (chg b a.G (zwO (gAt b a.G) a.X)<|zyY (gAt b a.G) a.X)<|cond (ieq a.Kind 5) (chg b a.G (zDj<|gAt b a.G)<|zzK<|gAt b a.G)<|cond (ieq a.Kind 6) (chg b a.G (zib (gAt b a.G).ak a.X)<|zo4 (gAt b a.G) a.X)<|cond (ieq a.Kind 7) (chg b a.G (zmp ⟨a.X,a.Y,ieq a.Z 1⟩)<|zMP (gAt b a.G) ⟨a.X,a.Y,ieq a.Z 1⟩)<|cond (ieq a.Kind 8) (zSe b a.X a.Y a.Z)<|cond (ieq a.Kind 9) (zlo b a.X)<|cond (ieq a.Kind 10) (znY b)<|cond (ieq a.Kind 11) (zY1 b a.G a.X a.Y)<|b)
def zJG (b:am)(a:GAct):aE:=bif ieq a.Kind 1 then ⟨zmn b a.G,0⟩ else (cond (ieq a.Kind 2) ⟨zci b a.G<|zxc a.X ⟨a.Y,a.Z⟩,0⟩<|cond (ieq a.Kind 3) ⟨zci b a.G<|i0 a.X 4,0⟩<|cond (ieq a.Kind 4) ⟨zci b a.G<|zwO (gAt b a.G) a.X,0⟩<|cond (ieq a.Kind 5) ⟨zci b a.G<|zDj<|gAt b a.G,0⟩<|cond (ieq a.Kind 6) ⟨zci b a.G<|zib (gAt b a.G).ak a.X,0⟩<|cond (ieq a.Kind 7) ⟨zci b a.G<|zmp ⟨a.X,a.Y,ieq a.Z 1⟩,0⟩<|cond (ieq a.Kind 8) ⟨zx3 b a.X a.Y a.Z,0⟩<|cond (ieq a.Kind 9) ⟨zf8 b a.X,0⟩<|cond (ieq a.Kind 10) ⟨znC b,ztU b⟩<|cond (ieq a.Kind 11) ⟨zzd b a.G a.X a.Y,0⟩<|⟨zoV b a.G a.X 1,zSi b a.G a.X⟩)
def zJH (l:List am)(a:GAct):List am:=bif zk a.Kind 1 17 then (cond (zk a.Kind 13 17) l<|cond (i0 a.M<|ln l) (up l a.M<|zJF (ix l a.M zVZ) a) l) else l
def zYB (l:List am)(a:GAct):aE:=bif zk a.Kind 1 17 then (cond (zk a.Kind 13 17) ⟨false,0⟩<|cond (i0 a.M<|ln l) (zJG (ix l a.M zVZ) a)<|cond (ieq a.Kind 10) ⟨false,-1⟩ ⟨false,0⟩) else ⟨false,0⟩
def zG {i n:Int}:i0 i n=true↔0<=i/\i<n:=by unfold i0;exact decide_eq_true_iff
def zcT {x a b:Int}:zk x a b=true↔a<=x/\x<=b:=by simp[zk,ige,ile]
def zbw {x y:Int}:ieq x y=true↔x=y:=by simp[ieq]
def zEe {x y:Int}:ine x y=true↔x≠y:=by simp[ine]
def zbX {x y:Int}:ieq x y=false↔x≠y:=by simp[ieq]
def zca {a b:Bool}:(cond a b false)=true↔a=true/\b=true:=by cases a<;>simp
def zbQ {a:Type}(l:List a)(i:Int)(x:a):(up l i x).length=l.length:=by simp[up]
def zd1 {a:Type}(l:List a)(i:Int)(x:a):ln (up l i x)=ln l:=by simp[up,ln]
def zzu {a:Type}{l:List a}{i:Int}(h:i0 i (ln l)=true)(d:a):∃k:Nat,∃b:k<l.length,i=(k:Int)/\ix l i d=l[k]:=by rw[zG]at h;unfold ln at h;refine⟨i.toNat,by omega,by omega,?_⟩;simp[ix,List.getD,qB (show i.toNat<l.length by omega)]
def zm7 {a:Type}{l:List a}{k:Nat}(h:k<l.length)(d:a):ix l (k:Int) d=l[k]:=by simp[ix,List.getD,qB h]
def zmx {a:Type}{l:List a}{i:Int}(h:i0 i (ln l)=true)(d:a):ix l i d∈l:=by obtain⟨k,b,_,e⟩:=zzu h d;rw[e];exact jK b
def zDc {a:Type}{l:List a}{x:a}(h:x∈l)(d:a):∃i,i0 i (ln l)=true/\ix l i d=x:=by obtain⟨k,b,e⟩:=List.mem_iff_getElem.1 h;exact⟨(k:Int),zG.2 (by unfold ln;omega),(zm7 b d).trans e⟩
def zbg {a:Type}{l:List a}{i:Int}(h:i0 i (ln l)=true)(x d:a):ix (up l i x) i d=x:=by rw[zG]at h;unfold ln at h;simp[ix,up,List.getD,show i.toNat<l.length by omega]
def zbx {a:Type}{l:List a}{i j:Int}(b:0<=i)(c:0<=j)(h:i≠j)(x d:a):ix (up l i x) j d=ix l j d:=by have:i.toNat≠j.toNat:=(by omega);simp[ix,up,List.getD,jC,this]
def z3v {a:Type}(l:List a)(i:Int)(x y:a):up (up l i x) i y=up l i y:=by simp[up]
def zOm {a:Type}{l m:List a}(d:a)(h:l.length=m.length)(e:∀i,i0 i (ln l)=true->ix l i d=ix m i d):l=m:=by refine List.ext_getElem h λk b c=>?_;have:=e (k:Int) (zG.2 (by unfold ln;omega));rwa [zm7 b,zm7 c] at this
def zIY {a:Type}{l:List a}{i:Int}(h:i0 i (ln l)=true)(d:a):up l i (ix l i d)=l:=by obtain⟨k,b,rfl,e⟩:=zzu h d;rw[e];simp[up]
def cPg (x:Mon)(q:Int):Nat:=x.ae.countP λs=>ieq s.af q
def zfA (l:List Mon)(q:Int):Nat:=(l.map λx=>cPg x q).sum
def zPy {a:Type}(P:a->Bool){l:List a}{i:Int}(h:i0 i (ln l)=true)(x d:a):(up l i x).countP P+(if P (ix l i d) then 1 else 0)=l.countP P+(if P x then 1 else 0):=by
 obtain⟨k,b,rfl,e⟩:=zzu h d;rw[e];simp only[up,j4,List.countP_set b];have:(if P l[k]=true then 1 else 0)<=l.countP P:=by
  split
  .rename_i hp;exact List.countP_pos_iff.2 ⟨l[k],jK b,hp⟩
  .omega
 omega
def zyE {l:List Mon}{m:Int}(h:i0 m (ln l)=true)(x:Mon)(q:Int):zfA (up l m x) q+cPg (ix l m mZ) q=zfA l q+cPg x q:=by obtain⟨k,a,rfl,e⟩:=zzu h mZ;rw[e];clear h e;unfold up;simp only[j4];induction l generalizing k with|nil=>simp at a|cons y l b=>(cases k with|zero=>simp[zfA];omega|succ k=>have:=b k (by simpa using a);simp[zfA] at this ⊢;omega)
def zHc {l:List Mon}{m p:Int}(a:i0 m (ln l)=true)(b:i0 p (ln (ix l m mZ).ae)=true):1<=zfA l (ix (ix l m mZ).ae p sZ).af:=by have d:1<=cPg (ix l m mZ) (ix (ix l m mZ).ae p sZ).af:=List.countP_pos_iff.2 ⟨_,zmx b sZ,by simp[ieq]⟩;have:=zyE a (⟨[],[],[],[],[],0,0,[],0⟩:Mon) (ix (ix l m mZ).ae p sZ).af;have c:cPg (⟨[],[],[],[],[],0,0,[],0⟩:Mon) (ix (ix l m mZ).ae p sZ).af=0:=rfl;omega
def z3J {l:List Mon}{m p n k:Int}{q:Int}(b:i0 m (ln l)=true)(v:i0 p (ln (ix l m mZ).ae)=true)(u:i0 n (ln l)=true)(f:i0 k (ln (ix l n mZ).ae)=true)(z:(ix (ix l m mZ).ae p sZ).af=q)(t:(ix (ix l n mZ).ae k sZ).af=q)(h:zfA l q<=1):m=n/\p=k:=by have c:=zG.1 b;have d:=zG.1 u;have i:=zG.1 v;have g:=zG.1 f;have B:¬ ieq q (q+1)=true:=(by simp[ieq];omega);obtain⟨y,r⟩:∃y:Mon,y.ae=up (ix l m mZ).ae p ⟨q+1,0⟩:=⟨{ix l m mZ with ae:=up (ix l m mZ).ae p ⟨q+1,0⟩},rfl⟩;have x:=zPy (λs=>ieq s.af q) v (⟨q+1,0⟩:k0) sZ;simp only[z,show ieq q q=true by simp[ieq],show ieq (q+1) q=false by simp[ieq];omega,if_true,kH,if_false] at x;have C:=zyE b y q;simp only[cPg,r] at C;have D:zfA (up l m y) q=0:=(by omega);apply Classical.byContradiction;intro A;have w:1<=zfA (up l m y) q:=(by by_cases a:m=n;{subst a;have j:p≠k:=λe=>A ⟨rfl,e⟩;have:=zHc (l:=up l m y) (m:=m) (p:=k) (by rw[zd1];exact b) (by rw[zbg b,r,zd1];exact f);rw[zbg b,r,zbx i.1 g.1 j,t] at this;exact this};{have:=zHc (l:=up l m y) (m:=n) (p:=k) (by rw[zd1];exact u) (by rw[zbx c.1 d.1 a];exact f);rw[zbx c.1 d.1 a,t] at this;exact this});omega
def ztW {a b c:Bool}:(cond a b c)=true↔(a=true/\b=true)\/(a=false/\c=true):=by cases a<;>simp
def SOk (s:k0):Prop:=s=A0\/(0<=s.af/\s.af<=11/\1<=s.aj/\s.aj<=3)
def zVc {a b:k0}(c:a.af=b.af)(d:a.aj=b.aj):a=b:=by cases a;cases b;simp_all
def zqa {a b:k0}:zc8 a b=true↔a=b:=by simp only[zc8,qE,zbw];exact⟨λh=>zVc h.1 h.2,λh=>by rw[h];exact⟨rfl,rfl⟩⟩
def zsr {a b:k0}:zc8 a b=false↔a≠b:=by rw[<- Bool.not_eq_true,zqa]
def zX6 {s:k0}:zd3 s 12=true↔SOk s:=by unfold zd3 SOk;rw[ztW,zqa,zsr];have:wsub .i64 12 1=11:=(by decide);simp only[this,ztW,zcT];simp[igt];constructor;{rintro (h|⟨h,⟨a,b⟩,c⟩);{exact .inl h};{exact .inr ⟨a,b,c⟩}};{intro h;by_cases d:s=A0;{exact .inl d};{rcases h with h|⟨a,b,c⟩;{exact .inl h};{exact .inr ⟨d,⟨a,b⟩,c⟩}}}
def SOk.none {s:k0}(h:SOk s)(a:s.af = -1):s=A0:=by rcases h with h|h;{exact h};{omega}
def SOk.pos {s:k0}(h:SOk s)(a:s.af≠-1):0<=s.af/\s.af<=11/\1<=s.aj/\s.aj<=3:=by rcases h with h|h;{rw [h]at a;exact absurd rfl a};{exact h}
structure MOk (x:Mon):Prop where
 g1:1<=x.ac.length
 g2:x.ac.length<=2
 gt:x.ai.length=x.ac.length
 o8:x.ae.length=8
 sl:∀s∈x.ae,SOk s
 u8:x.Out.length=8
 d8:x.ar.length=8
 outs:x.Outs.length<=40
 pend:zdH x.ak=true
 tr:zk x.aq 0 3=true
 own:zk x.Own 0 1000000000=true
 gs:∀g∈x.ac,zd6 g=true
 fit:∀p,i0 p 8=true->zmB (ix x.ae p sZ) (ix x.Out p [])=true
def zSx {P:Nat->Bool}:∀{n i:Nat},zoN P n i=true↔∀j,i<=j->j<i+n->P j=true
 | 0,i=>by simp[zoN];intro j a b;omega
 |n+1,i=>by rw[zoN,qE,zSx];constructor;{rintro⟨a,b⟩ j c d;by_cases e:j=i;{rw [e];exact a};{exact b j (by omega) (by omega)}};{intro h;exact⟨h i (by omega) (by omega),λj a b=>h j (by omega) (by omega)⟩}
def zrY {t:List k0}{n p:Int}:zdb t n p=true↔(∀s∈t,zd3 s p=true)/\ln t=n:=by unfold zdb;rw[zca,qN,zbw]
def z8Y {x:Mon}:zeV x=true↔MOk x:=by unfold zeV;simp only[zca,zcT,zbw,zrY,zSx,qN,ile,q9];constructor;{rintro⟨⟨g,i⟩,m,⟨k,l⟩,n,q,r,e,a,b,c,d⟩;unfold ln at *;refine⟨by omega,by omega,by omega,by omega,λs f=>zX6.1 (k s f),by omega,by omega,by omega,e,zcT.2 a,zcT.2 b,c,λp t=>?_⟩;have u:=zG.1 t;have:=d p.toNat (by omega) (by omega);unfold fits at this;rwa [show ((p.toNat:Nat):Int)=p by omega] at this};{intro h;obtain⟨g,i,m,k,l,n,q,r,e,a,b,c,d⟩:=h;unfold ln;exact⟨⟨by omega,by omega⟩,by omega,⟨λs f=>zX6.2 (l s f),by omega⟩,by omega,by omega,by omega,e,zcT.1 a,zcT.1 b,c,λj g i=>d (j:Int) (zG.2 (by omega))⟩}
def zy4 (o:List k0)(s:k0)(q:Int):(s::o).countP (λs=>ieq s.af q)=o.countP (λs=>ieq s.af q)+if s.af=q then 1 else 0:=by rw[vK];simp[ieq]
def zz5:∀{o:List k0} {u:List Bool},(∀s∈o,s.af<u.length)->
 (∀c,zhu o u=some c↔(∀q,0<=q->o.countP (λs=>ieq s.af q)+(if ix u q false then 1 else 0)<=1)/\
  c=(o.foldl (λu s=>bif ilt s.af 0 then u else up u s.af true) u))
 |[],u,h,c=>by simp[zhu];exact⟨λh=>⟨λq _=>by split<;>omega,h.symm⟩,λh=>h.2.symm⟩
 |s::o,u,h,c=>by
  unfold zhu;by_cases g:s.af<0;{have b:ilt s.af 0=true:=qK g;rw[b,cond_true,zz5 λy d=>h y (qZ _ d)];simp only[uN,b,cond_true];refine and_congr (forall_congr' λq=>forall_congr' λf=>?_) Iff.rfl;have e:(if s.af=q then 1 else 0)=0:=if_neg (by omega);rw[zy4,e,j5]};{have b:ilt s.af 0=false:=qV g;have k:=h s jE;have j:i0 s.af (ln u)=true:=zG.2 ⟨by omega,by unfold ln;omega⟩;rw[b,cond_false];cases i:ix u s.af false with|true=>rw[cond_true];constructor;{intro h;cases h};{rintro⟨h,_⟩;have:=h s.af (by omega);rw[zy4,if_pos rfl,i] at this;simp at this}|false=>rw[cond_false,zz5 (λy d=>by rw[zbQ];exact h y (qZ _ d))];simp only[uN,b,cond_false];refine and_congr (forall_congr' λq=>forall_congr' λf=>?_) Iff.rfl;rw[zy4];by_cases a:s.af=q;{subst a;rw[zbg j,i];simp};{rw [zbx (by omega) f a,if_neg a,j5]}}
def zIZ:∀(o:List k0) (u:List Bool),(o.foldl (λu s=>bif ilt s.af 0 then u else up u s.af true) u).length=u.length
 |[],u=>rfl
 |s::o,u=>by rw[uN,zIZ];cases ilt s.af 0<;>simp [zbQ]
def zO2:∀(o:List k0) (u:List Bool) (q:Int),0<=q->(∀s∈o,s.af<u.length)->(ix (o.foldl (λu s=>bif ilt s.af 0 then u else up u s.af true) u) q false=true↔ix u q false=true\/1<=o.countP λs=>ieq s.af q)
 |[],u,q,b,h=>by simp
 |s::o,u,q,b,h=>by
  rw[uN,zO2 _ _ q b (λy f=>by have:=h y (qZ _ f);cases ilt s.af 0<;>simpa [zbQ] using this),zy4];by_cases c:s.af<0;{rw [show ilt s.af 0=true from qK c,cond_true,if_neg (by omega),j5]};{rw [show ilt s.af 0=false from qV c,cond_false];have e:=h s jE;have d:i0 s.af (ln u)=true:=zG.2 ⟨by omega,by unfold ln;omega⟩;by_cases a:s.af=q;{subst a;rw[zbg d];simp};{rw [zbx (by omega) b a,if_neg a,j5]}}
def zzq:∀{l:List Mon} {u:List Bool},u.length=12->(zjB l u=true↔(∀x∈l,MOk x)/\∀q,0<=q->zfA l q+(if l≠[]/\ix u q false then 1 else 0)<=1)
 |[],u,c=>by simp[zjB,zfA]
 |x::l,u,c=>by
  unfold zjB;rw[zca,z8Y];constructor;{rintro⟨f,b⟩;have k:∀s∈x.ae,s.af<u.length:=λs n=>(by rcases f.sl s n with h|h;{rw [h,c];decide};{rw [c];omega});split at b;{rename_i B d;obtain⟨g,rfl⟩:=(zz5 k B).1 d;rw[zzq (by rw[zIZ,c])]at b;obtain⟨v,w⟩:=b;refine⟨by simpa using ⟨f,v⟩,λq a=>?_⟩;have z:=g q a;have i:=w q a;have m:=zO2 x.ae u q a k;simp only[zfA,jF,uM]at i ⊢;unfold cPg at i ⊢;simp only[ne_eq,reduceCtorEq,not_false_eq_true,true_and];by_cases r:l=[];{subst r;simpa using z};{simp only [r,ne_eq,not_false_eq_true,true_and]at i;by_cases j:ix (x.ae.foldl (λu s=>bif ilt s.af 0 then u else up u s.af true) u) q false=true;{rw [if_pos j]at i;omega};{rw [if_neg j]at i;have p:¬ (ix u q false=true\/1<=x.ae.countP λs=>ieq s.af q):=λe=>j (m.2 e);rw[not_or]at p;rw[if_neg p.1];omega}}};{cases b}}
  .rintro⟨f,b⟩;have t:MOk x:=f x jE;refine⟨t,?_⟩;have k:∀s∈x.ae,s.af<u.length:=λs n=>by rcases t.sl s n with h|h;{rw [h,c];decide};{rw [c];omega}
   have d:=(zz5 k _).2 ⟨λq a=>by
    have:=b q a;simp only[zfA,jF,uM,ne_eq,reduceCtorEq,not_false_eq_true,true_and] at this;unfold cPg at this;omega,rfl⟩
   rw[d];simp only;rw[zzq (by rw[zIZ,c])];refine⟨λy A=>f y (qZ _ A),λq a=>?_⟩;have g:=b q a;have m:=zO2 x.ae u q a k;simp only[zfA,jF,uM,ne_eq,reduceCtorEq,not_false_eq_true,true_and]at g ⊢;unfold cPg at g ⊢;split;{rename_i j;rcases m.1 j.2 with h|h;{rw [if_pos h]at g;omega};{omega}};{omega}
structure HOk (h:ad):Prop where
 m12:h.ag.length=12
 pgs:∀c∈h.ag,zcs c=true
 n1:1<=h.aa.length
 n3:h.aa.length<=3
 b1:zfM h.ao=true
 b2:zfM h.an=true
 mons:∀x∈h.aa,MOk x
 uq:∀q,0<=q->zfA h.aa q<=1
def zk3 {h:ad}:zcc h=true↔HOk h:=by unfold zcc ziK;simp only[zca,zcT,zbw,qN];rw[zzq (by simp[rp])];have g:∀q,ix (rp 12 false) q false=false:=λq=>(by unfold ix rp;rw[kE,kI];split<;>rfl);simp only[g,kH,and_false,if_false,j5];unfold ln;constructor;{rintro⟨⟨e,f⟩,⟨i,j⟩,a,b,c,d⟩;exact⟨by omega,e,by omega,by omega,a,b,c,d⟩};{rintro⟨e,f,i,j,a,b,c,d⟩;exact⟨⟨f,by omega⟩,⟨by omega,by omega⟩,a,b,c,d⟩}
def HOk.mon {h:ad}(H:HOk h){m:Int}(a:i0 m (ln h.aa)=true):MOk (ix h.aa m mZ):=H.mons _ (zmx a _)
def MOk.hasO {x:Mon}(H:MOk x){p:Int}(a:i0 p 8=true):i0 p (ln x.ae)=true:=by rw[ln,H.o8];exact a
def MOk.hasU {x:Mon}(H:MOk x){p:Int}(a:i0 p 8=true):i0 p (ln x.Out)=true:=by rw[ln,H.u8];exact a
def MOk.hasD {x:Mon}(H:MOk x){p:Int}(a:i0 p 8=true):i0 p (ln x.ar)=true:=by rw[ln,H.d8];exact a
def MOk.slot {x:Mon}(H:MOk x){p:Int}(a:i0 p 8=true):SOk (ix x.ae p sZ):=H.sl _ (zmx (H.hasO a) _)
def HOk.uniq {h:ad}(H:HOk h){m p n k q:Int}(a:i0 m (ln h.aa)=true)(f:i0 p 8=true)(b:i0 n (ln h.aa)=true)(e:i0 k 8=true)(c:(ix (ix h.aa m mZ).ae p sZ).af=q)(d:(ix (ix h.aa n mZ).ae k sZ).af=q)(g:0<=q):m=n/\p=k :=
 z3J a ((H.mon a).hasO f) b ((H.mon b).hasO e) c d (H.uq q g)
def HOk.up {h:ad}(H:HOk h){m:Int}(k:i0 m (ln h.aa)=true){x:Mon}(l:MOk x){a:ad}(e:a.aa=up h.aa m x)(d:a.ag.length=12)(f:∀c∈a.ag,zcs c=true)(i:zfM a.ao=true)(j:zfM a.an=true)(n:∀q,0<=q->cPg x q<=cPg (ix h.aa m mZ) q\/zfA h.aa q=0/\cPg x q<=1):HOk a:=by refine⟨d,f,by rw[e,zbQ];exact H.n1,by rw[e,zbQ];exact H.n3,i,j,λy b=>?_,λq g=>?_⟩;{rw [e]at b;unfold E.up at b;rcases qY b with h|h;{exact H.mons y h};{rw [h];exact l}};{rw [e];have p:=zyE k x q;have r:=H.uq q g;have s:=n q g;omega}
structure KOk (k:ax) (inner outer:List k0):Prop where
 l1:k.ay.length=inner.length
 l2:k.aA.length=inner.length
 at':∀i,i0 i (ln inner)=true->ix k.aA i sZ=bif ix k.ay i false then zbC (ix inner i sZ) outer else A0
def TOk (x:Mon):Prop:=∀g,i0 g (ln x.ac)=true->KOk (ix x.ai g kZ) (ix x.ac g gZ).av x.ae
structure Rt (h:ad):Prop where
 t:∀m,i0 m (ln h.aa)=true->TOk (ix h.aa m mZ)
 e1:∀e∈h.ao,zdc h e=true
 e2:∀e∈h.an,zdc h e=true
structure Safe (h:ad):Prop where
 ok:HOk h
 rt:Rt h
def zr1 {a b:k0}:below' a b=true↔a=A0\/(a.af=b.af/\enough b.aj a.aj=true):=by unfold below';rw[ztW,zqa,zsr,zca,zbw];by_cases h:a=A0<;>simp [h]
def z3x (x:Int):wand .i64 0 x=0:=by unfold wand;have:(BitVec.ofInt 64 0 &&& BitVec.ofInt 64 x)=0#64:=(by rw[show BitVec.ofInt 64 0=0#64 from rfl,BitVec.zero_and]);show IntKind.wrap .i64 ((BitVec.ofInt 64 0 &&& BitVec.ofInt 64 x).toNat:Int)=0;rw[this];rfl
def z3I {a:k0}(h:below' a A0=true):a=A0:=by rcases zr1.1 h with h|⟨c,b⟩;{exact h};{refine zVc c ?_;unfold enough at b;rw[show A0.aj=0 from rfl,z3x]at b;simp only[zca,zbw]at b;exact b.2.2.symm}
def zgb {h:ad}{e:au}:zdc h e=true↔i0 (zdI e.Tag) (ln h.aa)=true/\i0 (zeM e.Tag) (ln (ix h.aa (zdI e.Tag) mZ).ac)=true/\
 below' ⟨e.ad,e.aj⟩ (zbC (zbG (ix (ix h.aa (zdI e.Tag) mZ).ac (zeM e.Tag) gZ).av e.af) (ix h.aa (zdI e.Tag) mZ).ae)=true:=by
 unfold zdc;rw[zca,zca]
def zQo {o:List k0}{p q:Int}{s:k0}(a:0<=p)(h:q≠p):zbG (up o p s) q=zbG o q:=by unfold zbG;rw[zd1];cases b:i0 q (ln o) with|false=>rfl|true=>rw[cond_true,cond_true,zbx a (zG.1 b).1<|Ne.symm h]
def zJR {s:k0}{o:List k0}{p:Int}{t:k0}(a:0<=p)(h:s.af≠p):zbC s (up o p t)=zbC s o:=by unfold zbC;rw[zQo a h]
def zYH {s:k0}{o:List k0}:zbC s o=A0\/(zbC s o).af=(zbG o s.af).af:=by unfold zbC;cases ieq s.af (-1)<;>cases ieq (zbG o s.af).af (-1)<;>cases ieq (zet s.aj (zbG o s.af).aj) 0<;>simp
def zlH (k:ax)(q:Int):(zbW k q).ay.length=k.ay.length/\(zbW k q).aA.length=k.aA.length:=by unfold zbW;cases zdQ k q<;>simp [zbQ]
def zAx:∀(l:LI) (k:ax),(ze5 k l).ay.length=k.ay.length/\(ze5 k l).aA.length=k.aA.length
 |[],k=>⟨rfl,rfl⟩
 |q::l,k=>by have a:=zAx l (zbW k q);have b:=zlH k q;exact⟨a.1.trans b.1,a.2.trans b.2⟩
def zwS {k:ax}{q i:Int}(d:k.ay.length=k.aA.length)(b:i0 i (ln k.ay)=true) :
 ix (zbW k q).ay i false=(cond (ieq q i) false<|ix k.ay i false)/\ix (zbW k q).aA i sZ=(cond (ieq q i) A0<|ix k.aA i sZ):=by
 have c:i0 i (ln k.aA)=true:=by unfold ln at b ⊢;rwa [<- d]
 unfold zbW zdQ
 by_cases e:q=i
 .subst e;simp only[b,c,cond_true,ieq,beq_self_eq_true];exact⟨zbg b _ _,zbg c _ _⟩
 .rw [show ieq q i=false from zbX.2 e]
  by_cases a:i0 q (ln k.ay)=true
  .have hq':i0 q (ln k.aA)=true:=by unfold ln at a ⊢;rwa [<- d]
   simp only[a,hq',cond_true,cond_false];exact⟨zbx (zG.1 a).1 (zG.1 b).1 e _ _,zbx (zG.1 a).1 (zG.1 b).1 e _ _⟩
  .rw [Bool.not_eq_true]at a;simp[a]
def zCG:∀(l:LI) {k:ax} {i:Int},k.ay.length=k.aA.length->i0 i (ln k.ay)=true->
 (i∈l->ix (ze5 k l).ay i false=false/\ix (ze5 k l).aA i sZ=A0)/\
 (i∉l->ix (ze5 k l).ay i false=ix k.ay i false/\ix (ze5 k l).aA i sZ=ix k.aA i sZ)
 |[],k,i,d,c=>⟨λh=>by simp at h,λ_=>⟨rfl,rfl⟩⟩
 |q::l,k,i,d,c=>by have b:=zlH k q;have g:=zwS (q:=q) d c;have f:=zCG l (k:=zbW k q) (i:=i) (by rw[b.1,b.2,d]) (by unfold ln at c ⊢;rwa [b.1]);show (_->ix (ze5 (zbW k q) l).ay i false=_/\ix (ze5 (zbW k q) l).aA i sZ=_)/\(_->ix (ze5 (zbW k q) l).ay i false=_/\ix (ze5 (zbW k q) l).aA i sZ=_);by_cases a:i∈l;{refine⟨λ_=>f.1 a,λh=>absurd (qZ _ a) h⟩};{rw [(f.2 a).1,(f.2 a).2,g.1,g.2];by_cases e:q=i;{subst e;simp[ieq]};{rw [zbX.2 e];simp[a,Ne.symm e]}}
def zIb {e:Type}{P:e->Bool}{d:e}:∀{l:List e} {n:Nat} {i:Int},i∈idxs P l n↔∃k:Nat,∃h:k<l.length,i=((n+k:Nat):Int)/\P l[k]=true
 |[],n,i=>by simp[idxs]
 |x::l,n,i=>by
  have g:=@zIb e P d l (n+1) i;unfold idxs;constructor
  .intro h;cases f:P x with
   |true=>rw[f,cond_true,qG]at h;rcases h with h|h;{exact⟨0,by simp,by simpa using h,f⟩};{obtain⟨k,c,b,a⟩:=g.1 h;exact⟨k+1,by simpa using c,by rw[b];congr 1;omega,by simpa using a⟩}
   |false=>rw[f,cond_false]at h;obtain⟨k,c,b,a⟩:=g.1 h;exact⟨k+1,by simpa using c,by rw[b];congr 1;omega,by simpa using a⟩
  {rintro⟨k,c,b,a⟩;cases k with|zero=>simp only[List.getElem_cons_zero]at a;rw[a,cond_true,b];exact jE|succ k=>have:=g.2 ⟨k,by simpa using c,by rw[b];congr 1;omega,by simpa using a⟩;cases P x;{exact this};{exact qZ _ this}}
def zVW {l:List k0}{p i:Int}:i∈zDS l p↔i0 i (ln l)=true/\(ix l i sZ).af=p:=by unfold zDS;rw[zIb (d:=sZ)];constructor;{rintro⟨k,a,rfl,c⟩;rw[j3,zm7 a];exact⟨zG.2 (by unfold ln;omega),zbw.1 c⟩};{rintro⟨a,b⟩;obtain⟨k,f,rfl,e⟩:=zzu a sZ;exact⟨k,f,by simp,by rw[e]at b;exact zbw.2 b⟩}
def zZn {k:ax}{a b:List k0}(h:KOk k a b){p:Int}(j:0<=p)(s:k0):KOk (zkb k a p) a (up b p s):=by have g:=zAx (zDS a p) k;refine⟨g.1.trans h.l1,g.2.trans h.l2,λi d=>?_⟩;have e:i0 i (ln k.ay)=true:=(by unfold ln at d ⊢;rwa [h.l1]);have f:=zCG (zDS a p) (by rw[h.l1,h.l2]) e;unfold zkb;by_cases c:(ix a i sZ).af=p;{have:=f.1 (zVW.2 ⟨d,c⟩);rw[this.1,this.2];rfl};{have:=f.2 (λh=>c (zVW.1 h).2);rw[this.1,this.2,h.at' i d,zJR j c]}
def zDN (b:List ah)(p:Int):∀(n:Nat) (a:List ax),(zmi b p n a).length=a.length
 | 0,a=>rfl
 |n+1,a=>by rw[zmi,zbQ,zDN b p n]
def zOJ (b:List ah)(p:Int):∀(n:Nat) (a:List ax),n<=a.length->∀i,0<=i->ix (zmi b p n a) i kZ=if i<n then zkb (ix a i kZ) (ix b i gZ).av p else ix a i kZ
 | 0,a,_,i,c=>by rw[if_neg (by omega)];rfl
 |n+1,a,d,i,c=>by rw[zmi];by_cases e:i=n;{subst e;rw[zbg (by rw[ln,zDN];exact zG.2 (by omega)),if_pos (by omega),zOJ b p n a (by omega) _ c,if_neg (by omega)]};{rw [zbx (by omega) c<|Ne.symm e,zOJ b p n a (by omega) i c];by_cases h:i<n;{rw [if_pos h,if_pos (by omega)]};{rw [if_neg h,if_neg (by omega)]}}
def zky (x:Mon)(p:Int)(s:k0):Mon:={zlg x p x.ai.length with ae:=up x.ae p s}
def z3d {x:Mon}(h:TOk x)(c:x.ai.length=x.ac.length){p:Int}(b:0<=p)(s:k0):TOk (zky x p s):=by intro g hg;have a:i0 g (ln x.ac)=true:=hg;show KOk (ix (zmi x.ac p x.ai.length x.ai) g kZ) (ix x.ac g gZ).av (up x.ae p s);rw[zOJ _ _ _ _ (qQ _) _ (zG.1 a).1,if_pos (by have:=zG.1 a;unfold ln at this;omega)];exact zZn (h g a) b s
def zs3 (h:ad)(m p:Int)(s:k0):(zcp h m p s).aa=up h.aa m (zky (ix h.aa m mZ) p s):=by unfold zcp;cases ine (ix (ix h.aa m zi).ae p zba).af (-1)<;>rfl
def zxe (h:ad)(m p:Int)(s:k0):(zcp h m p s).ag=h.ag:=by unfold zcp;cases ine (ix (ix h.aa m zi).ae p zba).af (-1)<;>rfl
def zQq (h:ad)(m p:Int)(s:k0):(zcp h m p s).ao=(cond (ieq (ix (ix h.aa m mZ).ae p sZ).af<|-1) h.ao<|flushed h.ao (ix (ix h.aa m mZ).ae p sZ).af)/\
 (zcp h m p s).an=(cond (ieq (ix (ix h.aa m mZ).ae p sZ).af<|-1) h.an<|flushed h.an (ix (ix h.aa m mZ).ae p sZ).af):=by
 unfold zcp
 by_cases e:(ix (ix h.aa m zi).ae p zba).af = -1
 .rw [show ine (ix (ix h.aa m zi).ae p zba).af (-1)=false by simp[ine,e],show ieq (ix (ix h.aa m mZ).ae p sZ).af (-1)=true from zbw.2 e]
  exact⟨rfl,rfl⟩
 .rw [show ine (ix (ix h.aa m zi).ae p zba).af (-1)=true from zEe.2 e,show ieq (ix (ix h.aa m mZ).ae p sZ).af (-1)=false from zbX.2 e]
  exact⟨rfl,rfl⟩
def zJV {h k:ad}{m p:Int}{s:k0}(n:i0 m (ln h.aa)=true)(q:i0 p (ln (ix h.aa m mZ).ae)=true){x:Mon}(u:k.aa=up h.aa m x)(t:x.ac=(ix h.aa m mZ).ac)(v:x.ae=up (ix h.aa m mZ).ae p s){e:au}(w:zdc h e=true)(c:(ix (ix h.aa m mZ).ae p sZ).af = -1\/e.ad≠(ix (ix h.aa m mZ).ae p sZ).af):zdc k e=true:=by obtain⟨f,g,b⟩:=zgb.1 w;rw[zgb,u,zd1];refine⟨f,?_⟩;by_cases l:m=zdI e.Tag;{rw [<- l]at f g b ⊢;rw[zbg n,t,v];refine⟨g,?_⟩;by_cases j:(zbG (ix (ix h.aa m mZ).ac (zeM e.Tag) gZ).av e.af).af=p;{have a:zbC (zbG (ix (ix h.aa m mZ).ac (zeM e.Tag) gZ).av e.af) (ix h.aa m mZ).ae=A0\/e.ad≠(zbC (zbG (ix (ix h.aa m mZ).ac (zeM e.Tag) gZ).av e.af) (ix h.aa m mZ).ae).af:=(by rcases zYH (s:=zbG (ix (ix h.aa m mZ).ac (zeM e.Tag) gZ).av e.af) (o:=(ix h.aa m mZ).ae) with d|d;{exact .inl d};{rw [j]at d;have r:zbG (ix h.aa m mZ).ae p=ix (ix h.aa m mZ).ae p sZ:=(by unfold zbG;rw[q];rfl);rw[r]at d;rcases c with c|c;{left;unfold zbC;rw[j,r,c,show ieq (-1) (-1)=true from rfl];cases ieq p (-1)<;>rfl};{exact .inr (by rw[d];exact c)}});have i:(⟨e.ad,e.aj⟩:k0)=A0:=(by rcases a with a|a;{rw [a]at b;exact z3I b};{rcases zr1.1 b with h|h;{exact h};{exact absurd h.1 a}});rw[i];exact zr1.2 (.inl rfl)};{rw [zJR (zG.1 q).1 j];exact b}};{rw [zbx (zG.1 n).1 (zG.1 f).1 l];exact⟨g,b⟩}
def zzL {h:ad}(H:Rt h){m p:Int}(d:i0 m (ln h.aa)=true)(q:i0 p (ln (ix h.aa m mZ).ae)=true)(u:(ix h.aa m mZ).ai.length=(ix h.aa m mZ).ac.length)(s:k0):Rt (zcp h m p s):=by have c:=zQq h m p s;have i:=zs3 h m p s;have f:∀(b:List au),(∀e∈b,zdc h e=true)->∀e∈(cond (ieq (ix (ix h.aa m mZ).ae p sZ).af<|-1) b<|flushed b (ix (ix h.aa m mZ).ae p sZ).af),zdc (zcp h m p s) e=true:=(by intro b c e a;by_cases n:(ix (ix h.aa m mZ).ae p sZ).af = -1;{rw [zbw.2 n,cond_true]at a;exact zJV d q i rfl rfl (c e a) (.inl n)};{rw [zbX.2 n,cond_false]at a;obtain⟨j,l⟩:=List.mem_filter.1 a;exact zJV d q i rfl rfl (c e j) (.inr (by simpa [ieq] using l))});refine⟨λk g=>?_,λe a=>f _ H.e1 e (by rwa [c.1]at a),λe a=>f _ H.e2 e (by rwa [c.2]at a)⟩;rw[i]at g ⊢;rw[zd1]at g;by_cases r:m=k;{subst r;rw[zbg d];exact z3d (H.t m d) u (zG.1 q).1 s};{rw [zbx (zG.1 d).1 (zG.1 g).1 r];exact H.t k g}
def zPs:∀(l a:List au),allI (alone<|a++l) l a.length=true↔(∀x∈l,∀y∈a,sameKey x y=false)/\l.Pairwise (λy x=>sameKey x y=false)
 |[],a=>by simp[allI]
 |x::l,a=>by have g:=zPs l (a++[x]);rw[j8,List.singleton_append,jR,uE] at g;rw[allI,qE,g,List.pairwise_cons];have h:alone (a++x::l) a.length x=true↔∀y∈a,sameKey x y=false:=(by unfold alone;rw[kJ rfl,qN];simp);rw[h];constructor;{rintro⟨d,e,f⟩;refine⟨λz c y b=>?_,λz c=>e z c x (by simp),f⟩;rcases qG.1 c with rfl|c;{exact d y b};{exact e z c y (by simp[b])}};{rintro⟨d,e,f⟩;refine⟨λy b=>d x (by simp) y b,λz c y b=>?_,f⟩;rcases jJ.1 b with b|b;{exact d z (by simp[c]) y b};{rw [qD.1 b];exact e z c}}
def zDX {l:List au}:zfM l=true↔l.Pairwise (λy x=>sameKey x y=false)/\l.length<=6:=by unfold zfM;have:=zPs l [];simp only[jT,jZ] at this;have a:ile (ln l) 6=true↔l.length<=6:=(by rw[ile,q9,ln];omega);rw[zca,this,a];simp
def zy3 {l:List au}(h:zfM l=true)(P:au->Bool):zfM (l.filter P)=true:=by rw[zDX]at h ⊢;exact⟨h.1.sublist List.filter_sublist,qU (uF _ _) h.2⟩
def zGd {l:List au}(h:zfM l=true)(p:Int):zfM (flushed l p)=true:=zy3 h _
def zSH {x x':Mon}{p:Int}(a:i0 p (ln x.ae)=true){s:k0}(h:x'.ae=up x.ae p s)(q:Int):cPg x' q+(if (ix x.ae p sZ).af=q then 1 else 0)=cPg x q+(if s.af=q then 1 else 0):=by have:=zPy (λs=>ieq s.af q) a s sZ;simp only[zbw] at this;unfold cPg;rw[h];exact this
def zqy {s:k0}(d:SOk s){c:LI}:zmB s c=true↔(s.af = -1->zcs c=true)/\(s.af≠-1->enough s.aj 1=true/\c=[]):=by unfold zmB;by_cases e:s=A0;{rw [zqa.2 e,cond_true,e];simp[A0]};{rw [zsr.2 e,cond_false,zca];have:s.af≠-1:=λh=>e (d.none h);have b:ile (ln c) 0=true↔c=[]:=(by rw[ile,q9,ln,<- uS];omega);rw[b];exact⟨λh=>⟨λa=>absurd a this,λ_=>h⟩,λh=>h.2 this⟩}
structure Chg (x x':Mon) (p:Int) (s:k0) (c:List Int):Prop where
 o:x'.ae=up x.ae p s
 u:x'.Out=up x.Out p c
 g:x'.ac=x.ac
 t:x'.ai.length=x.ai.length
 d:x'.ar.length=x.ar.length
 a1:x'.Outs=x.Outs
 a2:x'.ak=x.ak
 a3:x'.aq=x.aq
 a4:x'.Own=x.Own
def MOk.chg {x i:Mon}(H:MOk x){p:Int}(a:i0 p 8=true){s:k0}{c:LI}(k:Chg x i p s c)(l:SOk s)(j:zmB s c=true):MOk i:=by refine⟨by rw[k.g];exact H.g1,by rw[k.g];exact H.g2,by rw[k.t,k.g];exact H.gt,by rw[k.o,zbQ];exact H.o8,λy f=>?_,by rw[k.u,zbQ];exact H.u8,by rw[k.d];exact H.d8,by rw[k.a1];exact H.outs,by rw[k.a2];exact H.pend,by rw[k.a3];exact H.tr,by rw[k.a4];exact H.own,by rw[k.g];exact H.gs,λq b=>?_⟩;{rw [k.o]at f;rcases qY f with h|h;{exact H.sl y h};{rw [h];exact l}};{rw [k.o,k.u];by_cases e:p=q;{subst e;rw[zbg<|H.hasO a,zbg<|H.hasU a];exact j};{rw [zbx (zG.1 a).1 (zG.1 b).1 e,zbx (zG.1 a).1 (zG.1 b).1 e];exact H.fit q b}}
structure Like (h r:ad):Prop where
 len:r.aa.length=h.aa.length
 g:∀i,i0 i (ln h.aa)=true->(ix r.aa i mZ).ac=(ix h.aa i mZ).ac
 o:∀i,i0 i (ln h.aa)=true->(ix r.aa i mZ).Outs=(ix h.aa i mZ).Outs
 p:∀i,i0 i (ln h.aa)=true->(ix r.aa i mZ).ak=(ix h.aa i mZ).ak
 tr:∀i,i0 i (ln h.aa)=true->(ix r.aa i mZ).aq=(ix h.aa i mZ).aq
 ow:∀i,i0 i (ln h.aa)=true->(ix r.aa i mZ).Own=(ix h.aa i mZ).Own
 pg:∀i k,i0 i (ln h.aa)=true->i0 k 8=true->zdf r i k=zdf h i k
def Like.refl (h:ad):Like h h:=⟨rfl,λ_ _=>rfl,λ_ _=>rfl,λ_ _=>rfl,λ_ _=>rfl,λ_ _=>rfl,λ_ _ _ _=>rfl⟩
def Like.trans {a b c:ad}(x:Like a b)(y:Like b c):Like a c:=by have k:∀i,i0 i (ln a.aa)=true->i0 i (ln b.aa)=true:=λi e=>(by unfold ln at e ⊢;rwa [x.len]);exact⟨y.len.trans x.len,λi h=>(y.g i<|k i h).trans (x.g i h),λi h=>(y.o i<|k i h).trans (x.o i h),λi h=>(y.p i<|k i h).trans (x.p i h),λi h=>(y.tr i<|k i h).trans (x.tr i h),λi h=>(y.ow i<|k i h).trans (x.ow i h),λi q h d=>(y.pg i q (k i h) d).trans (x.pg i q h d)⟩
def Like.has {h r:ad}(k:Like h r){i:Int}:i0 i (ln r.aa)=i0 i (ln h.aa):=by unfold ln;rw[k.len]
def zrv {h r:ad}{m:Int}:∀(n i:Nat),(∀k:Nat,i<=k->k<i+n->zdf r m (k:Int)=zdf h m (k:Int))->zcQ r m n i=zcQ h m n i
 | 0,i,_=>rfl
 |n+1,i,h=>by rw[zcQ,zcQ,h i (by omega) (by omega),zrv n (i+1) λk a b=>h k (by omega) (by omega)]
def Like.seen {h r:ad}(k:Like h r)(m:Int):zM r m=zM h m:=by unfold zM;rw[k.has];cases a:i0 m (ln h.aa) with|false=>rfl|true=>simp only[cond_true];rw[k.g m a,k.o m a,k.p m a,zrv 8 0 λj b c=>k.pg m j a (zG.2 (by omega))]
def zoy {h:ad}{m p:Int}(a:i0 m (ln h.aa)=true)(c:i0 p 8=true)(b:i0 p (ln (ix h.aa m mZ).ae)=true) :
 zdf h m p=bif ieq (ix (ix h.aa m mZ).ae p sZ).af (-1) then zcx (ix h.aa m mZ).Out p else zcx h.ag (ix (ix h.aa m mZ).ae p sZ).af:=by
 unfold zdf;have:zbG (ix h.aa m mZ).ae p=ix (ix h.aa m mZ).ae p sZ:=by unfold zbG;rw[b];rfl
 rw[a,c,cond_true,cond_true,this]
 by_cases e:(ix (ix h.aa m mZ).ae p sZ).af = -1
 .rw [zbw.2 e,show ine (ix (ix h.aa m mZ).ae p sZ).af (-1)=false by simp[ine,e]];rfl
 .rw [zbX.2 e,show ine (ix (ix h.aa m mZ).ae p sZ).af (-1)=true from zEe.2 e];rfl
def zlS {m:List LI}{p:Int}(h:i0 p (ln m)=true):zcx m p=ix m p []:=by unfold zcx;rw[h];rfl
def zQc {m:List LI}(h:∀c∈m,zcs c=true)(p:Int):zcs (zcx m p)=true:=by unfold zcx;cases a:i0 p (ln m) with|false=>rfl|true=>exact h _ (zmx a _)
def zwz {h r:ad}(H:HOk h){m p:Int}(b:i0 m (ln h.aa)=true)(i:i0 p 8=true){x:Mon}{s:k0}{c:LI}(n:r.aa=up h.aa m x)(k:Chg (ix h.aa m mZ) x p s c)(u:SOk s)(t:zmB s c=true)(f:r.ag.length=12)(g:∀c∈r.ag,zcs c=true)(j:zfM r.ao=true)(l:zfM r.an=true)(v:0<=s.af->s.af=(ix (ix h.aa m mZ).ae p sZ).af\/zfA h.aa s.af=0):HOk r:=by refine H.up b ((H.mon b).chg i k u t) n f g j l λq z=>?_;have d:=zSH ((H.mon b).hasO i) k.o q;by_cases e:s.af=q;{have a:=v (by omega);rw[if_pos e]at d;rcases a with a|a;{rw [if_pos (by omega)]at d;left;omega};{right;rw[e] at a;refine⟨a,?_⟩;have:=zyE b x q;have y:cPg (ix h.aa m mZ) q<=zfA h.aa q:=(by have:=zyE b (⟨[],[],[],[],[],0,0,[],0⟩:Mon) q;have w:cPg (⟨[],[],[],[],[],0,0,[],0⟩:Mon) q=0:=rfl;omega);omega}};{rw [if_neg e]at d;left;split at d<;>omega}
def zvR {h r:ad}(H:HOk h){m p:Int}(a:i0 m (ln h.aa)=true)(y:i0 p 8=true){x:Mon}{s:k0}{c:LI}(n:r.aa=up h.aa m x)(k:Chg (ix h.aa m mZ) x p s c)(B:(cond (ieq s.af<|-1) c<|zcx r.ag s.af)=zdf h m p)(f:∀i q,i0 i (ln h.aa)=true->i0 q 8=true->¬ (i=m/\q=p)->(ix (ix h.aa i mZ).ae q sZ).af≠-1->zcx r.ag (ix (ix h.aa i mZ).ae q sZ).af=zcx h.ag (ix (ix h.aa i mZ).ae q sZ).af):Like h r:=by have l:=(zG.1 a).1;have t:=(zG.1 y).1;have e:∀{C:Type} (F:Mon->C),F x=F (ix h.aa m mZ)->∀i,i0 i (ln h.aa)=true->F (ix r.aa i mZ)=F (ix h.aa i mZ):=(by intro C F D i d;rw[n];by_cases e:m=i;{subst e;rw[zbg a];exact D};{rw [zbx l (zG.1 d).1 e]});refine⟨by rw[n,zbQ],e Mon.ac k.g,e Mon.Outs k.a1,e Mon.ak k.a2,e Mon.aq k.a3,e Mon.Own k.a4,λi q d b=>?_⟩;have A:i0 i (ln r.aa)=true:=(by rw[n,zd1];exact d);have w:=(H.mon d).hasO b;have z:i0 q (ln (ix r.aa i mZ).ae)=true:=(by rw[n];by_cases e:m=i;{subst e;rw[zbg a,k.o,zd1];exact w};{rw [zbx l (zG.1 d).1 e];exact w});rw[zoy A b z];by_cases e:m=i;{subst e;rw[n,zbg a,k.o,k.u];by_cases v:p=q;{subst v;rw[zbg<|(H.mon a).hasO y,<- B];cases ieq s.af (-1);{rfl};{rw [cond_true,cond_true,zlS (by rw[zd1];exact(H.mon a).hasU y),zbg<|(H.mon a).hasU y]}};{rw [zbx t (zG.1 b).1 v,zoy a b w];by_cases j:(ix (ix h.aa m mZ).ae q sZ).af = -1;{rw [zbw.2 j,cond_true,cond_true,zlS (by rw[zd1];exact(H.mon a).hasU b),zlS<|(H.mon a).hasU b,zbx t (zG.1 b).1 v]};{rw [zbX.2 j,cond_false,cond_false,f m q a b (λh=>v h.2.symm) j]}}};{rw [n,zbx l (zG.1 d).1 e,zoy d b w];by_cases j:(ix (ix h.aa i mZ).ae q sZ).af = -1;{rw [zbw.2 j,cond_true,cond_true]};{rw [zbX.2 j,cond_false,cond_false,f i q d b (λh=>e h.1.symm) j]}}
structure Op (h r:ad):Prop where
 ok:HOk r
 like:Like h r
 rt:Rt h->Rt r
def Op.refl {h:ad}(H:HOk h):Op h h:=⟨H,Like.refl h,id⟩
def Op.trans {a b c:ad}(x:Op a b)(y:Op b c):Op a c:=⟨y.ok,x.like.trans y.like,λh=>y.rt (x.rt h)⟩
def Op.safe {h r:ad}(k:Op h r)(s:Safe h):Safe r:=⟨k.ok,k.rt s.rt⟩
def zLN {h r:ad}(H:Rt h){m:Int}(l:i0 m (ln h.aa)=true){x:Mon}(u:r.aa=up h.aa m x)(q:r.ao=h.ao)(s:r.an=h.an)(y:x.ac.length=(ix h.aa m mZ).ac.length)(w:∀g,i0 g (ln (ix h.aa m mZ).ac)=true->(ix x.ac g gZ).av=(ix (ix h.aa m mZ).ac g gZ).av)(z:x.ai=(ix h.aa m mZ).ai)(v:x.ae=(ix h.aa m mZ).ae):Rt r:=by have d:=(zG.1 l).1;have hg:∀g,i0 g (ln x.ac)=i0 g (ln (ix h.aa m mZ).ac):=λg=>(by unfold ln;rw[y]);have f:∀e,zdc h e=true->zdc r e=true:=(by intro e c;obtain⟨n,i,p⟩:=zgb.1 c;rw[zgb,u,zd1];refine⟨n,?_⟩;by_cases b:m=zdI e.Tag;{rw [<- b]at n i p ⊢;rw[zbg l,hg,w _ i,v];exact⟨i,p⟩};{rw [zbx d (zG.1 n).1 b];exact⟨i,p⟩});refine⟨λk j=>?_,λe c=>f e (H.e1 e (by rwa [q]at c)),λe c=>f e (H.e2 e (by rwa [s]at c))⟩;rw[u]at j ⊢;rw[zd1]at j;by_cases b:m=k;{subst b;rw[zbg l];intro g a;rw[hg]at a;rw[z,w g a,v];exact H.t m l g a};{rw [zbx d (zG.1 j).1 b];exact H.t k j}
def zqb {h a:ad}{m p:Int}{s:k0}{x:Mon}(b:i0 m (ln h.aa)=true)(e:a.aa=up h.aa m x):(zcp a m p s).aa=up h.aa m (zky x p s):=by rw[zs3,e,zbg b,z3v]
def zCm {x a:Mon}{p:Int}{s:k0}{c:LI}(h:a.ae=x.ae)(j:a.Out=up x.Out p c)(hg:a.ac=x.ac)(i:a.ai=x.ai)(g:a.ar.length=x.ar.length)(b:a.Outs=x.Outs)(d:a.ak=x.ak)(e:a.aq=x.aq)(f:a.Own=x.Own):Chg x (zky a p s) p s c :=
 ⟨by show up a.ae p s=_;rw[h],j,hg,by show (zmi a.ac p a.ai.length a.ai).length=_;rw[zDN,i],g,b,d,e,f⟩
def zu0 {h:ad}{m p:Int}{s:k0}(a:zfM h.ao=true)(b:zfM h.an=true):zfM (zcp h m p s).ao=true/\zfM (zcp h m p s).an=true:=by have:=zQq h m p s;rw[this.1,this.2];cases ieq (ix (ix h.aa m mZ).ae p sZ).af (-1);{exact⟨zGd a _,zGd b _⟩};{exact⟨a,b⟩}
def hasM {h:ad}(H:HOk h){s:k0}(b:SOk s)(a:s.af≠-1):i0 s.af (ln h.ag)=true:=by have:=b.pos a;exact zG.2 ⟨this.1,by unfold ln;rw[H.m12];omega⟩
def zXW {h:ad}(H:HOk h){m p:Int}(b:i0 m (ln h.aa)=true)(c:i0 p 8=true)(l:(ix (ix h.aa m mZ).ae p sZ).af≠-1):Op h (zdR h m p):=by
 have X:=H.mon b;have f:(zdR h m p).aa=up h.aa m (zky {ix h.aa m mZ with Out:=up (ix h.aa m mZ).Out p (zcx h.ag (ix (ix h.aa m mZ).ae p sZ).af)} p A0):=zqb b rfl;have k:Chg (ix h.aa m mZ) (zky {ix h.aa m mZ with Out:=up (ix h.aa m mZ).Out p (zcx h.ag (ix (ix h.aa m mZ).ae p sZ).af)} p A0) p A0 (zcx h.ag (ix (ix h.aa m mZ).ae p sZ).af):=zCm rfl rfl rfl rfl rfl rfl rfl rfl rfl;have a:(zdR h m p).ag=h.ag:=zxe _ _ _ _;have g:=zu0 (h:=zfi h m p) (m:=m) (p:=p) (s:=A0) H.b1 H.b2;refine⟨zwz H b c f k (.inl rfl) ((zqy (.inl rfl)).2 ⟨λ_=>zQc H.pgs _,λh=>absurd rfl h⟩) (by rw[a];exact H.m12) (by rw[a];exact H.pgs) g.1 g.2 λh=>absurd h (by decide),
  zvR H b c f k ?_ (λi q _ _ _ _=>by rw[a]),λR=>?_⟩
 {rw [zoy b c<|X.hasO c,zbX.2 l];rfl};{have j:Rt (zfi h m p):=zLN (x:={ix h.aa m mZ with Out:=up (ix h.aa m mZ).Out p (zcx h.ag (ix (ix h.aa m mZ).ae p sZ).af)}) R b rfl rfl rfl rfl (λ_ _=>rfl) rfl rfl;have d:i0 m (ln (zfi h m p).aa)=true:=(by show i0 m (ln<|up h.aa m _)=true;rw[zd1];exact b);have e:ix (zfi h m p).aa m mZ={ix h.aa m mZ with Out:=up (ix h.aa m mZ).Out p (zcx h.ag (ix (ix h.aa m mZ).ae p sZ).af)}:=zbg b _ _;exact zzL j d (by rw[e];exact X.hasO c) (by rw[e];exact X.gt) A0}
def zGj {o:List k0}{q:Int}:zoY o q=none↔o.countP (λs=>ieq s.af q)=0:=by unfold zoY;rw[List.findIdx?_eq_none_iff,vA];simp
def zWl {o:List k0}{q:Int}{k:Nat}(h:zoY o q=some k):∃a:k<o.length,o[k].af=q:=by unfold zoY at h;rw[uX]at h;obtain⟨a,b,_⟩:=h;exact⟨a,zbw.1 b⟩
def zzD {q:Int}:∀(l:List Mon) (i:Nat),((ziL q l i).1<0↔zfA l q=0)/\(¬ (ziL q l i).1<0->∃a b:Nat,∃f:a<l.length,∃g:b<l[a].ae.length,ziL q l i=(((i+a:Nat):Int),(b:Int))/\l[a].ae[b].af=q)
 |[],i=>⟨by simp[ziL,zfA],λh=>absurd (show (-1:Int)<0 by decide) h⟩
 |x::l,i=>by have j:=zzD (q:=q) l (i+1);unfold ziL;split;{rename_i k c;obtain⟨m,n⟩:=zWl c;refine⟨⟨λh=>by simp at h;omega,λh=>?_⟩,λ_=>⟨0,k,by simp,m,by simp,n⟩⟩;exfalso;simp only[zfA,jF,uM]at h;have d:x.ae.countP (λs=>ieq s.af q)=0:=(by unfold cPg at h;omega);rw[zGj.2 d]at c;cases c};{rename_i c;have d:=zGj.1 c;refine⟨?_,λh=>?_⟩;{rw [j.1];simp only[zfA,jF,uM];unfold cPg;omega};{obtain⟨a,b,f,g,e,p⟩:=j.2 h;exact⟨a+1,b,by simpa using f,by simpa using g,by rw[e];simp;omega,by simpa using p⟩}}
def zIv {h:ad}{q:Int}(a:0<=q):(zbK h q).1<0↔zfA h.aa q=0:=by unfold zbK;rw[show ilt q 0=false from qV (by omega),cond_false];exact(zzD h.aa 0).1
def z5h {h:ad}(H:HOk h){q:Int}(j:0<=q)(c:¬ (zbK h q).1<0):i0 (zbK h q).1 (ln h.aa)=true/\i0 (zbK h q).2 8=true/\(ix (ix h.aa (zbK h q).1 mZ).ae (zbK h q).2 sZ).af=q:=by unfold zbK at c ⊢;rw[show ilt q 0=false from qV (by omega),cond_false]at c ⊢;obtain⟨a,b,d,f,e,g⟩:=(zzD h.aa 0).2 c;rw[e,j3];have i:=(H.mons _<|jK d).o8;exact⟨zG.2 (by unfold ln;simp;omega),zG.2 (by simp;omega),by rw[zm7 d,zm7 f];exact g⟩
def zTs {P:Nat->Bool}:∀{n i:Nat} {q:Int},q∈zwU P n i↔∃k:Nat,q=(k:Int)/\i<=k/\k<i+n/\P k=true
 | 0,i,q=>by simp[zwU];intro k _ _ _;omega
 |n+1,i,q=>by
  have d:=@zTs P n (i+1) q;unfold zwU;constructor
  .intro h;cases c:P i with
   |true=>rw[c,cond_true,qG]at h;rcases h with h|h;{exact⟨i,h,by omega,by omega,c⟩};{obtain⟨k,a,f,g,b⟩:=d.1 h;exact⟨k,a,by omega,by omega,b⟩}
   |false=>rw[c,cond_false]at h;obtain⟨k,a,f,g,b⟩:=d.1 h;exact⟨k,a,by omega,by omega,b⟩
  {rintro⟨k,a,f,g,b⟩;by_cases e:k=i;{subst e;rw[b,cond_true,a];exact jE};{have:=d.2 ⟨k,a,by omega,by omega,b⟩;cases P i;{exact this};{exact qZ _ this}}}
def zHv {h:ad}{q:Int}:q∈zcm h↔i0 q (ln h.ag)=true/\zfA h.aa q=0:=by unfold zcm;rw[zTs];constructor;{rintro⟨k,rfl,b,c,d⟩;exact⟨zG.2 (by unfold ln;omega),(zIv (by omega)).1 (qF d)⟩};{rintro⟨b,c⟩;have a:=zG.1 b;unfold ln at a;refine⟨q.toNat,by omega,by omega,by omega,?_⟩;rw[show ((q.toNat:Nat):Int)=q by omega];exact qK ((zIv a.1).2 c)}
def zZc {h:ad}(a:zcm h≠[]):i0 (ix (zcm h) 0 0) (ln h.ag)=true/\zfA h.aa (ix (zcm h) 0 0)=0:=by refine zHv.1 (zmx (zG.2 ⟨by omega,?_⟩) 0);unfold ln;have:=kL.2 a;omega
structure But (h r:ad) (m p:Int):Prop where
 ne:∀i k,i0 i (ln h.aa)=true->i0 k 8=true->¬ (i=m/\k=p)->ix (ix r.aa i mZ).ae k sZ=ix (ix h.aa i mZ).ae k sZ
def zHb {h r:ad}{m p:Int}(a:i0 m (ln h.aa)=true)(j:i0 p 8=true){x:Mon}{s:k0}(b:r.aa=up h.aa m x)(g:x.ae=up (ix h.aa m mZ).ae p s):But h r m p:=by refine⟨λi k d f c=>?_⟩;rw[b];by_cases e:m=i;{subst e;rw[zbg a,g,zbx (zG.1 j).1 (zG.1 f).1 λe=>c ⟨rfl,e.symm⟩]};{rw [zbx (zG.1 a).1 (zG.1 d).1 e]}
def z2X {h:ad}(H:HOk h){m p:Int}(a:i0 m (ln h.aa)=true)(c:i0 p 8=true):But h (zdR h m p) m p/\ix (ix (zdR h m p).aa m mZ).ae p sZ=A0:=by have b:(zdR h m p).aa=up h.aa m (zky {ix h.aa m mZ with Out:=up (ix h.aa m mZ).Out p (zcx h.ag (ix (ix h.aa m mZ).ae p sZ).af)} p A0):=zqb a rfl;refine⟨zHb a c b rfl,?_⟩;rw[b,zbg a];exact zbg ((H.mon a).hasO c) _ _
structure Roomy (h r:ad):Prop where
 op:Op h r
 free:zcm r≠[]
 sl:∀i k,i0 i (ln h.aa)=true->i0 k 8=true->ix (ix r.aa i mZ).ae k sZ=ix (ix h.aa i mZ).ae k sZ\/ix (ix r.aa i mZ).ae k sZ=A0
 dirt:∀i,(ix r.aa i mZ).ar=(ix h.aa i mZ).ar
def zMT {h r:ad}{m:Int}(c:i0 m (ln h.aa)=true){x:Mon}(a:r.aa=up h.aa m x)(b:x.ar=(ix h.aa m mZ).ar)(i:Int):(ix r.aa i mZ).ar=(ix h.aa i mZ).ar:=by
 rw[a];by_cases e:i.toNat=m.toNat
 {have:∀l:List Mon,ix l i mZ=ix l m mZ:=λl=>(by unfold ix;rw[e]);rw[this,this,zbg c,b]};{unfold ix up;simp[List.getD,jC,Ne.symm e]}
def roomy {h:ad}(H:HOk h):Roomy h (zdh h):=by unfold zdh;by_cases b:zcm h=[];{rw [show ieq (ln<|zcm h) 0=true by rw[b];rfl,cond_true];have p:¬ (zbK h 0).1<0:=λd=>(by have:(0:Int)∈zcm h:=zHv.2 ⟨zG.2 (by unfold ln;rw[H.m12];omega),(zIv (by omega)).1 d⟩;rw[b] at this;cases this);obtain⟨a,c,f⟩:=z5h H (by omega) p;have k:=zXW H a c (by rw[f];decide);have j:=z2X H a c;refine⟨k,λd=>?_,λi q g r=>?_,λi=>zMT (x:=zky {ix h.aa (zbK h 0).1 mZ with Out:=up (ix h.aa (zbK h 0).1 mZ).Out (zbK h 0).2 (zcx h.ag (ix (ix h.aa (zbK h 0).1 mZ).ae (zbK h 0).2 sZ).af)} (zbK h 0).2 A0) a (zqb a rfl) rfl i⟩;{have:(0:Int)∈zcm (zdR h (zbK h 0).1 (zbK h 0).2):=(by refine zHv.2 ⟨zG.2 (by unfold ln;rw[k.ok.m12];omega),?_⟩;have n:(zdR h (zbK h 0).1 (zbK h 0).2).aa=up h.aa (zbK h 0).1 (zky {ix h.aa (zbK h 0).1 mZ with Out:=up (ix h.aa (zbK h 0).1 mZ).Out (zbK h 0).2 (zcx h.ag (ix (ix h.aa (zbK h 0).1 mZ).ae (zbK h 0).2 sZ).af)} (zbK h 0).2 A0):=zqb a rfl;have l:=zyE a (zky {ix h.aa (zbK h 0).1 mZ with Out:=up (ix h.aa (zbK h 0).1 mZ).Out (zbK h 0).2 (zcx h.ag (ix (ix h.aa (zbK h 0).1 mZ).ae (zbK h 0).2 sZ).af)} (zbK h 0).2 A0) 0;rw[<- n] at l;have m:=zSH (x':=zky {ix h.aa (zbK h 0).1 mZ with Out:=up (ix h.aa (zbK h 0).1 mZ).Out (zbK h 0).2 (zcx h.ag (ix (ix h.aa (zbK h 0).1 mZ).ae (zbK h 0).2 sZ).af)} (zbK h 0).2 A0) ((H.mon a).hasO c) (s:=A0) rfl 0;rw[if_pos f,if_neg (by decide)] at m;have t:=H.uq 0 (by omega);omega);rw[d] at this;cases this};{by_cases e:i=(zbK h 0).1/\q=(zbK h 0).2;{rw [e.1,e.2];exact .inr j.2};{exact .inl (j.1.ne i q g r e)}}};{have:ieq (ln<|zcm h) 0=false:=zbX.2 (by unfold ln;have:=kL.2 b;omega);rw[this,cond_false];exact⟨Op.refl H,b,λi k g u=>.inl rfl,λ_=>rfl⟩}
def zXp {m:List LI}{p:Int}{c:LI}(b:i0 p (ln m)=true)(a:zcs c=true):zjo m p c=up m p c:=by unfold zjo;rw[b,a];rfl
def zDf {m:List LI}{p q:Int}{c:LI}(a:0<=p)(h:q≠p):zcx (up m p c) q=zcx m q:=by unfold zcx;rw[zd1];cases b:i0 q (ln m) with|false=>rfl|true=>rw[cond_true,cond_true,zbx a (zG.1 b).1<|Ne.symm h]
def zDe {m:List LI}{p:Int}{c:LI}(a:i0 p (ln m)=true):zcx (up m p c) p=c:=by rw[zlS (by rw[zd1];exact a),zbg a]
def zZJ {h:ad}(H:HOk h){m p a:Int}(d:i0 m (ln h.aa)=true)(f:i0 p 8=true)(z:(ix (ix h.aa m mZ).ae p sZ).af = -1)(u:i0 a (ln h.ag)=true)(B:zfA h.aa a=0) :
 Op h (zfr h m p a)/\But h (zfr h m p a) m p/\ix (ix (zfr h m p a).aa m mZ).ae p sZ=⟨a,3⟩/\∀i,(ix (zfr h m p a).aa i mZ).ar=(ix h.aa i mZ).ar:=by
 have X:=H.mon d;have g:=zG.1 u;unfold ln at g;rw[H.m12]at g;have l:(zfr h m p a).aa=up h.aa m (zky {ix h.aa m mZ with Out:=up (ix h.aa m mZ).Out p []} p ⟨a,3⟩):=zqb d rfl;have k:Chg (ix h.aa m mZ) (zky {ix h.aa m mZ with Out:=up (ix h.aa m mZ).Out p []} p ⟨a,3⟩) p ⟨a,3⟩ []:=zCm rfl rfl rfl rfl rfl rfl rfl rfl rfl;have j:=((zqy<|X.slot f).1 (X.fit p f)).1 z;have b:(zfr h m p a).ag=up h.ag a (ix (ix h.aa m mZ).Out p []):=by show (zcp (landing h m p a) m p ⟨a,3⟩).ag=_;rw[zxe];exact zXp u j
 have A:SOk ⟨a,3⟩:=.inr ⟨g.1,by show a<=11;omega,by show (1:Int)<=3;omega,by show (3:Int)<=3;omega⟩
 have w:=zu0 (h:=landing h m p a) (m:=m) (p:=p) (s:=⟨a,3⟩) H.b1 H.b2;refine⟨⟨zwz H d f l k A ((zqy A).2 ⟨λh=>absurd h (by show a≠-1;omega),λ_=>⟨show enough 3 1=true by decide,rfl⟩⟩) (by rw[b,zbQ];exact H.m12) (λc r=>?_) w.1 w.2 λ_=>.inr B,
  zvR H d f l k ?_ λi q y D r C=>?_,λR=>?_⟩,zHb d f l rfl,?_,λi=>zMT (x:=zky {ix h.aa m mZ with Out:=up (ix h.aa m mZ).Out p []} p ⟨a,3⟩) d l rfl i⟩
 .rw [b]at r;rcases qY r with n|n
  .exact H.pgs c n
  .rw [n];exact j
 .rw [zoy d f<|X.hasO f,zbw.2 z,cond_true,zlS<|X.hasU f];rw[show ieq (⟨a,3⟩:k0).af (-1)=false from zbX.2 (by show a≠-1;omega),cond_false,b]
  exact zDe u
 .rw [b];refine zDf g.1 (λe=>?_);have:=zHc y ((H.mon y).hasO D);rw[e] at this;omega
 .have R1:Rt (landing h m p a):=zLN (x:={ix h.aa m mZ with Out:=up (ix h.aa m mZ).Out p []}) R d rfl rfl rfl rfl (λ_ _=>rfl) rfl rfl;have t:i0 m (ln (landing h m p a).aa)=true:=by show i0 m (ln<|up h.aa m _)=true;rw[zd1];exact d
  have v:ix (landing h m p a).aa m mZ={ix h.aa m mZ with Out:=up (ix h.aa m mZ).Out p []}:=zbg d _ _;exact zzL R1 t (by rw[v];exact X.hasO f) (by rw[v];exact X.gt) _
 .rw [l,zbg d];exact zbg (X.hasO f) _ _
def zLy {h:ad}(H:HOk h){m p:Int}(f:i0 m (ln h.aa)=true)(g:i0 p 8=true)(k:(ix (ix h.aa m mZ).ae p sZ).af = -1) :
 Op h (fetched h m p)/\(∃e,0<=e/\e<=11/\ix (ix (fetched h m p).aa m mZ).ae p sZ=⟨e,3⟩)/\∀i,(ix (fetched h m p).aa i mZ).ar=(ix h.aa i mZ).ar:=by
 have R:=roomy H;have c:i0 m (ln (zdh h).aa)=true:=by rw[R.op.like.has];exact f
 have d:(ix (ix (zdh h).aa m mZ).ae p sZ).af = -1:=by rcases R.sl m p f g with b|b<;>rw [b];{exact k};{rfl}
 obtain⟨b,j⟩:=zZc R.free;obtain⟨l,r,n,q⟩:=zZJ R.op.ok c g d b j;have a:=zG.1 b;unfold ln at a;rw[R.op.ok.m12]at a;exact⟨R.op.trans l,⟨_,a.1,by omega,n⟩,λi=>(q i).trans (R.dirt i)⟩
def zoF {o:List k0}{p:Int}(h:i0 p (ln o)=true):zbG o p=ix o p sZ:=by unfold zbG;rw[h];rfl
def zlT {h:ad}(H:HOk h){m p:Int}(a:i0 m (ln h.aa)=true)(b:i0 p 8=true) :
 (cond (ieq (ix (ix h.aa m mZ).ae p sZ).af<|-1) (ix (ix h.aa m mZ).Out p [])<|zcx h.ag (ix (ix h.aa m mZ).ae p sZ).af)=zdf h m p:=by
 rw[zoy a b<|(H.mon a).hasO b,zlS<|(H.mon a).hasU b]
structure Mark (x y:Mon):Prop where
 o:y.ae=x.ae
 u:y.Out=x.Out
 g:y.ac=x.ac
 t:y.ai=x.ai
 d:y.ar.length=x.ar.length
 a1:y.Outs=x.Outs
 a2:y.ak=x.ak
 a3:y.aq=x.aq
 a4:y.Own=x.Own
def zXV {h:ad}(H:HOk h){m:Int}(b:i0 m (ln h.aa)=true){y:Mon}(k:Mark (ix h.aa m mZ) y):Op h {h with aa:=up h.aa m y}/\∀i q,ix (ix (up h.aa m y) i mZ).ae q sZ=ix (ix h.aa i mZ).ae q sZ:=by
 have X:=H.mon b;have a:i0 0 8=true:=(by decide);have c:Chg (ix h.aa m mZ) y 0 (ix (ix h.aa m mZ).ae 0 sZ) (ix (ix h.aa m mZ).Out 0 []):=⟨by rw[zIY<|X.hasO a,k.o],by rw[zIY<|X.hasU a,k.u],k.g,by rw[k.t],k.d,k.a1,k.a2,k.a3,k.a4⟩
 refine⟨⟨zwz H b a rfl c (X.slot a) (X.fit 0 a) H.m12 H.pgs H.b1 H.b2 λ_=>.inl rfl,zvR H b a rfl c (zlT H b a) λ_ _ _ _ _ _=>rfl,
  λR=>zLN R b rfl rfl rfl (by rw[k.g]) (λg _=>by rw[k.g]) k.t k.o⟩,λi q=>?_⟩
 by_cases e:i.toNat=m.toNat
 {have:∀l:List Mon,ix l i mZ=ix l m mZ:=λl=>(by unfold ix;rw[e]);rw[this,this,zbg b,k.o]};{have:ix (up h.aa m y) i mZ=ix h.aa i mZ:=(by unfold ix up;simp[List.getD,jC,Ne.symm e]);rw[this]}
def zLx {h:ad}(H:HOk h){m:Int}(a:i0 m (ln h.aa)=true)(p:Int):Op h (zbI h m p)/\∀i q,ix (ix (zbI h m p).aa i mZ).ae q sZ=ix (ix h.aa i mZ).ae q sZ :=
 zXV H a ⟨rfl,rfl,rfl,rfl,zbQ _ _ _,rfl,rfl,rfl,rfl⟩
def z2w {h:ad}(H:HOk h){m:Int}(a:i0 m (ln h.aa)=true)(p:Int):Op h (zra h m p)/\∀i q,ix (ix (zra h m p).aa i mZ).ae q sZ=ix (ix h.aa i mZ).ae q sZ :=
 zXV H a ⟨rfl,rfl,rfl,rfl,zbQ _ _ _,rfl,rfl,rfl,rfl⟩
def rights {r:Int}(a:1<=r)(b:r<=3):r=1\/r=2\/r=3:=by omega
def MOk.enough1 {x:Mon}(X:MOk x){p:Int}(a:i0 p 8=true)(d:(ix x.ae p sZ).af≠-1):(ix x.ae p sZ).aj=1\/(ix x.ae p sZ).aj=3:=by have b:=(((zqy<|X.slot a).1 (X.fit p a)).2 d).1;have c:=(X.slot a).pos d;rcases rights c.2.2.1 c.2.2.2 with e|e|e;{exact .inl e};{rw [e]at b;exact absurd b (by decide)};{exact .inr e}
def zP8 {h:ad}(H:HOk h){m p:Int}(c:i0 m (ln h.aa)=true)(b:i0 p 8=true)(g:(ix (ix h.aa m mZ).ae p sZ).af≠-1){r:Int}(n:r=1\/r=3) :
 Op h (zcp h m p ⟨(ix (ix h.aa m mZ).ae p sZ).af,r⟩)/\But h (zcp h m p ⟨(ix (ix h.aa m mZ).ae p sZ).af,r⟩) m p/\
  ix (ix (zcp h m p ⟨(ix (ix h.aa m mZ).ae p sZ).af,r⟩).aa m mZ).ae p sZ=⟨(ix (ix h.aa m mZ).ae p sZ).af,r⟩/\∀i,(ix (zcp h m p ⟨(ix (ix h.aa m mZ).ae p sZ).af,r⟩).aa i mZ).ar=(ix h.aa i mZ).ar:=by
 have X:=H.mon c;have d:=(X.slot b).pos g;have e:=zs3 h m p ⟨(ix (ix h.aa m mZ).ae p sZ).af,r⟩;have k:Chg (ix h.aa m mZ) (zky (ix h.aa m mZ) p ⟨(ix (ix h.aa m mZ).ae p sZ).af,r⟩) p ⟨(ix (ix h.aa m mZ).ae p sZ).af,r⟩ (ix (ix h.aa m mZ).Out p []):=
  zCm rfl (zIY (X.hasU b) _).symm rfl rfl rfl rfl rfl rfl rfl
 have l:SOk ⟨(ix (ix h.aa m mZ).ae p sZ).af,r⟩:=.inr ⟨d.1,d.2.1,by show 1<=r;omega,by show r<=3;omega⟩
 have f:=((zqy<|X.slot b).1 (X.fit p b)).2 g;have j:=zu0 (h:=h) (m:=m) (p:=p) (s:=⟨(ix (ix h.aa m mZ).ae p sZ).af,r⟩) H.b1 H.b2;have a:=zxe h m p ⟨(ix (ix h.aa m mZ).ae p sZ).af,r⟩;refine⟨⟨zwz H c b e k l ((zqy l).2 ⟨λh=>absurd h g,λ_=>⟨?_,f.2⟩⟩) (by rw[a];exact H.m12) (by rw[a];exact H.pgs) j.1 j.2 λ_=>.inl rfl,
  zvR H c b e k (by rw[a];exact zlT H c b) (λi q _ _ _ _=>by rw[a]),λR=>zzL R c (X.hasO b) X.gt _⟩,zHb c b e rfl,?_,λi=>zMT c e rfl i⟩
 .show enough r 1=true
  rcases n with rfl|rfl<;>decide
 .rw [e,zbg c];exact zbg (X.hasO b) _ _
structure Mended (h r:ad) (m p n:Int):Prop where
 op:Op h r
 inn:(ix (ix r.aa m mZ).ae p sZ).af≠-1
 ri:ieq (wand .i64 n 2) 0=false->(ix (ix r.aa m mZ).ae p sZ).aj=3
 dt:ieq (wand .i64 n 2) 0=false->ix (ix r.aa m mZ).ar p false=true
 d0:ieq (wand .i64 n 2) 0=true->(ix r.aa m mZ).ar=(ix h.aa m mZ).ar
 dk:∀k,i0 k 8=true->k≠p->ix (ix r.aa m mZ).ar k false=ix (ix h.aa m mZ).ar k false
 dm:∀i,i0 i (ln h.aa)=true->i≠m->(ix r.aa i mZ).ar=(ix h.aa i mZ).ar
def zUr {h:ad}(H:HOk h){m p:Int}(n:Int)(c:i0 m (ln h.aa)=true)(g:i0 p 8=true)(v:(ix (ix h.aa m mZ).ae p sZ).af≠-1):Mended h (zki h m p n) m p n:=by
 unfold zki;cases s:ieq (wand .i64 n 2) 0 with
 |true=>exact⟨Op.refl H,v,λe=>Bool.noConfusion<|s.symm.trans e,λe=>Bool.noConfusion<|s.symm.trans e,λ_=>rfl,λ_ _ _=>rfl,λ_ _ _=>rfl⟩
 |false=>rw[cond_false];obtain⟨f,C⟩:=zLx H c p;have d:i0 m (ln (zbI h m p).aa)=true:=(by rw[f.like.has];exact c);have a:(ix (ix (zbI h m p).aa m mZ).ae p sZ).af≠-1:=(by rw[C];exact v);have u:(ix (zbI h m p).aa m mZ).ar=up (ix h.aa m mZ).ar p true:=(by show (ix (up h.aa m _) m mZ).ar=_;rw[zbg c]);have l:∀i,i0 i (ln h.aa)=true->i≠m->(ix (zbI h m p).aa i mZ).ar=(ix h.aa i mZ).ar:=λi q b=>(by show (ix (up h.aa m _) i mZ).ar=_;rw[zbx (zG.1 c).1 (zG.1 q).1<|Ne.symm b]);have A:=(f.ok.mon d).enough1 g a;have t:∀r:ad,(∀i,(ix r.aa i mZ).ar=(ix (zbI h m p).aa i mZ).ar)->Op (zbI h m p) r->(ix (ix r.aa m mZ).ae p sZ).af≠-1->(ix (ix r.aa m mZ).ae p sZ).aj=3->Mended h r m p n:=(by intro r j x y z;refine⟨f.trans x,y,λ_=>z,λ_=>?_,λe=>Bool.noConfusion<|s.symm.trans e,λk B b=>?_,λi q b=>by rw[j,l i q b]⟩;{rw [j,u,zbg<|(H.mon c).hasD g]};{rw [j,u,zbx (zG.1 g).1 (zG.1 B).1<|Ne.symm b]});unfold opened;rcases A with e|e;{rw [e,show ieq (wand .i64 1 2) 0=true by decide,cond_true];obtain⟨D,F,w,E⟩:=zP8 f.ok d g a (r:=3) (.inr rfl);exact t _ E D (by rw[w];exact a) (by rw[w])};{rw [e,show ieq (wand .i64 3 2) 0=false by decide,cond_false];exact t _ (λ_=>rfl) (Op.refl f.ok) a e}
def zP7 {h:ad}(H:HOk h){m p:Int}(n:Int)(c:i0 m (ln h.aa)=true)(d:i0 p 8=true):Mended h (D0 h m p n) m p n:=by unfold D0;by_cases e:(ix (ix h.aa m mZ).ae p sZ).af = -1;{rw [zbw.2 e,cond_true];obtain⟨a,⟨q,r,s,l⟩,f⟩:=zLy H c d e;have K:=zUr a.ok n (by rw[a.like.has];exact c) d (by rw[l];show q≠-1;omega);exact⟨a.trans K.op,K.inn,K.ri,K.dt,λe=>by rw[K.d0 e,f],λk j b=>by rw[K.dk k j b,f],λi g b=>by rw[K.dm i (by rw[a.like.has];exact g) b,f]⟩};{rw [zbX.2 e,cond_false];exact zUr H n c d e}
def zo9 {h:ad}{m p:Int}:zcI h m p=true↔HOk h/\i0 m (ln h.aa)=true/\i0 p 8=true:=by unfold zcI;rw[zca,zca,zk3]
def zZK {h:ad}(H:HOk h)(m p:Int):Op h (zqG h m p):=by unfold zqG;cases a:zcI h m p with|false=>exact Op.refl H|true=>obtain⟨_,b,c⟩:=zo9.1 a;rw[cond_true];unfold zln;by_cases e:(ix (ix h.aa m mZ).ae p sZ).af = -1;{rw [zbw.2 e];exact Op.refl H};{rw [zbX.2 e];exact zXW H b c e}
def z2v {h:ad}(H:HOk h)(m p:Int):Op h (zus h m p):=by unfold zus;cases a:zcI h m p with|false=>exact Op.refl H|true=>obtain⟨_,b,c⟩:=zo9.1 a;rw[cond_true];unfold zln;by_cases e:(ix (ix h.aa m mZ).ae p sZ).af = -1;{rw [zbw.2 e];exact(zLy H b c e).1};{rw [zbX.2 e];exact Op.refl H}
def z2u {h:ad}(H:HOk h)(m p:Int):Op h (zua h m p):=by unfold zua;cases g:zcI h m p with|false=>exact Op.refl H|true=>obtain⟨_,b,c⟩:=zo9.1 g;rw[cond_true];obtain⟨a,d⟩:=z2w H b p;(cases e:zc8 (ix (ix h.aa m zi).ae p zba) A0 with|true=>exact a|false=>rw[cond_false];have i:(ix (ix h.aa m mZ).ae p sZ).af≠-1:=λf=>zsr.1 e (((H.mon b).slot c).none f);have:=zP8 a.ok (m:=m) (p:=p) (by rw[a.like.has];exact b) c (by rw[d];exact i) (r:=1) (.inl rfl);rw[d m p] at this;exact a.trans this.1)
structure KeepP (x y:Mon):Prop where
 o:y.ae=x.ae
 u:y.Out=x.Out
def zLE {h r:ad}{m:Int}(b:i0 m (ln h.aa)=true){y:Mon}(c:r.aa=up h.aa m y)(a:r.ag=h.ag)(k:KeepP (ix h.aa m mZ) y)(i q:Int):zdf r i q=zdf h i q:=by unfold zdf;rw[c,zd1,a];cases d:i0 i (ln h.aa) with|false=>rfl|true=>by_cases e:m=i;{subst e;rw[zbg b,k.o,k.u]};{rw [zbx (zG.1 b).1 (zG.1 d).1 e]}
def zuX {h r:ad}{m:Int}(b:i0 m (ln h.aa)=true){y:Mon}(c:r.aa=up h.aa m y)(a:r.ag=h.ag)(k:KeepP (ix h.aa m mZ) y)(i:Int) :
 zM r i=bif ieq i m then ⟨(zM h i).ag,y.ac,y.Outs,y.ak⟩ else zM h i:=by
 have f:zcQ r i 8 0=zcQ h i 8 0:=zrv 8 0 (λj _ _=>zLE b c a k i j);unfold zM;rw[f,c,zd1]
 by_cases e:i=m
 .subst e;rw[b,zbw.2 rfl,zbg b];rfl
 .rw [zbX.2 e,cond_false];cases d:i0 i (ln h.aa) with
  |false=>rfl
  |true=>rw[zbx (zG.1 b).1 (zG.1 d).1<|Ne.symm e]
def zlL {x y:Mon}(X:MOk x)(k:KeepP x y)(g:y.ac.length=x.ac.length)(t:y.ai.length=x.ai.length)(d:y.ar.length=x.ar.length)(o:y.Outs.length<=40)(p:zdH y.ak=true)(tr:zk y.aq 0 3=true)(b:zk y.Own 0 1000000000=true)(a:∀g∈y.ac,zd6 g=true):MOk y :=
 ⟨by rw[g];exact X.g1,by rw[g];exact X.g2,by rw[t,g];exact X.gt,by rw[k.o];exact X.o8,by rw[k.o];exact X.sl,by rw[k.u];exact X.u8,by rw[d];exact X.d8,o,p,tr,b,a,by rw[k.o,k.u];exact X.fit⟩
def zTk {h:ad}(H:HOk h){m:Int}(a:i0 m (ln h.aa)=true){y:Mon}(k:KeepP (ix h.aa m mZ) y)(b:MOk y):HOk {h with aa:=up h.aa m y} :=
 H.up a b rfl H.m12 H.pgs H.b1 H.b2 λq _=>.inl (by unfold cPg;rw[k.o];exact qQ _)
def zwv {h:ad}(S:Safe h){m:Int}(a:i0 m (ln h.aa)=true){y:Mon}(k:KeepP (ix h.aa m mZ) y)(d:MOk y)(hg:y.ac.length=(ix h.aa m mZ).ac.length)(c:∀g,i0 g (ln (ix h.aa m mZ).ac)=true->(ix y.ac g gZ).av=(ix (ix h.aa m mZ).ac g gZ).av)(b:y.ai=(ix h.aa m mZ).ai):Safe {h with aa:=up h.aa m y} :=
 ⟨zTk S.ok a k d,zLN S.rt a rfl rfl rfl hg c b k.o⟩
def zRO {h:ad}(S:Safe h)(m t:Int):Safe (zkx h m t)/\∀i,zM (zkx h m t) i=zM h i:=by
 unfold zkx;rw[zk3.2 S.ok,cond_true];cases a:i0 m (ln h.aa) with
 |false=>exact⟨S,λ_=>rfl⟩
 |true=>
  cases b:zk t 0 3 with
  |false=>exact⟨S,λ_=>rfl⟩
  |true=>have X:=S.ok.mon a;have k:KeepP (ix h.aa m mZ) {ix h.aa m mZ with aq:=t}:=⟨rfl,rfl⟩;refine⟨zwv S a k (zlL X k rfl rfl rfl X.outs X.pend b X.own X.gs) rfl (λ_ _=>rfl) rfl,λi=>?_⟩;rw[cond_true,cond_true];refine(zuX (h:=h) (r:={h with aa:=up h.aa m {ix h.aa m mZ with aq:=t}}) a rfl rfl k i).trans ?_;by_cases e:i=m;{subst e;rw[zbw.2 rfl,cond_true];unfold zM;rw[a];rfl};{rw [zbX.2 e];rfl}
def zGm:∀(n i:Nat) (k:ax),(zjA n i k).ay.length=k.ay.length/\(zjA n i k).aA.length=k.aA.length
 | 0,i,k=>⟨rfl,rfl⟩
 |n+1,i,k=>by have a:=zGm n (i+1) (zbW k (i:Int));have b:=zlH k (i:Int);exact⟨a.1.trans b.1,a.2.trans b.2⟩
def zJ1:∀(n i:Nat) (k:ax),k.ay.length=k.aA.length->∀j,i0 j (ln k.ay)=true->
 ((i:Int)<=j/\j<((i+n:Nat):Int)->ix (zjA n i k).ay j false=false/\ix (zjA n i k).aA j sZ=A0)/\
 (¬ ((i:Int)<=j/\j<((i+n:Nat):Int))->ix (zjA n i k).ay j false=ix k.ay j false/\ix (zjA n i k).aA j sZ=ix k.aA j sZ)
 | 0,i,k,_,j,_=>⟨λh=>by omega,λ_=>⟨rfl,rfl⟩⟩
 |n+1,i,k,g,j,f=>by have b:=zlH k (i:Int);have d:=zwS (q:=(i:Int)) g f;have c:=zJ1 n (i+1) (zbW k (i:Int)) (by rw[b.1,b.2,g]) j (by unfold ln at f ⊢;rwa [b.1]);rw[zjA];by_cases a:((i+1:Nat):Int)<=j/\j<((i+1+n:Nat):Int);{exact⟨λ_=>c.1 a,λh=>absurd (by omega) h⟩};{rw [(c.2 a).1,(c.2 a).2,d.1,d.2];by_cases e:(i:Int)=j;{rw [zbw.2 e];exact⟨λ_=>⟨rfl,rfl⟩,λh=>absurd (by omega) h⟩};{rw [zbX.2 e];exact⟨λh=>absurd (by omega) a,λ_=>⟨rfl,rfl⟩⟩}}
def zQS {k:ax}{a b:List k0}(h:KOk k a b):KOk (zka k) a b:=by have e:=zGm k.ay.length 0 k;refine⟨e.1.trans h.l1,e.2.trans h.l2,λi f=>?_⟩;have c:i0 i (ln k.ay)=true:=(by unfold ln at f ⊢;rwa [h.l1]);have d:=zG.1 c;unfold ln at d;have:=(zJ1 k.ay.length 0 k (by rw[h.l1,h.l2]) i c).1 ⟨by omega,by omega⟩;unfold zka;rw[this.1,this.2];rfl
def zJQ:∀(n j:Nat) (l:List ax),(zvn n j l).length=l.length
 | 0,_,_=>rfl
 |n+1,j,l=>by rw[zvn,zJQ n,zbQ]
def zSL:∀(n j:Nat) (l:List ax),j+n<=l.length->∀g,0<=g->ix (zvn n j l) g kZ=if (j:Int)<=g/\g<((j+n:Nat):Int) then zka (ix l g kZ) else ix l g kZ
 | 0,j,l,_,g,hg=>by rw[if_neg (by omega)];rfl
 |n+1,j,l,a,g,hg=>by rw[zvn,zSL n (j+1) _ (by rw[zbQ];omega) g hg];by_cases e:(j:Int)=g;{subst e;rw[if_neg (by omega),if_pos (by omega),zbg<|zG.2 ⟨by omega,by unfold ln;omega⟩]};{rw [zbx (by omega) hg e];by_cases h:((j+1:Nat):Int)<=g/\g<((j+1+n:Nat):Int);{rw [if_pos h,if_pos (by omega)]};{rw [if_neg h,if_neg (by omega)]}}
def zJP:∀(n i:Nat) (l:List Mon),(zoS n i l).length=l.length
 | 0,_,_=>rfl
 |n+1,i,l=>by rw[zoS,zJP n,zbQ]
def zPx:∀(n i:Nat) (l:List Mon),i+n<=l.length->∀m,0<=m->ix (zoS n i l) m mZ=if (i:Int)<=m/\m<((i+n:Nat):Int) then zvo (ix l m mZ) (ix l m mZ).ai.length 0 else ix l m mZ
 | 0,i,l,_,m,a=>by rw[if_neg (by omega)];rfl
 |n+1,i,l,b,m,a=>by rw[zoS,zPx n (i+1) _ (by rw[zbQ];omega) m a];by_cases e:(i:Int)=m;{subst e;rw[if_neg (by omega),if_pos (by omega),zbg<|zG.2 ⟨by omega,by unfold ln;omega⟩]};{rw [zbx (by omega) a e];by_cases h:((i+1:Nat):Int)<=m/\m<((i+1+n:Nat):Int);{rw [if_pos h,if_pos (by omega)]};{rw [if_neg h,if_neg (by omega)]}}
def z3O (h:ad){m:Int}(a:i0 m (ln h.aa)=true):ix (cold h).aa m mZ=zvo (ix h.aa m mZ) (ix h.aa m mZ).ai.length 0:=by have:=zG.1 a;unfold ln at this;show ix (zoS h.aa.length 0 h.aa) m mZ=_;rw[zPx _ _ _ (by omega) m this.1,if_pos (by omega)]
def zxA (h:ad):(cold h).aa.length=h.aa.length:=zJP _ _ _
def zHe (h:ad)(m:Int):i0 m (ln (cold h).aa)=i0 m (ln h.aa):=by unfold ln;rw[zxA]
def z8a {l a:List Mon}(d:a.length=l.length)(h:∀m,i0 m (ln l)=true->(ix a m mZ).ae=(ix l m mZ).ae)(q:Int):zfA a q=zfA l q:=by have:a.map (λx=>cPg x q)=l.map (λx=>cPg x q):=(by refine List.ext_getElem (by simp[d]) λk b c=>?_;simp only[uO]at b c;have:=h (k:Int) (zG.2 ⟨by omega,by unfold ln;omega⟩);rw[zm7 b,zm7 c] at this;simp[cPg,this]);unfold zfA;rw[this]
def z9j {h:ad}(H:HOk h):Op h (cold h):=by have c:∀m,i0 m (ln h.aa)=true->ix (cold h).aa m mZ=zvo (ix h.aa m mZ) (ix h.aa m mZ).ai.length 0:=λm a=>z3O h a;have n:∀i q,zdf (cold h) i q=zdf h i q:=(by intro i q;unfold zdf;rw[zHe];cases b:i0 i (ln h.aa) with|false=>rfl|true=>rw[c i b];rfl);refine⟨⟨H.m12,H.pgs,by rw[zxA];exact H.n1,by rw[zxA];exact H.n3,rfl,rfl,λy s=>?_,λq r=>?_⟩,⟨zxA h,λi b=>by rw[c i b];rfl,λi b=>by rw[c i b];rfl,λi b=>by rw[c i b];rfl,λi b=>by rw[c i b];rfl,λi b=>by rw[c i b];rfl,λi k _ _=>n i k⟩,λR=>⟨λm a=>?_,λe j=>(by cases j),λe j=>(by cases j)⟩⟩;{obtain⟨m,a,rfl⟩:=zDc s mZ;rw[zHe]at a;rw[c m a];have X:=H.mon a;have k:KeepP (ix h.aa m mZ) (zvo (ix h.aa m mZ) (ix h.aa m mZ).ai.length 0):=⟨rfl,rfl⟩;exact zlL X k rfl (zJQ _ _ _) rfl X.outs X.pend X.tr X.own X.gs};{rw [z8a (l:=h.aa) (zxA h) (λm a=>by rw[c m a];rfl)];exact H.uq q r};{rw [zHe]at a;rw[c m a];have X:=H.mon a;intro g hg;show KOk (ix (zvn (ix h.aa m mZ).ai.length 0 (ix h.aa m mZ).ai) g kZ) (ix (ix h.aa m mZ).ac g gZ).av (ix h.aa m mZ).ae;have d:i0 g (ln (ix h.aa m mZ).ac)=true:=hg;have f:=zG.1 d;unfold ln at f;have p:=X.gt;rw[zSL _ _ _ (by omega) g f.1,if_pos (by omega)];exact zQS (R.t m a g d)}
def zVq {m g:Int}(c:zk m 0 2=true)(hg:zk g 0 1=true):zdI (zfl m g)=m/\zeM (zfl m g)=g/\1<=zfl m g/\zfl m g<=6:=by have d:=zcT.1 c;have e:=zcT.1 hg;have a:m=0\/m=1\/m=2:=(by omega);have b:g=0\/g=1:=(by omega);rcases a with rfl|rfl|rfl<;>rcases b with rfl|rfl<;>decide
def HOk.tag {h:ad}(H:HOk h){m g:Int}(a:i0 m (ln h.aa)=true)(hg:i0 g (ln (ix h.aa m mZ).ac)=true):zk m 0 2=true/\zk g 0 1=true:=by have b:=zG.1 a;have c:=zG.1 hg;have d:=H.n3;have e:=(H.mon a).g2;unfold ln at b c;exact⟨zcT.2 (by omega),zcT.2 (by omega)⟩
def zgZ {r:Int}:zdD r=true↔r=0\/r=1\/r=2\/r=3:=by unfold zdD ige ile;rw[qE,q9,q9];omega
def zr4 {a b:Int}(h:enough a b=true):zdD a=true/\zdD b=true:=by unfold enough at h;rw[zca,zca]at h;exact⟨h.1,h.2.1⟩
def zS4 {a b c:Int}(d:enough a b=true)(e:enough b c=true):enough a c=true:=by have f:=zgZ.1 (zr4 d).1;have g:=zgZ.1 (zr4 d).2;have h:=zgZ.1 (zr4 e).2;rcases f with rfl|rfl|rfl|rfl<;>rcases g with rfl|rfl|rfl|rfl<;>rcases h with rfl|rfl|rfl|rfl<;>revert d e<;>decide
def zWa {a b n:Int}(g:n=1\/n=2)(c:enough a n=true)(d:enough b n=true):zet a b≠0/\enough (zet a b) n=true:=by have e:=zgZ.1 (zr4 c).1;have f:=zgZ.1 (zr4 d).1;rcases g with rfl|rfl<;>rcases e with rfl|rfl|rfl|rfl<;>rcases f with rfl|rfl|rfl|rfl<;>revert c d<;>decide
def both_ok (a b:Int):zdD (zet a b)=true:=by
 unfold zet;cases c:zdD a with
 |false=>rfl
 |true=>
  cases d:zdD b with
  |false=>rfl
  |true=>have c:=zgZ.1 c;have d:=zgZ.1 d;rcases c with rfl|rfl|rfl|rfl<;>rcases d with rfl|rfl|rfl|rfl<;>decide
def zWj {a:Int}(h:zdD a=true):enough a a=true:=by rcases zgZ.1 h with rfl|rfl|rfl|rfl<;>decide
def zrm {n:Int}(a:n=1\/n=2):enough 0 n=false:=by rcases a with rfl|rfl<;>decide
def zYI {s:k0}{o:List k0}(a:s.af≠-1)(b:(zbG o s.af).af≠-1):zbC s o=bif ieq (zet s.aj (zbG o s.af).aj) 0 then A0 else ⟨(zbG o s.af).af,zet s.aj (zbG o s.af).aj⟩:=by unfold zbC;rw[zbX.2 a,zbX.2 b];rfl
def zqu {s:k0}{o:List k0}{n:Int}(c:n=1\/n=2)(h:enough (zbC s o).aj n=true):s.af≠-1/\(zbG o s.af).af≠-1/\(zbC s o).af=(zbG o s.af).af:=by unfold zbC at h ⊢;by_cases a:s.af = -1;{rw [zbw.2 a,cond_true]at h;rw[show A0.aj=0 from rfl,zrm c]at h;cases h};{rw [zbX.2 a,cond_false]at h ⊢;by_cases b:(zbG o s.af).af = -1;{rw [zbw.2 b,cond_true]at h;rw[show A0.aj=0 from rfl,zrm c]at h;cases h};{rw [zbX.2 b,cond_false]at h ⊢;by_cases d:zet s.aj (zbG o s.af).aj=0;{rw [zbw.2 d,cond_true]at h;rw[show A0.aj=0 from rfl,zrm c]at h;cases h};{rw [zbX.2 d];exact⟨a,b,rfl⟩}}}
def zSM {s:k0}{o:List k0}{n:Int}(e:n=1\/n=2)(a:s.af≠-1)(b:(zbG o s.af).af≠-1)(c:enough s.aj n=true)(d:enough (zbG o s.af).aj n=true) :
 (zbC s o).af=(zbG o s.af).af/\enough (zbC s o).aj n=true:=by
 have:=zWa e c d;rw[zYI a b,zbX.2 this.1];exact⟨rfl,this.2⟩
def zYJ (s:k0)(o:List k0):zdD (zbC s o).aj=true:=by unfold zbC;cases ieq s.af (-1)<;>cases ieq (zbG o s.af).af (-1)<;>cases ieq (zet s.aj (zbG o s.af).aj) 0<;>first|rfl|exact both_ok _ _
def zzf {b:List au}{t p:Int}{e:au}:e∈zcP b t p↔e∈b/\¬ (e.Tag=t/\e.af=p):=by unfold zcP;rw[List.mem_filter];refine and_congr Iff.rfl ?_;unfold zDd;by_cases h:e.Tag=t;{rw [show ine e.Tag t=false by simp[ine,h],cond_false,zEe];simp[h]};{rw [zEe.2 h];simp[h]}
def z5p {b:List au}{e x:au}(h:x∈zqJ b e):x∈b\/x=e:=by unfold zqJ ap at h;have:x∈zcP b e.Tag e.af++[e]:=(by cases a:igt (ln<|zcP b e.Tag e.af++[e]) 6 with|true=>rw[a,cond_true]at h;exact kP h|false=>rw[a,cond_false]at h;exact h);rcases jJ.1 this with h|h;{exact .inl (zzf.1 h).1};{exact .inr (qD.1 h)}
def zbbj {n:Nat}(h:n<=100):wsub .i64 (n:Int) 6=(n:Int)-6:=by unfold wsub IntKind.wrap;simp[IntKind.signed,IntKind.bits];omega
def zXx {b:List au}(h:zfM b=true)(e:au):zfM (zqJ b e)=true:=by have c:=zDX.1 h;have k:(zcP b e.Tag e.af).length<=6:=qU (uF _ _) c.2;have d:(zcP b e.Tag e.af++[e]).Pairwise (λy x=>sameKey x y=false):=(by rw[List.pairwise_append];refine⟨c.1.sublist List.filter_sublist,List.pairwise_singleton _ _,λx i y j=>?_⟩;rw[qD.1 j];have:=(zzf.1 i).2;unfold sameKey;by_cases a:e.Tag=x.Tag;{rw [zbw.2 a,cond_true,zbX];exact λf=>this ⟨a.symm,f.symm⟩};{rw [zbX.2 a];rfl});unfold zqJ ap;cases g:igt (ln<|zcP b e.Tag e.af++[e]) 6 with|true=>rw[cond_true,zDX];refine⟨d.sublist<|List.drop_sublist _ _,?_⟩;unfold dp ln;rw[jR,uE,zbbj (by omega),vO,jR,uE];omega|false=>rw[cond_false,zDX];refine⟨d,?_⟩;have:=jY g;unfold ln at this;omega
def z2e {h r:ad}{m:Int}(c:i0 m (ln h.aa)=true){y:Mon}(b:r.aa=up h.aa m y)(a:r.ag=h.ag)(k:KeepP (ix h.aa m mZ) y)(g:y.ac=(ix h.aa m mZ).ac)(o:y.Outs=(ix h.aa m mZ).Outs)(p:y.ak=(ix h.aa m mZ).ak)(t:y.aq=(ix h.aa m mZ).aq)(w:y.Own=(ix h.aa m mZ).Own):Like h r:=by have e:∀{d:Type} (F:Mon->d),F y=F (ix h.aa m mZ)->∀i,i0 i (ln h.aa)=true->F (ix r.aa i mZ)=F (ix h.aa i mZ):=(by intro d F f i j;rw[b];by_cases e:m=i;{subst e;rw[zbg c];exact f};{rw [zbx (zG.1 c).1 (zG.1 j).1 e]});exact⟨by rw[b,zbQ],e Mon.ac g,e Mon.Outs o,e Mon.ak p,e Mon.aq t,e Mon.Own w,λi q _ _=>zLE c b a k i q⟩
def z5s {h:ad}(R:Rt h){m g:Int}(d:i0 m (ln h.aa)=true)(r:i0 g (ln (ix h.aa m mZ).ai)=true){k:ax}(u:KOk k (ix (ix h.aa m mZ).ac g gZ).av (ix h.aa m mZ).ae) :
 Rt {h with aa:=up h.aa m {ix h.aa m mZ with ai:=up (ix h.aa m mZ).ai g k}}:=by
 have f:∀e,zdc h e=true->zdc {h with aa:=up h.aa m {ix h.aa m mZ with ai:=up (ix h.aa m mZ).ai g k}} e=true:=by intro e b;obtain⟨l,n,p⟩:=zgb.1 b;rw[zgb];show i0 (zdI e.Tag) (ln<|up h.aa m _)=true/\i0 (zeM e.Tag) (ln (ix (up h.aa m _) (zdI e.Tag) mZ).ac)=true/\below' _ (zbC (zbG (ix (ix (up h.aa m _) (zdI e.Tag) mZ).ac (zeM e.Tag) gZ).av e.af) (ix (up h.aa m _) (zdI e.Tag) mZ).ae)=true;rw[zd1];refine⟨l,?_⟩;by_cases a:m=zdI e.Tag;{rw [<- a]at l n p ⊢;rw[zbg d];exact⟨n,p⟩};{rw [zbx (zG.1 d).1 (zG.1 l).1 a];exact⟨n,p⟩}
 refine⟨λi s=>?_,λe b=>f e (R.e1 e b),λe b=>f e (R.e2 e b)⟩
 show TOk (ix (up h.aa m _) i mZ)
 have c:i0 i (ln h.aa)=true:=by have:i0 i (ln<|up h.aa m {ix h.aa m mZ with ai:=up (ix h.aa m mZ).ai g k})=true:=s;rwa [zd1] at this
 by_cases a:m=i
 .subst a;rw[zbg d];intro j q
  by_cases e:g=j
  .subst e
   show KOk (ix (up _ g k) g kZ) _ _
   rw[zbg r];exact u
  .show KOk (ix (up _ g k) j kZ) _ _
   rw[zbx (zG.1 r).1 (zG.1 q).1 e];exact R.t m d j q
 .rw [zbx (zG.1 d).1 (zG.1 c).1 a];exact R.t i c
def z5e {h:ad}(H:HOk h){m g:Int}(a:i0 m (ln h.aa)=true)(c:i0 g (ln (ix h.aa m mZ).ai)=true){k:ax}(b:Rt h->KOk k (ix (ix h.aa m mZ).ac g gZ).av (ix h.aa m mZ).ae) :
 Op h {h with aa:=up h.aa m {ix h.aa m mZ with ai:=up (ix h.aa m mZ).ai g k}}:=by
 have X:=H.mon a;have kp:KeepP (ix h.aa m mZ) {ix h.aa m mZ with ai:=up (ix h.aa m mZ).ai g k}:=⟨rfl,rfl⟩;exact⟨zTk H a kp (zlL X kp rfl (zbQ _ _ _) rfl X.outs X.pend X.tr X.own X.gs),z2e (y:={ix h.aa m mZ with ai:=up (ix h.aa m mZ).ai g k}) a rfl rfl kp rfl rfl rfl rfl rfl,λR=>z5s R a c (b R)⟩
def zKY {k:ax}{a b:List k0}(h:KOk k a b)(p:Int):KOk (filled k a b p) a b:=by unfold filled zdQ;cases d:i0 p (ln k.ay) with|false=>exact h|true=>have f:i0 p (ln k.aA)=true:=(by unfold ln at d ⊢;rw[h.l2,<- h.l1];exact d);have g:i0 p (ln a)=true:=(by unfold ln at d ⊢;rw[<- h.l1];exact d);rw[cond_true,f,cond_true,g,cond_true];refine⟨by rw[zbQ];exact h.l1,by rw[zbQ];exact h.l2,λi c=>?_⟩;by_cases e:p=i;{subst e;show ix (up _ p _) p sZ=bif ix (up _ p true) p false then _ else _;rw[zbg f,zbg d];rfl};{show ix (up _ p _) i sZ=bif ix (up _ p true) i false then _ else _;rw[zbx (zG.1 f).1 (zG.1 c).1 e,zbx (zG.1 f).1 (zG.1 c).1 e];exact h.at' i c}
def z9k {h:ad}(H:HOk h){m g:Int}(b:i0 m (ln h.aa)=true)(hg:i0 g (ln (ix h.aa m mZ).ac)=true)(a:Int):Op h (zd9 h m g a):=
 z5e H b (by unfold ln;rw[(H.mon b).gt];exact hg) λR=>zKY (R.t m b g hg) a
def z0J {k:ax}{a b:List k0}(h:KOk k a b){p:Int}(c:i0 p (ln a)=true):zfL k p=bif ix k.ay p false then zbC (ix a p sZ) b else A0:=by have d:i0 p (ln k.ay)=true:=(by unfold ln at c ⊢;rw[h.l1];exact c);have e:i0 p (ln k.aA)=true:=(by unfold ln at c ⊢;rw[h.l2];exact c);unfold zfL zlK zdQ;rw[d,e,cond_true,cond_true,h.at' p c];cases ix k.ay p false<;>rfl
def zYA {k:ax}{a b:List k0}(h:KOk k a b){p:Int}(c:i0 p (ln a)=true):zfL (filled k a b p) p=zbC (ix a p sZ) b:=by rw[z0J (zKY h p) c];have d:i0 p (ln k.ay)=true:=(by unfold ln at c ⊢;rw[h.l1];exact c);have e:i0 p (ln k.aA)=true:=(by unfold ln at c ⊢;rw[h.l2];exact c);have:ix (filled k a b p).ay p false=true:=(by unfold filled zdQ;rw[d,e,c];exact zbg d _ _);rw[this];rfl
def zbaz {h:ad}(H:HOk h){m g a:Int}(i:Bool)(n:Rt h->zdc h (zSa h m g a)=true):Op h (zv1 h m g a i):=by have f:∀(j k:List au),Like h ⟨h.ag,h.aa,j,k⟩:=λ_ _=>⟨rfl,λ_ _=>rfl,λ_ _=>rfl,λ_ _=>rfl,λ_ _=>rfl,λ_ _=>rfl,λ_ _ _ _=>rfl⟩;have d:∀(b:List au),(∀e∈b,zdc h e=true)->Rt h->∀e∈zqJ b (zSa h m g a),zdc h e=true:=(by intro b l R e c;rcases z5p c with c|c;{exact l e c};{rw [c];exact n R});unfold zv1;cases i;{exact⟨⟨H.m12,H.pgs,H.n1,H.n3,zXx H.b1 _,H.b2,H.mons,H.uq⟩,f _ _,λR=>⟨R.t,λe c=>d _ R.e1 R e c,R.e2⟩⟩};{exact⟨⟨H.m12,H.pgs,H.n1,H.n3,H.b1,zXx H.b2 _,H.mons,H.uq⟩,f _ _,λR=>⟨R.t,R.e1,λe c=>d _ R.e2 R e c⟩⟩}
def z4F {b:List au}{t p:Int}{e:au}(h:zD7 b t p=some e):e∈b/\e.Tag=t/\e.af=p:=by unfold zD7 at h;have a:=List.find?_some h;rw[zca,zbw,zbw]at a;exact⟨uP h,a⟩
def zkE {h:ad}{m g:Int}:zbZ h m g=true↔HOk h/\i0 m (ln h.aa)=true/\i0 g (ln (ix h.aa m mZ).ac)=true:=by unfold zbZ;rw[zca,zca,zk3]
structure GOk (x:ah):Prop where
 prog:zdg x.aw=true
 a:zk x.A 0 99=true
 pc:zk x.Pc 0 12=true
 w:zdb x.az 4 8=true
 l:zdb x.av 4 8=true
 ctl:zmp x.Ctl=true
 pend:zdH x.ak=true
 ex:ziD x.Exit=true
 seen:ile (ln x.aC) 40=true
def ztE {x:ah}:zd6 x=true↔GOk x:=by unfold zd6;simp only[qE];exact⟨λ⟨a,b,c,d,e,f,g,h,i⟩=>⟨a,b,c,d,e,f,g,h,i⟩,λ⟨a,b,c,d,e,f,g,h,i⟩=>⟨a,b,c,d,e,f,g,h,i⟩⟩
def z3c {s:k0}:zd3 s 8=true↔s=A0\/(0<=s.af/\s.af<=7/\1<=s.aj/\s.aj<=3):=by unfold zd3;rw[ztW,zqa,zsr];have:wsub .i64 8 1=7:=(by decide);simp only[this,ztW,zcT];simp[igt];constructor;{rintro (h|⟨h,⟨a,b⟩,c⟩);{exact .inl h};{exact .inr ⟨a,b,c⟩}};{intro h;by_cases d:s=A0;{exact .inl d};{rcases h with h|⟨a,b,c⟩;{exact .inl h};{exact .inr ⟨d,⟨a,b⟩,c⟩}}}
def HOk.guest {h:ad}(H:HOk h){m g:Int}(a:i0 m (ln h.aa)=true)(hg:i0 g (ln (ix h.aa m mZ).ac)=true):GOk (ix (ix h.aa m mZ).ac g gZ):=ztE.1 ((H.mon a).gs _ (zmx hg _))
structure Walked (l:List k0) (p n q:Int):Prop where
 hp:i0 p (ln l)=true
 pg:(ix l p sZ).af=q
 q8:i0 q 8=true
 en:enough (ix l p sZ).aj n=true
def walked {x:ah}(X:GOk x){p n:Int}(a:zf5 x.av p n=true):Walked x.av p n (zcN x.av p n):=by have e:zcN x.av p n=(zbG x.av p).af:=(by unfold zcN;rw[a];rfl);unfold zf5 at a;by_cases b:(zbG x.av p).af = -1;{rw [zbw.2 b]at a;cases a};{rw [zbX.2 b,cond_false,zca]at a;have c:i0 p (ln x.av)=true:=(by cases c:i0 p (ln x.av) with|true=>rfl|false=>exact absurd (by unfold zbG;rw[c];rfl) b);rw[zoF c] at e b a;rw[e];have d:=z3c.1 ((zrY.1 X.l).1 _ (zmx c sZ));refine⟨c,rfl,?_,a.1⟩;rcases d with d|d;{rw [d]at b;exact absurd rfl b};{exact zG.2 (by omega)}}
structure Looked (h r:ad) (m g page need q host:Int):Prop where
 op:Op h r
 inn:(ix (ix r.aa m mZ).ae q sZ).af=host
 ne:host≠-1
 en:enough (zbC (ix (ix (ix h.aa m mZ).ac g gZ).av page sZ) (ix r.aa m mZ).ae).aj need=true
 cp:(zbC (ix (ix (ix h.aa m mZ).ac g gZ).av page sZ) (ix r.aa m mZ).ae).af=host
 dk:∀k,i0 k 8=true->k≠q->ix (ix r.aa m mZ).ar k false=ix (ix h.aa m mZ).ar k false
 dq:need=2->ix (ix r.aa m mZ).ar q false=true
 d1:need=1->(ix r.aa m mZ).ar=(ix h.aa m mZ).ar
 dm:∀i,i0 i (ln h.aa)=true->i≠m->(ix r.aa i mZ).ar=(ix h.aa i mZ).ar
def zPW {h:ad}(S:Safe h){m g a b q:Int}(f:i0 m (ln h.aa)=true)(hg:i0 g (ln (ix h.aa m mZ).ac)=true)(l:b=1\/b=2)(W:Walked (ix (ix h.aa m mZ).ac g gZ).av a b q)(c:Bool)(d:zfL (zcB h m g) a=zbC (ix (ix (ix h.aa m mZ).ac g gZ).av a sZ) (ix h.aa m mZ).ae)(i:enough (zfL (zcB h m g) a).aj b=true) :
 Op h (ziI h m g a c).1/\(ziI h m g a c).2=((ix (ix h.aa m mZ).ae q sZ).af,true)/\(ix (ix h.aa m mZ).ae q sZ).af≠-1/\(ziI h m g a c).1.aa=h.aa:=by
 rw[d]at i;have e:=zqu l i;rw[W.pg,zoF<|(S.ok.mon f).hasO W.q8]at e;refine⟨zbaz S.ok c λR=>?_,?_,e.2.1,?_⟩
 .obtain⟨t1,t2⟩:=S.ok.tag f hg;obtain⟨j,k,_⟩:=zVq t1 t2;rw[zgb]
  show i0 (zdI<|zfl m g) _=true/\i0 (zeM<|zfl m g) (ln (ix h.aa (zdI<|zfl m g) mZ).ac)=true/\below' ⟨(zfL (zcB h m g) a).af,(zfL (zcB h m g) a).aj⟩ (zbC (zbG (ix (ix h.aa (zdI<|zfl m g) mZ).ac (zeM<|zfl m g) gZ).av a) (ix h.aa (zdI<|zfl m g) mZ).ae)=true
  rw[j,k,zoF W.hp,d];exact⟨f,hg,zr1.2<|.inr ⟨rfl,zWj<|zYJ _ _⟩⟩
 .show ((zfL (zcB h m g) a).af,true)=_
  rw[d,e.2.2]
 .show (zv1 h m g a c).aa=_
  unfold zv1;cases c<;>rfl
def zUf {h:ad}(S:Safe h){m g page need q:Int}(x:i0 m (ln h.aa)=true)(hg:i0 g (ln (ix h.aa m mZ).ac)=true)(D:need=1\/need=2)(W:Walked (ix (ix h.aa m mZ).ac g gZ).av page need q)(N:Bool){b:List au}(hb:∀e∈b,zdc h e=true)(hd:need=2->ix (ix h.aa m mZ).ar q false=true) :
 Looked h (ziH h b m g page need q N).1 m g page need q (ziH h b m g page need q N).2.1/\(ziH h b m g page need q N).2.2=true:=by
 have X:=S.ok.mon x;have r:=W.q8;have L:=zoF (X.hasO W.q8);unfold ziH;cases K:zis b m g page need with
 |true=>
  rw[cond_true];unfold zis at K;cases B:zr7 b m g page with
  |none=>rw[B]at K;cases K
  |some e=>rw[B]at K;have A:enough e.aj need=true:=K;obtain⟨f1,f2,f3⟩:=z4F B;obtain⟨t1,t2⟩:=S.ok.tag x hg;obtain⟨b1,b2,_⟩:=zVq t1 t2;obtain⟨_,_,v⟩:=zgb.1 (hb e f1);rw[f2,b1,b2,f3,zoF W.hp]at v;have T:(⟨e.ad,e.aj⟩:k0)≠A0:=λf=>(by have:e.aj=0:=congrArg k0.aj f;rw[this,zrm D]at A;cases A);rcases zr1.1 v with v|⟨v,h4⟩;{exact absurd v T};{have h5:=zS4 h4 A;have f:=zqu D h5;rw[W.pg,L]at f;have O:e.ad=_:=v;refine⟨⟨Op.refl S.ok,f.2.2.symm.trans v.symm,?_,h5,v.symm,λ_ _ _=>rfl,hd,λ_=>rfl,λ_ _ _=>rfl⟩,rfl⟩;show e.ad≠-1;rw[O,f.2.2];exact f.2.1}
 |false=>
  rw[cond_false];have P:=S.rt.t m x g hg;cases y:zfz h m g page need with
  |false=>rw[cond_false];have E:ix (zcB h m g).ay page false=true/\enough (zfL (zcB h m g) page).aj need=true:=(by unfold zfz at y;cases n:zlK (zcB h m g) page with|false=>rw[n]at y;cases y|true=>rw[n,cond_true]at y;refine⟨?_,?_⟩;{unfold zlK at n;cases hh:zdQ (zcB h m g) page with|false=>rw[hh]at n;cases n|true=>rw[hh]at n;exact n};{cases hz:ieq (zfL (zcB h m g) page).af (-1) with|true=>rw[hz]at y;cases y|false=>rw[hz]at y;simpa using y});have H:zfL (zcB h m g) page=zbC (ix (ix (ix h.aa m mZ).ac g gZ).av page sZ) (ix h.aa m mZ).ae:=(by have Z:=z0J P W.hp;have h1:ix (ix (ix h.aa m mZ).ai g kZ).ay page false=true:=E.1;rw[h1]at Z;exact Z);obtain⟨U,V,Y,d⟩:=zPW S x hg D W N H E.2;rw[V];have J:=E.2;rw[H]at J;have f:=zqu D J;rw[W.pg,L]at f;exact⟨⟨U,by rw[d],Y,by rw[d];exact J,by rw[d];exact f.2.2,λ_ _ _=>by rw[d],λe=>by rw[d];exact hd e,λ_=>by rw[d],λ_ _ _=>by rw[d]⟩,rfl⟩
  |true=>
   rw[cond_true];have M:=zP7 S.ok (m:=m) (p:=q) need x r;have c:i0 m (ln (D0 h m q need).aa)=true:=(by rw[M.op.like.has];exact x);have C:(ix (D0 h m q need).aa m mZ).ac=(ix h.aa m mZ).ac:=M.op.like.g m x;have l:i0 g (ln (ix (D0 h m q need).aa m mZ).ac)=true:=(by rw[C];exact hg);have G:Safe (D0 h m q need):=M.op.safe S;have F:=z9k G.ok c l page;have S2:Safe (zd9 (D0 h m q need) m g page):=F.safe G;have R:i0 m (ln (zd9 (D0 h m q need) m g page).aa)=true:=(by rw[F.like.has];exact c);have u:ix (zd9 (D0 h m q need) m g page).aa m mZ={ix (D0 h m q need).aa m mZ with ai:=up (ix (D0 h m q need).aa m mZ).ai g (filled (zcB (D0 h m q need) m g) (zc1 (D0 h m q need) m g) (ix (D0 h m q need).aa m mZ).ae page)}:=zbg c _ _;have Q:i0 g (ln (ix (zd9 (D0 h m q need) m g page).aa m mZ).ac)=true:=(by rw[u];exact l);have w:(ix (zd9 (D0 h m q need) m g page).aa m mZ).ac=(ix h.aa m mZ).ac:=(by rw[u];exact C);have W2:Walked (ix (ix (zd9 (D0 h m q need) m g page).aa m mZ).ac g gZ).av page need q:=(by rw[w];exact W);have H:zfL (zcB (zd9 (D0 h m q need) m g page) m g) page=zbC (ix (ix (ix (zd9 (D0 h m q need) m g page).aa m mZ).ac g gZ).av page sZ) (ix (zd9 (D0 h m q need) m g page).aa m mZ).ae:=(by have:zcB (zd9 (D0 h m q need) m g page) m g=filled (zcB (D0 h m q need) m g) (zc1 (D0 h m q need) m g) (ix (D0 h m q need).aa m mZ).ae page:=(by unfold zcB;rw[u];exact zbg (by unfold ln;rw[(G.ok.mon c).gt];exact l) _ _);rw[this];refine(zYA (p:=page) (G.rt.t m c g l) (by rw[C];exact W.hp)).trans ?_;rw[u]);have z:(ix (zd9 (D0 h m q need) m g page).aa m mZ).ae=(ix (D0 h m q need).aa m mZ).ae:=by rw[u]
   have j:=zoF ((G.ok.mon c).hasO r);have a:=zSM (s:=ix (ix (ix h.aa m mZ).ac g gZ).av page sZ) (o:=(ix (D0 h m q need).aa m mZ).ae) D (by rw[W.pg];have:=zG.1 r;omega) (by rw[W.pg,j];exact M.inn) W.en (by
    rw[W.pg,j];rcases D with rfl|rfl
    .rcases (G.ok.mon c).enough1 r M.inn with e|e<;>rw [e]<;>decide
    .rw [M.ri (by decide)];decide)
   have J:enough (zfL (zcB (zd9 (D0 h m q need) m g page) m g) page).aj need=true:=(by rw[H,w,z];exact a.2);obtain⟨U,V,Y,d⟩:=zPW S2 R Q D W2 N H J;rw[V];have I:=a.1;rw[W.pg,j]at I;refine⟨⟨(M.op.trans F).trans U,by rw[d],Y,by rw[d,z];exact a.2,by rw[d,z];exact I,λk n f=>?_,λe=>?_,λe=>?_,λi hi f=>?_⟩,rfl⟩;{rw [d,u];exact M.dk k n f};{rw [d,u];exact M.dt (by rw[e];decide)};{rw [d,u];exact M.d0 (by rw[e];decide)};{rw [d];show (ix (up (D0 h m q need).aa m _) i mZ).ar=_;rw[zbx (zG.1 x).1 (zG.1 hi).1<|Ne.symm f];exact M.dm i hi f}
def zGw {n:Int}:zkG n=true↔n=1\/n=2:=by unfold zkG;by_cases h:n=1;{rw [zbw.2 h];simp[h]};{rw [zbX.2 h,cond_false,zbw];simp[h]}
def zrt {h:ad}{m g page need:Int}:zb9 h m g page need=true↔zbZ h m g=true/\(need=1\/need=2)/\zf5 (zc1 h m g) page need=true:=by unfold zb9;rw[zca,zca,zGw]
def zPY {h:ad}(S:Safe h){m g page need:Int}(j:Bool)(t:zb9 h m g page need=true){b:List au}(r:∀e∈b,zdc h e=true) :
 Looked h (lookOf h b m g page need j).1 m g page need (zcN (zc1 h m g) page need) (lookOf h b m g page need j).2.1/\(lookOf h b m g page need j).2.2=true:=by
 obtain⟨w,A,B⟩:=zrt.1 t;obtain⟨_,a,hg⟩:=zkE.1 w;have W:=walked (S.ok.guest a hg) B;unfold lookOf;rw[t,cond_true];rcases A with rfl|rfl
 .rw [show ieq 1 2=false by decide,cond_false]
  exact zUf S a hg (.inl rfl) W j r (λe=>absurd e (by decide))
 .rw [show ieq 2 2=true by decide,cond_true]
  obtain⟨d,C⟩:=zLx S.ok a (zcN (zc1 h m g) page 2);have p:i0 m (ln (zbI h m<|zcN (zc1 h m g) page 2).aa)=true:=by rw[d.like.has];exact a
  have f:ix (zbI h m<|zcN (zc1 h m g) page 2).aa m mZ={ix h.aa m mZ with ar:=up (ix h.aa m mZ).ar (zcN (zc1 h m g) page 2) true}:=zbg a _ _;have x:=(S.ok.mon a).hasD W.q8;obtain⟨L,y⟩:=zUf (d.safe S) p (g:=g) (page:=page) (need:=2) (q:=zcN (zc1 h m g) page 2) (by rw[f];exact hg) (.inr rfl) (by rw[f];exact W) j (b:=b) (λe z=>by
   obtain⟨l,u,v⟩:=zgb.1 (r e z);rw[zgb];have n:i0 (zdI e.Tag) (ln (zbI h m<|zcN (zc1 h m g) page 2).aa)=true:=by rw[d.like.has];exact l
   refine⟨n,by rw[d.like.g _ l];exact u,?_⟩
   rw[d.like.g _ l];have:(ix (zbI h m<|zcN (zc1 h m g) page 2).aa (zdI e.Tag) mZ).ae=(ix h.aa (zdI e.Tag) mZ).ae:=by show (ix (up h.aa m _) _ mZ).ae=_;by_cases c:m=zdI e.Tag;{rw [<- c,zbg a]};{rw [zbx (zG.1 a).1 (zG.1 l).1 c]}
   rw[this];exact v) (λ_=>by rw[f];exact zbg x _ _)
  refine⟨⟨d.trans L.op,L.inn,L.ne,?_,?_,λk s c=>?_,L.dq,λe=>absurd e (by decide),λi n c=>?_⟩,y⟩
  .have:=L.en;rw[f] at this;exact this
  .have:=L.cp;rw[f] at this;exact this
  .rw [L.dk k s c,f];exact zbx (zG.1 W.q8).1 (zG.1 s).1 (Ne.symm c) _ _
  .rw [L.dm i (by rw[d.like.has];exact n) c]
   show (ix (up h.aa m _) i mZ).ar=_
   rw[zbx (zG.1 a).1 (zG.1 n).1<|Ne.symm c]
def zO4 {x y:Int}(a : -9223372036854775808<=x+y)(b:x+y<=9223372036854775807):zK .i64 x y=x+y:=by unfold zK;simp only[IntKind.wrap,IntKind.signed,IntKind.bits];simp;omega
def zJW {n:Nat}{P:Int->Prop}(h:∀i:Fin n,P ((i.val:Nat):Int)){x:Int}(a:0<=x)(b:x<n):P x:=by have:=h ⟨x.toNat,by omega⟩;simpa [show ((x.toNat:Nat):Int)=x by omega] using this
def zUI {p:Int}:zdH p=true↔0<=p/\p<=255:=by unfold zdH;exact zcT
def zQf {p:Int}(h:zdH p=true):zdH (zk4 p)=true:=by have a:=zUI.1 h;exact zJW (n:=256) (P:=λx=>zdH (zk4 x)=true) (by decide +kernel) a.1 (by omega)
def zQe {p:Int}(h:zdH p=true)(n:Int):zdH (ztp p n)=true:=by unfold ztp zib;rw[h,cond_true];cases e:zk n 0 7 with|false=>exact h|true=>rw[cond_true];have b:=zUI.1 h;have a:=zcT.1 e;exact zJW (n:=256) (P:=λx=>∀k,0<=k->k<(8:Int)->zdH (wor .i64 x<|zqf .i64 1 k)=true) (λi k c d=>zJW (n:=8) (P:=λk=>zdH (wor .i64 ((i.val:Nat):Int)<|zqf .i64 1 k)=true) (by revert i;decide +kernel) c d) b.1 (by omega) n a.1 (by omega)
structure GKeep (x y:ah):Prop where
 ok:GOk y
 live:y.av=x.av
def zZe {x:ah}(X:GOk x){c:Int}(b:zk c 0 12=true):GOk {x with Pc:=c}:=⟨X.prog,X.a,b,X.w,X.l,X.ctl,X.pend,X.ex,X.seen⟩
def zZd {x:ah}(X:GOk x){c:Int}(a:zk c 0 99=true):GOk {x with A:=c}:=⟨X.prog,a,X.pc,X.w,X.l,X.ctl,X.pend,X.ex,X.seen⟩
def zkc {x:ah}(X:GOk x):GKeep x (zch x):=by unfold zch;have a:=zcT.1 X.pc;cases h:ige x.Pc 12 with|true=>exact⟨zZe X (by decide),rfl⟩|false=>have:¬ x.Pc≥12:=jY h;refine⟨zZe X ?_,rfl⟩;rw[zO4 (by omega) (by omega)];exact zcT.2 (by omega)
def zTd {x:ah}(X:GOk x)(n:Int):GKeep x (saw x n):=by unfold saw;cases h:ilt (ln x.aC) 40 with|false=>exact⟨X,rfl⟩|true=>have:ln x.aC<40:=qF h;refine⟨⟨X.prog,X.a,X.pc,X.w,X.l,X.ctl,X.pend,X.ex,qK ?_⟩,rfl⟩;unfold ln ap at *;simp;omega
def zkd {x:ah}(X:GOk x){e:aD}(b:ziD e=true):GKeep x (stopped x e):=⟨⟨X.prog,X.a,X.pc,X.w,X.l,X.ctl,X.pend,b,X.seen⟩,rfl⟩
def zXM {x:ah}(X:GOk x){p:Int}(b:zdH p=true):GKeep x {x with ak:=p}:=⟨⟨X.prog,X.a,X.pc,X.w,X.l,X.ctl,b,X.ex,X.seen⟩,rfl⟩
def zXJ {x:ah}(X:GOk x)(b:Bool):GKeep x {x with aF:=b}:=⟨⟨X.prog,X.a,X.pc,X.w,X.l,X.ctl,X.pend,X.ex,X.seen⟩,rfl⟩
def zXK {x:ah}(X:GOk x):GKeep x (held x):=⟨(zkc (zXJ X true).ok).ok,(zkc (zXJ X true).ok).live⟩
def z1R {x:ah}(X:GOk x){v:Int}(c:zk v 0 99=true):GKeep x (loaded x v):=by have a:=zTd (zZd X c) v;have b:=zkc a.ok;exact⟨b.ok,b.live.trans a.live⟩
def zMW {x:ah}(X:GOk x):GKeep x (interrupted x):=by unfold interrupted;cases zjn x with|false=>exact⟨X,rfl⟩|true=>have a:=zXM X (zQf X.pend);rw[cond_true];exact⟨(zTd a.ok _).ok,(zTd a.ok _).live⟩
def zIE {p:List Ins}(h:zdg p=true)(i:Int):zez (zcw p i)=true:=by unfold zcw;cases a:i0 i (ln p) with|false=>rfl|true=>unfold zdg at h;rw[zca,qN]at h;exact h.1 _ (zmx a _)
def zbaq {i:Ins}(h:zez i=true)(a:i.Op=3\/i.Op=4):0<=i.X/\i.X<=15:=by unfold zez at h;rcases a with e|e<;>rw [e]at h<;>exact zcT.1 h
def z1X {i:Ins}(h:zez i=true)(a:i.Op=5\/i.Op=6):0<=i.X/\i.X<=99:=by unfold zez at h;rcases a with e|e<;>rw [e]at h<;>exact zcT.1 h
def zba1 {i:Ins}(h:zez i=true)(a:i.Op=8):0<=i.X/\i.X<=11:=by unfold zez at h;rw[a]at h;exact zcT.1 h
def zba0 {i:Ins}(h:zez i=true)(a:i.Op=1):0<=i.X/\i.X<=99:=by unfold zez at h;rw[a]at h;exact zcT.1 h
def zZf {x:ah}(X:GOk x):GKeep x (plainly x):=by have M:=zkc X;have b:=zIE X.prog x.Pc;unfold plainly;cases ine (zbe x) 2 with|true=>exact⟨X,rfl⟩|false=>rw[cond_false];(cases zk x.A 0 99 with|false=>exact M|true=>rw[cond_true];(cases zk (zcw x.aw x.Pc).X 0 99 with|false=>exact M|true=>rw[cond_true];by_cases c:(zcw x.aw x.Pc).Op=1;{rw [zbw.2 c,cond_true];exact⟨zZd M.ok<|zcT.2<|zba0 b c,M.live⟩};{rw [zbX.2 c,cond_false];by_cases d:(zcw x.aw x.Pc).Op=2;{rw [zbw.2 d,cond_true];refine⟨zZd M.ok ?_,M.live⟩;have f:=zcT.1 X.a;have i:0<=(zcw x.aw x.Pc).X/\(zcw x.aw x.Pc).X<=99:=(by unfold zez at b;rw[d]at b;exact zcT.1 b);rw[zcT];unfold zre;rw[zO4 (by omega) (by omega)];have g:=Int.tmod_nonneg (a:=x.A+(zcw x.aw x.Pc).X) 100 (by omega);have h:=Int.tmod_lt_of_pos (x.A+(zcw x.aw x.Pc).X) (show (0:Int)<100 by omega);omega};{rw [zbX.2 d,cond_false];by_cases e:(zcw x.aw x.Pc).Op=8;{rw [zbw.2 e,cond_true];cases ieq x.A 0 with|true=>have:=zba1 b e;exact⟨zZe M.ok<|zcT.2 (by omega),M.live⟩|false=>exact M};{rw [zbX.2 e];exact M}}}))
def zto {c:LI}:zcs c=true↔(∀x∈c,zk x 0 99=true)/\ln c=4:=by unfold zcs;rw[zca,qN,zbw]
def zni (h:ad)(m:Int):∀(n i:Nat),(zcQ h m n i).length=n
 | 0,_=>rfl
 |n+1,i=>by rw[zcQ,qW,zni h m n]
def zLG (h:ad)(m:Int):∀(n i k:Nat) (a:k<(zcQ h m n i).length),(zcQ h m n i)[k]=zdf h m ((i+k:Nat):Int)
 | 0,i,k,a=>by simp[zcQ]at a
 |n+1,i,k,a=>by cases k with|zero=>rfl|succ k=>have:=zLG h m n (i+1) k (by simpa [zcQ] using a);simp only[zcQ,List.getElem_cons_succ];rw[this];congr 1;omega
def zqH {h:ad}{m q:Int}(b:i0 q 8=true)(d:LI):ix (zcQ h m 8 0) q d=zdf h m q:=by have c:=zG.1 b;have a:q.toNat<(zcQ h m 8 0).length:=(by rw[zni];omega);have:=zm7 a d;rw[show ((q.toNat:Nat):Int)=q by omega] at this;rw[this,zLG];congr 1;omega
def zut (h:ad)(m:Int):ln (zcQ h m 8 0)=8:=by unfold ln;rw[zni];rfl
def zzF {h:ad}(H:HOk h){m p:Int}(b:i0 m (ln h.aa)=true)(a:i0 p 8=true):zcs (zdf h m p)=true:=by have X:=H.mon b;rw[<- zlT H b a];by_cases e:(ix (ix h.aa m mZ).ae p sZ).af = -1;{rw [zbw.2 e];exact((zqy<|X.slot a).1 (X.fit p a)).1 e};{rw [zbX.2 e];exact zQc H.pgs _}
def zyC {h:ad}(H:HOk h){m:Int}(b:i0 m (ln h.aa)=true):zcb (zM h m)=true:=by have X:=H.mon b;unfold zM;rw[b,cond_true];unfold zcb ziK;rw[zca,qN];refine⟨X.gs,?_⟩;simp only[qE,zca,qN,zbw,zcT];refine⟨⟨λc d=>?_,zut h m⟩,⟨?_,?_⟩,?_,X.pend⟩;{obtain⟨i,a,rfl⟩:=zDc d [];rw[zut]at a;rw[zqH a];exact zzF H b a};{unfold ln;have:=X.g1;omega};{unfold ln;have:=X.g2;omega};{unfold ile ln;have:=X.outs;exact qK (by omega)}
structure SimT (h r:ad) (m:Int) (f:am->am):Prop where
 safe:Safe r
 seen:∀i,zM r i=bif ieq i m then f (zM h i) else zM h i
 len:r.aa.length=h.aa.length
def SimT.trans {a b c:ad}{m:Int}{f g:am->am}(x:SimT a b m f)(y:SimT b c m g):SimT a c m (λt=>g (f t)):=by refine⟨y.safe,λi=>?_,y.len.trans x.len⟩;rw[y.seen i,x.seen i];cases ieq i m<;>rfl
def Op.sim {h r:ad}(k:Op h r)(S:Safe h)(m:Int):SimT h r m id:=⟨k.safe S,λi=>by rw[k.like.seen i];cases ieq i m<;>rfl,k.like.len⟩
def SimT.congr {h r:ad}{m:Int}{f g:am->am}(x:SimT h r m f)(e:f (zM h m)=g (zM h m)):SimT h r m g:=by refine⟨x.safe,λi=>?_,x.len⟩;rw[x.seen i];by_cases a:i=m;{subst a;rw[zbw.2 rfl,cond_true,cond_true,e]};{rw [zbX.2 a];rfl}
def SimT.has {h r:ad}{m:Int}{f:am->am}(x:SimT h r m f)(i:Int):i0 i (ln r.aa)=i0 i (ln h.aa):=by unfold ln;rw[x.len]
def SimT.refl {h:ad}(S:Safe h)(m:Int):SimT h h m id:=⟨S,λi=>by cases ieq i m<;>rfl,rfl⟩
def zww {h:ad}(S:Safe h){m q a:Int}(l:i0 m (ln h.aa)=true)(f:i0 q 8=true)(J:(ix (ix h.aa m mZ).ae q sZ).af=a)(y:a≠-1)(c v:Int) :
 SimT h {h with ag:=zbN h.ag a c v} m (λb=>{b with ag:=zbN b.ag q c v})/\cellAt h.ag a c=cellAt (zM h m).ag q c:=by
 have H:=S.ok;have X:=H.mon l;have N:=X.slot f;have E:=hasM H N (by rw[J];exact y)
 rw[J]at E;have z:ix h.ag a []=zdf h m q:=by have:=zlT H l f;rw[J,zbX.2 y,cond_false,zlS E] at this;exact this
 have n:ln (zdf h m q)=4:=(zto.1<|zzF H l f).2;have d:(zM h m).ag=zcQ h m 8 0:=by unfold zM;rw[l];rfl
 have C:ziJ h.ag a c=i0 c 4:=by unfold ziJ;rw[E,cond_true,z,n]
 have D:ziJ (zcQ h m 8 0) q c=i0 c 4:=by unfold ziJ;rw[zut,f,cond_true,zqH f,n]
 have u:cellAt h.ag a c=cellAt (zM h m).ag q c:=by rw[d];unfold cellAt;rw[C,D,z,zqH f]
 refine⟨?_,u⟩;cases A:i0 c 4 with
 |false=>have s:zbN h.ag a c v=h.ag:=(by unfold zbN;rw[C,A];rfl);rw[s];refine(SimT.refl S m).congr ?_;show zM h m={zM h m with ag:=zbN (zM h m).ag q c v};rw[d];have B:zbN (zcQ h m 8 0) q c v=zcQ h m 8 0:=(by unfold zbN;rw[D,A];rfl);rw[B,<- d]
 |true=>
  cases K:zk v 0 99 with
  |false=>have s:zbN h.ag a c v=h.ag:=(by unfold zbN;rw[C,A,K];rfl);rw[s];refine(SimT.refl S m).congr ?_;show zM h m={zM h m with ag:=zbN (zM h m).ag q c v};rw[d];have B:zbN (zcQ h m 8 0) q c v=zcQ h m 8 0:=(by unfold zbN;rw[D,A,K];rfl);rw[B,<- d]
  |true=>have s:zbN h.ag a c v=up h.ag a (up (zdf h m q) c v):=(by unfold zbN;rw[C,A,K,z];rfl);have B:zbN (zcQ h m 8 0) q c v=up (zcQ h m 8 0) q (up (zdf h m q) c v):=(by unfold zbN;rw[D,A,K,zqH f];rfl);have G:zcs (up (zdf h m q) c v)=true:=(by have:=zto.1 (zzF H l f);rw[zto,zd1];refine⟨λx O=>?_,this.2⟩;rcases qY O with h|h;{exact this.1 x h};{rw [h];exact K});have P:=(zG.1 E).1;have L:HOk {h with ag:=zbN h.ag a c v}:=(by rw[s];refine⟨by show (up _ _ _).length=12;rw[zbQ];exact H.m12,λx O=>?_,H.n1,H.n3,H.b1,H.b2,H.mons,H.uq⟩;rcases qY O with h|h;{exact H.pgs x h};{rw [h];exact G});refine⟨⟨L,⟨S.rt.t,S.rt.e1,S.rt.e2⟩⟩,λi=>?_,rfl⟩;have r:∀i k,i0 i (ln h.aa)=true->i0 k 8=true->¬ (i=m/\k=q)->zdf {h with ag:=zbN h.ag a c v} i k=zdf h i k:=(by intro i k w g I;rw[<- zlT L (m:=i) (p:=k) w g,<- zlT H w g];show (cond (ieq (ix (ix h.aa i mZ).ae k sZ).af<|-1) _<|zcx (zbN h.ag a c v) _)=_;by_cases e:(ix (ix h.aa i mZ).ae k sZ).af = -1;{rw [zbw.2 e];rfl};{rw [zbX.2 e,cond_false,cond_false,s];exact zDf P (λe=>I (H.uniq w g l f e J P))});have F:zdf {h with ag:=zbN h.ag a c v} m q=up (zdf h m q) c v:=(by rw[<- zlT L (m:=m) (p:=q) l f];show (cond (ieq (ix (ix h.aa m mZ).ae q sZ).af<|-1) _<|zcx (zbN h.ag a c v) (ix (ix h.aa m mZ).ae q sZ).af)=_;rw[J,zbX.2 y,cond_false,s];exact zDe E);by_cases w:i=m;{subst w;rw[zbw.2 rfl,cond_true];unfold zM;show (cond (i0 i<|ln h.aa) _ _)=_;rw[l,cond_true,cond_true];show am.mk (zcQ {h with ag:=zbN h.ag a c v} i 8 0) _ _ _=am.mk (zbN (zcQ h i 8 0) q c v) _ _ _;congr 1;rw[B];refine zOm [] (by rw[zbQ,zni,zni]) λk g=>?_;rw[zut]at g;rw[zqH g];by_cases e:q=k;{subst e;rw[zbg (by rw[zut];exact f),F]};{rw [zbx (zG.1 f).1 (zG.1 g).1 e,zqH g];exact r i k l g (λh=>e h.2.symm)}};{rw [zbX.2 w,cond_false];unfold zM;show (cond (i0 i<|ln h.aa) _ _)=_;cases M:i0 i (ln h.aa) with|false=>rfl|true=>rw[cond_true,cond_true];show am.mk (zcQ {h with ag:=zbN h.ag a c v} i 8 0) _ _ _=_;rw[zrv 8 0 λj C D=>r i (j:Int) M (zG.2 (by omega)) λh=>w h.1]}
def zq5 {h:ad}(S:Safe h){m g:Int}(a:i0 m (ln h.aa)=true)(hg:i0 g (ln (ix h.aa m mZ).ac)=true){y:ah}(k:GKeep (gOf h m g) y):SimT h (zlV h m g y) m (λb=>zeZ b g y):=by have X:=S.ok.mon a;have kp:KeepP (ix h.aa m mZ) {ix h.aa m mZ with ac:=up (ix h.aa m mZ).ac g y}:=⟨rfl,rfl⟩;refine⟨zwv S a kp (zlL X kp (zbQ _ _ _) rfl rfl X.outs X.pend X.tr X.own λz d=>?_) (zbQ _ _ _) (λj c=>?_) rfl,λi=>?_,zbQ _ _ _⟩;{rcases qY d with h|h;{exact X.gs z h};{rw [h];exact ztE.2 k.ok}};{show (ix (up (ix h.aa m mZ).ac g y) j gZ).av=_;by_cases e:g=j;{subst e;rw[zbg hg];exact k.live};{rw [zbx (zG.1 hg).1 (zG.1 c).1 e]}};{refine(zuX (h:=h) (r:=zlV h m g y) a rfl rfl kp i).trans ?_;by_cases e:i=m;{subst e;rw[zbw.2 rfl,cond_true,cond_true];unfold zeZ zM;rw[a];rfl};{rw [zbX.2 e];rfl}}
def zVb {h:ad}(S:Safe h){m:Int}(a:i0 m (ln h.aa)=true){y:Mon}(kp:KeepP (ix h.aa m mZ) y)(d:MOk y)(hg:y.ac=(ix h.aa m mZ).ac)(c:y.ai=(ix h.aa m mZ).ai) :
 SimT h {h with aa:=up h.aa m y} m (λb=>{b with Outs:=y.Outs,ak:=y.ak}):=by
 refine⟨zwv S a kp d (by rw[hg]) (λj _=>by rw[hg]) c,λi=>?_,zbQ _ _ _⟩
 refine(zuX (h:=h) (r:={h with aa:=up h.aa m y}) a rfl rfl kp i).trans ?_
 by_cases e:i=m
 .subst e;rw[zbw.2 rfl,cond_true,cond_true];unfold zM;rw[a,hg];rfl
 .rw [zbX.2 e];rfl
def zfK {h:ad}{m:Int}(a:i0 m (ln h.aa)=true):zM h m=⟨zcQ h m 8 0,(ix h.aa m mZ).ac,(ix h.aa m mZ).Outs,(ix h.aa m mZ).ak⟩:=by unfold zM;rw[a];rfl
def z2Z {h:ad}(S:Safe h){m:Int}(a:i0 m (ln h.aa)=true):SimT h (owned h m) m id:=by unfold owned;cases b:ilt (ix h.aa m mZ).Own 1000000000 with|false=>exact SimT.refl S m|true=>rw[cond_true];have X:=S.ok.mon a;have d:=zcT.1 X.own;have c:(ix h.aa m mZ).Own<1000000000:=qF b;have kp:KeepP (ix h.aa m mZ) {ix h.aa m mZ with Own:=zK .i64 (ix h.aa m mZ).Own 1}:=⟨rfl,rfl⟩;refine(zVb S a kp (zlL X kp rfl rfl rfl X.outs X.pend X.tr ?_ X.gs) rfl rfl).congr ?_;{show zk (zK .i64 (ix h.aa m mZ).Own 1) 0 1000000000=true;rw[zO4 (by omega) (by omega),zcT];omega};{rw [zfK a];rfl}
def z0n {h:ad}(S:Safe h){m:Int}(a:i0 m (ln h.aa)=true)(n:Int):SimT h (zo8 h m n) m (λb=>zpa b n):=by unfold zo8;have X:=S.ok.mon a;cases c:ilt (ln (ix h.aa m mZ).Outs) 40 with|false=>refine(SimT.refl S m).congr ?_;rw[zfK a];unfold zpa;rw[c];rfl|true=>rw[cond_true];have d:ln (ix h.aa m mZ).Outs<40:=qF c;have kp:KeepP (ix h.aa m mZ) {ix h.aa m mZ with Outs:=ap (ix h.aa m mZ).Outs [n]}:=⟨rfl,rfl⟩;refine(zVb S a kp (zlL X kp rfl rfl rfl ?_ X.pend X.tr X.own X.gs) rfl rfl).congr ?_;{show (ap (ix h.aa m mZ).Outs [n]).length<=40;unfold ln ap at *;simp;omega};{rw [zfK a];unfold zpa;rw[c];rfl}
def zt8 {h:ad}{m g:Int}(a:i0 m (ln h.aa)=true)(hg:i0 g (ln (ix h.aa m mZ).ac)=true):gAt (zM h m) g=gOf h m g:=by rw[zfK a];unfold gAt;show (cond (i0 g<|ln (ix h.aa m mZ).ac) _ _)=_;rw[hg];rfl
def zO5 {x:ah}(h:zbe x=3\/zbe x=4\/zbe x=5\/zbe x=6):(zcw x.aw x.Pc).Op=zbe x:=by unfold zbe at h ⊢;cases e:canRun x with|false=>simp[e]at h|true=>simp only[e,cond_true]at h ⊢;(cases f:zjn x with|true=>simp[f]at h|false=>simp only[f,cond_false]at h ⊢;unfold zx1 at h ⊢;by_cases a:(zcw x.aw x.Pc).Op=3;{rw [a];rfl};{rw [zbX.2 a,cond_false]at h ⊢;by_cases b:(zcw x.aw x.Pc).Op=4;{rw [b];rfl};{rw [zbX.2 b,cond_false]at h ⊢;by_cases c:(zcw x.aw x.Pc).Op=5;{rw [c];rfl};{rw [zbX.2 c,cond_false]at h ⊢;by_cases d:(zcw x.aw x.Pc).Op=6;{rw [d];rfl};{rw [zbX.2 d,cond_false]at h ⊢;cases g:ieq (zcw x.aw x.Pc).Op 7<;>simp [g]at h}}}})
def z7X {x:ah}(X:GOk x){w:Int}(a:zbe x=w)(h:w=3\/w=4):0<=E0 x/\E0 x<=15:=by have e:E0 x=(zcw x.aw x.Pc).X:=(by unfold E0;rcases h with e|e;{rw [a,e];rfl};{rw [a,e];rfl});rw[e];exact zbaq (zIE X.prog _) (by rw[zO5 (by omega),a];exact h)
def z7Y {a:Int}(b:0<=a)(c:a<=15):zk (zbk a) 0 3=true/\i0 (zdp a) 4=true :=
 zJW (n:=16) (P:=λa=>zk (zbk a) 0 3=true/\i0 (zdp a) 4=true) (by decide) b (by omega)
def zY4 {p:Int}(h:zk p 0 3=true)(w:Bool):ziD (zr5 p w)=true:=by unfold ziD zr5;simp[ieq,h]
def z1G {n:Int}(h:zk n 0 99=true):ziD (zy5 n)=true:=by unfold ziD zy5;simp[ieq,h]
def z4E {n:Int}(h:zk n 0 99=true):ziD (zx2 n)=true:=by unfold ziD zx2;simp[ieq,h]
def z4K {x:ah}(X:GOk x)(t:Int){w:Int}(d:zbe x=w):GKeep x (zkB x t w):=by have c:=zIE X.prog x.Pc;unfold zkB;by_cases b:w=6;{rw [zbw.2 b];exact zkd X (z1G<|zcT.2<|z1X c (by rw[zO5 (by omega),d];omega))};{rw [zbX.2 b,cond_false];by_cases a:w=5;{rw [zbw.2 a];cases zhU t 1 with|true=>exact zkd X (z4E<|zcT.2<|z1X c (by rw[zO5 (by omega),d];omega))|false=>rw[a];exact zkc X};{rw [zbX.2 a];rw[Bool.false_and,cond_false];cases e:(ieq w 7&&zhU t 2) with|true=>exact zkd X rfl|false=>rw[cond_false];cases ieq w 7;{exact zkc X};{exact zXK X}}}
def zXR {a:Type}(g:Int):i0 g (ln ([]:List a))=false:=by cases h:i0 g (ln ([]:List a)) with|false=>rfl|true=>have:=zG.1 h;simp[ln] at this;omega
def z3K {m:List LI}(h:∀c∈m,zcs c=true)(p c:Int):zk (cellAt m p c) 0 99=true:=by unfold cellAt ziJ;cases b:i0 p (ln m) with|false=>rfl|true=>rw[cond_true];(cases a:i0 c (ln<|ix m p []) with|false=>rfl|true=>rw[cond_true];exact(zto.1<|h _<|zmx b []).1 _ (zmx a 0))
def HOk.seenG {h:ad}(H:HOk h){m g:Int}(a:i0 m (ln h.aa)=true)(hg:i0 g (ln (ix h.aa m mZ).ac)=true):GOk (gOf h m g):=H.guest a hg
def zVn {h:ad}(S:Safe h){m g:Int}(i:i0 m (ln h.aa)=true)(hg:i0 g (ln (ix h.aa m mZ).ac)=true)(w:Bool)(B:zbe (gOf h m g)=bif w then 4 else 3) :
 SimT h (zkA (znG h m g (gOf h m g) w) m g (gOf h m g) w) m (λb=>zoG b g (gOf h m g) w):=by
 have X:=S.ok.seenG i hg;have t:=z7X X B (by cases w<;>simp)
 have n:=z7Y t.1 t.2;have z:zcd w=1\/zcd w=2:=by cases w<;>simp [zcd]
 unfold zkA znG;cases k:zb9 h m g (zbk<|E0<|gOf h m g) (zcd w) with
 |false=>have e:lookOf h h.ao m g (zbk<|E0<|gOf h m g) (zcd w) false=(h,-1,false):=(by unfold lookOf;rw[k];rfl);have q:zf5 (gOf h m g).av (zbk<|E0<|gOf h m g) (zcd w)=false:=(by cases y:zf5 (gOf h m g).av (zbk<|E0<|gOf h m g) (zcd w) with|false=>rfl|true=>exact Bool.noConfusion (k.symm.trans<|zrt.2 ⟨zkE.2 ⟨S.ok,i,hg⟩,z,y⟩));rw[e];refine(zq5 S i hg<|zkd X<|zY4 n.1 w).congr ?_;unfold zoG;rw[q];rfl
 |true=>obtain⟨L,x⟩:=zPY S false k S.rt.e1;obtain⟨_,_,j⟩:=zrt.1 k;have c:zf5 (gOf h m g).av (zbk<|E0<|gOf h m g) (zcd w)=true:=j;have W:=walked X j;rw[x,cond_true];have l:=L.op.safe S;have f:i0 m (ln (lookOf h h.ao m g (zbk<|E0<|gOf h m g) (zcd w) false).1.aa)=true:=(by rw[L.op.like.has];exact i);have a:=L.op.like.g m i;have C:i0 (zcN (zc1 h m g) (zbk<|E0<|gOf h m g)<|zcd w) 8=true:=W.q8;obtain⟨u,v⟩:=zww l f C L.inn L.ne (zdp<|E0<|gOf h m g) (gOf h m g).A;rw[L.op.like.seen m] at v;cases w with|true=>rw[cond_true];have r:=L.op.sim S m;have p:i0 m (ln ({ (lookOf h h.ao m g (zbk<|E0<|gOf h m g) (zcd true) false).1 with ag:=zbN (lookOf h h.ao m g (zbk<|E0<|gOf h m g) (zcd true) false).1.ag (lookOf h h.ao m g (zbk<|E0<|gOf h m g) (zcd true) false).2.1 (zdp<|E0<|gOf h m g) (gOf h m g).A}:ad).aa)=true:=f;have d:i0 g (ln (ix ({ (lookOf h h.ao m g (zbk<|E0<|gOf h m g) (zcd true) false).1 with ag:=zbN (lookOf h h.ao m g (zbk<|E0<|gOf h m g) (zcd true) false).1.ag (lookOf h h.ao m g (zbk<|E0<|gOf h m g) (zcd true) false).2.1 (zdp<|E0<|gOf h m g) (gOf h m g).A}:ad).aa m mZ).ac)=true:=(by show i0 g (ln (ix (lookOf h h.ao m g (zbk<|E0<|gOf h m g) (zcd true) false).1.aa m mZ).ac)=true;rw[a];exact hg);have s:GKeep (gOf { (lookOf h h.ao m g (zbk<|E0<|gOf h m g) (zcd true) false).1 with ag:=zbN (lookOf h h.ao m g (zbk<|E0<|gOf h m g) (zcd true) false).1.ag (lookOf h h.ao m g (zbk<|E0<|gOf h m g) (zcd true) false).2.1 (zdp<|E0<|gOf h m g) (gOf h m g).A} m g) (zch<|gOf h m g):=(by have:gOf { (lookOf h h.ao m g (zbk<|E0<|gOf h m g) (zcd true) false).1 with ag:=zbN (lookOf h h.ao m g (zbk<|E0<|gOf h m g) (zcd true) false).1.ag (lookOf h h.ao m g (zbk<|E0<|gOf h m g) (zcd true) false).2.1 (zdp<|E0<|gOf h m g) (gOf h m g).A} m g=gOf h m g:=(by show ix (ix (lookOf h h.ao m g (zbk<|E0<|gOf h m g) (zcd true) false).1.aa m mZ).ac g gZ=_;rw[a];rfl);rw[this];exact zkc X);refine((r.trans u).trans (zq5 u.safe p d s)).congr ?_;unfold zoG;rw[c];rfl|false=>rw[cond_false];have r:=L.op.sim S m;have d:i0 g (ln (ix (lookOf h h.ao m g (zbk<|E0<|gOf h m g) (zcd false) false).1.aa m mZ).ac)=true:=(by rw[a];exact hg);have s:GKeep (gOf (lookOf h h.ao m g (zbk<|E0<|gOf h m g) (zcd false) false).1 m g) (loaded (gOf h m g)<|cellAt (lookOf h h.ao m g (zbk<|E0<|gOf h m g) (zcd false) false).1.ag (lookOf h h.ao m g (zbk<|E0<|gOf h m g) (zcd false) false).2.1<|zdp<|E0<|gOf h m g):=(by have:gOf (lookOf h h.ao m g (zbk<|E0<|gOf h m g) (zcd false) false).1 m g=gOf h m g:=(by show ix (ix (lookOf h h.ao m g (zbk<|E0<|gOf h m g) (zcd false) false).1.aa m mZ).ac g gZ=_;rw[a];rfl);rw[this];exact z1R X (z3K l.ok.pgs _ _));refine(r.trans<|zq5 l f d s).congr ?_;unfold zoG;rw[c,v];rfl
def z4J {h r:ad}{m g:Int}(e:(ix r.aa m mZ).ac=(ix h.aa m mZ).ac):gOf r m g=gOf h m g:=by unfold gOf;rw[e]
def z9l (h:ad)(m:Int)(a:i0 m (ln h.aa)=true):(ix (owned h m).aa m mZ).ac=(ix h.aa m mZ).ac:=by unfold owned;cases ilt (ix h.aa m mZ).Own 1000000000 with|false=>rfl|true=>show (ix (up h.aa m _) m mZ).ac=_;rw[zbg a]
def z5f (h:ad)(m n:Int)(a:i0 m (ln h.aa)=true):(ix (zo8 h m n).aa m mZ).ac=(ix h.aa m mZ).ac:=by unfold zo8;cases ilt (ln (ix h.aa m mZ).Outs) 40 with|false=>rfl|true=>show (ix (up h.aa m _) m mZ).ac=_;rw[zbg a]
def z3b {h:ad}(S:Safe h){m:Int}(a:i0 m (ln h.aa)=true)(x:ah)(w:Int):SimT h (zhg h m x w) m id/\(ix (zhg h m x w).aa m mZ).ac=(ix h.aa m mZ).ac:=by unfold zhg;cases (cond (ine w 6) (ieq (zzE (ix h.aa m mZ).aq x.Ctl.aq<|zyH w) 2) false) with|false=>exact⟨SimT.refl S m,rfl⟩|true=>exact⟨z2Z S a,z9l h m a⟩
def z3a {h:ad}(S:Safe h){m:Int}(a:i0 m (ln h.aa)=true)(x:ah)(w:Int):SimT h (zhf h m x w) m (λb=>bif (cond (zlx x.Ctl.aq w) (ieq w 5) false) then zpa b (zcw x.aw x.Pc).X else b)/\(ix (zhf h m x w).aa m mZ).ac=(ix h.aa m mZ).ac:=by unfold zhf;cases (cond (zlx x.Ctl.aq w) (ieq w 5) false) with|false=>exact⟨SimT.refl S m,rfl⟩|true=>exact⟨z0n S a _,z5f h m _ a⟩
def zDI {h:ad}(S:Safe h){m g:Int}(d:i0 m (ln h.aa)=true)(hg:i0 g (ln (ix h.aa m mZ).ac)=true){w:Int}(l:zbe (gOf h m g)=w) :
 SimT h (zwA h m g (gOf h m g) w) m (λb=>zEt b g (gOf h m g) w):=by
 have X:=S.ok.seenG d hg;obtain⟨f,j⟩:=z3b S d (gOf h m g) w;have a:i0 m (ln (zhg h m (gOf h m g) w).aa)=true:=by rw[f.has];exact d
 obtain⟨i,k⟩:=z3a f.safe a (gOf h m g) w;have e:i0 m (ln (zhf (zhg h m (gOf h m g) w) m (gOf h m g) w).aa)=true:=by rw[i.has];exact a
 have c:i0 g (ln (ix (zhf (zhg h m (gOf h m g) w) m (gOf h m g) w).aa m mZ).ac)=true:=by rw[k,j];exact hg
 have n:GKeep (gOf (zhf (zhg h m (gOf h m g) w) m (gOf h m g) w) m g) (zkB (gOf h m g) (gOf h m g).Ctl.aq w):=by rw[z4J<|k.trans j];exact z4K X _ l
 exact((f.trans i).trans (zq5 i.safe e c n)).congr rfl
def z0C (x:ah):zbe x=0\/zbe x=1\/zbe x=2\/zbe x=3\/zbe x=4\/zbe x=5\/zbe x=6\/zbe x=7:=by unfold zbe zx1;cases canRun x<;>cases zjn x<;>cases ieq (zcw x.aw x.Pc).Op 3<;>cases ieq (zcw x.aw x.Pc).Op 4<;>cases ieq (zcw x.aw x.Pc).Op 5<;>cases ieq (zcw x.aw x.Pc).Op 6<;>cases ieq (zcw x.aw x.Pc).Op 7<;>simp
def zSJ {h:ad}(H:HOk h)(m g:Int):zmn (zM h m) g=bif zbZ h m g then !ieq (zbe<|gOf h m g) 0 else false:=by unfold zmn zbZ;rw[zk3.2 H,cond_true];cases a:i0 m (ln h.aa) with|false=>have:(zM h m).ac=[]:=(by unfold zM;rw[a];rfl);rw[this,zXR];rfl|true=>rw[cond_true,zyC H a,cond_true];have:(zM h m).ac=(ix h.aa m mZ).ac:=(by rw[zfK a]);rw[this];(cases hg:i0 g (ln (ix h.aa m mZ).ac) with|false=>rfl|true=>rw[cond_true,cond_true,zt8 a hg])
def step_ok {h:ad}(S:Safe h)(m g:Int):SimT h (zcv h m g).1 m (λb=>zi4 b g)/\(zcv h m g).2=zmn (zM h m) g:=by
 have a:=zSJ S.ok m g;unfold zcv;cases i:zbZ h m g with
 |false=>rw[i,cond_false]at a;refine⟨(SimT.refl S m).congr ?_,a.symm⟩;unfold zi4;rw[a];rfl
 |true=>rw[i,cond_true]at a;rw[cond_true];obtain⟨_,c,hg⟩:=zkE.1 i;have X:=S.ok.seenG c hg;have f:=zt8 c hg;have d:∀w,zbe (gOf h m g)=w->w≠0->zi4 (zM h m) g=stepped (zM h m) g (gOf h m g) w:=(by intro w j k;unfold zi4;rw[a,j,zbX.2 k,f,j];rfl);rcases z0C (gOf h m g) with e|e|e|e|e|e|e|e;{rw [e];rw[e]at a;refine⟨(SimT.refl S m).congr ?_,a.symm⟩;unfold zi4;rw[a];rfl};{rw [e]at a ⊢;exact⟨(zq5 S c hg<|zMW X).congr (d 1 e (by decide)).symm,a.symm⟩};{rw [e]at a ⊢;exact⟨(zq5 S c hg<|zZf X).congr (d 2 e (by decide)).symm,a.symm⟩};{rw [e]at a ⊢;exact⟨(zVn S c hg false e).congr (d 3 e (by decide)).symm,a.symm⟩};{rw [e]at a ⊢;exact⟨(zVn S c hg true e).congr (d 4 e (by decide)).symm,a.symm⟩};{rw [e]at a ⊢;exact⟨(zDI S c hg e).congr (d 5 e (by decide)).symm,a.symm⟩};{rw [e]at a ⊢;exact⟨(zDI S c hg e).congr (d 6 e (by decide)).symm,a.symm⟩};{rw [e]at a ⊢;exact⟨(zDI S c hg e).congr (d 7 e (by decide)).symm,a.symm⟩}
structure BackOk (b c:am):Prop where
 m:c.ag=b.ag
 o:c.Outs=b.Outs
 n:c.ac.length=b.ac.length
 g:∀j,i0 j (ln b.ac)=true->GKeep (ix b.ac j gZ) (ix c.ac j gZ)
 p:zdH b.ak=true->zdH c.ak=true
def z5y {h:ad}(S:Safe h){m:Int}(b:i0 m (ln h.aa)=true){c:am}(k:BackOk (zM h m) c):SimT h (zdi h m c) m (λ_=>c):=by have X:=S.ok.mon b;have f:=zfK b;have d:(zM h m).ac=(ix h.aa m mZ).ac:=(by rw[f]);have l:c.ac.length=(ix h.aa m mZ).ac.length:=(by rw[k.n,d]);have hg:∀j,i0 j (ln (ix h.aa m mZ).ac)=true->GKeep (ix (ix h.aa m mZ).ac j gZ) (ix c.ac j gZ):=λj a=>(by have:=k.g j (by rw[d];exact a);rwa [d] at this);have kp:KeepP (ix h.aa m mZ) (zvl (ix h.aa m mZ) c):=⟨rfl,rfl⟩;have s:zdH c.ak=true:=k.p (by rw[f];exact X.pend);refine⟨zwv S b kp (zlL X kp l rfl rfl X.outs s X.tr X.own λz t=>?_) l (λj a=>(hg j a).live) rfl,λi=>?_,zbQ _ _ _⟩;{obtain⟨j,a,rfl⟩:=zDc t gZ;exact ztE.2 (hg j (by unfold ln at a ⊢;rw[<- l];exact a)).ok};{refine(zuX (h:=h) (r:=zdi h m c) b rfl rfl kp i).trans ?_;by_cases e:i=m;{subst e;rw[zbw.2 rfl,cond_true,cond_true];show am.mk (zM h i).ag c.ac (ix h.aa i mZ).Outs c.ak=c;have u:=k.m;have q:=k.o;rw[f]at q;cases c;simp_all};{rw [zbX.2 e];rfl}}
def seen_none {h:ad}{m:Int}(a:i0 m (ln h.aa)=false):zM h m=⟨[],[],[],0⟩:=by unfold zM;rw[a];rfl
def ztG:zcb ⟨[],[],[],0⟩=false:=by decide
def ztV {b:am}(h:zcb b=false)(g:Int):zcg b g=false:=by unfold zcg;rw[h];rfl
def ziB {b:am}(h:zcb b=true):BackOk b b:=⟨rfl,rfl,rfl,λj a=>⟨ztE.1 (by
 unfold zcb at h;rw[zca,qN]at h;exact h.1 _ (zmx a _)),rfl⟩,id⟩
def z0N {b:am}(h:zcb b=true){g:Int}(hg:i0 g (ln b.ac)=true){y:ah}(k:GKeep (gAt b g) y):BackOk b (zeZ b g y):=by have e:gAt b g=ix b.ac g gZ:=(by unfold gAt;rw[hg];rfl);refine⟨rfl,rfl,zbQ _ _ _,λj c=>?_,id⟩;show GKeep _ (ix (up b.ac g y) j gZ);by_cases a:g=j;{subst a;rw[zbg hg,<- e];exact k};{rw [zbx (zG.1 hg).1 (zG.1 c).1 a];exact(ziB h).g j c}
def zr0 {b:am}(h:zcb b=true){g:Int}{c:Bool}{y:ah}(k:i0 g (ln b.ac)=true->c=true->GOk (gAt b g)->GKeep (gAt b g) y):BackOk b (chg b g c y):=by unfold chg zcg;rw[h,cond_true];cases hg:i0 g (ln b.ac) with|false=>exact ziB h|true=>rw[cond_true];(cases c with|false=>exact ziB h|true=>refine z0N h hg (k hg rfl ?_);have:=(ziB h).g g hg;unfold gAt;rw[hg];exact this.ok)
def zqM {h:ad}(S:Safe h)(m:Int){F:am->am}(d:∀b,zcb b=true->BackOk b (F b))(c:F ⟨[],[],[],0⟩=⟨[],[],[],0⟩):SimT h (zim h m<|F<|zM h m) m F:=by unfold zim zc2;rw[zk3.2 S.ok,cond_true];cases a:i0 m (ln h.aa) with|false=>refine(SimT.refl S m).congr ?_;rw[seen_none a];exact c.symm|true=>exact(z5y S a<|d _<|zyC S.ok a).congr rfl
def zlW {h:ad}(S:Safe h)(m:Int){t:am->Bool}(a:t ⟨[],[],[],0⟩=false):zg9 h m (t<|zM h m)=t (zM h m):=by unfold zg9 zc2;rw[zk3.2 S.ok,cond_true];cases b:i0 m (ln h.aa) with|false=>rw[cond_false,seen_none b,a]|true=>rfl
def zqs (g:Int)(c:Bool)(y:ah):chg ⟨[],[],[],0⟩ g c y=⟨[],[],[],0⟩:=by unfold chg;rw[ztV ztG];rfl
def zj8 (g:Int)(c:Bool):zci ⟨[],[],[],0⟩ g c=false:=by unfold zci;rw[ztV ztG];rfl
def zVp {t:List k0}{n q:Int}(h:zdb t n q=true){p:Int}{s:k0}(b:zd3 s q=true):zdb (zeN t p s) n q=true:=by
 unfold zeN;cases i0 p (ln t) with
 |false=>exact h
 |true=>rw[cond_true];rw[zrY]at h ⊢;rw[zd1];refine⟨λx c=>?_,h.2⟩;rcases qY c with a|a;{exact h.1 x a};{rw [a];exact b}
def z8M {x:ah}(X:GOk x){p:Int}{s:k0}(h:zxc p s=true):GKeep x (zDF x p s):=by unfold zxc at h;rw[zca]at h;exact⟨⟨X.prog,X.a,X.pc,zVp X.w h.2,X.l,X.ctl,X.pend,X.ex,X.seen⟩,rfl⟩
def z8J {x:ah}(X:GOk x){v:Int}(h:zwO x v=true):GKeep x (zyY x v):=by unfold zwO at h;rw[zca]at h;unfold zyY;cases ieq x.Exit.Kind 2 with|true=>rw[cond_true];have b:=zkd (zZd X h.1) (e:=zlP) rfl;have a:=zkc b.ok;exact⟨a.ok,a.live⟩|false=>rw[cond_false];have b:=zkd X (e:=zlP) rfl;have a:=zkc b.ok;exact⟨a.ok,a.live.trans b.live⟩
def z8L {x:ah}(X:GOk x):GKeep x (zzK x):=by unfold zzK;have a:=zkd X (e:=zlP) rfl;cases ieq x.Exit.Kind 1 with|true=>exact a|false=>have b:=zXK a.ok;exact⟨b.ok,b.live.trans a.live⟩
def zXL {x:ah}(X:GOk x)(n:Int):GKeep x (zo4 x n):=zXM X (zQe X.pend n)
def z8K {x:ah}(X:GOk x){c:Ctl}(h:zmp c=true):GKeep x (zMP x c):=⟨⟨X.prog,X.a,X.pc,X.w,X.l,h,X.pend,X.ex,X.seen⟩,rfl⟩
def zCk (n:Int):∀(d:LI) (b:am) (l:List ah),(∀k∈d,i0 k (ln b.ac)=true)->BackOk b {b with ac:=l}->BackOk b {b with ac:=zmC n d l}
 |[],b,l,_,h=>h
 |k::d,b,l,q,h=>by show BackOk b {b with ac:=zmC n d (zEn n l k)};refine zCk n d b _ (λj a=>q j (qZ _ a)) ⟨h.m,h.o,by show (up l k _).length=_;rw[zbQ];exact h.n,λj a=>?_,h.p⟩;show GKeep _ (ix (up l k _) j gZ);have r:l.length=b.ac.length:=h.n;have c:i0 k (ln l)=true:=(by unfold ln;rw[r];exact q k jE);by_cases e:k=j;{subst e;rw[zbg c];have f:=h.g k a;have i:=zXL f.ok n;exact⟨i.ok,i.live.trans f.live⟩};{rw [zbx (zG.1 c).1 (zG.1 a).1 e];exact h.g j a}
def zYC {b:am}(h:zcb b=true)(n:Int):BackOk b (zlo b n):=by
 unfold zlo zf8 zEo;rw[h,cond_true];cases i0 n 8 with
 |false=>exact ziB h
 |true=>
  rw[cond_true];cases ieq (ln<|zeE b.ac n) 0 with
  |true=>have:=ziB h;exact⟨rfl,rfl,rfl,this.g,λc=>zQe c n⟩
  |false=>rw[cond_false];refine zCk n _ b b.ac (λk a=>?_) (ziB h);unfold zeE at a;obtain⟨j,e,rfl,_⟩:=(zIb (d:=gZ)).1 a;exact zG.2 ⟨by omega,by unfold ln;omega⟩
def z0M {b:am}(h:zcb b=true):BackOk b (znY b):=by unfold znY;rw[h,cond_true];exact⟨rfl,rfl,rfl,(ziB h).g,λa=>zQf a⟩
def z5o {h:ad}(S:Safe h)(m p c v:Int):SimT h (zn5 h m p c v) m (λb=>zSe b p c v)/\zfR h m p c v=zx3 (zM h m) p c v:=by have e:zfR h m p c v=zx3 (zM h m) p c v:=(by unfold zfR zx3 zcI z7L;rw[zk3.2 S.ok,cond_true];cases d:i0 m (ln h.aa) with|false=>rw[seen_none d,ztG];rfl|true=>rw[zyC S.ok d,cond_true];rfl);refine⟨?_,e⟩;unfold zn5;cases f:zfR h m p c v with|false=>refine(SimT.refl S m).congr ?_;unfold zSe;rw[<- e,f];rfl|true=>rw[cond_true];have a:=f;unfold zfR at a;rw[zca,zca]at a;obtain⟨k,_,_⟩:=a;obtain⟨_,d,j⟩:=zo9.1 k;have M:=zP7 S.ok (m:=m) (p:=p) 2 d j;have i:=M.op.sim S m;have g:i0 m (ln (D0 h m p 2).aa)=true:=(by rw[i.has];exact d);obtain⟨l,_⟩:=zww i.safe g j rfl M.inn c v;refine(i.trans l).congr ?_;unfold zSe;rw[<- e,f];rfl
def z2h {h:ad}(S:Safe h)(m g b a:Int):zb9 h m g b a=(cond (zcg (zM h m) g) (cond (zkG a) (zf5 (gAt (zM h m) g).av b a) false) false):=by have e:zbZ h m g=zcg (zM h m) g:=(by unfold zbZ zcg;rw[zk3.2 S.ok,cond_true];cases c:i0 m (ln h.aa) with|false=>rw[seen_none c,ztG,cond_false,cond_false]|true=>rw[cond_true,zyC S.ok c,cond_true];have:(zM h m).ac=(ix h.aa m mZ).ac:=(by rw[zfK c]);rw[this]);unfold zb9;rw[<- e];cases hg:zbZ h m g with|false=>rw[cond_false,cond_false]|true=>obtain⟨_,c,hg⟩:=zkE.1 hg;have:(gAt (zM h m) g).av=zc1 h m g:=(by rw[zt8 c hg];rfl);rw[this]
def zHu {h:ad}(S:Safe h)(m g a n:Int)(b:n=1\/n=2):zoV (zM h m) g a n=bif zk a 0 15 then zb9 h m g (zbk a) n else false:=by rw[z2h S];unfold zoV;rw[zGw.2 b,cond_true];cases zcg (zM h m) g<;>cases zk a 0 15<;>rfl
def zS2 {h:ad}(S:Safe h){m g a n:Int}(f:n=1\/n=2)(b:zoV (zM h m) g a n=true) :
 Looked h (zCZ h m g a n).1 m g (zbk a) n (zD1 (zM h m) g a n) (zCZ h m g a n).2.1/\i0 m (ln h.aa)=true/\i0 (zD1 (zM h m) g a n) 8=true:=by
 rw[zHu S m g a n f,zca]at b;obtain⟨L,_⟩:=zPY S true b.2 S.rt.e2;obtain⟨d,_,i⟩:=zrt.1 b.2;obtain⟨_,c,hg⟩:=zkE.1 d;have e:zD1 (zM h m) g a n=zcN (zc1 h m g) (zbk a) n:=by unfold zD1;rw[zt8 c hg];rfl
 rw[e];exact⟨L,c,(walked (S.ok.guest c hg) i).q8⟩
def zbak {h:ad}(S:Safe h)(m g a v:Int):SimT h (zqB h m g a v) m (λb=>zY1 b g a v)/\zhG h m g a v=zzd (zM h m) g a v:=by have e:zhG h m g a v=zzd (zM h m) g a v:=(by unfold zhG zzd;rw[zHu S m g a 2 (.inr rfl)];cases zk a 0 15<;>cases zk v 0 99<;>cases zb9 h m g (zbk a) 2<;>rfl);refine⟨?_,e⟩;unfold zqB;cases c:zhG h m g a v with|false=>refine(SimT.refl S m).congr ?_;unfold zY1;rw[<- e,c];rfl|true=>rw[cond_true];have f:zoV (zM h m) g a 2=true:=(by have:=e.symm.trans c;unfold zzd at this;exact(zca.1 this).1);obtain⟨L,i,j⟩:=zS2 S (.inr rfl) f;have d:=L.op.sim S m;obtain⟨k,_⟩:=zww d.safe (by rw[d.has];exact i) j L.inn L.ne (zdp a) v;refine(d.trans k).congr ?_;unfold zY1;rw[<- e,c];rfl
def z9o {h:ad}(S:Safe h)(m g a:Int):SimT h (zn6 h m g a) m id/\zgC h m g a=zoV (zM h m) g a 1/\zsf h m g a=zSi (zM h m) g a:=by have e:zgC h m g a=zoV (zM h m) g a 1:=(by unfold zgC;rw[zHu S m g a 1 (.inl rfl)]);unfold zn6 zsf zSi;rw[e];cases d:zoV (zM h m) g a 1 with|false=>exact⟨SimT.refl S m,rfl,rfl⟩|true=>obtain⟨L,f,i⟩:=zS2 S (.inl rfl) d;have b:=L.op.sim S m;obtain⟨_,c⟩:=zww b.safe (by rw[b.has];exact f) i L.inn L.ne (zdp a) 0;rw[L.op.like.seen m] at c;exact⟨b,rfl,c⟩
end
end Go.Proofs.YtapgkefgcbapcaaGreat.E
