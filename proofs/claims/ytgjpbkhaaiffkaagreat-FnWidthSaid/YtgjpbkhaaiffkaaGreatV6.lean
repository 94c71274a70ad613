/- What is proved here: a part of the proof that the statement of this claim holds (several texts of wip/, laid together). -/
import Derived.Test.YtgjpbkhaaiffkaaGreatV5
namespace Go.Proofs.YtgjpbkhaaiffkaaGreat.E
open Go
set_option linter.constructorNameAsVariable false
set_option linter.unusedVariables false
set_option maxRecDepth 100000
set_option linter.unusedSimpArgs false
set_option linter.unusedSectionVars false
noncomputable section
def zXg:zS:=zXe
theorem zMd:zL zXg:=zXf
theorem zyb:∀(n i:Nat) (t:List Mon),i+n<=t.length->zp3 t->zp3 (znm n i t)
 | 0,_,_,_,h=>h
 |n+1,i,t,hn,h=>by have hi:i<t.length:=(by omega);refine zyb n (i+1) _ (by rw[zgZ];omega) (zja h<|zIA ?_ (by omega));rw[zbg hi];exact h.2 _ (jG hi)
theorem z0u {h:Host}(hs:SmH h):SmH (cold h):=⟨hs.1,zyb _ _ _ (by omega) hs.2.1,by simp[cold],by simp[cold]⟩
theorem zmT {h:Host}{m:Int}{b:Bare}(hs:SmH h)(hb:zcM h m=true->SmB b):SmH (zhN h m b):=by unfold zhN;cases h0:zcM h m;{exact hs};{exact zE7 hs (zcx.1 h0).2 (hb h0).2.1}
theorem zYG {h:Host}{m g p:Int}(hs:SmH h):SmH (zkq h m g p):=by unfold zkq;cases h0:zcM h m;{exact hs};{cases hk:zcc (zy h m) g (hasB p 4);{exact hs};{have hm:=(zcx.1 h0).2;have hv:=zE6 hs hm;have hb:SmB (chg (zy h m) g (hasB p 4)<|zd2 (gAt (zy h m) g) p):=zph hv (zIw _<|zi2 _ hv);have h1:=zE7 hs hm hb.2.1;have h2:=zO4 (chg (zy h m) g (hasB p 4)<|zd2 (gAt (zy h m) g) p) hm;have h3:=zMk hs h0 (chg (zy h m) g (hasB p 4)<|zd2 (gAt (zy h m) g) p) hk;have hx:=h1.2.1.2 _ (zby h2 mZ);simp only[cT];exact⟨h1.1,zja h1.2.1 ⟨hx.1,hx.2.1,hx.2.2.1,hx.2.2.2.1,hx.2.2.2.2.1,zvS hx.2.2.2.2.2<|zoD<|hx.2.2.2.2.2.2 _<|zby h3 _⟩,jB (zwl _ _ _) h1.2.2.1,jB (zwl _ _ _) h1.2.2.2⟩}}
theorem z0v {h:Host}{m p c v:Int}(hs:SmH h):SmH (zmF h m p c v):=by unfold zmF;cases hf:zfC h m p c v;{exact hs};{have h0:zb3 h m p=true:=(by unfold zfC at hf;cases hp:zb3 h m p;{rw [hp]at hf;cases hf};{rfl});obtain⟨hh,hm,hp⟩:=zik.1 h0;have h1:=(zsI (n:=2) (ze3 hs hh) hm hp).1.1;exact⟨zw4 h1.1,h1.2⟩}
theorem zQQ {h:Host}{m g page need:Int}(b:List Entry)(io:Bool)(hs:SmH h)(hl:zbO h m g page need=true):SmH (lookOf h b m g page need io).1:=by have hg:zbK h m g=true:=(by unfold zbO at hl;cases h1:zbK h m g;{rw [h1]at hl;cases hl};{rfl});exact(zrH hs hg).shape.1
theorem z3W {h:Host}{m g a v:Int}(hs:SmH h):SmH (zoT h m g a v):=by unfold zoT;cases hf:zha h m g a v;{exact hs};{have hl:zbO h m g (zbc a) 2=true:=(by unfold zha at hf;cases h1:zi a 0 15;{rw [h1]at hf;cases hf};{cases h2:zi v 0 99;{rw [h1,h2]at hf;cases hf};{rw [h1,h2]at hf;exact hf}});have h1:=zQQ h.IoBuffer true hs hl;exact⟨zw4 h1.1,h1.2⟩}
theorem z0w {h:Host}{m g a:Int}(hs:SmH h):SmH (zmG h m g a):=by unfold zmG;cases hf:zgc h m g a;{exact hs};{have hl:zbO h m g (zbc a) 1=true:=(by unfold zgc at hf;cases h1:zi a 0 15;{rw [h1]at hf;cases hf};{rw [h1]at hf;exact hf});exact zQQ h.IoBuffer true hs hl}
theorem zUw {h:Host}{m p:Int}(hs:SmH h):SmH (zeH h m p):=by unfold zeH;cases h0:zb3 h m p;{exact hs};{obtain⟨hh,hm,hp⟩:=zik.1 h0;cases zg5 h m p;{exact(zIr (ze3 hs hh).1 hm).1};{exact hs}}
theorem z5g {h:Host}{m p:Int}(hs:SmH h):SmH (zsj h m p):=by unfold zsj;cases h0:zb3 h m p;{exact hs};{obtain⟨hh,hm,hp⟩:=zik.1 h0;cases zg5 h m p;{exact hs};{exact(zjL (ze3 hs hh) hm hp).1.1}}
theorem zYK {h:Host}{m t:Int}(hs:SmH h):SmH (zjy h m t):=by unfold zjy;cases zb1 h;{exact hs};{cases hm:hasB m (ln h.Mons);{exact hs};{cases zi t 0 3;{exact hs};{have hx:zfY (ix h.Mons m mZ):=hs.2.1.2 _ (zby hm mZ);exact⟨hs.1,zja hs.2.1 ⟨hx.1,hx.2.1,hx.2.2.1,hx.2.2.2.1,hx.2.2.2.2.1,hx.2.2.2.2.2⟩,hs.2.2⟩}}}
def zse (h:Host)(a:GAct):Host:=bif ieq a.Kind 1 then (zbL h a.M a.G).1 else (cond (ieq a.Kind 2) (zlW h a.M a.G a.X ⟨a.Y,a.Z⟩)<|cond (ieq a.Kind 3) (zkq h a.M a.G a.X)<|cond (ieq a.Kind 4) (ziM h a.M a.G a.X)<|cond (ieq a.Kind 5) (ziQ h a.M a.G)<|cond (ieq a.Kind 6) (ziO h a.M a.G a.X)<|cond (ieq a.Kind 7) (zlU h a.M a.G ⟨a.X,a.Y,ieq a.Z 1⟩)<|cond (ieq a.Kind 8) (zmF h a.M a.X a.Y a.Z)<|cond (ieq a.Kind 9) (zkv h a.M a.X)<|cond (ieq a.Kind 10) (zlR h a.M)<|cond (ieq a.Kind 11) (zoT h a.M a.G a.X a.Y)<|zmG h a.M a.G a.X)
def zzF (h:Host)(a:GAct):Told:=bif ieq a.Kind 1 then ⟨(zbL h a.M a.G).2,0⟩ else (cond (ieq a.Kind 2) ⟨zlX h a.M a.G a.X ⟨a.Y,a.Z⟩,0⟩<|cond (ieq a.Kind 3) ⟨zjF h a.M a.G a.X,0⟩<|cond (ieq a.Kind 4) ⟨ziN h a.M a.G a.X,0⟩<|cond (ieq a.Kind 5) ⟨ziR h a.M a.G,0⟩<|cond (ieq a.Kind 6) ⟨ziP h a.M a.G a.X,0⟩<|cond (ieq a.Kind 7) ⟨zlV h a.M a.G ⟨a.X,a.Y,ieq a.Z 1⟩,0⟩<|cond (ieq a.Kind 8) ⟨zfC h a.M a.X a.Y a.Z,0⟩<|cond (ieq a.Kind 9) ⟨zkw h a.M a.X,0⟩<|cond (ieq a.Kind 10) ⟨zlT h a.M,zlS h a.M⟩<|cond (ieq a.Kind 11) ⟨zha h a.M a.G a.X a.Y,0⟩<|⟨zgc h a.M a.G a.X,zqj h a.M a.G a.X⟩)
def zl1 (h:Host)(a:GAct):Host:=bif ieq a.Kind 13 then zeH h a.M a.X else (cond (ieq a.Kind 14) (zsj h a.M a.X)<|cond (ieq a.Kind 15) (zr8 h a.M a.X)<|cond (ieq a.Kind 16) (zjy h a.M a.X)<|cold h)
def zH6 (h:Host)(a:GAct):Told:=bif ieq a.Kind 13 then ⟨ztt h a.M a.X,0⟩ else (cond (ieq a.Kind 14) ⟨zEZ h a.M a.X,0⟩<|cond (ieq a.Kind 15) ⟨zb3 h a.M a.X,0⟩<|cond (ieq a.Kind 16) ⟨zw1 h a.M a.X,0⟩<|⟨true,0⟩)
def zeP (h:Host)(a:GAct):Host:=bif zi a.Kind 1 17 then (cond (zi a.Kind 13 17) (zl1 h a)<|zse h a) else h
def zjj (h:Host)(a:GAct):Told:=bif zi a.Kind 1 17 then (cond (zi a.Kind 13 17) (zH6 h a)<|zzF h a) else ⟨false,0⟩
theorem zYJ {h:Host}{a:GAct}(hs:SmH h):SmH (zl1 h a):=by unfold zl1;cases ieq a.Kind 13;{cases ieq a.Kind 14;{cases ieq a.Kind 15;{cases ieq a.Kind 16;{exact z0u hs};{exact zYK hs}};{exact zYH hs}};{exact z5g hs}};{exact zUw hs}
theorem zYI {h:Host}{a:GAct}(hs:SmH h):SmH (zse h a):=by have hv:zcM h a.M=true->SmB (zy h a.M):=λh0=>zE6 hs (zcx.1 h0).2;unfold zse;cases ieq a.Kind 1;{cases ieq a.Kind 2;{cases ieq a.Kind 3;{cases ieq a.Kind 4;{cases ieq a.Kind 5;{cases ieq a.Kind 6;{cases ieq a.Kind 7;{cases ieq a.Kind 8;{cases ieq a.Kind 9;{cases ieq a.Kind 10;{cases ieq a.Kind 11;{exact z0w hs};{exact z3W hs}};{exact zmT hs (λh0=>zUp (hv h0))}};{exact zmT hs (λh0=>zRD _ (hv h0))}};{exact z0v hs}};{exact zmT hs (λh0=>zUq _ _ (hv h0))}};{exact zmT hs (λh0=>zIt _ _ (hv h0))}};{exact zmT hs (λh0=>zIu _ (hv h0))}};{exact zmT hs (λh0=>zIs _ _ (hv h0))}};{exact zYG hs}};{exact zmT hs (λh0=>zUr _ _ _ (hv h0))}};{exact(zMO a.M a.G hs).sm}
theorem zUu {h:Host}{a:GAct}(hs:SmH h):SmH (zeP h a):=by unfold zeP;cases zi a.Kind 1 17;{exact hs};{cases zi a.Kind 13 17;{exact zYI hs};{exact zYJ hs}}
@[simp] abbrev zhL (h:Host)(a:GAct):Bool:=pc (zcJ h)
@[simp] abbrev zkO (h:Host)(a:GAct):Host:=zl1 h a
@[simp] abbrev zi1 (h:Host)(a:GAct):Told:=zH6 h a
def zvM:Run:=rF2 dH (dT .act) λb c=>(zhL b c,[aH<|zkO b c,aT .told<|zi1 b c])
def zy3 (N:Nat)(a0:Host)(a1:GAct):OA:=
 (cond (ieq a1.Kind 13) (oN (zgA a0 a1.M a1.X)<|some [aH<|zil a0 a1.M a1.X,.agg [.b<|zjW a0 a1.M a1.X,.i .i64 0]])<|cond (ieq a1.Kind 14) (oN (zgA a0 a1.M a1.X)<|some [aH<|zrt a0 a1.M a1.X,.agg [.b<|zru a0 a1.M a1.X,.i .i64 0]])<|cond (ieq a1.Kind 15) (oN (zgA a0 a1.M a1.X)<|some [aH<|ztJ a0 a1.M a1.X,.agg [.b<|zei a0 a1.M a1.X,.i .i64 0]])<|cond (ieq a1.Kind 16) (oN (zsE a0 a1.M a1.X)<|some [aH<|zon a0 a1.M a1.X,.agg [.b<|zoo a0 a1.M a1.X,.i .i64 0]])<|oN (zba a0)<|some [aH<|zRo a0,.agg [.b true,.i .i64 0]])
theorem zKT (a0:Host)(a1:GAct)(hc:zhL a0 a1=true):∃N,zy3 N a0 a1=some [aH<|zkO a0 a1,aT .told<|zi1 a0 a1]:=by have hs:=zK.1 hc;refine⟨0,?_⟩;unfold zy3 oN;refine br (λ_=>mu ?_) (λ_=>br (λ_=>mu ?_) λ_=>br (λ_=>mu ?_) λ_=>br (λ_=>mu ?_) λ_=>mu ?_);all_goals first|rfl|(simp only [*,zkO,zi1,zl1,zH6,cT,cF]<;>rfl)|simp_all[Ty.cells,zkO,zi1,zl1,zH6]
theorem zEF:vJ 318 zvM:=kF2 zMd zo zbS zc4 (zx []) zKT
def zXh:zS:=[(318,zvM),(101,zC9),(59,zxU),(110,zDa)]++zXg
theorem zMe:zL zXh:=zh zEF (zh zNd<|zh zG5<|zh zNe zMd)
@[simp] abbrev zl4 (h:Host)(a:GAct):Host:=zeP h a
@[simp] abbrev zl5 (h:Host)(a:GAct):Told:=zjj h a
def zxP:Run:=rF2 dH (dT .act) λb c=>(zhL b c,[aH<|zl4 b c,aT .told<|zl5 b c])
def zCl (N:Nat)(a0:Host)(a1:GAct):OA:=
 let y0:=(⟨a1.Y,a1.Z⟩:Slot); (oN (zm7 a1)<|cond (nB<|zvN a1) (oN (zba a0)<|some [aH<|zk a0,.agg [.b false,.i .i64 0]])<|oN (zuy a1.Kind)<|cond (zqo a1.Kind) (oN (zhL a0 a1)<|some [aH<|zkO a0 a1,.agg [.b (zi1 a0 a1).Ok,.i .i64 (zi1 a0 a1).N]])<|cond (ieq a1.Kind 1) (oN (zcH a0 a1.M a1.G)<|some [aH<|zb9 a0 a1.M a1.G,.agg [.b<|zca a0 a1.M a1.G,.i .i64 0]])<|cond (ieq a1.Kind 2) (oN (zux a0 a1.M a1.G a1.X y0)<|some [aH<|zlW a0 a1.M a1.G a1.X y0,.agg [.b<|zlX a0 a1.M a1.G a1.X y0,.i .i64 0]])<|cond (ieq a1.Kind 3) (oN (zqX a0 a1.M a1.G a1.X)<|some [aH<|zms a0 a1.M a1.G a1.X,.agg [.b<|zjF a0 a1.M a1.G a1.X,.i .i64 0]])<|cond (ieq a1.Kind 4) (oN (zpc a0 a1.M a1.G a1.X)<|some [aH<|ziM a0 a1.M a1.G a1.X,.agg [.b<|ziN a0 a1.M a1.G a1.X,.i .i64 0]])<|cond (ieq a1.Kind 5) (oN (zpe a0 a1.M a1.G)<|some [aH<|ziQ a0 a1.M a1.G,.agg [.b<|ziR a0 a1.M a1.G,.i .i64 0]])<|cond (ieq a1.Kind 6) (oN (zpd a0 a1.M a1.G a1.X)<|some [aH<|ziO a0 a1.M a1.G a1.X,.agg [.b<|ziP a0 a1.M a1.G a1.X,.i .i64 0]])<|cond (ieq a1.Kind 7) (oN (zm7 a1)<|oN (zuu a0 a1.M a1.G<|zpa a1)<|some [aH<|zlU a0 a1.M a1.G<|zpa a1,.agg [.b<|zlV a0 a1.M a1.G<|zpa a1,.i .i64 0]])<|cond (ieq a1.Kind 8) (oN (zsy a0 a1.M a1.X a1.Y a1.Z)<|some [aH<|zod a0 a1.M a1.X a1.Y a1.Z,.agg [.b<|zoe a0 a1.M a1.X a1.Y a1.Z,.i .i64 0]])<|cond (ieq a1.Kind 9) (oN (zsz a0 a1.M a1.X)<|some [aH<|zkv a0 a1.M a1.X,.agg [.b<|zkw a0 a1.M a1.X,.i .i64 0]])<|cond (ieq a1.Kind 10) (oN (zeQ a0 a1.M)<|some [aH<|zlR a0 a1.M,.agg [.b<|zlT a0 a1.M,.i .i64<|zlS a0 a1.M]])<|cond (ieq a1.Kind 11) (oN (zuv a0 a1.M a1.G a1.X a1.Y)<|some [aH<|zpS a0 a1.M a1.G a1.X a1.Y,.agg [.b<|zpT a0 a1.M a1.G a1.X a1.Y,.i .i64 0]])<|oN (zsA a0 a1.M a1.G a1.X)<|some [aH<|zof a0 a1.M a1.G a1.X,.agg [.b<|zoh a0 a1.M a1.G a1.X,.i .i64<|zog a0 a1.M a1.G a1.X]])
theorem zNP (a0:Host)(a1:GAct)(hc:zhL a0 a1=true):∃N,zCl N a0 a1=some [aH<|zl4 a0 a1,aT .told<|zl5 a0 a1]:=by
 have hs:=zK.1 hc;refine⟨0,?_⟩;unfold zCl oN nB;conv=>zeta
 refine must rfl (brN (λ_=>mu ?_) λ_=>must rfl (br (λ_=>mu ?_) λ_=>br (λ_=>mu ?_) λ_=>br (λ_=>mu ?_) λ_=>br (λ_=>mu ?_) λ_=>br (λ_=>mu ?_) λ_=>br (λ_=>mu ?_) λ_=>br (λ_=>mu ?_) λ_=>br (λ_=>must rfl (mu ?_)) λ_=>br (λ_=>mu ?_) λ_=>br (λ_=>mu ?_) λ_=>br (λ_=>mu ?_) λ_=>br (λ_=>mu ?_) λ_=>mu ?_));all_goals first|rfl|(simp only [*,zl4,zl5,zeP,zjj,zse,zzF,cT,cF]<;>rfl)|simp_all[Ty.cells,zl4,zl5,zeP,zjj,zse,zzF]
theorem zG0:vJ 270 zxP:=kF2 zMe zo zbS zc4 (zx []) zNP
def zXi:zS:=[(270,zxP)]++zXh
theorem zMf:zL zXi:=zh zG0 zMe
def zz8:List GAct->Host×List Told->Host×List Told
 |[],u=>u
 |a::l,u=>zz8 l (zeP u.1 a,ap u.2 [zjj u.1 a])
def zwy (ps:List (List<|List Ins))(l:List GAct):Host×List Told:=zz8 (l.take 80) (zfN ps,[])
abbrev HSt:Type:=(List Told)×(List<|List Int)×(List Mon)×(List Entry)×(List Entry)
def hOf (t:HSt):Host:=⟨t.2.1,t.2.2.1,t.2.2.2.1,t.2.2.2.2⟩
def tOf (u:Host×List Told):HSt:=(u.2,u.1.Memory,u.1.Mons,u.1.Buffer,u.1.IoBuffer)
def zwN (t:HSt):OA:=some [AV.agg<|zbf<|hOf t,AV.one<|.s .told t.1]
theorem zUv {ps:List (List<|List Ins)}(h:zF3 ps):SmH (zfN ps):=by refine⟨show SmM zVT from ⟨by decide,by decide⟩,⟨?_,?_⟩,by simp[zfN],by simp[zfN]⟩;{simp only [zfN,uL,vH];omega};{intro x hx;simp only[zfN,jC]at hx;obtain⟨p,hp,rfl⟩:=hx;have hps:=h.2 p (jW hp);refine⟨show zsK.length<=1048576 by decide,show SmM zKX from ⟨by decide,by decide⟩,show (rp 8 false).length<=1048576 by decide,⟨?_,?_⟩,by simp[zgY],⟨?_,?_⟩⟩;{simp only [zgY,uL,vH];omega};{intro y hy;simp only[zgY,jC]at hy;obtain⟨q,hq,rfl⟩:=hy;exact⟨hps.2 q<|jW hq,show zkQ.length<=1048576 by decide,show zkQ.length<=1048576 by decide,by simp[ze9]⟩};{simp only [zgY,uL,vH];omega};{intro y hy;simp only[zgY,jC]at hy;obtain⟨q,hq,rfl⟩:=hy;exact⟨show (rp 4 false).length<=1048576 by decide,show zkQ.length<=1048576 by decide⟩}}
theorem zCV {c:Host->GAct->Bool}(hc:∀h a,SmH h->c h a=true)(m:Nat):∀(l:List GAct) (i:Nat) (u:Host×List Told),SmH u.1->u.2.length+l.length<=2147483648->
 goL (λ(i:Nat) x (t:HSt) κ=>bif ilt (i:Int) (m:Int) then (cond (c (hOf t) x) (cond (few<|ln<|ap t.1 [zjj (hOf t) x]) (κ (ap t.1 [zjj (hOf t) x],(zeP (hOf t) x).Memory,(zeP (hOf t) x).Mons,(zeP (hOf t) x).Buffer,(zeP (hOf t) x).IoBuffer)) none) none) else zwN t) zwN l i (tOf u)=zwN (tOf<|zz8 (l.take<|m-i) u)
 |[],i,u,_,_=>by simp[goL,zz8]
 |a::l,i,u,hs,hn=>by simp only[qV]at hn;have hf:few (ln<|ap u.2 [zjj u.1 a])=true:=zgt (by simp[ap];omega);have hh:hOf (tOf u)=u.1:=rfl;have h2:(tOf u).1=u.2:=rfl;by_cases h:i<m;{have hi:ilt (i:Int) (m:Int)=true:=qJ (by omega);simp only[goL,hi,hh,h2,hf,hc _ _ hs,cT];refine(zCV hc m l (i+1) (zeP u.1 a,ap u.2 [zjj u.1 a]) (zUu hs) (by simp[ap];omega)).trans ?_;rw[show m-i=m-(i+1)+1 by omega];rfl};{have hi:ilt (i:Int) (m:Int)=false:=qG (by omega);simp only[goL,hi,cF];rw[show m-i=0 by omega];rfl}
@[simp] abbrev zsx (ps:List (List<|List Ins))(l:List GAct):Bool:=pc (zF3 ps/\l.length<=1048576)
@[simp] abbrev zsw (ps:List (List<|List Ins))(l:List GAct):Host:=(zwy ps l).1
@[simp] abbrev zAk (ps:List (List<|List Ins))(l:List GAct):List Told:=(zwy ps l).2
def zvA:Run:=rF2 (dS<|.sl<|.sl .ins) (dS .act) λb c=>(zsx b c,[aH<|zsw b c,aS .told<|zAk b c])
def zyN (N:Nat)(a0:lQ)(a1:lA):OA:=
 (oN (zuw a0)<|iter (σ:=(Int×lA×lT×lM×lN×lE×lE×lM×lN×lE×lE×Unit)) N (λr3 s4=>let y1:=ix s4.2.1 s4.1 z5R;let y0:=(⟨s4.2.2.2.2.2.2.2.1,s4.2.2.2.2.2.2.2.2.1,s4.2.2.2.2.2.2.2.2.2.1,s4.2.2.2.2.2.2.2.2.2.2.1⟩:Host);let y3:=ap s4.2.2.1 [zl5 y0 y1];let y2:=zl4 y0 y1; (cond (ilt s4.1<|ln s4.2.1) (cond (ilt s4.1 80) (oN (inb s4.1<|ln s4.2.1)<|oN (zhL y0 y1)<|oN (few<|ln y3)<|r3 (zD .i64 s4.1 1,s4.2.1,y3,s4.2.2.2.1,s4.2.2.2.2.1,s4.2.2.2.2.2.1,s4.2.2.2.2.2.2.1,y2.Memory,y2.Mons,y2.Buffer,y2.IoBuffer,()))<|some [aH y0,aS .told s4.2.2.1])<|some [aH y0,aS .told s4.2.2.1])) (0,a1,[],[],[],[],[],(zhh a0).Memory,(zhh a0).Mons,(zhh a0).Buffer,(zhh a0).IoBuffer,()))
def zLo:=zx [(160,0,{n:=39,tm:=[(1,.sl 0 []),(4,.lp 0 0),(6,.lp 1 0),(7,.sl 1 []),(8,ti)],lo:=[(0,[.sl 2 [],.sl 3 [],.sl 4 [],.sl 5 []]),(1,[.sl 6 [],.sl 7 [],.sl 8 [],.sl 9 []])],ro:=[(0,.act,false),(1,.told,true),(2,.sl .int,true),(3,.mon,true),(4,.entry,true),(5,.entry,true),(6,.sl .int,true),(7,.mon,true),(8,.entry,true),(9,.entry,true)]})]
theorem zKD (a0:List lP)(a1:List GAct)(hc:zsx a0 a1=true):∃N,zyN N a0 a1=some [aH<|zsw a0 a1,aS .told<|zAk a0 a1]:=by
 obtain⟨hs,hl1⟩:=zK.1 hc;have hl:=zct hl1;refine zb0 λN hNN=>?_;unfold zyN oN;conv=>zeta
 refine must (zbp hs) ?_;refine(zbd a1 (λi (t:lT×lM×lN×lE×lE)=>((i:Int),a1,t.1,[],[],[],[],t.2.1,t.2.2.1,t.2.2.2.1,t.2.2.2.2,())) _ (λi (x:GAct) (t:HSt) κ=>bif ilt (i:Int) ((80:Nat):Int) then (cond (zhL (hOf t) x) (cond (few<|ln<|ap t.1 [zjj (hOf t) x]) (κ (ap t.1 [zjj (hOf t) x],(zeP (hOf t) x).Memory,(zeP (hOf t) x).Mons,(zeP (hOf t) x).Buffer,(zeP (hOf t) x).IoBuffer)) none) none) else zwN t) (λ(t:lT×lM×lN×lE×lE)=>some [.agg<|zbf (⟨t.2.1,t.2.2.1,t.2.2.2.1,t.2.2.2.2⟩:Host),.one<|.s .told t.1]) (λi hi t rec=>?_) (λt rec=>?_) _ ([],(zhh a0).Memory,(zhh a0).Mons,(zhh a0).Buffer,(zhh a0).IoBuffer)<|hNN hl.1).trans ?_;{simp only [zbv hi,zY hi,zbg hi,zU hi hl.1,cT];rfl};{simp only [zbm,cF]};exact zCV (λh a hh=>zbp ((zM h).2 hh)) 80 a1 0 (zfN a0,[]) (zUv hs) (by simpa using hl.2)
theorem zEl:vJ 160 zvA:=kF2 zMf zo zbS zc4 zLo zKD
def zPj:zS:=[(160,zvA)]++zXi
theorem zuh:zL zPj:=zh zEl zMf
def zF6 (b:Bare)(a:GAct):Bare:=bif ieq a.Kind 1 then zd0 b a.G else (cond (ieq a.Kind 2) (chg b a.G (zuA a.X ⟨a.Y,a.Z⟩)<|zAr (gAt b a.G) a.X ⟨a.Y,a.Z⟩)<|cond (ieq a.Kind 3) (chg b a.G (hasB a.X 4)<|zd2 (gAt b a.G) a.X)<|cond (ieq a.Kind 4) (chg b a.G (zt9 (gAt b a.G) a.X)<|zv3 (gAt b a.G) a.X)<|cond (ieq a.Kind 5) (chg b a.G (zz6<|gAt b a.G)<|zwU<|gAt b a.G)<|cond (ieq a.Kind 6) (chg b a.G (zhJ (gAt b a.G).Pending a.X)<|znw (gAt b a.G) a.X)<|cond (ieq a.Kind 7) (chg b a.G (zk4 ⟨a.X,a.Y,ieq a.Z 1⟩)<|zI5 (gAt b a.G) ⟨a.X,a.Y,ieq a.Z 1⟩)<|cond (ieq a.Kind 8) (zOE b a.X a.Y a.Z)<|cond (ieq a.Kind 9) (zj9 b a.X)<|cond (ieq a.Kind 10) (zmy b)<|cond (ieq a.Kind 11) (zVn b a.G a.X a.Y)<|b)
def zF7 (b:Bare)(a:GAct):Told:=bif ieq a.Kind 1 then ⟨zf3 b a.G,0⟩ else (cond (ieq a.Kind 2) ⟨zcc b a.G<|zuA a.X ⟨a.Y,a.Z⟩,0⟩<|cond (ieq a.Kind 3) ⟨zcc b a.G<|hasB a.X 4,0⟩<|cond (ieq a.Kind 4) ⟨zcc b a.G<|zt9 (gAt b a.G) a.X,0⟩<|cond (ieq a.Kind 5) ⟨zcc b a.G<|zz6<|gAt b a.G,0⟩<|cond (ieq a.Kind 6) ⟨zcc b a.G<|zhJ (gAt b a.G).Pending a.X,0⟩<|cond (ieq a.Kind 7) ⟨zcc b a.G<|zk4 ⟨a.X,a.Y,ieq a.Z 1⟩,0⟩<|cond (ieq a.Kind 8) ⟨zvo b a.X a.Y a.Z,0⟩<|cond (ieq a.Kind 9) ⟨zfO b a.X,0⟩<|cond (ieq a.Kind 10) ⟨zme b,zrT b⟩<|cond (ieq a.Kind 11) ⟨zwi b a.G a.X a.Y,0⟩<|⟨znp b a.G a.X 1,zOI b a.G a.X⟩)
def zF8 (l:List Bare)(a:GAct):List Bare:=bif zi a.Kind 1 17 then (cond (zi a.Kind 13 17) l<|cond (hasB a.M<|ln l) (up l a.M<|zF6 (ix l a.M zIY) a) l) else l
def zUS (l:List Bare)(a:GAct):Told:=bif zi a.Kind 1 17 then (cond (zi a.Kind 13 17) ⟨false,0⟩<|cond (hasB a.M<|ln l) (zF7 (ix l a.M zIY) a)<|cond (ieq a.Kind 10) ⟨false,-1⟩ ⟨false,0⟩) else ⟨false,0⟩
theorem zC {i n:Int}:hasB i n=true↔0<=i/\i<n:=by unfold hasB;exact decide_eq_true_iff
theorem zcD {x a b:Int}:zi x a b=true↔a<=x/\x<=b:=by simp[zi,ige,ile]
theorem zbj {x y:Int}:ieq x y=true↔x=y:=by simp[ieq]
theorem zAX {x y:Int}:ine x y=true↔x≠y:=by simp[ine]
theorem zbM {x y:Int}:ieq x y=false↔x≠y:=by simp[ieq]
theorem zb8 {a b:Bool}:(cond a b false)=true↔a=true/\b=true:=by cases a<;>simp
theorem zbG {α:Type}(l:List α)(i:Int)(x:α):(up l i x).length=l.length:=by simp[up]
theorem zdU {α:Type}(l:List α)(i:Int)(x:α):ln (up l i x)=ln l:=by simp[up,ln]
theorem zwI {α:Type}{l:List α}{i:Int}(h:hasB i (ln l)=true)(d:α):∃k:Nat,∃hk:k<l.length,i=(k:Int)/\ix l i d=l[k]:=by rw[zC]at h;unfold ln at h;refine⟨i.toNat,by omega,by omega,?_⟩;simp[ix,List.getD,qB (show i.toNat<l.length by omega)]
theorem zkt {α:Type}{l:List α}{k:Nat}(h:k<l.length)(d:α):ix l (k:Int) d=l[k]:=by simp[ix,List.getD,qB h]
theorem zlb {α:Type}{l:List α}{i:Int}(h:hasB i (ln l)=true)(d:α):ix l i d∈l:=by obtain⟨k,hk,_,e⟩:=zwI h d;rw[e];exact jG hk
theorem zQT {α:Type}{l:List α}{x:α}(h:x∈l)(d:α):∃i,hasB i (ln l)=true/\ix l i d=x:=by obtain⟨k,hk,e⟩:=List.mem_iff_getElem.1 h;exact⟨(k:Int),zC.2 (by unfold ln;omega),(zkt hk d).trans e⟩
theorem zZ {α:Type}{l:List α}{i:Int}(h:hasB i (ln l)=true)(x d:α):ix (up l i x) i d=x:=by rw[zC]at h;unfold ln at h;simp[ix,up,List.getD,show i.toNat<l.length by omega]
theorem zbo {α:Type}{l:List α}{i j:Int}(hi:0<=i)(hj:0<=j)(h:i≠j)(x d:α):ix (up l i x) j d=ix l j d:=by have:i.toNat≠j.toNat:=(by omega);simp[ix,up,List.getD,jD,this]
theorem zYR {α:Type}(l:List α)(i:Int)(x y:α):up (up l i x) i y=up l i y:=by simp[up]
theorem zKU {α:Type}{l m:List α}(d:α)(h:l.length=m.length)(e:∀i,hasB i (ln l)=true->ix l i d=ix m i d):l=m:=by refine vI h λk h1 h2=>?_;have:=e (k:Int) (zC.2 (by unfold ln;omega));rwa [zkt h1,zkt h2] at this
theorem zFe {α:Type}{l:List α}{i:Int}(h:hasB i (ln l)=true)(d:α):up l i (ix l i d)=l:=by obtain⟨k,hk,rfl,e⟩:=zwI h d;rw[e];simp[up]
def cPg (x:Mon)(q:Int):Nat:=x.Outer.countP λs=>ieq s.Page q
def zfo (l:List Mon)(q:Int):Nat:=(l.map λx=>cPg x q).sum
theorem zL4 {α:Type}(P:α->Bool){l:List α}{i:Int}(h:hasB i (ln l)=true)(x d:α):(up l i x).countP P+(if P (ix l i d) then 1 else 0)=l.countP P+(if P x then 1 else 0):=by
 obtain⟨k,hk,rfl,e⟩:=zwI h d;rw[e];simp only[up,kV,List.countP_set hk];have:(if P l[k]=true then 1 else 0)<=l.countP P:=by
  split
  .rename_i hp;exact List.countP_pos_iff.2 ⟨l[k],jG hk,hp⟩
  .omega
 omega
theorem zvT {l:List Mon}{m:Int}(h:hasB m (ln l)=true)(x:Mon)(q:Int):zfo (up l m x) q+cPg (ix l m mZ) q=zfo l q+cPg x q:=by obtain⟨k,hk,rfl,e⟩:=zwI h mZ;rw[e];clear h e;unfold up;simp only[kV];induction l generalizing k with|nil=>simp at hk|cons y l ih=>(cases k with|zero=>simp[zfo];omega|succ k=>have:=ih k (by simpa using hk);simp[zfo] at this ⊢;omega)
theorem zDD {l:List Mon}{m p:Int}(hm:hasB m (ln l)=true)(hp:hasB p (ln (ix l m mZ).Outer)=true):1<=zfo l (ix (ix l m mZ).Outer p sZ).Page:=by have h1:1<=cPg (ix l m mZ) (ix (ix l m mZ).Outer p sZ).Page:=List.countP_pos_iff.2 ⟨_,zlb hp sZ,by simp[ieq]⟩;have:=zvT hm (⟨[],[],[],[],[],0,0,[],0⟩:Mon) (ix (ix l m mZ).Outer p sZ).Page;have e0:cPg (⟨[],[],[],[],[],0,0,[],0⟩:Mon) (ix (ix l m mZ).Outer p sZ).Page=0:=rfl;omega
theorem zY2 {l:List Mon}{m p n k:Int}{q:Int}(hm:hasB m (ln l)=true)(hp:hasB p (ln (ix l m mZ).Outer)=true)(hn:hasB n (ln l)=true)(hk:hasB k (ln (ix l n mZ).Outer)=true)(e1:(ix (ix l m mZ).Outer p sZ).Page=q)(e2:(ix (ix l n mZ).Outer k sZ).Page=q)(h:zfo l q<=1):m=n/\p=k:=by have hm':=zC.1 hm;have hn':=zC.1 hn;have hp':=zC.1 hp;have hk':=zC.1 hk;have hne:¬ ieq q (q+1)=true:=(by simp[ieq];omega);obtain⟨y,hy⟩:∃y:Mon,y.Outer=up (ix l m mZ).Outer p ⟨q+1,0⟩:=⟨{ix l m mZ with Outer:=up (ix l m mZ).Outer p ⟨q+1,0⟩},rfl⟩;have c1:=zL4 (λs=>ieq s.Page q) hp (⟨q+1,0⟩:Slot) sZ;simp only[e1,show ieq q q=true by simp[ieq],show ieq (q+1) q=false by simp[ieq];omega,if_true,j8,if_false] at c1;have s1:=zvT hm y q;simp only[cPg,hy] at s1;have hz:zfo (up l m y) q=0:=(by omega);apply Classical.byContradiction;intro hc;have hpos:1<=zfo (up l m y) q:=(by by_cases hmn:m=n;{subst hmn;have hpk:p≠k:=λe=>hc ⟨rfl,e⟩;have:=zDD (l:=up l m y) (m:=m) (p:=k) (by rw[zdU];exact hm) (by rw[zZ hm,hy,zdU];exact hk);rw[zZ hm,hy,zbo hp'.1 hk'.1 hpk,e2] at this;exact this};{have:=zDD (l:=up l m y) (m:=n) (p:=k) (by rw[zdU];exact hn) (by rw[zbo hm'.1 hn'.1 hmn];exact hk);rw[zbo hm'.1 hn'.1 hmn,e2] at this;exact this});omega
theorem zrV {a b c:Bool}:(cond a b c)=true↔(a=true/\b=true)\/(a=false/\c=true):=by cases a<;>simp
def SOk (s:Slot):Prop:=s=noSlot\/(0<=s.Page/\s.Page<=11/\1<=s.Rights/\s.Rights<=3)
theorem zRC {a b:Slot}(h1:a.Page=b.Page)(h2:a.Rights=b.Rights):a=b:=by cases a;cases b;simp_all
theorem zoB {a b:Slot}:zcT a b=true↔a=b:=by simp only[zcT,qE,zbj];exact⟨λh=>zRC h.1 h.2,λh=>by rw[h];exact⟨rfl,rfl⟩⟩
theorem zqu {a b:Slot}:zcT a b=false↔a≠b:=by rw[<- Bool.not_eq_true,zoB]
theorem zUn {s:Slot}:zdV s 12=true↔SOk s:=by unfold zdV SOk;rw[zrV,zoB,zqu];have:wsub .i64 12 1=11:=(by decide);simp only[this,zrV,zcD];simp[igt];constructor;{rintro (h|⟨h,⟨h1,h2⟩,h3⟩);{exact .inl h};{exact .inr ⟨h1,h2,h3⟩}};{intro h;by_cases hs:s=noSlot;{exact .inl hs};{rcases h with h|⟨h1,h2,h3⟩;{exact .inl h};{exact .inr ⟨hs,⟨h1,h2⟩,h3⟩}}}
theorem SOk.none {s:Slot}(h:SOk s)(hp:s.Page = -1):s=noSlot:=by rcases h with h|h;{exact h};{omega}
theorem SOk.pos {s:Slot}(h:SOk s)(hp:s.Page≠-1):0<=s.Page/\s.Page<=11/\1<=s.Rights/\s.Rights<=3:=by rcases h with h|h;{rw [h]at hp;exact absurd rfl hp};{exact h}
structure MOk (x:Mon):Prop where
 g1:1<=x.Guests.length
 g2:x.Guests.length<=2
 gt:x.Tables.length=x.Guests.length
 o8:x.Outer.length=8
 sl:∀s∈x.Outer,SOk s
 u8:x.Out.length=8
 d8:x.Dirty.length=8
 outs:x.Outs.length<=40
 pend:zdq x.Pending=true
 tr:zi x.Traps 0 3=true
 own:zi x.Own 0 1000000000=true
 gs:∀g∈x.Guests,zdC g=true
 fit:∀p,hasB p 8=true->zlf (ix x.Outer p sZ) (ix x.Out p [])=true
theorem zOZ {P:Nat->Bool}:∀{n i:Nat},zng P n i=true↔∀j,i<=j->j<i+n->P j=true
 | 0,i=>by simp[zng];intro j h1 h2;omega
 |n+1,i=>by rw[zng,qE,zOZ];constructor;{rintro⟨h1,h2⟩ j hj1 hj2;by_cases e:j=i;{rw [e];exact h1};{exact h2 j (by omega) (by omega)}};{intro h;exact⟨h i (by omega) (by omega),λj h1 h2=>h j (by omega) (by omega)⟩}
theorem zp1 {t:List Slot}{n p:Int}:zcV t n p=true↔(∀s∈t,zdV s p=true)/\ln t=n:=by unfold zcV;rw[zb8,qM,zbj]
theorem z3u {x:Mon}:zeG x=true↔MOk x:=by unfold zeG;simp only[zb8,zcD,zbj,zp1,zOZ,qM,ile,qY];constructor;{rintro⟨⟨h1,h2⟩,h3,⟨h4,h5⟩,h6,h7,h8,h9,h10,h11,h12,h13⟩;unfold ln at *;refine⟨by omega,by omega,by omega,by omega,λs hs=>zUn.1 (h4 s hs),by omega,by omega,by omega,h9,zcD.2 h10,zcD.2 h11,h12,λp hp=>?_⟩;have hp':=zC.1 hp;have:=h13 p.toNat (by omega) (by omega);unfold fits at this;rwa [show ((p.toNat:Nat):Int)=p by omega] at this};{intro h;obtain⟨h1,h2,h3,h4,h5,h6,h7,h8,h9,h10,h11,h12,h13⟩:=h;unfold ln;exact⟨⟨by omega,by omega⟩,by omega,⟨λs hs=>zUn.2 (h5 s hs),by omega⟩,by omega,by omega,by omega,h9,zcD.1 h10,zcD.1 h11,h12,λj h1 h2=>h13 (j:Int) (zC.2 (by omega))⟩}
theorem zv8 (o:List Slot)(s:Slot)(q:Int):(s::o).countP (λs=>ieq s.Page q)=o.countP (λs=>ieq s.Page q)+if s.Page=q then 1 else 0:=by rw[vE];simp[ieq]
theorem zw7:∀{o:List Slot} {u:List Bool},(∀s∈o,s.Page<u.length)->
 (∀u',zg0 o u=some u'↔(∀q,0<=q->o.countP (λs=>ieq s.Page q)+(if ix u q false then 1 else 0)<=1)/\
  u'=(o.foldl (λu s=>bif ilt s.Page 0 then u else up u s.Page true) u))
 |[],u,h,u'=>by simp[zg0];exact⟨λh=>⟨λq _=>by split<;>omega,h.symm⟩,λh=>h.2.symm⟩
 |s::o,u,h,u'=>by
  unfold zg0;by_cases hs:s.Page<0;{have hl:ilt s.Page 0=true:=qJ hs;rw[hl,cond_true,zw7 λy hy=>h y (qU _ hy)];simp only[uK,hl,cond_true];refine and_congr (forall_congr' λq=>forall_congr' λhq=>?_) Iff.rfl;have e:(if s.Page=q then 1 else 0)=0:=if_neg (by omega);rw[zv8,e,kB]};{have hl:ilt s.Page 0=false:=qG hs;have hlt:=h s q9;have hb:hasB s.Page (ln u)=true:=zC.2 ⟨by omega,by unfold ln;omega⟩;rw[hl,cond_false];cases hu:ix u s.Page false with|true=>rw[cond_true];constructor;{intro h;cases h};{rintro⟨h,_⟩;have:=h s.Page (by omega);rw[zv8,if_pos rfl,hu] at this;simp at this}|false=>rw[cond_false,zw7 (λy hy=>by rw[zbG];exact h y (qU _ hy))];simp only[uK,hl,cond_false];refine and_congr (forall_congr' λq=>forall_congr' λhq=>?_) Iff.rfl;rw[zv8];by_cases hq2:s.Page=q;{subst hq2;rw[zZ hb,hu];simp};{rw [zbo (by omega) hq hq2,if_neg hq2,kB]}}
theorem zFf:∀(o:List Slot) (u:List Bool),(o.foldl (λu s=>bif ilt s.Page 0 then u else up u s.Page true) u).length=u.length
 |[],u=>rfl
 |s::o,u=>by rw[uK,zFf];cases ilt s.Page 0<;>simp [zbG]
theorem zLx:∀(o:List Slot) (u:List Bool) (q:Int),0<=q->(∀s∈o,s.Page<u.length)->(ix (o.foldl (λu s=>bif ilt s.Page 0 then u else up u s.Page true) u) q false=true↔ix u q false=true\/1<=o.countP λs=>ieq s.Page q)
 |[],u,q,hq,h=>by simp
 |s::o,u,q,hq,h=>by
  rw[uK,zLx _ _ q hq (λy hy=>by have:=h y (qU _ hy);cases ilt s.Page 0<;>simpa [zbG] using this),zv8];by_cases hs:s.Page<0;{rw [show ilt s.Page 0=true from qJ hs,cond_true,if_neg (by omega),kB]};{rw [show ilt s.Page 0=false from qG hs,cond_false];have hlt:=h s q9;have hb:hasB s.Page (ln u)=true:=zC.2 ⟨by omega,by unfold ln;omega⟩;by_cases hq2:s.Page=q;{subst hq2;rw[zZ hb];simp};{rw [zbo (by omega) hq hq2,if_neg hq2,kB]}}
theorem zwx:∀{l:List Mon} {u:List Bool},u.length=12->(ziH l u=true↔(∀x∈l,MOk x)/\∀q,0<=q->zfo l q+(if l≠[]/\ix u q false then 1 else 0)<=1)
 |[],u,hu=>by simp[ziH,zfo]
 |x::l,u,hu=>by
  unfold ziH;rw[zb8,z3u];constructor;{rintro⟨h1,h2⟩;have hp:∀s∈x.Outer,s.Page<u.length:=λs hs=>(by rcases h1.sl s hs with h|h;{rw [h,hu];decide};{rw [hu];omega});split at h2;{rename_i u' hu';obtain⟨h3,rfl⟩:=(zw7 hp u').1 hu';rw[zwx (by rw[zFf,hu])]at h2;obtain⟨h4,h5⟩:=h2;refine⟨by simpa using ⟨h1,h4⟩,λq hq=>?_⟩;have h6:=h3 q hq;have h7:=h5 q hq;have h8:=zLx x.Outer u q hq hp;simp only[zfo,q0,uJ]at h7 ⊢;unfold cPg at h7 ⊢;simp only[ne_eq,reduceCtorEq,not_false_eq_true,true_and];by_cases hl:l=[];{subst hl;simpa using h6};{simp only [hl,ne_eq,not_false_eq_true,true_and]at h7;by_cases hc:ix (x.Outer.foldl (λu s=>bif ilt s.Page 0 then u else up u s.Page true) u) q false=true;{rw [if_pos hc]at h7;omega};{rw [if_neg hc]at h7;have h9:¬ (ix u q false=true\/1<=x.Outer.countP λs=>ieq s.Page q):=λe=>hc (h8.2 e);rw[not_or]at h9;rw[if_neg h9.1];omega}}};{cases h2}}
  .rintro⟨h1,h2⟩;have hx:MOk x:=h1 x q9;refine⟨hx,?_⟩;have hp:∀s∈x.Outer,s.Page<u.length:=λs hs=>by rcases hx.sl s hs with h|h;{rw [h,hu];decide};{rw [hu];omega}
   have hu':=(zw7 hp _).2 ⟨λq hq=>by
    have:=h2 q hq;simp only[zfo,q0,uJ,ne_eq,reduceCtorEq,not_false_eq_true,true_and] at this;unfold cPg at this;omega,rfl⟩
   rw[hu'];simp only;rw[zwx (by rw[zFf,hu])];refine⟨λy hy=>h1 y (qU _ hy),λq hq=>?_⟩;have h3:=h2 q hq;have h8:=zLx x.Outer u q hq hp;simp only[zfo,q0,uJ,ne_eq,reduceCtorEq,not_false_eq_true,true_and]at h3 ⊢;unfold cPg at h3 ⊢;split;{rename_i hc;rcases h8.1 hc.2 with h|h;{rw [if_pos h]at h3;omega};{omega}};{omega}
structure HOk (h:Host):Prop where
 m12:h.Memory.length=12
 pgs:∀c∈h.Memory,zcn c=true
 n1:1<=h.Mons.length
 n3:h.Mons.length<=3
 b1:zfA h.Buffer=true
 b2:zfA h.IoBuffer=true
 mons:∀x∈h.Mons,MOk x
 uq:∀q,0<=q->zfo h.Mons q<=1
theorem zjQ {h:Host}:zb1 h=true↔HOk h:=by unfold zb1 zh6;simp only[zb8,zcD,zbj,qM];rw[zwx (by simp[rp])];have h0:∀q,ix (rp 12 false) q false=false:=λq=>(by unfold ix rp;rw[j4,j9];split<;>rfl);simp only[h0,j8,and_false,if_false,kB];unfold ln;constructor;{rintro⟨⟨h1,h2⟩,⟨h3,h4⟩,h5,h6,h7,h8⟩;exact⟨by omega,h1,by omega,by omega,h5,h6,h7,h8⟩};{rintro⟨h1,h2,h3,h4,h5,h6,h7,h8⟩;exact⟨⟨h2,by omega⟩,⟨by omega,by omega⟩,h5,h6,h7,h8⟩}
theorem HOk.mon {h:Host}(H:HOk h){m:Int}(hm:hasB m (ln h.Mons)=true):MOk (ix h.Mons m mZ):=H.mons _ (zlb hm _)
theorem MOk.hasO {x:Mon}(H:MOk x){p:Int}(hp:hasB p 8=true):hasB p (ln x.Outer)=true:=by rw[ln,H.o8];exact hp
theorem MOk.hasU {x:Mon}(H:MOk x){p:Int}(hp:hasB p 8=true):hasB p (ln x.Out)=true:=by rw[ln,H.u8];exact hp
theorem MOk.hasD {x:Mon}(H:MOk x){p:Int}(hp:hasB p 8=true):hasB p (ln x.Dirty)=true:=by rw[ln,H.d8];exact hp
theorem MOk.slot {x:Mon}(H:MOk x){p:Int}(hp:hasB p 8=true):SOk (ix x.Outer p sZ):=H.sl _ (zlb (H.hasO hp) _)
theorem HOk.uniq {h:Host}(H:HOk h){m p n k q:Int}(hm:hasB m (ln h.Mons)=true)(hp:hasB p 8=true)(hn:hasB n (ln h.Mons)=true)(hk:hasB k 8=true)(e1:(ix (ix h.Mons m mZ).Outer p sZ).Page=q)(e2:(ix (ix h.Mons n mZ).Outer k sZ).Page=q)(hq:0<=q):m=n/\p=k :=
 zY2 hm ((H.mon hm).hasO hp) hn ((H.mon hn).hasO hk) e1 e2 (H.uq q hq)
theorem HOk.up {h:Host}(H:HOk h){m:Int}(hm:hasB m (ln h.Mons)=true){x:Mon}(hx:MOk x){h':Host}(e:h'.Mons=up h.Mons m x)(m12:h'.Memory.length=12)(pgs:∀c∈h'.Memory,zcn c=true)(b1:zfA h'.Buffer=true)(b2:zfA h'.IoBuffer=true)(uq:∀q,0<=q->cPg x q<=cPg (ix h.Mons m mZ) q\/zfo h.Mons q=0/\cPg x q<=1):HOk h':=by refine⟨m12,pgs,by rw[e,zbG];exact H.n1,by rw[e,zbG];exact H.n3,b1,b2,λy hy=>?_,λq hq=>?_⟩;{rw [e]at hy;unfold E.up at hy;rcases qZ hy with h|h;{exact H.mons y h};{rw [h];exact hx}};{rw [e];have h1:=zvT hm x q;have h2:=H.uq q hq;have h3:=uq q hq;omega}
structure KOk (k:Kept) (inner outer:List Slot):Prop where
 l1:k.Known.length=inner.length
 l2:k.Slots.length=inner.length
 at':∀i,hasB i (ln inner)=true->ix k.Slots i sZ=bif ix k.Known i false then zbq (ix inner i sZ) outer else noSlot
def TOk (x:Mon):Prop:=∀g,hasB g (ln x.Guests)=true->KOk (ix x.Tables g kZ) (ix x.Guests g gZ).Live x.Outer
structure Rt (h:Host):Prop where
 t:∀m,hasB m (ln h.Mons)=true->TOk (ix h.Mons m mZ)
 e1:∀e∈h.Buffer,zcW h e=true
 e2:∀e∈h.IoBuffer,zcW h e=true
structure Safe (h:Host):Prop where
 ok:HOk h
 rt:Rt h
theorem zp5 {a b:Slot}:below' a b=true↔a=noSlot\/(a.Page=b.Page/\enough b.Rights a.Rights=true):=by unfold below';rw[zrV,zoB,zqu,zb8,zbj];by_cases h:a=noSlot<;>simp [h]
theorem zYS (x:Int):wand .i64 0 x=0:=by unfold wand;have:(BitVec.ofInt 64 0 &&& BitVec.ofInt 64 x)=0#64:=(by rw[show BitVec.ofInt 64 0=0#64 from rfl,BitVec.zero_and]);show IntKind.wrap .i64 ((BitVec.ofInt 64 0 &&& BitVec.ofInt 64 x).toNat:Int)=0;rw[this];rfl
theorem zY1 {a:Slot}(h:below' a noSlot=true):a=noSlot:=by rcases zp5.1 h with h|⟨h1,h2⟩;{exact h};{refine zRC h1 ?_;unfold enough at h2;rw[show noSlot.Rights=0 from rfl,zYS]at h2;simp only[zb8,zbj]at h2;exact h2.2.2.symm}
theorem zfS {h:Host}{e:Entry}:zcW h e=true↔hasB (zdH e.Tag) (ln h.Mons)=true/\hasB (zes e.Tag) (ln (ix h.Mons (zdH e.Tag) mZ).Guests)=true/\
 below' ⟨e.Host,e.Rights⟩ (zbq (zbs (ix (ix h.Mons (zdH e.Tag) mZ).Guests (zes e.Tag) gZ).Live e.Page) (ix h.Mons (zdH e.Tag) mZ).Outer)=true:=by
 unfold zcW;rw[zb8,zb8]
theorem zMR {o:List Slot}{p q:Int}{s:Slot}(hp:0<=p)(h:q≠p):zbs (up o p s) q=zbs o q:=by unfold zbs;rw[zdU];cases hq:hasB q (ln o) with|false=>rfl|true=>rw[cond_true,cond_true,zbo hp (zC.1 hq).1<|Ne.symm h]
theorem zGj {s:Slot}{o:List Slot}{p:Int}{t:Slot}(hp:0<=p)(h:s.Page≠p):zbq s (up o p t)=zbq s o:=by unfold zbq;rw[zMR hp h]
theorem zU0 {s:Slot}{o:List Slot}:zbq s o=noSlot\/(zbq s o).Page=(zbs o s.Page).Page:=by unfold zbq;cases ieq s.Page (-1)<;>cases ieq (zbs o s.Page).Page (-1)<;>cases ieq (zeg s.Rights (zbs o s.Page).Rights) 0<;>simp
theorem zko (k:Kept)(q:Int):(zbR k q).Known.length=k.Known.length/\(zbR k q).Slots.length=k.Slots.length:=by unfold zbR;cases zdf k q<;>simp [zbG]
theorem zxx:∀(l:List Int) (k:Kept),(zeO k l).Known.length=k.Known.length/\(zeO k l).Slots.length=k.Slots.length
 |[],k=>⟨rfl,rfl⟩
 |q::l,k=>by have h1:=zxx l (zbR k q);have h2:=zko k q;exact⟨h1.1.trans h2.1,h1.2.trans h2.2⟩
theorem zui {k:Kept}{q i:Int}(hl:k.Known.length=k.Slots.length)(hi:hasB i (ln k.Known)=true) :
 ix (zbR k q).Known i false=(cond (ieq q i) false<|ix k.Known i false)/\ix (zbR k q).Slots i sZ=(cond (ieq q i) noSlot<|ix k.Slots i sZ):=by
 have hi':hasB i (ln k.Slots)=true:=by unfold ln at hi ⊢;rwa [<- hl]
 unfold zbR zdf
 by_cases e:q=i
 .subst e;simp only[hi,hi',cond_true,ieq,beq_self_eq_true];exact⟨zZ hi _ _,zZ hi' _ _⟩
 .rw [show ieq q i=false from zbM.2 e]
  by_cases hq:hasB q (ln k.Known)=true
  .have hq':hasB q (ln k.Slots)=true:=by unfold ln at hq ⊢;rwa [<- hl]
   simp only[hq,hq',cond_true,cond_false];exact⟨zbo (zC.1 hq).1 (zC.1 hi).1 e _ _,zbo (zC.1 hq).1 (zC.1 hi).1 e _ _⟩
  .rw [Bool.not_eq_true]at hq;simp[hq]
theorem zzn:∀(l:List Int) {k:Kept} {i:Int},k.Known.length=k.Slots.length->hasB i (ln k.Known)=true->
 (i∈l->ix (zeO k l).Known i false=false/\ix (zeO k l).Slots i sZ=noSlot)/\
 (i∉l->ix (zeO k l).Known i false=ix k.Known i false/\ix (zeO k l).Slots i sZ=ix k.Slots i sZ)
 |[],k,i,hl,hi=>⟨λh=>by simp at h,λ_=>⟨rfl,rfl⟩⟩
 |q::l,k,i,hl,hi=>by have h2:=zko k q;have h3:=zui (q:=q) hl hi;have ih:=zzn l (k:=zbR k q) (i:=i) (by rw[h2.1,h2.2,hl]) (by unfold ln at hi ⊢;rwa [h2.1]);show (_->ix (zeO (zbR k q) l).Known i false=_/\ix (zeO (zbR k q) l).Slots i sZ=_)/\(_->ix (zeO (zbR k q) l).Known i false=_/\ix (zeO (zbR k q) l).Slots i sZ=_);by_cases hm:i∈l;{refine⟨λ_=>ih.1 hm,λh=>absurd (qU _ hm) h⟩};{rw [(ih.2 hm).1,(ih.2 hm).2,h3.1,h3.2];by_cases e:q=i;{subst e;simp[ieq]};{rw [zbM.2 e];simp[hm,Ne.symm e]}}
theorem zEH {α:Type}{P:α->Bool}{d:α}:∀{l:List α} {n:Nat} {i:Int},i∈idxs P l n↔∃k:Nat,∃h:k<l.length,i=((n+k:Nat):Int)/\P l[k]=true
 |[],n,i=>by simp[idxs]
 |x::l,n,i=>by
  have ih:=@zEH α P d l (n+1) i;unfold idxs;constructor
  .intro h;cases hx:P x with
   |true=>rw[hx,cond_true,qI]at h;rcases h with h|h;{exact⟨0,by simp,by simpa using h,hx⟩};{obtain⟨k,h1,h2,h3⟩:=ih.1 h;exact⟨k+1,by simpa using h1,by rw[h2];congr 1;omega,by simpa using h3⟩}
   |false=>rw[hx,cond_false]at h;obtain⟨k,h1,h2,h3⟩:=ih.1 h;exact⟨k+1,by simpa using h1,by rw[h2];congr 1;omega,by simpa using h3⟩
  {rintro⟨k,h1,h2,h3⟩;cases k with|zero=>simp only[List.getElem_cons_zero]at h3;rw[h3,cond_true,h2];exact q9|succ k=>have:=ih.2 ⟨k,by simpa using h1,by rw[h2];congr 1;omega,by simpa using h3⟩;cases P x;{exact this};{exact qU _ this}}
theorem zSl {l:List Slot}{p i:Int}:i∈zAD l p↔hasB i (ln l)=true/\(ix l i sZ).Page=p:=by unfold zAD;rw[zEH (d:=sZ)];constructor;{rintro⟨k,h1,rfl,h3⟩;rw[jT,zkt h1];exact⟨zC.2 (by unfold ln;omega),zbj.1 h3⟩};{rintro⟨h1,h2⟩;obtain⟨k,hk,rfl,e⟩:=zwI h1 sZ;exact⟨k,hk,by simp,by rw[e]at h2;exact zbj.2 h2⟩}
theorem zVJ {k:Kept}{inner outer:List Slot}(h:KOk k inner outer){p:Int}(hp:0<=p)(s:Slot):KOk (zjg k inner p) inner (up outer p s):=by have hl:=zxx (zAD inner p) k;refine⟨hl.1.trans h.l1,hl.2.trans h.l2,λi hi=>?_⟩;have hi':hasB i (ln k.Known)=true:=(by unfold ln at hi ⊢;rwa [h.l1]);have ha:=zzn (zAD inner p) (by rw[h.l1,h.l2]) hi';unfold zjg;by_cases hc:(ix inner i sZ).Page=p;{have:=ha.1 (zSl.2 ⟨hi,hc⟩);rw[this.1,this.2];rfl};{have:=ha.2 (λh=>hc (zSl.1 h).2);rw[this.1,this.2,h.at' i hi,zGj hp hc]}
theorem zAx (gs:List Guest)(p:Int):∀(n:Nat) (ts:List Kept),(zkS gs p n ts).length=ts.length
 | 0,ts=>rfl
 |n+1,ts=>by rw[zkS,zbG,zAx gs p n]
theorem zLh (gs:List Guest)(p:Int):∀(n:Nat) (ts:List Kept),n<=ts.length->∀i,0<=i->ix (zkS gs p n ts) i kZ=if i<n then zjg (ix ts i kZ) (ix gs i gZ).Live p else ix ts i kZ
 | 0,ts,_,i,hi=>by rw[if_neg (by omega)];rfl
 |n+1,ts,hn,i,hi=>by rw[zkS];by_cases e:i=n;{subst e;rw[zZ (by rw[ln,zAx];exact zC.2 (by omega)),if_pos (by omega),zLh gs p n ts (by omega) _ hi,if_neg (by omega)]};{rw [zbo (by omega) hi<|Ne.symm e,zLh gs p n ts (by omega) i hi];by_cases h:i<n;{rw [if_pos h,if_pos (by omega)]};{rw [if_neg h,if_neg (by omega)]}}
def zjz (x:Mon)(p:Int)(s:Slot):Mon:={zj7 x p x.Tables.length with Outer:=up x.Outer p s}
theorem zYE {x:Mon}(h:TOk x)(ht:x.Tables.length=x.Guests.length){p:Int}(hp:0<=p)(s:Slot):TOk (zjz x p s):=by intro g hg;have hg':hasB g (ln x.Guests)=true:=hg;show KOk (ix (zkS x.Guests p x.Tables.length x.Tables) g kZ) (ix x.Guests g gZ).Live (up x.Outer p s);rw[zLh _ _ _ _ (qX _) _ (zC.1 hg').1,if_pos (by have:=zC.1 hg';unfold ln at this;omega)];exact zVJ (h g hg') hp s
theorem zq2 (h:Host)(m p:Int)(s:Slot):(zb6 h m p s).Mons=up h.Mons m (zjz (ix h.Mons m mZ) p s):=by unfold zb6;cases ine (ix (ix h.Mons m zf).Outer p zO).Page (-1)<;>rfl
theorem zuC (h:Host)(m p:Int)(s:Slot):(zb6 h m p s).Memory=h.Memory:=by unfold zb6;cases ine (ix (ix h.Mons m zf).Outer p zO).Page (-1)<;>rfl
theorem zMT (h:Host)(m p:Int)(s:Slot):(zb6 h m p s).Buffer=(cond (ieq (ix (ix h.Mons m mZ).Outer p sZ).Page<|-1) h.Buffer<|flushed h.Buffer (ix (ix h.Mons m mZ).Outer p sZ).Page)/\
 (zb6 h m p s).IoBuffer=(cond (ieq (ix (ix h.Mons m mZ).Outer p sZ).Page<|-1) h.IoBuffer<|flushed h.IoBuffer (ix (ix h.Mons m mZ).Outer p sZ).Page):=by
 unfold zb6
 by_cases e:(ix (ix h.Mons m zf).Outer p zO).Page = -1
 .rw [show ine (ix (ix h.Mons m zf).Outer p zO).Page (-1)=false by simp[ine,e],show ieq (ix (ix h.Mons m mZ).Outer p sZ).Page (-1)=true from zbj.2 e]
  exact⟨rfl,rfl⟩
 .rw [show ine (ix (ix h.Mons m zf).Outer p zO).Page (-1)=true from zAX.2 e,show ieq (ix (ix h.Mons m mZ).Outer p sZ).Page (-1)=false from zbM.2 e]
  exact⟨rfl,rfl⟩
theorem zGp {h h':Host}{m p:Int}{s:Slot}(hm:hasB m (ln h.Mons)=true)(hp:hasB p (ln (ix h.Mons m mZ).Outer)=true){x:Mon}(hM:h'.Mons=up h.Mons m x)(hG:x.Guests=(ix h.Mons m mZ).Guests)(hO:x.Outer=up (ix h.Mons m mZ).Outer p s){e:Entry}(he:zcW h e=true)(hn:(ix (ix h.Mons m mZ).Outer p sZ).Page = -1\/e.Host≠(ix (ix h.Mons m mZ).Outer p sZ).Page):zcW h' e=true:=by obtain⟨h1,h2,h3⟩:=zfS.1 he;rw[zfS,hM,zdU];refine⟨h1,?_⟩;by_cases hc:m=zdH e.Tag;{rw [<- hc]at h1 h2 h3 ⊢;rw[zZ hm,hG,hO];refine⟨h2,?_⟩;by_cases hq:(zbs (ix (ix h.Mons m mZ).Guests (zes e.Tag) gZ).Live e.Page).Page=p;{have key:zbq (zbs (ix (ix h.Mons m mZ).Guests (zes e.Tag) gZ).Live e.Page) (ix h.Mons m mZ).Outer=noSlot\/e.Host≠(zbq (zbs (ix (ix h.Mons m mZ).Guests (zes e.Tag) gZ).Live e.Page) (ix h.Mons m mZ).Outer).Page:=(by rcases zU0 (s:=zbs (ix (ix h.Mons m mZ).Guests (zes e.Tag) gZ).Live e.Page) (o:=(ix h.Mons m mZ).Outer) with hz|hz;{exact .inl hz};{rw [hq]at hz;have hs:zbs (ix h.Mons m mZ).Outer p=ix (ix h.Mons m mZ).Outer p sZ:=(by unfold zbs;rw[hp];rfl);rw[hs]at hz;rcases hn with hn|hn;{left;unfold zbq;rw[hq,hs,hn,show ieq (-1) (-1)=true from rfl];cases ieq p (-1)<;>rfl};{exact .inr (by rw[hz];exact hn)}});have hno:(⟨e.Host,e.Rights⟩:Slot)=noSlot:=(by rcases key with key|key;{rw [key]at h3;exact zY1 h3};{rcases zp5.1 h3 with h|h;{exact h};{exact absurd h.1 key}});rw[hno];exact zp5.2 (.inl rfl)};{rw [zGj (zC.1 hp).1 hq];exact h3}};{rw [zbo (zC.1 hm).1 (zC.1 h1).1 hc];exact⟨h2,h3⟩}
theorem zwV {h:Host}(H:Rt h){m p:Int}(hm:hasB m (ln h.Mons)=true)(hp:hasB p (ln (ix h.Mons m mZ).Outer)=true)(ht:(ix h.Mons m mZ).Tables.length=(ix h.Mons m mZ).Guests.length)(s:Slot):Rt (zb6 h m p s):=by have hb:=zMT h m p s;have hM:=zq2 h m p s;have key:∀(b:List Entry),(∀e∈b,zcW h e=true)->∀e∈(cond (ieq (ix (ix h.Mons m mZ).Outer p sZ).Page<|-1) b<|flushed b (ix (ix h.Mons m mZ).Outer p sZ).Page),zcW (zb6 h m p s) e=true:=(by intro b hb e he;by_cases ho:(ix (ix h.Mons m mZ).Outer p sZ).Page = -1;{rw [zbj.2 ho,cond_true]at he;exact zGp hm hp hM rfl rfl (hb e he) (.inl ho)};{rw [zbM.2 ho,cond_false]at he;obtain⟨he1,he2⟩:=List.mem_filter.1 he;exact zGp hm hp hM rfl rfl (hb e he1) (.inr (by simpa [ieq] using he2))});refine⟨λk hk=>?_,λe he=>key _ H.e1 e (by rwa [hb.1]at he),λe he=>key _ H.e2 e (by rwa [hb.2]at he)⟩;rw[hM]at hk ⊢;rw[zdU]at hk;by_cases hc:m=k;{subst hc;rw[zZ hm];exact zYE (H.t m hm) ht (zC.1 hp).1 s};{rw [zbo (zC.1 hm).1 (zC.1 hk).1 hc];exact H.t k hk}
theorem zLZ:∀(l pre:List Entry),allI (alone<|pre++l) l pre.length=true↔(∀x∈l,∀y∈pre,sameKey x y=false)/\l.Pairwise (λy x=>sameKey x y=false)
 |[],pre=>by simp[allI]
 |x::l,pre=>by have ih:=zLZ l (pre++[x]);rw[j5,List.singleton_append,kR,k6] at ih;rw[allI,qE,ih,List.pairwise_cons];have h1:alone (pre++x::l) pre.length x=true↔∀y∈pre,sameKey x y=false:=(by unfold alone;rw[kJ rfl,qM];simp);rw[h1];constructor;{rintro⟨h2,h3,h4⟩;refine⟨λz hz y hy=>?_,λz hz=>h3 z hz x (by simp),h4⟩;rcases qI.1 hz with rfl|hz;{exact h2 y hy};{exact h3 z hz y (by simp[hy])}};{rintro⟨h2,h3,h4⟩;refine⟨λy hy=>h2 x (by simp) y hy,λz hz y hy=>?_,h4⟩;rcases jI.1 hy with hy|hy;{exact h2 z (by simp[hz]) y hy};{rw [qF.1 hy];exact h3 z hz}}
theorem zAI {l:List Entry}:zfA l=true↔l.Pairwise (λy x=>sameKey x y=false)/\l.length<=6:=by unfold zfA;have:=zLZ l [];simp only[jO,List.length_nil] at this;have h0:ile (ln l) 6=true↔l.length<=6:=(by rw[ile,qY,ln];omega);rw[zb8,this,h0];simp
theorem zv7 {l:List Entry}(h:zfA l=true)(P:Entry->Bool):zfA (l.filter P)=true:=by rw[zAI]at h ⊢;exact⟨h.1.sublist List.filter_sublist,jB (k8 _ _) h.2⟩
theorem zCJ {l:List Entry}(h:zfA l=true)(p:Int):zfA (flushed l p)=true:=zv7 h _
theorem zO7 {x x':Mon}{p:Int}(hp:hasB p (ln x.Outer)=true){s:Slot}(h:x'.Outer=up x.Outer p s)(q:Int):cPg x' q+(if (ix x.Outer p sZ).Page=q then 1 else 0)=cPg x q+(if s.Page=q then 1 else 0):=by have:=zL4 (λs=>ieq s.Page q) hp s sZ;simp only[zbj] at this;unfold cPg;rw[h];exact this
theorem zoQ {s:Slot}(hs:SOk s){c:List Int}:zlf s c=true↔(s.Page = -1->zcn c=true)/\(s.Page≠-1->enough s.Rights 1=true/\c=[]):=by unfold zlf;by_cases e:s=noSlot;{rw [zoB.2 e,cond_true,e];simp[noSlot]};{rw [zqu.2 e,cond_false,zb8];have:s.Page≠-1:=λh=>e (hs.none h);have h0:ile (ln c) 0=true↔c=[]:=(by rw[ile,qY,ln,<- uS];omega);rw[h0];exact⟨λh=>⟨λh'=>absurd h' this,λ_=>h⟩,λh=>h.2 this⟩}
structure Chg (x x':Mon) (p:Int) (s:Slot) (c:List Int):Prop where
 o:x'.Outer=up x.Outer p s
 u:x'.Out=up x.Out p c
 g:x'.Guests=x.Guests
 t:x'.Tables.length=x.Tables.length
 d:x'.Dirty.length=x.Dirty.length
 a1:x'.Outs=x.Outs
 a2:x'.Pending=x.Pending
 a3:x'.Traps=x.Traps
 a4:x'.Own=x.Own
theorem MOk.chg {x x':Mon}(H:MOk x){p:Int}(hp:hasB p 8=true){s:Slot}{c:List Int}(k:Chg x x' p s c)(hs:SOk s)(hf:zlf s c=true):MOk x':=by refine⟨by rw[k.g];exact H.g1,by rw[k.g];exact H.g2,by rw[k.t,k.g];exact H.gt,by rw[k.o,zbG];exact H.o8,λy hy=>?_,by rw[k.u,zbG];exact H.u8,by rw[k.d];exact H.d8,by rw[k.a1];exact H.outs,by rw[k.a2];exact H.pend,by rw[k.a3];exact H.tr,by rw[k.a4];exact H.own,by rw[k.g];exact H.gs,λq hq=>?_⟩;{rw [k.o]at hy;rcases qZ hy with h|h;{exact H.sl y h};{rw [h];exact hs}};{rw [k.o,k.u];by_cases e:p=q;{subst e;rw[zZ<|H.hasO hp,zZ<|H.hasU hp];exact hf};{rw [zbo (zC.1 hp).1 (zC.1 hq).1 e,zbo (zC.1 hp).1 (zC.1 hq).1 e];exact H.fit q hq}}
structure Like (h r:Host):Prop where
 len:r.Mons.length=h.Mons.length
 g:∀i,hasB i (ln h.Mons)=true->(ix r.Mons i mZ).Guests=(ix h.Mons i mZ).Guests
 o:∀i,hasB i (ln h.Mons)=true->(ix r.Mons i mZ).Outs=(ix h.Mons i mZ).Outs
 p:∀i,hasB i (ln h.Mons)=true->(ix r.Mons i mZ).Pending=(ix h.Mons i mZ).Pending
 tr:∀i,hasB i (ln h.Mons)=true->(ix r.Mons i mZ).Traps=(ix h.Mons i mZ).Traps
 ow:∀i,hasB i (ln h.Mons)=true->(ix r.Mons i mZ).Own=(ix h.Mons i mZ).Own
 pg:∀i k,hasB i (ln h.Mons)=true->hasB k 8=true->zcm r i k=zcm h i k
theorem Like.refl (h:Host):Like h h:=⟨rfl,λ_ _=>rfl,λ_ _=>rfl,λ_ _=>rfl,λ_ _=>rfl,λ_ _=>rfl,λ_ _ _ _=>rfl⟩
theorem Like.trans {a b c:Host}(x:Like a b)(y:Like b c):Like a c:=by have k:∀i,hasB i (ln a.Mons)=true->hasB i (ln b.Mons)=true:=λi hi=>(by unfold ln at hi ⊢;rwa [x.len]);exact⟨y.len.trans x.len,λi h=>(y.g i<|k i h).trans (x.g i h),λi h=>(y.o i<|k i h).trans (x.o i h),λi h=>(y.p i<|k i h).trans (x.p i h),λi h=>(y.tr i<|k i h).trans (x.tr i h),λi h=>(y.ow i<|k i h).trans (x.ow i h),λi q h hq=>(y.pg i q (k i h) hq).trans (x.pg i q h hq)⟩
theorem Like.has {h r:Host}(k:Like h r){i:Int}:hasB i (ln r.Mons)=hasB i (ln h.Mons):=by unfold ln;rw[k.len]
theorem zpF {h r:Host}{m:Int}:∀(n i:Nat),(∀k:Nat,i<=k->k<i+n->zcm r m (k:Int)=zcm h m (k:Int))->zcq r m n i=zcq h m n i
 | 0,i,_=>rfl
 |n+1,i,h=>by rw[zcq,zcq,h i (by omega) (by omega),zpF n (i+1) λk h1 h2=>h k (by omega) (by omega)]
theorem Like.seen {h r:Host}(k:Like h r)(m:Int):zy r m=zy h m:=by unfold zy;rw[k.has];cases hm:hasB m (ln h.Mons) with|false=>rfl|true=>simp only[cond_true];rw[k.g m hm,k.o m hm,k.p m hm,zpF 8 0 λj h1 h2=>k.pg m j hm (zC.2 (by omega))]
theorem zm6 {h:Host}{m p:Int}(hm:hasB m (ln h.Mons)=true)(hp:hasB p 8=true)(ho:hasB p (ln (ix h.Mons m mZ).Outer)=true) :
 zcm h m p=bif ieq (ix (ix h.Mons m mZ).Outer p sZ).Page (-1) then zcp (ix h.Mons m mZ).Out p else zcp h.Memory (ix (ix h.Mons m mZ).Outer p sZ).Page:=by
 unfold zcm;have:zbs (ix h.Mons m mZ).Outer p=ix (ix h.Mons m mZ).Outer p sZ:=by unfold zbs;rw[ho];rfl
 rw[hm,hp,cond_true,cond_true,this]
 by_cases e:(ix (ix h.Mons m mZ).Outer p sZ).Page = -1
 .rw [zbj.2 e,show ine (ix (ix h.Mons m mZ).Outer p sZ).Page (-1)=false by simp[ine,e]];rfl
 .rw [zbM.2 e,show ine (ix (ix h.Mons m mZ).Outer p sZ).Page (-1)=true from zAX.2 e];rfl
theorem zkB {m:List (List Int)}{p:Int}(h:hasB p (ln m)=true):zcp m p=ix m p []:=by unfold zcp;rw[h];rfl
theorem zMC {m:List (List Int)}(h:∀c∈m,zcn c=true)(p:Int):zcn (zcp m p)=true:=by unfold zcp;cases hp:hasB p (ln m) with|false=>rfl|true=>exact h _ (zlb hp _)
theorem ztZ {h r:Host}(H:HOk h){m p:Int}(hm:hasB m (ln h.Mons)=true)(hp:hasB p 8=true){x:Mon}{s:Slot}{c:List Int}(hM:r.Mons=up h.Mons m x)(k:Chg (ix h.Mons m mZ) x p s c)(hs:SOk s)(hf:zlf s c=true)(m12:r.Memory.length=12)(pgs:∀c∈r.Memory,zcn c=true)(b1:zfA r.Buffer=true)(b2:zfA r.IoBuffer=true)(uq:0<=s.Page->s.Page=(ix (ix h.Mons m mZ).Outer p sZ).Page\/zfo h.Mons s.Page=0):HOk r:=by refine H.up hm ((H.mon hm).chg hp k hs hf) hM m12 pgs b1 b2 λq hq=>?_;have h1:=zO7 ((H.mon hm).hasO hp) k.o q;by_cases e:s.Page=q;{have e2:=uq (by omega);rw[if_pos e]at h1;rcases e2 with e2|e2;{rw [if_pos (by omega)]at h1;left;omega};{right;rw[e] at e2;refine⟨e2,?_⟩;have:=zvT hm x q;have h4:cPg (ix h.Mons m mZ) q<=zfo h.Mons q:=(by have:=zvT hm (⟨[],[],[],[],[],0,0,[],0⟩:Mon) q;have e0:cPg (⟨[],[],[],[],[],0,0,[],0⟩:Mon) q=0:=rfl;omega);omega}};{rw [if_neg e]at h1;left;split at h1<;>omega}
theorem ztr {h r:Host}(H:HOk h){m p:Int}(hm:hasB m (ln h.Mons)=true)(hp:hasB p 8=true){x:Mon}{s:Slot}{c:List Int}(hM:r.Mons=up h.Mons m x)(k:Chg (ix h.Mons m mZ) x p s c)(hpg:(cond (ieq s.Page<|-1) c<|zcp r.Memory s.Page)=zcm h m p)(hmem:∀i q,hasB i (ln h.Mons)=true->hasB q 8=true->¬ (i=m/\q=p)->(ix (ix h.Mons i mZ).Outer q sZ).Page≠-1->zcp r.Memory (ix (ix h.Mons i mZ).Outer q sZ).Page=zcp h.Memory (ix (ix h.Mons i mZ).Outer q sZ).Page):Like h r:=by have hm0:=(zC.1 hm).1;have hp0:=(zC.1 hp).1;have e:∀{α:Type} (F:Mon->α),F x=F (ix h.Mons m mZ)->∀i,hasB i (ln h.Mons)=true->F (ix r.Mons i mZ)=F (ix h.Mons i mZ):=(by intro α F hF i hi;rw[hM];by_cases e:m=i;{subst e;rw[zZ hm];exact hF};{rw [zbo hm0 (zC.1 hi).1 e]});refine⟨by rw[hM,zbG],e Mon.Guests k.g,e Mon.Outs k.a1,e Mon.Pending k.a2,e Mon.Traps k.a3,e Mon.Own k.a4,λi q hi hq=>?_⟩;have hi':hasB i (ln r.Mons)=true:=(by rw[hM,zdU];exact hi);have hO:=(H.mon hi).hasO hq;have hO':hasB q (ln (ix r.Mons i mZ).Outer)=true:=(by rw[hM];by_cases e:m=i;{subst e;rw[zZ hm,k.o,zdU];exact hO};{rw [zbo hm0 (zC.1 hi).1 e];exact hO});rw[zm6 hi' hq hO'];by_cases e:m=i;{subst e;rw[hM,zZ hm,k.o,k.u];by_cases e2:p=q;{subst e2;rw[zZ<|(H.mon hm).hasO hp,<- hpg];cases ieq s.Page (-1);{rfl};{rw [cond_true,cond_true,zkB (by rw[zdU];exact(H.mon hm).hasU hp),zZ<|(H.mon hm).hasU hp]}};{rw [zbo hp0 (zC.1 hq).1 e2,zm6 hm hq hO];by_cases e3:(ix (ix h.Mons m mZ).Outer q sZ).Page = -1;{rw [zbj.2 e3,cond_true,cond_true,zkB (by rw[zdU];exact(H.mon hm).hasU hq),zkB<|(H.mon hm).hasU hq,zbo hp0 (zC.1 hq).1 e2]};{rw [zbM.2 e3,cond_false,cond_false,hmem m q hm hq (λh=>e2 h.2.symm) e3]}}};{rw [hM,zbo hm0 (zC.1 hi).1 e,zm6 hi hq hO];by_cases e3:(ix (ix h.Mons i mZ).Outer q sZ).Page = -1;{rw [zbj.2 e3,cond_true,cond_true]};{rw [zbM.2 e3,cond_false,cond_false,hmem i q hi hq (λh=>e h.1.symm) e3]}}
structure Op (h r:Host):Prop where
 ok:HOk r
 like:Like h r
 rt:Rt h->Rt r
theorem Op.refl {h:Host}(H:HOk h):Op h h:=⟨H,Like.refl h,id⟩
theorem Op.trans {a b c:Host}(x:Op a b)(y:Op b c):Op a c:=⟨y.ok,x.like.trans y.like,λh=>y.rt (x.rt h)⟩
theorem Op.safe {h r:Host}(k:Op h r)(s:Safe h):Safe r:=⟨k.ok,k.rt s.rt⟩
theorem zIh {h r:Host}(H:Rt h){m:Int}(hm:hasB m (ln h.Mons)=true){x:Mon}(hM:r.Mons=up h.Mons m x)(hb1:r.Buffer=h.Buffer)(hb2:r.IoBuffer=h.IoBuffer)(hl:x.Guests.length=(ix h.Mons m mZ).Guests.length)(hv:∀g,hasB g (ln (ix h.Mons m mZ).Guests)=true->(ix x.Guests g gZ).Live=(ix (ix h.Mons m mZ).Guests g gZ).Live)(ht:x.Tables=(ix h.Mons m mZ).Tables)(ho:x.Outer=(ix h.Mons m mZ).Outer):Rt r:=by have hm0:=(zC.1 hm).1;have hg:∀g,hasB g (ln x.Guests)=hasB g (ln (ix h.Mons m mZ).Guests):=λg=>(by unfold ln;rw[hl]);have key:∀e,zcW h e=true->zcW r e=true:=(by intro e he;obtain⟨h1,h2,h3⟩:=zfS.1 he;rw[zfS,hM,zdU];refine⟨h1,?_⟩;by_cases hc:m=zdH e.Tag;{rw [<- hc]at h1 h2 h3 ⊢;rw[zZ hm,hg,hv _ h2,ho];exact⟨h2,h3⟩};{rw [zbo hm0 (zC.1 h1).1 hc];exact⟨h2,h3⟩});refine⟨λk hk=>?_,λe he=>key e (H.e1 e (by rwa [hb1]at he)),λe he=>key e (H.e2 e (by rwa [hb2]at he))⟩;rw[hM]at hk ⊢;rw[zdU]at hk;by_cases hc:m=k;{subst hc;rw[zZ hm];intro g hgg;rw[hg]at hgg;rw[ht,hv g hgg,ho];exact H.t m hm g hgg};{rw [zbo hm0 (zC.1 hk).1 hc];exact H.t k hk}
theorem zoC {h h1:Host}{m p:Int}{s:Slot}{x:Mon}(hm:hasB m (ln h.Mons)=true)(e:h1.Mons=up h.Mons m x):(zb6 h1 m p s).Mons=up h.Mons m (zjz x p s):=by rw[zq2,e,zZ hm,zYR]
theorem zza {x x1:Mon}{p:Int}{s:Slot}{c:List Int}(ho:x1.Outer=x.Outer)(hu:x1.Out=up x.Out p c)(hg:x1.Guests=x.Guests)(ht:x1.Tables=x.Tables)(hd:x1.Dirty.length=x.Dirty.length)(h1:x1.Outs=x.Outs)(h2:x1.Pending=x.Pending)(h3:x1.Traps=x.Traps)(h4:x1.Own=x.Own):Chg x (zjz x1 p s) p s c :=
 ⟨by show up x1.Outer p s=_;rw[ho],hu,hg,by show (zkS x1.Guests p x1.Tables.length x1.Tables).length=_;rw[zAx,ht],hd,h1,h2,h3,h4⟩
theorem zsL {h:Host}{m p:Int}{s:Slot}(h1:zfA h.Buffer=true)(h2:zfA h.IoBuffer=true):zfA (zb6 h m p s).Buffer=true/\zfA (zb6 h m p s).IoBuffer=true:=by have:=zMT h m p s;rw[this.1,this.2];cases ieq (ix (ix h.Mons m mZ).Outer p sZ).Page (-1);{exact⟨zCJ h1 _,zCJ h2 _⟩};{exact⟨h1,h2⟩}
theorem z5X {h:Host}(H:HOk h){s:Slot}(hs:SOk s)(hp:s.Page≠-1):hasB s.Page (ln h.Memory)=true:=by have:=hs.pos hp;exact zC.2 ⟨this.1,by unfold ln;rw[H.m12];omega⟩
theorem zUc {h:Host}(H:HOk h){m p:Int}(hm:hasB m (ln h.Mons)=true)(hp:hasB p 8=true)(hn:(ix (ix h.Mons m mZ).Outer p sZ).Page≠-1):Op h (zdk h m p):=by
 have X:=H.mon hm;have hM:(zdk h m p).Mons=up h.Mons m (zjz {ix h.Mons m mZ with Out:=up (ix h.Mons m mZ).Out p (zcp h.Memory (ix (ix h.Mons m mZ).Outer p sZ).Page)} p noSlot):=zoC hm rfl;have k:Chg (ix h.Mons m mZ) (zjz {ix h.Mons m mZ with Out:=up (ix h.Mons m mZ).Out p (zcp h.Memory (ix (ix h.Mons m mZ).Outer p sZ).Page)} p noSlot) p noSlot (zcp h.Memory (ix (ix h.Mons m mZ).Outer p sZ).Page):=zza rfl rfl rfl rfl rfl rfl rfl rfl rfl;have hmem:(zdk h m p).Memory=h.Memory:=zuC _ _ _ _;have hb:=zsL (h:=zeR h m p) (m:=m) (p:=p) (s:=noSlot) H.b1 H.b2;refine⟨ztZ H hm hp hM k (.inl rfl) ((zoQ (.inl rfl)).2 ⟨λ_=>zMC H.pgs _,λh=>absurd rfl h⟩) (by rw[hmem];exact H.m12) (by rw[hmem];exact H.pgs) hb.1 hb.2 λh=>absurd h (by decide),
  ztr H hm hp hM k ?_ (λi q _ _ _ _=>by rw[hmem]),λR=>?_⟩
 {rw [zm6 hm hp<|X.hasO hp,zbM.2 hn];rfl};{have R1:Rt (zeR h m p):=zIh (x:={ix h.Mons m mZ with Out:=up (ix h.Mons m mZ).Out p (zcp h.Memory (ix (ix h.Mons m mZ).Outer p sZ).Page)}) R hm rfl rfl rfl rfl (λ_ _=>rfl) rfl rfl;have hm1:hasB m (ln (zeR h m p).Mons)=true:=(by show hasB m (ln<|up h.Mons m _)=true;rw[zdU];exact hm);have e1:ix (zeR h m p).Mons m mZ={ix h.Mons m mZ with Out:=up (ix h.Mons m mZ).Out p (zcp h.Memory (ix (ix h.Mons m mZ).Outer p sZ).Page)}:=zZ hm _ _;exact zwV R1 hm1 (by rw[e1];exact X.hasO hp) (by rw[e1];exact X.gt) noSlot}
theorem zCP {o:List Slot}{q:Int}:znr o q=none↔o.countP (λs=>ieq s.Page q)=0:=by unfold znr;rw[List.findIdx?_eq_none_iff,u3];simp
theorem zSF {o:List Slot}{q:Int}{k:Nat}(h:znr o q=some k):∃hk:k<o.length,o[k].Page=q:=by unfold znr at h;rw[uY]at h;obtain⟨hk,h1,_⟩:=h;exact⟨hk,zbj.1 h1⟩
theorem zwQ {q:Int}:∀(l:List Mon) (i:Nat),((zh7 q l i).1<0↔zfo l q=0)/\(¬ (zh7 q l i).1<0->∃a b:Nat,∃ha:a<l.length,∃hb:b<l[a].Outer.length,zh7 q l i=(((i+a:Nat):Int),(b:Int))/\l[a].Outer[b].Page=q)
 |[],i=>⟨by simp[zh7,zfo],λh=>absurd (show (-1:Int)<0 by decide) h⟩
 |x::l,i=>by have ih:=zwQ (q:=q) l (i+1);unfold zh7;split;{rename_i k hk;obtain⟨h1,h2⟩:=zSF hk;refine⟨⟨λh=>by simp at h;omega,λh=>?_⟩,λ_=>⟨0,k,by simp,h1,by simp,h2⟩⟩;exfalso;simp only[zfo,q0,uJ]at h;have h3:x.Outer.countP (λs=>ieq s.Page q)=0:=(by unfold cPg at h;omega);rw[zCP.2 h3]at hk;cases hk};{rename_i hk;have h3:=zCP.1 hk;refine⟨?_,λh=>?_⟩;{rw [ih.1];simp only[zfo,q0,uJ];unfold cPg;omega};{obtain⟨a,b,ha,hb,e,hp⟩:=ih.2 h;exact⟨a+1,b,by simpa using ha,by simpa using hb,by rw[e];simp;omega,by simpa using hp⟩}}
theorem zEY {h:Host}{q:Int}(hq:0<=q):(zbD h q).1<0↔zfo h.Mons q=0:=by unfold zbD;rw[show ilt q 0=false from qG (by omega),cond_false];exact(zwQ h.Mons 0).1
theorem zZ6 {h:Host}(H:HOk h){q:Int}(hq:0<=q)(hn:¬ (zbD h q).1<0):hasB (zbD h q).1 (ln h.Mons)=true/\hasB (zbD h q).2 8=true/\(ix (ix h.Mons (zbD h q).1 mZ).Outer (zbD h q).2 sZ).Page=q:=by unfold zbD at hn ⊢;rw[show ilt q 0=false from qG (by omega),cond_false]at hn ⊢;obtain⟨a,b,ha,hb,e,hp⟩:=(zwQ h.Mons 0).2 hn;rw[e,jT];have h8:=(H.mons _<|jG ha).o8;exact⟨zC.2 (by unfold ln;simp;omega),zC.2 (by simp;omega),by rw[zkt ha,zkt hb];exact hp⟩
theorem zP0 {P:Nat->Bool}:∀{n i:Nat} {q:Int},q∈zum P n i↔∃k:Nat,q=(k:Int)/\i<=k/\k<i+n/\P k=true
 | 0,i,q=>by simp[zum];intro k _ _ _;omega
 |n+1,i,q=>by
  have ih:=@zP0 P n (i+1) q;unfold zum;constructor
  .intro h;cases hx:P i with
   |true=>rw[hx,cond_true,qI]at h;rcases h with h|h;{exact⟨i,h,by omega,by omega,hx⟩};{obtain⟨k,h1,h2,h3,h4⟩:=ih.1 h;exact⟨k,h1,by omega,by omega,h4⟩}
   |false=>rw[hx,cond_false]at h;obtain⟨k,h1,h2,h3,h4⟩:=ih.1 h;exact⟨k,h1,by omega,by omega,h4⟩
  {rintro⟨k,h1,h2,h3,h4⟩;by_cases e:k=i;{subst e;rw[h4,cond_true,h1];exact q9};{have:=ih.2 ⟨k,h1,by omega,by omega,h4⟩;cases P i;{exact this};{exact qU _ this}}}
theorem zDW {h:Host}{q:Int}:q∈zce h↔hasB q (ln h.Memory)=true/\zfo h.Mons q=0:=by unfold zce;rw[zP0];constructor;{rintro⟨k,rfl,h1,h2,h3⟩;exact⟨zC.2 (by unfold ln;omega),(zEY (by omega)).1 (qD h3)⟩};{rintro⟨h1,h2⟩;have h1':=zC.1 h1;unfold ln at h1';refine⟨q.toNat,by omega,by omega,by omega,?_⟩;rw[show ((q.toNat:Nat):Int)=q by omega];exact qJ ((zEY h1'.1).2 h2)}
theorem zVy {h:Host}(hn:zce h≠[]):hasB (ix (zce h) 0 0) (ln h.Memory)=true/\zfo h.Mons (ix (zce h) 0 0)=0:=by refine zDW.1 (zlb (zC.2 ⟨by omega,?_⟩) 0);unfold ln;have:=kN.2 hn;omega
structure But (h r:Host) (m p:Int):Prop where
 ne:∀i k,hasB i (ln h.Mons)=true->hasB k 8=true->¬ (i=m/\k=p)->ix (ix r.Mons i mZ).Outer k sZ=ix (ix h.Mons i mZ).Outer k sZ
theorem zDC {h r:Host}{m p:Int}(hm:hasB m (ln h.Mons)=true)(hp:hasB p 8=true){x:Mon}{s:Slot}(hM:r.Mons=up h.Mons m x)(ho:x.Outer=up (ix h.Mons m mZ).Outer p s):But h r m p:=by refine⟨λi k hi hk hc=>?_⟩;rw[hM];by_cases e:m=i;{subst e;rw[zZ hm,ho,zbo (zC.1 hp).1 (zC.1 hk).1 λe=>hc ⟨rfl,e.symm⟩]};{rw [zbo (zC.1 hm).1 (zC.1 hi).1 e]}
theorem zMP {h:Host}(H:HOk h){m p:Int}(hm:hasB m (ln h.Mons)=true)(hp:hasB p 8=true):But h (zdk h m p) m p/\ix (ix (zdk h m p).Mons m mZ).Outer p sZ=noSlot:=by have hM:(zdk h m p).Mons=up h.Mons m (zjz {ix h.Mons m mZ with Out:=up (ix h.Mons m mZ).Out p (zcp h.Memory (ix (ix h.Mons m mZ).Outer p sZ).Page)} p noSlot):=zoC hm rfl;refine⟨zDC hm hp hM rfl,?_⟩;rw[hM,zZ hm];exact zZ ((H.mon hm).hasO hp) _ _
structure Roomy (h r:Host):Prop where
 op:Op h r
 free:zce r≠[]
 sl:∀i k,hasB i (ln h.Mons)=true->hasB k 8=true->ix (ix r.Mons i mZ).Outer k sZ=ix (ix h.Mons i mZ).Outer k sZ\/ix (ix r.Mons i mZ).Outer k sZ=noSlot
 dirt:∀i,(ix r.Mons i mZ).Dirty=(ix h.Mons i mZ).Dirty
theorem zI8 {h r:Host}{m:Int}(hm:hasB m (ln h.Mons)=true){x:Mon}(hM:r.Mons=up h.Mons m x)(hd:x.Dirty=(ix h.Mons m mZ).Dirty)(i:Int):(ix r.Mons i mZ).Dirty=(ix h.Mons i mZ).Dirty:=by
 rw[hM];by_cases e:i.toNat=m.toNat
 {have:∀l:List Mon,ix l i mZ=ix l m mZ:=λl=>(by unfold ix;rw[e]);rw[this,this,zZ hm,hd]};{unfold ix up;simp[List.getD,jD,Ne.symm e]}
theorem roomy {h:Host}(H:HOk h):Roomy h (zc2 h):=by unfold zc2;by_cases hf:zce h=[];{rw [show ieq (ln<|zce h) 0=true by rw[hf];rfl,cond_true];have hn:¬ (zbD h 0).1<0:=λhc=>(by have:(0:Int)∈zce h:=zDW.2 ⟨zC.2 (by unfold ln;rw[H.m12];omega),(zEY (by omega)).1 hc⟩;rw[hf] at this;cases this);obtain⟨h1,h2,h3⟩:=zZ6 H (by omega) hn;have k:=zUc H h1 h2 (by rw[h3];decide);have hs:=zMP H h1 h2;refine⟨k,λhc=>?_,λi q hi hq=>?_,λi=>zI8 (x:=zjz {ix h.Mons (zbD h 0).1 mZ with Out:=up (ix h.Mons (zbD h 0).1 mZ).Out (zbD h 0).2 (zcp h.Memory (ix (ix h.Mons (zbD h 0).1 mZ).Outer (zbD h 0).2 sZ).Page)} (zbD h 0).2 noSlot) h1 (zoC h1 rfl) rfl i⟩;{have:(0:Int)∈zce (zdk h (zbD h 0).1 (zbD h 0).2):=(by refine zDW.2 ⟨zC.2 (by unfold ln;rw[k.ok.m12];omega),?_⟩;have hM:(zdk h (zbD h 0).1 (zbD h 0).2).Mons=up h.Mons (zbD h 0).1 (zjz {ix h.Mons (zbD h 0).1 mZ with Out:=up (ix h.Mons (zbD h 0).1 mZ).Out (zbD h 0).2 (zcp h.Memory (ix (ix h.Mons (zbD h 0).1 mZ).Outer (zbD h 0).2 sZ).Page)} (zbD h 0).2 noSlot):=zoC h1 rfl;have c1:=zvT h1 (zjz {ix h.Mons (zbD h 0).1 mZ with Out:=up (ix h.Mons (zbD h 0).1 mZ).Out (zbD h 0).2 (zcp h.Memory (ix (ix h.Mons (zbD h 0).1 mZ).Outer (zbD h 0).2 sZ).Page)} (zbD h 0).2 noSlot) 0;rw[<- hM] at c1;have c2:=zO7 (x':=zjz {ix h.Mons (zbD h 0).1 mZ with Out:=up (ix h.Mons (zbD h 0).1 mZ).Out (zbD h 0).2 (zcp h.Memory (ix (ix h.Mons (zbD h 0).1 mZ).Outer (zbD h 0).2 sZ).Page)} (zbD h 0).2 noSlot) ((H.mon h1).hasO h2) (s:=noSlot) rfl 0;rw[if_pos h3,if_neg (by decide)] at c2;have c3:=H.uq 0 (by omega);omega);rw[hc] at this;cases this};{by_cases e:i=(zbD h 0).1/\q=(zbD h 0).2;{rw [e.1,e.2];exact .inr hs.2};{exact .inl (hs.1.ne i q hi hq e)}}};{have:ieq (ln<|zce h) 0=false:=zbM.2 (by unfold ln;have:=kN.2 hf;omega);rw[this,cond_false];exact⟨Op.refl H,hf,λi k hi hk=>.inl rfl,λ_=>rfl⟩}
theorem zTD {m:List (List Int)}{p:Int}{c:List Int}(hp:hasB p (ln m)=true)(hc:zcn c=true):ziu m p c=up m p c:=by unfold ziu;rw[hp,hc];rfl
theorem zz3 {m:List (List Int)}{p q:Int}{c:List Int}(hp:0<=p)(h:q≠p):zcp (up m p c) q=zcp m q:=by unfold zcp;rw[zdU];cases hq:hasB q (ln m) with|false=>rfl|true=>rw[cond_true,cond_true,zbo hp (zC.1 hq).1<|Ne.symm h]
theorem zz2 {m:List (List Int)}{p:Int}{c:List Int}(hp:hasB p (ln m)=true):zcp (up m p c) p=c:=by rw[zkB (by rw[zdU];exact hp),zZ hp]
theorem zV1 {h:Host}(H:HOk h){m p to:Int}(hm:hasB m (ln h.Mons)=true)(hp:hasB p 8=true)(hn:(ix (ix h.Mons m mZ).Outer p sZ).Page = -1)(ht:hasB to (ln h.Memory)=true)(hf:zfo h.Mons to=0) :
 Op h (zfb h m p to)/\But h (zfb h m p to) m p/\ix (ix (zfb h m p to).Mons m mZ).Outer p sZ=⟨to,3⟩/\∀i,(ix (zfb h m p to).Mons i mZ).Dirty=(ix h.Mons i mZ).Dirty:=by
 have X:=H.mon hm;have ht':=zC.1 ht;unfold ln at ht';rw[H.m12]at ht';have hM:(zfb h m p to).Mons=up h.Mons m (zjz {ix h.Mons m mZ with Out:=up (ix h.Mons m mZ).Out p []} p ⟨to,3⟩):=zoC hm rfl;have k:Chg (ix h.Mons m mZ) (zjz {ix h.Mons m mZ with Out:=up (ix h.Mons m mZ).Out p []} p ⟨to,3⟩) p ⟨to,3⟩ []:=zza rfl rfl rfl rfl rfl rfl rfl rfl rfl;have hfit:=((zoQ<|X.slot hp).1 (X.fit p hp)).1 hn;have hmem:(zfb h m p to).Memory=up h.Memory to (ix (ix h.Mons m mZ).Out p []):=by show (zb6 (landing h m p to) m p ⟨to,3⟩).Memory=_;rw[zuC];exact zTD ht hfit
 have hs:SOk ⟨to,3⟩:=.inr ⟨ht'.1,by show to<=11;omega,by show (1:Int)<=3;omega,by show (3:Int)<=3;omega⟩
 have hb:=zsL (h:=landing h m p to) (m:=m) (p:=p) (s:=⟨to,3⟩) H.b1 H.b2;refine⟨⟨ztZ H hm hp hM k hs ((zoQ hs).2 ⟨λh=>absurd h (by show to≠-1;omega),λ_=>⟨show enough 3 1=true by decide,rfl⟩⟩) (by rw[hmem,zbG];exact H.m12) (λc hc=>?_) hb.1 hb.2 λ_=>.inr hf,
  ztr H hm hp hM k ?_ λi q hi hq hc hne=>?_,λR=>?_⟩,zDC hm hp hM rfl,?_,λi=>zI8 (x:=zjz {ix h.Mons m mZ with Out:=up (ix h.Mons m mZ).Out p []} p ⟨to,3⟩) hm hM rfl i⟩
 .rw [hmem]at hc;rcases qZ hc with h1|h1
  .exact H.pgs c h1
  .rw [h1];exact hfit
 .rw [zm6 hm hp<|X.hasO hp,zbj.2 hn,cond_true,zkB<|X.hasU hp];rw[show ieq (⟨to,3⟩:Slot).Page (-1)=false from zbM.2 (by show to≠-1;omega),cond_false,hmem]
  exact zz2 ht
 .rw [hmem];refine zz3 ht'.1 (λe=>?_);have:=zDD hi ((H.mon hi).hasO hq);rw[e] at this;omega
 .have R1:Rt (landing h m p to):=zIh (x:={ix h.Mons m mZ with Out:=up (ix h.Mons m mZ).Out p []}) R hm rfl rfl rfl rfl (λ_ _=>rfl) rfl rfl;have hm1:hasB m (ln (landing h m p to).Mons)=true:=by show hasB m (ln<|up h.Mons m _)=true;rw[zdU];exact hm
  have e1:ix (landing h m p to).Mons m mZ={ix h.Mons m mZ with Out:=up (ix h.Mons m mZ).Out p []}:=zZ hm _ _;exact zwV R1 hm1 (by rw[e1];exact X.hasO hp) (by rw[e1];exact X.gt) _
 .rw [hM,zZ hm];exact zZ (X.hasO hp) _ _
theorem zH4 {h:Host}(H:HOk h){m p:Int}(hm:hasB m (ln h.Mons)=true)(hp:hasB p 8=true)(hn:(ix (ix h.Mons m mZ).Outer p sZ).Page = -1) :
 Op h (fetched h m p)/\(∃to,0<=to/\to<=11/\ix (ix (fetched h m p).Mons m mZ).Outer p sZ=⟨to,3⟩)/\∀i,(ix (fetched h m p).Mons i mZ).Dirty=(ix h.Mons i mZ).Dirty:=by
 have R:=roomy H;have hm1:hasB m (ln (zc2 h).Mons)=true:=by rw[R.op.like.has];exact hm
 have hn1:(ix (ix (zc2 h).Mons m mZ).Outer p sZ).Page = -1:=by rcases R.sl m p hm hp with h1|h1<;>rw [h1];{exact hn};{rfl}
 obtain⟨h1,h2⟩:=zVy R.free;obtain⟨k1,k2,k3,k4⟩:=zV1 R.op.ok hm1 hp hn1 h1 h2;have h1':=zC.1 h1;unfold ln at h1';rw[R.op.ok.m12]at h1';exact⟨R.op.trans k1,⟨_,h1'.1,by omega,k3⟩,λi=>(k4 i).trans (R.dirt i)⟩
theorem zna {o:List Slot}{p:Int}(h:hasB p (ln o)=true):zbs o p=ix o p sZ:=by unfold zbs;rw[h];rfl
theorem zkD {h:Host}(H:HOk h){m p:Int}(hm:hasB m (ln h.Mons)=true)(hp:hasB p 8=true) :
 (cond (ieq (ix (ix h.Mons m mZ).Outer p sZ).Page<|-1) (ix (ix h.Mons m mZ).Out p [])<|zcp h.Memory (ix (ix h.Mons m mZ).Outer p sZ).Page)=zcm h m p:=by
 rw[zm6 hm hp<|(H.mon hm).hasO hp,zkB<|(H.mon hm).hasU hp]
structure Mark (x y:Mon):Prop where
 o:y.Outer=x.Outer
 u:y.Out=x.Out
 g:y.Guests=x.Guests
 t:y.Tables=x.Tables
 d:y.Dirty.length=x.Dirty.length
 a1:y.Outs=x.Outs
 a2:y.Pending=x.Pending
 a3:y.Traps=x.Traps
 a4:y.Own=x.Own
theorem zUb {h:Host}(H:HOk h){m:Int}(hm:hasB m (ln h.Mons)=true){y:Mon}(k:Mark (ix h.Mons m mZ) y):Op h {h with Mons:=up h.Mons m y}/\∀i q,ix (ix (up h.Mons m y) i mZ).Outer q sZ=ix (ix h.Mons i mZ).Outer q sZ:=by
 have X:=H.mon hm;have h0:hasB 0 8=true:=(by decide);have c:Chg (ix h.Mons m mZ) y 0 (ix (ix h.Mons m mZ).Outer 0 sZ) (ix (ix h.Mons m mZ).Out 0 []):=⟨by rw[zFe<|X.hasO h0,k.o],by rw[zFe<|X.hasU h0,k.u],k.g,by rw[k.t],k.d,k.a1,k.a2,k.a3,k.a4⟩
 refine⟨⟨ztZ H hm h0 rfl c (X.slot h0) (X.fit 0 h0) H.m12 H.pgs H.b1 H.b2 λ_=>.inl rfl,ztr H hm h0 rfl c (zkD H hm h0) λ_ _ _ _ _ _=>rfl,
  λR=>zIh R hm rfl rfl rfl (by rw[k.g]) (λg _=>by rw[k.g]) k.t k.o⟩,λi q=>?_⟩
 by_cases e:i.toNat=m.toNat
 {have:∀l:List Mon,ix l i mZ=ix l m mZ:=λl=>(by unfold ix;rw[e]);rw[this,this,zZ hm,k.o]};{have:ix (up h.Mons m y) i mZ=ix h.Mons i mZ:=(by unfold ix up;simp[List.getD,jD,Ne.symm e]);rw[this]}
theorem zH3 {h:Host}(H:HOk h){m:Int}(hm:hasB m (ln h.Mons)=true)(p:Int):Op h (zbx h m p)/\∀i q,ix (ix (zbx h m p).Mons i mZ).Outer q sZ=ix (ix h.Mons i mZ).Outer q sZ :=
 zUb H hm ⟨rfl,rfl,rfl,rfl,zbG _ _ _,rfl,rfl,rfl,rfl⟩
theorem zYe {h:Host}(H:HOk h){m:Int}(hm:hasB m (ln h.Mons)=true)(p:Int):Op h (zpm h m p)/\∀i q,ix (ix (zpm h m p).Mons i mZ).Outer q sZ=ix (ix h.Mons i mZ).Outer q sZ :=
 zUb H hm ⟨rfl,rfl,rfl,rfl,zbG _ _ _,rfl,rfl,rfl,rfl⟩
theorem rights {r:Int}(h0:1<=r)(h3:r<=3):r=1\/r=2\/r=3:=by omega
theorem MOk.enough1 {x:Mon}(X:MOk x){p:Int}(hp:hasB p 8=true)(hn:(ix x.Outer p sZ).Page≠-1):(ix x.Outer p sZ).Rights=1\/(ix x.Outer p sZ).Rights=3:=by have h1:=(((zoQ<|X.slot hp).1 (X.fit p hp)).2 hn).1;have h2:=(X.slot hp).pos hn;rcases rights h2.2.2.1 h2.2.2.2 with e|e|e;{exact .inl e};{rw [e]at h1;exact absurd h1 (by decide)};{exact .inr e}
theorem zMz {h:Host}(H:HOk h){m p:Int}(hm:hasB m (ln h.Mons)=true)(hp:hasB p 8=true)(hn:(ix (ix h.Mons m mZ).Outer p sZ).Page≠-1){r:Int}(hr:r=1\/r=3) :
 Op h (zb6 h m p ⟨(ix (ix h.Mons m mZ).Outer p sZ).Page,r⟩)/\But h (zb6 h m p ⟨(ix (ix h.Mons m mZ).Outer p sZ).Page,r⟩) m p/\
  ix (ix (zb6 h m p ⟨(ix (ix h.Mons m mZ).Outer p sZ).Page,r⟩).Mons m mZ).Outer p sZ=⟨(ix (ix h.Mons m mZ).Outer p sZ).Page,r⟩/\∀i,(ix (zb6 h m p ⟨(ix (ix h.Mons m mZ).Outer p sZ).Page,r⟩).Mons i mZ).Dirty=(ix h.Mons i mZ).Dirty:=by
 have X:=H.mon hm;have hpos:=(X.slot hp).pos hn;have hM:=zq2 h m p ⟨(ix (ix h.Mons m mZ).Outer p sZ).Page,r⟩;have k:Chg (ix h.Mons m mZ) (zjz (ix h.Mons m mZ) p ⟨(ix (ix h.Mons m mZ).Outer p sZ).Page,r⟩) p ⟨(ix (ix h.Mons m mZ).Outer p sZ).Page,r⟩ (ix (ix h.Mons m mZ).Out p []):=
  zza rfl (zFe (X.hasU hp) _).symm rfl rfl rfl rfl rfl rfl rfl
 have hs:SOk ⟨(ix (ix h.Mons m mZ).Outer p sZ).Page,r⟩:=.inr ⟨hpos.1,hpos.2.1,by show 1<=r;omega,by show r<=3;omega⟩
 have hfit:=((zoQ<|X.slot hp).1 (X.fit p hp)).2 hn;have hb:=zsL (h:=h) (m:=m) (p:=p) (s:=⟨(ix (ix h.Mons m mZ).Outer p sZ).Page,r⟩) H.b1 H.b2;have hmem:=zuC h m p ⟨(ix (ix h.Mons m mZ).Outer p sZ).Page,r⟩;refine⟨⟨ztZ H hm hp hM k hs ((zoQ hs).2 ⟨λh=>absurd h hn,λ_=>⟨?_,hfit.2⟩⟩) (by rw[hmem];exact H.m12) (by rw[hmem];exact H.pgs) hb.1 hb.2 λ_=>.inl rfl,
  ztr H hm hp hM k (by rw[hmem];exact zkD H hm hp) (λi q _ _ _ _=>by rw[hmem]),λR=>zwV R hm (X.hasO hp) X.gt _⟩,zDC hm hp hM rfl,?_,λi=>zI8 hm hM rfl i⟩
 .show enough r 1=true
  rcases hr with rfl|rfl<;>decide
 .rw [hM,zZ hm];exact zZ (X.hasO hp) _ _
structure Mended (h r:Host) (m p n:Int):Prop where
 op:Op h r
 inn:(ix (ix r.Mons m mZ).Outer p sZ).Page≠-1
 ri:ieq (wand .i64 n 2) 0=false->(ix (ix r.Mons m mZ).Outer p sZ).Rights=3
 dt:ieq (wand .i64 n 2) 0=false->ix (ix r.Mons m mZ).Dirty p false=true
 d0:ieq (wand .i64 n 2) 0=true->(ix r.Mons m mZ).Dirty=(ix h.Mons m mZ).Dirty
 dk:∀k,hasB k 8=true->k≠p->ix (ix r.Mons m mZ).Dirty k false=ix (ix h.Mons m mZ).Dirty k false
 dm:∀i,hasB i (ln h.Mons)=true->i≠m->(ix r.Mons i mZ).Dirty=(ix h.Mons i mZ).Dirty
theorem zQ1 {h:Host}(H:HOk h){m p:Int}(n:Int)(hm:hasB m (ln h.Mons)=true)(hp:hasB p 8=true)(hn:(ix (ix h.Mons m mZ).Outer p sZ).Page≠-1):Mended h (zjl h m p n) m p n:=by
 unfold zjl;cases hw:ieq (wand .i64 n 2) 0 with
 |true=>exact⟨Op.refl H,hn,λe=>Bool.noConfusion<|hw.symm.trans e,λe=>Bool.noConfusion<|hw.symm.trans e,λ_=>rfl,λ_ _ _=>rfl,λ_ _ _=>rfl⟩
 |false=>rw[cond_false];obtain⟨k1,k2⟩:=zH3 H hm p;have hm1:hasB m (ln (zbx h m p).Mons)=true:=(by rw[k1.like.has];exact hm);have hn1:(ix (ix (zbx h m p).Mons m mZ).Outer p sZ).Page≠-1:=(by rw[k2];exact hn);have hd:(ix (zbx h m p).Mons m mZ).Dirty=up (ix h.Mons m mZ).Dirty p true:=(by show (ix (up h.Mons m _) m mZ).Dirty=_;rw[zZ hm]);have hd2:∀i,hasB i (ln h.Mons)=true->i≠m->(ix (zbx h m p).Mons i mZ).Dirty=(ix h.Mons i mZ).Dirty:=λi hi hc=>(by show (ix (up h.Mons m _) i mZ).Dirty=_;rw[zbo (zC.1 hm).1 (zC.1 hi).1<|Ne.symm hc]);have he:=(k1.ok.mon hm1).enough1 hp hn1;have hD:∀r:Host,(∀i,(ix r.Mons i mZ).Dirty=(ix (zbx h m p).Mons i mZ).Dirty)->Op (zbx h m p) r->(ix (ix r.Mons m mZ).Outer p sZ).Page≠-1->(ix (ix r.Mons m mZ).Outer p sZ).Rights=3->Mended h r m p n:=(by intro r h1 h2 h3 h4;refine⟨k1.trans h2,h3,λ_=>h4,λ_=>?_,λe=>Bool.noConfusion<|hw.symm.trans e,λk hk hc=>?_,λi hi hc=>by rw[h1,hd2 i hi hc]⟩;{rw [h1,hd,zZ<|(H.mon hm).hasD hp]};{rw [h1,hd,zbo (zC.1 hp).1 (zC.1 hk).1<|Ne.symm hc]});unfold opened;rcases he with e|e;{rw [e,show ieq (wand .i64 1 2) 0=true by decide,cond_true];obtain⟨o1,o2,o3,o4⟩:=zMz k1.ok hm1 hp hn1 (r:=3) (.inr rfl);exact hD _ o4 o1 (by rw[o3];exact hn1) (by rw[o3])};{rw [e,show ieq (wand .i64 3 2) 0=false by decide,cond_false];exact hD _ (λ_=>rfl) (Op.refl k1.ok) hn1 e}
theorem zMy {h:Host}(H:HOk h){m p:Int}(n:Int)(hm:hasB m (ln h.Mons)=true)(hp:hasB p 8=true):Mended h (mended h m p n) m p n:=by unfold mended;by_cases e:(ix (ix h.Mons m mZ).Outer p sZ).Page = -1;{rw [zbj.2 e,cond_true];obtain⟨k1,⟨to,t1,t2,t3⟩,k3⟩:=zH4 H hm hp e;have K:=zQ1 k1.ok n (by rw[k1.like.has];exact hm) hp (by rw[t3];show to≠-1;omega);exact⟨k1.trans K.op,K.inn,K.ri,K.dt,λe=>by rw[K.d0 e,k3],λk hk hc=>by rw[K.dk k hk hc,k3],λi hi hc=>by rw[K.dm i (by rw[k1.like.has];exact hi) hc,k3]⟩};{rw [zbM.2 e,cond_false];exact zQ1 H n hm hp e}
theorem zkC {h:Host}{m p:Int}:zb3 h m p=true↔HOk h/\hasB m (ln h.Mons)=true/\hasB p 8=true:=by unfold zb3;rw[zb8,zb8,zjQ]
theorem zH5 {h:Host}(H:HOk h)(m p:Int):Op h (zeH h m p):=by unfold zeH;cases hh:zb3 h m p with|false=>exact Op.refl H|true=>obtain⟨_,hm,hp⟩:=zkC.1 hh;rw[cond_true];unfold zg5;by_cases e:(ix (ix h.Mons m mZ).Outer p sZ).Page = -1;{rw [zbj.2 e];exact Op.refl H};{rw [zbM.2 e];exact zUc H hm hp e}
theorem zYd {h:Host}(H:HOk h)(m p:Int):Op h (zsj h m p):=by unfold zsj;cases hh:zb3 h m p with|false=>exact Op.refl H|true=>obtain⟨_,hm,hp⟩:=zkC.1 hh;rw[cond_true];unfold zg5;by_cases e:(ix (ix h.Mons m mZ).Outer p sZ).Page = -1;{rw [zbj.2 e];exact(zH4 H hm hp e).1};{rw [zbM.2 e];exact Op.refl H}
theorem zYc {h:Host}(H:HOk h)(m p:Int):Op h (zr8 h m p):=by unfold zr8;cases hh:zb3 h m p with|false=>exact Op.refl H|true=>obtain⟨_,hm,hp⟩:=zkC.1 hh;rw[cond_true];obtain⟨k1,k2⟩:=zYe H hm p;(cases e:zcT (ix (ix h.Mons m zf).Outer p zO) noSlot with|true=>exact k1|false=>rw[cond_false];have hn:(ix (ix h.Mons m mZ).Outer p sZ).Page≠-1:=λh1=>zqu.1 e (((H.mon hm).slot hp).none h1);have:=zMz k1.ok (m:=m) (p:=p) (by rw[k1.like.has];exact hm) hp (by rw[k2];exact hn) (r:=1) (.inl rfl);rw[k2 m p] at this;exact k1.trans this.1)
structure KeepP (x y:Mon):Prop where
 o:y.Outer=x.Outer
 u:y.Out=x.Out
theorem zIa {h r:Host}{m:Int}(hm:hasB m (ln h.Mons)=true){y:Mon}(hM:r.Mons=up h.Mons m y)(hmem:r.Memory=h.Memory)(k:KeepP (ix h.Mons m mZ) y)(i q:Int):zcm r i q=zcm h i q:=by unfold zcm;rw[hM,zdU,hmem];cases hi:hasB i (ln h.Mons) with|false=>rfl|true=>by_cases e:m=i;{subst e;rw[zZ hm,k.o,k.u]};{rw [zbo (zC.1 hm).1 (zC.1 hi).1 e]}
theorem zsH {h r:Host}{m:Int}(hm:hasB m (ln h.Mons)=true){y:Mon}(hM:r.Mons=up h.Mons m y)(hmem:r.Memory=h.Memory)(k:KeepP (ix h.Mons m mZ) y)(i:Int) :
 zy r i=bif ieq i m then ⟨(zy h i).Memory,y.Guests,y.Outs,y.Pending⟩ else zy h i:=by
 have hp:zcq r i 8 0=zcq h i 8 0:=zpF 8 0 (λj _ _=>zIa hm hM hmem k i j);unfold zy;rw[hp,hM,zdU]
 by_cases e:i=m
 .subst e;rw[hm,zbj.2 rfl,zZ hm];rfl
 .rw [zbM.2 e,cond_false];cases hi:hasB i (ln h.Mons) with
  |false=>rfl
  |true=>rw[zbo (zC.1 hm).1 (zC.1 hi).1<|Ne.symm e]
theorem zku {x y:Mon}(X:MOk x)(k:KeepP x y)(g:y.Guests.length=x.Guests.length)(t:y.Tables.length=x.Tables.length)(d:y.Dirty.length=x.Dirty.length)(o:y.Outs.length<=40)(p:zdq y.Pending=true)(tr:zi y.Traps 0 3=true)(ow:zi y.Own 0 1000000000=true)(gs:∀g∈y.Guests,zdC g=true):MOk y :=
 ⟨by rw[g];exact X.g1,by rw[g];exact X.g2,by rw[t,g];exact X.gt,by rw[k.o];exact X.o8,by rw[k.o];exact X.sl,by rw[k.u];exact X.u8,by rw[d];exact X.d8,o,p,tr,ow,gs,by rw[k.o,k.u];exact X.fit⟩
theorem zPP {h:Host}(H:HOk h){m:Int}(hm:hasB m (ln h.Mons)=true){y:Mon}(k:KeepP (ix h.Mons m mZ) y)(hy:MOk y):HOk {h with Mons:=up h.Mons m y} :=
 H.up hm hy rfl H.m12 H.pgs H.b1 H.b2 λq _=>.inl (by unfold cPg;rw[k.o];exact qX _)
theorem ztV {h:Host}(S:Safe h){m:Int}(hm:hasB m (ln h.Mons)=true){y:Mon}(k:KeepP (ix h.Mons m mZ) y)(hy:MOk y)(hg:y.Guests.length=(ix h.Mons m mZ).Guests.length)(hv:∀g,hasB g (ln (ix h.Mons m mZ).Guests)=true->(ix y.Guests g gZ).Live=(ix (ix h.Mons m mZ).Guests g gZ).Live)(ht:y.Tables=(ix h.Mons m mZ).Tables):Safe {h with Mons:=up h.Mons m y} :=
 ⟨zPP S.ok hm k hy,zIh S.rt hm rfl rfl rfl hg hv ht k.o⟩
theorem zOf {h:Host}(S:Safe h)(m t:Int):Safe (zjy h m t)/\∀i,zy (zjy h m t) i=zy h i:=by
 unfold zjy;rw[zjQ.2 S.ok,cond_true];cases hm:hasB m (ln h.Mons) with
 |false=>exact⟨S,λ_=>rfl⟩
 |true=>
  cases ht:zi t 0 3 with
  |false=>exact⟨S,λ_=>rfl⟩
  |true=>have X:=S.ok.mon hm;have k:KeepP (ix h.Mons m mZ) {ix h.Mons m mZ with Traps:=t}:=⟨rfl,rfl⟩;refine⟨ztV S hm k (zku X k rfl rfl rfl X.outs X.pend ht X.own X.gs) rfl (λ_ _=>rfl) rfl,λi=>?_⟩;rw[cond_true,cond_true];refine(zsH (h:=h) (r:={h with Mons:=up h.Mons m {ix h.Mons m mZ with Traps:=t}}) hm rfl rfl k i).trans ?_;by_cases e:i=m;{subst e;rw[zbj.2 rfl,cond_true];unfold zy;rw[hm];rfl};{rw [zbM.2 e];rfl}
theorem zCS:∀(n i:Nat) (k:Kept),(ziG n i k).Known.length=k.Known.length/\(ziG n i k).Slots.length=k.Slots.length
 | 0,i,k=>⟨rfl,rfl⟩
 |n+1,i,k=>by have h1:=zCS n (i+1) (zbR k (i:Int));have h2:=zko k (i:Int);exact⟨h1.1.trans h2.1,h1.2.trans h2.2⟩
theorem zGx:∀(n i:Nat) (k:Kept),k.Known.length=k.Slots.length->∀j,hasB j (ln k.Known)=true->
 ((i:Int)<=j/\j<((i+n:Nat):Int)->ix (ziG n i k).Known j false=false/\ix (ziG n i k).Slots j sZ=noSlot)/\
 (¬ ((i:Int)<=j/\j<((i+n:Nat):Int))->ix (ziG n i k).Known j false=ix k.Known j false/\ix (ziG n i k).Slots j sZ=ix k.Slots j sZ)
 | 0,i,k,_,j,_=>⟨λh=>by omega,λ_=>⟨rfl,rfl⟩⟩
 |n+1,i,k,hl,j,hj=>by have h2:=zko k (i:Int);have h3:=zui (q:=(i:Int)) hl hj;have ih:=zGx n (i+1) (zbR k (i:Int)) (by rw[h2.1,h2.2,hl]) j (by unfold ln at hj ⊢;rwa [h2.1]);rw[ziG];by_cases hc:((i+1:Nat):Int)<=j/\j<((i+1+n:Nat):Int);{exact⟨λ_=>ih.1 hc,λh=>absurd (by omega) h⟩};{rw [(ih.2 hc).1,(ih.2 hc).2,h3.1,h3.2];by_cases e:(i:Int)=j;{rw [zbj.2 e];exact⟨λ_=>⟨rfl,rfl⟩,λh=>absurd (by omega) h⟩};{rw [zbM.2 e];exact⟨λh=>absurd (by omega) hc,λ_=>⟨rfl,rfl⟩⟩}}
theorem zNu {k:Kept}{inner outer:List Slot}(h:KOk k inner outer):KOk (zjf k) inner outer:=by have hl:=zCS k.Known.length 0 k;refine⟨hl.1.trans h.l1,hl.2.trans h.l2,λi hi=>?_⟩;have hi':hasB i (ln k.Known)=true:=(by unfold ln at hi ⊢;rwa [h.l1]);have hi2:=zC.1 hi';unfold ln at hi2;have:=(zGx k.Known.length 0 k (by rw[h.l1,h.l2]) i hi').1 ⟨by omega,by omega⟩;unfold zjf;rw[this.1,this.2];rfl
theorem zGi:∀(n j:Nat) (l:List Kept),(zs7 n j l).length=l.length
 | 0,_,_=>rfl
 |n+1,j,l=>by rw[zs7,zGi n,zbG]
theorem zPb:∀(n j:Nat) (l:List Kept),j+n<=l.length->∀g,0<=g->ix (zs7 n j l) g kZ=if (j:Int)<=g/\g<((j+n:Nat):Int) then zjf (ix l g kZ) else ix l g kZ
 | 0,j,l,_,g,hg=>by rw[if_neg (by omega)];rfl
 |n+1,j,l,hl,g,hg=>by rw[zs7,zPb n (j+1) _ (by rw[zbG];omega) g hg];by_cases e:(j:Int)=g;{subst e;rw[if_neg (by omega),if_pos (by omega),zZ<|zC.2 ⟨by omega,by unfold ln;omega⟩]};{rw [zbo (by omega) hg e];by_cases h:((j+1:Nat):Int)<=g/\g<((j+1+n:Nat):Int);{rw [if_pos h,if_pos (by omega)]};{rw [if_neg h,if_neg (by omega)]}}
theorem zGh:∀(n i:Nat) (l:List Mon),(znm n i l).length=l.length
 | 0,_,_=>rfl
 |n+1,i,l=>by rw[znm,zGh n,zbG]
theorem zL3:∀(n i:Nat) (l:List Mon),i+n<=l.length->∀m,0<=m->ix (znm n i l) m mZ=if (i:Int)<=m/\m<((i+n:Nat):Int) then zs8 (ix l m mZ) (ix l m mZ).Tables.length 0 else ix l m mZ
 | 0,i,l,_,m,hm=>by rw[if_neg (by omega)];rfl
 |n+1,i,l,hl,m,hm=>by rw[znm,zL3 n (i+1) _ (by rw[zbG];omega) m hm];by_cases e:(i:Int)=m;{subst e;rw[if_neg (by omega),if_pos (by omega),zZ<|zC.2 ⟨by omega,by unfold ln;omega⟩]};{rw [zbo (by omega) hm e];by_cases h:((i+1:Nat):Int)<=m/\m<((i+1+n:Nat):Int);{rw [if_pos h,if_pos (by omega)]};{rw [if_neg h,if_neg (by omega)]}}
theorem zY9 (h:Host){m:Int}(hm:hasB m (ln h.Mons)=true):ix (cold h).Mons m mZ=zs8 (ix h.Mons m mZ) (ix h.Mons m mZ).Tables.length 0:=by have:=zC.1 hm;unfold ln at this;show ix (znm h.Mons.length 0 h.Mons) m mZ=_;rw[zL3 _ _ _ (by omega) m this.1,if_pos (by omega)]
theorem zuY (h:Host):(cold h).Mons.length=h.Mons.length:=zGh _ _ _
theorem zDF (h:Host)(m:Int):hasB m (ln (cold h).Mons)=hasB m (ln h.Mons):=by unfold ln;rw[zuY]
theorem z2A {l l':List Mon}(hl:l'.length=l.length)(h:∀m,hasB m (ln l)=true->(ix l' m mZ).Outer=(ix l m mZ).Outer)(q:Int):zfo l' q=zfo l q:=by have:l'.map (λx=>cPg x q)=l.map (λx=>cPg x q):=(by refine vI (by simp[hl]) λk h1 h2=>?_;simp only[uL]at h1 h2;have:=h (k:Int) (zC.2 ⟨by omega,by unfold ln;omega⟩);rw[zkt h1,zkt h2] at this;simp[cPg,this]);unfold zfo;rw[this]
theorem z3F {h:Host}(H:HOk h):Op h (cold h):=by have hx:∀m,hasB m (ln h.Mons)=true->ix (cold h).Mons m mZ=zs8 (ix h.Mons m mZ) (ix h.Mons m mZ).Tables.length 0:=λm hm=>zY9 h hm;have hpg:∀i q,zcm (cold h) i q=zcm h i q:=(by intro i q;unfold zcm;rw[zDF];cases hi:hasB i (ln h.Mons) with|false=>rfl|true=>rw[hx i hi];rfl);refine⟨⟨H.m12,H.pgs,by rw[zuY];exact H.n1,by rw[zuY];exact H.n3,rfl,rfl,λy hy=>?_,λq hq=>?_⟩,⟨zuY h,λi hi=>by rw[hx i hi];rfl,λi hi=>by rw[hx i hi];rfl,λi hi=>by rw[hx i hi];rfl,λi hi=>by rw[hx i hi];rfl,λi hi=>by rw[hx i hi];rfl,λi k _ _=>hpg i k⟩,λR=>⟨λm hm=>?_,λe he=>(by cases he),λe he=>(by cases he)⟩⟩;{obtain⟨m,hm,rfl⟩:=zQT hy mZ;rw[zDF]at hm;rw[hx m hm];have X:=H.mon hm;have k:KeepP (ix h.Mons m mZ) (zs8 (ix h.Mons m mZ) (ix h.Mons m mZ).Tables.length 0):=⟨rfl,rfl⟩;exact zku X k rfl (zGi _ _ _) rfl X.outs X.pend X.tr X.own X.gs};{rw [z2A (l:=h.Mons) (zuY h) (λm hm=>by rw[hx m hm];rfl)];exact H.uq q hq};{rw [zDF]at hm;rw[hx m hm];have X:=H.mon hm;intro g hg;show KOk (ix (zs7 (ix h.Mons m mZ).Tables.length 0 (ix h.Mons m mZ).Tables) g kZ) (ix (ix h.Mons m mZ).Guests g gZ).Live (ix h.Mons m mZ).Outer;have hg':hasB g (ln (ix h.Mons m mZ).Guests)=true:=hg;have hg2:=zC.1 hg';unfold ln at hg2;have hgt:=X.gt;rw[zPb _ _ _ (by omega) g hg2.1,if_pos (by omega)];exact zNu (R.t m hm g hg')}
theorem zRP {m g:Int}(hm:zi m 0 2=true)(hg:zi g 0 1=true):zdH (zd1 m g)=m/\zes (zd1 m g)=g/\1<=zd1 m g/\zd1 m g<=6:=by have h1:=zcD.1 hm;have h2:=zcD.1 hg;have e1:m=0\/m=1\/m=2:=(by omega);have e2:g=0\/g=1:=(by omega);rcases e1 with rfl|rfl|rfl<;>rcases e2 with rfl|rfl<;>decide
theorem HOk.tag {h:Host}(H:HOk h){m g:Int}(hm:hasB m (ln h.Mons)=true)(hg:hasB g (ln (ix h.Mons m mZ).Guests)=true):zi m 0 2=true/\zi g 0 1=true:=by have h1:=zC.1 hm;have h2:=zC.1 hg;have h3:=H.n3;have h4:=(H.mon hm).g2;unfold ln at h1 h2;exact⟨zcD.2 (by omega),zcD.2 (by omega)⟩
theorem zgw {r:Int}:zdy r=true↔r=0\/r=1\/r=2\/r=3:=by unfold zdy ige ile;rw[qE,qY,qY];omega
theorem zqa {a b:Int}(h:enough a b=true):zdy a=true/\zdy b=true:=by unfold enough at h;rw[zb8,zb8]at h;exact⟨h.1,h.2.1⟩
theorem zPA {a b c:Int}(h1:enough a b=true)(h2:enough b c=true):enough a c=true:=by have ha:=zgw.1 (zqa h1).1;have hb:=zgw.1 (zqa h1).2;have hc:=zgw.1 (zqa h2).2;rcases ha with rfl|rfl|rfl|rfl<;>rcases hb with rfl|rfl|rfl|rfl<;>rcases hc with rfl|rfl|rfl|rfl<;>revert h1 h2<;>decide
theorem zSv {a b n:Int}(hn:n=1\/n=2)(h1:enough a n=true)(h2:enough b n=true):zeg a b≠0/\enough (zeg a b) n=true:=by have ha:=zgw.1 (zqa h1).1;have hb:=zgw.1 (zqa h2).1;rcases hn with rfl|rfl<;>rcases ha with rfl|rfl|rfl|rfl<;>rcases hb with rfl|rfl|rfl|rfl<;>revert h1 h2<;>decide
theorem both_ok (a b:Int):zdy (zeg a b)=true:=by
 unfold zeg;cases ha:zdy a with
 |false=>rfl
 |true=>
  cases hb:zdy b with
  |false=>rfl
  |true=>have ha:=zgw.1 ha;have hb:=zgw.1 hb;rcases ha with rfl|rfl|rfl|rfl<;>rcases hb with rfl|rfl|rfl|rfl<;>decide
theorem zSD {a:Int}(h:zdy a=true):enough a a=true:=by rcases zgw.1 h with rfl|rfl|rfl|rfl<;>decide
theorem zpw {n:Int}(hn:n=1\/n=2):enough 0 n=false:=by rcases hn with rfl|rfl<;>decide
theorem zU1 {s:Slot}{o:List Slot}(h1:s.Page≠-1)(h2:(zbs o s.Page).Page≠-1):zbq s o=bif ieq (zeg s.Rights (zbs o s.Page).Rights) 0 then noSlot else ⟨(zbs o s.Page).Page,zeg s.Rights (zbs o s.Page).Rights⟩:=by unfold zbq;rw[zbM.2 h1,zbM.2 h2];rfl
theorem zoN {s:Slot}{o:List Slot}{n:Int}(hn:n=1\/n=2)(h:enough (zbq s o).Rights n=true):s.Page≠-1/\(zbs o s.Page).Page≠-1/\(zbq s o).Page=(zbs o s.Page).Page:=by unfold zbq at h ⊢;by_cases e1:s.Page = -1;{rw [zbj.2 e1,cond_true]at h;rw[show noSlot.Rights=0 from rfl,zpw hn]at h;cases h};{rw [zbM.2 e1,cond_false]at h ⊢;by_cases e2:(zbs o s.Page).Page = -1;{rw [zbj.2 e2,cond_true]at h;rw[show noSlot.Rights=0 from rfl,zpw hn]at h;cases h};{rw [zbM.2 e2,cond_false]at h ⊢;by_cases e3:zeg s.Rights (zbs o s.Page).Rights=0;{rw [zbj.2 e3,cond_true]at h;rw[show noSlot.Rights=0 from rfl,zpw hn]at h;cases h};{rw [zbM.2 e3];exact⟨e1,e2,rfl⟩}}}
theorem zPc {s:Slot}{o:List Slot}{n:Int}(hn:n=1\/n=2)(h1:s.Page≠-1)(h2:(zbs o s.Page).Page≠-1)(h3:enough s.Rights n=true)(h4:enough (zbs o s.Page).Rights n=true) :
 (zbq s o).Page=(zbs o s.Page).Page/\enough (zbq s o).Rights n=true:=by
 have:=zSv hn h3 h4;rw[zU1 h1 h2,zbM.2 this.1];exact⟨rfl,this.2⟩
theorem zU2 (s:Slot)(o:List Slot):zdy (zbq s o).Rights=true:=by unfold zbq;cases ieq s.Page (-1)<;>cases ieq (zbs o s.Page).Page (-1)<;>cases ieq (zeg s.Rights (zbs o s.Page).Rights) 0<;>first|rfl|exact both_ok _ _
theorem zwm {b:List Entry}{t p:Int}{e:Entry}:e∈zcB b t p↔e∈b/\¬ (e.Tag=t/\e.Page=p):=by unfold zcB;rw[List.mem_filter];refine and_congr Iff.rfl ?_;unfold zql;by_cases h:e.Tag=t;{rw [show ine e.Tag t=false by simp[ine,h],cond_false,zAX];simp[h]};{rw [zAX.2 h];simp[h]}
theorem z0f {b:List Entry}{e x:Entry}(h:x∈zqL b e):x∈b\/x=e:=by unfold zqL ap at h;have:x∈zcB b e.Tag e.Page++[e]:=(by cases hc:igt (ln<|zcB b e.Tag e.Page++[e]) 6 with|true=>rw[hc,cond_true]at h;exact kI h|false=>rw[hc,cond_false]at h;exact h);rcases jI.1 this with h|h;{exact .inl (zwm.1 h).1};{exact .inr (qF.1 h)}
theorem z5Q {n:Nat}(h:n<=100):wsub .i64 (n:Int) 6=(n:Int)-6:=by unfold wsub IntKind.wrap;simp[IntKind.signed,IntKind.bits];omega
theorem zTN {b:List Entry}(h:zfA b=true)(e:Entry):zfA (zqL b e)=true:=by have h1:=zAI.1 h;have hl:(zcB b e.Tag e.Page).length<=6:=jB (k8 _ _) h1.2;have hp:(zcB b e.Tag e.Page++[e]).Pairwise (λy x=>sameKey x y=false):=(by rw[List.pairwise_append];refine⟨h1.1.sublist List.filter_sublist,List.pairwise_singleton _ _,λx hx y hy=>?_⟩;rw[qF.1 hy];have:=(zwm.1 hx).2;unfold sameKey;by_cases e1:e.Tag=x.Tag;{rw [zbj.2 e1,cond_true,zbM];exact λe2=>this ⟨e1.symm,e2.symm⟩};{rw [zbM.2 e1];rfl});unfold zqL ap;cases hc:igt (ln<|zcB b e.Tag e.Page++[e]) 6 with|true=>rw[cond_true,zAI];refine⟨hp.sublist<|List.drop_sublist _ _,?_⟩;unfold dp ln;rw[kR,k6,z5Q (by omega),List.length_drop,kR,k6];omega|false=>rw[cond_false,zAI];refine⟨hp,?_⟩;have:=jQ hc;unfold ln at this;omega
theorem zXX {h r:Host}{m:Int}(hm:hasB m (ln h.Mons)=true){y:Mon}(hM:r.Mons=up h.Mons m y)(hmem:r.Memory=h.Memory)(k:KeepP (ix h.Mons m mZ) y)(g:y.Guests=(ix h.Mons m mZ).Guests)(o:y.Outs=(ix h.Mons m mZ).Outs)(p:y.Pending=(ix h.Mons m mZ).Pending)(t:y.Traps=(ix h.Mons m mZ).Traps)(w:y.Own=(ix h.Mons m mZ).Own):Like h r:=by have e:∀{α:Type} (F:Mon->α),F y=F (ix h.Mons m mZ)->∀i,hasB i (ln h.Mons)=true->F (ix r.Mons i mZ)=F (ix h.Mons i mZ):=(by intro α F hF i hi;rw[hM];by_cases e:m=i;{subst e;rw[zZ hm];exact hF};{rw [zbo (zC.1 hm).1 (zC.1 hi).1 e]});exact⟨by rw[hM,zbG],e Mon.Guests g,e Mon.Outs o,e Mon.Pending p,e Mon.Traps t,e Mon.Own w,λi q _ _=>zIa hm hM hmem k i q⟩
theorem z0h {h:Host}(R:Rt h){m g:Int}(hm:hasB m (ln h.Mons)=true)(ht:hasB g (ln (ix h.Mons m mZ).Tables)=true){k:Kept}(hk:KOk k (ix (ix h.Mons m mZ).Guests g gZ).Live (ix h.Mons m mZ).Outer) :
 Rt {h with Mons:=up h.Mons m {ix h.Mons m mZ with Tables:=up (ix h.Mons m mZ).Tables g k}}:=by
 have key:∀e,zcW h e=true->zcW {h with Mons:=up h.Mons m {ix h.Mons m mZ with Tables:=up (ix h.Mons m mZ).Tables g k}} e=true:=by intro e he;obtain⟨h1,h2,h3⟩:=zfS.1 he;rw[zfS];show hasB (zdH e.Tag) (ln<|up h.Mons m _)=true/\hasB (zes e.Tag) (ln (ix (up h.Mons m _) (zdH e.Tag) mZ).Guests)=true/\below' _ (zbq (zbs (ix (ix (up h.Mons m _) (zdH e.Tag) mZ).Guests (zes e.Tag) gZ).Live e.Page) (ix (up h.Mons m _) (zdH e.Tag) mZ).Outer)=true;rw[zdU];refine⟨h1,?_⟩;by_cases hc:m=zdH e.Tag;{rw [<- hc]at h1 h2 h3 ⊢;rw[zZ hm];exact⟨h2,h3⟩};{rw [zbo (zC.1 hm).1 (zC.1 h1).1 hc];exact⟨h2,h3⟩}
 refine⟨λi hi=>?_,λe he=>key e (R.e1 e he),λe he=>key e (R.e2 e he)⟩
 show TOk (ix (up h.Mons m _) i mZ)
 have hi':hasB i (ln h.Mons)=true:=by have:hasB i (ln<|up h.Mons m {ix h.Mons m mZ with Tables:=up (ix h.Mons m mZ).Tables g k})=true:=hi;rwa [zdU] at this
 by_cases hc:m=i
 .subst hc;rw[zZ hm];intro j hj
  by_cases e:g=j
  .subst e
   show KOk (ix (up _ g k) g kZ) _ _
   rw[zZ ht];exact hk
  .show KOk (ix (up _ g k) j kZ) _ _
   rw[zbo (zC.1 ht).1 (zC.1 hj).1 e];exact R.t m hm j hj
 .rw [zbo (zC.1 hm).1 (zC.1 hi').1 hc];exact R.t i hi'
theorem zZ3 {h:Host}(H:HOk h){m g:Int}(hm:hasB m (ln h.Mons)=true)(ht:hasB g (ln (ix h.Mons m mZ).Tables)=true){k:Kept}(hk:Rt h->KOk k (ix (ix h.Mons m mZ).Guests g gZ).Live (ix h.Mons m mZ).Outer) :
 Op h {h with Mons:=up h.Mons m {ix h.Mons m mZ with Tables:=up (ix h.Mons m mZ).Tables g k}}:=by
 have X:=H.mon hm;have kp:KeepP (ix h.Mons m mZ) {ix h.Mons m mZ with Tables:=up (ix h.Mons m mZ).Tables g k}:=⟨rfl,rfl⟩;exact⟨zPP H hm kp (zku X kp rfl (zbG _ _ _) rfl X.outs X.pend X.tr X.own X.gs),zXX (y:={ix h.Mons m mZ with Tables:=up (ix h.Mons m mZ).Tables g k}) hm rfl rfl kp rfl rfl rfl rfl rfl,λR=>z0h R hm ht (hk R)⟩
theorem zHz {k:Kept}{inner outer:List Slot}(h:KOk k inner outer)(p:Int):KOk (filled k inner outer p) inner outer:=by unfold filled zdf;cases h1:hasB p (ln k.Known) with|false=>exact h|true=>have hs:hasB p (ln k.Slots)=true:=(by unfold ln at h1 ⊢;rw[h.l2,<- h.l1];exact h1);have hi:hasB p (ln inner)=true:=(by unfold ln at h1 ⊢;rw[<- h.l1];exact h1);rw[cond_true,hs,cond_true,hi,cond_true];refine⟨by rw[zbG];exact h.l1,by rw[zbG];exact h.l2,λi hi'=>?_⟩;by_cases e:p=i;{subst e;show ix (up _ p _) p sZ=bif ix (up _ p true) p false then _ else _;rw[zZ hs,zZ h1];rfl};{show ix (up _ p _) i sZ=bif ix (up _ p true) i false then _ else _;rw[zbo (zC.1 hs).1 (zC.1 hi').1 e,zbo (zC.1 hs).1 (zC.1 hi').1 e];exact h.at' i hi'}
theorem z3G {h:Host}(H:HOk h){m g:Int}(hm:hasB m (ln h.Mons)=true)(hg:hasB g (ln (ix h.Mons m mZ).Guests)=true)(page:Int):Op h (zck h m g page):=
 zZ3 H hm (by unfold ln;rw[(H.mon hm).gt];exact hg) λR=>zHz (R.t m hm g hg) page
theorem zWN {k:Kept}{inner outer:List Slot}(h:KOk k inner outer){p:Int}(hp:hasB p (ln inner)=true):zdT k p=bif ix k.Known p false then zbq (ix inner p sZ) outer else noSlot:=by have h1:hasB p (ln k.Known)=true:=(by unfold ln at hp ⊢;rw[h.l1];exact hp);have h2:hasB p (ln k.Slots)=true:=(by unfold ln at hp ⊢;rw[h.l2];exact hp);unfold zdT zjE zdf;rw[h1,h2,cond_true,cond_true,h.at' p hp];cases ix k.Known p false<;>rfl
theorem zUR {k:Kept}{inner outer:List Slot}(h:KOk k inner outer){p:Int}(hp:hasB p (ln inner)=true):zdT (filled k inner outer p) p=zbq (ix inner p sZ) outer:=by rw[zWN (zHz h p) hp];have h1:hasB p (ln k.Known)=true:=(by unfold ln at hp ⊢;rw[h.l1];exact hp);have h2:hasB p (ln k.Slots)=true:=(by unfold ln at hp ⊢;rw[h.l2];exact hp);have:ix (filled k inner outer p).Known p false=true:=(by unfold filled zdf;rw[h1,h2,hp];exact zZ h1 _ _);rw[this];rfl
theorem z4W {h:Host}(H:HOk h){m g page:Int}(io:Bool)(he:Rt h->zcW h (zOz h m g page)=true):Op h (ztx h m g page io):=by have hl:∀(b1 b2:List Entry),Like h ⟨h.Memory,h.Mons,b1,b2⟩:=λ_ _=>⟨rfl,λ_ _=>rfl,λ_ _=>rfl,λ_ _=>rfl,λ_ _=>rfl,λ_ _=>rfl,λ_ _ _ _=>rfl⟩;have key:∀(b:List Entry),(∀e∈b,zcW h e=true)->Rt h->∀e∈zqL b (zOz h m g page),zcW h e=true:=(by intro b hb R e hx;rcases z0f hx with hx|hx;{exact hb e hx};{rw [hx];exact he R});unfold ztx;cases io;{exact⟨⟨H.m12,H.pgs,H.n1,H.n3,zTN H.b1 _,H.b2,H.mons,H.uq⟩,hl _ _,λR=>⟨R.t,λe hx=>key _ R.e1 R e hx,R.e2⟩⟩};{exact⟨⟨H.m12,H.pgs,H.n1,H.n3,H.b1,zTN H.b2 _,H.mons,H.uq⟩,hl _ _,λR=>⟨R.t,R.e1,λe hx=>key _ R.e2 R e hx⟩⟩}
theorem zZG {b:List Entry}{t p:Int}{e:Entry}(h:zwk b t p=some e):e∈b/\e.Tag=t/\e.Page=p:=by unfold zwk at h;have h1:=List.find?_some h;rw[zb8,zbj,zbj]at h1;exact⟨uM h,h1⟩
theorem zjD {h:Host}{m g:Int}:zbK h m g=true↔HOk h/\hasB m (ln h.Mons)=true/\hasB g (ln (ix h.Mons m mZ).Guests)=true:=by unfold zbK;rw[zb8,zb8,zjQ]
structure GOk (x:Guest):Prop where
 prog:zdr x.Prog=true
 a:zi x.A 0 99=true
 pc:zi x.Pc 0 12=true
 w:zcV x.Written 4 8=true
 l:zcV x.Live 4 8=true
 ctl:zk4 x.Ctl=true
 pend:zdq x.Pending=true
 ex:zh3 x.Exit=true
 seen:ile (ln x.Seen) 40=true
theorem zrF {x:Guest}:zdC x=true↔GOk x:=by unfold zdC;simp only[qE];exact⟨λ⟨a,b,c,d,e,f,g,h,i⟩=>⟨a,b,c,d,e,f,g,h,i⟩,λ⟨a,b,c,d,e,f,g,h,i⟩=>⟨a,b,c,d,e,f,g,h,i⟩⟩
theorem zYD {s:Slot}:zdV s 8=true↔s=noSlot\/(0<=s.Page/\s.Page<=7/\1<=s.Rights/\s.Rights<=3):=by unfold zdV;rw[zrV,zoB,zqu];have:wsub .i64 8 1=7:=(by decide);simp only[this,zrV,zcD];simp[igt];constructor;{rintro (h|⟨h,⟨h1,h2⟩,h3⟩);{exact .inl h};{exact .inr ⟨h1,h2,h3⟩}};{intro h;by_cases hs:s=noSlot;{exact .inl hs};{rcases h with h|⟨h1,h2,h3⟩;{exact .inl h};{exact .inr ⟨hs,⟨h1,h2⟩,h3⟩}}}
theorem HOk.guest {h:Host}(H:HOk h){m g:Int}(hm:hasB m (ln h.Mons)=true)(hg:hasB g (ln (ix h.Mons m mZ).Guests)=true):GOk (ix (ix h.Mons m mZ).Guests g gZ):=zrF.1 ((H.mon hm).gs _ (zlb hg _))
structure Walked (l:List Slot) (p n q:Int):Prop where
 hp:hasB p (ln l)=true
 pg:(ix l p sZ).Page=q
 q8:hasB q 8=true
 en:enough (ix l p sZ).Rights n=true
theorem walked {x:Guest}(X:GOk x){p n:Int}(hw:zet x.Live p n=true):Walked x.Live p n (zb2 x.Live p n):=by have e:zb2 x.Live p n=(zbs x.Live p).Page:=(by unfold zb2;rw[hw];rfl);unfold zet at hw;by_cases h1:(zbs x.Live p).Page = -1;{rw [zbj.2 h1]at hw;cases hw};{rw [zbM.2 h1,cond_false,zb8]at hw;have hp:hasB p (ln x.Live)=true:=(by cases hp:hasB p (ln x.Live) with|true=>rfl|false=>exact absurd (by unfold zbs;rw[hp];rfl) h1);rw[zna hp] at e h1 hw;rw[e];have hs:=zYD.1 ((zp1.1 X.l).1 _ (zlb hp sZ));refine⟨hp,rfl,?_,hw.1⟩;rcases hs with hs|hs;{rw [hs]at h1;exact absurd rfl h1};{exact zC.2 (by omega)}}
structure Looked (h r:Host) (m g page need q host:Int):Prop where
 op:Op h r
 inn:(ix (ix r.Mons m mZ).Outer q sZ).Page=host
 ne:host≠-1
 en:enough (zbq (ix (ix (ix h.Mons m mZ).Guests g gZ).Live page sZ) (ix r.Mons m mZ).Outer).Rights need=true
 cp:(zbq (ix (ix (ix h.Mons m mZ).Guests g gZ).Live page sZ) (ix r.Mons m mZ).Outer).Page=host
 dk:∀k,hasB k 8=true->k≠q->ix (ix r.Mons m mZ).Dirty k false=ix (ix h.Mons m mZ).Dirty k false
 dq:need=2->ix (ix r.Mons m mZ).Dirty q false=true
 d1:need=1->(ix r.Mons m mZ).Dirty=(ix h.Mons m mZ).Dirty
 dm:∀i,hasB i (ln h.Mons)=true->i≠m->(ix r.Mons i mZ).Dirty=(ix h.Mons i mZ).Dirty
theorem zMq {h:Host}(S:Safe h){m g page need q:Int}(hm:hasB m (ln h.Mons)=true)(hg:hasB g (ln (ix h.Mons m mZ).Guests)=true)(hn:need=1\/need=2)(W:Walked (ix (ix h.Mons m mZ).Guests g gZ).Live page need q)(io:Bool)(ha:zdT (zbV h m g) page=zbq (ix (ix (ix h.Mons m mZ).Guests g gZ).Live page sZ) (ix h.Mons m mZ).Outer)(he:enough (zdT (zbV h m g) page).Rights need=true) :
 Op h (zeF h m g page io).1/\(zeF h m g page io).2=((ix (ix h.Mons m mZ).Outer q sZ).Page,true)/\(ix (ix h.Mons m mZ).Outer q sZ).Page≠-1/\(zeF h m g page io).1.Mons=h.Mons:=by
 rw[ha]at he;have hc:=zoN hn he;rw[W.pg,zna<|(S.ok.mon hm).hasO W.q8]at hc;refine⟨z4W S.ok io λR=>?_,?_,hc.2.1,?_⟩
 .obtain⟨t1,t2⟩:=S.ok.tag hm hg;obtain⟨b1,b2,_⟩:=zRP t1 t2;rw[zfS]
  show hasB (zdH<|zd1 m g) _=true/\hasB (zes<|zd1 m g) (ln (ix h.Mons (zdH<|zd1 m g) mZ).Guests)=true/\below' ⟨(zdT (zbV h m g) page).Page,(zdT (zbV h m g) page).Rights⟩ (zbq (zbs (ix (ix h.Mons (zdH<|zd1 m g) mZ).Guests (zes<|zd1 m g) gZ).Live page) (ix h.Mons (zdH<|zd1 m g) mZ).Outer)=true
  rw[b1,b2,zna W.hp,ha];exact⟨hm,hg,zp5.2<|.inr ⟨rfl,zSD<|zU2 _ _⟩⟩
 .show ((zdT (zbV h m g) page).Page,true)=_
  rw[ha,hc.2.2]
 .show (ztx h m g page io).Mons=_
  unfold ztx;cases io<;>rfl
theorem zQP {h:Host}(S:Safe h){m g page need q:Int}(hm:hasB m (ln h.Mons)=true)(hg:hasB g (ln (ix h.Mons m mZ).Guests)=true)(hn:need=1\/need=2)(W:Walked (ix (ix h.Mons m mZ).Guests g gZ).Live page need q)(io:Bool){b:List Entry}(hb:∀e∈b,zcW h e=true)(hd:need=2->ix (ix h.Mons m mZ).Dirty q false=true) :
 Looked h (zgf h b m g page need q io).1 m g page need q (zgf h b m g page need q io).2.1/\(zgf h b m g page need q io).2.2=true:=by
 have X:=S.ok.mon hm;have hq8:=W.q8;have hsl:=zna (X.hasO W.q8);unfold zgf;cases hf:zhS b m g page need with
 |true=>
  rw[cond_true];unfold zhS at hf;cases hfb:zqd b m g page with
  |none=>rw[hfb]at hf;cases hf
  |some e=>rw[hfb]at hf;have hf':enough e.Rights need=true:=hf;obtain⟨f1,f2,f3⟩:=zZG hfb;obtain⟨t1,t2⟩:=S.ok.tag hm hg;obtain⟨b1,b2,_⟩:=zRP t1 t2;obtain⟨_,_,h3⟩:=zfS.1 (hb e f1);rw[f2,b1,b2,f3,zna W.hp]at h3;have hne:(⟨e.Host,e.Rights⟩:Slot)≠noSlot:=λhc=>(by have:e.Rights=0:=congrArg Slot.Rights hc;rw[this,zpw hn]at hf';cases hf');rcases zp5.1 h3 with h3|⟨h3,h4⟩;{exact absurd h3 hne};{have h5:=zPA h4 hf';have hc:=zoN hn h5;rw[W.pg,hsl]at hc;have h3':e.Host=_:=h3;refine⟨⟨Op.refl S.ok,hc.2.2.symm.trans h3.symm,?_,h5,h3.symm,λ_ _ _=>rfl,hd,λ_=>rfl,λ_ _ _=>rfl⟩,rfl⟩;show e.Host≠-1;rw[h3',hc.2.2];exact hc.2.1}
 |false=>
  rw[cond_false];have hKO:=S.rt.t m hm g hg;cases hs:zer h m g page need with
  |false=>rw[cond_false];have hs':ix (zbV h m g).Known page false=true/\enough (zdT (zbV h m g) page).Rights need=true:=(by unfold zer at hs;cases hk:zjE (zbV h m g) page with|false=>rw[hk]at hs;cases hs|true=>rw[hk,cond_true]at hs;refine⟨?_,?_⟩;{unfold zjE at hk;cases hh:zdf (zbV h m g) page with|false=>rw[hh]at hk;cases hk|true=>rw[hh]at hk;exact hk};{cases hz:ieq (zdT (zbV h m g) page).Page (-1) with|true=>rw[hz]at hs;cases hs|false=>rw[hz]at hs;simpa using hs});have ha:zdT (zbV h m g) page=zbq (ix (ix (ix h.Mons m mZ).Guests g gZ).Live page sZ) (ix h.Mons m mZ).Outer:=(by have h0:=zWN hKO W.hp;have h1:ix (ix (ix h.Mons m mZ).Tables g kZ).Known page false=true:=hs'.1;rw[h1]at h0;exact h0);obtain⟨o1,o2,o3,o4⟩:=zMq S hm hg hn W io ha hs'.2;rw[o2];have he:=hs'.2;rw[ha]at he;have hc:=zoN hn he;rw[W.pg,hsl]at hc;exact⟨⟨o1,by rw[o4],o3,by rw[o4];exact he,by rw[o4];exact hc.2.2,λ_ _ _=>by rw[o4],λe=>by rw[o4];exact hd e,λ_=>by rw[o4],λ_ _ _=>by rw[o4]⟩,rfl⟩
  |true=>
   rw[cond_true];have M:=zMy S.ok (m:=m) (p:=q) need hm hq8;have hm1:hasB m (ln (mended h m q need).Mons)=true:=(by rw[M.op.like.has];exact hm);have hgs:(ix (mended h m q need).Mons m mZ).Guests=(ix h.Mons m mZ).Guests:=M.op.like.g m hm;have hg1:hasB g (ln (ix (mended h m q need).Mons m mZ).Guests)=true:=(by rw[hgs];exact hg);have S1:Safe (mended h m q need):=M.op.safe S;have F:=z3G S1.ok hm1 hg1 page;have S2:Safe (zck (mended h m q need) m g page):=F.safe S1;have hm2:hasB m (ln (zck (mended h m q need) m g page).Mons)=true:=(by rw[F.like.has];exact hm1);have e2:ix (zck (mended h m q need) m g page).Mons m mZ={ix (mended h m q need).Mons m mZ with Tables:=up (ix (mended h m q need).Mons m mZ).Tables g (filled (zbV (mended h m q need) m g) (zci (mended h m q need) m g) (ix (mended h m q need).Mons m mZ).Outer page)}:=zZ hm1 _ _;have hg2:hasB g (ln (ix (zck (mended h m q need) m g page).Mons m mZ).Guests)=true:=(by rw[e2];exact hg1);have hgs2:(ix (zck (mended h m q need) m g page).Mons m mZ).Guests=(ix h.Mons m mZ).Guests:=(by rw[e2];exact hgs);have W2:Walked (ix (ix (zck (mended h m q need) m g page).Mons m mZ).Guests g gZ).Live page need q:=(by rw[hgs2];exact W);have ha:zdT (zbV (zck (mended h m q need) m g page) m g) page=zbq (ix (ix (ix (zck (mended h m q need) m g page).Mons m mZ).Guests g gZ).Live page sZ) (ix (zck (mended h m q need) m g page).Mons m mZ).Outer:=(by have:zbV (zck (mended h m q need) m g page) m g=filled (zbV (mended h m q need) m g) (zci (mended h m q need) m g) (ix (mended h m q need).Mons m mZ).Outer page:=(by unfold zbV;rw[e2];exact zZ (by unfold ln;rw[(S1.ok.mon hm1).gt];exact hg1) _ _);rw[this];refine(zUR (p:=page) (S1.rt.t m hm1 g hg1) (by rw[hgs];exact W.hp)).trans ?_;rw[e2]);have hOu:(ix (zck (mended h m q need) m g page).Mons m mZ).Outer=(ix (mended h m q need).Mons m mZ).Outer:=by rw[e2]
   have hsl1:=zna ((S1.ok.mon hm1).hasO hq8);have hfull:=zPc (s:=ix (ix (ix h.Mons m mZ).Guests g gZ).Live page sZ) (o:=(ix (mended h m q need).Mons m mZ).Outer) hn (by rw[W.pg];have:=zC.1 hq8;omega) (by rw[W.pg,hsl1];exact M.inn) W.en (by
    rw[W.pg,hsl1];rcases hn with rfl|rfl
    .rcases (S1.ok.mon hm1).enough1 hq8 M.inn with e|e<;>rw [e]<;>decide
    .rw [M.ri (by decide)];decide)
   have he:enough (zdT (zbV (zck (mended h m q need) m g page) m g) page).Rights need=true:=(by rw[ha,hgs2,hOu];exact hfull.2);obtain⟨o1,o2,o3,o4⟩:=zMq S2 hm2 hg2 hn W2 io ha he;rw[o2];have hcp:=hfull.1;rw[W.pg,hsl1]at hcp;refine⟨⟨(M.op.trans F).trans o1,by rw[o4],o3,by rw[o4,hOu];exact hfull.2,by rw[o4,hOu];exact hcp,λk hk hc=>?_,λe=>?_,λe=>?_,λi hi hc=>?_⟩,rfl⟩;{rw [o4,e2];exact M.dk k hk hc};{rw [o4,e2];exact M.dt (by rw[e];decide)};{rw [o4,e2];exact M.d0 (by rw[e];decide)};{rw [o4];show (ix (up (mended h m q need).Mons m _) i mZ).Dirty=_;rw[zbo (zC.1 hm).1 (zC.1 hi).1<|Ne.symm hc];exact M.dm i hi hc}
theorem zC0 {n:Int}:zf1 n=true↔n=1\/n=2:=by unfold zf1;by_cases h:n=1;{rw [zbj.2 h];simp[h]};{rw [zbM.2 h,cond_false,zbj];simp[h]}
theorem zpD {h:Host}{m g page need:Int}:zbO h m g page need=true↔zbK h m g=true/\(need=1\/need=2)/\zet (zci h m g) page need=true:=by unfold zbO;rw[zb8,zb8,zC0]
theorem zMr {h:Host}(S:Safe h){m g page need:Int}(io:Bool)(hl:zbO h m g page need=true){b:List Entry}(hb:∀e∈b,zcW h e=true) :
 Looked h (lookOf h b m g page need io).1 m g page need (zb2 (zci h m g) page need) (lookOf h b m g page need io).2.1/\(lookOf h b m g page need io).2.2=true:=by
 obtain⟨h1,hn,hw⟩:=zpD.1 hl;obtain⟨_,hm,hg⟩:=zjD.1 h1;have W:=walked (S.ok.guest hm hg) hw;unfold lookOf;rw[hl,cond_true];rcases hn with rfl|rfl
 .rw [show ieq 1 2=false by decide,cond_false]
  exact zQP S hm hg (.inl rfl) W io hb (λe=>absurd e (by decide))
 .rw [show ieq 2 2=true by decide,cond_true]
  obtain⟨k1,k2⟩:=zH3 S.ok hm (zb2 (zci h m g) page 2);have hm1:hasB m (ln (zbx h m<|zb2 (zci h m g) page 2).Mons)=true:=by rw[k1.like.has];exact hm
  have e1:ix (zbx h m<|zb2 (zci h m g) page 2).Mons m mZ={ix h.Mons m mZ with Dirty:=up (ix h.Mons m mZ).Dirty (zb2 (zci h m g) page 2) true}:=zZ hm _ _;have hD:=(S.ok.mon hm).hasD W.q8;obtain⟨L,hL⟩:=zQP (k1.safe S) hm1 (g:=g) (page:=page) (need:=2) (q:=zb2 (zci h m g) page 2) (by rw[e1];exact hg) (.inr rfl) (by rw[e1];exact W) io (b:=b) (λe he=>by
   obtain⟨a1,a2,a3⟩:=zfS.1 (hb e he);rw[zfS];have hi:hasB (zdH e.Tag) (ln (zbx h m<|zb2 (zci h m g) page 2).Mons)=true:=by rw[k1.like.has];exact a1
   refine⟨hi,by rw[k1.like.g _ a1];exact a2,?_⟩
   rw[k1.like.g _ a1];have:(ix (zbx h m<|zb2 (zci h m g) page 2).Mons (zdH e.Tag) mZ).Outer=(ix h.Mons (zdH e.Tag) mZ).Outer:=by show (ix (up h.Mons m _) _ mZ).Outer=_;by_cases hc:m=zdH e.Tag;{rw [<- hc,zZ hm]};{rw [zbo (zC.1 hm).1 (zC.1 a1).1 hc]}
   rw[this];exact a3) (λ_=>by rw[e1];exact zZ hD _ _)
  refine⟨⟨k1.trans L.op,L.inn,L.ne,?_,?_,λk hk hc=>?_,L.dq,λe=>absurd e (by decide),λi hi hc=>?_⟩,hL⟩
  .have:=L.en;rw[e1] at this;exact this
  .have:=L.cp;rw[e1] at this;exact this
  .rw [L.dk k hk hc,e1];exact zbo (zC.1 W.q8).1 (zC.1 hk).1 (Ne.symm hc) _ _
  .rw [L.dm i (by rw[k1.like.has];exact hi) hc]
   show (ix (up h.Mons m _) i mZ).Dirty=_
   rw[zbo (zC.1 hm).1 (zC.1 hi).1<|Ne.symm hc]
theorem zLy {x y:Int}(h1 : -9223372036854775808<=x+y)(h2:x+y<=9223372036854775807):zD .i64 x y=x+y:=by unfold zD;simp only[IntKind.wrap,IntKind.signed,IntKind.bits];simp;omega
theorem zGs {n:Nat}{P:Int->Prop}(h:∀i:Fin n,P ((i.val:Nat):Int)){x:Int}(h0:0<=x)(h1:x<n):P x:=by have:=h ⟨x.toNat,by omega⟩;simpa [show ((x.toNat:Nat):Int)=x by omega] using this
theorem zRe {p:Int}:zdq p=true↔0<=p/\p<=255:=by unfold zdq;exact zcD
theorem zMF {p:Int}(h:zdq p=true):zdq (zhT p)=true:=by have h':=zRe.1 h;exact zGs (n:=256) (P:=λx=>zdq (zhT x)=true) (by decide +kernel) h'.1 (by omega)
theorem zME {p:Int}(h:zdq p=true)(n:Int):zdq (zrl p n)=true:=by unfold zrl zhJ;rw[h,cond_true];cases hn:zi n 0 7 with|false=>exact h|true=>rw[cond_true];have h':=zRe.1 h;have hn':=zcD.1 hn;exact zGs (n:=256) (P:=λx=>∀k,0<=k->k<(8:Int)->zdq (wor .i64 x<|zkU .i64 1 k)=true) (λi k h0 h1=>zGs (n:=8) (P:=λk=>zdq (wor .i64 ((i.val:Nat):Int)<|zkU .i64 1 k)=true) (by revert i;decide +kernel) h0 h1) h'.1 (by omega) n hn'.1 (by omega)
structure GKeep (x y:Guest):Prop where
 ok:GOk y
 live:y.Live=x.Live
theorem zVA {x:Guest}(X:GOk x){c:Int}(hc:zi c 0 12=true):GOk {x with Pc:=c}:=⟨X.prog,X.a,hc,X.w,X.l,X.ctl,X.pend,X.ex,X.seen⟩
theorem zVz {x:Guest}(X:GOk x){c:Int}(hc:zi c 0 99=true):GOk {x with A:=c}:=⟨X.prog,hc,X.pc,X.w,X.l,X.ctl,X.pend,X.ex,X.seen⟩
theorem zjh {x:Guest}(X:GOk x):GKeep x (zbU x):=by unfold zbU;have hp:=zcD.1 X.pc;cases h:ige x.Pc 12 with|true=>exact⟨zVA X (by decide),rfl⟩|false=>have:¬ x.Pc≥12:=jQ h;refine⟨zVA X ?_,rfl⟩;rw[zLy (by omega) (by omega)];exact zcD.2 (by omega)
theorem zPH {x:Guest}(X:GOk x)(n:Int):GKeep x (saw x n):=by unfold saw;cases h:ilt (ln x.Seen) 40 with|false=>exact⟨X,rfl⟩|true=>have:ln x.Seen<40:=qD h;refine⟨⟨X.prog,X.a,X.pc,X.w,X.l,X.ctl,X.pend,X.ex,qJ ?_⟩,rfl⟩;unfold ln ap at *;simp;omega
theorem zji {x:Guest}(X:GOk x){e:GExit}(he:zh3 e=true):GKeep x (stopped x e):=⟨⟨X.prog,X.a,X.pc,X.w,X.l,X.ctl,X.pend,he,X.seen⟩,rfl⟩
theorem zT0 {x:Guest}(X:GOk x){p:Int}(hp:zdq p=true):GKeep x {x with Pending:=p}:=⟨⟨X.prog,X.a,X.pc,X.w,X.l,X.ctl,hp,X.ex,X.seen⟩,rfl⟩
theorem zTX {x:Guest}(X:GOk x)(b:Bool):GKeep x {x with Halted:=b}:=⟨⟨X.prog,X.a,X.pc,X.w,X.l,X.ctl,X.pend,X.ex,X.seen⟩,rfl⟩
theorem zTY {x:Guest}(X:GOk x):GKeep x (held x):=⟨(zjh (zTX X true).ok).ok,(zjh (zTX X true).ok).live⟩
theorem zXE {x:Guest}(X:GOk x){v:Int}(hv:zi v 0 99=true):GKeep x (loaded x v):=by have h1:=zPH (zVz X hv) v;have h2:=zjh h1.ok;exact⟨h2.ok,h2.live.trans h1.live⟩
theorem zJc {x:Guest}(X:GOk x):GKeep x (interrupted x):=by unfold interrupted;cases zit x with|false=>exact⟨X,rfl⟩|true=>have h1:=zT0 X (zMF X.pend);rw[cond_true];exact⟨(zPH h1.ok _).ok,(zPH h1.ok _).live⟩
theorem zE2 {p:List Ins}(h:zdr p=true)(i:Int):zeE (zb7 p i)=true:=by unfold zb7;cases hi:hasB i (ln p) with|false=>rfl|true=>unfold zdr at h;rw[zb8,qM]at h;exact h.1 _ (zlb hi _)
theorem z4O {i:Ins}(h:zeE i=true)(h3:i.Op=3\/i.Op=4):0<=i.X/\i.X<=15:=by unfold zeE at h;rcases h3 with e|e<;>rw [e]at h<;>exact zcD.1 h
theorem zXK {i:Ins}(h:zeE i=true)(h3:i.Op=5\/i.Op=6):0<=i.X/\i.X<=99:=by unfold zeE at h;rcases h3 with e|e<;>rw [e]at h<;>exact zcD.1 h
theorem z5B {i:Ins}(h:zeE i=true)(h3:i.Op=8):0<=i.X/\i.X<=11:=by unfold zeE at h;rw[h3]at h;exact zcD.1 h
theorem z5A {i:Ins}(h:zeE i=true)(h3:i.Op=1):0<=i.X/\i.X<=99:=by unfold zeE at h;rw[h3]at h;exact zcD.1 h
theorem zVB {x:Guest}(X:GOk x):GKeep x (plainly x):=by have M:=zjh X;have hi:=zE2 X.prog x.Pc;unfold plainly;cases ine (zG x) 2 with|true=>exact⟨X,rfl⟩|false=>rw[cond_false];(cases zi x.A 0 99 with|false=>exact M|true=>rw[cond_true];(cases zi (zb7 x.Prog x.Pc).X 0 99 with|false=>exact M|true=>rw[cond_true];by_cases e1:(zb7 x.Prog x.Pc).Op=1;{rw [zbj.2 e1,cond_true];exact⟨zVz M.ok<|zcD.2<|z5A hi e1,M.live⟩};{rw [zbM.2 e1,cond_false];by_cases e2:(zb7 x.Prog x.Pc).Op=2;{rw [zbj.2 e2,cond_true];refine⟨zVz M.ok ?_,M.live⟩;have h1:=zcD.1 X.a;have hx:0<=(zb7 x.Prog x.Pc).X/\(zb7 x.Prog x.Pc).X<=99:=(by unfold zeE at hi;rw[e2]at hi;exact zcD.1 hi);rw[zcD];unfold zkT;rw[zLy (by omega) (by omega)];have h5:=Int.tmod_nonneg (a:=x.A+(zb7 x.Prog x.Pc).X) 100 (by omega);have h6:=Int.tmod_lt_of_pos (x.A+(zb7 x.Prog x.Pc).X) (show (0:Int)<100 by omega);omega};{rw [zbM.2 e2,cond_false];by_cases e8:(zb7 x.Prog x.Pc).Op=8;{rw [zbj.2 e8,cond_true];cases ieq x.A 0 with|true=>have:=z5B hi e8;exact⟨zVA M.ok<|zcD.2 (by omega),M.live⟩|false=>exact M};{rw [zbM.2 e8];exact M}}}))
theorem zrk {c:List Int}:zcn c=true↔(∀x∈c,zi x 0 99=true)/\ln c=4:=by unfold zcn;rw[zb8,qM,zbj]
theorem zl2 (h:Host)(m:Int):∀(n i:Nat),(zcq h m n i).length=n
 | 0,_=>rfl
 |n+1,i=>by rw[zcq,qV,zl2 h m n]
theorem zIb (h:Host)(m:Int):∀(n i k:Nat) (hk:k<(zcq h m n i).length),(zcq h m n i)[k]=zcm h m ((i+k:Nat):Int)
 | 0,i,k,hk=>by simp[zcq]at hk
 |n+1,i,k,hk=>by cases k with|zero=>rfl|succ k=>have:=zIb h m n (i+1) k (by simpa [zcq] using hk);simp only[zcq,List.getElem_cons_succ];rw[this];congr 1;omega
theorem zo1 {h:Host}{m q:Int}(hq:hasB q 8=true)(d:List Int):ix (zcq h m 8 0) q d=zcm h m q:=by have hq':=zC.1 hq;have hk:q.toNat<(zcq h m 8 0).length:=(by rw[zl2];omega);have:=zkt hk d;rw[show ((q.toNat:Nat):Int)=q by omega] at this;rw[this,zIb];congr 1;omega
theorem zsk (h:Host)(m:Int):ln (zcq h m 8 0)=8:=by unfold ln;rw[zl2];rfl
theorem zwR {h:Host}(H:HOk h){m p:Int}(hm:hasB m (ln h.Mons)=true)(hp:hasB p 8=true):zcn (zcm h m p)=true:=by have X:=H.mon hm;rw[<- zkD H hm hp];by_cases e:(ix (ix h.Mons m mZ).Outer p sZ).Page = -1;{rw [zbj.2 e];exact((zoQ<|X.slot hp).1 (X.fit p hp)).1 e};{rw [zbM.2 e];exact zMC H.pgs _}
theorem zvR {h:Host}(H:HOk h){m:Int}(hm:hasB m (ln h.Mons)=true):zbI (zy h m)=true:=by have X:=H.mon hm;unfold zy;rw[hm,cond_true];unfold zbI zh6;rw[zb8,qM];refine⟨X.gs,?_⟩;simp only[qE,zb8,qM,zbj,zcD];refine⟨⟨λc hc=>?_,zsk h m⟩,⟨?_,?_⟩,?_,X.pend⟩;{obtain⟨i,hi,rfl⟩:=zQT hc [];rw[zsk]at hi;rw[zo1 hi];exact zwR H hm hi};{unfold ln;have:=X.g1;omega};{unfold ln;have:=X.g2;omega};{unfold ile ln;have:=X.outs;exact qJ (by omega)}
structure SimT (h r:Host) (m:Int) (f:Bare->Bare):Prop where
 safe:Safe r
 seen:∀i,zy r i=bif ieq i m then f (zy h i) else zy h i
 len:r.Mons.length=h.Mons.length
theorem SimT.trans {a b c:Host}{m:Int}{f g:Bare->Bare}(x:SimT a b m f)(y:SimT b c m g):SimT a c m (λt=>g (f t)):=by refine⟨y.safe,λi=>?_,y.len.trans x.len⟩;rw[y.seen i,x.seen i];cases ieq i m<;>rfl
theorem Op.sim {h r:Host}(k:Op h r)(S:Safe h)(m:Int):SimT h r m id:=⟨k.safe S,λi=>by rw[k.like.seen i];cases ieq i m<;>rfl,k.like.len⟩
theorem SimT.congr {h r:Host}{m:Int}{f g:Bare->Bare}(x:SimT h r m f)(e:f (zy h m)=g (zy h m)):SimT h r m g:=by refine⟨x.safe,λi=>?_,x.len⟩;rw[x.seen i];by_cases hi:i=m;{subst hi;rw[zbj.2 rfl,cond_true,cond_true,e]};{rw [zbM.2 hi];rfl}
theorem SimT.has {h r:Host}{m:Int}{f:Bare->Bare}(x:SimT h r m f)(i:Int):hasB i (ln r.Mons)=hasB i (ln h.Mons):=by unfold ln;rw[x.len]
theorem SimT.refl {h:Host}(S:Safe h)(m:Int):SimT h h m id:=⟨S,λi=>by cases ieq i m<;>rfl,rfl⟩
theorem ztW {h:Host}(S:Safe h){m q host:Int}(hm:hasB m (ln h.Mons)=true)(hq:hasB q 8=true)(hs:(ix (ix h.Mons m mZ).Outer q sZ).Page=host)(hne:host≠-1)(c v:Int) :
 SimT h {h with Memory:=zbB h.Memory host c v} m (λb=>{b with Memory:=zbB b.Memory q c v})/\cellAt h.Memory host c=cellAt (zy h m).Memory q c:=by
 have H:=S.ok;have X:=H.mon hm;have hsl:=X.slot hq;have hM:=z5X H hsl (by rw[hs];exact hne)
 rw[hs]at hM;have hpg:ix h.Memory host []=zcm h m q:=by have:=zkD H hm hq;rw[hs,zbM.2 hne,cond_false,zkB hM] at this;exact this
 have hlen:ln (zcm h m q)=4:=(zrk.1<|zwR H hm hq).2;have hmem:(zy h m).Memory=zcq h m 8 0:=by unfold zy;rw[hm];rfl
 have h1:zf0 h.Memory host c=hasB c 4:=by unfold zf0;rw[hM,cond_true,hpg,hlen]
 have h2:zf0 (zcq h m 8 0) q c=hasB c 4:=by unfold zf0;rw[zsk,hq,cond_true,zo1 hq,hlen]
 have hcell:cellAt h.Memory host c=cellAt (zy h m).Memory q c:=by rw[hmem];unfold cellAt;rw[h1,h2,hpg,zo1 hq]
 refine⟨?_,hcell⟩;cases hc:hasB c 4 with
 |false=>have e1:zbB h.Memory host c v=h.Memory:=(by unfold zbB;rw[h1,hc];rfl);rw[e1];refine(SimT.refl S m).congr ?_;show zy h m={zy h m with Memory:=zbB (zy h m).Memory q c v};rw[hmem];have e2:zbB (zcq h m 8 0) q c v=zcq h m 8 0:=(by unfold zbB;rw[h2,hc];rfl);rw[e2,<- hmem]
 |true=>
  cases hv:zi v 0 99 with
  |false=>have e1:zbB h.Memory host c v=h.Memory:=(by unfold zbB;rw[h1,hc,hv];rfl);rw[e1];refine(SimT.refl S m).congr ?_;show zy h m={zy h m with Memory:=zbB (zy h m).Memory q c v};rw[hmem];have e2:zbB (zcq h m 8 0) q c v=zcq h m 8 0:=(by unfold zbB;rw[h2,hc,hv];rfl);rw[e2,<- hmem]
  |true=>have e1:zbB h.Memory host c v=up h.Memory host (up (zcm h m q) c v):=(by unfold zbB;rw[h1,hc,hv,hpg];rfl);have e2:zbB (zcq h m 8 0) q c v=up (zcq h m 8 0) q (up (zcm h m q) c v):=(by unfold zbB;rw[h2,hc,hv,zo1 hq];rfl);have hnew:zcn (up (zcm h m q) c v)=true:=(by have:=zrk.1 (zwR H hm hq);rw[zrk,zdU];refine⟨λx hx=>?_,this.2⟩;rcases qZ hx with h|h;{exact this.1 x h};{rw [h];exact hv});have h0:=(zC.1 hM).1;have hH:HOk {h with Memory:=zbB h.Memory host c v}:=(by rw[e1];refine⟨by show (up _ _ _).length=12;rw[zbG];exact H.m12,λx hx=>?_,H.n1,H.n3,H.b1,H.b2,H.mons,H.uq⟩;rcases qZ hx with h|h;{exact H.pgs x h};{rw [h];exact hnew});refine⟨⟨hH,⟨S.rt.t,S.rt.e1,S.rt.e2⟩⟩,λi=>?_,rfl⟩;have hne':∀i k,hasB i (ln h.Mons)=true->hasB k 8=true->¬ (i=m/\k=q)->zcm {h with Memory:=zbB h.Memory host c v} i k=zcm h i k:=(by intro i k hi hk hnot;rw[<- zkD hH (m:=i) (p:=k) hi hk,<- zkD H hi hk];show (cond (ieq (ix (ix h.Mons i mZ).Outer k sZ).Page<|-1) _<|zcp (zbB h.Memory host c v) _)=_;by_cases e:(ix (ix h.Mons i mZ).Outer k sZ).Page = -1;{rw [zbj.2 e];rfl};{rw [zbM.2 e,cond_false,cond_false,e1];exact zz3 h0 (λe=>hnot (H.uniq hi hk hm hq e hs h0))});have heq':zcm {h with Memory:=zbB h.Memory host c v} m q=up (zcm h m q) c v:=(by rw[<- zkD hH (m:=m) (p:=q) hm hq];show (cond (ieq (ix (ix h.Mons m mZ).Outer q sZ).Page<|-1) _<|zcp (zbB h.Memory host c v) (ix (ix h.Mons m mZ).Outer q sZ).Page)=_;rw[hs,zbM.2 hne,cond_false,e1];exact zz2 hM);by_cases hi:i=m;{subst hi;rw[zbj.2 rfl,cond_true];unfold zy;show (cond (hasB i<|ln h.Mons) _ _)=_;rw[hm,cond_true,cond_true];show Bare.mk (zcq {h with Memory:=zbB h.Memory host c v} i 8 0) _ _ _=Bare.mk (zbB (zcq h i 8 0) q c v) _ _ _;congr 1;rw[e2];refine zKU [] (by rw[zbG,zl2,zl2]) λk hk=>?_;rw[zsk]at hk;rw[zo1 hk];by_cases e:q=k;{subst e;rw[zZ (by rw[zsk];exact hq),heq']};{rw [zbo (zC.1 hq).1 (zC.1 hk).1 e,zo1 hk];exact hne' i k hm hk (λh=>e h.2.symm)}};{rw [zbM.2 hi,cond_false];unfold zy;show (cond (hasB i<|ln h.Mons) _ _)=_;cases hi2:hasB i (ln h.Mons) with|false=>rfl|true=>rw[cond_true,cond_true];show Bare.mk (zcq {h with Memory:=zbB h.Memory host c v} i 8 0) _ _ _=_;rw[zpF 8 0 λj h1 h2=>hne' i (j:Int) hi2 (zC.2 (by omega)) λh=>hi h.1]}
theorem zpg {h:Host}(S:Safe h){m g:Int}(hm:hasB m (ln h.Mons)=true)(hg:hasB g (ln (ix h.Mons m mZ).Guests)=true){y:Guest}(k:GKeep (gOf h m g) y):SimT h (zfX h m g y) m (λb=>zdP b g y):=by have X:=S.ok.mon hm;have kp:KeepP (ix h.Mons m mZ) {ix h.Mons m mZ with Guests:=up (ix h.Mons m mZ).Guests g y}:=⟨rfl,rfl⟩;refine⟨ztV S hm kp (zku X kp (zbG _ _ _) rfl rfl X.outs X.pend X.tr X.own λz hz=>?_) (zbG _ _ _) (λj hj=>?_) rfl,λi=>?_,zbG _ _ _⟩;{rcases qZ hz with h|h;{exact X.gs z h};{rw [h];exact zrF.2 k.ok}};{show (ix (up (ix h.Mons m mZ).Guests g y) j gZ).Live=_;by_cases e:g=j;{subst e;rw[zZ hg];exact k.live};{rw [zbo (zC.1 hg).1 (zC.1 hj).1 e]}};{refine(zsH (h:=h) (r:=zfX h m g y) hm rfl rfl kp i).trans ?_;by_cases e:i=m;{subst e;rw[zbj.2 rfl,cond_true,cond_true];unfold zdP zy;rw[hm];rfl};{rw [zbM.2 e];rfl}}
theorem zRB {h:Host}(S:Safe h){m:Int}(hm:hasB m (ln h.Mons)=true){y:Mon}(kp:KeepP (ix h.Mons m mZ) y)(hy:MOk y)(hg:y.Guests=(ix h.Mons m mZ).Guests)(ht:y.Tables=(ix h.Mons m mZ).Tables) :
 SimT h {h with Mons:=up h.Mons m y} m (λb=>{b with Outs:=y.Outs,Pending:=y.Pending}):=by
 refine⟨ztV S hm kp hy (by rw[hg]) (λj _=>by rw[hg]) ht,λi=>?_,zbG _ _ _⟩
 refine(zsH (h:=h) (r:={h with Mons:=up h.Mons m y}) hm rfl rfl kp i).trans ?_
 by_cases e:i=m
 .subst e;rw[zbj.2 rfl,cond_true,cond_true];unfold zy;rw[hm,hg];rfl
 .rw [zbM.2 e];rfl
theorem zfy {h:Host}{m:Int}(hm:hasB m (ln h.Mons)=true):zy h m=⟨zcq h m 8 0,(ix h.Mons m mZ).Guests,(ix h.Mons m mZ).Outs,(ix h.Mons m mZ).Pending⟩:=by unfold zy;rw[hm];rfl
theorem zYA {h:Host}(S:Safe h){m:Int}(hm:hasB m (ln h.Mons)=true):SimT h (owned h m) m id:=by unfold owned;cases hc:ilt (ix h.Mons m mZ).Own 1000000000 with|false=>exact SimT.refl S m|true=>rw[cond_true];have X:=S.ok.mon hm;have ho:=zcD.1 X.own;have hlt:(ix h.Mons m mZ).Own<1000000000:=qD hc;have kp:KeepP (ix h.Mons m mZ) {ix h.Mons m mZ with Own:=zD .i64 (ix h.Mons m mZ).Own 1}:=⟨rfl,rfl⟩;refine(zRB S hm kp (zku X kp rfl rfl rfl X.outs X.pend X.tr ?_ X.gs) rfl rfl).congr ?_;{show zi (zD .i64 (ix h.Mons m mZ).Own 1) 0 1000000000=true;rw[zLy (by omega) (by omega),zcD];omega};{rw [zfy hm];rfl}
theorem zWt {h:Host}(S:Safe h){m:Int}(hm:hasB m (ln h.Mons)=true)(n:Int):SimT h (zhH h m n) m (λb=>ziT b n):=by unfold zhH;have X:=S.ok.mon hm;cases hc:ilt (ln (ix h.Mons m mZ).Outs) 40 with|false=>refine(SimT.refl S m).congr ?_;rw[zfy hm];unfold ziT;rw[hc];rfl|true=>rw[cond_true];have hlt:ln (ix h.Mons m mZ).Outs<40:=qD hc;have kp:KeepP (ix h.Mons m mZ) {ix h.Mons m mZ with Outs:=ap (ix h.Mons m mZ).Outs [n]}:=⟨rfl,rfl⟩;refine(zRB S hm kp (zku X kp rfl rfl rfl ?_ X.pend X.tr X.own X.gs) rfl rfl).congr ?_;{show (ap (ix h.Mons m mZ).Outs [n]).length<=40;unfold ln ap at *;simp;omega};{rw [zfy hm];unfold ziT;rw[hc];rfl}
theorem zr6 {h:Host}{m g:Int}(hm:hasB m (ln h.Mons)=true)(hg:hasB g (ln (ix h.Mons m mZ).Guests)=true):gAt (zy h m) g=gOf h m g:=by rw[zfy hm];unfold gAt;show (cond (hasB g<|ln (ix h.Mons m mZ).Guests) _ _)=_;rw[hg];rfl
theorem zLz {x:Guest}(h:zG x=3\/zG x=4\/zG x=5\/zG x=6):(zb7 x.Prog x.Pc).Op=zG x:=by unfold zG at h ⊢;cases hc:canRun x with|false=>simp[hc]at h|true=>simp only[hc,cond_true]at h ⊢;(cases ht:zit x with|true=>simp[ht]at h|false=>simp only[ht,cond_false]at h ⊢;unfold zvm at h ⊢;by_cases e3:(zb7 x.Prog x.Pc).Op=3;{rw [e3];rfl};{rw [zbM.2 e3,cond_false]at h ⊢;by_cases e4:(zb7 x.Prog x.Pc).Op=4;{rw [e4];rfl};{rw [zbM.2 e4,cond_false]at h ⊢;by_cases e5:(zb7 x.Prog x.Pc).Op=5;{rw [e5];rfl};{rw [zbM.2 e5,cond_false]at h ⊢;by_cases e6:(zb7 x.Prog x.Pc).Op=6;{rw [e6];rfl};{rw [zbM.2 e6,cond_false]at h ⊢;cases h7:ieq (zb7 x.Prog x.Pc).Op 7<;>simp [h7]at h}}}})
theorem z2v {x:Guest}(X:GOk x){w:Int}(hw:zG x=w)(h:w=3\/w=4):0<=address x/\address x<=15:=by have e:address x=(zb7 x.Prog x.Pc).X:=(by unfold address;rcases h with e|e;{rw [hw,e];rfl};{rw [hw,e];rfl});rw[e];exact z4O (zE2 X.prog _) (by rw[zLz (by omega),hw];exact h)
theorem z2w {a:Int}(h0:0<=a)(h1:a<=15):zi (zbc a) 0 3=true/\hasB (zdd a) 4=true :=
 zGs (n:=16) (P:=λa=>zi (zbc a) 0 3=true/\hasB (zdd a) 4=true) (by decide) h0 (by omega)
theorem zVq {p:Int}(h:zi p 0 3=true)(w:Bool):zh3 (zqb p w)=true:=by unfold zh3 zqb;simp[ieq,h]
theorem zXt {n:Int}(h:zi n 0 99=true):zh3 (zrX n)=true:=by unfold zh3 zrX;simp[ieq,h]
theorem zZF {n:Int}(h:zi n 0 99=true):zh3 (zvn n)=true:=by unfold zh3 zvn;simp[ieq,h]
theorem zZL {x:Guest}(X:GOk x)(t:Int){w:Int}(hw:zG x=w):GKeep x (zfm x t w):=by have hi:=zE2 X.prog x.Pc;unfold zfm;by_cases e6:w=6;{rw [zbj.2 e6];exact zji X (zXt<|zcD.2<|zXK hi (by rw[zLz (by omega),hw];omega))};{rw [zbM.2 e6,cond_false];by_cases e5:w=5;{rw [zbj.2 e5];cases zdD t 1 with|true=>exact zji X (zZF<|zcD.2<|zXK hi (by rw[zLz (by omega),hw];omega))|false=>rw[e5];exact zjh X};{rw [zbM.2 e5];rw[Bool.false_and,cond_false];cases hc:(ieq w 7&&zdD t 2) with|true=>exact zji X rfl|false=>rw[cond_false];cases ieq w 7;{exact zjh X};{exact zTY X}}}
theorem zT8 {α:Type}(g:Int):hasB g (ln ([]:List α))=false:=by cases h:hasB g (ln ([]:List α)) with|false=>rfl|true=>have:=zC.1 h;simp[ln] at this;omega
theorem zY3 {m:List (List Int)}(h:∀c∈m,zcn c=true)(p c:Int):zi (cellAt m p c) 0 99=true:=by unfold cellAt zf0;cases hp:hasB p (ln m) with|false=>rfl|true=>rw[cond_true];(cases hc:hasB c (ln<|ix m p []) with|false=>rfl|true=>rw[cond_true];exact(zrk.1<|h _<|zlb hp []).1 _ (zlb hc 0))
theorem HOk.seenG {h:Host}(H:HOk h){m g:Int}(hm:hasB m (ln h.Mons)=true)(hg:hasB g (ln (ix h.Mons m mZ).Guests)=true):GOk (gOf h m g):=H.guest hm hg
theorem zRL {h:Host}(S:Safe h){m g:Int}(hm:hasB m (ln h.Mons)=true)(hg:hasB g (ln (ix h.Mons m mZ).Guests)=true)(w:Bool)(hw:zG (gOf h m g)=bif w then 4 else 3) :
 SimT h (zgW (zhM h m g (gOf h m g) w) m g (gOf h m g) w) m (λb=>zj5 b g (gOf h m g) w):=by
 have X:=S.ok.seenG hm hg;have ha:=z2v X hw (by cases w<;>simp)
 have hap:=z2w ha.1 ha.2;have hn:zbW w=1\/zbW w=2:=by cases w<;>simp [zbW]
 unfold zgW zhM;cases hl:zbO h m g (zbc<|address<|gOf h m g) (zbW w) with
 |false=>have e:lookOf h h.Buffer m g (zbc<|address<|gOf h m g) (zbW w) false=(h,-1,false):=(by unfold lookOf;rw[hl];rfl);have hw2:zet (gOf h m g).Live (zbc<|address<|gOf h m g) (zbW w)=false:=(by cases hc:zet (gOf h m g).Live (zbc<|address<|gOf h m g) (zbW w) with|false=>rfl|true=>exact Bool.noConfusion (hl.symm.trans<|zpD.2 ⟨zjD.2 ⟨S.ok,hm,hg⟩,hn,hc⟩));rw[e];refine(zpg S hm hg<|zji X<|zVq hap.1 w).congr ?_;unfold zj5;rw[hw2];rfl
 |true=>obtain⟨L,hL⟩:=zMr S false hl S.rt.e1;obtain⟨_,_,hwk⟩:=zpD.1 hl;have hwk':zet (gOf h m g).Live (zbc<|address<|gOf h m g) (zbW w)=true:=hwk;have W:=walked X hwk;rw[hL,cond_true];have S1:=L.op.safe S;have hm1:hasB m (ln (lookOf h h.Buffer m g (zbc<|address<|gOf h m g) (zbW w) false).1.Mons)=true:=(by rw[L.op.like.has];exact hm);have hgs:=L.op.like.g m hm;have q8:hasB (zb2 (zci h m g) (zbc<|address<|gOf h m g)<|zbW w) 8=true:=W.q8;obtain⟨k1,k2⟩:=ztW S1 hm1 q8 L.inn L.ne (zdd<|address<|gOf h m g) (gOf h m g).A;rw[L.op.like.seen m] at k2;cases w with|true=>rw[cond_true];have k0:=L.op.sim S m;have hmm:hasB m (ln ({ (lookOf h h.Buffer m g (zbc<|address<|gOf h m g) (zbW true) false).1 with Memory:=zbB (lookOf h h.Buffer m g (zbc<|address<|gOf h m g) (zbW true) false).1.Memory (lookOf h h.Buffer m g (zbc<|address<|gOf h m g) (zbW true) false).2.1 (zdd<|address<|gOf h m g) (gOf h m g).A}:Host).Mons)=true:=hm1;have hgg:hasB g (ln (ix ({ (lookOf h h.Buffer m g (zbc<|address<|gOf h m g) (zbW true) false).1 with Memory:=zbB (lookOf h h.Buffer m g (zbc<|address<|gOf h m g) (zbW true) false).1.Memory (lookOf h h.Buffer m g (zbc<|address<|gOf h m g) (zbW true) false).2.1 (zdd<|address<|gOf h m g) (gOf h m g).A}:Host).Mons m mZ).Guests)=true:=(by show hasB g (ln (ix (lookOf h h.Buffer m g (zbc<|address<|gOf h m g) (zbW true) false).1.Mons m mZ).Guests)=true;rw[hgs];exact hg);have kk:GKeep (gOf { (lookOf h h.Buffer m g (zbc<|address<|gOf h m g) (zbW true) false).1 with Memory:=zbB (lookOf h h.Buffer m g (zbc<|address<|gOf h m g) (zbW true) false).1.Memory (lookOf h h.Buffer m g (zbc<|address<|gOf h m g) (zbW true) false).2.1 (zdd<|address<|gOf h m g) (gOf h m g).A} m g) (zbU<|gOf h m g):=(by have:gOf { (lookOf h h.Buffer m g (zbc<|address<|gOf h m g) (zbW true) false).1 with Memory:=zbB (lookOf h h.Buffer m g (zbc<|address<|gOf h m g) (zbW true) false).1.Memory (lookOf h h.Buffer m g (zbc<|address<|gOf h m g) (zbW true) false).2.1 (zdd<|address<|gOf h m g) (gOf h m g).A} m g=gOf h m g:=(by show ix (ix (lookOf h h.Buffer m g (zbc<|address<|gOf h m g) (zbW true) false).1.Mons m mZ).Guests g gZ=_;rw[hgs];rfl);rw[this];exact zjh X);refine((k0.trans k1).trans (zpg k1.safe hmm hgg kk)).congr ?_;unfold zj5;rw[hwk'];rfl|false=>rw[cond_false];have k0:=L.op.sim S m;have hgg:hasB g (ln (ix (lookOf h h.Buffer m g (zbc<|address<|gOf h m g) (zbW false) false).1.Mons m mZ).Guests)=true:=(by rw[hgs];exact hg);have kk:GKeep (gOf (lookOf h h.Buffer m g (zbc<|address<|gOf h m g) (zbW false) false).1 m g) (loaded (gOf h m g)<|cellAt (lookOf h h.Buffer m g (zbc<|address<|gOf h m g) (zbW false) false).1.Memory (lookOf h h.Buffer m g (zbc<|address<|gOf h m g) (zbW false) false).2.1<|zdd<|address<|gOf h m g):=(by have:gOf (lookOf h h.Buffer m g (zbc<|address<|gOf h m g) (zbW false) false).1 m g=gOf h m g:=(by show ix (ix (lookOf h h.Buffer m g (zbc<|address<|gOf h m g) (zbW false) false).1.Mons m mZ).Guests g gZ=_;rw[hgs];rfl);rw[this];exact zXE X (zY3 S1.ok.pgs _ _));refine(k0.trans<|zpg S1 hm1 hgg kk).congr ?_;unfold zj5;rw[hwk',k2];rfl
theorem zZK {h r:Host}{m g:Int}(e:(ix r.Mons m mZ).Guests=(ix h.Mons m mZ).Guests):gOf r m g=gOf h m g:=by unfold gOf;rw[e]
theorem z3I (h:Host)(m:Int)(hm:hasB m (ln h.Mons)=true):(ix (owned h m).Mons m mZ).Guests=(ix h.Mons m mZ).Guests:=by unfold owned;cases ilt (ix h.Mons m mZ).Own 1000000000 with|false=>rfl|true=>show (ix (up h.Mons m _) m mZ).Guests=_;rw[zZ hm]
theorem zZ4 (h:Host)(m n:Int)(hm:hasB m (ln h.Mons)=true):(ix (zhH h m n).Mons m mZ).Guests=(ix h.Mons m mZ).Guests:=by unfold zhH;cases ilt (ln (ix h.Mons m mZ).Outs) 40 with|false=>rfl|true=>show (ix (up h.Mons m _) m mZ).Guests=_;rw[zZ hm]
theorem zYC {h:Host}(S:Safe h){m:Int}(hm:hasB m (ln h.Mons)=true)(x:Guest)(w:Int):SimT h (zej h m x w) m id/\(ix (zej h m x w).Mons m mZ).Guests=(ix h.Mons m mZ).Guests:=by unfold zej;cases (cond (ine w 6) (ieq (zlG (ix h.Mons m mZ).Traps x.Ctl.Traps<|zfl w) 2) false) with|false=>exact⟨SimT.refl S m,rfl⟩|true=>exact⟨zYA S hm,z3I h m hm⟩
theorem zYB {h:Host}(S:Safe h){m:Int}(hm:hasB m (ln h.Mons)=true)(x:Guest)(w:Int):SimT h (zgp h m x w) m (λb=>bif (cond (zgJ x.Ctl.Traps w) (ieq w 5) false) then ziT b (zb7 x.Prog x.Pc).X else b)/\(ix (zgp h m x w).Mons m mZ).Guests=(ix h.Mons m mZ).Guests:=by unfold zgp;cases (cond (zgJ x.Ctl.Traps w) (ieq w 5) false) with|false=>exact⟨SimT.refl S m,rfl⟩|true=>exact⟨zWt S hm _,zZ4 h m _ hm⟩
theorem zAt {h:Host}(S:Safe h){m g:Int}(hm:hasB m (ln h.Mons)=true)(hg:hasB g (ln (ix h.Mons m mZ).Guests)=true){w:Int}(hw:zG (gOf h m g)=w) :
 SimT h (zjA h m g (gOf h m g) w) m (λb=>zpi b g (gOf h m g) w):=by
 have X:=S.ok.seenG hm hg;obtain⟨k0,e0⟩:=zYC S hm (gOf h m g) w;have hm0:hasB m (ln (zej h m (gOf h m g) w).Mons)=true:=by rw[k0.has];exact hm
 obtain⟨k1,e1⟩:=zYB k0.safe hm0 (gOf h m g) w;have hm1:hasB m (ln (zgp (zej h m (gOf h m g) w) m (gOf h m g) w).Mons)=true:=by rw[k1.has];exact hm0
 have hg1:hasB g (ln (ix (zgp (zej h m (gOf h m g) w) m (gOf h m g) w).Mons m mZ).Guests)=true:=by rw[e1,e0];exact hg
 have kk:GKeep (gOf (zgp (zej h m (gOf h m g) w) m (gOf h m g) w) m g) (zfm (gOf h m g) (gOf h m g).Ctl.Traps w):=by rw[zZK<|e1.trans e0];exact zZL X _ hw
 exact((k0.trans k1).trans (zpg k1.safe hm1 hg1 kk)).congr rfl
theorem zWF (x:Guest):zG x=0\/zG x=1\/zG x=2\/zG x=3\/zG x=4\/zG x=5\/zG x=6\/zG x=7:=by unfold zG zvm;cases canRun x<;>cases zit x<;>cases ieq (zb7 x.Prog x.Pc).Op 3<;>cases ieq (zb7 x.Prog x.Pc).Op 4<;>cases ieq (zb7 x.Prog x.Pc).Op 5<;>cases ieq (zb7 x.Prog x.Pc).Op 6<;>cases ieq (zb7 x.Prog x.Pc).Op 7<;>simp
theorem zO9 {h:Host}(H:HOk h)(m g:Int):zf3 (zy h m) g=bif zbK h m g then !ieq (zG<|gOf h m g) 0 else false:=by unfold zf3 zbK;rw[zjQ.2 H,cond_true];cases hm:hasB m (ln h.Mons) with|false=>have:(zy h m).Guests=[]:=(by unfold zy;rw[hm];rfl);rw[this,zT8];rfl|true=>rw[cond_true,zvR H hm,cond_true];have:(zy h m).Guests=(ix h.Mons m mZ).Guests:=(by rw[zfy hm]);rw[this];(cases hg:hasB g (ln (ix h.Mons m mZ).Guests) with|false=>rfl|true=>rw[cond_true,cond_true,zr6 hm hg])
theorem step_ok {h:Host}(S:Safe h)(m g:Int):SimT h (zbL h m g).1 m (λb=>zd0 b g)/\(zbL h m g).2=zf3 (zy h m) g:=by
 have hc:=zO9 S.ok m g;unfold zbL;cases hh:zbK h m g with
 |false=>rw[hh,cond_false]at hc;refine⟨(SimT.refl S m).congr ?_,hc.symm⟩;unfold zd0;rw[hc];rfl
 |true=>rw[hh,cond_true]at hc;rw[cond_true];obtain⟨_,hm,hg⟩:=zjD.1 hh;have X:=S.ok.seenG hm hg;have hgs:=zr6 hm hg;have hf:∀w,zG (gOf h m g)=w->w≠0->zd0 (zy h m) g=stepped (zy h m) g (gOf h m g) w:=(by intro w hw h0;unfold zd0;rw[hc,hw,zbM.2 h0,hgs,hw];rfl);rcases zWF (gOf h m g) with e|e|e|e|e|e|e|e;{rw [e];rw[e]at hc;refine⟨(SimT.refl S m).congr ?_,hc.symm⟩;unfold zd0;rw[hc];rfl};{rw [e]at hc ⊢;exact⟨(zpg S hm hg<|zJc X).congr (hf 1 e (by decide)).symm,hc.symm⟩};{rw [e]at hc ⊢;exact⟨(zpg S hm hg<|zVB X).congr (hf 2 e (by decide)).symm,hc.symm⟩};{rw [e]at hc ⊢;exact⟨(zRL S hm hg false e).congr (hf 3 e (by decide)).symm,hc.symm⟩};{rw [e]at hc ⊢;exact⟨(zRL S hm hg true e).congr (hf 4 e (by decide)).symm,hc.symm⟩};{rw [e]at hc ⊢;exact⟨(zAt S hm hg e).congr (hf 5 e (by decide)).symm,hc.symm⟩};{rw [e]at hc ⊢;exact⟨(zAt S hm hg e).congr (hf 6 e (by decide)).symm,hc.symm⟩};{rw [e]at hc ⊢;exact⟨(zAt S hm hg e).congr (hf 7 e (by decide)).symm,hc.symm⟩}
structure BackOk (b c:Bare):Prop where
 m:c.Memory=b.Memory
 o:c.Outs=b.Outs
 n:c.Guests.length=b.Guests.length
 g:∀j,hasB j (ln b.Guests)=true->GKeep (ix b.Guests j gZ) (ix c.Guests j gZ)
 p:zdq b.Pending=true->zdq c.Pending=true
theorem z0o {h:Host}(S:Safe h){m:Int}(hm:hasB m (ln h.Mons)=true){c:Bare}(k:BackOk (zy h m) c):SimT h (zc5 h m c) m (λ_=>c):=by have X:=S.ok.mon hm;have hf:=zfy hm;have hG:(zy h m).Guests=(ix h.Mons m mZ).Guests:=(by rw[hf]);have hn:c.Guests.length=(ix h.Mons m mZ).Guests.length:=(by rw[k.n,hG]);have hg:∀j,hasB j (ln (ix h.Mons m mZ).Guests)=true->GKeep (ix (ix h.Mons m mZ).Guests j gZ) (ix c.Guests j gZ):=λj hj=>(by have:=k.g j (by rw[hG];exact hj);rwa [hG] at this);have kp:KeepP (ix h.Mons m mZ) (zs6 (ix h.Mons m mZ) c):=⟨rfl,rfl⟩;have hp:zdq c.Pending=true:=k.p (by rw[hf];exact X.pend);refine⟨ztV S hm kp (zku X kp hn rfl rfl X.outs hp X.tr X.own λz hz=>?_) hn (λj hj=>(hg j hj).live) rfl,λi=>?_,zbG _ _ _⟩;{obtain⟨j,hj,rfl⟩:=zQT hz gZ;exact zrF.2 (hg j (by unfold ln at hj ⊢;rw[<- hn];exact hj)).ok};{refine(zsH (h:=h) (r:=zc5 h m c) hm rfl rfl kp i).trans ?_;by_cases e:i=m;{subst e;rw[zbj.2 rfl,cond_true,cond_true];show Bare.mk (zy h i).Memory c.Guests (ix h.Mons i mZ).Outs c.Pending=c;have h1:=k.m;have h2:=k.o;rw[hf]at h2;cases c;simp_all};{rw [zbM.2 e];rfl}}
theorem seen_none {h:Host}{m:Int}(hm:hasB m (ln h.Mons)=false):zy h m=⟨[],[],[],0⟩:=by unfold zy;rw[hm];rfl
theorem zrJ:zbI ⟨[],[],[],0⟩=false:=by decide
theorem zrU {b:Bare}(h:zbI b=false)(g:Int):zcb b g=false:=by unfold zcb;rw[h];rfl
theorem zh1 {b:Bare}(h:zbI b=true):BackOk b b:=⟨rfl,rfl,rfl,λj hj=>⟨zrF.1 (by
 unfold zbI at h;rw[zb8,qM]at h;exact h.1 _ (zlb hj _)),rfl⟩,id⟩
theorem zWR {b:Bare}(h:zbI b=true){g:Int}(hg:hasB g (ln b.Guests)=true){y:Guest}(k:GKeep (gAt b g) y):BackOk b (zdP b g y):=by have e:gAt b g=ix b.Guests g gZ:=(by unfold gAt;rw[hg];rfl);refine⟨rfl,rfl,zbG _ _ _,λj hj=>?_,id⟩;show GKeep _ (ix (up b.Guests g y) j gZ);by_cases hc:g=j;{subst hc;rw[zZ hg,<- e];exact k};{rw [zbo (zC.1 hg).1 (zC.1 hj).1 hc];exact(zh1 h).g j hj}
theorem zp4 {b:Bare}(h:zbI b=true){g:Int}{c:Bool}{y:Guest}(k:hasB g (ln b.Guests)=true->c=true->GOk (gAt b g)->GKeep (gAt b g) y):BackOk b (chg b g c y):=by unfold chg zcb;rw[h,cond_true];cases hg:hasB g (ln b.Guests) with|false=>exact zh1 h|true=>rw[cond_true];(cases c with|false=>exact zh1 h|true=>refine zWR h hg (k hg rfl ?_);have:=(zh1 h).g g hg;unfold gAt;rw[hg];exact this.ok)
theorem zo3 {h:Host}(S:Safe h)(m:Int){F:Bare->Bare}(hF:∀b,zbI b=true->BackOk b (F b))(h0:F ⟨[],[],[],0⟩=⟨[],[],[],0⟩):SimT h (zhN h m<|F<|zy h m) m F:=by unfold zhN zcM;rw[zjQ.2 S.ok,cond_true];cases hm:hasB m (ln h.Mons) with|false=>refine(SimT.refl S m).congr ?_;rw[seen_none hm];exact h0.symm|true=>exact(z0o S hm<|hF _<|zvR S.ok hm).congr rfl
theorem zkG {h:Host}(S:Safe h)(m:Int){t:Bare->Bool}(h0:t ⟨[],[],[],0⟩=false):zgH h m (t<|zy h m)=t (zy h m):=by unfold zgH zcM;rw[zjQ.2 S.ok,cond_true];cases hm:hasB m (ln h.Mons) with|false=>rw[cond_false,seen_none hm,h0]|true=>rfl
theorem zoM (g:Int)(c:Bool)(y:Guest):chg ⟨[],[],[],0⟩ g c y=⟨[],[],[],0⟩:=by unfold chg;rw[zrU zrJ];rfl
theorem zjd (g:Int)(c:Bool):zcc ⟨[],[],[],0⟩ g c=false:=by unfold zcc;rw[zrU zrJ];rfl
theorem zRO {t:List Slot}{n q:Int}(h:zcV t n q=true){p:Int}{s:Slot}(hs:zdV s q=true):zcV (zeu t p s) n q=true:=by
 unfold zeu;cases hasB p (ln t) with
 |false=>exact h
 |true=>rw[cond_true];rw[zp1]at h ⊢;rw[zdU];refine⟨λx hx=>?_,h.2⟩;rcases qZ hx with h1|h1;{exact h.1 x h1};{rw [h1];exact hs}
theorem z3n {x:Guest}(X:GOk x){p:Int}{s:Slot}(h:zuA p s=true):GKeep x (zAr x p s):=by unfold zuA at h;rw[zb8]at h;exact⟨⟨X.prog,X.a,X.pc,zRO X.w h.2,X.l,X.ctl,X.pend,X.ex,X.seen⟩,rfl⟩
theorem z3k {x:Guest}(X:GOk x){v:Int}(h:zt9 x v=true):GKeep x (zv3 x v):=by unfold zt9 at h;rw[zb8]at h;unfold zv3;cases ieq x.Exit.Kind 2 with|true=>rw[cond_true];have h1:=zji (zVz X h.1) (e:=zky) rfl;have h2:=zjh h1.ok;exact⟨h2.ok,h2.live⟩|false=>rw[cond_false];have h1:=zji X (e:=zky) rfl;have h2:=zjh h1.ok;exact⟨h2.ok,h2.live.trans h1.live⟩
theorem z3m {x:Guest}(X:GOk x):GKeep x (zwU x):=by unfold zwU;have h1:=zji X (e:=zky) rfl;cases ieq x.Exit.Kind 1 with|true=>exact h1|false=>have h2:=zTY h1.ok;exact⟨h2.ok,h2.live.trans h1.live⟩
theorem zTZ {x:Guest}(X:GOk x)(n:Int):GKeep x (znw x n):=zT0 X (zME X.pend n)
theorem z3l {x:Guest}(X:GOk x){c:Ctl}(h:zk4 c=true):GKeep x (zI5 x c):=⟨⟨X.prog,X.a,X.pc,X.w,X.l,h,X.pend,X.ex,X.seen⟩,rfl⟩
theorem zy9 (n:Int):∀(ks:List Int) (b:Bare) (l:List Guest),(∀k∈ks,hasB k (ln b.Guests)=true)->BackOk b {b with Guests:=l}->BackOk b {b with Guests:=zlg n ks l}
 |[],b,l,_,h=>h
 |k::ks,b,l,hk,h=>by show BackOk b {b with Guests:=zlg n ks (zA3 n l k)};refine zy9 n ks b _ (λj hj=>hk j (qU _ hj)) ⟨h.m,h.o,by show (up l k _).length=_;rw[zbG];exact h.n,λj hj=>?_,h.p⟩;show GKeep _ (ix (up l k _) j gZ);have hl:l.length=b.Guests.length:=h.n;have hkl:hasB k (ln l)=true:=(by unfold ln;rw[hl];exact hk k q9);by_cases e:k=j;{subst e;rw[zZ hkl];have h1:=h.g k hj;have h2:=zTZ h1.ok n;exact⟨h2.ok,h2.live.trans h1.live⟩};{rw [zbo (zC.1 hkl).1 (zC.1 hj).1 e];exact h.g j hj}
theorem zUT {b:Bare}(h:zbI b=true)(n:Int):BackOk b (zj9 b n):=by
 unfold zj9 zfO zA4;rw[h,cond_true];cases hasB n 8 with
 |false=>exact zh1 h
 |true=>
  rw[cond_true];cases ieq (ln<|zen b.Guests n) 0 with
  |true=>have:=zh1 h;exact⟨rfl,rfl,rfl,this.g,λhp=>zME hp n⟩
  |false=>rw[cond_false];refine zy9 n _ b b.Guests (λk hk=>?_) (zh1 h);unfold zen at hk;obtain⟨j,hj,rfl,_⟩:=(zEH (d:=gZ)).1 hk;exact zC.2 ⟨by omega,by unfold ln;omega⟩
theorem zWQ {b:Bare}(h:zbI b=true):BackOk b (zmy b):=by unfold zmy;rw[h,cond_true];exact⟨rfl,rfl,rfl,(zh1 h).g,λhp=>zMF hp⟩
theorem z0d {h:Host}(S:Safe h)(m p c v:Int):SimT h (zmF h m p c v) m (λb=>zOE b p c v)/\zfC h m p c v=zvo (zy h m) p c v:=by have e:zfC h m p c v=zvo (zy h m) p c v:=(by unfold zfC zvo zb3 z2h;rw[zjQ.2 S.ok,cond_true];cases hm:hasB m (ln h.Mons) with|false=>rw[seen_none hm,zrJ];rfl|true=>rw[zvR S.ok hm,cond_true];rfl);refine⟨?_,e⟩;unfold zmF;cases hc:zfC h m p c v with|false=>refine(SimT.refl S m).congr ?_;unfold zOE;rw[<- e,hc];rfl|true=>rw[cond_true];have hc':=hc;unfold zfC at hc';rw[zb8,zb8]at hc';obtain⟨h1,_,_⟩:=hc';obtain⟨_,hm,hp⟩:=zkC.1 h1;have M:=zMy S.ok (m:=m) (p:=p) 2 hm hp;have k0:=M.op.sim S m;have hm1:hasB m (ln (mended h m p 2).Mons)=true:=(by rw[k0.has];exact hm);obtain⟨k1,_⟩:=ztW k0.safe hm1 hp rfl M.inn c v;refine(k0.trans k1).congr ?_;unfold zOE;rw[<- e,hc];rfl
theorem zX0 {h:Host}(S:Safe h)(m g page need:Int):zbO h m g page need=(cond (zcb (zy h m) g) (cond (zf1 need) (zet (gAt (zy h m) g).Live page need) false) false):=by have e:zbK h m g=zcb (zy h m) g:=(by unfold zbK zcb;rw[zjQ.2 S.ok,cond_true];cases hm:hasB m (ln h.Mons) with|false=>rw[seen_none hm,zrJ,cond_false,cond_false]|true=>rw[cond_true,zvR S.ok hm,cond_true];have:(zy h m).Guests=(ix h.Mons m mZ).Guests:=(by rw[zfy hm]);rw[this]);unfold zbO;rw[<- e];cases hg:zbK h m g with|false=>rw[cond_false,cond_false]|true=>obtain⟨_,hm,hg⟩:=zjD.1 hg;have:(gAt (zy h m) g).Live=zci h m g:=(by rw[zr6 hm hg];rfl);rw[this]
theorem zDV {h:Host}(S:Safe h)(m g a n:Int)(hn:n=1\/n=2):znp (zy h m) g a n=bif zi a 0 15 then zbO h m g (zbc a) n else false:=by rw[zX0 S];unfold znp;rw[zC0.2 hn,cond_true];cases zcb (zy h m) g<;>cases zi a 0 15<;>rfl
theorem zPz {h:Host}(S:Safe h){m g a n:Int}(hn:n=1\/n=2)(hd:znp (zy h m) g a n=true) :
 Looked h (zzH h m g a n).1 m g (zbc a) n (zAL (zy h m) g a n) (zzH h m g a n).2.1/\hasB m (ln h.Mons)=true/\hasB (zAL (zy h m) g a n) 8=true:=by
 rw[zDV S m g a n hn,zb8]at hd;obtain⟨L,_⟩:=zMr S true hd.2 S.rt.e2;obtain⟨h1,_,hw⟩:=zpD.1 hd.2;obtain⟨_,hm,hg⟩:=zjD.1 h1;have e:zAL (zy h m) g a n=zb2 (zci h m g) (zbc a) n:=by unfold zAL;rw[zr6 hm hg];rfl
 rw[e];exact⟨L,hm,(walked (S.ok.guest hm hg) hw).q8⟩
theorem z4G {h:Host}(S:Safe h)(m g a v:Int):SimT h (zoT h m g a v) m (λb=>zVn b g a v)/\zha h m g a v=zwi (zy h m) g a v:=by have e:zha h m g a v=zwi (zy h m) g a v:=(by unfold zha zwi;rw[zDV S m g a 2 (.inr rfl)];cases zi a 0 15<;>cases zi v 0 99<;>cases zbO h m g (zbc a) 2<;>rfl);refine⟨?_,e⟩;unfold zoT;cases hc:zha h m g a v with|false=>refine(SimT.refl S m).congr ?_;unfold zVn;rw[<- e,hc];rfl|true=>rw[cond_true];have hd:znp (zy h m) g a 2=true:=(by have:=e.symm.trans hc;unfold zwi at this;exact(zb8.1 this).1);obtain⟨L,hm,hq⟩:=zPz S (.inr rfl) hd;have k0:=L.op.sim S m;obtain⟨k1,_⟩:=ztW k0.safe (by rw[k0.has];exact hm) hq L.inn L.ne (zdd a) v;refine(k0.trans k1).congr ?_;unfold zVn;rw[<- e,hc];rfl
theorem z3K {h:Host}(S:Safe h)(m g a:Int):SimT h (zmG h m g a) m id/\zgc h m g a=znp (zy h m) g a 1/\zqj h m g a=zOI (zy h m) g a:=by have e:zgc h m g a=znp (zy h m) g a 1:=(by unfold zgc;rw[zDV S m g a 1 (.inl rfl)]);unfold zmG zqj zOI;rw[e];cases hd:znp (zy h m) g a 1 with|false=>exact⟨SimT.refl S m,rfl,rfl⟩|true=>obtain⟨L,hm,hq⟩:=zPz S (.inl rfl) hd;have k0:=L.op.sim S m;obtain⟨_,k2⟩:=ztW k0.safe (by rw[k0.has];exact hm) hq L.inn L.ne (zdd a) 0;rw[L.op.like.seen m] at k2;exact⟨k0,rfl,k2⟩
theorem zXM {k:Kept}{inner outer:List Slot}(h:KOk k inner outer)(p:Int)(s:Slot):KOk (zbR k p) (zeu inner p s) outer:=by have hl:=zko k p;have hw:(zeu inner p s).length=inner.length:=(by unfold zeu;cases hasB p (ln inner)<;>simp [zbG]);refine⟨by rw[hl.1,hw,h.l1],by rw[hl.2,hw,h.l2],λi hi=>?_⟩;have hi1:hasB i (ln inner)=true:=(by unfold ln at hi ⊢;rwa [<- hw]);have hi':hasB i (ln k.Known)=true:=(by unfold ln at hi1 ⊢;rwa [h.l1]);have ha:=zui (q:=p) (by rw[h.l1,h.l2]) hi';rw[ha.1,ha.2];by_cases e:p=i;{subst e;rw[zbj.2 rfl];rfl};{rw [zbM.2 e,cond_false,cond_false,h.at' i hi1];have:ix (zeu inner p s) i sZ=ix inner i sZ:=(by unfold zeu;cases hp:hasB p (ln inner) with|false=>rfl|true=>exact zbo (zC.1 hp).1 (zC.1 hi1).1 e _ _);rw[this]}
theorem z5i {t m g:Int}(h1:zdH t=m)(h2:zes t=g)(hm:0<=m):t=zd1 m g:=by subst h1;subst h2;by_cases h:1<=t/\t<=6;{have e:t=1\/t=2\/t=3\/t=4\/t=5\/t=6:=(by omega);rcases e with rfl|rfl|rfl|rfl|rfl|rfl<;>decide};{exfalso;have:zdH t = -1:=(by unfold zdH ige ile;rw[show (decide (t≥1)&&decide (t<=6))=false by simp;omega];rfl);omega}
theorem zTw {t:List Slot}{p q:Int}{s:Slot}(h:q≠p):zbs (zeu t p s) q=zbs t q:=by unfold zeu;cases hp:hasB p (ln t) with|false=>rfl|true=>exact zMR (zC.1 hp).1 h
theorem z0p {t:List Slot}(h:zcV t 4 8=true)(p:Int):zdV (zbs t p) 8=true:=by unfold zbs;cases hp:hasB p (ln t) with|false=>rfl|true=>exact(zp1.1 h).1 _ (zlb hp _)
theorem zXD {x:Guest}(X:GOk x)(p:Int):GOk (zd2 x p):=⟨X.prog,X.a,X.pc,X.w,zRO X.l<|z0p X.w p,X.ctl,X.pend,X.ex,X.seen⟩
theorem zZI {h:Host}(S:Safe h)(m g p:Int):SimT h (zkq h m g p) m (λb=>chg b g (hasB p 4) (zd2 (gAt b g) p))/\zgH h m (zcc (zy h m) g<|hasB p 4)=zcc (zy h m) g (hasB p 4):=by
 refine⟨?_,zkG S m (t:=λb=>zcc b g (hasB p 4))<|zjd g _⟩;unfold zkq zcM;rw[zjQ.2 S.ok,cond_true];cases hm:hasB m (ln h.Mons) with
 |false=>refine(SimT.refl S m).congr ?_;rw[seen_none hm,zoM];rfl
 |true=>
  rw[cond_true];cases hc:zcc (zy h m) g (hasB p 4) with
  |false=>refine(SimT.refl S m).congr ?_;show zy h m=chg (zy h m) g (hasB p 4) (zd2 (gAt (zy h m) g) p);have hc':=hc;unfold zcc at hc';unfold chg;rw[hc'];rfl
  |true=>rw[cond_true];have hc':=hc;unfold zcc zcb at hc';rw[zvR S.ok hm,cond_true,zb8,zfy hm]at hc';have hg:hasB g (ln (ix h.Mons m mZ).Guests)=true:=hc'.1;have X:=S.ok.mon hm;have G:=S.ok.seenG hm hg;have e1:chg (zy h m) g (hasB p 4) (zd2 (gAt (zy h m) g) p)=zdP (zy h m) g (zd2 (gOf h m g) p):=(by have h1:=hc;unfold zcc at h1;unfold chg;rw[h1,zr6 hm hg];rfl);rw[e1];have htg:hasB g (ln (ix h.Mons m mZ).Tables)=true:=(by unfold ln;rw[X.gt];exact hg);have hM:(zzl (zc5 h m<|zdP (zy h m) g<|zd2 (gOf h m g) p) m g p).Mons=up h.Mons m {ix h.Mons m mZ with Guests:=up (ix h.Mons m mZ).Guests g (zd2 (gOf h m g) p),Tables:=up (ix h.Mons m mZ).Tables g (zbR (ix (ix h.Mons m mZ).Tables g kZ) p)}:=(by show up (up h.Mons m _) m _=_;rw[zYR];have e2:ix (zc5 h m<|zdP (zy h m) g<|zd2 (gOf h m g) p).Mons m mZ=zs6 (ix h.Mons m mZ) (zdP (zy h m) g<|zd2 (gOf h m g) p):=zZ hm _ _;rw[e2];unfold zs6 zdP;rw[zfy hm]);have kp:KeepP (ix h.Mons m mZ) {ix h.Mons m mZ with Guests:=up (ix h.Mons m mZ).Guests g (zd2 (gOf h m g) p),Tables:=up (ix h.Mons m mZ).Tables g (zbR (ix (ix h.Mons m mZ).Tables g kZ) p)}:=⟨rfl,rfl⟩;have hy:MOk {ix h.Mons m mZ with Guests:=up (ix h.Mons m mZ).Guests g (zd2 (gOf h m g) p),Tables:=up (ix h.Mons m mZ).Tables g (zbR (ix (ix h.Mons m mZ).Tables g kZ) p)}:=zku X kp (zbG _ _ _) (zbG _ _ _) rfl X.outs X.pend X.tr X.own λz hz=>(by rcases qZ hz with h|h;{exact X.gs z h};{rw [h];exact zrF.2 (zXD G p)});have hH:HOk (zzl (zc5 h m<|zdP (zy h m) g<|zd2 (gOf h m g) p) m g p):=S.ok.up hm hy hM S.ok.m12 S.ok.pgs (zv7 S.ok.b1 _) (zv7 S.ok.b2 _) λq _=>.inl (qX _);have key:∀b:List Entry,(∀e∈b,zcW h e=true)->∀e∈zcB b (zd1 m g) p,zcW (zzl (zc5 h m<|zdP (zy h m) g<|zd2 (gOf h m g) p) m g p) e=true:=(by intro b hb e he;obtain⟨he1,he2⟩:=zwm.1 he;obtain⟨h1,h2,h3⟩:=zfS.1 (hb e he1);rw[zfS,hM,zdU];refine⟨h1,?_⟩;by_cases hcm:m=zdH e.Tag;{rw [<- hcm]at h1 h2 h3 ⊢;rw[zZ hm];show hasB (zes e.Tag) (ln<|up _ _ _)=true/\below' _ (zbq (zbs (ix (up (ix h.Mons m mZ).Guests g _) (zes e.Tag) gZ).Live e.Page) (ix h.Mons m mZ).Outer)=true;rw[zdU];refine⟨h2,?_⟩;by_cases hcg:g=zes e.Tag;{rw [<- hcg]at h2 h3 ⊢;rw[zZ hg];have hne:e.Page≠p:=λhp=>he2 ⟨z5i hcm.symm hcg.symm (zC.1 hm).1,hp⟩;show below' _ (zbq (zbs (zeu (gOf h m g).Live p _) e.Page) _)=true;rw[zTw hne];exact h3};{rw [zbo (zC.1 hg).1 (zC.1 h2).1 hcg];exact h3}};{rw [zbo (zC.1 hm).1 (zC.1 h1).1 hcm];exact⟨h2,h3⟩});refine⟨⟨hH,⟨λi hi=>?_,key _ S.rt.e1,key _ S.rt.e2⟩⟩,λi=>?_,by rw[hM,zbG]⟩;{rw [hM]at hi ⊢;rw[zdU]at hi;by_cases hcm:m=i;{subst hcm;rw[zZ hm];intro j hj;show KOk (ix (up (ix h.Mons m mZ).Tables g _) j kZ) (ix (up (ix h.Mons m mZ).Guests g _) j gZ).Live (ix h.Mons m mZ).Outer;have hj':hasB j (ln (ix h.Mons m mZ).Guests)=true:=(by have:hasB j (ln<|up (ix h.Mons m mZ).Guests g<|zd2 (gOf h m g) p)=true:=hj;rwa [zdU] at this);by_cases e:g=j;{subst e;rw[zZ htg,zZ hg];exact zXM (S.rt.t m hm g hg) p _};{rw [zbo (zC.1 hg).1 (zC.1 hj').1 e,zbo (zC.1 hg).1 (zC.1 hj').1 e];exact S.rt.t m hm j hj'}};{rw [zbo (zC.1 hm).1 (zC.1 hi).1 hcm];exact S.rt.t i hi}};{refine(zsH (h:=h) hm hM rfl kp i).trans ?_;by_cases e:i=m;{subst e;rw[zbj.2 rfl,cond_true,cond_true,e1,zfy hm];rfl};{rw [zbM.2 e];rfl}}
theorem zM2 (g:Int):zd0 ⟨[],[],[],0⟩ g=⟨[],[],[],0⟩/\zf3 ⟨[],[],[],0⟩ g=false:=by have:zf3 ⟨[],[],[],0⟩ g=false:=(by unfold zf3;rw[zT8];rfl);refine⟨?_,this⟩;unfold zd0;rw[this];rfl
theorem zZN {h:Host}(S:Safe h)(a:GAct):SimT h (zse h a) a.M (λb=>zF6 b a)/\zzF h a=zF7 (zy h a.M) a:=by
 have hn:=zrJ;unfold zse zzF zF6 zF7;cases ieq a.Kind 1 with
 |true=>obtain⟨k,e⟩:=step_ok S a.M a.G;exact⟨k,by rw[cond_true,cond_true,e]⟩
 |false=>
  simp only[cond_false];cases ieq a.Kind 2 with
  |true=>
   exact⟨zo3 S a.M (F:=λb=>chg b a.G (zuA a.X ⟨a.Y,a.Z⟩) (zAr (gAt b a.G) a.X ⟨a.Y,a.Z⟩)) (λb hb=>zp4 hb λ_ hc G=>z3n G hc)<|zoM _ _ _,
    congrArg (λt=>Told.mk t 0) (zkG S a.M (t:=λb=>zcc b a.G (zuA a.X ⟨a.Y,a.Z⟩))<|zjd _ _)⟩
  |false=>
   simp only[cond_false];cases ieq a.Kind 3 with
   |true=>obtain⟨k,e⟩:=zZI S a.M a.G a.X;exact⟨k,congrArg (λt=>Told.mk t 0) e⟩
   |false=>
    simp only[cond_false];cases ieq a.Kind 4 with
    |true=>
     exact⟨zo3 S a.M (F:=λb=>chg b a.G (zt9 (gAt b a.G) a.X) (zv3 (gAt b a.G) a.X)) (λb hb=>zp4 hb λ_ hc G=>z3k G hc)<|zoM _ _ _,
      congrArg (λt=>Told.mk t 0) (zkG S a.M (t:=λb=>zcc b a.G (zt9 (gAt b a.G) a.X))<|zjd _ _)⟩
    |false=>
     simp only[cond_false];cases ieq a.Kind 5 with
     |true=>
      exact⟨zo3 S a.M (F:=λb=>chg b a.G (zz6<|gAt b a.G) (zwU<|gAt b a.G)) (λb hb=>zp4 hb λ_ _ G=>z3m G)<|zoM _ _ _,
       congrArg (λt=>Told.mk t 0) (zkG S a.M (t:=λb=>zcc b a.G (zz6<|gAt b a.G))<|zjd _ _)⟩
     |false=>
      simp only[cond_false];cases ieq a.Kind 6 with
      |true=>
       exact⟨zo3 S a.M (F:=λb=>chg b a.G (zhJ (gAt b a.G).Pending a.X) (znw (gAt b a.G) a.X)) (λb hb=>zp4 hb λ_ _ G=>zTZ G _)<|zoM _ _ _,
        congrArg (λt=>Told.mk t 0) (zkG S a.M (t:=λb=>zcc b a.G (zhJ (gAt b a.G).Pending a.X))<|zjd _ _)⟩
      |false=>
       simp only[cond_false];cases ieq a.Kind 7 with
       |true=>
        exact⟨zo3 S a.M (F:=λb=>chg b a.G (zk4 ⟨a.X,a.Y,ieq a.Z 1⟩) (zI5 (gAt b a.G) ⟨a.X,a.Y,ieq a.Z 1⟩)) (λb hb=>zp4 hb λ_ hc G=>z3l G hc)<|zoM _ _ _,
         congrArg (λt=>Told.mk t 0) (zkG S a.M (t:=λb=>zcc b a.G (zk4 ⟨a.X,a.Y,ieq a.Z 1⟩))<|zjd _ _)⟩
       |false=>
        simp only[cond_false];cases ieq a.Kind 8 with
        |true=>obtain⟨k,e⟩:=z0d S a.M a.X a.Y a.Z;exact⟨k,congrArg (λt=>Told.mk t 0) e⟩
        |false=>
         simp only[cond_false];cases ieq a.Kind 9 with
         |true=>
          exact⟨zo3 S a.M (F:=λb=>zj9 b a.X) (λb hb=>zUT hb _) (by unfold zj9 zfO;rw[hn];rfl),
           congrArg (λt=>Told.mk t 0) (zkG S a.M (t:=λb=>zfO b a.X) (by unfold zfO;rw[hn];rfl))⟩
         |false=>
          simp only[cond_false];cases ieq a.Kind 10 with
          |true=>refine⟨zo3 S a.M (F:=zmy) (λb hb=>zWQ hb) (by unfold zmy;rw[hn];rfl),?_⟩;have e:=zkG S a.M (t:=zme) (by unfold zme;rw[hn];rfl);show Told.mk (zgH h a.M<|zme<|zy h a.M) (cond (zcM h a.M) (zrT<|zy h a.M)<|-1)=⟨zme<|zy h a.M,zrT<|zy h a.M⟩;rw[e];congr 1;unfold zcM;rw[zjQ.2 S.ok,cond_true];cases hm:hasB a.M (ln h.Mons) with|true=>rfl|false=>rw[seen_none hm];unfold zrT;rw[hn];rfl
          |false=>
           simp only[cond_false];cases ieq a.Kind 11 with
           |true=>obtain⟨k,e⟩:=z4G S a.M a.G a.X a.Y;exact⟨k,congrArg (λt=>Told.mk t 0) e⟩
           |false=>obtain⟨k,e1,e2⟩:=z3K S a.M a.G a.X;exact⟨k,by simp only[cond_false];rw[e1,e2]⟩
theorem zZ5 {h:Host}(S:Safe h)(a:GAct):Safe (zl1 h a)/\(∀i,zy (zl1 h a) i=zy h i)/\(zl1 h a).Mons.length=h.Mons.length:=by
 unfold zl1;have k:∀r,Op h r->Safe r/\(∀i,zy r i=zy h i)/\r.Mons.length=h.Mons.length:=λr k=>⟨k.safe S,λi=>k.like.seen i,k.like.len⟩;cases ieq a.Kind 13 with
 |true=>exact k _ (zH5 S.ok _ _)
 |false=>
  simp only[cond_false];cases ieq a.Kind 14 with
  |true=>exact k _ (zYd S.ok _ _)
  |false=>
   simp only[cond_false];cases ieq a.Kind 15 with
   |true=>exact k _ (zYc S.ok _ _)
   |false=>
    simp only[cond_false];cases ieq a.Kind 16 with
    |true=>obtain⟨h1,h2⟩:=zOf S a.M a.X;refine⟨h1,h2,?_⟩;simp only[cond_true];unfold zjy;cases zb1 h<;>cases hasB a.M (ln h.Mons)<;>cases zi a.X 0 3<;>first|rfl|exact zbG _ _ _
    |false=>exact k _ (z3F S.ok)
def zj8 (a:GAct):Bool:=bif zi a.Kind 1 17 then !zi a.Kind 13 17 else false
theorem zWK {h:Host}(S:Safe h)(a:GAct):Safe (zeP h a)/\(zeP h a).Mons.length=h.Mons.length/\
 (∀i,zy (zeP h a) i=bif (cond (zj8 a) (ieq i a.M) false) then zF6 (zy h i) a else zy h i)/\(zj8 a=true->zjj h a=zF7 (zy h a.M) a):=by
 unfold zeP zjj zj8;cases zi a.Kind 1 17 with
 |false=>exact⟨S,rfl,λ_=>rfl,λe=>by cases e⟩
 |true=>
  simp only[cond_true];cases zi a.Kind 13 17 with
  |true=>obtain⟨h1,h2,h3⟩:=zZ5 S a;exact⟨h1,h3,λi=>by simp only[cond_true,kC,cond_false];exact h2 i,λe=>by cases e⟩
  |false=>obtain⟨k,e⟩:=zZN S a;exact⟨k.safe,k.len,λi=>by simp only[cond_false,kW,cond_true];exact k.seen i,λ_=>e⟩
def zbz (h:Host):List Bare:=(List.range h.Mons.length).map λ(i:Nat)=>zy h (i:Int)
theorem zg9 (h:Host):(zbz h).length=h.Mons.length:=by simp[zbz]
theorem zlL (h:Host)(m:Int):hasB m (ln<|zbz h)=hasB m (ln h.Mons):=by unfold ln;rw[zg9]
theorem zk2 {h:Host}{m:Int}(hm:hasB m (ln h.Mons)=true)(d:Bare):ix (zbz h) m d=zy h m:=by have hm':=zC.1 hm;unfold ln at hm';have hk:m.toNat<(zbz h).length:=(by rw[zg9];omega);have:=zkt hk d;rw[show ((m.toNat:Nat):Int)=m by omega] at this;rw[this];simp[zbz,show max m 0=m by omega]
theorem zF5 {h r:Host}(hl:r.Mons.length=h.Mons.length)(e:∀i,zy r i=zy h i):zbz r=zbz h:=by unfold zbz;rw[hl];exact List.map_congr_left λi _=>e _
theorem zSs {h:Host}(S:Safe h)(a:GAct):zbz (zeP h a)=zF8 (zbz h) a/\(zj8 a=true->zjj h a=zUS (zbz h) a):=by obtain⟨_,hl,hs,ht⟩:=zWK S a;have key:zj8 a=true->zbz (zeP h a)=(cond (hasB a.M<|ln h.Mons) (up (zbz h) a.M<|zF6 (zy h a.M) a)<|zbz h):=(by intro hi;rw[hi]at hs;cases hm:hasB a.M (ln h.Mons) with|false=>rw[cond_false];refine zKU ⟨[],[],[],0⟩ (by rw[zg9,zg9,hl]) λi hi'=>?_;rw[zlL]at hi';rw[zk2 hi'];have hi2:hasB i (ln h.Mons)=true:=(by unfold ln at hi' ⊢;rwa [<- hl]);rw[zk2 hi2,hs i];have:ieq i a.M=false:=zbM.2 λe=>(by rw[e,hm]at hi2;cases hi2);rw[this];rfl|true=>rw[cond_true];refine zKU ⟨[],[],[],0⟩ (by rw[zbG,zg9,zg9,hl]) λi hi'=>?_;rw[zlL]at hi';rw[zk2 hi',hs i];have hi2:hasB i (ln h.Mons)=true:=(by unfold ln at hi' ⊢;rwa [<- hl]);by_cases e:i=a.M;{rw [e,zbj.2 rfl,zZ (by rw[zlL];exact hm)];rfl};{rw [zbM.2 e,zbo (zC.1 hm).1 (zC.1 hi2).1<|Ne.symm e,zk2 hi2];rfl});have e2:zj8 a=false->zbz (zeP h a)=zbz h:=λhi=>zF5 hl λi=>(by rw[hs i,hi];rfl);have ke:zj8 a=true->zi a.Kind 1 17=true/\zi a.Kind 13 17=false:=(by intro hi;unfold zj8 at hi;cases h1:zi a.Kind 1 17<;>cases h2:zi a.Kind 13 17<;>rw [h1,h2]at hi<;>first|exact⟨rfl,rfl⟩|cases hi);constructor;{unfold zF8;cases hi:zj8 a with|true=>obtain⟨h1,h2⟩:=ke hi;rw[h1,h2,cond_true,cond_false,zlL,key hi];(cases hm:hasB a.M (ln h.Mons) with|true=>rw[cond_true,cond_true,zk2 hm]|false=>rfl)|false=>rw[e2 hi];unfold zj8 at hi;(cases h1:zi a.Kind 1 17 with|false=>rfl|true=>(cases h2:zi a.Kind 13 17 with|true=>rfl|false=>rw[h1,h2]at hi;cases hi))};{intro hi;rw[ht hi];obtain⟨h1,h2⟩:=ke hi;unfold zUS;rw[h1,h2,cond_true,cond_false,zlL];cases hm:hasB a.M (ln h.Mons) with|true=>rw[cond_true,zk2 hm]|false=>rw[cond_false,seen_none hm];have hs1:=(zM2 a.G).2;have hn:=zrJ;unfold zF7;simp only[hs1,zjd];unfold zvo zfO zme zrT zwi zOI znp;simp only[hn,zrU hn,cond_false];(cases h10:ieq a.Kind 10 with|true=>have:a.Kind=10:=zbj.1 h10;rw[this];rfl|false=>cases ieq a.Kind 1<;>cases ieq a.Kind 2<;>cases ieq a.Kind 3<;>cases ieq a.Kind 4<;>cases ieq a.Kind 5<;>cases ieq a.Kind 6<;>cases ieq a.Kind 7<;>cases ieq a.Kind 8<;>cases ieq a.Kind 9<;>cases ieq a.Kind 11<;>rfl)}
def zHx:List GAct->List Told->List Told
 |a::l,t::ts=>bif zj8 a then t::zHx l ts else zHx l ts
 |_,_=>[]
structure Live (u:Host×List Told) (v:List Bare×List Told):Prop where
 safe:Safe u.1
 seen:zbz u.1=v.1
def zAA:List GAct->Host->List Told
 |[],_=>[]
 |a::l,h=>zjj h a::zAA l (zeP h a)
def zYQ:List GAct->List Bare->List Told
 |[],_=>[]
 |a::l,b=>zUS b a::zYQ l (zF8 b a)
def ztc:List GAct->Host->Host
 |[],h=>h
 |a::l,h=>ztc l (zeP h a)
def zZE:List GAct->List Bare->List Bare
 |[],b=>b
 |a::l,b=>zZE l (zF8 b a)
theorem zUm:∀(l:List GAct) (u:Host×List Told),zz8 l u=(ztc l u.1,u.2++zAA l u.1)
 |[],u=>by simp[zz8,ztc,zAA]
 |a::l,u=>by rw[zz8,zUm l];simp[ztc,zAA,ap]
theorem zXs:∀(l:List GAct) {h:Host},Safe h->Safe (ztc l h)/\zbz (ztc l h)=zZE l (zbz h)/\zHx l (zAA l h)=zHx l (zYQ l<|zbz h)/\(ztc l h).Mons.length=h.Mons.length
 |[],h,S=>⟨S,rfl,rfl,rfl⟩
 |a::l,h,S=>by have h1:=zWK S a;have h2:=zSs S a;obtain⟨e1,e2,e3,e4⟩:=zXs l h1.1;refine⟨e1,by show zbz (ztc l<|zeP h a)=zZE l (zF8 (zbz h) a);rw[e2,h2.1],?_,e4.trans h1.2.1⟩;show (cond (zj8 a) _ _)=(cond (zj8 a) _ _);cases hi:zj8 a with|false=>rw[cond_false,cond_false,e3,h2.1]|true=>rw[cond_true,cond_true,e3,h2.1,h2.2 hi]
theorem cz8 (q:Int)(hq:0<=q):zsK.countP (λs=>ieq s.Page q)=0:=by rw[u3];intro s hs;have:=(uO.1 hs).2;rw[this];show ¬ ieq (-1) q=true;rw[zbj];omega
theorem zSJ {p:List Ins}(h:zdr p=true):GOk (ze9 p):=⟨h,rfl,rfl,rfl,rfl,rfl,rfl,rfl,rfl⟩
theorem zX7 {ps:List (List Ins)}(h1:1<=ps.length)(h:∀p∈ps,zdr p=true):MOk (zgY ps):=by have e8:∀s∈zsK,s=noSlot:=λs hs=>(uO.1 hs).2;refine⟨?_,?_,?_,rfl,λs hs=>.inl (e8 s hs),rfl,rfl,jS _,rfl,rfl,rfl,λg hg=>?_,λp hp=>?_⟩;{show 1<=((ps.take 2).map ze9).length;simp;omega};{show ((ps.take 2).map ze9).length<=2;simp;omega};{show ((ps.take 2).map λ_=>zjV).length=((ps.take 2).map ze9).length;simp};{obtain⟨p,hp,rfl⟩:=jC.1 hg;exact zrF.2 (zSJ<|h p<|jW hp)};{have hp':=zC.1 hp;have e:p=0\/p=1\/p=2\/p=3\/p=4\/p=5\/p=6\/p=7:=(by omega);rcases e with rfl|rfl|rfl|rfl|rfl|rfl|rfl|rfl<;>rfl}
def z2u (ps:List (List<|List Ins)):Prop:=1<=ps.length/\∀p∈ps,1<=p.length/\∀x∈p,zdr x=true
theorem zVE {ps:List (List<|List Ins)}(h:z2u ps):Safe (zfN ps):=by have hmem:∀x∈(zfN ps).Mons,∃p∈ps,x=zgY p:=λx hx=>(by obtain⟨p,hp,rfl⟩:=jC.1 hx;exact⟨p,jW hp,rfl⟩);have hO:∀x∈(zfN ps).Mons,x.Outer=zsK:=λx hx=>(by obtain⟨p,_,rfl⟩:=hmem x hx;rfl);have H:HOk (zfN ps):=(by refine⟨rfl,λc hc=>?_,?_,?_,rfl,rfl,λx hx=>?_,λq hq=>?_⟩;{have:c=[0,0,0,0]:=(uO.1 hc).2;rw[this];rfl};{show 1<=((ps.take 3).map zgY).length;have:=h.1;simp;omega};{show ((ps.take 3).map zgY).length<=3;simp;omega};{obtain⟨p,hp,rfl⟩:=hmem x hx;exact zX7 (h.2 p hp).1 (h.2 p hp).2};{have:zfo (zfN ps).Mons q=0:=(by unfold zfo;have:(zfN ps).Mons.map (λx=>cPg x q)=(zfN ps).Mons.map (λ_=>0):=List.map_congr_left λx hx=>(by unfold cPg;rw[hO x hx];exact cz8 q hq);rw[this];generalize (zfN ps).Mons=l;induction l with|nil=>rfl|cons x l ih=>rw[q0,uJ,ih]);omega});refine⟨H,λm hm g hg=>?_,λe he=>(by cases he),λe he=>(by cases he)⟩;obtain⟨p,hp,e⟩:=hmem _ (zlb hm mZ);rw[e]at hg ⊢;have hg1:hasB g (ln<|(p.take 2).map ze9)=true:=hg;have ht:ix (zgY p).Tables g kZ=zjV:=(by have:hasB g (ln<|(p.take 2).map λ_=>zjV)=true:=(by unfold ln at hg1 ⊢;simpa using hg1);obtain⟨k,hk,_,e2⟩:=zwI this kZ;show ix ((p.take 2).map λ_=>zjV) g kZ=_;rw[e2];simp);have hl:(ix (zgY p).Guests g gZ).Live=zkQ:=(by obtain⟨k,hk,_,e2⟩:=zwI hg1 gZ;show (ix ((p.take 2).map ze9) g gZ).Live=_;rw[e2];simp[ze9]);rw[ht,hl];show KOk zjV zkQ zsK;refine⟨rfl,rfl,λi hi=>?_⟩;have hi':=zC.1 hi;have:ln zkQ=4:=rfl;rw[this]at hi';have e4:i=0\/i=1\/i=2\/i=3:=(by omega);rcases e4 with rfl|rfl|rfl|rfl<;>rfl
def z1G:zS:=[(281,zur),(282,zkH),(280,zqQ)]++zU4
theorem zwf:zL z1G:=zh zxz (zh zu8<|zh zto zgE)
theorem zoP (l:List Int):eqI l l=true:=by unfold eqI;induction l with|nil=>rfl|cons x l ih=>rw[all2,zgO,ih];rfl
def zjK (x y:List Slot):Bool:=pc (x=y)
def zjY (_ _:List Slot):Bool:=true
def ztG:Run:=rF2 (dS .slot) (dS .slot) λb c=>(zjK b c,[aB<|zjY b c])
def zxt (N:Nat)(a0 a1:lS):OA:=
 (cond (ine (ln a0)<|ln a1) oF<|iter (σ:=(Int×lS×lS×Unit)) N (λr3 s4=>let y1:=ix s4.2.1 s4.1 zO;let y0:=ix s4.2.2.1 s4.1 zO; (cond (ilt s4.1<|ln s4.2.1) (oN (inb s4.1<|ln s4.2.1)<|oN (inb s4.1<|ln s4.2.2.1)<|cond (nB<|cond (ieq y1.Page y0.Page) (ieq y1.Rights y0.Rights) false) oF<|r3 (zD .i64 s4.1 1,s4.2.1,s4.2.2.1,())) oT)) (0,a0,a1,()))
def zIT:=zx [(380,0,{n:=26,tm:=[(0,.sl 0 []),(1,.sl 1 []),(5,ti)],lo:=[],ro:=[(0,.slot,false),(1,.slot,false)]})]
theorem zHU (a0 a1:List Slot)(hb:zbC big [aS .slot a0,aS .slot a1])(hc:zjK a0 a1=true):∃N,zxt N a0 a1=some [aB<|zjY a0 a1]:=by
 have:=zK.1 hc;subst this;have hl:=len0 hb;refine⟨a0.length+1,?_⟩;unfold zxt oN nB;conv=>zeta
 rw[zhG];refine zAO a0 zO _ _ hl (λi hi rec=>?_) (λrec=>?_) (kO _);{simp only [zbv hi,zY hi,zbg hi,zoP,zK3,zhG,zgO,zmX,cT,cF,kC,kW]};{simp only [zbm,cF,zjY]}
theorem zBt:vJ 380 ztG:=hF2 zwf zbi zq zu zIT zHU
def zol (x y:List Ins):Bool:=pc (x=y)
def zok (_ _:List Ins):Bool:=true
def zvH:Run:=rF2 (dS .ins) (dS .ins) λb c=>(zol b c,[aB<|zok b c])
def zyV (N:Nat)(a0 a1:lI):OA:=
 (cond (ine (ln a0)<|ln a1) oF<|iter (σ:=(Int×lI×lI×Unit)) N (λr3 s4=>let y1:=ix s4.2.1 s4.1 zp2;let y0:=ix s4.2.2.1 s4.1 zp2; (cond (ilt s4.1<|ln s4.2.1) (oN (inb s4.1<|ln s4.2.1)<|oN (inb s4.1<|ln s4.2.2.1)<|cond (nB<|cond (ieq y1.Op y0.Op) (ieq y1.X y0.X) false) oF<|r3 (zD .i64 s4.1 1,s4.2.1,s4.2.2.1,())) oT)) (0,a0,a1,()))
def zLr:=zx [(379,0,{n:=26,tm:=[(0,.sl 0 []),(1,.sl 1 []),(5,ti)],lo:=[],ro:=[(0,.ins,false),(1,.ins,false)]})]
theorem zKL (a0 a1:List Ins)(hb:zbC big [aS .ins a0,aS .ins a1])(hc:zol a0 a1=true):∃N,zyV N a0 a1=some [aB<|zok a0 a1]:=by
 have:=zK.1 hc;subst this;have hl:=len0 hb;refine⟨a0.length+1,?_⟩;unfold zyV oN nB;conv=>zeta
 rw[zhG];refine zAO a0 zp2 _ _ hl (λi hi rec=>?_) (λrec=>?_) (kO _);{simp only [zbv hi,zY hi,zbg hi,zoP,zK3,zhG,zgO,zmX,cT,cF,kC,kW]};{simp only [zbm,cF,zok]}
theorem zEv:vJ 379 zvH:=hF2 zwf zbi zq zu zLr zKL
def zpU (x y:List (List Int)):Bool:=pc (x=y)
def zqq (_ _:List (List Int)):Bool:=true
def zxX:Run:=rF2 (dS<|.sl .int) (dS<|.sl .int) λb c=>(zpU b c,[aB<|zqq b c])
def zCw (N:Nat)(a0:lM)(a1:lM):OA:=
 (cond (ine (ln a0)<|ln a1) oF<|iter (σ:=(Int×lM×lM×Unit)) N (λr3 s4=>cond (ilt s4.1<|ln s4.2.1) (oN (inb s4.1<|ln s4.2.1)<|oN (inb s4.1<|ln s4.2.2.1)<|oN (zhm (ix s4.2.1 s4.1 [])<|ix s4.2.2.1 s4.1 [])<|cond (nB<|zh9 (ix s4.2.1 s4.1 [])<|ix s4.2.2.1 s4.1 []) oF<|r3 (zD .i64 s4.1 1,s4.2.1,s4.2.2.1,())) oT) (0,a0,a1,()))
def zOn:=zx [(278,0,{n:=27,tm:=[(0,.sl 0 []),(1,.sl 1 []),(5,ti)],lo:=[],ro:=[(0,.sl .int,false),(1,.sl .int,false)]})]
theorem zNZ (a0:List (List Int))(a1:List (List Int))(hb:zbC big [aS (.sl .int) a0,aS (.sl .int) a1])(hc:zpU a0 a1=true):∃N,zCw N a0 a1=some [aB<|zqq a0 a1]:=by have:=zK.1 hc;subst this;have hl:=len0 hb;refine⟨a0.length+1,?_⟩;unfold zCw oN nB;rw[zhG];refine zAO a0 (Ty.dflt<|.sl .int) _ _ hl (λi hi rec=>?_) (λrec=>?_) (kO _);{simp only [zbv hi,zY hi,zbg hi,zhm,zh9,zoP,zK3,zhG,zgO,zmX,cT,cF,kC,kW]};{simp only [zbm,cF,zqq]}
theorem zHc:vJ 278 zxX:=hF2 zwf zbi zq zu zOn zNZ
def z1H:zS:=[(380,ztG),(379,zvH),(278,zxX)]++z1G
theorem zPq:zL z1H:=zh zBt (zh zEv<|zh zHc zwf)
def zmt (x y:Guest):Bool:=pc (x=y)
def zl8 (_ _:Guest):Bool:=true
def ztF:Run:=rF2 (dT .guest) (dT .guest) λb c=>(zmt b c,[aB<|zl8 b c])
def zxs (N:Nat)(a0 a1:Guest):OA:=
 (oN (zol a0.Prog a1.Prog)<|cond (zok a0.Prog a1.Prog) (cond (ieq a0.A a1.A) (cond (ieq a0.Pc a1.Pc) (oN (zjK a0.Written a1.Written)<|cond (zjY a0.Written a1.Written) (oN (zjK a0.Live a1.Live)<|cond (zjY a0.Live a1.Live) (cond (cond (ieq a0.Ctl.Traps a1.Ctl.Traps) (cond (ieq a0.Ctl.Post a1.Ctl.Post) (znj a0.Ctl.Open a1.Ctl.Open) false) false) (cond (ieq a0.Pending a1.Pending) (cond (cond (ieq a0.Exit.Kind a1.Exit.Kind) (cond (ieq a0.Exit.Page a1.Exit.Page) (cond (znj a0.Exit.Write a1.Exit.Write) (ieq a0.Exit.N a1.Exit.N) false) false) false) (cond (znj a0.Halted a1.Halted) (oN (zhm a0.Seen a1.Seen)<|some [aB<|zh9 a0.Seen a1.Seen]) oF) oF) oF) oF) oF) oF) oF) oF) oF)
theorem zHT (a0 a1:Guest)(hc:zmt a0 a1=true):∃N,zxs N a0 a1=some [aB<|zl8 a0 a1]:=by have:=zK.1 hc;subst this;refine⟨0,?_⟩;simp only[zxs,zol,zok,zjK,zjY,zhm,zh9,zoP,zK3,zhG,zgO,zmX,cT,cF,kC,kW,zl8]
theorem zBs:vJ 342 ztF:=kF2 zPq zbi zq zu (zx []) zHT
def z1I:zS:=[(342,ztF)]++z1H
theorem zPr:zL z1I:=zh zBs zPq
def ziz (x y:List Guest):Bool:=pc (x=y)
def zia (_ _:List Guest):Bool:=true
def zoG:Run:=rF2 (dS .guest) (dS .guest) λb c=>(ziz b c,[aB<|zia b c])
def zq4 (N:Nat)(a0 a1:lG):OA:=
 (cond (ine (ln a0)<|ln a1) oF<|iter (σ:=(Int×lG×lG×Unit)) N (λr3 s4=>let y1:=ix s4.2.1 s4.1 zn;let y0:=ix s4.2.2.1 s4.1 zn; (cond (ilt s4.1<|ln s4.2.1) (oN (inb s4.1<|ln s4.2.1)<|oN (inb s4.1<|ln s4.2.2.1)<|oN (zmt y1 y0)<|cond (nB<|zl8 y1 y0) oF<|r3 (zD .i64 s4.1 1,s4.2.1,s4.2.2.1,())) oT)) (0,a0,a1,()))
def zyu:=zx [(279,0,{n:=27,tm:=[(0,.sl 0 []),(1,.sl 1 []),(5,ti)],lo:=[],ro:=[(0,.guest,false),(1,.guest,false)]})]
theorem zys (a0 a1:List Guest)(hb:zbC big [aS .guest a0,aS .guest a1])(hc:ziz a0 a1=true):∃N,zq4 N a0 a1=some [aB<|zia a0 a1]:=by
 have:=zK.1 hc;subst this;have hl:=len0 hb;refine⟨a0.length+1,?_⟩;unfold zq4 oN nB;conv=>zeta
 rw[zhG];refine zAO a0 zn _ _ hl (λi hi rec=>?_) (λrec=>?_) (kO _);{simp only [zbv hi,zY hi,zbg hi,zmt,zl8,zoP,zK3,zhG,zgO,zmX,cT,cF,kC,kW]};{simp only [zbm,cF,zia]}
theorem zu9:vJ 279 zoG:=hF2 zPr zbi zq zu zyu zys
def z1J:zS:=[(279,zoG)]++z1I
theorem zPs:zL z1J:=zh zu9 zPr
def zsC (x y:Bare):Bool:=pc (x=y)
def zrx (_ _:Bare):Bool:=true
def zvG:Run:=rF2 (dT .bare) (dT .bare) λb c=>(zsC b c,[aB<|zrx b c])
def zyU (N:Nat)(a0 a1:Bare):OA:=
 (oN (zpU a0.Memory a1.Memory)<|cond (zqq a0.Memory a1.Memory) (oN (ziz a0.Guests a1.Guests)<|cond (zia a0.Guests a1.Guests) (oN (zhm a0.Outs a1.Outs)<|cond (zh9 a0.Outs a1.Outs) (some [aB<|ieq a0.Pending a1.Pending]) oF) oF) oF)
theorem zKK (a0 a1:Bare)(hc:zsC a0 a1=true):∃N,zyU N a0 a1=some [aB<|zrx a0 a1]:=by have:=zK.1 hc;subst this;refine⟨0,?_⟩;simp only[zyU,zpU,zqq,ziz,zia,zhm,zh9,zoP,zK3,zhG,zgO,zmX,cT,cF,kC,kW,zrx]
theorem zEu:vJ 188 zvG:=kF2 zPs zbi zq zu (zx []) zKK
def z1K:zS:=[(188,zvG)]++z1J
theorem zPt:zL z1K:=zh zEu zPs
def zFR (N:Nat)(a0:Host)(a1:Int):OA:=
 (oN (zAl a0 a1)<|cond (nB<|zqp a0 a1) (some [aT .bare (⟨[],[],[],0⟩:Bare)])<|iter (σ:=(Int×Int×Int×Int×lM×lN×lE×lE×lM×lG×(List Int)×lM×lG×(List Int)×Unit)) N (λr3 s4=>let y3:=s4.2.2.2.2.2.2.2.2.2.2.2.2.1;let y2:=s4.2.2.2.2.2.2.2.2.2.2.2.2.2.1;let y0:=(⟨s4.2.2.2.2.1,s4.2.2.2.2.2.1,s4.2.2.2.2.2.2.1,s4.2.2.2.2.2.2.2.1⟩:Host);let y1:=ap s4.2.2.2.2.2.2.2.2.2.2.2.1 [zmN y0 s4.1 s4.2.1]; (cond (ilt s4.2.1 8) (oN (zoj y0 s4.1 s4.2.1)<|oN (few<|ln y1)<|r3 (s4.1,zD .i64 s4.2.1 1,s4.2.2.1,s4.2.2.2.1,s4.2.2.2.2.1,s4.2.2.2.2.2.1,s4.2.2.2.2.2.2.1,s4.2.2.2.2.2.2.2.1,s4.2.2.2.2.2.2.2.2.1,s4.2.2.2.2.2.2.2.2.2.1,s4.2.2.2.2.2.2.2.2.2.2.1,y1,y3,y2,()))<|some [aT .bare (⟨s4.2.2.2.2.2.2.2.2.2.2.2.1,y3,y2,s4.2.2.2.1⟩:Bare)])) (a1,0,0,(zfj a0 a1).Pending,a0.Memory,a0.Mons,a0.Buffer,a0.IoBuffer,[],[],[],[],(zfj a0 a1).Guests,(zfj a0 a1).Outs,()))
def zSa:=zx [(189,0,{n:=39,tm:=[(1,ti),(2,.lp 0 0),(4,.lp 1 0),(7,.lp 2 0),(8,ti)],lo:=[(0,[.sl 0 [],.sl 1 [],.sl 2 [],.sl 3 []]),(1,[.sl 4 [],.sl 5 [],.sl 6 [],ti]),(2,[.sl 7 [],.sl 8 [],.sl 9 [],ti])],ro:=[(0,.sl .int,false),(1,.mon,false),(2,.entry,false),(3,.entry,false),(4,.sl .int,true),(5,.guest,true),(6,.int,true),(7,.sl .int,true),(8,.guest,true),(9,.int,true)]})]
theorem zQE (a0:Host)(a1:Int)(hc:zeQ a0 a1=true):∃N,zFR N a0 a1=some [aT .bare<|zgK a0 a1]:=by
 have hs:=zK.1 hc;refine zb0 λN hNN=>?_;unfold zFR zgK zy oN nB;conv=>zeta
 refine must (zbe hs) ?_;rw[show zqp a0 a1=hasB a1 (ln a0.Mons) from rfl];cases hh:hasB a1 (ln a0.Mons);{rfl};{refine zcy rfl ?_;refine(zsf 8 (λi (t:lM)=>(a1,(i:Int),0,(zfj a0 a1).Pending,a0.Memory,a0.Mons,a0.Buffer,a0.IoBuffer,[],[],[],t,(zfj a0 a1).Guests,(zfj a0 a1).Outs,())) _ (λi (acc:List (List Int)) κ=>bif few (ln<|ap acc [zcm a0 a1 (i:Int)]) then κ (ap acc [zcm a0 a1 (i:Int)]) else none) (λ(t:lM)=>some [.agg<|Ty.cells .bare (⟨t,(zfj a0 a1).Guests,(zfj a0 a1).Outs,(zfj a0 a1).Pending⟩:Bare)]) (λi hi t rec=>?_) (λt rec=>?_) _ ([])<|hNN (by decide)).trans ?_;{simp only [show ilt (i:Int) 8=true from qJ (by omega),zU hi (show 8<=big by decide),cT];exact must (zbe hs) rfl};{simp only [show ilt ((8:Nat):Int) 8=false from qG (by omega),cF]};rw[zzp a0 a1 _ 8 0 [] (by decide)];simp only[zfj,hh,cT,jO]}
theorem zJ3:vJ 189 znE:=kF2 zPt zbi zq zu zSa zQE
def z1L:zS:=[(189,znE)]++z1K
theorem zPu:zL z1L:=zh zJ3 zPt
theorem zPM {ρ:Type}(h:Host)(K:List Bare->Option ρ):∀(l:List Mon) (i:Nat) (acc:List Bare),acc.length+l.length<=2147483648->
 goL (λi (_:Mon) acc κ=>bif few (ln<|ap acc [zy h (i:Int)]) then κ (ap acc [zy h (i:Int)]) else none) K l i acc=K (acc++(List.range' i l.length).map λ(i:Nat)=>zy h (i:Int))
 |[],_,acc,_=>by simp[goL]
 |x::l,i,acc,hl=>by simp only[qV]at hl;simp only[goL];rw[zgt (by simp[ap];omega),cT,zPM h K l (i+1) _ (by simp[ap];omega)];simp[ap,uD]
@[simp] abbrev zpP (h:Host):List Bare:=zbz h
def ztC:Run:=rF1 dH λb=>(zba b,[aS .bare<|zpP b])
def zxj (N:Nat)(a0:Host):OA:=
 (iter (σ:=(Int×lR×lM×lN×lE×lE×Unit)) N (λr2 s3=>let y0:=(⟨s3.2.2.1,s3.2.2.2.1,s3.2.2.2.2.1,s3.2.2.2.2.2.1⟩:Host);let y1:=ap s3.2.1 [zgK y0 s3.1]; (cond (ilt s3.1<|ln s3.2.2.2.1) (oN (zeQ y0 s3.1)<|oN (few<|ln y1)<|r2 (zD .i64 s3.1 1,y1,s3.2.2.1,s3.2.2.2.1,s3.2.2.2.2.1,s3.2.2.2.2.2.1,()))<|some [aS .bare s3.2.1])) (0,[],a0.Memory,a0.Mons,a0.Buffer,a0.IoBuffer,()))
def zIO:=zx [(89,0,{n:=20,tm:=[(1,.lp 0 0),(3,.sl 0 []),(4,ti)],lo:=[(0,[.sl 1 [],.sl 2 [],.sl 3 [],.sl 4 []])],ro:=[(0,.bare,true),(1,.sl .int,false),(2,.mon,false),(3,.entry,false),(4,.entry,false)]})]
theorem zHL (a0:Host)(hc:zba a0=true):∃N,zxj N a0=some [aS .bare<|zpP a0]:=by
 have hs:=zK.1 hc;have hl:a0.Mons.length<=big:=(zct ((zM a0).1 hs).2.1.1).1;refine zb0 λN hNN=>?_;unfold zxj oN;conv=>zeta
 refine(zbd a0.Mons (λi (t:lR)=>((i:Int),t,a0.Memory,a0.Mons,a0.Buffer,a0.IoBuffer,())) _ (λi (x:Mon) (t:List Bare) κ=>bif few (ln<|ap t [zy a0 (i:Int)]) then κ (ap t [zy a0 (i:Int)]) else none) (λ(t:lR)=>some [.one<|.s .bare t]) (λi hi t rec=>?_) (λt rec=>?_) _ ([])<|hNN hl).trans ?_;{simp only [zbv hi,zY hi,zbg hi,zU hi hl,cT];exact must (zbe hs) rfl};{simp only [zbm,cF]};rw[zPM a0 _ _ 0 [] (by simpa using (zct ((zM a0).1 hs).2.1.1).2)];simp[zbz,uE]
theorem zBk:vJ 89 ztC:=kF1 zPu zbi zq zu zIO zHL
def z1M:zS:=[(89,ztC)]++z1L
theorem zPv:zL z1M:=zh zBk zPu
theorem zT2 {α ρ:Type}(K:Unit->Option ρ):∀(l:List α) (i:Nat),goL (λ_ _ (_:Unit) κ=>κ ()) K l i ()=K ()
 |[],_=>rfl
 |_::l,i=>zT2 K l (i+1)
@[simp] abbrev zsB (h:Host)(l:List Bare):Bool:=pc (zcJ h/\l=zbz h)
@[simp] abbrev zwX (_:Host)(_:List Bare):Bool:=true
def zvE:Run:=rF2 dH (dS .bare) λb c=>(zsB b c,[aB<|zwX b c])
def zyR (N:Nat)(a0:Host)(a1:lR):OA:=
 (cond (ine (ln a1)<|ln a0.Mons) oF<|iter (σ:=(Int×lR×lM×lN×lE×lE×Unit)) N (λr3 s4=>let y1:=ix s4.2.1 s4.1 zIY;let y0:=(⟨s4.2.2.1,s4.2.2.2.1,s4.2.2.2.2.1,s4.2.2.2.2.2.1⟩:Host); (cond (ilt s4.1<|ln s4.2.1) (oN (zeQ y0 s4.1)<|oN (inb s4.1<|ln s4.2.1)<|oN (zsC (zgK y0 s4.1) y1)<|cond (nB<|zrx (zgK y0 s4.1) y1) oF<|r3 (zD .i64 s4.1 1,s4.2.1,s4.2.2.1,s4.2.2.2.1,s4.2.2.2.2.1,s4.2.2.2.2.2.1,())) oT)) (0,a1,a0.Memory,a0.Mons,a0.Buffer,a0.IoBuffer,()))
def zLp:=zx [(88,0,{n:=27,tm:=[(1,.sl 0 []),(2,.lp 0 0),(5,ti)],lo:=[(0,[.sl 1 [],.sl 2 [],.sl 3 [],.sl 4 []])],ro:=[(0,.bare,false),(1,.sl .int,false),(2,.mon,false),(3,.entry,false),(4,.entry,false)]})]
theorem zKH (a0:Host)(a1:List Bare)(hc:zsB a0 a1=true):∃N,zyR N a0 a1=some [aB<|zwX a0 a1]:=by
 obtain⟨hs,he⟩:=zK.1 hc;have hl:a1.length<=big:=(by rw[he,zg9];exact(zct ((zM a0).1 hs).2.1.1).1);refine zb0 λN hNN=>?_;unfold zyR oN nB;conv=>zeta
 rw[show ine (ln a1) (ln a0.Mons)=false by unfold ln;rw[he,zg9];exact zhG _];refine zcy rfl ?_;refine(zbd a1 (λi (t:Unit)=>((i:Int),a1,a0.Memory,a0.Mons,a0.Buffer,a0.IoBuffer,())) _ (λi (x:Bare) (_:Unit) κ=>κ ()) (λ(t:Unit)=>some [.one<|.b true]) (λi hi t rec=>?_) (λt rec=>?_) _ ()<|hNN hl).trans ?_;{simp only [zbv hi,zY hi,zbg hi,zU hi hl,cT];have e:zgK a0 (i:Int)=a1[i]:=(by simp[he,zbz]);refine must (zbe hs) ?_;rw[e];exact must (zbp rfl) rfl};{simp only [zbm,cF]};rw[zT2]
theorem zEq:vJ 88 zvE:=kF2 zPv zbi zq zu zLp zKH
def z5u:zS:=[(88,zvE)]++z1M
theorem zZy:zL z5u:=zh zEq zPv
@[simp] abbrev zsD (a b:Host):Bool:=pc (zcJ a/\zcJ b/\zbz a=zbz b)
@[simp] abbrev zwY (_ _:Host):Bool:=true
def zvI:Run:=rF2 dH dH λb c=>(zsD b c,[aB<|zwY b c])
def zyW (N:Nat)(a0 a1:Host):OA:=
 (oN (zba a1)<|oN (zsB a0<|zpP a1)<|some [aB<|zwX a0<|zpP a1])
theorem zKM (a0 a1:Host)(hc:zsD a0 a1=true):∃N,zyW N a0 a1=some [aB<|zwY a0 a1]:=by obtain⟨h1,h2,h3⟩:=zK.1 hc;refine⟨0,?_⟩;unfold zyW oN;exact must (zbe h2) (must (zbe ⟨h1,h3.symm⟩) rfl)
theorem zEw:vJ 25 zvI:=kF2 zZy zbi zq zu (zx []) zKM
def Ends {ρ:Type}(G:ρ->Prop)(o:Option ρ):Prop:=∃a,o=some a/\G a
section
variable {ρ:Type} {G:ρ->Prop}
theorem zbT {c:Bool}{a b:Option ρ}(h:c=true)(k:Ends G a):Ends G (cond c a b):=by rw[h];exact k
theorem zdm {c:Bool}{a b:Option ρ}(h1:c=true->Ends G a)(h2:c=false->Ends G b):Ends G (cond c a b):=by cases c;{exact h2 rfl};{exact h1 rfl}
theorem zmD {x:Option ρ}{f:Option ρ->Option ρ}(h:Ends G x)(k:∀t,Ends G t->Ends G (f t)):Ends G (share x f):=k x h
theorem zGo {a:ρ}(h:G a):Ends G (some a):=⟨a,rfl,h⟩
theorem zp9 {σ:Type}{F:(σ->Option ρ)->σ->Option ρ}(I:Nat->σ->Prop)(h:∀n s rec,I n s->(∀k s',k<n->I k s'->Ends G (rec s'))->Ends G (F rec s)):∀(N n:Nat) (s:σ),I n s->n<N->Ends G (iter N F s)
 | 0,n,s,_,hn=>absurd hn (Nat.not_lt_zero n)
 |N+1,n,s,hI,hn=>h n s (iter N F) hI λk s' hk hs=>zp9 I h N k s' hs (by omega)
theorem z3h {G:Ans->Prop}{o:OA}{r:Ans}(h:Ends (λa=>a=r) o):o=some r:=by obtain⟨a,h1,h2⟩:=h;rw[h1,h2]
end
instance:Inhabited Cur:=⟨⟨[],0,0⟩⟩
def uC {T:Type}(ok:T->Prop):Bool:=pc (∃v,ok v)
def uV {T:Type}[Nonempty T](ok:T->Prop):T:=Classical.epsilon ok
theorem uG {T:Type}[Nonempty T]{ok:T->Prop}(h:uC ok=true):ok (uV ok):=Classical.epsilon_spec (zK.1 h)
def wC {T:Type}(ok:Cur->T->Prop):Bool:=uC λr:Cur×T=>ok r.1 r.2
def wS {T:Type}[Nonempty T](ok:Cur->T->Prop):Cur:=bif wC ok then (uV λr:Cur×T=>ok r.1 r.2).1 else ⟨[],0,0⟩
def wV {T:Type}[Nonempty T](ok:Cur->T->Prop):T:=(uV λr:Cur×T=>ok r.1 r.2).2
theorem wG {T:Type}[Nonempty T]{ok:Cur->T->Prop}(h:wC ok=true):ok (wS ok) (wV ok):=by unfold wS wV;rw[h,cT];exact uG h
theorem wP {T:Type}[Nonempty T]{ok:Cur->T->Prop}(k:∀{s v},ok s v->0<=s.i):0<=(wS ok).i:=by cases h:wC ok with|false=>unfold wS;rw[h];exact kY 0|true=>exact k (wG h)
abbrev wE {T:Type}(av:T->AV)(b:List Int)(good:T->Prop):Ans->Prop:=λa=>∃s v0,a=(AV.agg (zfp s)::[av v0])/\(s.b=b/\0<=s.i)/\good v0
theorem wI {T:Type}{ok:Cur->T->Prop}{E:Nat->OA}{av:T->AV}{b:List Int}{good:T->Prop}(k:∀s v,((∃N,E N=some (AV.agg (zfp s)::[av v]))/\(s.b=b/\0<=s.i)/\good v)->ok s v)(h:∃N,Ends (wE av b good)<|E N):wC ok=true:=by obtain⟨N,a,e,s,v,rfl,h⟩:=h;exact zbp ⟨(s,v),k s v ⟨⟨N,e⟩,h⟩⟩
abbrev zki:=List CV->List AV->Option (Bool×List CV×List AV)
abbrev zDz:=List AV->Option (Bool×List CV×List AV)
def pR (k:Cur->zDz):zki
 |[.s .u8 b,.i .i64 i,.i .i64 h],avs=>k ⟨b,i,h⟩ avs
 |_,_=>none
def zZ7 {α:Type}(D:Dc α)(k:α->zDz):zDz
 |[]=>none
 |a::l=>match D.d a with
  |some x=>k x l
  |none=>none
def zOD (r:Bool×Cur×List AV):zDz
 |[]=>some (r.1,zfp r.2.1,r.2.2)
 |_=>none
theorem z4Z {k:Cur->zDz}{cs:List CV}{avs:List AV}{r:Bool×List CV×List AV}(h:pR k cs avs=some r):∃c,cs=zfp c/\k c avs=some r:=by unfold pR at h;split at h;{exact⟨_,rfl,h⟩};{cases h}
theorem zZ8 {α:Type}{D:Dc α}{k:α->zDz}{avs:List AV}{r:Bool×List CV×List AV}(h:zZ7 D k avs=some r):∃x l,avs=D.e x::l/\k x l=some r:=by unfold zZ7 at h;split at h;{cases h};{rename_i a l;split at h;{rename_i x hx;exact⟨x,l,by rw[D.h hx],h⟩};{cases h}}
theorem zMB {q:Bool×Cur×List AV}{b:Bool}{cs:List CV}{rs avs:List AV}(h:zOD q avs=some (b,cs,rs)):avs=[]/\q.1=b/\cs=zfp q.2.1/\rs=q.2.2:=by unfold zOD at h;split at h<;>cases h;exact⟨rfl,rfl,rfl,rfl⟩
section
variable {c:zS} {m:zg1} {p:zdI} {t:zfn} (o1:zL c) (o2:zfz m) (o3:zcA p) (o4:zef t) (tms:FuncId->Nat->Option Tmpl) {f:FuncId}
include o1 o2 o3 o4
theorem hPx {k:Cur->zDz}(hf:zfd f=true)(h:∀x avs cs' rs,k x avs=some (true,cs',rs)->cs'.length=3/\∃N,zpx (cQ c m p t) tms N 12 f [false,true,true] (zfp x) avs=some (.agg cs'::rs)):zdc Tryz.prog f [false,true,true] (pR k):=by refine zhv (zgF o1 o2 o3 o4) (zje hf) ?_;intro cs avs cs' rs hl hr e;obtain⟨x,rfl,e⟩:=z4Z e;obtain⟨h1,N,h2⟩:=h x avs cs' rs e;exact⟨h1,tms,N,12,h2⟩
def rP0 (g:Cur->Bool×Cur×List AV):zki:=pR λc=>zOD (g c)
theorem hP0 {g:Cur->Bool×Cur×List AV}{E:Nat->Cur->OA}(law:∀x,(g x).1=true->∃N,E N x=some (.agg (zfp (g x).2.1)::(g x).2.2))(nf:∀N x,zpx (cQ c m p t) tms N 12 f [false,true,true] (zfp x) []=E N x:=by intros;kernel_rfl)(hf:zfd f=true:=by kernel_rfl):zdc Tryz.prog f [false,true,true] (rP0 g):=
 hPx o1 o2 o3 o4 tms hf λx avs cs' rs e=>by obtain⟨rfl,h1,rfl,rfl⟩:=zMB e;obtain⟨N,h⟩:=law x h1;exact⟨rfl,N,(nf N x).trans h⟩
def rP1 {A:Type}(D:Dc A)(g:Cur->A->Bool×Cur×List AV):zki:=pR λc=>zZ7 D λa=>zOD (g c a)
theorem hP1 {A:Type}{D:Dc A}{g:Cur->A->Bool×Cur×List AV}{E:Nat->Cur->A->OA}(law:∀x a,(g x a).1=true->∃N,E N x a=some (.agg (zfp (g x a).2.1)::(g x a).2.2))(nf:∀N x a,zpx (cQ c m p t) tms N 12 f [false,true,true] (zfp x) [D.e a]=E N x a:=by intros;kernel_rfl)(hf:zfd f=true:=by kernel_rfl):zdc Tryz.prog f [false,true,true] (rP1 D g):=
 hPx o1 o2 o3 o4 tms hf λx avs cs' rs e=>by obtain⟨a,l,rfl,e1⟩:=zZ8 e;obtain⟨rfl,h1,rfl,rfl⟩:=zMB e1;obtain⟨N,h⟩:=law x a h1;exact⟨rfl,N,(nf N x a).trans h⟩
end
instance:Inhabited Ins:=⟨⟨0,0⟩⟩
instance:Inhabited GAct:=⟨⟨0,0,0,0,0,0⟩⟩
instance:Inhabited Ctl:=⟨⟨0,0,false⟩⟩
instance:Inhabited Host:=⟨⟨[],[],[],[]⟩⟩
def zdZ (c:Cur):Prop:=0<=c.i/\c.b.length<=big
theorem zk7 {T:Type}(av:T->AV){good:T->Prop}{b:List Int}{x y:Int}{v:T}(h:0<=x)(g:good v):Ends (λa=>∃s v0,a=(AV.agg (zfp s)::[av v0])/\(s.b=b/\0<=s.i)/\good v0) (some (AV.agg [.s .u8 b,.i .i64 x,.i .i64 y]::[av v])):=
 ⟨_,rfl,⟨b,x,y⟩,v,rfl,⟨rfl,h⟩,g⟩
def zt1 (N:Nat)(c:Cur)  : OA :=
 let y0:=zD .i64 (zlI .i64 c.h 6364136223846793005) 1442695040888963407;let y1:=wand .i64 (z0J .i64 (zjB .i64 y0 33)<|zjB .i64 y0 45) 255; (oN (ile 0 33)<|oN (ile 0 45)<|cond (ilt c.i<|ln c.b) (oN (inb c.i<|ln c.b)<|some [.agg [.s .u8 c.b,.i .i64<|zD .i64 c.i 1,.i .i64 y0],aI<|wand .i64 (zD .i64 y1<|wcv .i64<|ix c.b c.i 0) 255])<|some [.agg [.s .u8 c.b,.i .i64 c.i,.i .i64 y0],aI y1])
def zor (c:Cur)(s:Cur)(v0:Int):Prop:=(∃N,zt1 N c=some (AV.agg (zfp s)::[aI v0]))/\(s.b=c.b/\0<=s.i)/\(0<=v0/\v0<=255)
def zeA (c:Cur)  : Bool:=wC (zor c)
def zdb (c:Cur)  : Cur:=wS (zor c)
def zgB (c:Cur)  : Int:=wV (zor c)
theorem zl9 {c:Cur}(h:zeA c=true):zor c (zdb c) (zgB c):=wG h
theorem zma (c:Cur)  : 0<=(zdb c).i:=wP λh=>h.2.1.2
theorem zTh (c:Cur)(h:∃N,Ends (wE (λv0=>aI v0) c.b λv0=>0<=v0/\v0<=255)<|zt1 N c):zeA c=true:=wI (λ_ _ h=>h) h
def zvp:zki:=rP0 λc=>(zeA c,zdb c,[aI<|zgB c])
theorem zHg:zdc Tryz.prog 161 [false,true,true] zvp:=hP0 zgE zbi zq zu (zx []) (λ_ h=>(zl9 h).1)
theorem zMX {x m:Int}(h0:0<=m)(h1:m<9223372036854775808):0<=wand .i64 x m/\wand .i64 x m<=m:=by have hm:(BitVec.ofInt 64 m).toNat=m.toNat:=(by rw[BitVec.toNat_ofInt];omega);have hle:(BitVec.ofInt 64 x &&& BitVec.ofInt 64 m).toNat<=m.toNat:=(by rw[BitVec.toNat_and,hm];exact Nat.and_le_right);unfold wand;show 0<=IntKind.wrap .i64 ((BitVec.ofInt 64 x &&& BitVec.ofInt 64 m).toNat:Int)/\IntKind.wrap .i64 ((BitVec.ofInt 64 x &&& BitVec.ofInt 64 m).toNat:Int)<=m;rw[zrN (by omega) (by omega)];omega
@[simp] theorem zGg {c:Cur}(h:zdZ c):zeA c=true:=by
 refine zTh c ⟨0,?_⟩;unfold zt1 oN;conv=>zeta
 refine zbT rfl (zbT rfl (zdm (λh0=>zbT (qJ ⟨h.1,qD h0⟩) (zk7 aI ?_<|zMX (by omega) (by omega))) λ_=>zk7 aI h.1 (zMX (by omega) (by omega))));have h1:c.i<ln c.b:=qD h0;have h2:=h.2;have h3:=h.1;rw[zmY]at h2;unfold ln at h1;rw[zlC (by omega) (by omega)];omega
def z14:zdI:=[(161,[false,true,true],zvp)]++zK4
theorem zQ4:zcA z14:=zec zq (by
 intro x hx;simp only[qI,qW,or_false]at hx;rcases hx with rfl
 .exact zHg)
theorem zDS {b:List Int}{i h:Int}(h0:0<=i)(hb:b.length<=big):zdZ ⟨b,i,h⟩:=⟨h0,hb⟩
theorem zUL {x n:Int}(h0:0<=x)(hn:0<n):0<=zkT x n/\zkT x n<n:=by unfold zkT;exact⟨Int.tmod_nonneg _ h0,Int.tmod_lt_of_pos _ hn⟩
def zrR (N:Nat)(c:Cur)(a0:Int):OA:=
 let y2:=({ (zdb c) with b:=c.b}:Cur);let y0:=({ (zdb y2) with b:=c.b}:Cur);let y1:=({ (zdb y0) with b:=c.b}:Cur); (cond (ile a0 0) (some [.agg [.s .u8 c.b,.i .i64 c.i,.i .i64 c.h],aI 0])<|cond (ile a0 256) (oN (zeA c)<|oN (ine a0 0)<|some [.agg [.s .u8 c.b,.i .i64 (zdb c).i,.i .i64 (zdb c).h],aI<|zkT (zgB c) a0])<|oN (zeA c)<|oN (zeA y2)<|oN (zeA y0)<|oN (zeA y1)<|oN (ine a0 0)<|some [.agg [.s .u8 c.b,.i .i64 (zdb y1).i,.i .i64 (zdb y1).h],aI<|zkT (zD .i64 (zD .i64 (zD .i64 (zlI .i64 (zgB c) 16777216)<|zlI .i64 (zgB y2) 65536)<|zlI .i64 (zgB y0) 256)<|zgB y1) a0])
def zmu (c:Cur)(a0:Int)(s:Cur)(v0:Int):Prop:=(∃N,zrR N c a0=some (AV.agg (zfp s)::[aI v0]))/\(s.b=c.b/\0<=s.i)/\(0<a0->0<=v0/\v0<a0)
def zbb (c:Cur)(a0:Int):Bool:=wC (zmu c a0)
def zF (c:Cur)(a0:Int):Cur:=wS (zmu c a0)
def zX (c:Cur)(a0:Int):Int:=wV (zmu c a0)
theorem zsF {c:Cur}{a0:Int}(h:zbb c a0=true):zmu c a0 (zF c a0) (zX c a0):=wG h
theorem zcG (c:Cur)(a0:Int):0<=(zF c a0).i:=wP λh=>h.2.1.2
theorem zRs (c:Cur)(a0:Int)(h:∃N,Ends (wE (λv0=>aI v0) c.b λv0=>0<a0->0<=v0/\v0<a0)<|zrR N c a0):zbb c a0=true:=wI (λ_ _ h=>h) h
def ztv:zki:=rP1 dI λc b=>(zbb c b,zF c b,[aI<|zX c b])
theorem zEC:zdc Tryz.prog 65 [false,true,true] ztv:=hP1 zgE zbi zQ4 zu (zx []) (λ_ _ h=>(zsF h).1)
theorem ziD {c:Cur}(h:zdZ c)(n:Int):zbb c n=true:=by
 refine zRs c n ⟨0,?_⟩;have k1:=zGg h;have k2:zeA {zdb c with b:=c.b}=true:=zGg (zDS (zma _) h.2);have k3:zeA {zdb {zdb c with b:=c.b} with b:=c.b}=true:=zGg (zDS (zma _) h.2);have k4:zeA {zdb {zdb {zdb c with b:=c.b} with b:=c.b} with b:=c.b}=true:=zGg (zDS (zma _) h.2);have b1:=(zl9 k1).2.2;have b2:=(zl9 k2).2.2;have b3:=(zl9 k3).2.2;have b4:=(zl9 k4).2.2;unfold zrR oN;conv=>zeta
 refine zdm (λh0=>zk7 aI h.1 λhn=>absurd (qD h0) (by omega)) (λh0=>?_);have hn:¬ n<=0:=jQ h0;have hz:ine n 0=true:=(by simp[ine];omega);refine zdm (λh1=>zbT k1 (zbT hz<|zk7 aI (zma _) λhp=>zUL b1.1 hp)) (λh1=>?_);refine zbT k1 (zbT k2<|zbT k3<|zbT k4<|zbT hz<|zk7 aI (zma _) λhp=>zUL ?_ hp);generalize zgB c=x1 at b1;generalize zgB _=x2 at b2;generalize zgB _=x3 at b3;generalize zgB _=x4 at b4;have w1:zlI .i64 x1 16777216=x1*16777216:=zrN (by omega) (by omega);have w2:zlI .i64 x2 65536=x2*65536:=zrN (by omega) (by omega);have w3:zlI .i64 x3 256=x3*256:=zrN (by omega) (by omega);rw[w1,w2,w3,zlC (x:=x1*16777216) (by omega) (by omega),zlC (x:=x1*16777216+x2*65536) (by omega) (by omega),zlC (by omega) (by omega)];omega
def z15:zdI:=[(65,[false,true,true],ztv)]++z14
theorem zE0:zcA z15:=zec zQ4 (by
 intro x hx;simp only[qI,qW,or_false]at hx;rcases hx with rfl
 .exact zEC)
def zt2 (N:Nat)(c:Cur)(a0:Int):OA:=
 (oN (zbb c a0)<|some [.agg [.s .u8 c.b,.i .i64 (zF c a0).i,.i .i64 (zF c a0).h],aB<|ieq (zX c a0) 0])
def zos (c:Cur)(a0:Int)(s:Cur)(v0:Bool):Prop:=(∃N,zt2 N c a0=some (AV.agg (zfp s)::[aB v0]))/\(s.b=c.b/\0<=s.i)/\(True)
def zhl (c:Cur)(a0:Int):Bool:=wC (zos c a0)
def zdz (c:Cur)(a0:Int):Cur:=wS (zos c a0)
def zm9 (c:Cur)(a0:Int):Bool:=wV (zos c a0)
theorem zTi {c:Cur}{a0:Int}(h:zhl c a0=true):zos c a0 (zdz c a0) (zm9 c a0):=wG h
theorem zio (c:Cur)(a0:Int):0<=(zdz c a0).i:=wP λh=>h.2.1.2
theorem zTj (c:Cur)(a0:Int)(h:∃N,Ends (wE (λv0=>aB v0) c.b λv0=>True)<|zt2 N c a0):zhl c a0=true:=wI (λ_ _ h=>h) h
def zvq:zki:=rP1 dI λc b=>(zhl c b,zdz c b,[aB<|zm9 c b])
theorem zHh:zdc Tryz.prog 93 [false,true,true] zvq:=hP1 zgE zbi zE0 zu (zx []) (λ_ _ h=>(zTi h).1)
theorem zQ0 {c:Cur}(h:zdZ c)(n:Int):zhl c n=true:=by refine zTj c n ⟨0,?_⟩;unfold zt2 oN;exact zbT (ziD h _) (zk7 aB (zcG _ _) trivial)
def zoJ (N:Nat)(c:Cur)(a0:List Int):OA:=
 (oN (zbb c<|ln a0)<|oN (inb (zX c<|ln a0)<|ln a0)<|some [.agg [.s .u8 c.b,.i .i64 (zF c<|ln a0).i,.i .i64 (zF c<|ln a0).h],aI<|ix a0 (zX c<|ln a0) 0])
def zkg (c:Cur)(a0:List Int)(s:Cur)(v0:Int):Prop:=(∃N,zoJ N c a0=some (AV.agg (zfp s)::[aI v0]))/\(s.b=c.b/\0<=s.i)/\(0<a0.length->v0∈a0)
def zdO (c:Cur)(a0:List Int):Bool:=wC (zkg c a0)
def zb5 (c:Cur)(a0:List Int):Cur:=wS (zkg c a0)
def zeq (c:Cur)(a0:List Int):Int:=wV (zkg c a0)
theorem zvQ {c:Cur}{a0:List Int}(h:zdO c a0=true):zkg c a0 (zb5 c a0) (zeq c a0):=wG h
theorem zly (c:Cur)(a0:List Int):0<=(zb5 c a0).i:=wP λh=>h.2.1.2
theorem zLb (c:Cur)(a0:List Int)(h:∃N,Ends (wE (λv0=>aI v0) c.b λv0=>0<a0.length->v0∈a0)<|zoJ N c a0):zdO c a0=true:=wI (λ_ _ h=>h) h
def zq8:zki:=rP1 (dS .int) λc b=>(zdO c b,zb5 c b,[aI<|zeq c b])
theorem zzC:zdc Tryz.prog 194 [false,true,true] zq8:=hP1 zgE zbi zE0 zu (zx []) (λ_ _ h=>(zvQ h).1)
theorem zIc {c:Cur}(h:zdZ c){l:List Int}(hl:l≠[]):zdO c l=true:=by refine zLb c l ⟨0,?_⟩;have hp:0<ln l:=(by unfold ln;have:=kN.2 hl;omega);have g:=(zsF<|ziD h<|ln l).2.2 hp;have hb:inb (zX c<|ln l) (ln l)=true:=qJ ⟨g.1,g.2⟩;unfold zoJ oN;exact zbT (ziD h _) (zbT hb<|zk7 aI (zcG _ _) λ_=>zby hb 0)
def z16:zdI:=[(93,[false,true,true],zvq),(194,[false,true,true],zq8)]++z15
theorem zQ5:zcA z16:=zec zE0 (by
 intro x hx;simp only[qI,qW,or_false]at hx;rcases hx with rfl|rfl
 .exact zHh
 .exact zzC)
theorem zfZ {c:Cur}{i k:Int}(h:zdZ c)(h0:0<=i):zdZ ⟨c.b,i,k⟩:=⟨h0,h.2⟩
theorem z3J {c:Cur}(h:zdZ c){l:List Int}(hl:l≠[]):zeq c l∈l:=(zvQ<|zIc h hl).2.2 (kN.2 hl)
theorem zmA {c:Cur}(h:zdZ c){n:Int}(hn:0<n):0<=zX c n/\zX c n<n:=(zsF<|ziD h n).2.2 hn
theorem zHy {o x:Int}(h:(o=1\/o=2\/o=5\/o=6)/\0<=x/\x<=99\/(o=3\/o=4)/\0<=x/\x<=15\/o=8/\0<=x/\x<=11):zeE ⟨o,x⟩=true:=by have w:∀{a b:Int},a<=x->x<=b->zi x a b=true:=λh1 h2=>(by simp only[zi,ige,ile,qE,qY];exact⟨h1,h2⟩);rcases h with⟨h|h|h|h,h1,h2⟩|⟨h|h,h1,h2⟩|⟨h,h1,h2⟩<;>subst h<;>exact w h1 h2
def zvY (N:Nat)(c:Cur)  : OA :=
 let y1:=zeq c [1,2,3,3,3,4,4,4,5,6,8];let y0:=({ (zb5 c [1,2,3,3,3,4,4,4,5,6,8]) with b:=c.b}:Cur); (share (oN (zbb y0 16)<|some [.agg [.s .u8 c.b,.i .i64 (zF y0 16).i,.i .i64 (zF y0 16).h],.agg [.i .i64 y1,.i .i64<|zX y0 16]]) λt1=>share (cond (ieq y1 8) (oN (zbb y0 4)<|some [.agg [.s .u8 c.b,.i .i64 (zF y0 4).i,.i .i64 (zF y0 4).h],.agg [.i .i64 y1,.i .i64<|zX y0 4]])<|oN (zbb y0 100)<|some [.agg [.s .u8 c.b,.i .i64 (zF y0 100).i,.i .i64 (zF y0 100).h],.agg [.i .i64 y1,.i .i64<|zX y0 100]]) λt0=>oN (zdO c [1,2,3,3,3,4,4,4,5,6,8])<|cond (ieq y1 3) (cond (ieq y1 3) t1 t0)<|cond (ieq y1 4) t1 t0)
def zpV (c:Cur)(s:Cur)(v0:Ins):Prop:=(∃N,zvY N c=some (AV.agg (zfp s)::[aT .ins v0]))/\(s.b=c.b/\0<=s.i)/\(zeE v0=true)
def zot (c:Cur)  : Bool:=wC (zpV c)
def zou (c:Cur)  : Cur:=wS (zpV c)
def zwZ (c:Cur)  : Ins:=wV (zpV c)
theorem zIl {c:Cur}(h:zot c=true):zpV c (zou c) (zwZ c):=wG h
theorem zWc (c:Cur)  : 0<=(zou c).i:=wP λh=>h.2.1.2
theorem zWb (c:Cur)(h:∃N,Ends (wE (λv0=>aT .ins v0) c.b λv0=>zeE v0=true)<|zvY N c):zot c=true:=wI (λ_ _ h=>h) h
def zxE:zki:=rP0 λc=>(zot c,zou c,[aT .ins<|zwZ c])
theorem zKb:zdc Tryz.prog 345 [false,true,true] zxE:=hP0 zgE zbi zQ5 zu (zx []) (λ_ h=>(zIl h).1)
theorem z1R {c:Cur}(h:zdZ c):zot c=true:=by
 refine zWb c ⟨0,?_⟩;have hk:([1,2,3,3,3,4,4,4,5,6,8]:List Int)≠[]:=(by simp);have hm:=z3J h hk;have h1:zdZ {zb5 c [1,2,3,3,3,4,4,4,5,6,8] with b:=c.b}:=zfZ h (zly _ _);have b16:=zmA h1 (n:=16) (by omega);have b4:=zmA h1 (n:=4) (by omega);have b100:=zmA h1 (n:=100) (by omega);unfold zvY oN;conv=>zeta
 generalize zeq c [1,2,3,3,3,4,4,4,5,6,8]=o at hm;simp only[qI,qW,or_false]at hm;have no:∀{n:Int},ieq o n=false->o≠n:=λh e=>(by subst e;simp[ieq]at h);have ye:∀{n:Int},ieq o n=true->o=n:=λh=>by simpa [ieq] using h
 have L:∀(n:Int),0<n->(zeE ⟨o,zX {zb5 c [1,2,3,3,3,4,4,4,5,6,8] with b:=c.b} n⟩=true)->Ends (λa=>∃s v0,a=(AV.agg (zfp s)::[aT .ins v0])/\(s.b=c.b/\0<=s.i)/\zeE v0=true)
  (cond (zbb {zb5 c [1,2,3,3,3,4,4,4,5,6,8] with b:=c.b} n) (some (AV.agg [.s .u8 c.b,.i .i64 (zF {zb5 c [1,2,3,3,3,4,4,4,5,6,8] with b:=c.b} n).i,.i .i64 (zF {zb5 c [1,2,3,3,3,4,4,4,5,6,8] with b:=c.b} n).h]::[.agg [.i .i64 o,.i .i64<|zX {zb5 c [1,2,3,3,3,4,4,4,5,6,8] with b:=c.b} n]])) none):=
  λn hn hi=>zbT (ziD h1 n) (zk7 (aT .ins) (v:=⟨o,zX _ n⟩) (zcG _ _) hi)
 refine zbT (zIc h hk) (zdm (λh3=>zdm (λ_=>L 16 (by omega) (zHy ?_)) λh4=>absurd (ye h3) (no h4)) λh3=>zdm (λh4=>L 16 (by omega) (zHy ?_)) λh4=>zdm (λh8=>L 4 (by omega) (zHy ?_)) λh8=>L 100 (by omega) (zHy ?_));{have:=ye h3;omega};{have:=ye h4;omega};{have:=ye h8;omega};{have:=no h3;have:=no h4;have:=no h8;omega}
def z18:zdI:=[(345,[false,true,true],zxE)]++z16
theorem zQ6:zcA z18:=zec zQ5 (by
 intro x hx;simp only[qI,qW,or_false]at hx;rcases hx with rfl
 .exact zKb)
theorem znd {x y:Int}(h0:0<=x)(h1:x<=1000000)(h2:0<=y)(h3:y<=1000000):zD .i64 x y=x+y:=zlC (by omega) (by omega)
theorem zu0 {α:Type}{l:List α}(h:ln l<=1000000):few (ln l)=true:=qJ ⟨by unfold ln;omega,by omega⟩
theorem zpC {α:Type}(l:List α)(x:α):ln (ap l [x])=ln l+1:=by simp[ln,ap]
def zt3 (N:Nat)(c:Cur)  : OA :=
 (iter (σ:=(Int×Int×Int×lI×(List Int)×Unit)) N (λr2 s3=>let y3:=s3.2.2.2.1;let y2:=s3.2.2.2.2.1;let y1:=(⟨y2,s3.2.1,s3.2.2.1⟩:Cur);let y0:=({ (zF y1 7) with b:=y2}:Cur); (oN (zbb y1 7)<|cond (ilt s3.1<|zD .i64 2<|zX y1 7) (oN (zot y0)<|oN (few<|ln<|ap y3 [zwZ y0])<|r2 (zD .i64 s3.1 1,(zou y0).i,(zou y0).h,ap y3 [zwZ y0],y2,()))<|oN (zhl y0 3)<|cond (zm9 y0 3) (oN (few<|ln<|ap y3 [(⟨7,0⟩:Ins)])<|some [.agg [.s .u8 y2,.i .i64 (zdz y0 3).i,.i .i64 (zdz y0 3).h],aS .ins<|ap y3 [(⟨7,0⟩:Ins)]])<|oN (few<|ln<|ap y3 [(⟨8,0⟩:Ins)])<|some [.agg [.s .u8 y2,.i .i64 (zdz y0 3).i,.i .i64 (zdz y0 3).h],aS .ins<|ap y3 [(⟨8,0⟩:Ins)]])) (0,c.i,c.h,[],c.b,()))
def zOr:=zx [(283,0,{n:=29,tm:=[(0,.lp 0 0),(3,.sl 0 []),(4,ti)],lo:=[(0,[.sl 1 [],ti,ti])],ro:=[(0,.ins,true),(1,.u8,false)]})]
def zov (c:Cur)(s:Cur)(v0:List Ins):Prop:=(∃N,zt3 N c=some (AV.agg (zfp s)::[aS .ins v0]))/\(s.b=c.b/\0<=s.i)/\(zdr v0=true)
def zj0 (c:Cur)  : Bool:=wC (zov c)
def zj1 (c:Cur)  : Cur:=wS (zov c)
def zqr (c:Cur)  : List Ins:=wV (zov c)
theorem zDf {c:Cur}(h:zj0 c=true):zov c (zj1 c) (zqr c):=wG h
theorem zTl (c:Cur)  : 0<=(zj1 c).i:=wP λh=>h.2.1.2
theorem zTk (c:Cur)(h:∃N,Ends (wE (λv0=>aS .ins v0) c.b λv0=>zdr v0=true)<|zt3 N c):zj0 c=true:=wI (λ_ _ h=>h) h
def zvr:zki:=rP0 λc=>(zj0 c,zj1 c,[aS .ins<|zqr c])
theorem zHk:zdc Tryz.prog 283 [false,true,true] zvr:=hP0 zgE zbi zQ6 zu zOr (λ_ h=>(zDf h).1)
theorem zYm {c:Cur}(h:zdZ c):zj0 c=true:=by
 refine zTk c ⟨9,?_⟩;unfold zt3 oN;conv=>zeta
 refine zp9 (λn s=>s.1+(n:Int)=8/\0<=s.1/\0<=s.2.1/\(∀x∈s.2.2.2.1,zeE x=true)/\ln s.2.2.2.1=s.1/\s.2.2.2.2.1=c.b) ?_ 9 8 _ ⟨rfl,kY 0,h.1,by simp,rfl,rfl⟩ (by omega);rintro n ⟨t,i,k,l,b,u⟩ rec ⟨h1,h2,h3,h4,h5,h6⟩ hrec;dsimp only at h1 h2 h3 h4 h5 h6 ⊢;subst h6;have hcur:zdZ ⟨c.b,i,k⟩:=zfZ h h3;have hx:=zmA hcur (n:=7) (by omega);have hw:=znd (x:=2) (by omega) (by omega) hx.1 (by omega);have h7:zdZ {zF ⟨c.b,i,k⟩ 7 with b:=c.b}:=zfZ h (zcG _ _);have fin:∀(y:Ins),zeE y=true->2<=t->zdr (ap l [y])=true:=(by intro y hy ht;unfold zdr;rw[zpC,h5];have:(ap l [y]).all zeE=true:=(by simp only[ap,List.all_append,kU,List.all_nil,vC,qE];exact⟨qM.2 h4,hy⟩);rw[this,cT];simp only[zi,ige,ile,qE,qY];omega);refine zbT (ziD hcur 7) (zdm (λhc=>?_) λhc=>?_);{have hlt:t<zD .i64 2 (zX ⟨c.b,i,k⟩ 7):=qD hc;rw[hw]at hlt;refine zbT (z1R h7) (zbT (zu0 (by rw[zpC];omega))<|hrec (n-1) _ (by omega) ⟨?_,?_,zWc _,?_,?_,rfl⟩);{show zD .i64 t 1+_=8;rw[znd h2 (by omega) (by omega) (by omega)];omega};{show 0<=zD .i64 t 1;rw[znd h2 (by omega) (by omega) (by omega)];omega};{intro x hx;rcases jI.1 hx with hx|hx;{exact h4 x hx};{rw [qF.1 hx];exact(zIl<|z1R h7).2.2}};{show ln (ap l [_])=zD .i64 t 1;rw[zpC,znd h2 (by omega) (by omega) (by omega)];omega}};{have hge:¬ t<zD .i64 2 (zX ⟨c.b,i,k⟩ 7):=jQ hc;rw[hw]at hge;refine zbT (zQ0 h7 3) (zdm (λ_=>zbT (zu0 (by rw[zpC];omega)) (zk7 (aS .ins) (zio _ _) (fin _ rfl (by omega)))) λ_=>zbT (zu0 (by rw[zpC];omega)) (zk7 (aS .ins) (zio _ _) (fin _ rfl (by omega))))}
def z19:zdI:=[(283,[false,true,true],zvr)]++z18
theorem zQ7:zcA z19:=zec zQ6 (by
 intro x hx;simp only[qI,qW,or_false]at hx;rcases hx with rfl
 .exact zHk)
theorem zSi {α:Type}{c:Cur}(h:zdZ c){P:α->Prop}{fc:Cur->Bool}{fs:Cur->Cur}{fv:Cur->α}(hf:∀{c:Cur},zdZ c->fc c=true)(hp:∀c,0<=(fs c).i)(hg:∀{c:Cur},zdZ c->P (fv c)){G:Ans->Prop}{R:Cur->List α->Ans}(hG:∀s l,s.b=c.b->0<=s.i->1<=l.length->l.length<=2->(∀x∈l,P x)->G (R s l)){F:(Int×Int×Int×List α×List Int×Unit->OA)->Int×Int×Int×List α×List Int×Unit->OA}(hF:∀rec t i k l,F rec (t,i,k,l,c.b,())=bif zbb ⟨c.b,i,k⟩ 2 then (bif ilt t (zD .i64 1 (zX ⟨c.b,i,k⟩ 2)) then (bif fc { zF ⟨c.b,i,k⟩ 2 with b:=c.b } then (bif few (ln (ap l [fv { zF ⟨c.b,i,k⟩ 2 with b:=c.b }])) then
        rec (zD .i64 t 1,(fs {zF ⟨c.b,i,k⟩ 2 with b:=c.b}).i,(fs {zF ⟨c.b,i,k⟩ 2 with b:=c.b}).h,ap l [fv {zF ⟨c.b,i,k⟩ 2 with b:=c.b}],c.b,()) else none) else none) else some (R ⟨c.b,(zF ⟨c.b,i,k⟩ 2).i,(zF ⟨c.b,i,k⟩ 2).h⟩ l)) else none) :
 Ends G (iter 3 F (0,c.i,c.h,[],c.b,())):=by
 refine zp9 (fun n s=>s.1+(n:Int)=2/\0<=s.1/\0<=s.2.1/\(∀x∈s.2.2.2.1,P x)/\ln s.2.2.2.1=s.1/\s.2.2.2.2.1=c.b) ?_ 3 2 _ ⟨rfl,kY 0,h.1,by simp,rfl,rfl⟩ (by omega)
 rintro n ⟨t,i,k,l,b,u⟩ rec ⟨h1,h2,h3,h4,h5,h6⟩ hrec
 dsimp only at h1 h2 h3 h4 h5 h6
 subst h6;rw[hF];have hcur:zdZ ⟨c.b,i,k⟩:=zfZ h h3;have hx:=zmA hcur (n:=2) (by omega)
 have hw:=znd (x:=1) (by omega) (by omega) hx.1 (by omega)
 have h7:zdZ {zF ⟨c.b,i,k⟩ 2 with b:=c.b}:=zfZ h (zcG _ _);refine zbT (ziD hcur 2) (zdm (fun hc=>?_) (fun hc=>?_))
 .have hlt:t<zD .i64 1 (zX ⟨c.b,i,k⟩ 2):=qD hc;rw[hw]at hlt;have ht:=znd (y:=1) h2 (by omega) (by omega) (by omega)
  refine zbT (hf h7) (zbT (zu0 (by rw[zpC];omega)) (hrec (n-1) _ (by omega) ⟨?_,?_,hp _,?_,?_,rfl⟩))
  .show zD .i64 t 1+_=2
   omega
  .show 0<=zD .i64 t 1
   omega
  .intro x hx;rcases jI.1 hx with hx|hx
   .exact h4 x hx
   .rw [qF.1 hx];exact hg h7
  .show ln (ap l [_])=zD .i64 t 1
   rw[zpC];omega
 .have hge:¬ t<zD .i64 1 (zX ⟨c.b,i,k⟩ 2):=jQ hc;rw[hw]at hge;unfold ln at h5;exact zGo (hG _ l rfl (zcG _ _) (by omega) (by omega) h4)
def zrS (N:Nat)(c:Cur)  : OA :=
 (iter (σ:=(Int×Int×Int×lP×(List Int)×Unit)) N (λr2 s3=>let y2:=s3.2.2.2.2.1;let y1:=(⟨y2,s3.2.1,s3.2.2.1⟩:Cur);let y0:=({ (zF y1 2) with b:=y2}:Cur); (oN (zbb y1 2)<|cond (ilt s3.1<|zD .i64 1<|zX y1 2) (oN (zj0 y0)<|oN (few<|ln<|ap s3.2.2.2.1 [zqr y0])<|r2 (zD .i64 s3.1 1,(zj1 y0).i,(zj1 y0).h,ap s3.2.2.2.1 [zqr y0],y2,()))<|some [.agg [.s .u8 y2,.i .i64 (zF y1 2).i,.i .i64 (zF y1 2).h],aS (.sl .ins) s3.2.2.2.1])) (0,c.i,c.h,[],c.b,()))
def zLt:=zx [(190,0,{n:=19,tm:=[(0,.lp 0 0),(3,.sl 0 []),(4,ti)],lo:=[(0,[.sl 1 [],ti,ti])],ro:=[(0,.sl .ins,true),(1,.u8,false)]})]
def zmv (c:Cur)(s:Cur)(v0:List (List Ins)):Prop:=(∃N,zrS N c=some (AV.agg (zfp s)::[aS (.sl .ins) v0]))/\(s.b=c.b/\0<=s.i)/\(1<=v0.length/\v0.length<=2/\∀x∈v0,zdr x=true)
def ziX (c:Cur)  : Bool:=wC (zmv c)
def ziY (c:Cur)  : Cur:=wS (zmv c)
def zox (c:Cur)  : List (List Ins):=wV (zmv c)
theorem zAn {c:Cur}(h:ziX c=true):zmv c (ziY c) (zox c):=wG h
theorem zRu (c:Cur)  : 0<=(ziY c).i:=wP λh=>h.2.1.2
theorem zRt (c:Cur)(h:∃N,Ends (wE (λv0=>aS (.sl .ins) v0) c.b λv0=>1<=v0.length/\v0.length<=2/\∀x∈v0,zdr x=true)<|zrS N c):ziX c=true:=wI (λ_ _ h=>h) h
def ztw:zki:=rP0 λc=>(ziX c,ziY c,[aS (.sl .ins)<|zox c])
theorem zED:zdc Tryz.prog 190 [false,true,true] ztw:=hP0 zgE zbi zQ7 zu zLt (λ_ h=>(zAn h).1)
theorem zUj {c:Cur}(h:zdZ c):ziX c=true:=by
 refine zRt c ⟨3,?_⟩;unfold zrS oN;conv=>zeta
 exact zSi h (P:=λx=>zdr x=true) (fc:=zj0) (fs:=zj1) (fv:=zqr) (R:=λs l=>AV.agg (zfp s)::[aS (.sl .ins) l]) zYm zTl (λh=>(zDf<|zYm h).2.2) (λs l hb hi h1 h2 hl=>⟨s,l,rfl,⟨hb,hi⟩,h1,h2,hl⟩) (λrec t i k l=>rfl)
def z2a:zdI:=[(190,[false,true,true],ztw)]++z19
theorem zQ8:zcA z2a:=zec zQ7 (by
 intro x hx;simp only[qI,qW,or_false]at hx;rcases hx with rfl
 .exact zED)
def zv0 (N:Nat)(c:Cur)  : OA :=
 (iter (σ:=(Int×Int×Int×lQ×(List Int)×Unit)) N (λr2 s3=>let y2:=s3.2.2.2.2.1;let y1:=(⟨y2,s3.2.1,s3.2.2.1⟩:Cur);let y0:=({ (zF y1 2) with b:=y2}:Cur); (oN (zbb y1 2)<|cond (ilt s3.1<|zD .i64 1<|zX y1 2) (oN (ziX y0)<|oN (few<|ln<|ap s3.2.2.2.1 [zox y0])<|r2 (zD .i64 s3.1 1,(ziY y0).i,(ziY y0).h,ap s3.2.2.2.1 [zox y0],y2,()))<|some [.agg [.s .u8 y2,.i .i64 (zF y1 2).i,.i .i64 (zF y1 2).h],aS (.sl<|.sl .ins) s3.2.2.2.1])) (0,c.i,c.h,[],c.b,()))
def zSd:=zx [(91,0,{n:=19,tm:=[(0,.lp 0 0),(3,.sl 0 []),(4,ti)],lo:=[(0,[.sl 1 [],ti,ti])],ro:=[(0,.sl<|.sl .ins,true),(1,.u8,false)]})]
def zpX (c:Cur)(s:Cur)(v0:List (List<|List Ins)):Prop:=(∃N,zv0 N c=some (AV.agg (zfp s)::[aS (.sl<|.sl .ins) v0]))/\(s.b=c.b/\0<=s.i)/\(1<=v0.length/\v0.length<=2/\∀p∈v0,1<=p.length/\p.length<=2/\∀x∈p,zdr x=true)
def zoy (c:Cur)  : Bool:=wC (zpX c)
def zlz (c:Cur)  : Cur:=wS (zpX c)
def zsG (c:Cur)  : List (List<|List Ins):=wV (zpX c)
theorem zIm {c:Cur}(h:zoy c=true):zpX c (zlz c) (zsG c):=wG h
theorem zWh (c:Cur)  : 0<=(zlz c).i:=wP λh=>h.2.1.2
theorem zWg (c:Cur)(h:∃N,Ends (wE (λv0=>aS (.sl<|.sl .ins) v0) c.b λv0=>1<=v0.length/\v0.length<=2/\∀p∈v0,1<=p.length/\p.length<=2/\∀x∈p,zdr x=true)<|zv0 N c):zoy c=true:=wI (λ_ _ h=>h) h
def zxG:zki:=rP0 λc=>(zoy c,zlz c,[aS (.sl<|.sl .ins)<|zsG c])
theorem zKd:zdc Tryz.prog 91 [false,true,true] zxG:=hP0 zgE zbi zQ8 zu zSd (λ_ h=>(zIm h).1)
theorem z0L {c:Cur}(h:zdZ c):zoy c=true:=by
 refine zWg c ⟨3,?_⟩;unfold zv0 oN;conv=>zeta
 exact zSi h (P:=λp=>1<=p.length/\p.length<=2/\∀x∈p,zdr x=true) (fc:=ziX) (fs:=ziY) (fv:=zox) (R:=λs l=>AV.agg (zfp s)::[aS (.sl<|.sl .ins) l]) zUj zRu (λh=>(zAn<|zUj h).2.2) (λs l hb hi h1 h2 hl=>⟨s,l,rfl,⟨hb,hi⟩,h1,h2,hl⟩) (λrec t i k l=>rfl)
def z2c:zdI:=[(91,[false,true,true],zxG)]++z2a
theorem zQ9:zcA z2c:=zec zQ8 (by
 intro x hx;simp only[qI,qW,or_false]at hx;rcases hx with rfl
 .exact zKd)
theorem zAM {ρ:Type}{G:ρ->Prop}{x:Bool}{a b:Option ρ}(k:Ends G a)(h:x=true:=by first
 |exact ziD (by first|assumption|exact zfZ (by assumption) (zcG _ _)|exact zfZ (by assumption) (zio _ _)|exact zfZ (by assumption) (zly _ _)) _
 |exact zQ0 (by first|assumption|exact zfZ (by assumption) (zcG _ _)|exact zfZ (by assumption) (zio _ _)) _
 |exact zIc (by first|assumption|exact zfZ (by assumption) (zcG _ _)) (by simp)):Ends G (cond x a b):=zbT h k
def zvZ (N:Nat)(c:Cur)  : OA :=
 let y5:=zX c 4;let y0:=({ (zF c 4) with b:=c.b}:Cur);let y4:=zm9 y0 4;let y3:=zdz y0 4;let y1:=({y3 with b:=c.b}:Cur);let y2:=({ (zdz y1 2) with b:=c.b}:Cur); (oN (zbb c 4)<|oN (zhl y0 4)<|cond (nB y4) (cond (ine y5 2) (oN (zhl y1 2)<|cond (zm9 y1 2) (oN (zbb y2 256)<|some [.agg [.s .u8 c.b,.i .i64 (zF y2 256).i,.i .i64 (zF y2 256).h],.agg [.i .i64 y5,.i .i64<|zX y2 256,.b<|nB y4]])<|some [.agg [.s .u8 c.b,.i .i64 (zdz y1 2).i,.i .i64 (zdz y1 2).h],.agg [.i .i64 y5,.i .i64 0,.b<|nB y4]])<|some [.agg [.s .u8 c.b,.i .i64 y3.i,.i .i64 y3.h],.agg [.i .i64 y5,.i .i64 0,.b<|nB y4]])<|some [.agg [.s .u8 c.b,.i .i64 y3.i,.i .i64 y3.h],.agg [.i .i64 y5,.i .i64 0,.b<|nB y4]])
def zpW (c:Cur)(s:Cur)(v0:Ctl):Prop:=(∃N,zvZ N c=some (AV.agg (zfp s)::[.agg<|zwc v0]))/\(s.b=c.b/\0<=s.i)/\(True)
def zow (c:Cur)  : Bool:=wC (zpW c)
def zjw (c:Cur)  : Cur:=wS (zpW c)
def zmO (c:Cur)  : Ctl:=wV (zpW c)
theorem zWd {c:Cur}(h:zow c=true):zpW c (zjw c) (zmO c):=wG h
theorem zWf (c:Cur)  : 0<=(zjw c).i:=wP λh=>h.2.1.2
theorem zWe (c:Cur)(h:∃N,Ends (wE (λv0=>.agg (zwc v0)) c.b λv0=>True)<|zvZ N c):zow c=true:=wI (λ_ _ h=>h) h
def zxF:zki:=rP0 λc=>(zow c,zjw c,[.agg<|zwc<|zmO c])
theorem zKc:zdc Tryz.prog 284 [false,true,true] zxF:=hP0 zgE zbi zQ9 zu (zx []) (λ_ h=>(zWd h).1)
theorem z5t {c:Cur}(h:zdZ c):zow c=true:=by
 refine zWe c ⟨0,?_⟩;unfold zvZ oN nB;conv=>zeta
 refine zAM (zAM<|zdm (λ_=>zdm (λ_=>zAM (zdm (λ_=>zAM (?_)) λ_=>?_)) λ_=>?_) λ_=>?_);all_goals exact zk7 (λx=>AV.agg (zwc x)) (v:=⟨_,_,_⟩) (by first|exact zcG _ _|exact zio _ _) trivial
def z2d:zdI:=[(284,[false,true,true],zxF)]++z2c
theorem zE1:zcA z2d:=zec zQ9 (by
 intro x hx;simp only[qI,qW,or_false]at hx;rcases hx with rfl
 .exact zKc)
theorem zd6 {ρ:Type}{G:ρ->Prop}{x:Bool}{a b:Option ρ}(k:Ends G a)(h:x=true:=by first
 |exact ziD (by first|assumption|exact zfZ (by assumption) (zcG _ _)|exact zfZ (by assumption) (zly _ _)) _
 |exact zIc (by first|assumption|exact zfZ (by assumption) (zcG _ _)) (by simp)
 |exact z5t (zfZ (by assumption)<|zcG _ _)):Ends G (cond x a b):=zbT h k
def zv2 (N:Nat)(c:Cur)  : OA :=
 let y13:=({ (zF c 2) with b:=c.b}:Cur);let y8:=zX c 2;let y2:=zX y13 2;let y1:=({ (zF y13 2) with b:=c.b}:Cur);let y10:=zF y1 24;let y5:=zX y1 24;let y0:=({y10 with b:=c.b}:Cur);let y14:=zF y0 8;let y12:=({ (zF y0 4) with b:=c.b}:Cur);let y11:=({y14 with b:=c.b}:Cur);let y9:=({ (zF y0 16) with b:=c.b}:Cur);let y7:=({ (zb5 y0 [16,17]) with b:=c.b}:Cur);let y6:=({ (zb5 y0 [13,13,14,15]) with b:=c.b}:Cur);let y4:=({ (zF y11 4) with b:=c.b}:Cur);let y3:=({ (zF y12 8) with b:=c.b}:Cur); (share (oN (zdO y0 [13,13,14,15])<|oN (zbb y6 8)<|some [.agg [.s .u8 c.b,.i .i64 (zF y6 8).i,.i .i64 (zF y6 8).h],.agg [.i .i64<|zeq y0 [13,13,14,15],.i .i64 y8,.i .i64 y2,.i .i64<|zX y6 8,.i .i64 0,.i .i64 0]]) λt5=>share (cond (ieq y5 16) (oN (zdO y0 [16,17])<|oN (zbb y7 4)<|some [.agg [.s .u8 c.b,.i .i64 (zF y7 4).i,.i .i64 (zF y7 4).h],.agg [.i .i64<|zeq y0 [16,17],.i .i64 y8,.i .i64 y2,.i .i64<|zX y7 4,.i .i64 0,.i .i64 0]])<|some [.agg [.s .u8 c.b,.i .i64 y10.i,.i .i64 y10.h],.agg [.i .i64 1,.i .i64 y8,.i .i64 y2,.i .i64 0,.i .i64 0,.i .i64 0]]) λt4=>share (oN (zbb y0 4)<|oN (zbb y12 8)<|oN (zdO y3 [3,3,1,2])<|some [.agg [.s .u8 c.b,.i .i64 (zb5 y3 [3,3,1,2]).i,.i .i64 (zb5 y3 [3,3,1,2]).h],.agg [.i .i64 2,.i .i64 y8,.i .i64 y2,.i .i64<|zX y0 4,.i .i64<|zX y12 8,.i .i64<|zeq y3 [3,3,1,2]]]) λt3=>share (oN (zbb y0 4)<|some [.agg [.s .u8 c.b,.i .i64 (zF y0 4).i,.i .i64 (zF y0 4).h],.agg [.i .i64 3,.i .i64 y8,.i .i64 y2,.i .i64<|zX y0 4,.i .i64 0,.i .i64 0]]) λt2=>share (cond (ieq y5 7) (oN (zbb y0 8)<|some [.agg [.s .u8 c.b,.i .i64 y14.i,.i .i64 y14.h],.agg [.i .i64 6,.i .i64 y8,.i .i64 y2,.i .i64<|zX y0 8,.i .i64 0,.i .i64 0]])<|cond (ieq y5 8) (oN (zow y0)<|cond ((zmO y0).Open) (some [.agg [.s .u8 c.b,.i .i64 (zjw y0).i,.i .i64 (zjw y0).h],.agg [.i .i64 7,.i .i64 y8,.i .i64 y2,.i .i64 (zmO y0).Traps,.i .i64 (zmO y0).Post,.i .i64 1]])<|some [.agg [.s .u8 c.b,.i .i64 (zjw y0).i,.i .i64 (zjw y0).h],.agg [.i .i64 7,.i .i64 y8,.i .i64 y2,.i .i64 (zmO y0).Traps,.i .i64 (zmO y0).Post,.i .i64 0]])<|cond (ieq y5 9) (oN (zbb y0 8)<|oN (zbb y11 4)<|oN (zbb y4 100)<|some [.agg [.s .u8 c.b,.i .i64 (zF y4 100).i,.i .i64 (zF y4 100).h],.agg [.i .i64 8,.i .i64 y8,.i .i64 y2,.i .i64<|zX y0 8,.i .i64<|zX y11 4,.i .i64<|zX y4 100]])<|cond (ieq y5 10) (oN (zbb y0 8)<|some [.agg [.s .u8 c.b,.i .i64 y14.i,.i .i64 y14.h],.agg [.i .i64 9,.i .i64 y8,.i .i64 y2,.i .i64<|zX y0 8,.i .i64 0,.i .i64 0]])<|cond (ieq y5 11) (some [.agg [.s .u8 c.b,.i .i64 y10.i,.i .i64 y10.h],.agg [.i .i64 10,.i .i64 y8,.i .i64 y2,.i .i64 0,.i .i64 0,.i .i64 0]])<|cond (ieq y5 12) (oN (zbb y0 16)<|oN (zbb y9 100)<|some [.agg [.s .u8 c.b,.i .i64 (zF y9 100).i,.i .i64 (zF y9 100).h],.agg [.i .i64 11,.i .i64 y8,.i .i64 y2,.i .i64<|zX y0 16,.i .i64<|zX y9 100,.i .i64 0]])<|cond (ieq y5 13) (oN (zbb y0 16)<|some [.agg [.s .u8 c.b,.i .i64 (zF y0 16).i,.i .i64 (zF y0 16).h],.agg [.i .i64 12,.i .i64 y8,.i .i64 y2,.i .i64<|zX y0 16,.i .i64 0,.i .i64 0]])<|cond (ieq y5 14) (cond (ieq y5 14) t5 t4)<|cond (ieq y5 15) t5 t4) λt0=>share (cond (ieq y5 4) (oN (zbb y0 100)<|some [.agg [.s .u8 c.b,.i .i64 (zF y0 100).i,.i .i64 (zF y0 100).h],.agg [.i .i64 4,.i .i64 y8,.i .i64 y2,.i .i64<|zX y0 100,.i .i64 0,.i .i64 0]])<|cond (ieq y5 5) (cond (ieq y5 5) (some [.agg [.s .u8 c.b,.i .i64 y10.i,.i .i64 y10.h],.agg [.i .i64 5,.i .i64 y8,.i .i64 y2,.i .i64 0,.i .i64 0,.i .i64 0]]) t0)<|cond (ieq y5 6) (some [.agg [.s .u8 c.b,.i .i64 y10.i,.i .i64 y10.h],.agg [.i .i64 5,.i .i64 y8,.i .i64 y2,.i .i64 0,.i .i64 0,.i .i64 0]]) t0) λt1=>share (cond (ieq y5 2) (cond (ieq y5 2) t2 t1)<|cond (ieq y5 3) t2 t1) λt6=>oN (zbb c 2)<|oN (zbb y13 2)<|oN (zbb y1 24)<|cond (ieq y5 0) (cond (ieq y5 0) t3 t6)<|cond (ieq y5 1) t3 t6)
def zpY (c:Cur)(s:Cur)(v0:GAct):Prop:=(∃N,zv2 N c=some (AV.agg (zfp s)::[aT .act v0]))/\(s.b=c.b/\0<=s.i)/\(True)
def zic (c:Cur)  : Bool:=wC (zpY c)
def zgo (c:Cur)  : Cur:=wS (zpY c)
def zmQ (c:Cur)  : GAct:=wV (zpY c)
theorem zWi {c:Cur}(h:zic c=true):zpY c (zgo c) (zmQ c):=wG h
theorem zWk (c:Cur)  : 0<=(zgo c).i:=wP λh=>h.2.1.2
theorem zWj (c:Cur)(h:∃N,Ends (wE (λv0=>aT .act v0) c.b λv0=>True)<|zv2 N c):zic c=true:=wI (λ_ _ h=>h) h
def zxH:zki:=rP0 λc=>(zic c,zgo c,[aT .act<|zmQ c])
theorem zKh:zdc Tryz.prog 192 [false,true,true] zxH:=hP0 zgE zbi zE1 zu (zx []) (λ_ h=>(zWi h).1)
theorem z5q {c:Cur}(h:zdZ c):zic c=true:=by
 refine zWj c ⟨0,?_⟩;unfold zv2 oN;conv=>zeta
 refine zmD (zd6<|zd6<|?_) (λ_ ht5=>zmD (zdm (λ_=>zd6 (zd6<|?_)) λ_=>?_) λ_ ht4=>zmD (zd6<|zd6<|zd6<|?_) λ_ ht3=>zmD (zd6<|?_) λ_ ht2=>zmD (zdm (λ_=>zd6 (?_)) λ_=>zdm (λ_=>zd6 (zdm (λ_=>?_) λ_=>?_)) λ_=>zdm (λ_=>zd6 (zd6<|zd6<|?_)) λ_=>zdm (λ_=>zd6 (?_)) λ_=>zdm (λ_=>?_) λ_=>zdm (λ_=>zd6 (zd6<|?_)) λ_=>zdm (λ_=>zd6 (?_)) λ_=>zdm (λ_=>zdm (λ_=>ht5) λ_=>ht4) λ_=>zdm (λ_=>ht5) λ_=>ht4) λ_ ht0=>zmD (zdm (λ_=>zd6 (?_)) λ_=>zdm (λ_=>zdm (λ_=>?_) λ_=>ht0) λ_=>zdm (λ_=>?_) λ_=>ht0) λ_ ht1=>zmD (zdm (λ_=>zdm (λ_=>ht2) λ_=>ht1) λ_=>zdm (λ_=>ht2) λ_=>ht1) λ_ ht6=>zd6 (zd6<|zd6<|zdm (λ_=>zdm (λ_=>ht3) λ_=>ht6) λ_=>zdm (λ_=>ht3) λ_=>ht6));all_goals exact zk7 (aT .act) (v:=⟨_,_,_,_,_,_⟩) (by first|exact zcG _ _|exact zly _ _|exact zWf _) trivial
def zkh (N:Nat)  : OA :=
 (iter (σ:=(Int×lA×Unit)) N (λr1 s2=>cond (ilt s2.1 2) (iter (σ:=(Int×Int×lA×Unit)) N (λr3 s4=>cond (ilt s4.2.1 2) (iter (σ:=(Int×Int×Int×lA×Unit)) N (λr5 s6=>let y0:=ap s6.2.2.2.1 [(⟨2,s6.1,s6.2.1,s6.2.2.1,zD .i64 s6.2.2.1<|zlI .i64 3 s6.2.1,3⟩:GAct),(⟨3,s6.1,s6.2.1,s6.2.2.1,0,0⟩:GAct)]; (cond (ilt s6.2.2.1 3) (oN (few<|ln y0)<|r5 (s6.1,s6.2.1,zD .i64 s6.2.2.1 1,y0,()))<|r3 (s6.1,zD .i64 s6.2.1 1,s6.2.2.2.1,()))) (s4.1,s4.2.1,0,s4.2.2.1,()))<|r1 (zD .i64 s4.1 1,s4.2.2.1,())) (s2.1,0,s2.2.1,()))<|some [aS .act s2.2.1]) (0,[],()))
def zLu:=zx [(191,0,{n:=34,tm:=[(1,.sl 0 []),(2,ti)],lo:=[],ro:=[(0,.act,true)]}),(191,2,{n:=34,tm:=[(1,.sl 0 []),(2,ti),(3,ti)],lo:=[],ro:=[(0,.act,true)]}),(191,4,{n:=34,tm:=[(1,.sl 0 []),(2,ti),(3,ti),(4,ti)],lo:=[],ro:=[(0,.act,true)]})]
def zqY  (v0:List GAct):Prop:=(∃N,zkh N=some [aS .act v0])/\(v0.length<=45)
def zi0  : Bool:=uC (T:=List GAct) (λr=>zqY r)
def zRx  : List GAct:=uV (λr=>zqY r)
def zrz  : List GAct:=(zRx)
theorem zAp  (h:zi0=true):zqY zrz:=uG h
theorem zRw  (h:∃N,Ends (λa=>∃v0,a=[aS .act v0]/\(v0.length<=45))<|zkh N):zi0=true:=by obtain⟨N,a,e,v0,rfl,h⟩:=h;exact zbp ⟨v0,⟨N,e⟩,h⟩
def zvL:Run:=rF0 (zi0,[aS .act zrz])
theorem zKS  (hc:zi0=true):∃N,zkh N  = some [aS .act zrz]:=by exact(zAp hc).1
theorem zEE:vJ 191 zvL:=kF0 zgE zbi zE1 zu zLu zKS
def zWS:List GAct:=match zkh 10 with
 |some [.one<|.s .act l]=>l
 |_=>[]
theorem zTM:zi0=true:=zRw ⟨10,_,(by kernel_rfl:zkh 10=some [aS .act zWS]),zWS,rfl,Nat.le_of_ble_eq_true (by kernel_rfl)⟩
def z2e:zdI:=[(192,[false,true,true],zxH)]++z2d
theorem zRa:zcA z2e:=zec zE1 (by
 intro x hx;simp only[qI,qW,or_false]at hx;rcases hx with rfl
 .exact zKh)
def z4w:zS:=[(191,zvL)]++zU4
theorem zWW:zL z4w:=zh zEE zgE
theorem zMs {c:Cur}(h:zdZ c){m:Int}(h0:0<=m)(hm:m<=1000){G:Ans->Prop}{R:Cur->List GAct->Ans}(hG:∀s l,s.b=c.b->0<=s.i->ln l<=45+m->G (R s l)){F:(Int×Int×Int×Int×List GAct×List Int×Unit->OA)->Int×Int×Int×Int×List GAct×List Int×Unit->OA}(hF:∀rec t i k l,F rec (m,t,i,k,l,c.b,())=bif zbb ⟨c.b,i,k⟩ (zD .i64 m 1) then (bif ilt t (zX ⟨c.b,i,k⟩ (zD .i64 m 1)) then (bif zic { zF ⟨c.b,i,k⟩ (zD .i64 m 1) with b:=c.b } then (bif few (ln (ap l [zmQ { zF ⟨c.b,i,k⟩ (zD .i64 m 1) with b:=c.b }])) then
        rec (m,zD .i64 t 1,(zgo {zF ⟨c.b,i,k⟩ (zD .i64 m 1) with b:=c.b}).i,(zgo {zF ⟨c.b,i,k⟩ (zD .i64 m 1) with b:=c.b}).h,ap l [zmQ {zF ⟨c.b,i,k⟩ (zD .i64 m 1) with b:=c.b}],c.b,()) else none) else none) else some (R ⟨c.b,(zF ⟨c.b,i,k⟩ (zD .i64 m 1)).i,(zF ⟨c.b,i,k⟩ (zD .i64 m 1)).h⟩ l)) else none){i0 k0:Int}(hi0:0<=i0){l0:List GAct}(hl0:l0.length<=45):Ends G (iter 1002 F (m,0,i0,k0,l0,c.b,())):=by
 refine zp9 (fun n s=>s.1=m/\s.2.1+(n:Int)=1000/\0<=s.2.1/\0<=s.2.2.1/\(ln s.2.2.2.2.1<=45+s.2.1/\s.2.1<=m)/\s.2.2.2.2.2.1=c.b) ?_ 1002 1000 _ ⟨rfl,rfl,kY 0,hi0,⟨by unfold ln;show ((l0.length:Nat):Int)<=45+0;omega,h0⟩,rfl⟩ (by omega)
 rintro n ⟨q,t,i,k,l,b,u⟩ rec ⟨h0,h1,h2,h3,⟨h5,hq⟩,h6⟩ hrec
 dsimp only at h0 h1 h2 h3 h5 h6 hq
 subst h6;subst h0;rw[hF];have hcur:zdZ ⟨c.b,i,k⟩:=zfZ h h3;have hw:=znd (x:=q) (y:=1) (by omega) (by omega) (by omega) (by omega)
 have hx:=zmA hcur (n:=zD .i64 q 1) (by omega)
 have h7:zdZ {zF ⟨c.b,i,k⟩ (zD .i64 q 1) with b:=c.b}:=zfZ h (zcG _ _);refine zbT (ziD hcur _) (zdm (fun hc=>?_) (fun hc=>?_))
 .have hlt:t<zX ⟨c.b,i,k⟩ (zD .i64 q 1):=qD hc;have ht:=znd (y:=1) h2 (by omega) (by omega) (by omega)
  refine zbT (z5q h7) (zbT (zu0 (by rw[zpC];omega)) (hrec (n-1) _ (by omega) ⟨rfl,?_,?_,zWk _,⟨?_,?_⟩,rfl⟩))
  .show zD .i64 t 1+_=1000
   omega
  .show 0<=zD .i64 t 1
   omega
  .show ln (ap l [_])<=45+zD .i64 t 1
   rw[zpC];omega
  .show zD .i64 t 1<=q
   omega
 .refine zGo (hG _ l rfl (zcG _ _) ?_);omega
def zt8 (N:Nat)(c:Cur)(a0:Int):OA:=
 (oN (zhl c 5)<|cond (nB<|zm9 c 5) (oN zi0<|iter (σ:=(Int×Int×Int×Int×lA×(List Int)×Unit)) N (λr3 s4=>let y6:=s4.2.2.2.2.2.1;let y4:=zD .i64 s4.1 1;let y2:=(⟨y6,s4.2.2.1,s4.2.2.2.1⟩:Cur);let y0:=({ (zF y2 y4) with b:=y6}:Cur);let y8:=ap s4.2.2.2.2.1 [zmQ y0]; (oN (zbb y2 y4)<|cond (ilt s4.2.1<|zX y2 y4) (oN (zic y0)<|oN (few<|ln y8)<|r3 (s4.1,zD .i64 s4.2.1 1,(zgo y0).i,(zgo y0).h,y8,y6,()))<|some [.agg [.s .u8 y6,.i .i64 (zF y2 y4).i,.i .i64 (zF y2 y4).h],aS .act s4.2.2.2.2.1])) (a0,0,(zdz c 5).i,(zdz c 5).h,zrz,c.b,()))<|iter (σ:=(Int×Int×Int×Int×lA×(List Int)×Unit)) N (λr3 s4=>let y7:=s4.2.2.2.2.2.1;let y5:=zD .i64 s4.1 1;let y3:=(⟨y7,s4.2.2.1,s4.2.2.2.1⟩:Cur);let y1:=({ (zF y3 y5) with b:=y7}:Cur);let y9:=ap s4.2.2.2.2.1 [zmQ y1]; (oN (zbb y3 y5)<|cond (ilt s4.2.1<|zX y3 y5) (oN (zic y1)<|oN (few<|ln y9)<|r3 (s4.1,zD .i64 s4.2.1 1,(zgo y1).i,(zgo y1).h,y9,y7,()))<|some [.agg [.s .u8 y7,.i .i64 (zF y3 y5).i,.i .i64 (zF y3 y5).h],aS .act s4.2.2.2.2.1])) (a0,0,(zdz c 5).i,(zdz c 5).h,[],c.b,()))
def zOu:=zx [(92,0,{n:=26,tm:=[(0,.lp 0 0),(1,ti),(5,.sl 0 []),(6,ti)],lo:=[(0,[.sl 1 [],ti,ti])],ro:=[(0,.act,true),(1,.u8,false)]})]
def zoA (c:Cur)(a0:Int)(s:Cur)(v0:List GAct):Prop:=(∃N,zt8 N c a0=some (AV.agg (zfp s)::[aS .act v0]))/\(s.b=c.b/\0<=s.i)/\(ln v0<=45+a0)
def zmb (c:Cur)(a0:Int):Bool:=wC (zoA c a0)
def zmc (c:Cur)(a0:Int):Cur:=wS (zoA c a0)
def zqs (c:Cur)(a0:Int):List GAct:=wV (zoA c a0)
theorem zDi {c:Cur}{a0:Int}(h:zmb c a0=true):zoA c a0 (zmc c a0) (zqs c a0):=wG h
theorem zTo (c:Cur)(a0:Int):0<=(zmc c a0).i:=wP λh=>h.2.1.2
theorem zTn (c:Cur)(a0:Int)(h:∃N,Ends (wE (λv0=>aS .act v0) c.b λv0=>ln v0<=45+a0)<|zt8 N c a0):zmb c a0=true:=wI (λ_ _ h=>h) h
def zvt:zki:=rP1 dI λc b=>(zmb c b,zmc c b,[aS .act<|zqs c b])
theorem zHv:zdc Tryz.prog 92 [false,true,true] zvt:=hP1 zWW zbi zRa zu zOu (λ_ _ h=>(zDi h).1)
theorem zWL {c:Cur}(h:zdZ c){m:Int}(h0:0<=m)(hm:m<=1000):zmb c m=true:=by
 refine zTn c m ⟨1002,?_⟩;unfold zt8 oN nB;conv=>zeta
 have g:=zAp zTM;exact zbT (zQ0 h 5) (zdm (λ_=>zbT zTM (zMs h h0 hm (R:=λs l=>AV.agg (zfp s)::[aS .act l]) (λs l hb hi hl=>⟨s,l,rfl,⟨hb,hi⟩,hl⟩) (λrec t i k l=>rfl) (zio _ _) g.2)) λ_=>zMs h h0 hm (R:=λs l=>AV.agg (zfp s)::[aS .act l]) (λs l hb hi hl=>⟨s,l,rfl,⟨hb,hi⟩,hl⟩) (λrec t i k l=>rfl) (zio _ _) (jS _))
def z2f:zdI:=[(92,[false,true,true],zvt)]++z2e
theorem zRb:zcA z2f:=zec zRa (by
 intro x hx;simp only[qI,qW,or_false]at hx;rcases hx with rfl
 .exact zHv)
def zAF (h:Host):Prop:=∃ps l,zF3 ps/\(1<=ps.length/\∀p∈ps,1<=p.length/\∀x∈p,zdr x=true)/\h=(zwy ps l).1
theorem z0e {p:List Ins}(h:zdr p=true):p.length<=12:=by unfold zdr at h;cases hc:p.all zeE with|false=>rw[hc]at h;cases h|true=>rw[hc,cT]at h;have h2:=(zfM.1 h).2;unfold ln at h2;omega
def zt4 (N:Nat)(c:Cur)  : OA :=
 let y0:=({ (zlz c) with b:=c.b}:Cur); (oN (zoy c)<|oN (zmb y0 20)<|oN (zsx (zsG c)<|zqs y0 20)<|some [.agg [.s .u8 c.b,.i .i64 (zmc y0 20).i,.i .i64 (zmc y0 20).h],aH<|zsw (zsG c)<|zqs y0 20])
def zoz (c:Cur)(s:Cur)(v0:Host):Prop:=(∃N,zt4 N c=some (AV.agg (zfp s)::[aH v0]))/\(s.b=c.b/\0<=s.i)/\(zAF v0)
def zgn (c:Cur)  : Bool:=wC (zoz c)
def zDh (c:Cur)  : Cur:=wS (zoz c)
def zkL (c:Cur)  : Host:=wV (zoz c)
theorem zDg {c:Cur}(h:zgn c=true):zoz c (zDh c) (zkL c):=wG h
theorem zTm (c:Cur)(h:∃N,Ends (wE (λv0=>aH v0) c.b λv0=>zAF v0)<|zt4 N c):zgn c=true:=wI (λ_ _ h=>h) h
def zvs:zki:=rP0 λc=>(zgn c,zDh c,[aH<|zkL c])
theorem zHp:zdc Tryz.prog 63 [false,true,true] zvs:=hP0 zuh zbi zRb zu (zx []) (λ_ h=>(zDg h).1)
theorem zXJ {c:Cur}(h:zdZ c):zgn c=true:=by
 refine zTm c ⟨0,?_⟩;have h1:zdZ {zlz c with b:=c.b}:=zfZ h (zWh _);have g1:=(zIm<|z0L h).2.2;have g2:=(zDi<|zWL h1 (m:=20) (by omega) (by omega)).2.2;unfold zt4 oN;conv=>zeta
 have g3:(zqs {zlz c with b:=c.b} 20).length<=65:=by unfold ln at g2;omega
 have S:zF3 (zsG c):=⟨by omega,λp hp=>by
  have g:=g1.2.2 p hp;exact⟨by omega,λx hx=>by have:=z0e (g.2.2 x hx);omega⟩⟩
 exact zbT (z0L h) (zbT (zWL h1 (by omega) (by omega))<|zbT (zbp ⟨S,jB g3 (by decide)⟩)<|zk7 aH (zTo _ _) ⟨_,_,S,⟨g1.1,λp hp=>⟨(g1.2.2 p hp).1,(g1.2.2 p hp).2.2⟩⟩,rfl⟩)
def zV6:zdI:=[(63,[false,true,true],zvs)]++z2f
theorem zsl:zcA zV6:=zec zRb (by
 intro x hx;simp only[qI,qW,or_false]at hx;rcases hx with rfl
 .exact zHp)
theorem zPJ {α τ ρ:Type}{G:ρ->Prop}{body:Nat->α->τ->(τ->Option ρ)->Option ρ}{K:τ->Option ρ}(hb:∀i x t κ,(∀t,Ends G<|κ t)->Ends G (body i x t κ))(hK:∀t,Ends G<|K t):∀(l:List α) (i:Nat) (t:τ),Ends G (goL body K l i t)
 |[],i,t=>hK t
 |x::l,i,t=>hb i x t _ (λt=>zPJ hb hK l (i+1) t)
def znf (N:Nat)(a0:List Int):OA:=
 (iter (σ:=(Int×Int×(List Int)×lM×lN×lE×lE×Unit)) N (λr2 s3=>let y0:=(⟨s3.2.2.1,0,s3.1⟩:Cur); (cond (ilt s3.2.1<|ln s3.2.2.1) (cond (ilt s3.2.1 4000) (oN (inb s3.2.1<|ln s3.2.2.1)<|r2 (wand .i64 (zD .i64 (zD .i64 (zlI .i64 s3.1 131)<|wcv .i64<|ix s3.2.2.1 s3.2.1 0) 7) 1073741823,zD .i64 s3.2.1 1,s3.2.2.1,s3.2.2.2.1,s3.2.2.2.2.1,s3.2.2.2.2.2.1,s3.2.2.2.2.2.2.1,()))<|oN (zgn y0)<|some [aH<|zkL y0])<|oN (zgn y0)<|some [aH<|zkL y0])) (zD .i64 94701<|ln a0,0,a0,[],[],[],[],()))
def zLn:=zx [(64,0,{n:=32,tm:=[(0,.sl 0 []),(3,ti),(4,ti)],lo:=[(0,[.sl 1 [],.sl 2 [],.sl 3 [],.sl 4 []])],ro:=[(0,.u8,false),(1,.sl .int,true),(2,.mon,true),(3,.entry,true),(4,.entry,true)],sk:=[(0,2,0,.lp 0 0)]})]
def zqW (a0:List Int)(v0:Host):Prop:=(∃N,znf N a0=some [aH v0])/\(zAF v0)
def ziU (a0:List Int):Bool:=uC (T:=Host) (λr=>zqW a0 r)
def zRq (a0:List Int):Host:=uV (λr=>zqW a0 r)
def zn9 (a0:List Int):Host:=(zRq a0)
theorem zAj {a0:List Int}(h:ziU a0=true):zqW a0 (zn9 a0):=uG h
theorem zRp (a0:List Int)(h:∃N,Ends (λa=>∃v0,a=[aH v0]/\(zAF v0))<|znf N a0):ziU a0=true:=by obtain⟨N,a,e,v0,rfl,h⟩:=h;exact zbp ⟨v0,⟨N,e⟩,h⟩
def zvz:Run:=rF1 (dS .u8) λb=>(ziU b,[aH<|zn9 b])
theorem zKB (a0:List Int)(hc:ziU a0=true):∃N,znf N a0=some [aH<|zn9 a0]:=by exact(zAj hc).1
theorem zEk:vJ 19 zvz:=kF1 zuh zbi zsl zu zLn zKB
theorem zGn {a0:List Int}(h:a0.length<=big):ziU a0=true:=by
 refine zRp a0 (zb0 λN hNN=>?_);unfold znf oN;conv=>zeta
 have fin:∀t,Ends (λa=>∃v0,a=[aH v0]/\zAF v0) (cond (zgn ⟨a0,0,t⟩) (some [aH<|zkL ⟨a0,0,t⟩]) none):=λt=>
  have hc:zdZ ⟨a0,0,t⟩:=⟨kY 0,h⟩
  zbT (zXJ hc) ⟨_,rfl,_,rfl,(zDg<|zXJ hc).2.2⟩
 refine(congrArg (Ends _)<|zbd a0 (λi (t:Int)=>(t,(i:Int),a0,[],[],[],[],())) _ (λi x (t:Int) κ=>bif ilt (i:Int) 4000 then κ (wand .i64 (zD .i64 (zD .i64 (zlI .i64 t 131)<|wcv .i64 x) 7) 1073741823) else (cond (zgn ⟨a0,0,t⟩) (some [aH<|zkL ⟨a0,0,t⟩]) none)) (λ(t:Int)=>cond (zgn ⟨a0,0,t⟩) (some [aH<|zkL ⟨a0,0,t⟩]) none) (λi hi t rec=>?_) (λt rec=>?_) N (zD .i64 94701<|ln a0)<|hNN h).mpr ?_;{simp only [zbv hi,zY hi,zbg hi,zU hi h,cT]};{simp only [zbm,cF]};exact zPJ (λi x t κ hk=>zdm (λ_=>hk _) λ_=>fin t) fin _ _ _
def zWX:zS:=[(19,zvz)]++zPj
theorem zWY:zL zWX:=zh zEk zuh
theorem zUx:∀(l:List GAct) (u:Host×List Told),SmH u.1->SmH (zz8 l u).1
 |[],u,h=>h
 |a::l,u,h=>zUx l (zeP u.1 a,ap u.2 [zjj u.1 a]) (zUu h)
theorem zZT {h:Host}(L:zAF h):Safe h/\SmH h:=by obtain⟨ps,l,hS,hp,rfl⟩:=L;refine⟨?_,zUx _ _<|zUv hS⟩;unfold zwy;rw[zUm];exact(zXs _<|zVE hp).1
def zWZ:zS:=zWX
theorem zp7:zL zWZ:=zWY
def zOW (l:List Int):Prop:=l.length=12/\∀i:Int,0<=i->i<12->0<=ix l i 0/\ix l i 0<10000
def zWI (N:Nat)(c:Cur)  : OA :=
 let y0:=zb5 c [0,0,0,1,1,2,-1,9223372036854775807]; (oN (zdO c [0,0,0,1,1,2,-1,9223372036854775807])<|some [.agg [.s .u8 c.b,.i .i64 y0.i,.i .i64 y0.h],aI<|zeq c [0,0,0,1,1,2,-1,9223372036854775807]])
def zry (c:Cur)(s:Cur)(v0:Int):Prop:=(∃N,zWI N c=some (AV.agg (zfp s)::[aI v0]))/\(s.b=c.b/\0<=s.i)/\(True)
def zAo (c:Cur)  : Bool:=wC (zry c)
def ztU (c:Cur)  : Cur:=wS (zry c)
def zLc (c:Cur)  : Int:=wV (zry c)
theorem zYw {c:Cur}(h:zAo c=true):zry c (ztU c) (zLc c):=wG h
def zz5:zki:=rP0 λc=>(zAo c,ztU c,[aI<|zLc c])
theorem zNq:zdc Tryz.prog 193 [false,true,true] zz5:=hP0 zp7 zbi zsl zu (zx []) (λ_ h=>(zYw h).1)
def z2g:zdI:=[(193,[false,true,true],zz5)]++zV6
theorem zRc:zcA z2g:=zec zsl (by
 intro x hx;simp only[qI,qW,or_false]at hx;rcases hx with rfl
 .exact zNq)
def zUO (N:Nat)(c:Cur)  : OA :=
 let y2:=zmQ c;let y1:=({ (zgo c) with b:=c.b}:Cur);let y4:=zX y1 10;let y0:=({ (zF y1 10) with b:=c.b}:Cur);let y3:=zb5 y0 [-1,4,8,16,100,9223372036854775807]; (oN (zic c)<|oN (zbb y1 10)<|cond (ieq y4 0) (oN (zbb y0 20)<|some [.agg [.s .u8 c.b,.i .i64 (zF y0 20).i,.i .i64 (zF y0 20).h],.agg [.i .i64<|wsub .i64 (zX y0 20) 1,.i .i64 y2.M,.i .i64 y2.G,.i .i64 y2.X,.i .i64 y2.Y,.i .i64 y2.Z]])<|cond (ieq y4 1) (oN (zAo y0)<|some [.agg [.s .u8 c.b,.i .i64 (ztU y0).i,.i .i64 (ztU y0).h],.agg [.i .i64 y2.Kind,.i .i64<|zLc y0,.i .i64 y2.G,.i .i64 y2.X,.i .i64 y2.Y,.i .i64 y2.Z]])<|cond (ieq y4 2) (oN (zdO y0 [-1,4,8,16,100,9223372036854775807])<|some [.agg [.s .u8 c.b,.i .i64 y3.i,.i .i64 y3.h],.agg [.i .i64 y2.Kind,.i .i64 y2.M,.i .i64 y2.G,.i .i64<|zeq y0 [-1,4,8,16,100,9223372036854775807],.i .i64 y2.Y,.i .i64 y2.Z]])<|cond (ieq y4 3) (oN (zdO y0 [-1,0,1,4])<|some [.agg [.s .u8 c.b,.i .i64 (zb5 y0 [-1,0,1,4]).i,.i .i64 (zb5 y0 [-1,0,1,4]).h],.agg [.i .i64 y2.Kind,.i .i64 y2.M,.i .i64 y2.G,.i .i64 y2.X,.i .i64 y2.Y,.i .i64<|zeq y0 [-1,0,1,4]]])<|some [.agg [.s .u8 c.b,.i .i64 (zF y1 10).i,.i .i64 (zF y1 10).h],.agg [.i .i64 y2.Kind,.i .i64 y2.M,.i .i64 y2.G,.i .i64 y2.X,.i .i64 y2.Y,.i .i64 y2.Z]])
def zpZ (c:Cur)(s:Cur)(v0:GAct):Prop:=(∃N,zUO N c=some (AV.agg (zfp s)::[aT .act v0]))/\(s.b=c.b/\0<=s.i)/\(True)
def zIn (c:Cur)  : Bool:=wC (zpZ c)
def zIo (c:Cur)  : Cur:=wS (zpZ c)
def zRv (c:Cur)  : GAct:=wV (zpZ c)
theorem zWl {c:Cur}(h:zIn c=true):zpZ c (zIo c) (zRv c):=wG h
def zxI:zki:=rP0 λc=>(zIn c,zIo c,[aT .act<|zRv c])
theorem zKi:zdc Tryz.prog 94 [false,true,true] zxI:=hP0 zp7 zbi zRc zu (zx []) (λ_ h=>(zWl h).1)
def z5H:zdI:=[(94,[false,true,true],zxI)]++z2g
theorem z0b:zcA z5H:=zec zRc (by
 intro x hx;simp only[qI,qW,or_false]at hx;rcases hx with rfl
 .exact zKi)
def zk0 (N:Nat)(a0:List Int):OA:=
 (iter (σ:=(Int×Int×(List Int)×(List Int)×Unit)) N (λr2 s3=>let y4:=s3.2.2.1; (cond (ilt s3.2.1<|ln y4) (cond (ilt s3.2.1 4000) (oN (inb s3.2.1<|ln y4)<|r2 (wand .i64 (zD .i64 (zD .i64 (zlI .i64 s3.1 131)<|wcv .i64<|ix y4 s3.2.1 0) 7) 1073741823,zD .i64 s3.2.1 1,y4,s3.2.2.2.1,()))<|iter (σ:=(Int×Int×Int×(List Int)×(List Int)×Unit)) N (λr4 s5=>let y0:=(⟨s5.2.2.2.2.1,s5.2.1,s5.2.2.1⟩:Cur);let y2:=ap s5.2.2.2.1 [zX y0 10000]; (cond (ilt s5.1 12) (oN (zbb y0 10000)<|oN (few<|ln y2)<|r4 (zD .i64 s5.1 1,(zF y0 10000).i,(zF y0 10000).h,y2,s5.2.2.2.2.1,()))<|some [aS .int s5.2.2.2.1])) (0,0,s3.1,[],y4,()))<|iter (σ:=(Int×Int×Int×(List Int)×(List Int)×Unit)) N (λr4 s5=>let y1:=(⟨s5.2.2.2.2.1,s5.2.1,s5.2.2.1⟩:Cur);let y3:=ap s5.2.2.2.1 [zX y1 10000]; (cond (ilt s5.1 12) (oN (zbb y1 10000)<|oN (few<|ln y3)<|r4 (zD .i64 s5.1 1,(zF y1 10000).i,(zF y1 10000).h,y3,s5.2.2.2.2.1,()))<|some [aS .int s5.2.2.2.1])) (0,0,s3.1,[],y4,()))) (zD .i64 94701<|ln a0,0,a0,[],()))
def zFc:=zx [(64,0,{n:=32,tm:=[(0,.sl 0 []),(3,ti),(4,ti)],lo:=[],ro:=[(0,.u8,false),(1,.int,true)],sk:=[(0,2,0,.sl 1 [])]}),(20,0,{n:=19,tm:=[(3,.lp 0 0),(4,.sl 0 []),(5,ti)],lo:=[(0,[.sl 1 [],ti,ti])],ro:=[(0,.int,true),(1,.u8,false)]})]
def zoa (a0:List Int)(v0:List Int):Prop:=(∃N,zk0 N a0=some [aS .int v0])/\(zOW v0)
def zhy (a0:List Int):Bool:=uC (T:=List Int) (λr=>zoa a0 r)
def zLa (a0:List Int):List Int:=uV (λr=>zoa a0 r)
def zkI (a0:List Int):List Int:=(zLa a0)
theorem zvO {a0:List Int}(h:zhy a0=true):zoa a0 (zkI a0):=uG h
theorem zK9 (a0:List Int)(h:∃N,Ends (λa=>∃v0,a=[aS .int v0]/\(zOW v0))<|zk0 N a0):zhy a0=true:=by obtain⟨N,a,e,v0,rfl,h⟩:=h;exact zbp ⟨v0,⟨N,e⟩,h⟩
def zso:Run:=rF1 (dS .u8) λb=>(zhy b,[aS .int<|zkI b])
theorem zEO (a0:List Int)(hc:zhy a0=true):∃N,zk0 N a0=some [aS .int<|zkI a0]:=by exact(zvO hc).1
theorem zzw:vJ 20 zso:=kF1 zp7 zbi z0b zu zFc zEO
theorem zRg {a0:List Int}(h:a0.length<=big):zhy a0=true:=by
 refine zK9 a0 (zb0 λN hNN=>?_);unfold zk0 oN;conv=>zeta
 have h12:12<N:=hNN (by rw[zmY];omega);refine zp9 (λn s=>∃(t:Int) (i:Nat),s=(t,(i:Int),a0,[],())/\i+n=a0.length) ?_ N a0.length _ ⟨_,0,rfl,by omega⟩ (hNN h);rintro n s rec ⟨t,i,rfl,hi⟩ hrec;dsimp only;refine zdm (λh1=>zdm (λh2=>?_) λ_=>?_) (λ_=>?_);{have hlt:(i:Int)<ln a0:=qD h1;unfold ln at hlt;refine zbT (qJ ⟨by omega,by unfold ln;omega⟩) (hrec (n-1) _ (by omega) (by rw[zU (show i<a0.length by omega) h];exact⟨_,i+1,rfl,by omega⟩))}
 all_goals
  refine zp9 (λn s=>∃(k:Nat) (i x:Int) (l:List Int),s=((k:Int),i,x,l,a0,())/\k+n=12/\0<=i/\l.length=k/\∀y∈l,0<=y/\y<10000) ?_ N 12 _ ⟨0,0,t,[],rfl,rfl,kY 0,rfl,by simp⟩ h12
  rintro n' s rec' ⟨k,i',x,l,rfl,hk,hi0,hlk,hl⟩ hrec'
  dsimp only
  have hcur:zdZ ⟨a0,i',x⟩:=⟨hi0,h⟩;have hx:=zmA hcur (n:=10000) (by omega)
  refine zdm (λh3=>?_) (λh3=>⟨_,rfl,l,rfl,?_⟩)
  .have h3':(k:Int)<12:=qD h3;have hnew:∀y∈ap l [zX ⟨a0,i',x⟩ 10000],0<=y/\y<10000:=by intro y hy;rcases jI.1 hy with hy|hy;{exact hl y hy};{rw [qF.1 hy];exact hx}
   exact zbT (ziD hcur _) (zbT (zu0 (by rw[zpC];unfold ln;omega))<|hrec' (n'-1) _ (by omega) (by rw[zlC (show -9223372036854775808<=(k:Int)+1 by omega) (by omega)];exact⟨k+1,_,_,_,rfl,by omega,zcG _ _,by simp[ap,hlk],hnew⟩))
  .have h3':¬ (k:Int)<12:=jQ h3;exact⟨by omega,λj h0 h1=>hl _ (zby (qJ ⟨h0,by unfold ln;omega⟩) 0)⟩
theorem wrap_eq (x:Int):IntKind.wrap .i64 x=(x+9223372036854775808) % 18446744073709551616-9223372036854775808:=by unfold IntKind.wrap;simp[IntKind.bits,IntKind.signed];split<;>omega
theorem zSm (x k:Int):zD .i64 (zD .i64 x k) 0=zD .i64 x k:=by simp only[zD,wrap_eq];omega
theorem z3Z (x k f:Int):zD .i64 (zD .i64 x k) f=zD .i64 x (zD .i64 (zD .i64 0 k) f):=by simp only[zD,wrap_eq];omega
theorem zCO:∀(a b:Nat) (t:Int×Host),zbZ (a+b) t=zbZ b (zbZ a t)
 | 0,b,t=>by rw[jT];rfl
 |a+1,b,t=>by rw[show a+1+b=(a+b)+1 by omega];exact zCO a b _
theorem zr3:∀(n:Nat) (x:Int) (h:Host),zD .i64 x 0=x->zbZ n (x,h)=(zD .i64 x (zbZ n (0,h)).1,(zbZ n (0,h)).2)
 | 0,x,h,hx=>by show (x,h)=(zD .i64 x 0,h);rw[hx]
 |n+1,x,h,hx=>by show zbZ n (zD .i64 x (zbP h).1,(zbP h).2)=(zD .i64 x (zbZ n (zD .i64 0 (zbP h).1,(zbP h).2)).1,(zbZ n (zD .i64 0 (zbP h).1,(zbP h).2)).2);rw[zr3 n _ _<|zSm x _,zr3 n (zD .i64 0 _) _<|zSm 0 _,z3Z]
theorem zGq:∀(n:Nat) (t:Int×Host),zD .i64 t.1 0=t.1->zD .i64 (zbZ n t).1 0=(zbZ n t).1
 | 0,t,ht=>ht
 |n+1,t,ht=>zGq n _ (zSm _ _)
theorem rounds (a b:Nat)(h:Host):(zbZ (a+b) (0,h)).2=(zbZ b (0,(zbZ a (0,h)).2)).2/\zD .i64 (zbZ a (0,h)).1 (zbZ b (0,(zbZ a (0,h)).2)).1=(zbZ (a+b) (0,h)).1:=by have e:=zr3 b (zbZ a (0,h)).1 (zbZ a (0,h)).2 (zGq a (0,h) (show zD .i64 0 0=0 by decide));rw[zCO a b (0,h),show zbZ a (0,h)=((zbZ a (0,h)).1,(zbZ a (0,h)).2) from rfl,e];exact⟨rfl,rfl⟩
theorem zUY {r:Int}(h0:0<=r)(h1:r<=40):brought r 0 40=r:=by unfold brought;have a:ilt r 0=false:=qG (by omega);have b:ilt 40 0=false:=rfl;rw[a,b,cF,cF];unfold zwG;first|omega|(split<;>omega)
structure Clear (h:Host) (m p:Int):Prop where
 d:ix (ix h.Mons m mZ).Dirty p false=false
 s:(ix (ix h.Mons m mZ).Outer p sZ).Page≠-1->(ix (ix h.Mons m mZ).Outer p sZ).Rights=1/\(∀e∈h.Buffer,e.Host≠(ix (ix h.Mons m mZ).Outer p sZ).Page)/\(∀e∈h.IoBuffer,e.Host≠(ix (ix h.Mons m mZ).Outer p sZ).Page)/\
  ∀g i,hasB g (ln (ix h.Mons m mZ).Guests)=true->hasB i (ln (ix (ix h.Mons m mZ).Guests g gZ).Live)=true->(ix (ix (ix h.Mons m mZ).Guests g gZ).Live i sZ).Page=p->ix (ix (ix h.Mons m mZ).Tables g kZ).Known i false=false
theorem zRN:∀(n g:Nat) (c:Int) {h:Host} (S:Safe h) (m:Int),SimT h (zdW m n g (c,h)).2 m (λb=>(rb n g b c).1)/\(zdW m n g (c,h)).1=(rb n g (zy h m) c).2
 | 0,g,c,h,S,m=>⟨SimT.refl S m,rfl⟩
 |n+1,g,c,h,S,m=>by obtain⟨s1,e1⟩:=step_ok S m (g:Int);obtain⟨s2,e2⟩:=zRN n (g+1) (cond ((zbL h m (g:Int)).2) (zD .i64 c 1) c) s1.safe m;have hm:zy (zbL h m (g:Int)).1 m=zd0 (zy h m) (g:Int):=(by rw[s1.seen m,zbj.2 rfl];rfl);refine⟨?_,?_⟩;{refine(s1.trans s2).congr ?_;show (rb n (g+1) (zd0 (zy h m) g)<|cond ((zbL h m (g:Int)).2) (zD .i64 c 1) c).1=(rb (n+1) g (zy h m) c).1;rw[e1];rfl};{show (zdW m n (g+1) (cond ((zbL h m (g:Int)).2) (zD .i64 c 1) c,(zbL h m (g:Int)).1)).1=_;rw[e2,hm,e1];rfl}
def zc3 (h:Host):Nat->Nat->List Bare
 | 0,_=>[]
 |n+1,m=>zy h (m:Int)::zc3 h n (m+1)
theorem zDk {h r:Host}:∀{n m:Nat},(∀i:Nat,m<=i->zy r (i:Int)=zy h (i:Int))->zc3 r n m=zc3 h n m
 | 0,_,_=>rfl
 |n+1,m,e=>by show zy r _::_=zy h _::_;rw[e m<|qX m,zDk λi hi=>e i (by omega)]
theorem znh (h:Host):zbz h=zc3 h h.Mons.length 0:=by have:∀n m:Nat,((List.range' m n).map λ(i:Nat)=>zy h (i:Int))=zc3 h n m:=(by intro n;induction n with|zero=>intro m;rfl|succ n ih=>intro m;rw[uD,q0,ih];rfl);unfold zbz;rw[uE];exact this _ 0
theorem zMi:∀(n m:Nat) (c:Int) {h:Host} (S:Safe h),
 Safe (zgs ((zc3 h n m).map λb=>b.Guests.length) m (c,h)).2/\(zgs ((zc3 h n m).map λb=>b.Guests.length) m (c,h)).2.Mons.length=h.Mons.length/\
 (∀i:Nat,i<m->zy (zgs ((zc3 h n m).map λb=>b.Guests.length) m (c,h)).2 (i:Int)=zy h (i:Int))/\
 (zc3 (zgs ((zc3 h n m).map λb=>b.Guests.length) m (c,h)).2 n m,(zgs ((zc3 h n m).map λb=>b.Guests.length) m (c,h)).1)=rnd (zc3 h n m) c
 | 0,m,c,h,S=>⟨S,rfl,λ_ _=>rfl,rfl⟩
 |n+1,m,c,h,S=>by
  show Safe (zgs ((zc3 h n<|m+1).map λb=>b.Guests.length) (m+1)<|zdW (m:Int) (zy h (m:Int)).Guests.length 0 (c,h)).2/\_;obtain⟨s1,e1⟩:=zRN (zy h (m:Int)).Guests.length 0 c S (m:Int);have hne:∀i:Nat,i≠m->zy (zdW (m:Int) (zy h (m:Int)).Guests.length 0 (c,h)).2 (i:Int)=zy h (i:Int):=λi hi=>(by rw[s1.seen (i:Int),zbM.2 (by omega)];rfl);have hm:zy (zdW (m:Int) (zy h (m:Int)).Guests.length 0 (c,h)).2 (m:Int)=(rb (zy h (m:Int)).Guests.length 0 (zy h (m:Int)) c).1:=(by rw[s1.seen (m:Int),zbj.2 rfl];rfl);have ef:zc3 (zdW (m:Int) (zy h (m:Int)).Guests.length 0 (c,h)).2 n (m+1)=zc3 h n (m+1):=zDk λi hi=>hne i (by omega);have k:=zMi n (m+1) (zdW (m:Int) (zy h (m:Int)).Guests.length 0 (c,h)).1 s1.safe;rw[ef] at k;obtain⟨k1,k2,k3,k4⟩:=k
  show Safe (zgs ((zc3 h n<|m+1).map λb=>b.Guests.length) (m+1) ((zdW (m:Int) (zy h (m:Int)).Guests.length 0 (c,h)).1,(zdW (m:Int) (zy h (m:Int)).Guests.length 0 (c,h)).2)).2/\(zgs ((zc3 h n<|m+1).map λb=>b.Guests.length) (m+1) ((zdW (m:Int) (zy h (m:Int)).Guests.length 0 (c,h)).1,(zdW (m:Int) (zy h (m:Int)).Guests.length 0 (c,h)).2)).2.Mons.length=h.Mons.length/\
   (∀i:Nat,i<m->zy (zgs ((zc3 h n<|m+1).map λb=>b.Guests.length) (m+1) ((zdW (m:Int) (zy h (m:Int)).Guests.length 0 (c,h)).1,(zdW (m:Int) (zy h (m:Int)).Guests.length 0 (c,h)).2)).2 (i:Int)=zy h (i:Int))/\
   (zy (zgs ((zc3 h n<|m+1).map λb=>b.Guests.length) (m+1) ((zdW (m:Int) (zy h (m:Int)).Guests.length 0 (c,h)).1,(zdW (m:Int) (zy h (m:Int)).Guests.length 0 (c,h)).2)).2 (m:Int)::zc3 (zgs ((zc3 h n<|m+1).map λb=>b.Guests.length) (m+1) ((zdW (m:Int) (zy h (m:Int)).Guests.length 0 (c,h)).1,(zdW (m:Int) (zy h (m:Int)).Guests.length 0 (c,h)).2)).2 n (m+1),
    (zgs ((zc3 h n<|m+1).map λb=>b.Guests.length) (m+1) ((zdW (m:Int) (zy h (m:Int)).Guests.length 0 (c,h)).1,(zdW (m:Int) (zy h (m:Int)).Guests.length 0 (c,h)).2)).1)=_
  refine⟨k1,k2.trans s1.len,λi hi=>(k3 i (by omega)).trans (hne i (by omega)),?_⟩;have k41:=congrArg Prod.fst k4;have k42:=congrArg Prod.snd k4;dsimp only at k41 k42;rw[k41,k42,k3 m (by omega),hm,e1];rfl
theorem zY8 (h:Host):cnt h.Mons=(zc3 h h.Mons.length 0).map λb=>b.Guests.length:=by rw[<- znh];unfold cnt zbz;refine vI (by simp) λi h1 h2=>?_;have hi:i<h.Mons.length:=(by simpa using h1);have hb:hasB (i:Int) (ln h.Mons)=true:=zC.2 ⟨by omega,by unfold ln;omega⟩;simp only[List.getElem_map,List.getElem_range];unfold zy;rw[hb,cond_true];show _=(ix h.Mons (i:Int) mZ).Guests.length;rw[zkt hi]
theorem zRn {h:Host}(S:Safe h):Safe (zbP h).2/\(zbP h).2.Mons.length=h.Mons.length/\zbz (zbP h).2=(rnd (zbz h) 0).1/\(zbP h).1=(rnd (zbz h) 0).2:=by unfold zbP;rw[zY8];obtain⟨k1,k2,_,k4⟩:=zMi h.Mons.length 0 0 S;refine⟨k1,k2,?_,?_⟩;{rw [znh,k2,znh];exact congrArg Prod.fst k4};{rw [znh];exact congrArg Prod.snd k4}
theorem zGr:∀(n:Nat) (c:Int) {h:Host} (S:Safe h),Safe (zbZ n (c,h)).2/\(zbZ n (c,h)).2.Mons.length=h.Mons.length/\zbz (zbZ n (c,h)).2=(zoZ n (zbz h) c).1/\(zbZ n (c,h)).1=(zoZ n (zbz h) c).2
 | 0,c,h,S=>⟨S,rfl,rfl,rfl⟩
 |n+1,c,h,S=>by obtain⟨k1,k2,k3,k4⟩:=zRn S;obtain⟨r1,r2,r3,r4⟩:=zGr n (zD .i64 c (zbP h).1) k1;show Safe (zbZ n (zD .i64 c (zbP h).1,(zbP h).2)).2/\(zbZ n (zD .i64 c (zbP h).1,(zbP h).2)).2.Mons.length=_/\zbz (zbZ n (zD .i64 c (zbP h).1,(zbP h).2)).2=_/\(zbZ n (zD .i64 c (zbP h).1,(zbP h).2)).1=_;refine⟨r1,r2.trans k2,?_,?_⟩;{rw [r3,k3,k4];rfl};{rw [r4,k3,k4];rfl}
def Bl (b:List Entry):Prop:=∀e∈b,e.Host≠-1
structure Bf (h:Host):Prop where
 b:Bl h.Buffer
 io:Bl h.IoBuffer
theorem z4g {b c:List Entry}(k:Bl b)(s:∀e∈c,e∈b):Bl c:=λe he=>k e (s e he)
theorem z2y {h r:Host}(k:Bf h)(e1:r.Buffer=h.Buffer)(e2:r.IoBuffer=h.IoBuffer):Bf r:=⟨by rw[e1];exact k.b,by rw[e2];exact k.io⟩
theorem zGd {b:List Entry}(k:Bl b)(p:Int):Bl (flushed b p):=z4g k λe he=>(List.mem_filter.1 he).1
theorem zUV {h:Host}(k:Bf h)(m p:Int)(s:Slot):Bf (zb6 h m p s):=by unfold zb6;cases ine (ix (ix h.Mons m zf).Outer p zO).Page (-1) with|true=>exact⟨zGd k.b _,zGd k.io _⟩|false=>exact⟨k.b,k.io⟩
theorem z2z {h:Host}(k:Bf h)(m p:Int):Bf (zdk h m p):=zUV (h:=zeR h m p) (z2y k rfl rfl) m p noSlot
theorem zUU {h:Host}(k:Bf h)(m p:Int):Bf (zeH h m p):=by unfold zeH;cases zb3 h m p with|false=>exact k|true=>(cases zg5 h m p with|true=>exact k|false=>exact z2z k m p)
theorem z3H {h:Host}(H:HOk h){m p:Int}(hm:hasB m (ln h.Mons)=true)(hp:hasB p 8=true):But h (zeH h m p) m p/\(ix (ix (zeH h m p).Mons m mZ).Outer p sZ).Page = -1:=by have hh:zb3 h m p=true:=zkC.2 ⟨H,hm,hp⟩;by_cases e:(ix (ix h.Mons m mZ).Outer p sZ).Page = -1;{have e1:zeH h m p=h:=(by unfold zeH;rw[hh,cond_true,show zg5 h m p=true from zbj.2 e,cond_true]);rw[e1];exact⟨⟨λ_ _ _ _ _=>rfl⟩,e⟩};{have e1:zeH h m p=zdk h m p:=(by unfold zeH;rw[hh,cond_true,show zg5 h m p=false from zbM.2 e,cond_false]);rw[e1];obtain⟨a,b⟩:=zMP H hm hp;exact⟨a,by rw[b];rfl⟩}
structure Way (y:Host) (L:List Bare) (n:Nat):Prop where
 safe:Safe y
 sm:SmH y
 seen:zbz y=L
 len:y.Mons.length=n
theorem Way.out {y:Host}{L:List Bare}{n:Nat}(w:Way y L n)(m p:Int):Way (zeH y m p) L n:=by have k:=zH5 w.safe.ok m p;exact⟨k.safe w.safe,zUw w.sm,(zF5 k.like.len λi=>k.like.seen i).trans w.seen,k.like.len.trans w.len⟩
theorem Way.round {y:Host}{L:List Bare}{n:Nat}(w:Way y L n):Way (zbP y).2 (rnd L 0).1 n/\(zbP y).1=(rnd L 0).2:=by obtain⟨k1,k2,k3,k4⟩:=zRn w.safe;rw[w.seen] at k3 k4;exact⟨⟨k1,(zrA w.sm).sm,k3,k2.trans w.len⟩,k4⟩
theorem zzZ:∀(j:Nat) (L:List Bare) (c:Int),zoZ (j+1) L c=((rnd (zoZ j L c).1 0).1,zD .i64 (zoZ j L c).2 (rnd (zoZ j L c).1 0).2)
 | 0,_,_=>rfl
 |j+1,L,c=>zzZ j (rnd L 0).1 (zD .i64 c (rnd L 0).2)
theorem zWq {y z:Host}{L:List Bare}{n:Nat}(a:Way y L n)(b:Way z L n):zbz y=zbz z:=a.seen.trans b.seen.symm
structure Away (h x:Host) (j:Nat):Prop where
 way:Way x (zbz h) h.Mons.length
 bf:Bf x
 out:∀k:Int,0<=k->k<j->(ix (ix x.Mons 0 mZ).Outer k sZ).Page = -1
theorem Away.next {h x:Host}{j:Nat}(w:Away h x j)(hn:1<=h.Mons.length)(hj:j<8):Away h (zeH x 0 (j:Int)) (j+1):=by have hm:hasB 0 (ln x.Mons)=true:=zC.2 ⟨kY _,by have:=w.way.len;unfold ln;omega⟩;have hp:hasB (j:Int) 8=true:=zC.2 ⟨by omega,by omega⟩;obtain⟨a,b⟩:=z3H w.way.safe.ok hm hp;refine⟨w.way.out 0 _,zUU w.bf 0 _,λk h0 h1=>?_⟩;by_cases e:k=(j:Int);{rw [e];exact b};{rw [a.ne 0 k hm (zC.2 ⟨h0,by omega⟩) λc=>e c.2];exact w.out k h0 (by omega)}
theorem zQR {α β:Type}{f:α->β}{l:List α}{x:β}{xs:List β}(h:l.map f=x::xs):∃a r,l=a::r/\f a=x/\r.map f=xs:=by cases l with|nil=>cases h|cons a r=>simp only[q0,List.cons.injEq]at h;exact⟨a,r,rfl,h.1,h.2⟩
theorem z5f {a:AV}{ct:CTy}(h:some a.sh=some (false,[ct])):∃c,a = .one c/\c.ty=ct:=by cases a with|one c=>simp only[AV.sh,qC,jR,List.cons.injEq,and_true,true_and]at h;exact⟨c,rfl,h⟩|agg l=>simp[AV.sh]at h
theorem z6j {a:AV}{t:Ty}(h:some a.sh=some (false,[.s t])):∃l:List t.den,a = .one (.s t l):=by obtain⟨c,rfl,hc⟩:=z5f h;obtain⟨l,rfl⟩:=zk5 hc;exact⟨l,rfl⟩
section
open Go Go.ChangeShapes Go.WideShapes Go.ChangeAt
abbrev zKm (_:List Int):Bool:=true
abbrev zHA (l:List Int):Bool:=igt (ln l) 1048576
def zML:Run:=rF1 (dS .u8) λb=>(zKm b,[aB<|zHA b])
def zTI (N:Nat)(a0:List Int):OA:=
 (some [aB<|igt (ln a0) 1048576])
theorem zXU (a0:List Int)(hc:zKm a0=true):∃N,zTI N a0=some [aB<|zHA a0]:=by refine⟨0,?_⟩;unfold zTI;first|rfl|(simp only [*,zHA,cT,cF]<;>rfl)|simp_all[Ty.cells,zHA]
theorem zSN:vJ 6 zML:=kF1 zp7 zbi zsl zu (zx []) zXU
def z1N:zS:=[(6,zML),(20,zso),(25,zvI),(26,zxJ),(27,znC),(21,zjH)]++zWZ
theorem zZz:zL z1N:=zh zSN (zh zzw<|zh zEw<|zh zGI<|zh zq5<|zh ztj zp7)
def zpo (N:Nat)(a0:List Int):OA:=
 let y4:=zn9 a0; (oN (zKm a0)<|cond (zHA a0) oT<|oN (ziU a0)<|oN (zhy a0)<|oN (zuk y4 2)<|iter (σ:=(Int×Int×Int×(List Int)×lM×lN×lE×lE×lM×lN×lE×lE×lM×lN×lE×lE×Unit)) N (λr2 s3=>let y10:=s3.2.2.2.2.2.2.2.2.2.2.2.2.1;let y9:=s3.2.2.2.2.2.2.2.2.2.2.2.2.2.2.1;let y8:=s3.2.2.2.2.2.2.2.2.2.2.2.2.2.2.2.1;let y5:=s3.2.2.2.2.2.2.2.2.2.2.2.2.2.1;let y3:=(⟨s3.2.2.2.2.2.2.2.2.1,s3.2.2.2.2.2.2.2.2.2.1,s3.2.2.2.2.2.2.2.2.2.2.1,s3.2.2.2.2.2.2.2.2.2.2.2.1⟩:Host);let y2:=(⟨y10,y5,y9,y8⟩:Host); (cond (ilt s3.2.2.1 2) (iter (σ:=(Int×Int×Int×Int×(List Int)×lM×lN×lE×lE×lM×lN×lE×lE×lM×lN×lE×lE×Unit)) N (λr4 s5=>let y11:=s5.2.2.2.2.2.2.2.2.2.2.2.2.1;let y7:=s5.2.2.2.2.1;let y6:=s5.2.2.2.1;let y0:=(⟨s5.2.2.2.2.2.2.2.2.2.2.2.2.2.1,s5.2.2.2.2.2.2.2.2.2.2.2.2.2.2.1,s5.2.2.2.2.2.2.2.2.2.2.2.2.2.2.2.1,s5.2.2.2.2.2.2.2.2.2.2.2.2.2.2.2.2.1⟩:Host);let y1:=zil y0 (zkT (ix y7 y6 0) 2) y6; (cond (ilt y6 8) (oN (inb y6<|ln y7)<|oN (ine 2 0)<|oN (zgA y0 (zkT (ix y7 y6 0) 2) y6)<|r4 (s5.1,s5.2.1,s5.2.2.1,zD .i64 y6 1,y7,s5.2.2.2.2.2.1,s5.2.2.2.2.2.2.1,s5.2.2.2.2.2.2.2.1,s5.2.2.2.2.2.2.2.2.1,s5.2.2.2.2.2.2.2.2.2.1,s5.2.2.2.2.2.2.2.2.2.2.1,s5.2.2.2.2.2.2.2.2.2.2.2.1,y11,y1.Memory,y1.Mons,y1.Buffer,y1.IoBuffer,()))<|oN (zba y0)<|r2 (s5.1,zD .i64 s5.2.1<|zmh y0,zD .i64 s5.2.2.1 1,y7,s5.2.2.2.2.2.1,s5.2.2.2.2.2.2.1,s5.2.2.2.2.2.2.2.1,s5.2.2.2.2.2.2.2.2.1,s5.2.2.2.2.2.2.2.2.2.1,s5.2.2.2.2.2.2.2.2.2.2.1,s5.2.2.2.2.2.2.2.2.2.2.2.1,y11,(zev y0).Memory,(zev y0).Mons,(zev y0).Buffer,(zev y0).IoBuffer,()))) (s3.1,s3.2.1,s3.2.2.1,0,s3.2.2.2.1,s3.2.2.2.2.1,s3.2.2.2.2.2.1,s3.2.2.2.2.2.2.1,s3.2.2.2.2.2.2.2.1,s3.2.2.2.2.2.2.2.2.1,s3.2.2.2.2.2.2.2.2.2.1,s3.2.2.2.2.2.2.2.2.2.2.1,s3.2.2.2.2.2.2.2.2.2.2.2.1,y10,y5,y9,y8,()))<|cond (ieq s3.1 s3.2.1) (oN (zsD y3 y2)<|cond (zwY y3 y2) (some [aB<|ieq (ln y5)<|ln s3.2.2.2.2.2.1]) oF) oF)) (zjS y4 2,0,0,zkI a0,y4.Memory,y4.Mons,y4.Buffer,y4.IoBuffer,(zgd y4 2).Memory,(zgd y4 2).Mons,(zgd y4 2).Buffer,(zgd y4 2).IoBuffer,y4.Memory,y4.Mons,y4.Buffer,y4.IoBuffer,()))
def zyc:=zx [(5,0,{n:=68,tm:=[(3,.lp 0 0),(4,.sl 0 []),(5,.lp 1 0),(6,ti),(7,.lp 2 0),(8,ti),(9,ti)],lo:=[(0,[.sl 1 [],.sl 2 [],.sl 3 [],.sl 4 []]),(1,[.sl 5 [],.sl 6 [],.sl 7 [],.sl 8 []]),(2,[.sl 9 [],.sl 10 [],.sl 11 [],.sl 12 []])],ro:=[(0,.int,false),(1,.sl .int,false),(2,.mon,false),(3,.entry,false),(4,.entry,false),(5,.sl .int,false),(6,.mon,false),(7,.entry,false),(8,.entry,false),(9,.sl .int,false),(10,.mon,false),(11,.entry,false),(12,.entry,false)]}),(5,2,{n:=68,tm:=[(3,.lp 0 0),(4,.sl 0 []),(5,.lp 1 0),(6,ti),(7,.lp 2 0),(8,ti),(9,ti),(11,ti)],lo:=[(0,[.sl 1 [],.sl 2 [],.sl 3 [],.sl 4 []]),(1,[.sl 5 [],.sl 6 [],.sl 7 [],.sl 8 []]),(2,[.sl 9 [],.sl 10 [],.sl 11 [],.sl 12 []])],ro:=[(0,.int,false),(1,.sl .int,false),(2,.mon,false),(3,.entry,false),(4,.entry,false),(5,.sl .int,false),(6,.mon,false),(7,.entry,false),(8,.entry,false),(9,.sl .int,false),(10,.mon,false),(11,.entry,false),(12,.entry,false)]})]
theorem zQW (N:Nat)(a0:List Int):evalFn (cQ z1N zZ0 zV6 zRR) zyc N 12 5 [aS .u8 a0]=zpo N a0:=by kernel_rfl
theorem zI9 (N:Nat)(a0:List Int)(hl:a0.length<=big)(hN:8<N):Ends (λa=>a=[.one<|.b true]) (zpo N a0):=by
 unfold zpo oN;conv=>zeta
 refine zbT rfl (zdm (λ_=>zGo rfl) λ_=>zbT (zGn hl) (zbT (zRg hl) ?_));obtain⟨S,hs⟩:=zZT (zAj<|zGn hl).2;obtain⟨hp1,hp2⟩:=(zvO<|zRg hl).2;generalize zn9 a0=h at S hs;generalize zkI a0=p at hp1 hp2;have hS:zcJ h:=(zM h).2 hs;have hlp:ln p=12:=(by unfold ln;omega);refine zbT (zbp hS) ?_;obtain⟨f1,f2,f3,f4⟩:=zGr 2 0 S;have hb:(brought 2 0 40).toNat=2:=(by rw[zUY (by omega) (by omega)];rfl);have X:Way (zgd h 2) (zoZ 2 (zbz h) 0).1 h.Mons.length:=(by unfold zgd;rw[hb];exact⟨f1,(zRy _ (0,h) hs).sm,f3,f2⟩);have hn:zjS h 2=(zoZ 2 (zbz h) 0).2:=(by unfold zjS;rw[hb];exact f4);generalize zgd h 2=x at X;generalize zjS h 2=n at hn;refine zp9 (λc s=>∃(j:Nat) (y:Host),s=(n,(zoZ j (zbz h) 0).2,(j:Int),p,h.Memory,h.Mons,h.Buffer,h.IoBuffer,x.Memory,x.Mons,x.Buffer,x.IoBuffer,y.Memory,y.Mons,y.Buffer,y.IoBuffer,())/\Way y (zoZ j (zbz h) 0).1 h.Mons.length/\j+c=2) ?_ N 2 _ ⟨0,h,rfl,⟨S,hs,rfl,rfl⟩,rfl⟩ (by omega);rintro c s rec ⟨j,y,rfl,W,hj⟩ hrec;dsimp only;refine zdm (λhlt=>?_) (λhge=>?_);{have hj2:j<2:=(by have:=qD hlt;omega);refine zp9 (λd s=>∃(k:Nat) (z:Host),s=(n,(zoZ j (zbz h) 0).2,(j:Int),(k:Int),p,h.Memory,h.Mons,h.Buffer,h.IoBuffer,x.Memory,x.Mons,x.Buffer,x.IoBuffer,z.Memory,z.Mons,z.Buffer,z.IoBuffer,())/\Way z (zoZ j (zbz h) 0).1 h.Mons.length/\k+d=8) ?_ N 8 _ ⟨0,y,rfl,W,rfl⟩ hN;rintro d s rec2 ⟨k,z,rfl,Z,hk⟩ hrec2;dsimp only;have hz:zcJ z:=(zM z).2 Z.sm;refine zdm (λhlt2=>?_) (λ_=>?_);{have hk8:k<8:=(by have:=qD hlt2;omega);refine zbT (zA<|zC.2 ⟨by omega,by omega⟩) (zbT rfl (zbT (zbp hz)<|hrec2 (d-1) _ (by omega) ⟨k+1,zeH z (zkT (ix p (k:Int) 0) 2) (k:Int),?_,Z.out _ _,by omega⟩));rw[zlC (show -9223372036854775808<=(k:Int)+1 by omega) (by omega)];rfl};{obtain⟨R1,R2⟩:=Z.round;refine zbT (zbp hz) (hrec (c-1) _ (by omega) ⟨j+1,(zbP z).2,?_,?_,by omega⟩);{rw [zzZ j (zbz h) 0,<- R2,zlC (show -9223372036854775808<=(j:Int)+1 by omega) (by omega)];rfl};{rw [zzZ j (zbz h) 0];exact R1}}};{have hj2:j=2:=(by have:=jQ hge;omega);subst hj2;refine zbT (by rw[hn];exact zgO _) (zbT (zbp ⟨(zM _).2 X.sm,(zM _).2 W.sm,zWq X W⟩) (zbT rfl (zGo ?_)));show [AV.one<|.b<|ieq (y.Mons.length:Int) (h.Mons.length:Int)]=_;rw[W.len,zgO]}
theorem zM1 (a0:List Int)(ho:∀c∈zB [aS .u8 a0],CVOk c):∃N,zpo N a0=some [.one<|.b true]:=by have hb:zbC big [aS .u8 a0]:=λc hc=>CVB.of_ok (ho c hc);have hl:=len0 hb;exact⟨9,z3h (G:=λa=>a=[.one<|.b true])<|zI9 9 a0 hl (by omega)⟩
theorem zIq:Tryz.f5.params.toList.map (zcu Tryz.prog 4)=[some (false,[.s .u8])]:=by kernel_rfl
theorem zA9:zTE 5 Tryz.f5.params.toList:=by refine zSt zZz zbi zsl zu (zje (by kernel_rfl)) ?_;intro avs hg;obtain⟨h1,h2⟩:=hg;rw[zIq]at h1;obtain⟨v0,r0,rfl,e0,h1⟩:=zQR h1;cases List.map_eq_nil_iff.1 h1;obtain⟨a0,rfl⟩:=z6j e0;obtain⟨N,hN⟩:=zM1 a0 h2;exact⟨zyc,N,12,(zQW N a0).trans hN⟩
theorem zLe (H:Type)(ds:List (DataW H))(h:ds.length=Tryz.f5.params.toList.length):Rows.fnWidthSpec.fn H ds={results:=[.lit<|.bool true],args:=ds}:=by
 have hl:ds.length=1:=h.trans (by kernel_rfl)
 match ds,hl with
 |[d],_=>rfl
set_option maxRecDepth 100000 in
theorem zEV (os:Os)(started:os.Started)(H:Type)(enc:TypeId×Value->H) :
 ReturnsInHanded {} Tryz.checked os 5 .any (Rows.fnWidthSpec.pre6 enc Tryz.prog Tryz.f5 Rows.fnWidthRow.domain false) (Rows.fnWidthSpec.post enc Tryz.prog Tryz.f5 false true false false):=by
 refine returnsInHanded_of_change_shaped (C:=Tryz.checked) own started (by kernel_rfl) Tryz.func5
  (ChangeSpec.witness6 (enc:=enc) (C:=Tryz.checked) false ⟨#[],#[.slice none 0 0],[]⟩ 8 (by kernel_rfl) (by kernel_rfl) (by kernel_rfl) (by kernel_rfl)) ?_
 intro W base args ds gs before hval hW _ hsz _ _;exact zHB (P:=Tryz.prog) zY5 zZR rfl zLe (by kernel_rfl) (B:=4) (by kernel_rfl) (by kernel_rfl) zA9 W base args ds gs before hval hW hsz
end
end
end Go.Proofs.YtgjpbkhaaiffkaaGreat.E
