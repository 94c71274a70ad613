/- What is proved here: a part of the proof that the statement of this claim holds (several texts of wip/, laid together). -/
import Derived.Test.YtnnmbkjhakbicaaGreatX6
import Derived.Test.YtnnmbkjhakbicaaGreatProg
namespace Go.Proofs.YtnnmbkjhakbicaaGreat.E
open Go
set_option linter.constructorNameAsVariable false
set_option linter.unusedVariables false
set_option maxRecDepth 100000
set_option linter.unusedSimpArgs false
set_option linter.unusedSectionVars false
noncomputable section
def zTf (N:Nat)(d:Host):OA:=
 (oN (zL d)<|iter (σ:=(Int×Int×lM×lN×lE×lE×lM×lN×lE×lE×Unit)) N (λk b=>let f:=b.2.2.2.2.2.2.2.1; (cond (ilt b.2.1 b.1) (oN (inb b.2.1<|ln f)<|iter (σ:=(Int×Int×Int×Int×Int×Int×lN×lM×lN×lE×lE×lM×lE×lE×Unit)) N (λl a=>let j:=a.2.2.2.2.2.2.2.2.2.2.2.2.1;let i:=a.2.2.2.2.2.2.2.2.2.2.2.2.2.1;let c:=a.2.2.2.2.2.1;let e:=a.2.2.2.2.2.2.1;let h:=ix e a.1 zh;let g:=(ix e a.2.2.2.1 zh).Tables; (cond (ilt c a.2.2.2.2.1) (oN (inb c<|ln g)<|oN (inb a.1<|ln e)<|oN (zdL<|ix g c zdC)<|oN (inb c<|ln h.Tables)<|share (up e a.1 ({h with Tables:=(up h.Tables c<|zoe<|ix g c zdC)}:Mon)) λp=>l (a.1,a.2.1,a.2.2.1,a.2.2.2.1,a.2.2.2.2.1,zG .i64 c 1,p,a.2.2.2.2.2.2.2.1,a.2.2.2.2.2.2.2.2.1,a.2.2.2.2.2.2.2.2.2.1,a.2.2.2.2.2.2.2.2.2.2.1,a.2.2.2.2.2.2.2.2.2.2.2.1,j,i,()))<|k (a.2.1,zG .i64 a.2.2.1 1,a.2.2.2.2.2.2.2.1,a.2.2.2.2.2.2.2.2.1,a.2.2.2.2.2.2.2.2.2.1,a.2.2.2.2.2.2.2.2.2.2.1,a.2.2.2.2.2.2.2.2.2.2.2.1,e,j,i,()))) (b.2.1,b.1,b.2.1,b.2.1,ln (ix f b.2.1 zh).Tables,0,f,b.2.2.1,b.2.2.2.1,b.2.2.2.2.1,b.2.2.2.2.2.1,b.2.2.2.2.2.2.1,b.2.2.2.2.2.2.2.2.1,b.2.2.2.2.2.2.2.2.2.1,()))<|share [] λm=>share [] λn=>some [aH (⟨b.2.2.2.2.2.2.1,f,m,n⟩:Host)])) (ln (zi d).Mons,0,[],[],[],[],(zi d).Memory,(zi d).Mons,(zi d).Buffer,(zi d).IoBuffer,()))
def z0h:=zq [(126,0,{n:=42,tm:=[(2,.lp 0 0),(3,.lp 1 0),(11,ti),(12,ti)],lo:=[(0,[.sl 0 [],.sl 1 [],.sl 2 [],.sl 3 []]),(1,[.sl 4 [],.sl 5 [],.sl 6 [],.sl 7 []])],ro:=[(0,.sl .int,true),(1,.mon,true),(2,.entry,true),(3,.entry,true),(4,.sl .int,true),(5,.mon,true),(6,.entry,true),(7,.entry,true)]}),(126,2,{n:=42,tm:=[(2,.lp 0 0),(3,.lp 1 0),(4,ti),(11,ti),(12,ti),(20,.sl 0 [7]),(21,ti),(22,ti)],lo:=[(0,[.sl 1 [],.sl 2 [],.sl 3 [],.sl 4 []]),(1,[.sl 5 [],.sl 0 [],.sl 6 [],.sl 7 []])],ro:=[(0,.mon,true),(1,.sl .int,true),(2,.mon,true),(3,.entry,true),(4,.entry,true),(5,.sl .int,true),(6,.entry,true),(7,.entry,true)]})]
theorem zZo (a:Host)(p:zL a=true):∃N,zTf N a=some [aH<|zx1 a]:=by
 have v:=(zJ a).1 (zB.1 p);have s:=zbV v.2.1.1;refine zbG λN f=>?_;unfold zTf oN;conv=>zeta
 refine must p ?_;refine(zrb a.Mons.length (λi (t:List Mon)=>(ln a.Mons,(i:Int),[],[],[],[],a.Memory,t,a.Buffer,a.IoBuffer,())) _ (λi t=>zpL t/\t.length=a.Mons.length) (λi t=>some [AV.agg<|zbb ⟨a.Memory,zBP (a.Mons.length-i) i t,[],[]⟩]) (λi t rec k e x=>?_) (λt rec e=>?_) N 0 a.Mons ⟨v.2.1,rfl⟩ (jX _)<|f s.1).trans rfl
 .have hit:i<t.length:=(by rw[e.2];exact k);have n:zft (ix t (i:Int) mZ):=by rw[zX hit];exact e.1.2 _ (jA hit)
  have r:=zbV n.2.2.2.2.2.1;refine must (zbf k) (must (zO hit) ?_);refine(zrb (ix t (i:Int) mZ).Tables.length (λj (u:List Mon)=>((i:Int),ln a.Mons,(i:Int),(i:Int),ln (ix t (i:Int) mZ).Tables,(j:Int),u,[],[],[],[],a.Memory,a.Buffer,a.IoBuffer,()))
   _ (λj u=>u.length=t.length/\zft (ix u (i:Int) mZ)/\(ix u (i:Int) mZ).Tables.length=(ix t (i:Int) mZ).Tables.length)
   (λj u=>rec (ln a.Mons,((i+1:Nat):Int),[],[],[],[],a.Memory,up u (i:Int)<|zDm (ix u (i:Int) mZ) ((ix t (i:Int) mZ).Tables.length-j) j,a.Buffer,a.IoBuffer,()))
   (λj u h l b m=>?_) (λu h b=>?_) N 0 t ⟨rfl,n,rfl⟩ (jX _) (f r.1)).trans ?_
  .have c:i<u.length:=(by rw[b.1];exact hit);have d:j<(ix u (i:Int) mZ).Tables.length:=(by rw[b.2.2];exact l);have g:SmK (ix (ix u (i:Int) mZ).Tables (j:Int) kZ):=by rw[zX d];exact b.2.1.2.2.2.2.2.2 _ (jA d)
   refine must (zbf l) (must (zO d)<|must (zO c)<|must (zN g)<|must (zO d)<|shr ?_);have w:zft {ix u (i:Int) mZ with Tables:=up (ix u (i:Int) mZ).Tables (j:Int) (zng<|ix (ix u (i:Int) mZ).Tables (j:Int) kZ)} :=
    ⟨b.2.1.1,b.2.1.2.1,b.2.1.2.2.1,b.2.1.2.2.2.1,b.2.1.2.2.2.2.1,zt4 b.2.1.2.2.2.2.2<|zse _ _ _ g⟩
   have q:=m (up u (i:Int) {ix u (i:Int) mZ with Tables:=up (ix u (i:Int) mZ).Tables (j:Int) (zng<|ix (ix u (i:Int) mZ).Tables (j:Int) kZ)}) ⟨by rw[zf4];exact b.1,by rw[zdE c];exact w,by rw[zdE c];simp only[zf4];exact b.2.2⟩;rw[zV l r.1];refine q.trans ?_;rw[zdE c,zqV,show (ix t (i:Int) mZ).Tables.length-j=(ix t (i:Int) mZ).Tables.length-(j+1)+1 by omega];rfl
  {have c:i<u.length:=(by rw[b.1];exact hit);refine zbA (by show ilt ((ix t (i:Int) mZ).Tables.length:Int) (ln (ix t (i:Int) mZ).Tables)=false;exact qI (by simp only[ln];omega)) ?_;rw[zV k s.1,kQ];show rec _=rec (ln a.Mons,_,[],[],[],[],a.Memory,up u (i:Int)<|ix u (i:Int) mZ,_);rw[zDM c]};{have q:=x (up t (i:Int)<|zDm (ix t (i:Int) mZ) (ix t (i:Int) mZ).Tables.length 0) ⟨zj7 e.1<|zzc n (by omega),by rw[zf4];exact e.2⟩;refine q.trans ?_;rw[show a.Mons.length-i=a.Mons.length-(i+1)+1 by omega];rfl}
 {refine zbA (by show ilt (a.Mons.length:Int) (ln a.Mons)=false;exact qI (by simp only[ln];omega)) ?_;rw[kQ];rfl}
theorem zT0:vF 126 ztI:=kF1 zQr zl zbs zbC z0h zZo
def z0R:zY:=[(126,ztI)]++z0Q
theorem zQs:zK z0R:=zf zT0 zQr
theorem zAp:∀(n i:Nat) (t:List Mon),i+n<=t.length->zpL t->zpL (zBP n i t)
 | 0,_,_,_,h=>h
 |n+1,i,t,b,h=>by have a:i<t.length:=(by omega);refine zAp n (i+1) _ (by rw[zf4];omega) (zj7 h<|zzc ?_ (by omega));rw[zX a];exact h.2 _ (jA a)
theorem z3T {h:Host}(a:SmH h):SmH (cold h):=⟨a.1,zAp _ _ _ (by omega) a.2.1,by simp[cold],by simp[cold]⟩
theorem zpi {h:Host}{m:Int}{b:Bare}(c:SmH h)(d:zcc h m=true->SmB b):SmH (zgm h m b):=by unfold zgm;cases a:zcc h m;{exact c};{exact zza c (zbn.1 a).2 (d a).2.1}
theorem z2f {h:Host}{m g p:Int}(c:SmH h):SmH (zmH h m g p):=by unfold zmH;cases e:zcc h m;{exact c};{cases l:zce (zS h m) g (hasB p 4);{exact c};{have d:=(zbn.1 e).2;have f:=zet c d;have k:SmB (chg (zS h m) g (hasB p 4)<|zjT (gAt (zS h m) g) p):=zh1 f (zqU _<|zfn _ f);have b:=zza c d k.2.1;have i:=zGI (chg (zS h m) g (hasB p 4)<|zjT (gAt (zS h m) g) p) d;have j:=zCa c e (chg (zS h m) g (hasB p 4)<|zjT (gAt (zS h m) g) p) l;have a:=b.2.1.2 _ (zbz i mZ);simp only[cT];exact⟨b.1,zj7 b.2.1 ⟨a.1,a.2.1,a.2.2.1,a.2.2.2.1,a.2.2.2.2.1,zt4 a.2.2.2.2.2<|znQ<|a.2.2.2.2.2.2 _<|zbz j _⟩,qX (zyv _ _ _) b.2.2.1,qX (zyv _ _ _) b.2.2.2⟩}}
theorem z3U {h:Host}{m p c v:Int}(e:SmH h):SmH (zo4 h m p c v):=by unfold zo4;cases a:zeM h m p c v;{exact e};{have f:zb6 h m p=true:=(by unfold zeM at a;cases b:zb6 h m p;{rw [b]at a;cases a};{rfl});obtain⟨g,i,b⟩:=ziC.1 f;have d:=(zu9 (n:=2) (ze9 e g) i b).1.1;exact⟨zpj d.1,d.2⟩}
theorem zU2 {h:Host}{m g c a:Int}(b:List Entry)(i:Bool)(f:SmH h)(d:zb8 h m g c a=true):SmH (lookOf h b m g c a i).1:=by have hg:zcn h m g=true:=(by unfold zb8 at d;cases e:zcn h m g;{rw [e]at d;cases d};{rfl});exact(ztX f hg).shape.1
theorem z7y {h:Host}{m g a v:Int}(e:SmH h):SmH (zq9 h m g a v):=by unfold zq9;cases b:zlb h m g a v;{exact e};{have f:zb8 h m g (zcj a) 2=true:=(by unfold zlb at b;cases c:zk a 0 15;{rw [c]at b;cases b};{cases d:zk v 0 99;{rw [c,d]at b;cases b};{rw [c,d]at b;exact b}});have c:=zU2 h.IoBuffer true e f;exact⟨zpj c.1,c.2⟩}
theorem z3V {h:Host}{m g a:Int}(d:SmH h):SmH (zo5 h m g a):=by unfold zo5;cases b:zil h m g a;{exact d};{have e:zb8 h m g (zcj a) 1=true:=(by unfold zil at b;cases c:zk a 0 15;{rw [c]at b;cases b};{rw [c]at b;exact b});exact zU2 h.IoBuffer true d e}
theorem z7z {h:Host}{m p:Int}(a:SmH h):SmH (zri h m p):=by unfold zri;cases b:zb6 h m p;{exact a};{obtain⟨c,d,e⟩:=ziC.1 b;cases zkw h m p;{exact(zL9 (ze9 a c).1 d).1};{exact a}}
theorem z8N {h:Host}{m p:Int}(a:SmH h):SmH (zuQ h m p):=by unfold zuQ;cases b:zb6 h m p;{exact a};{obtain⟨c,d,e⟩:=ziC.1 b;cases zkw h m p;{exact a};{exact(zlU (ze9 a c) d e).1.1}}
theorem z2j {h:Host}{m t:Int}(a:SmH h):SmH (zpg h m t):=by unfold zpg;cases zbP h;{exact a};{cases c:hasB m (ln h.Mons);{exact a};{cases zk t 0 3;{exact a};{have b:zft (ix h.Mons m mZ):=a.2.1.2 _ (zbz c mZ);exact⟨a.1,zj7 a.2.1 ⟨b.1,b.2.1,b.2.2.1,b.2.2.2.1,b.2.2.2.2.1,b.2.2.2.2.2⟩,a.2.2⟩}}}
def zhD (h:Host)(a:GAct):Host:=bif ieq a.Kind 1 then (zcu h a.M a.G).1 else (cond (ieq a.Kind 2) (zf9 h a.M a.G a.X ⟨a.Y,a.Z⟩)<|cond (ieq a.Kind 3) (zmH h a.M a.G a.X)<|cond (ieq a.Kind 4) (zeC h a.M a.G a.X)<|cond (ieq a.Kind 5) (zeE h a.M a.G)<|cond (ieq a.Kind 6) (zeD h a.M a.G a.X)<|cond (ieq a.Kind 7) (zhd h a.M a.G ⟨a.X,a.Y,ieq a.Z 1⟩)<|cond (ieq a.Kind 8) (zo4 h a.M a.X a.Y a.Z)<|cond (ieq a.Kind 9) (zfE h a.M a.X)<|cond (ieq a.Kind 10) (zf8 h a.M)<|cond (ieq a.Kind 11) (zq9 h a.M a.G a.X a.Y)<|zo5 h a.M a.G a.X)
def zi8 (h:Host)(a:GAct):Told:=bif ieq a.Kind 1 then ⟨(zcu h a.M a.G).2,0⟩ else (cond (ieq a.Kind 2) ⟨zhf h a.M a.G a.X ⟨a.Y,a.Z⟩,0⟩<|cond (ieq a.Kind 3) ⟨zfO h a.M a.G a.X,0⟩<|cond (ieq a.Kind 4) ⟨zfd h a.M a.G a.X,0⟩<|cond (ieq a.Kind 5) ⟨zff h a.M a.G,0⟩<|cond (ieq a.Kind 6) ⟨zfe h a.M a.G a.X,0⟩<|cond (ieq a.Kind 7) ⟨zhe h a.M a.G ⟨a.X,a.Y,ieq a.Z 1⟩,0⟩<|cond (ieq a.Kind 8) ⟨zeM h a.M a.X a.Y a.Z,0⟩<|cond (ieq a.Kind 9) ⟨zgl h a.M a.X,0⟩<|cond (ieq a.Kind 10) ⟨zhc h a.M,zhb h a.M⟩<|cond (ieq a.Kind 11) ⟨zlb h a.M a.G a.X a.Y,0⟩<|⟨zil h a.M a.G a.X,zsw h a.M a.G a.X⟩)
def zmP (h:Host)(a:GAct):Host:=bif ieq a.Kind 13 then zri h a.M a.X else (cond (ieq a.Kind 14) (zuQ h a.M a.X)<|cond (ieq a.Kind 15) (zur h a.M a.X)<|cond (ieq a.Kind 16) (zpg h a.M a.X)<|cold h)
def zp6 (h:Host)(a:GAct):Told:=bif ieq a.Kind 13 then ⟨zsz h a.M a.X,0⟩ else (cond (ieq a.Kind 14) ⟨zuR h a.M a.X,0⟩<|cond (ieq a.Kind 15) ⟨zb6 h a.M a.X,0⟩<|cond (ieq a.Kind 16) ⟨zqT h a.M a.X,0⟩<|⟨true,0⟩)
def zbR (h:Host)(a:GAct):Host:=bif zk a.Kind 1 17 then (cond (zk a.Kind 13 17) (zmP h a)<|zhD h a) else h
def zcf (h:Host)(a:GAct):Told:=bif zk a.Kind 1 17 then (cond (zk a.Kind 13 17) (zp6 h a)<|zi8 h a) else ⟨false,0⟩
theorem z2i {h:Host}{a:GAct}(b:SmH h):SmH (zmP h a):=by unfold zmP;cases ieq a.Kind 13;{cases ieq a.Kind 14;{cases ieq a.Kind 15;{cases ieq a.Kind 16;{exact z3T b};{exact z2j b}};{exact z2g b}};{exact z8N b}};{exact z7z b}
theorem z2h {h:Host}{a:GAct}(c:SmH h):SmH (zhD h a):=by have d:zcc h a.M=true->SmB (zS h a.M):=λb=>zet c (zbn.1 b).2;unfold zhD;cases ieq a.Kind 1;{cases ieq a.Kind 2;{cases ieq a.Kind 3;{cases ieq a.Kind 4;{cases ieq a.Kind 5;{cases ieq a.Kind 6;{cases ieq a.Kind 7;{cases ieq a.Kind 8;{cases ieq a.Kind 9;{cases ieq a.Kind 10;{cases ieq a.Kind 11;{exact z3V c};{exact z7y c}};{exact zpi c (λb=>zPp (d b))}};{exact zpi c (λb=>zIw _ (d b))}};{exact z3U c}};{exact zpi c (λb=>zPq _ _ (d b))}};{exact zpi c (λb=>zy8 _ _ (d b))}};{exact zpi c (λb=>zy9 _ (d b))}};{exact zpi c (λb=>zy7 _ _ (d b))}};{exact z2f c}};{exact zpi c (λb=>zPr _ _ _ (d b))}};{exact(z2d a.M a.G c).sm}
theorem zPt {h:Host}{a:GAct}(b:SmH h):SmH (zbR h a):=by unfold zbR;cases zk a.Kind 1 17;{exact b};{cases zk a.Kind 13 17;{exact z2h b};{exact z2i b}}
@[simp] abbrev zfL (h:Host)(a:GAct):Bool:=pc (zdJ h)
@[simp] abbrev zm2 (h:Host)(a:GAct):Host:=zmP h a
@[simp] abbrev zk7 (h:Host)(a:GAct):Told:=zp6 h a
def zx0:Run:=rF2 dH (dT .act) λb c=>(zfL b c,[aH<|zm2 b c,aT .told<|zk7 b c])
def zBH (N:Nat)(c:Host)(a:GAct):OA:=
 (cond (ieq a.Kind 13) (oN (zeH c a.M a.X)<|some [aH<|ziG c a.M a.X,.agg [.b<|zkl c a.M a.X,.i .i64 0]])<|cond (ieq a.Kind 14) (oN (zeH c a.M a.X)<|some [aH<|zj2 c a.M a.X,.agg [.b<|zlD c a.M a.X,.i .i64 0]])<|cond (ieq a.Kind 15) (oN (zeH c a.M a.X)<|some [aH<|zjZ c a.M a.X,.agg [.b<|zdY c a.M a.X,.i .i64 0]])<|cond (ieq a.Kind 16) (oN (zm0 c a.M a.X)<|some [aH<|zhP c a.M a.X,.agg [.b<|zjs c a.M a.X,.i .i64 0]])<|oN (zL c)<|some [aH<|zx1 c,.agg [.b true,.i .i64 0]])
theorem zPb (a:Host)(b:GAct)(c:zfL a b=true):∃N,zBH N a b=some [aH<|zm2 a b,aT .told<|zk7 a b]:=by have d:=zB.1 c;refine⟨0,?_⟩;unfold zBH oN;refine br (λ_=>mu ?_) (λ_=>br (λ_=>mu ?_) λ_=>br (λ_=>mu ?_) λ_=>br (λ_=>mu ?_) λ_=>mu ?_);all_goals first|rfl|(simp only [*,zm2,zk7,zmP,zp6,cT,cF]<;>rfl)|simp_all[Ty.cells,zm2,zk7,zmP,zp6]
theorem zHU:vF 128 zx0:=kF2 zQs zl zbs zbC (zq []) zPb
def z0S:zY:=[(128,zx0),(92,zl5),(86,zl5),(53,zgE),(48,zgE),(101,zl6),(116,zl6)]++z0R
theorem zB0:zK z0S:=zf zHU (zf zzS<|zf zzP<|zf zpU<|zf zpT<|zf zzT<|zf zzQ zQs)
@[simp] abbrev zhl (h:Host)(a:GAct):Host:=zbR h a
@[simp] abbrev zhm (h:Host)(a:GAct):Told:=zcf h a
def zoE:Run:=rF2 dH (dT .act) λb c=>(zfL b c,[aH<|zhl b c,aT .told<|zhm b c])
def zFs (N:Nat)(c:Host)(a:GAct):OA:=
 let d:=(⟨a.Y,a.Z⟩:Slot); (oN (zgF a)<|cond (nB<|zpA a) (oN (zL c)<|some [aH<|zi c,.agg [.b false,.i .i64 0]])<|oN (zhn a.Kind)<|cond (zhO a.Kind) (oN (zfL c a)<|some [aH<|zm2 c a,.agg [.b (zk7 c a).Ok,.i .i64 (zk7 c a).N]])<|cond (ieq a.Kind 1) (oN (zcY c a.M a.G)<|some [aH<|zcb c a.M a.G,.agg [.b<|zch c a.M a.G,.i .i64 0]])<|cond (ieq a.Kind 2) (oN (zoi c a.M a.G a.X d)<|some [aH<|zf9 c a.M a.G a.X d,.agg [.b<|zhf c a.M a.G a.X d,.i .i64 0]])<|cond (ieq a.Kind 3) (oN (zlS c a.M a.G a.X)<|some [aH<|zgI c a.M a.G a.X,.agg [.b<|zfO c a.M a.G a.X,.i .i64 0]])<|cond (ieq a.Kind 4) (oN (zkW c a.M a.G a.X)<|some [aH<|zeC c a.M a.G a.X,.agg [.b<|zfd c a.M a.G a.X,.i .i64 0]])<|cond (ieq a.Kind 5) (oN (zkY c a.M a.G)<|some [aH<|zeE c a.M a.G,.agg [.b<|zff c a.M a.G,.i .i64 0]])<|cond (ieq a.Kind 6) (oN (zkX c a.M a.G a.X)<|some [aH<|zeD c a.M a.G a.X,.agg [.b<|zfe c a.M a.G a.X,.i .i64 0]])<|cond (ieq a.Kind 7) (oN (zgF a)<|oN (zof c a.M a.G<|zgy a)<|some [aH<|zhd c a.M a.G<|zgy a,.agg [.b<|zhe c a.M a.G<|zgy a,.i .i64 0]])<|cond (ieq a.Kind 8) (oN (zmW c a.M a.X a.Y a.Z)<|some [aH<|zjl c a.M a.X a.Y a.Z,.agg [.b<|zjm c a.M a.X a.Y a.Z,.i .i64 0]])<|cond (ieq a.Kind 9) (oN (zmX c a.M a.X)<|some [aH<|zfE c a.M a.X,.agg [.b<|zgl c a.M a.X,.i .i64 0]])<|cond (ieq a.Kind 10) (oN (zcV c a.M)<|some [aH<|zf8 c a.M,.agg [.b<|zhc c a.M,.i .i64<|zhb c a.M]])<|cond (ieq a.Kind 11) (oN (zog c a.M a.G a.X a.Y)<|some [aH<|zki c a.M a.G a.X a.Y,.agg [.b<|zkj c a.M a.G a.X a.Y,.i .i64 0]])<|oN (zmY c a.M a.G a.X)<|some [aH<|zhN c a.M a.G a.X,.agg [.b<|zjo c a.M a.G a.X,.i .i64<|zjn c a.M a.G a.X]])
theorem zSf (a:Host)(b:GAct)(c:zfL a b=true):∃N,zFs N a b=some [aH<|zhl a b,aT .told<|zhm a b]:=by
 have d:=zB.1 c;refine⟨0,?_⟩;unfold zFs oN nB;conv=>zeta
 refine must rfl (brN (λ_=>mu ?_) λ_=>must rfl (br (λ_=>mu ?_) λ_=>br (λ_=>mu ?_) λ_=>br (λ_=>mu ?_) λ_=>br (λ_=>mu ?_) λ_=>br (λ_=>mu ?_) λ_=>br (λ_=>mu ?_) λ_=>br (λ_=>mu ?_) λ_=>br (λ_=>must rfl (mu ?_)) λ_=>br (λ_=>mu ?_) λ_=>br (λ_=>mu ?_) λ_=>br (λ_=>mu ?_) λ_=>br (λ_=>mu ?_) λ_=>mu ?_));all_goals first|rfl|(simp only [*,zhl,zhm,zbR,zcf,zhD,zi8,cT,cF]<;>rfl)|simp_all[Ty.cells,zhl,zhm,zbR,zcf,zhD,zi8]
theorem zKC:vF 51 zoE:=kF2 zB0 zl zbs zbC (zq []) zSf
theorem z8Y {h:Host}{a:GAct}(b:ieq a.Kind 1=true):zbR h a=(zcu h a.M a.G).1/\zcf h a=⟨(zcu h a.M a.G).2,0⟩:=by have e:a.Kind=1:=qD b;constructor;{unfold zbR zhD;rw[e];rfl};{unfold zcf zi8;rw[e];rfl}
theorem z8Z {h:Host}{a:GAct}(b:ieq a.Kind 2=true):zbR h a=zf9 h a.M a.G a.X ⟨a.Y,a.Z⟩/\zcf h a=⟨zhf h a.M a.G a.X ⟨a.Y,a.Z⟩,0⟩:=by have e:a.Kind=2:=qD b;constructor;{unfold zbR zhD;rw[e];rfl};{unfold zcf zi8;rw[e];rfl}
theorem z81 {h:Host}{a:GAct}(b:ieq a.Kind 3=true):zbR h a=zmH h a.M a.G a.X/\zcf h a=⟨zfO h a.M a.G a.X,0⟩:=by have e:a.Kind=3:=qD b;constructor;{unfold zbR zhD;rw[e];rfl};{unfold zcf zi8;rw[e];rfl}
theorem z88 {h:Host}{a:GAct}(b:ieq a.Kind 4=true):zbR h a=zeC h a.M a.G a.X/\zcf h a=⟨zfd h a.M a.G a.X,0⟩:=by have e:a.Kind=4:=qD b;constructor;{unfold zbR zhD;rw[e];rfl};{unfold zcf zi8;rw[e];rfl}
theorem z9a {h:Host}{a:GAct}(b:ieq a.Kind 5=true):zbR h a=zeE h a.M a.G/\zcf h a=⟨zff h a.M a.G,0⟩:=by have e:a.Kind=5:=qD b;constructor;{unfold zbR zhD;rw[e];rfl};{unfold zcf zi8;rw[e];rfl}
theorem z9b {h:Host}{a:GAct}(b:ieq a.Kind 6=true):zbR h a=zeD h a.M a.G a.X/\zcf h a=⟨zfe h a.M a.G a.X,0⟩:=by have e:a.Kind=6:=qD b;constructor;{unfold zbR zhD;rw[e];rfl};{unfold zcf zi8;rw[e];rfl}
theorem z9c {h:Host}{a:GAct}(b:ieq a.Kind 7=true):zbR h a=zhd h a.M a.G ⟨a.X,a.Y,ieq a.Z 1⟩/\zcf h a=⟨zhe h a.M a.G ⟨a.X,a.Y,ieq a.Z 1⟩,0⟩:=by have e:a.Kind=7:=qD b;constructor;{unfold zbR zhD;rw[e];rfl};{unfold zcf zi8;rw[e];rfl}
theorem z9d {h:Host}{a:GAct}(b:ieq a.Kind 8=true):zbR h a=zo4 h a.M a.X a.Y a.Z/\zcf h a=⟨zeM h a.M a.X a.Y a.Z,0⟩:=by have e:a.Kind=8:=qD b;constructor;{unfold zbR zhD;rw[e];rfl};{unfold zcf zi8;rw[e];rfl}
theorem z9e {h:Host}{a:GAct}(b:ieq a.Kind 9=true):zbR h a=zfE h a.M a.X/\zcf h a=⟨zgl h a.M a.X,0⟩:=by have e:a.Kind=9:=qD b;constructor;{unfold zbR zhD;rw[e];rfl};{unfold zcf zi8;rw[e];rfl}
theorem z7H {h:Host}{a:GAct}(b:ieq a.Kind 10=true):zbR h a=zf8 h a.M/\zcf h a=⟨zhc h a.M,zhb h a.M⟩:=by have e:a.Kind=10:=qD b;constructor;{unfold zbR zhD;rw[e];rfl};{unfold zcf zi8;rw[e];rfl}
theorem z7I {h:Host}{a:GAct}(b:ieq a.Kind 11=true):zbR h a=zq9 h a.M a.G a.X a.Y/\zcf h a=⟨zlb h a.M a.G a.X a.Y,0⟩:=by have e:a.Kind=11:=qD b;constructor;{unfold zbR zhD;rw[e];rfl};{unfold zcf zi8;rw[e];rfl}
theorem z7J {h:Host}{a:GAct}(b:ieq a.Kind 12=true):zbR h a=zo5 h a.M a.G a.X/\zcf h a=⟨zil h a.M a.G a.X,zsw h a.M a.G a.X⟩:=by have e:a.Kind=12:=qD b;constructor;{unfold zbR zhD;rw[e];rfl};{unfold zcf zi8;rw[e];rfl}
theorem z7K {h:Host}{a:GAct}(b:ieq a.Kind 13=true):zbR h a=zri h a.M a.X/\zcf h a=⟨zsz h a.M a.X,0⟩:=by have e:a.Kind=13:=qD b;constructor;{unfold zbR zmP;rw[e];rfl};{unfold zcf zp6;rw[e];rfl}
theorem z7L {h:Host}{a:GAct}(b:ieq a.Kind 14=true):zbR h a=zuQ h a.M a.X/\zcf h a=⟨zuR h a.M a.X,0⟩:=by have e:a.Kind=14:=qD b;constructor;{unfold zbR zmP;rw[e];rfl};{unfold zcf zp6;rw[e];rfl}
theorem z7M {h:Host}{a:GAct}(b:ieq a.Kind 15=true):zbR h a=zur h a.M a.X/\zcf h a=⟨zb6 h a.M a.X,0⟩:=by have e:a.Kind=15:=qD b;constructor;{unfold zbR zmP;rw[e];rfl};{unfold zcf zp6;rw[e];rfl}
theorem z7N {h:Host}{a:GAct}(b:ieq a.Kind 16=true):zbR h a=zpg h a.M a.X/\zcf h a=⟨zqT h a.M a.X,0⟩:=by have e:a.Kind=16:=qD b;constructor;{unfold zbR zmP;rw[e];rfl};{unfold zcf zp6;rw[e];rfl}
theorem z7O {h:Host}{a:GAct}(b:ieq a.Kind 17=true):zbR h a=cold h/\zcf h a=⟨true,0⟩:=by have e:a.Kind=17:=qD b;constructor;{unfold zbR zmP;rw[e];rfl};{unfold zcf zp6;rw[e];rfl}
theorem z8X {h:Host}{a:GAct}(l:ieq a.Kind 1=false)(m:ieq a.Kind 2=false)(n:ieq a.Kind 3=false)(p:ieq a.Kind 4=false)(q:ieq a.Kind 5=false)(r:ieq a.Kind 6=false)(s:ieq a.Kind 7=false)(t:ieq a.Kind 8=false)(u:ieq a.Kind 9=false)(b:ieq a.Kind 10=false)(c:ieq a.Kind 11=false)(d:ieq a.Kind 12=false)(e:ieq a.Kind 13=false)(f:ieq a.Kind 14=false)(g:ieq a.Kind 15=false)(i:ieq a.Kind 16=false)(j:ieq a.Kind 17=false):zbR h a=h/\zcf h a=⟨false,0⟩:=by have k:zk a.Kind 1 17=false:=(by cases k:zk a.Kind 1 17;{rfl};{have:=ze4.1 k;have:=qM l;have:=qM m;have:=qM n;have:=qM p;have:=qM q;have:=qM r;have:=qM s;have:=qM t;have:=qM u;have:=qM b;have:=qM c;have:=qM d;have:=qM e;have:=qM f;have:=qM g;have:=qM i;have:=qM j;omega});unfold zbR zcf;rw[k];exact⟨rfl,rfl⟩
def zEZ (N:Nat)(c:Host)(a:GAct):OA:=
 let g:=zhd c a.M a.G<|zgy a;let f:=zki c a.M a.G a.X a.Y;let e:=zjl c a.M a.X a.Y a.Z;let d:=(⟨a.Y,a.Z⟩:Slot); (cond (ieq a.Kind 1) (oN (zcY c a.M a.G)<|oN (zL<|zcb c a.M a.G)<|some [aH<|zi<|zcb c a.M a.G,.agg [.b<|zch c a.M a.G,.i .i64 0]])<|cond (ieq a.Kind 2) (oN (zoi c a.M a.G a.X d)<|oN (zL<|zf9 c a.M a.G a.X d)<|some [aH<|zi<|zf9 c a.M a.G a.X d,.agg [.b<|zhf c a.M a.G a.X d,.i .i64 0]])<|cond (ieq a.Kind 3) (oN (zlS c a.M a.G a.X)<|oN (zL<|zgI c a.M a.G a.X)<|some [aH<|zi<|zgI c a.M a.G a.X,.agg [.b<|zfO c a.M a.G a.X,.i .i64 0]])<|cond (ieq a.Kind 4) (oN (zkW c a.M a.G a.X)<|oN (zL<|zeC c a.M a.G a.X)<|some [aH<|zi<|zeC c a.M a.G a.X,.agg [.b<|zfd c a.M a.G a.X,.i .i64 0]])<|cond (ieq a.Kind 5) (oN (zkY c a.M a.G)<|oN (zL<|zeE c a.M a.G)<|some [aH<|zi<|zeE c a.M a.G,.agg [.b<|zff c a.M a.G,.i .i64 0]])<|cond (ieq a.Kind 6) (oN (zkX c a.M a.G a.X)<|oN (zL<|zeD c a.M a.G a.X)<|some [aH<|zi<|zeD c a.M a.G a.X,.agg [.b<|zfe c a.M a.G a.X,.i .i64 0]])<|cond (ieq a.Kind 7) (oN (zgF a)<|oN (zof c a.M a.G<|zgy a)<|oN (zL g)<|some [aH<|zi g,.agg [.b<|zhe c a.M a.G<|zgy a,.i .i64 0]])<|cond (ieq a.Kind 8) (oN (zmW c a.M a.X a.Y a.Z)<|oN (zL e)<|some [aH<|zi e,.agg [.b<|zjm c a.M a.X a.Y a.Z,.i .i64 0]])<|cond (ieq a.Kind 9) (oN (zmX c a.M a.X)<|oN (zL<|zfE c a.M a.X)<|some [aH<|zi<|zfE c a.M a.X,.agg [.b<|zgl c a.M a.X,.i .i64 0]])<|cond (ieq a.Kind 10) (oN (zcV c a.M)<|oN (zL<|zf8 c a.M)<|some [aH<|zi<|zf8 c a.M,.agg [.b<|zhc c a.M,.i .i64<|zhb c a.M]])<|cond (ieq a.Kind 11) (oN (zog c a.M a.G a.X a.Y)<|oN (zL f)<|some [aH<|zi f,.agg [.b<|zkj c a.M a.G a.X a.Y,.i .i64 0]])<|cond (ieq a.Kind 12) (oN (zmY c a.M a.G a.X)<|oN (zL<|zhN c a.M a.G a.X)<|some [aH<|zi<|zhN c a.M a.G a.X,.agg [.b<|zjo c a.M a.G a.X,.i .i64<|zjn c a.M a.G a.X]])<|cond (ieq a.Kind 13) (oN (zeH c a.M a.X)<|oN (zL<|ziG c a.M a.X)<|some [aH<|zi<|ziG c a.M a.X,.agg [.b<|zkl c a.M a.X,.i .i64 0]])<|cond (ieq a.Kind 14) (oN (zeH c a.M a.X)<|oN (zL<|zj2 c a.M a.X)<|some [aH<|zi<|zj2 c a.M a.X,.agg [.b<|zlD c a.M a.X,.i .i64 0]])<|cond (ieq a.Kind 15) (oN (zeH c a.M a.X)<|oN (zL<|zjZ c a.M a.X)<|some [aH<|zi<|zjZ c a.M a.X,.agg [.b<|zvX c a.M a.X,.i .i64 0]])<|cond (ieq a.Kind 16) (oN (zm0 c a.M a.X)<|oN (zL<|zhP c a.M a.X)<|some [aH<|zi<|zhP c a.M a.X,.agg [.b<|zjs c a.M a.X,.i .i64 0]])<|cond (ieq a.Kind 17) (oN (zL c)<|oN (zL<|zx1 c)<|some [aH<|zi<|zx1 c,.agg [.b true,.i .i64 0]])<|oN (zL c)<|some [aH<|zi c,.agg [.b false,.i .i64 0]])
theorem zRN (a:Host)(b:GAct)(c:zfL a b=true):∃N,zEZ N a b=some [aH<|zhl a b,aT .told<|zhm a b]:=by
 have d:=zB.1 c;have e:zdJ (zbR a b):=(zJ _).2 (zPt<|(zJ _).1 d);have p:=@z8Y a b;have q:=@z8Z a b;have r:=@z81 a b;have s:=@z88 a b;have t:=@z9a a b;have u:=@z9b a b;have v:=@z9c a b;have w:=@z9d a b;have x:=@z9e a b;have f:=@z7H a b;have g:=@z7I a b;have h:=@z7J a b;have i:=@z7K a b;have j:=@z7L a b;have k:=@z7M a b;have l:=@z7N a b;have m:=@z7O a b;have n:=@z8X a b;refine⟨0,?_⟩;unfold zEZ oN;conv=>zeta
 refine br (λ_=>mu (mu ?_)) (λ_=>br (λ_=>mu (mu ?_)) λ_=>br (λ_=>mu (mu ?_)) λ_=>br (λ_=>mu (mu ?_)) λ_=>br (λ_=>mu (mu ?_)) λ_=>br (λ_=>mu (mu ?_)) λ_=>br (λ_=>must rfl (mu<|mu ?_)) λ_=>br (λ_=>mu (mu ?_)) λ_=>br (λ_=>mu (mu ?_)) λ_=>br (λ_=>mu (mu ?_)) λ_=>br (λ_=>mu (mu ?_)) λ_=>br (λ_=>mu (mu ?_)) λ_=>br (λ_=>mu (mu ?_)) λ_=>br (λ_=>mu (mu ?_)) λ_=>br (λ_=>mu (mu ?_)) λ_=>br (λ_=>mu (mu ?_)) λ_=>br (λ_=>mu (mu ?_)) λ_=>mu ?_);all_goals first|rfl|(simp only [*,zhl,zhm,cT,cF]<;>rfl)|simp_all[Ty.cells,zhl,zhm]
theorem zKa:vF 50 zoE:=kF2 zB0 zl zbs zbC (zq []) zRN
def z0T:zY:=[(51,zoE),(50,zoE)]++z0S
theorem zB1:zK z0T:=zf zKC (zf zKa zB0)
def zVy:List GAct->Host×List Told->Host×List Told
 |[],u=>u
 |a::l,u=>zVy l (zbR u.1 a,ap u.2 [zcf u.1 a])
def zT9 (a:List (List<|List Ins))(l:List GAct):Host×List Told:=zVy (l.take 80) (znk a,[])
abbrev HSt:Type:=(List Told)×(List<|List Int)×(List Mon)×(List Entry)×(List Entry)
def hOf (t:HSt):Host:=⟨t.2.1,t.2.2.1,t.2.2.2.1,t.2.2.2.2⟩
def tOf (u:Host×List Told):HSt:=(u.2,u.1.Memory,u.1.Mons,u.1.Buffer,u.1.IoBuffer)
def zre (t:HSt):OA:=some [AV.agg<|zbb<|hOf t,AV.one<|.s .told t.1]
theorem zYp {e:List (List<|List Ins)}(h:zrB e):SmH (znk e):=by refine⟨show SmM zZw from ⟨by decide,by decide⟩,⟨?_,?_⟩,by simp[znk],by simp[znk]⟩;{simp only [znk,k6,uF];omega};{intro x d;simp only[znk,jD]at d;obtain⟨p,f,rfl⟩:=d;have b:=h.2 p (jY f);refine⟨show zVH.length<=1048576 by decide,show SmM zuN from ⟨by decide,by decide⟩,show (rp 8 false).length<=1048576 by decide,⟨?_,?_⟩,by simp[zkO],⟨?_,?_⟩⟩;{simp only [zkO,k6,uF];omega};{intro y a;simp only[zkO,jD]at a;obtain⟨q,c,rfl⟩:=a;exact⟨b.2 q<|jY c,show zlV.length<=1048576 by decide,show zlV.length<=1048576 by decide,by simp[zdS]⟩};{simp only [zkO,k6,uF];omega};{intro y a;simp only[zkO,jD]at a;obtain⟨q,c,rfl⟩:=a;exact⟨show (rp 4 false).length<=1048576 by decide,show zlV.length<=1048576 by decide⟩}}
theorem zFZ {c:Host->GAct->Bool}(d:∀h a,SmH h->c h a=true)(m:Nat):∀(l:List GAct) (i:Nat) (u:Host×List Told),SmH u.1->u.2.length+l.length<=2147483648->
 goL (λ(i:Nat) x (t:HSt) n=>bif ilt (i:Int) (m:Int) then (cond (c (hOf t) x) (cond (few<|ln<|ap t.1 [zcf (hOf t) x]) (n (ap t.1 [zcf (hOf t) x],(zbR (hOf t) x).Memory,(zbR (hOf t) x).Mons,(zbR (hOf t) x).Buffer,(zbR (hOf t) x).IoBuffer)) none) none) else zre t) zre l i (tOf u)=zre (tOf<|zVy (l.take<|m-i) u)
 |[],i,u,_,_=>by simp[goL,zVy]
 |a::l,i,u,e,k=>by simp only[qV]at k;have g:few (ln<|ap u.2 [zcf u.1 a])=true:=zev (by simp[ap];omega);have j:hOf (tOf u)=u.1:=rfl;have f:(tOf u).1=u.2:=rfl;by_cases h:i<m;{have b:ilt (i:Int) (m:Int)=true:=qL (by omega);simp only[goL,b,j,f,g,d _ _ e,cT];refine(zFZ d m l (i+1) (zbR u.1 a,ap u.2 [zcf u.1 a]) (zPt e) (by simp[ap];omega)).trans ?_;rw[show m-i=m-(i+1)+1 by omega];rfl};{have b:ilt (i:Int) (m:Int)=false:=qI (by omega);simp only[goL,b,cF];rw[show m-i=0 by omega];rfl}
theorem zJ2 {c:Host->GAct->Bool}(b:∀h a,SmH h->c h a=true):∀(l:List GAct) (i:Nat) (u:Host×List Told),SmH u.1->u.2.length+l.length<=2147483648->
 goL (λ(_:Nat) x (t:HSt) k=>bif c (hOf t) x then (cond (few<|ln<|ap t.1 [zcf (hOf t) x]) (k (ap t.1 [zcf (hOf t) x],(zbR (hOf t) x).Memory,(zbR (hOf t) x).Mons,(zbR (hOf t) x).Buffer,(zbR (hOf t) x).IoBuffer)) none) else none) zre l i (tOf u)=zre (tOf<|zVy l u)
 |[],i,u,_,_=>rfl
 |a::l,i,u,d,j=>by simp only[qV]at j;have f:few (ln<|ap u.2 [zcf u.1 a])=true:=zev (by simp[ap];omega);have g:hOf (tOf u)=u.1:=rfl;have e:(tOf u).1=u.2:=rfl;simp only[goL,g,e,f,b _ _ d,cT];exact zJ2 b l (i+1) (zbR u.1 a,ap u.2 [zcf u.1 a]) (zPt d) (by simp[ap];omega)
@[simp] abbrev ze0 (a:List (List<|List Ins))(l:List GAct):Bool:=pc (zrB a/\l.length<=1048576)
@[simp] abbrev zjj (a:List (List<|List Ins))(l:List GAct):Host:=(zT9 a l).1
@[simp] abbrev zjk (a:List (List<|List Ins))(l:List GAct):List Told:=(zT9 a l).2
def zi0:Run:=rF2 (dS<|.sl<|.sl .ins) (dS .act) λb c=>(ze0 b c,[aH<|zjj b c,aS .told<|zjk b c])
def zBt (N:Nat)(b:lQ)(g:lA):OA:=
 (oN (zoh b)<|iter (σ:=(Int×lA×lT×lM×lN×lE×lE×lM×lN×lE×lE×Unit)) N (λh a=>let e:=ix a.2.1 a.1 ziv;let c:=(⟨a.2.2.2.2.2.2.2.1,a.2.2.2.2.2.2.2.2.1,a.2.2.2.2.2.2.2.2.2.1,a.2.2.2.2.2.2.2.2.2.2.1⟩:Host);let f:=ap a.2.2.1 [zhm c e];let d:=zhl c e; (cond (ilt a.1<|ln a.2.1) (cond (ilt a.1 80) (oN (inb a.1<|ln a.2.1)<|oN (zfL c e)<|oN (few<|ln f)<|h (zG .i64 a.1 1,a.2.1,f,a.2.2.2.1,a.2.2.2.2.1,a.2.2.2.2.2.1,a.2.2.2.2.2.2.1,d.Memory,d.Mons,d.Buffer,d.IoBuffer,()))<|some [aH c,aS .told a.2.2.1])<|some [aH c,aS .told a.2.2.1])) (0,g,[],[],[],[],[],(zdM b).Memory,(zdM b).Mons,(zdM b).Buffer,(zdM b).IoBuffer,()))
def zPL:=zq [(15,0,{n:=39,tm:=[(1,.sl 0 []),(4,.lp 0 0),(6,.lp 1 0),(7,.sl 1 []),(8,ti)],lo:=[(0,[.sl 2 [],.sl 3 [],.sl 4 [],.sl 5 []]),(1,[.sl 6 [],.sl 7 [],.sl 8 [],.sl 9 []])],ro:=[(0,.act,false),(1,.told,true),(2,.sl .int,true),(3,.mon,true),(4,.entry,true),(5,.entry,true),(6,.sl .int,true),(7,.mon,true),(8,.entry,true),(9,.entry,true)]})]
theorem zOY (b:List lP)(c:List GAct)(k:ze0 b c=true):∃N,zBt N b c=some [aH<|zjj b c,aS .told<|zjk b c]:=by
 obtain⟨j,g⟩:=zB.1 k;have f:=zbV g;refine zbG λN e=>?_;unfold zBt oN;conv=>zeta
 refine must (zN j) ?_;refine(zW c (λi (t:lT×lM×lN×lE×lE)=>((i:Int),c,t.1,[],[],[],[],t.2.1,t.2.2.1,t.2.2.2.1,t.2.2.2.2,())) _ (λi (x:GAct) (t:HSt) m=>bif ilt (i:Int) ((80:Nat):Int) then (cond (zfL (hOf t) x) (cond (few<|ln<|ap t.1 [zcf (hOf t) x]) (m (ap t.1 [zcf (hOf t) x],(zbR (hOf t) x).Memory,(zbR (hOf t) x).Mons,(zbR (hOf t) x).Buffer,(zbR (hOf t) x).IoBuffer)) none) none) else zre t) (λ(t:lT×lM×lN×lE×lE)=>some [.agg<|zbb (⟨t.2.1,t.2.2.1,t.2.2.2.1,t.2.2.2.2⟩:Host),.one<|.s .told t.1]) (λi d t rec=>?_) (λt rec=>?_) _ ([],(zdM b).Memory,(zdM b).Mons,(zdM b).Buffer,(zdM b).IoBuffer)<|e f.1).trans ?_;{simp only [zbf d,zO d,zX d,zV d f.1,cT];rfl};{simp only [zbc,cF]};exact zFZ (λh a l=>zN ((zJ h).2 l)) 80 c 0 (znk b,[]) (zYp j) (by simpa using f.2)
theorem zuE:vF 15 zi0:=kF2 zB1 zl zbs zbC zPL zOY
def zAT (N:Nat)(b:lQ)(c:lA):OA:=
 let g:=zcJ (ln c) 80; (oN (zoh b)<|oN (inr 0 g<|ln c)<|iter (σ:=(Int×Int×lT×lA×lM×lN×lE×lE×lM×lN×lE×lE×Unit)) N (λi a=>let f:=ix a.2.2.2.1 a.2.1 ziv;let d:=(⟨a.2.2.2.2.2.2.2.2.1,a.2.2.2.2.2.2.2.2.2.1,a.2.2.2.2.2.2.2.2.2.2.1,a.2.2.2.2.2.2.2.2.2.2.2.1⟩:Host);let h:=ap a.2.2.1 [zhm d f];let e:=zhl d f; (cond (ilt a.2.1 a.1) (oN (inb a.2.1<|ln a.2.2.2.1)<|oN (zfL d f)<|oN (few<|ln h)<|i (a.1,zG .i64 a.2.1 1,h,a.2.2.2.1,a.2.2.2.2.1,a.2.2.2.2.2.1,a.2.2.2.2.2.2.1,a.2.2.2.2.2.2.2.1,e.Memory,e.Mons,e.Buffer,e.IoBuffer,()))<|some [aH d,aS .told a.2.2.1])) (ln<|tk c g,0,[],tk c g,[],[],[],[],(zdM b).Memory,(zdM b).Mons,(zdM b).Buffer,(zdM b).IoBuffer,()))
def zPB:=zq [(14,0,{n:=36,tm:=[(4,.lp 0 0),(6,.lp 1 0),(7,.sl 0 []),(16,.sl 1 []),(17,ti),(18,ti)],lo:=[(0,[.sl 2 [],.sl 3 [],.sl 4 [],.sl 5 []]),(1,[.sl 6 [],.sl 7 [],.sl 8 [],.sl 9 []])],ro:=[(0,.told,true),(1,.act,false),(2,.sl .int,true),(3,.mon,true),(4,.entry,true),(5,.entry,true),(6,.sl .int,true),(7,.mon,true),(8,.entry,true),(9,.entry,true)]})]
theorem zOs (c:List lP)(b:List GAct)(n:ze0 c b=true):∃N,zAT N c b=some [aH<|zjj c b,aS .told<|zjk c b]:=by
 obtain⟨l,j⟩:=zB.1 n;have m:=zx5 b 80;have k:tk b (zcJ (ln b) 80)=b.take 80:=m.1;have e:(tk b<|zcJ (ln b) 80).length<=1048576:=(by rw[k];exact qX (by simp;omega) j);have g:=zbV e;refine zbG λN f=>?_;unfold zAT oN;conv=>zeta
 refine must (zN l) (must m.2 ?_);refine(zW (tk b<|zcJ (ln b) 80) (λi (t:lT×lM×lN×lE×lE)=>(ln<|tk b<|zcJ (ln b) 80,(i:Int),t.1,tk b<|zcJ (ln b) 80,[],[],[],[],t.2.1,t.2.2.1,t.2.2.2.1,t.2.2.2.2,())) _ (λ_ (x:GAct) (t:HSt) q=>bif zfL (hOf t) x then (cond (few<|ln<|ap t.1 [zcf (hOf t) x]) (q (ap t.1 [zcf (hOf t) x],(zbR (hOf t) x).Memory,(zbR (hOf t) x).Mons,(zbR (hOf t) x).Buffer,(zbR (hOf t) x).IoBuffer)) none) else none) (λ(t:lT×lM×lN×lE×lE)=>some [.agg<|zbb (⟨t.2.1,t.2.2.1,t.2.2.2.1,t.2.2.2.2⟩:Host),.one<|.s .told t.1]) (λi d t rec=>?_) (λt rec=>?_) _ ([],(zdM c).Memory,(zdM c).Mons,(zdM c).Buffer,(zdM c).IoBuffer)<|f g.1).trans ?_;{simp only [zbf d,zO d,zX d,zV d g.1,cT];rfl};{simp only [zbc,cF]};refine(zJ2 (λh a p=>zN ((zJ h).2 p)) _ 0 (znk c,[]) (zYp l) (by simpa using g.2)).trans ?_;rw[k];rfl
theorem zux:vF 14 zi0:=kF2 zB1 zl zbs zbC zPB zOs
def zTH:zY:=[(15,zi0),(14,zi0)]++z0T
theorem zWA:zK zTH:=zf zuE (zf zux zB1)
theorem z3J {p:List Ins}(h:zeP p=true):p.length<=12:=by unfold zeP at h;cases a:p.all zjW with|false=>rw[a]at h;cases h|true=>rw[a,cT]at h;have b:=(ze4.1 h).2;unfold ln at b;omega
def z5S:zdR:=z5R
theorem zVm:zcI z5S:=z3I
def z0z:zY:=zTH
theorem z0A:zK z0z:=zWA
theorem zo1 {i n:Int}:hasB i n=true↔0<=i/\i<n:=by unfold hasB;exact decide_eq_true_iff
theorem z3l {x y:Int}:ieq x y=true↔x=y:=by simp[ieq]
theorem z8w {x y:Int}:ieq x y=false↔x≠y:=by simp[ieq]
theorem zww {a:Type}(l:List a)(i:Int)(x:a):(up l i x).length=l.length:=by simp[up]
theorem z5z {a:Type}{l:List a}{i:Int}(h:hasB i (ln l)=true)(d:a):∃k:Nat,∃b:k<l.length,i=(k:Int)/\ix l i d=l[k]:=by rw[zo1]at h;unfold ln at h;refine⟨i.toNat,by omega,by omega,?_⟩;simp[ix,List.getD,qB (show i.toNat<l.length by omega)]
theorem zZk {a:Type}{l:List a}{i:Int}(h:hasB i (ln l)=true)(d:a):ix l i d∈l:=by obtain⟨k,b,_,e⟩:=z5z h d;rw[e];exact jA b
theorem zUd {a:Type}{l:List a}{i:Int}(h:hasB i (ln l)=true)(x d:a):ix (up l i x) i d=x:=by rw[zo1]at h;unfold ln at h;simp[ix,up,List.getD,show i.toNat<l.length by omega]
theorem zUe {a:Type}{l:List a}{i j:Int}(b:0<=i)(c:0<=j)(h:i≠j)(x d:a):ix (up l i x) j d=ix l j d:=by have:i.toNat≠j.toNat:=(by omega);simp[ix,up,List.getD,jH,this]
def cPg (x:Mon)(q:Int):Nat:=x.Outer.countP λs=>ieq s.Page q
def zMT (l:List Mon)(q:Int):Nat:=(l.map λx=>cPg x q).sum
theorem z8P {l:List Mon}{m:Int}(h:hasB m (ln l)=true)(x:Mon)(q:Int):zMT (up l m x) q+cPg (ix l m mZ) q=zMT l q+cPg x q:=by obtain⟨k,a,rfl,e⟩:=z5z h mZ;rw[e];clear h e;unfold up;simp only[kC];induction l generalizing k with|nil=>simp at a|cons y l b=>(cases k with|zero=>simp[zMT];omega|succ k=>have:=b k (by simpa using a);simp[zMT] at this ⊢;omega)
def SOk (s:Slot):Prop:=s=noSlot\/(0<=s.Page/\s.Page<=11/\1<=s.Rights/\s.Rights<=3)
theorem SOk.none {s:Slot}(h:SOk s)(a:s.Page = -1):s=noSlot:=by rcases h with h|h;{exact h};{omega}
structure MOk (x:Mon):Prop where
 g1:1<=x.Guests.length
 g2:x.Guests.length<=2
 gt:x.Tables.length=x.Guests.length
 o8:x.Outer.length=8
 sl:∀s∈x.Outer,SOk s
 u8:x.Out.length=8
 d8:x.Dirty.length=8
 outs:x.Outs.length<=40
 pend:zhG x.Pending=true
 tr:zk x.Traps 0 3=true
 own:zk x.Own 0 1000000000=true
 gs:∀g∈x.Guests,zd7 g=true
 fit:∀p,hasB p 8=true->zt0 (ix x.Outer p sZ) (ix x.Out p [])=true
structure HOk (h:Host):Prop where
 m12:h.Memory.length=12
 pgs:∀c∈h.Memory,zdB c=true
 n1:1<=h.Mons.length
 n3:h.Mons.length<=3
 b1:ztm h.Buffer=true
 b2:ztm h.IoBuffer=true
 mons:∀x∈h.Mons,MOk x
 uq:∀q,0<=q->zMT h.Mons q<=1
theorem HOk.mon {h:Host}(H:HOk h){m:Int}(a:hasB m (ln h.Mons)=true):MOk (ix h.Mons m mZ):=H.mons _ (zZk a _)
theorem MOk.hasO {x:Mon}(H:MOk x){p:Int}(a:hasB p 8=true):hasB p (ln x.Outer)=true:=by rw[ln,H.o8];exact a
theorem MOk.hasU {x:Mon}(H:MOk x){p:Int}(a:hasB p 8=true):hasB p (ln x.Out)=true:=by rw[ln,H.u8];exact a
theorem MOk.slot {x:Mon}(H:MOk x){p:Int}(a:hasB p 8=true):SOk (ix x.Outer p sZ):=H.sl _ (zZk (H.hasO a) _)
theorem HOk.up {h:Host}(H:HOk h){m:Int}(k:hasB m (ln h.Mons)=true){x:Mon}(l:MOk x){a:Host}(e:a.Mons=up h.Mons m x)(d:a.Memory.length=12)(f:∀c∈a.Memory,zdB c=true)(i:ztm a.Buffer=true)(j:ztm a.IoBuffer=true)(n:∀q,0<=q->cPg x q<=cPg (ix h.Mons m mZ) q\/zMT h.Mons q=0/\cPg x q<=1):HOk a:=by refine⟨d,f,by rw[e,zww];exact H.n1,by rw[e,zww];exact H.n3,i,j,λy b=>?_,λq g=>?_⟩;{rw [e]at b;unfold E.up at b;rcases jU b with h|h;{exact H.mons y h};{rw [h];exact l}};{rw [e];have p:=z8P k x q;have r:=H.uq q g;have s:=n q g;omega}
structure KOk (k:Kept) (inner outer:List Slot):Prop where
 l1:k.Known.length=inner.length
 l2:k.Slots.length=inner.length
 at':∀i,hasB i (ln inner)=true->ix k.Slots i sZ=bif ix k.Known i false then zkc (ix inner i sZ) outer else noSlot
def TOk (x:Mon):Prop:=∀g,hasB g (ln x.Guests)=true->KOk (ix x.Tables g kZ) (ix x.Guests g gZ).Live x.Outer
structure Rt (h:Host):Prop where
 t:∀m,hasB m (ln h.Mons)=true->TOk (ix h.Mons m mZ)
 e1:∀e∈h.Buffer,zJM h e=true
 e2:∀e∈h.IoBuffer,zJM h e=true
structure Safe (h:Host):Prop where
 ok:HOk h
 rt:Rt h
structure Chg (x x':Mon) (p:Int) (s:Slot) (c:List Int):Prop where
 o:x'.Outer=up x.Outer p s
 u:x'.Out=up x.Out p c
 g:x'.Guests=x.Guests
 t:x'.Tables.length=x.Tables.length
 d:x'.Dirty.length=x.Dirty.length
 a1:x'.Outs=x.Outs
 a2:x'.Pending=x.Pending
 a3:x'.Traps=x.Traps
 a4:x'.Own=x.Own
theorem MOk.chg {x i:Mon}(H:MOk x){p:Int}(a:hasB p 8=true){s:Slot}{c:List Int}(k:Chg x i p s c)(l:SOk s)(j:zt0 s c=true):MOk i:=by refine⟨by rw[k.g];exact H.g1,by rw[k.g];exact H.g2,by rw[k.t,k.g];exact H.gt,by rw[k.o,zww];exact H.o8,λy f=>?_,by rw[k.u,zww];exact H.u8,by rw[k.d];exact H.d8,by rw[k.a1];exact H.outs,by rw[k.a2];exact H.pend,by rw[k.a3];exact H.tr,by rw[k.a4];exact H.own,by rw[k.g];exact H.gs,λq b=>?_⟩;{rw [k.o]at f;rcases jU f with h|h;{exact H.sl y h};{rw [h];exact l}};{rw [k.o,k.u];by_cases e:p=q;{subst e;rw[zUd<|H.hasO a,zUd<|H.hasU a];exact j};{rw [zUe (zo1.1 a).1 (zo1.1 b).1 e,zUe (zo1.1 a).1 (zo1.1 b).1 e];exact H.fit q b}}
structure Like (h r:Host):Prop where
 len:r.Mons.length=h.Mons.length
 g:∀i,hasB i (ln h.Mons)=true->(ix r.Mons i mZ).Guests=(ix h.Mons i mZ).Guests
 o:∀i,hasB i (ln h.Mons)=true->(ix r.Mons i mZ).Outs=(ix h.Mons i mZ).Outs
 p:∀i,hasB i (ln h.Mons)=true->(ix r.Mons i mZ).Pending=(ix h.Mons i mZ).Pending
 tr:∀i,hasB i (ln h.Mons)=true->(ix r.Mons i mZ).Traps=(ix h.Mons i mZ).Traps
 ow:∀i,hasB i (ln h.Mons)=true->(ix r.Mons i mZ).Own=(ix h.Mons i mZ).Own
 pg:∀i k,hasB i (ln h.Mons)=true->hasB k 8=true->zjb r i k=zjb h i k
theorem Like.refl (h:Host):Like h h:=⟨rfl,λ_ _=>rfl,λ_ _=>rfl,λ_ _=>rfl,λ_ _=>rfl,λ_ _=>rfl,λ_ _ _ _=>rfl⟩
theorem Like.trans {a b c:Host}(x:Like a b)(y:Like b c):Like a c:=by have k:∀i,hasB i (ln a.Mons)=true->hasB i (ln b.Mons)=true:=λi e=>(by unfold ln at e ⊢;rwa [x.len]);exact⟨y.len.trans x.len,λi h=>(y.g i<|k i h).trans (x.g i h),λi h=>(y.o i<|k i h).trans (x.o i h),λi h=>(y.p i<|k i h).trans (x.p i h),λi h=>(y.tr i<|k i h).trans (x.tr i h),λi h=>(y.ow i<|k i h).trans (x.ow i h),λi q h d=>(y.pg i q (k i h) d).trans (x.pg i q h d)⟩
theorem Like.has {h r:Host}(k:Like h r){i:Int}:hasB i (ln r.Mons)=hasB i (ln h.Mons):=by unfold ln;rw[k.len]
theorem zGb {h r:Host}{m:Int}:∀(n i:Nat),(∀k:Nat,i<=k->k<i+n->zjb r m (k:Int)=zjb h m (k:Int))->zjc r m n i=zjc h m n i
 | 0,i,_=>rfl
 |n+1,i,h=>by rw[zjc,zjc,h i (by omega) (by omega),zGb n (i+1) λk a b=>h k (by omega) (by omega)]
theorem Like.seen {h r:Host}(k:Like h r)(m:Int):zS r m=zS h m:=by unfold zS;rw[k.has];cases a:hasB m (ln h.Mons) with|false=>rfl|true=>simp only[cond_true];rw[k.g m a,k.o m a,k.p m a,zGb 8 0 λj b c=>k.pg m j a (zo1.2 (by omega))]
structure Op (h r:Host):Prop where
 ok:HOk r
 like:Like h r
 rt:Rt h->Rt r
theorem Op.refl {h:Host}(H:HOk h):Op h h:=⟨H,Like.refl h,id⟩
theorem Op.trans {a b c:Host}(x:Op a b)(y:Op b c):Op a c:=⟨y.ok,x.like.trans y.like,λh=>y.rt (x.rt h)⟩
theorem Op.safe {h r:Host}(k:Op h r)(s:Safe h):Safe r:=⟨k.ok,k.rt s.rt⟩
structure But (h r:Host) (m p:Int):Prop where
 ne:∀i k,hasB i (ln h.Mons)=true->hasB k 8=true->¬ (i=m/\k=p)->ix (ix r.Mons i mZ).Outer k sZ=ix (ix h.Mons i mZ).Outer k sZ
structure Roomy (h r:Host):Prop where
 op:Op h r
 free:zdl r≠[]
 sl:∀i k,hasB i (ln h.Mons)=true->hasB k 8=true->ix (ix r.Mons i mZ).Outer k sZ=ix (ix h.Mons i mZ).Outer k sZ\/ix (ix r.Mons i mZ).Outer k sZ=noSlot
 dirt:∀i,(ix r.Mons i mZ).Dirty=(ix h.Mons i mZ).Dirty
structure Mark (x y:Mon):Prop where
 o:y.Outer=x.Outer
 u:y.Out=x.Out
 g:y.Guests=x.Guests
 t:y.Tables=x.Tables
 d:y.Dirty.length=x.Dirty.length
 a1:y.Outs=x.Outs
 a2:y.Pending=x.Pending
 a3:y.Traps=x.Traps
 a4:y.Own=x.Own
structure Mended (h r:Host) (m p n:Int):Prop where
 op:Op h r
 inn:(ix (ix r.Mons m mZ).Outer p sZ).Page≠-1
 ri:ieq (wand .i64 n 2) 0=false->(ix (ix r.Mons m mZ).Outer p sZ).Rights=3
 dt:ieq (wand .i64 n 2) 0=false->ix (ix r.Mons m mZ).Dirty p false=true
 d0:ieq (wand .i64 n 2) 0=true->(ix r.Mons m mZ).Dirty=(ix h.Mons m mZ).Dirty
 dk:∀k,hasB k 8=true->k≠p->ix (ix r.Mons m mZ).Dirty k false=ix (ix h.Mons m mZ).Dirty k false
 dm:∀i,hasB i (ln h.Mons)=true->i≠m->(ix r.Mons i mZ).Dirty=(ix h.Mons i mZ).Dirty
structure KeepP (x y:Mon):Prop where
 o:y.Outer=x.Outer
 u:y.Out=x.Out
structure GOk (x:Guest):Prop where
 prog:zeP x.Prog=true
 a:zk x.A 0 99=true
 pc:zk x.Pc 0 12=true
 w:zeg x.Written 4 8=true
 l:zeg x.Live 4 8=true
 ctl:zrI x.Ctl=true
 pend:zhG x.Pending=true
 ex:zuo x.Exit=true
 seen:ile (ln x.Seen) 40=true
theorem z6U {x:Guest}:zd7 x=true↔GOk x:=by unfold zd7;simp only[qE];exact⟨λ⟨a,b,c,d,e,f,g,h,i⟩=>⟨a,b,c,d,e,f,g,h,i⟩,λ⟨a,b,c,d,e,f,g,h,i⟩=>⟨a,b,c,d,e,f,g,h,i⟩⟩
theorem HOk.guest {h:Host}(H:HOk h){m g:Int}(a:hasB m (ln h.Mons)=true)(hg:hasB g (ln (ix h.Mons m mZ).Guests)=true):GOk (ix (ix h.Mons m mZ).Guests g gZ):=z6U.1 ((H.mon a).gs _ (zZk hg _))
structure Walked (l:List Slot) (p n q:Int):Prop where
 hp:hasB p (ln l)=true
 pg:(ix l p sZ).Page=q
 q8:hasB q 8=true
 en:enough (ix l p sZ).Rights n=true
structure Looked (h r:Host) (m g page need q host:Int):Prop where
 op:Op h r
 inn:(ix (ix r.Mons m mZ).Outer q sZ).Page=host
 ne:host≠-1
 en:enough (zkc (ix (ix (ix h.Mons m mZ).Guests g gZ).Live page sZ) (ix r.Mons m mZ).Outer).Rights need=true
 cp:(zkc (ix (ix (ix h.Mons m mZ).Guests g gZ).Live page sZ) (ix r.Mons m mZ).Outer).Page=host
 dk:∀k,hasB k 8=true->k≠q->ix (ix r.Mons m mZ).Dirty k false=ix (ix h.Mons m mZ).Dirty k false
 dq:need=2->ix (ix r.Mons m mZ).Dirty q false=true
 d1:need=1->(ix r.Mons m mZ).Dirty=(ix h.Mons m mZ).Dirty
 dm:∀i,hasB i (ln h.Mons)=true->i≠m->(ix r.Mons i mZ).Dirty=(ix h.Mons i mZ).Dirty
structure GKeep (x y:Guest):Prop where
 ok:GOk y
 live:y.Live=x.Live
structure SimT (h r:Host) (m:Int) (f:Bare->Bare):Prop where
 safe:Safe r
 seen:∀i,zS r i=bif ieq i m then f (zS h i) else zS h i
 len:r.Mons.length=h.Mons.length
theorem SimT.trans {a b c:Host}{m:Int}{f g:Bare->Bare}(x:SimT a b m f)(y:SimT b c m g):SimT a c m (λt=>g (f t)):=by refine⟨y.safe,λi=>?_,y.len.trans x.len⟩;rw[y.seen i,x.seen i];cases ieq i m<;>rfl
theorem SimT.congr {h r:Host}{m:Int}{f g:Bare->Bare}(x:SimT h r m f)(e:f (zS h m)=g (zS h m)):SimT h r m g:=by refine⟨x.safe,λi=>?_,x.len⟩;rw[x.seen i];by_cases a:i=m;{subst a;rw[z3l.2 rfl,cond_true,cond_true,e]};{rw [z8w.2 a];rfl}
theorem SimT.has {h r:Host}{m:Int}{f:Bare->Bare}(x:SimT h r m f)(i:Int):hasB i (ln r.Mons)=hasB i (ln h.Mons):=by unfold ln;rw[x.len]
theorem SimT.refl {h:Host}(S:Safe h)(m:Int):SimT h h m id:=⟨S,λi=>by cases ieq i m<;>rfl,rfl⟩
structure BackOk (b c:Bare):Prop where
 m:c.Memory=b.Memory
 o:c.Outs=b.Outs
 n:c.Guests.length=b.Guests.length
 g:∀j,hasB j (ln b.Guests)=true->GKeep (ix b.Guests j gZ) (ix c.Guests j gZ)
 p:zhG b.Pending=true->zhG c.Pending=true
def z6h (h:Host):List Bare:=(List.range h.Mons.length).map λ(i:Nat)=>zS h (i:Int)
structure Live (u:Host×List Told) (v:List Bare×List Told):Prop where
 safe:Safe u.1
 seen:z6h u.1=v.1
def zxg (a:List (List<|List Ins)):Prop:=1<=a.length/\∀p∈a,1<=p.length/\∀x∈p,zeP x=true
def z0B:zY:=z0z
theorem zvz:zK z0B:=z0A
def zBE (N:Nat)(c:Cur)  : OA :=
 let a:=zcd c [0,0,0,1,1,2,-1,9223372036854775807]; (oN (zef c [0,0,0,1,1,2,-1,9223372036854775807])<|some [.agg [.s .u8 c.b,.i .i64 a.i,.i .i64 a.h],aI<|zee c [0,0,0,1,1,2,-1,9223372036854775807]])
def ztO (c:Cur)(s:Cur)(a:Int):Prop:=(∃N,zBE N c=some (AV.agg (zf7 s)::[aI a]))/\(s.b=c.b/\0<=s.i)/\(True)
def zsF (c:Cur)  : Bool:=wC (ztO c)
def zsG (c:Cur)  : Cur:=wS (ztO c)
def zDG (c:Cur)  : Int:=wV (ztO c)
theorem z15 {c:Cur}(h:zsF c=true):ztO c (zsG c) (zDG c):=wG h
theorem z18 (c:Cur)  : 0<=(zsG c).i:=wP λh=>h.2.1.2
theorem z16 (c:Cur)(h:∃N,Ends (wE (λa=>aI a) c.b λa=>True)<|zBE N c):zsF c=true:=wI (λ_ _ h=>h) h
def zCS:zmw:=rP0 λc=>(zsF c,zsG c,[aI<|zDG c])
theorem zRz:zdA Tryz.prog 109 [false,true,true] zCS:=hP0 zvz zbk zVm zo (zq []) (λ_ h=>(z15 h).1)
theorem z9H {c:Cur}(h:zcZ c):zsF c=true:=by
 refine z16 c ⟨0,?_⟩;unfold zBE oN;conv=>zeta
 exact zbh (zuS h (by simp)) (zii aI (zg4 _ _) trivial)
def z5T:zdR:=[(109,[false,true,true],zCS)]++z5S
theorem zVn:zcI z5T:=zeI zVm (by
 intro x a;simp only[qH,qY,or_false]at a;rcases a with rfl
 .exact zRz)
def zyd (N:Nat)(c:Cur)  : OA :=
 let a:=zcB c;let e:=({ (zcU c) with b:=c.b}:Cur);let f:=zbg e 10;let d:=({ (zC e 10) with b:=c.b}:Cur);let g:=zcd d [-1,4,8,16,100,9223372036854775807]; (oN (zj5 c)<|oN (zbl e 10)<|cond (ieq f 0) (oN (zbl d 20)<|some [.agg [.s .u8 c.b,.i .i64 (zC d 20).i,.i .i64 (zC d 20).h],.agg [.i .i64<|wsub .i64 (zbg d 20) 1,.i .i64 a.M,.i .i64 a.G,.i .i64 a.X,.i .i64 a.Y,.i .i64 a.Z]])<|cond (ieq f 1) (oN (zsF d)<|some [.agg [.s .u8 c.b,.i .i64 (zsG d).i,.i .i64 (zsG d).h],.agg [.i .i64 a.Kind,.i .i64<|zDG d,.i .i64 a.G,.i .i64 a.X,.i .i64 a.Y,.i .i64 a.Z]])<|cond (ieq f 2) (oN (zef d [-1,4,8,16,100,9223372036854775807])<|some [.agg [.s .u8 c.b,.i .i64 g.i,.i .i64 g.h],.agg [.i .i64 a.Kind,.i .i64 a.M,.i .i64 a.G,.i .i64<|zee d [-1,4,8,16,100,9223372036854775807],.i .i64 a.Y,.i .i64 a.Z]])<|cond (ieq f 3) (oN (zef d [-1,0,1,4])<|some [.agg [.s .u8 c.b,.i .i64 (zcd d [-1,0,1,4]).i,.i .i64 (zcd d [-1,0,1,4]).h],.agg [.i .i64 a.Kind,.i .i64 a.M,.i .i64 a.G,.i .i64 a.X,.i .i64 a.Y,.i .i64<|zee d [-1,0,1,4]]])<|some [.agg [.s .u8 c.b,.i .i64 (zC e 10).i,.i .i64 (zC e 10).h],.agg [.i .i64 a.Kind,.i .i64 a.M,.i .i64 a.G,.i .i64 a.X,.i .i64 a.Y,.i .i64 a.Z]])
def zsa (c:Cur)(s:Cur)(a:GAct):Prop:=(∃N,zyd N c=some (AV.agg (zf7 s)::[aT .act a]))/\(s.b=c.b/\0<=s.i)/\(True)
def zj6 (c:Cur)  : Bool:=wC (zsa c)
def zlH (c:Cur)  : Cur:=wS (zsa c)
def zpe (c:Cur)  : GAct:=wV (zsa c)
theorem zZX {c:Cur}(h:zj6 c=true):zsa c (zlH c) (zpe c):=wG h
theorem zZZ (c:Cur)  : 0<=(zlH c).i:=wP λh=>h.2.1.2
theorem zZY (c:Cur)(h:∃N,Ends (wE (λa=>aT .act a) c.b λa=>True)<|zyd N c):zj6 c=true:=wI (λ_ _ h=>h) h
def zz3:zmw:=rP0 λc=>(zj6 c,zlH c,[aT .act<|zpe c])
theorem zOc:zdA Tryz.prog 45 [false,true,true] zz3:=hP0 zvz zbk zVn zo (zq []) (λ_ h=>(zZX h).1)
theorem z4l {c:Cur}(h:zcZ c):zj6 c=true:=by
 refine zZY c ⟨0,?_⟩;have d:zcZ {zcU c with b:=c.b}:=zeu h (zL4 _);have a:zcZ {zC {zcU c with b:=c.b} 10 with b:=c.b}:=zeu h (zb4 _ _);unfold zyd oN;conv=>zeta
 exact zbh (z4j h) (zbh (zgQ d _) (zdb (λ_=>zbh (zgQ a _) (zii (aT .act) (v:=⟨wsub .i64 (zbg {zC {zcU c with b:=c.b} 10 with b:=c.b} 20) 1,(zcB c).M,(zcB c).G,(zcB c).X,(zcB c).Y,(zcB c).Z⟩) (zb4 {zC {zcU c with b:=c.b} 10 with b:=c.b} 20) trivial))
  (λ_=>zdb (λ_=>zbh (z9H a) (zii (aT .act) (v:=⟨(zcB c).Kind,zDG {zC {zcU c with b:=c.b} 10 with b:=c.b},(zcB c).G,(zcB c).X,(zcB c).Y,(zcB c).Z⟩) (z18 {zC {zcU c with b:=c.b} 10 with b:=c.b}) trivial))
  (λ_=>zdb (λ_=>zbh (zuS a (by simp)) (zii (aT .act) (v:=⟨(zcB c).Kind,(zcB c).M,(zcB c).G,zee {zC {zcU c with b:=c.b} 10 with b:=c.b} [-1,4,8,16,100,9223372036854775807],(zcB c).Y,(zcB c).Z⟩) (zg4 {zC {zcU c with b:=c.b} 10 with b:=c.b} [-1,4,8,16,100,9223372036854775807]) trivial))
  (λ_=>zdb (λ_=>zbh (zuS a (by simp)) (zii (aT .act) (v:=⟨(zcB c).Kind,(zcB c).M,(zcB c).G,(zcB c).X,(zcB c).Y,zee {zC {zcU c with b:=c.b} 10 with b:=c.b} [-1,0,1,4]⟩) (zg4 {zC {zcU c with b:=c.b} 10 with b:=c.b} [-1,0,1,4]) trivial))
  (λ_=>zii (aT .act) (v:=zcB c) (zb4 {zcU c with b:=c.b} 10) trivial))))))
def z5U:zdR:=[(45,[false,true,true],zz3)]++z5T
theorem zIn:zcI z5U:=zeI zVn (by
 intro x a;simp only[qH,qY,or_false]at a;rcases a with rfl
 .exact zOc)
def zrA (N:Nat)(j:List Int):OA:=
 (iter (σ:=(Int×Int×(List Int)×Unit)) N (λk a=>let c:=a.2.2.1;let g:=(⟨c,0,a.1⟩:Cur);let f:=aS (.sl<|.sl .ins)<|zu7 g;let d:=({ (zj3 g) with b:=c}:Cur);let e:=({ (zmd d 30) with b:=c}:Cur);let i:=({ (zcT e 6) with b:=c}:Cur);let h:=ap (zpD d 30) [zpe i]; (cond (ilt a.2.1<|ln c) (cond (ilt a.2.1 4000) (oN (inb a.2.1<|ln c)<|k (wand .i64 (zG .i64 (zG .i64 (zm5 .i64 a.1 131)<|wcv .i64<|ix c a.2.1 0) 7) 1073741823,zG .i64 a.2.1 1,c,()))<|oN (znP g)<|oN (zmc d 30)<|oN (zeG e 6)<|cond (zhS e 6) (oN (zj6 i)<|oN (few<|ln h)<|some [f,aS .act h])<|some [f,aS .act<|zpD d 30])<|oN (znP g)<|oN (zmc d 30)<|oN (zeG e 6)<|cond (zhS e 6) (oN (zj6 i)<|oN (few<|ln h)<|some [f,aS .act h])<|some [f,aS .act<|zpD d 30])) (zG .i64 94701<|ln j,0,j,()))
def zSU:=zq [(43,0,{n:=32,tm:=[(0,.sl 0 []),(3,ti),(4,ti)],lo:=[],ro:=[(0,.u8,false)]})]
def zu8 (c:List Int)(a:List (List<|List Ins))(b:List GAct):Prop:=(∃N,zrA N c=some [aS (.sl<|.sl .ins) a,aS .act b])/\(((zrB a/\zxg a)/\b.length<=80)/\a.length<=2)
def zme (a:List Int):Bool:=uC (T:=List (List<|List Ins)×List GAct) (λr=>zu8 a r.1 r.2)
def zGo (a:List Int):List (List<|List Ins)×List GAct:=uV (λr=>zu8 a r.1 r.2)
def zsb (a:List Int):List (List<|List Ins):=(zGo a).1
def zsc (a:List Int):List GAct:=(zGo a).2
theorem zGn {a:List Int}(h:zme a=true):zu8 a (zsb a) (zsc a):=uG h
theorem zXw (d:List Int)(h:∃N,Ends (λa=>∃b c,a=[aS (.sl<|.sl .ins) b,aS .act c]/\(((zrB b/\zxg b)/\c.length<=80)/\b.length<=2))<|zrA N d):zme d=true:=by obtain⟨N,a,e,b,c,rfl,h⟩:=h;exact zN ⟨(b,c),⟨N,e⟩,h⟩
def zAg:Run:=rF1 (dS .u8) λb=>(zme b,[aS (.sl<|.sl .ins)<|zsb b,aS .act<|zsc b])
theorem zSC (a:List Int)(b:zme a=true):∃N,zrA N a=some [aS (.sl<|.sl .ins)<|zsb a,aS .act<|zsc a]:=by exact(zGn b).1
theorem zK6:vF 37 zAg:=kF1 zvz zbk zIn zo zSU zSC
theorem z9k {l:List GAct}{y:GAct}(h:l.length<=75):few (ln<|ap l [y])=true:=zsm (by rw[zmh];unfold ln;omega)
theorem z9G {l:List GAct}{y:GAct}(h:l.length<=75):(ap l [y]).length<=80:=by simp only[ap,uL,List.length_singleton];omega
theorem z0s {a:List Int}(h:a.length<=big):zme a=true:=by
 refine zXw a (zbG λN l=>?_);unfold zrA oN;conv=>zeta
 refine zsk (λn s=>∃(t:Int) (i:Nat),s=(t,(i:Int),a,())/\i+n=a.length) ?_ N a.length _ ⟨_,0,rfl,by omega⟩ (l h);rintro n s rec ⟨t,i,rfl,y⟩ e;dsimp only;refine zdb (λf=>zdb (λr=>?_) λ_=>?_) (λ_=>?_);{have q:(i:Int)<ln a:=qD f;unfold ln at q;exact zbh (qL ⟨by omega,by unfold ln;omega⟩) (e (n-1) _ (by omega) (by rw[zV (show i<a.length by omega) h];exact⟨_,i+1,rfl,by omega⟩))}
 all_goals
  have c:zcZ ⟨a,0,t⟩:=⟨kM 0,h⟩;have f:zcZ {zj3 ⟨a,0,t⟩ with b:=a}:=zeu c (zZU _);have r:zcZ {zmd {zj3 ⟨a,0,t⟩ with b:=a} 30 with b:=a}:=zeu c (zXv _ _);have v:zcZ {zcT {zmd {zj3 ⟨a,0,t⟩ with b:=a} 30 with b:=a} 6 with b:=a}:=zeu c (zgb _ _);have d:=(zL3<|z4k c).2.2;have u:=(zGm<|z0m f (m:=30) (by omega) (by omega)).2.2
  have k:(zpD {zj3 ⟨a,0,t⟩ with b:=a} 30).length<=75:=by unfold ln at u;omega
  have S:zrB (zu7 ⟨a,0,t⟩):=⟨by omega,λp j=>by
   have g:=d.2.2 p j;exact⟨by omega,λx w=>by have:=z3J (g.2.2 x w);omega⟩⟩
  have P:zxg (zu7 ⟨a,0,t⟩):=⟨d.1,λp j=>⟨(d.2.2 p j).1,(d.2.2 p j).2.2⟩⟩;refine zbh (z4k c) (zbh (z0m f (by omega) (by omega))<|zbh (zxF r 6)<|zdb (λ_=>zbh (z4l v) (zbh ?_ ⟨_,rfl,_,_,rfl,⟨⟨S,P⟩,?_⟩,d.2.1⟩)) λ_=>⟨_,rfl,_,_,rfl,⟨⟨S,P⟩,qX k (by decide)⟩,d.2.1⟩)
  .exact z9k k
  .exact z9G k
def z0C:zY:=[(37,zAg)]++z0B
theorem zvA:zK z0C:=zf zK6 zvz
theorem zJH {a:List Int}(h:a.length<=big){G:Ans->Prop}{N:Nat}(l:a.length<N){g:Int}{R:Int->OA}{d:Type}(S:Int->Int->d){F:(d->OA)->d->OA}(k:∀rec i t,F rec (S i t)=bif ilt i (ln a) then (cond (ilt i 4000) (cond (inb i<|ln a) (rec<|S (zG .i64 i 1)<|wand .i64 (zG .i64 (zG .i64 (zm5 .i64 t 131)<|wcv .i64<|ix a i 0) 7) 1073741823) none)<|R t) else R t)(e:∀t,zcZ ⟨a,0,t⟩->Ends G (R t)):Ends G (iter N F<|S 0 g):=by refine zsk (λn s=>∃(i:Nat) (t:Int),s=S (i:Int) t/\i+n=a.length) ?_ N a.length _ ⟨0,g,rfl,by omega⟩ l;rintro n s rec ⟨i,t,rfl,p⟩ b;rw[k];have f:zcZ ⟨a,0,t⟩:=⟨kM 0,h⟩;refine zdb (λj=>zdb (λm=>?_) λ_=>e t f) (λ_=>e t f);have c:(i:Int)<ln a:=qD j;unfold ln at c;rw[zV (show i<a.length by omega) h];exact zbh (qL ⟨by omega,by unfold ln;omega⟩) (b (n-1) _ (by omega) ⟨i+1,_,rfl,by omega⟩)
theorem zZL {b:List Int}(h:b.length<=big){s:Cur}(a:0<=s.i):zcZ {s with b:=b}:=⟨a,h⟩
def zwE (N:Nat)(c:Cur)  : OA :=
 (iter (σ:=(Int×Int×Int×lT×(List Int)×Unit)) N (λk a=>let e:=a.2.2.2.2.1;let d:=(⟨e,a.2.1,a.2.2.1⟩:Cur);let g:=({ (zC d 5) with b:=e}:Cur);let f:=({ (zcT g 2) with b:=e}:Cur);let j:=ap a.2.2.2.1 [(⟨zhS g 2,zbg f 3⟩:Told)]; (oN (zbl d 5)<|cond (ilt a.1<|zbg d 5) (oN (zeG g 2)<|oN (zbl f 3)<|oN (few<|ln j)<|k (zG .i64 a.1 1,(zC f 3).i,(zC f 3).h,j,e,()))<|some [.agg [.s .u8 e,.i .i64 (zC d 5).i,.i .i64 (zC d 5).h],aS .told a.2.2.2.1])) (0,c.i,c.h,[],c.b,()))
def zSV:=zq [(46,0,{n:=21,tm:=[(0,.lp 0 0),(3,.sl 0 []),(4,ti)],lo:=[(0,[.sl 1 [],ti,ti])],ro:=[(0,.told,true),(1,.u8,false)]})]
def zqS (c:Cur)(s:Cur)(a:List Told):Prop:=(∃N,zwE N c=some (AV.agg (zf7 s)::[aS .told a]))/\(s.b=c.b/\0<=s.i)/\(a.length<=4)
def zge (c:Cur)  : Bool:=wC (zqS c)
def zsd (c:Cur)  : Cur:=wS (zqS c)
def zfy (c:Cur)  : List Told:=wV (zqS c)
theorem zGp {c:Cur}(h:zge c=true):zqS c (zsd c) (zfy c):=wG h
theorem zXy (c:Cur)  : 0<=(zsd c).i:=wP λh=>h.2.1.2
theorem zXx (c:Cur)(h:∃N,Ends (wE (λa=>aS .told a) c.b λa=>a.length<=4)<|zwE N c):zge c=true:=wI (λ_ _ h=>h) h
def zxK:zmw:=rP0 λc=>(zge c,zsd c,[aS .told<|zfy c])
theorem zK7:zdA Tryz.prog 46 [false,true,true] zxK:=hP0 zvA zbk zIn zo zSV (λ_ h=>(zGp h).1)
theorem zzd {c:Cur}(h:zcZ c):zge c=true:=by
 refine zXx c ⟨1002,?_⟩;unfold zwE oN;conv=>zeta
 refine zsk (λn s=>∃(t i k:Int) (l:List Told),s=(t,i,k,l,c.b,())/\t+(n:Int)=10/\0<=t/\t<=4/\0<=i/\ln l=t) ?_ 1002 10 _ ⟨0,c.i,c.h,[],rfl,rfl,kM 0,by omega,h.1,rfl⟩ (by omega);rintro n s rec ⟨t,i,k,l,rfl,p,q,r,e,f⟩ d;dsimp only;have a:zcZ ⟨c.b,i,k⟩:=zeu h e;have v:=zmz a (n:=5) (by omega);have g:zcZ {zC ⟨c.b,i,k⟩ 5 with b:=c.b}:=zeu h (zb4 _ _);refine zbh (zgQ a 5) (zdb (λj=>?_) λ_=>zii (aS .told) (zb4 _ _) (by unfold ln at f;omega));have m:=qD j;have u:zG .i64 t 1=t+1:=zpI (by omega) (by omega);exact zbh (zxF g 2) (zbh (zgQ (zeu h<|zgb _ _) 3)<|zbh (zsm (by rw[zmh];omega))<|d (n-1) _ (by omega) ⟨zG .i64 t 1,_,_,_,rfl,by omega,by omega,by omega,zb4 _ _,by rw[zmh];omega⟩)
def z9u:zdR:=[(46,[false,true,true],zxK)]++z5U
theorem zy0:zcI z9u:=zeI zIn (by
 intro x a;simp only[qH,qY,or_false]at a;rcases a with rfl
 .exact zK7)
def zkt (N:Nat)(l:List Int):OA:=
 (iter (σ:=(Int×Int×(List Int)×lA×lT×Unit)) N (λm c=>let f:=c.2.2.1; (cond (ilt c.2.1<|ln f) (cond (ilt c.2.1 4000) (oN (inb c.2.1<|ln f)<|m (wand .i64 (zG .i64 (zG .i64 (zm5 .i64 c.1 131)<|wcv .i64<|ix f c.2.1 0) 7) 1073741823,zG .i64 c.2.1 1,f,c.2.2.2.1,c.2.2.2.2.1,()))<|iter (σ:=(Int×Int×Int×lA×(List Int)×Unit)) N (λg a=>let j:=(⟨a.2.2.2.2.1,a.2.1,a.2.2.1⟩:Cur);let d:=({ (zC j 6) with b:=a.2.2.2.2.1}:Cur); (oN (zbl j 6)<|cond (ilt a.1<|zbg j 6) (oN (zj6 d)<|oN (few<|ln<|ap a.2.2.2.1 [zpe d])<|g (zG .i64 a.1 1,(zlH d).i,(zlH d).h,ap a.2.2.2.1 [zpe d],a.2.2.2.2.1,()))<|oN (zge d)<|some [aS .act a.2.2.2.1,aS .told<|zfy d])) (0,0,c.1,[],f,()))<|iter (σ:=(Int×Int×Int×lA×(List Int)×Unit)) N (λg a=>let k:=(⟨a.2.2.2.2.1,a.2.1,a.2.2.1⟩:Cur);let e:=({ (zC k 6) with b:=a.2.2.2.2.1}:Cur); (oN (zbl k 6)<|cond (ilt a.1<|zbg k 6) (oN (zj6 e)<|oN (few<|ln<|ap a.2.2.2.1 [zpe e])<|g (zG .i64 a.1 1,(zlH e).i,(zlH e).h,ap a.2.2.2.1 [zpe e],a.2.2.2.2.1,()))<|oN (zge e)<|some [aS .act a.2.2.2.1,aS .told<|zfy e])) (0,0,c.1,[],f,()))) (zG .i64 94701<|ln l,0,l,[],[],()))
def zAL:=zq [(43,0,{n:=32,tm:=[(0,.sl 0 []),(3,ti),(4,ti)],lo:=[],ro:=[(0,.u8,false),(1,.act,true),(2,.told,true)],sk:=[(0,2,0,.sl 1 []),(0,3,0,.sl 2 [])]}),(10,0,{n:=24,tm:=[(4,.lp 0 0),(5,.sl 0 []),(6,ti)],lo:=[(0,[.sl 1 [],ti,ti])],ro:=[(0,.act,true),(1,.u8,false)]})]
def zmU (b:List Int)(a:List GAct)(c:List Told):Prop:=(∃N,zkt N b=some [aS .act a,aS .told c])/\(a.length<=5)
def zfq (a:List Int):Bool:=uC (T:=List GAct×List Told) (λr=>zmU a r.1 r.2)
def zti (a:List Int):List GAct×List Told:=uV (λr=>zmU a r.1 r.2)
def zgz (a:List Int):List GAct:=(zti a).1
def zic (a:List Int):List Told:=(zti a).2
theorem znZ {a:List Int}(h:zfq a=true):zmU a (zgz a) (zic a):=uG h
theorem zEL (d:List Int)(h:∃N,Ends (λa=>∃b c,a=[aS .act b,aS .told c]/\(b.length<=5))<|zkt N d):zfq d=true:=by obtain⟨N,a,e,b,c,rfl,h⟩:=h;exact zN ⟨(b,c),⟨N,e⟩,h⟩
def zmg:Run:=rF1 (dS .u8) λb=>(zfq b,[aS .act<|zgz b,aS .told<|zic b])
theorem zAH (a:List Int)(b:zfq a=true):∃N,zkt N a=some [aS .act<|zgz a,aS .told<|zic a]:=by exact(znZ b).1
theorem zpt:vF 10 zmg:=kF1 zvA zbk zy0 zo zAL zAH
theorem zrK {b:List Int}(h:b.length<=big):zfq b=true:=by
 refine zEL b (zbG λN c=>?_);unfold zkt oN;conv=>zeta
 have e:10<N:=c (by rw[ztQ];omega);refine zJH h (c h) ((λi t=>(t,(i:Int),b,[],[],())):Int->Int->_) (λrec i t=>by dsimp only) (λt w=>?_);refine zsk (λn s=>∃(u i k:Int) (l:List GAct),s=(u,i,k,l,b,())/\u+(n:Int)=10/\0<=u/\u<=5/\0<=i/\ln l=u) ?_ N 10 _ ⟨0,0,t,[],rfl,rfl,kM 0,by omega,kM 0,rfl⟩ e;rintro n s rec ⟨u,i,k,l,rfl,q,r,v,j,m⟩ d;dsimp only;have a:zcZ ⟨b,i,k⟩:=⟨j,h⟩;have y:=zmz a (n:=6) (by omega);have g:=zZL h (zb4 ⟨b,i,k⟩ 6);refine zbh (zgQ a 6) (zdb (λf=>?_) λ_=>zbh (zzd g) ⟨_,rfl,l,zfy _,rfl,by unfold ln at m;omega⟩);have p:=qD f;have x:zG .i64 u 1=u+1:=zpI (by omega) (by omega);exact zbh (z4l g) (zbh (zsm (by rw[zmh];omega))<|d (n-1) _ (by omega) ⟨zG .i64 u 1,_,_,_,rfl,by omega,by omega,by omega,zZZ _,by rw[zmh];omega⟩)
def zlp (N:Nat)(i:List Int):OA:=
 (iter (σ:=(Int×Int×(List Int)×lT×lT×Unit)) N (λj a=>let c:=a.2.2.1;let e:=(⟨c,0,a.1⟩:Cur);let h:=ap []<|zfy e;let g:=aS .told<|zfy e;let d:=({ (zsd e) with b:=c}:Cur);let f:=({ (zcT d 2) with b:=c}:Cur); (cond (ilt a.2.1<|ln c) (cond (ilt a.2.1 4000) (oN (inb a.2.1<|ln c)<|j (wand .i64 (zG .i64 (zG .i64 (zm5 .i64 a.1 131)<|wcv .i64<|ix c a.2.1 0) 7) 1073741823,zG .i64 a.2.1 1,c,a.2.2.2.1,a.2.2.2.2.1,()))<|oN (zge e)<|oN (zeG d 2)<|cond (zhS d 2) (oN (few<|ln h)<|some [g,aS .told h])<|oN (zge f)<|some [g,aS .told<|zfy f])<|oN (zge e)<|oN (zeG d 2)<|cond (zhS d 2) (oN (few<|ln h)<|some [g,aS .told h])<|oN (zge f)<|some [g,aS .told<|zfy f])) (zG .i64 94701<|ln i,0,i,[],[],()))
def zDf:=zq [(43,0,{n:=32,tm:=[(0,.sl 0 []),(3,ti),(4,ti)],lo:=[],ro:=[(0,.u8,false),(1,.told,true),(2,.told,true)],sk:=[(0,2,0,.sl 1 []),(0,3,0,.sl 2 [])]})]
def zn0 (a:List Int)(b:List Told)(c:List Told):Prop:=(∃N,zlp N a=some [aS .told b,aS .told c])/\(True)
def zg1 (a:List Int):Bool:=uC (T:=List Told×List Told) (λr=>zn0 a r.1 r.2)
def zu1 (a:List Int):List Told×List Told:=uV (λr=>zn0 a r.1 r.2)
def zeX (a:List Int):List Told:=(zu1 a).1
def zeY (a:List Int):List Told:=(zu1 a).2
theorem zIs {a:List Int}(h:zg1 a=true):zn0 a (zeX a) (zeY a):=uG h
theorem zIt (d:List Int)(h:∃N,Ends (λa=>∃b c,a=[aS .told b,aS .told c]/\(True))<|zlp N d):zg1 d=true:=by obtain⟨N,a,e,b,c,rfl,h⟩:=h;exact zN ⟨(b,c),⟨N,e⟩,h⟩
def zsC:Run:=rF1 (dS .u8) λb=>(zg1 b,[aS .told<|zeX b,aS .told<|zeY b])
theorem zCD (a:List Int)(b:zg1 a=true):∃N,zlp N a=some [aS .told<|zeX a,aS .told<|zeY a]:=by exact(zIs b).1
theorem zyH:vF 11 zsC:=kF1 zvA zbk zy0 zo zDf zCD
theorem zMZ {a:List Int}(h:a.length<=big):zg1 a=true:=by
 refine zIt a (zbG λN b=>?_);unfold zlp oN;conv=>zeta
 refine zJH h (b h) ((λi t=>(t,(i:Int),a,[],[],())):Int->Int->_) (λrec i t=>by dsimp only) (λt c=>?_);have g:=(zGp<|zzd c).2.2;have d:=zZL h (zXy ⟨a,0,t⟩);refine zbh (zzd c) (zbh (zxF d 2)<|zdb (λ_=>zbh (zev ?_) ⟨_,rfl,zfy _,ap []<|zfy _,rfl,trivial⟩) λ_=>zbh (zzd<|zZL h<|zgb _ _) ⟨_,rfl,zfy _,zfy _,rfl,trivial⟩);show (zfy ⟨a,0,t⟩).length<=2147483648;omega
def z5b:zY:=[(10,zmg)]++z0C
theorem zGS:zK z5b:=zf zpt zvA
def zjv (N:Nat)(a:List Int):OA:=
 (oN (zfq a)<|some [aS .act<|zgz a])
def zlC (b:List Int)(a:List GAct):Prop:=(∃N,zjv N b=some [aS .act a])/\(a.length<=5)
def zfB (a:List Int):Bool:=uC (T:=List GAct) (λr=>zlC a r)
def zAK (a:List Int):List GAct:=uV (λr=>zlC a r)
def zid (a:List Int):List GAct:=(zAK a)
theorem zqY {a:List Int}(h:zfB a=true):zlC a (zid a):=uG h
theorem zAJ (c:List Int)(h:∃N,Ends (λa=>∃b,a=[aS .act b]/\(b.length<=5))<|zjv N c):zfB c=true:=by obtain⟨N,a,e,b,rfl,h⟩:=h;exact zN ⟨b,⟨N,e⟩,h⟩
def zpz:Run:=rF1 (dS .u8) λb=>(zfB b,[aS .act<|zid b])
theorem zxy (a:List Int)(b:zfB a=true):∃N,zjv N a=some [aS .act<|zid a]:=by exact(zqY b).1
theorem zvd:vF 12 zpz:=kF1 zGS zbk zy0 zo (zq []) zxy
theorem zQv {a:List Int}(h:a.length<=big):zfB a=true:=by refine zAJ a ⟨0,?_⟩;unfold zjv oN;exact zbh (zrK h) ⟨_,rfl,_,rfl,(znZ<|zrK h).2⟩
def zlo (N:Nat)(a:List Int):OA:=
 (oN (zme a)<|some [aS (.sl<|.sl .ins)<|zsb a,aS .act<|zsc a])
def znY (c:List Int)(a:List (List<|List Ins))(b:List GAct):Prop:=(∃N,zlo N c=some [aS (.sl<|.sl .ins) a,aS .act b])/\(((zrB a/\zxg a)/\b.length<=80)/\a.length<=2)
def zg0 (a:List Int):Bool:=uC (T:=List (List<|List Ins)×List GAct) (λr=>znY a r.1 r.2)
def zu0 (a:List Int):List (List<|List Ins)×List GAct:=uV (λr=>znY a r.1 r.2)
def zjg (a:List Int):List (List<|List Ins):=(zu0 a).1
def zjh (a:List Int):List GAct:=(zu0 a).2
theorem zuZ {a:List Int}(h:zg0 a=true):znY a (zjg a) (zjh a):=uG h
theorem zIr (d:List Int)(h:∃N,Ends (λa=>∃b c,a=[aS (.sl<|.sl .ins) b,aS .act c]/\(((zrB b/\zxg b)/\c.length<=80)/\b.length<=2))<|zlo N d):zg0 d=true:=by obtain⟨N,a,e,b,c,rfl,h⟩:=h;exact zN ⟨(b,c),⟨N,e⟩,h⟩
def zsB:Run:=rF1 (dS .u8) λb=>(zg0 b,[aS (.sl<|.sl .ins)<|zjg b,aS .act<|zjh b])
theorem zCC (a:List Int)(b:zg0 a=true):∃N,zlo N a=some [aS (.sl<|.sl .ins)<|zjg a,aS .act<|zjh a]:=by exact(zuZ b).1
theorem zyG:vF 7 zsB:=kF1 zGS zbk zy0 zo (zq []) zCC
theorem zJz {a:List Int}(h:a.length<=big):zg0 a=true:=by refine zIr a ⟨0,?_⟩;unfold zlo oN;exact zbh (z0s h) ⟨_,rfl,_,_,rfl,(zGn<|z0s h).2⟩
def z5c:zY:=[(11,zsC),(12,zpz),(7,zsB)]++z5b
theorem zTK:zK z5c:=zf zyH (zf zvd<|zf zyG zGS)
section
open Go Go.RowKit
theorem zLY {P:Program}{g:Func}{p q:Tmp}{ty i:TypeId}(h:g.results = #[.cell p ty,.cell q i])(b:Array Value)(w:World) :
 (results g b).run P w =
  ((asAddr<|b.getD p undef).run P w).andThen λa c=>((loadVar ty a).run P c).andThen λv d=>((asAddr<|b.getD q undef).run P d).andThen λj e=>((loadVar i j).run P e).andThen λk f=>.ok (.tuple #[v,k]) f:=by
 simp only[results,h];simp[Sem.run_bind,Result.andThen]
theorem z6j (w:World)(h i j:Option Addr)(d f g l m n:Nat)(k:Int)(u s t x y:Int)(N:Int)(ok:Bool)(c:∀p,Below w.heap.size w p->Calls Tryz.prog 203 #[.agg #[.slice h d l,.slice i f m,.slice j g n,.int .i64 k],.int .i64 s,.int .i64 t] p λe a=>e = .returned (.tuple #[.int .i64 N,.bool ok])/\Below p.heap.size p a) :
 Calls Tryz.prog 88 #[.agg #[.slice h d l,.slice i f m,.slice j g n,.int .i64 k],.agg #[.int .i64 12,.int .i64 u,.int .i64 s,.int .i64 t,.int .i64 x,.int .i64 y]] w λe z =>
  e = .returned (.tuple #[.agg #[.slice h d l,.slice i f m,.slice j g n,.int .i64 k],.agg #[.bool ok,.int .i64 N]])/\Below w.heap.size w z:=by
 go_enter Tryz.func88,Tryz.ntmps88
 go_wp2_with fail
 refine(c _<|((((Below.refl _ _).alloc (by simp) _).alloc (by simp) _).alloc (by simp;omega) _ |>.alloc (by simp;omega) _).alloc (by simp;omega) _).mono ?_
 rintro e a ⟨rfl,b⟩
 have r:=b.size;simp only[World.size_alloc]at r;have A:a.cell? ⟨w.heap.size+1+1+1+1,0,none⟩=some (.slice h d l):=(b.cell (by simp)).trans (by go_simp)
 have B:a.cell? ⟨w.heap.size+1+1+1+1,1,none⟩=some (.slice i f m):=(b.cell (by simp)).trans (by go_simp)
 have C:a.cell? ⟨w.heap.size+1+1+1+1,2,none⟩=some (.slice j g n):=(b.cell (by simp)).trans (by go_simp)
 have D:a.cell? ⟨w.heap.size+1+1+1+1,3,none⟩=some (.int .i64 k):=(b.cell (by simp)).trans (by go_simp)
 have E:a.cell? ⟨w.heap.size+1+1,0,none⟩=some (.slice none 0 0):=(b.cell (by simp)).trans (by go_simp)
 have K:a.frozen? ⟨w.heap.size+1+1,0,none⟩=false:=(b.frozen (by simp)).trans (by go_simp)
 have F:a.cell? ⟨w.heap.size+1+1,1,none⟩=some (.slice none 0 0):=(b.cell (by simp)).trans (by go_simp)
 have L:a.frozen? ⟨w.heap.size+1+1,1,none⟩=false:=(b.frozen (by simp)).trans (by go_simp)
 have G:a.cell? ⟨w.heap.size+1+1,2,none⟩=some (.slice none 0 0):=(b.cell (by simp)).trans (by go_simp)
 have M:a.frozen? ⟨w.heap.size+1+1,2,none⟩=false:=(b.frozen (by simp)).trans (by go_simp)
 have H:a.cell? ⟨w.heap.size+1+1,3,none⟩=some (.int .i64 0):=(b.cell (by simp)).trans (by go_simp)
 have O:a.frozen? ⟨w.heap.size+1+1,3,none⟩=false:=(b.frozen (by simp)).trans (by go_simp)
 have I:a.cell? ⟨w.heap.size+1+1+1,0,none⟩=some (.bool false):=(b.cell (by simp)).trans (by go_simp)
 have P:a.frozen? ⟨w.heap.size+1+1+1,0,none⟩=false:=(b.frozen (by simp)).trans (by go_simp)
 have J:a.cell? ⟨w.heap.size+1+1+1,1,none⟩=some (.int .i64 0):=(b.cell (by simp)).trans (by go_simp)
 have Q:a.frozen? ⟨w.heap.size+1+1+1,1,none⟩=false:=(b.frozen (by simp)).trans (by go_simp)
 go_wp2
 refine bodyPost_ret (v:=.tuple #[.agg #[.slice h d l,.slice i f m,.slice j g n,.int .i64 k],.agg #[.bool ok,.int .i64 N]]) ?_ rfl ?_
 .rw [zLY (by rfl)]
  go_simp
  trace_state
 .refine⟨rfl,?_⟩;have q:Below w.heap.size w a:=(((((Below.refl _ _).alloc (by simp) _).alloc (by simp) _).alloc (by simp;omega) _ |>.alloc (by simp;omega) _).alloc (by simp;omega) _).trans (b.mono (by simp;omega))
  exact(((((q.setCell (by simp;omega) _).setCell (by simp;omega) _).setCell (by simp;omega) _).setCell (by simp;omega) _).setCell (by simp;omega) _).setCell (by simp;omega) _
end
def zTC:zY:=[(91,zml),(85,zml)]++z0w
theorem zvy:zK zTC:=zf zHS (zf zDY z0x)
theorem z3R {b:Bare}{p c v:Int}(h:SmB b):SmB (znr b p c v):=by unfold znr;cases zlP b p c v;{exact h};{exact⟨zpj h.1,h.2⟩}
theorem z7v {b:Bare}{g a v:Int}(h:SmB b):SmB (zB7 b g a v):=by unfold zB7;cases zvF b g a v;{exact h};{exact⟨zpj h.1,h.2⟩}
theorem zIx {b:Bare}{a:GAct}(h:SmB b):SmB (zoo b a):=by have hg:=zfn a.G h;unfold zoo;cases ieq a.Kind 1;{cases ieq a.Kind 2;{cases ieq a.Kind 3;{cases ieq a.Kind 4;{cases ieq a.Kind 5;{cases ieq a.Kind 6;{cases ieq a.Kind 7;{cases ieq a.Kind 8;{cases ieq a.Kind 9;{cases ieq a.Kind 10;{cases ieq a.Kind 11;{exact h};{exact z7v h}};{exact zVI h}};{exact zQ1 h}};{exact z3R h}};{exact zh1 h hg}};{exact zh1 h hg}};{exact zh1 h (zVM hg)}};{exact zh1 h (zVK _ hg)}};{exact zh1 h (zqU _ hg)}};{exact zh1 h (zIy _ _ hg)}};{exact z3S h}
theorem z8z {k:Int}(h:1<=k/\k<=11)(c:ieq k 1=false)(d:ieq k 2=false)(e:ieq k 3=false)(f:ieq k 4=false)(g:ieq k 5=false)(i:ieq k 6=false)(j:ieq k 7=false)(l:ieq k 8=false)(m:ieq k 9=false)(a:ieq k 10=false)(b:ieq k 11=false):False:=by have:=qM c;have:=qM d;have:=qM e;have:=qM f;have:=qM g;have:=qM i;have:=qM j;have:=qM l;have:=qM m;have:=qM a;have:=qM b;omega
@[simp] abbrev zrO (b:Bare)(a:GAct):Bool:=pc (SmB b/\1<=a.Kind/\a.Kind<=11)
@[simp] abbrev ziy (b:Bare)(a:GAct):Bare:=zoo b a
@[simp] abbrev ziz (b:Bare)(a:GAct):Told:=zvv b a
def zz5:Run:=rF2 (dT .bare) (dT .act) λb c=>(zrO b c,[aT .bare<|ziy b c,aT .told<|ziz b c])
def zFa (N:Nat)(c:Bare)(a:GAct):OA:=
 let d:=(⟨a.Y,a.Z⟩:Slot); (cond (ieq a.Kind 1) (oN (zbF c a.G)<|some [aT .bare<|zeU c a.G,.agg [.b<|zgh c a.G,.i .i64 0]])<|cond (ieq a.Kind 2) (oN (zhk c a.G a.X d)<|some [aT .bare<|zcF c a.G a.X d,.agg [.b<|zcQ c a.G a.X d,.i .i64 0]])<|cond (ieq a.Kind 3) (oN (zh9 c a.G a.X)<|some [aT .bare<|zcp c a.G a.X,.agg [.b<|zdH c a.G a.X,.i .i64 0]])<|cond (ieq a.Kind 4) (oN (zfg c a.G a.X)<|some [aT .bare<|zbL c a.G a.X,.agg [.b<|zbS c a.G a.X,.i .i64 0]])<|cond (ieq a.Kind 5) (oN (zbF c a.G)<|some [aT .bare<|zbN c a.G,.agg [.b<|zbU c a.G,.i .i64 0]])<|cond (ieq a.Kind 6) (oN (zfh c a.G a.X)<|some [aT .bare<|zbM c a.G a.X,.agg [.b<|zbT c a.G a.X,.i .i64 0]])<|cond (ieq a.Kind 7) (oN (zgF a)<|oN (zhh c a.G<|zgy a)<|some [aT .bare<|zcl c a.G<|zgy a,.agg [.b<|zct c a.G<|zgy a,.i .i64 0]])<|cond (ieq a.Kind 8) (oN (zkU c a.X a.Y a.Z)<|some [aT .bare<|zec c a.X a.Y a.Z,.agg [.b<|zeW c a.X a.Y a.Z,.i .i64 0]])<|cond (ieq a.Kind 9) (oN (zcR c a.X)<|some [aT .bare<|zcw c a.X,.agg [.b<|zcK c a.X,.i .i64 0]])<|cond (ieq a.Kind 10) (oN (zQ c)<|some [aT .bare<|zcs c,.agg [.b<|zcD c,.i .i64<|zdh c]])<|cond (ieq a.Kind 11) (oN (zoc c a.G a.X a.Y)<|some [aT .bare<|zhi c a.G a.X a.Y,.agg [.b<|zhj c a.G a.X a.Y,.i .i64 0]])<|oN (ieq a.Kind 12)<|oN (zjf c a.G a.X) none)
theorem zRZ (b:Bare)(a:GAct)(c:zrO b a=true):∃N,zFa N b a=some [aT .bare<|ziy b a,aT .told<|ziz b a]:=by
 have e:=(zB.1 c).1;have d:=@z8z a.Kind (zB.1 c).2;refine⟨0,?_⟩;unfold zFa oN;conv=>zeta
 refine br (λ_=>mu ?_) (λ_=>br (λ_=>mu ?_) λ_=>br (λ_=>mu ?_) λ_=>br (λ_=>mu ?_) λ_=>br (λ_=>mu ?_) λ_=>br (λ_=>mu ?_) λ_=>br (λ_=>must rfl (mu ?_)) λ_=>br (λ_=>mu ?_) λ_=>br (λ_=>mu ?_) λ_=>br (λ_=>mu ?_) λ_=>br (λ_=>mu ?_) λ_=>mu (mu (by exfalso;first|assumption|(simp_all<;>omega))));all_goals first|rfl|(simp only [*,ziy,ziz,zoo,zvv,cT,cF]<;>rfl)|simp_all[Ty.cells,ziy,ziz,zoo,zvv]
theorem zKo:vF 88 zz5:=kF2 zvy zl zn zo (zq []) zRZ
@[simp] abbrev zeF (l:List Bare)(a:GAct):Bool:=pc (znT l)
@[simp] abbrev zc5 (l:List Bare)(a:GAct):List Bare:=zfu l a
@[simp] abbrev zcE (l:List Bare)(a:GAct):Told:=zfv l a
def zAa:Run:=rF2 (dS .bare) (dT .act) λb c=>(zeF b c,[aS .bare<|zc5 b c,aT .told<|zcE b c])
def zFi (N:Nat)(k:lR)(a:GAct):OA:=
 let j:=ieq a.M a.M;let h:=(⟨a.Y,a.Z⟩:Slot);let e:=zck k;let g:=aS .bare e;let f:=inb a.M<|ln e;let c:=ix e a.M zcO; (oN (zjD k)<|oN (zgF a)<|cond (nB<|zpA a) (some [g,.agg [.b false,.i .i64 0]])<|oN (zhn a.Kind)<|cond (zhO a.Kind) (some [g,.agg [.b false,.i .i64 0]])<|oN (zD a.M 0<|wsub .i64 (ln e) 1)<|cond (nB<|zk a.M 0<|wsub .i64 (ln e) 1) (cond (ieq a.Kind 10) (some [g,.agg [.b false,.i .i64<|-1]])<|some [g,.agg [.b false,.i .i64 0]])<|oN f<|cond (ieq a.Kind 1) (oN (zbF c a.G)<|oN f<|share (up e a.M<|zeU c a.G) λd=>some [aS .bare d,.agg [.b<|zgh c a.G,.i .i64 0]])<|cond (ieq a.Kind 2) (oN (zhk c a.G a.X h)<|oN f<|share (up e a.M<|zcF c a.G a.X h) λd=>some [aS .bare d,.agg [.b<|zcQ c a.G a.X h,.i .i64 0]])<|cond (ieq a.Kind 3) (oN (zh9 c a.G a.X)<|oN f<|share (up e a.M<|zcp c a.G a.X) λd=>some [aS .bare d,.agg [.b<|zdH c a.G a.X,.i .i64 0]])<|cond (ieq a.Kind 4) (oN (zfg c a.G a.X)<|oN f<|share (up e a.M<|zbL c a.G a.X) λd=>some [aS .bare d,.agg [.b<|zbS c a.G a.X,.i .i64 0]])<|cond (ieq a.Kind 5) (oN (zbF c a.G)<|oN f<|share (up e a.M<|zbN c a.G) λd=>some [aS .bare d,.agg [.b<|zbU c a.G,.i .i64 0]])<|cond (ieq a.Kind 6) (oN (zfh c a.G a.X)<|oN f<|share (up e a.M<|zbM c a.G a.X) λd=>some [aS .bare d,.agg [.b<|zbT c a.G a.X,.i .i64 0]])<|cond (ieq a.Kind 7) (oN (zgF a)<|oN (zhh c a.G<|zgy a)<|oN f<|share (up e a.M<|zcl c a.G<|zgy a) λd=>some [aS .bare d,.agg [.b<|zct c a.G<|zgy a,.i .i64 0]])<|cond (ieq a.Kind 8) (oN (zkU c a.X a.Y a.Z)<|oN f<|share (up e a.M<|zec c a.X a.Y a.Z) λd=>some [aS .bare d,.agg [.b<|zeW c a.X a.Y a.Z,.i .i64 0]])<|cond (ieq a.Kind 9) (oN (zcR c a.X)<|oN f<|share (up e a.M<|zcw c a.X) λd=>some [aS .bare d,.agg [.b<|zcK c a.X,.i .i64 0]])<|cond (ieq a.Kind 10) (oN (zQ c)<|oN f<|share (up e a.M<|zcs c) λd=>some [aS .bare d,.agg [.b<|zcD c,.i .i64<|zdh c]])<|cond (ieq a.Kind 11) (oN (zoc c a.G a.X a.Y)<|oN f<|share (up e a.M<|zhi c a.G a.X a.Y) λd=>some [aS .bare d,.agg [.b<|zhj c a.G a.X a.Y,.i .i64 0]])<|oN (zjf c a.G a.X)<|oN f<|oN (cond (cond (cond j true false) (cond j true false) false) (cond j true false) false)<|share (up e a.M c) λd=>some [aS .bare d,.agg [.b<|zhL c a.G a.X,.i .i64<|zhK c a.G a.X]])
theorem zR6 (a:List Bare)(b:GAct)(d:zeF a b=true):∃N,zFi N a b=some [aS .bare<|zc5 a b,aT .told<|zcE a b]:=by
 have c:=zB.1 d;have f:hasB b.M (ln a)=true->SmB (ix a b.M zcO):=λh=>zMa c h _;have e:a.length<=1048576:=c.1;refine⟨0,?_⟩;unfold zFi oN nB;conv=>zeta
 refine mu (must rfl (brN (λ_=>?_) λ_=>must rfl (br (λ_=>?_) λ_=>must rfl (brN (λ_=>br (λ_=>?_) λ_=>?_) λ_=>mu (br (λ_=>mu (mu<|shr ?_)) λ_=>br (λ_=>mu (mu<|shr ?_)) λ_=>br (λ_=>mu (mu<|shr ?_)) λ_=>br (λ_=>mu (mu<|shr ?_)) λ_=>br (λ_=>mu (mu<|shr ?_)) λ_=>br (λ_=>mu (mu<|shr ?_)) λ_=>br (λ_=>must rfl (mu<|mu<|shr ?_)) λ_=>br (λ_=>mu (mu<|shr ?_)) λ_=>br (λ_=>mu (mu<|shr ?_)) λ_=>br (λ_=>mu (mu<|shr ?_)) λ_=>br (λ_=>mu (mu<|shr ?_)) λ_=>mu (mu<|mu<|shr ?_))))));all_goals first|rfl|(simp only [*,zc5,zcE,zfu,zfv,zoo,zvv,cT,cF]<;>rfl)|simp_all[Ty.cells,zc5,zcE,zfu,zfv,zoo,zvv]
theorem zKv:vF 42 zAa:=kF2 zvy zl zn zo (zq []) zR6
def zTD:zY:=[(88,zz5),(42,zAa)]++zTC
theorem zQn:zK zTD:=zf zKo (zf zKv zvy)
theorem z9p {k:Int}(h:ieq k 12=false)(d:zk k 1 17=true)(c:zk k 13 17=false):1<=k/\k<=11:=by have e:=qM h;have a:=ze4.1 d;have b:¬ (13<=k/\k<=17):=λf=>(by rw[ze4.2 f]at c;cases c);omega
@[simp] abbrev zpV (l:List Bare)(a:GAct):Bool:=pc (znT l/\ieq a.Kind 12=false)
def zxM:List AV->Option (Bool×List AV)
 |[.one<|.s .bare b,.agg [.i .i64 c,.i .i64 d,.i .i64 e,.i .i64 f,.i .i64 g,.i .i64 h]]=>some (zpV b (⟨c,d,e,f,g,h⟩:GAct),[.one<|.s .bare<|zc5 b (⟨c,d,e,f,g,h⟩:GAct),.agg<|Ty.cells .told<|zcE b (⟨c,d,e,f,g,h⟩:GAct)])
 |_=>none
def zt7 (N:Nat)(c:lR)(a:GAct):OA:=
 (cond (zjD c) (cond (zgF a) (cond (cond (zpA a) false true) (some [.one<|.s .bare<|zck c,.agg [.b false,.i .i64 0]])<|cond (zhn a.Kind) (cond (zhO a.Kind) (some [.one<|.s .bare<|zck c,.agg [.b false,.i .i64 0]])<|cond (zZ a.M<|ln c) (cond (cond (zbH a.M<|ln c) false true) (cond (ieq a.Kind 10) (some [.one<|.s .bare<|zck c,.agg [.b false,.i .i64<|-1]])<|cond (zZ a.M<|ln c) (cond (cond (zbH a.M<|ln c) false true) (some [.one<|.s .bare<|zck c,.agg [.b false,.i .i64 0]])<|cond (inb a.M<|ln c) (cond (zrO (ix c a.M zcO) a) (cond (zQ<|ziy (ix c a.M zcO) a) (cond (inb a.M<|ln<|zck c) (share (up (zck c) a.M<|zI<|ziy (ix c a.M zcO) a) λd=>some [.one<|.s .bare d,.agg [.b (ziz (ix c a.M zcO) a).Ok,.i .i64 (ziz (ix c a.M zcO) a).N]]) none) none) none) none) none)<|cond (zZ a.M<|ln c) (cond (cond (zbH a.M<|ln c) false true) (some [.one<|.s .bare<|zck c,.agg [.b false,.i .i64 0]])<|cond (inb a.M<|ln c) (cond (zrO (ix c a.M zcO) a) (cond (zQ<|ziy (ix c a.M zcO) a) (cond (inb a.M<|ln<|zck c) (share (up (zck c) a.M<|zI<|ziy (ix c a.M zcO) a) λd=>some [.one<|.s .bare d,.agg [.b (ziz (ix c a.M zcO) a).Ok,.i .i64 (ziz (ix c a.M zcO) a).N]]) none) none) none) none) none) none) none) none) none)
theorem zSD (N:Nat)(a:List Bare)(b:GAct):evalFn (cQ zTD znW zyZ zIA) (zq []) N 12 40 [.one<|.s .bare a,.agg<|Ty.cells .act b]=zt7 N a b:=by kernel_rfl
theorem zOj (a:List Bare)(b:GAct)(f:zbt big [.one<|.s .bare a,.agg<|Ty.cells .act b])(c:zpV a b=true):∃N,zt7 N a b=some [.one<|.s .bare<|zc5 a b,.agg<|Ty.cells .told<|zcE a b]:=by have d:=(zB.1 c).1;have e:hasB b.M (ln a)=true->SmB (ix a b.M zcO):=λh=>zMa d h _;have j:hasB b.M (ln a)=true->SmB (zoo (ix a b.M zcO) b):=λh=>zIx (e h);have i:a.length<=1048576:=d.1;have g:=z9p (zB.1 c).2;refine⟨0,?_⟩;unfold zt7;refine must (by first|assumption|(simp_all<;>omega)) (must rfl (brN (λ_=>?_) λ_=>must rfl (br (λ_=>?_) λ_=>must rfl (brN (λ_=>br (λ_=>?_) λ_=>must rfl (brN (λ_=>?_) λ_=>must (by first|assumption|(simp_all<;>omega)) (must (by first|assumption|(simp_all<;>omega))<|must (by first|assumption|(simp_all<;>omega))<|must (by first|assumption|(simp_all<;>omega))<|shr ?_))) λ_=>must rfl (brN (λ_=>?_) λ_=>must (by first|assumption|(simp_all<;>omega)) (must (by first|assumption|(simp_all<;>omega))<|must (by first|assumption|(simp_all<;>omega))<|must (by first|assumption|(simp_all<;>omega))<|shr ?_))))));all_goals first|rfl|(simp only [*,zc5,zcE,zfu,zfv,cT,cF]<;>rfl)|simp_all[Ty.cells,zc5,zcE,zfu,zfv]
theorem zus:vF 40 zxM:=zyF zQn zl zn zo (zij (by kernel_rfl)) λb f c h=>by unfold zxM at h;split at h;{rename_i a k m g x y z;obtain⟨d,rfl⟩:=zds h;obtain⟨N,e⟩:=zOj a ⟨k,m,g,x,y,z⟩ c d;exact⟨zq [],N,(zSD N a ⟨k,m,g,x,y,z⟩).trans e⟩};{cases h}
theorem z7P {b:Bare}{a:GAct}(h:a.Kind=12):zoo b a=b:=by unfold zoo;rw[h];rfl
theorem z6i {b:Bare}{a:GAct}(h:a.Kind=12):zvv b a=⟨zhV b a.G a.X 1,zmi b a.G a.X⟩:=by unfold zvv;rw[h];rfl
@[simp] abbrev zwU (b:Bare)(a:GAct):Bool:=pc (SmB b/\a.Kind=12)
def zvb:List AV->Option (Bool×List AV)
 |[.agg [.s (.sl .int) m,.s .guest g,.s .int o,.i .i64 p],.agg [.i .i64 k,.i .i64 q,.i .i64 u,.i .i64 x,.i .i64 y,.i .i64 z]]=>some (zwU ⟨m,g,o,p⟩ ⟨k,q,u,x,y,z⟩,[.agg [.b<|zhV ⟨m,g,o,p⟩ u x 1,.i .i64<|zmi ⟨m,g,o,p⟩ u x]])
 |_=>none
theorem zVw {w:World}{v:Value}{t:Ty}{l:List t.den}{S:zbd}(h:Rep false w v (.s t l) S):∃p n q,v = .slice p n q:=by obtain⟨⟨a,b,c,_⟩,_⟩:=h.len;exact⟨a,_,b,c⟩
theorem zNa:zJw Tryz.prog 88 zvb:=by
 refine⟨zij (by kernel_rfl),?_⟩;intro w a0 xs rs a j;unfold zvb at j;split at j
 .rename_i m g o p k q u x y z;obtain⟨hc,rfl⟩:=zds j;obtain⟨G,H⟩:=zB.1 hc;simp only at H;subst H;have hl:xs.length=10:=a.1
  match xs,hl with
  |[V,W,X,Y,Z,A,C,w3,w4,w5],_=>
   have S:Rep false w V (.s (.sl .int) m) (fun b=>b<w.heap.size):=a.2 0 _ V rfl rfl;have T:Rep false w W (.s .guest g) (fun b=>b<w.heap.size):=a.2 1 _ W rfl rfl;have U:Rep false w X (.s .int o) (fun b=>b<w.heap.size):=a.2 2 _ X rfl rfl;have r3:Rep false w Y (.i .i64 p) (fun b=>b<w.heap.size):=a.2 3 _ Y rfl rfl;have s0:Rep false w Z (.i .i64 12) (fun b=>b<w.heap.size):=a.2 4 _ Z rfl rfl;have s1:Rep false w A (.i .i64 q) (fun b=>b<w.heap.size):=a.2 5 _ A rfl rfl;have s2:Rep false w C (.i .i64 u) (fun b=>b<w.heap.size):=a.2 6 _ C rfl rfl;have s3:Rep false w w3 (.i .i64 x) (fun b=>b<w.heap.size):=a.2 7 _ w3 rfl rfl;have s4:Rep false w w4 (.i .i64 y) (fun b=>b<w.heap.size):=a.2 8 _ w4 rfl rfl;have s5:Rep false w w5 (.i .i64 z) (fun b=>b<w.heap.size):=a.2 9 _ w5 rfl rfl;obtain⟨M,I,P,rfl⟩:=zVw S;obtain⟨N,J,Q,rfl⟩:=zVw T;obtain⟨O,L,R,rfl⟩:=zVw U;obtain rfl:=r3.int_inv;obtain rfl:=s0.int_inv;obtain rfl:=s1.int_inv;obtain rfl:=s2.int_inv;obtain rfl:=s3.int_inv;obtain rfl:=s4.int_inv;obtain rfl:=s5.int_inv;refine(z6j w M N O I J L P Q R p q u x y z (zmi ⟨m,g,o,p⟩ u x) (zhV ⟨m,g,o,p⟩ u x 1) ?_).mono ?_
   .intro A hB;have h:∀b,b<w.heap.size->A.heap[b]?=w.heap[b]?:=fun b l=>hB.block b l;have B:zdz false A (zA [.agg (Ty.cells .bare ⟨m,g,o,p⟩),.one (.i .i64 u),.one (.i .i64 x)]) [.slice M I P,.slice N J Q,.slice O L R,.int .i64 p,.int .i64 u,.int .i64 x] (fun _ b=>b<A.heap.size):=by
     refine⟨rfl,fun i c v f d=>?_⟩
     match i,f,d with
     | 0,f,d=>cases f;cases d;exact(S.frame h).weak (fun b l=>jI l hB.size)
     | 1,f,d=>cases f;cases d;exact(T.frame h).weak (fun b l=>jI l hB.size)
     | 2,f,d=>cases f;cases d;exact(U.frame h).weak (fun b l=>jI l hB.size)
     | 3,f,d=>cases f;cases d;exact .i _ _ _
     | 4,f,d=>cases f;cases d;exact .i _ _ _
     | 5,f,d=>cases f;cases d;exact .i _ _ _
     |i+6,f,d=>cases d
    have n:zgY [.agg (Ty.cells .bare ⟨m,g,o,p⟩),.one (.i .i64 u),.one (.i .i64 x)]=some (true,[.one (.i .i64 (zmi ⟨m,g,o,p⟩ u x)),.one (.b (zhV ⟨m,g,o,p⟩ u x 1))]):=by show some (zjf ⟨m,g,o,p⟩ u x,_)=_;rw[show zjf ⟨m,g,o,p⟩ u x=true from zN G]
    refine(zo3.2 A _ _ _ B n).mono ?_;intro e C E;cases e with
    |panicked D=>exact E.elim
    |outgrown=>exact E.elim
    |returned v=>
     obtain⟨hg,ys,K,t,rfl,a1⟩:=E;have F:ys.length=2:=t.1
     match ys,F with
     |[y0,y1],_=>have e0:Rep true C y0 (.i .i64 (zmi ⟨m,g,o,p⟩ u x)) (K 0):=t.2 0 _ y0 rfl rfl;have e1:Rep true C y1 (.b (zhV ⟨m,g,o,p⟩ u x 1)) (K 1):=t.2 1 _ y1 rfl rfl;obtain rfl:=e0.int_inv;obtain rfl:=e1.bool_inv;exact⟨rfl,⟨hg.os,hg.tape,hg.output,hg.size,hg.keep⟩⟩
   .rintro r w' ⟨rfl,hB⟩;refine⟨⟨hB.os,hB.tape,hB.output,hB.size,fun b l=>hB.block b l⟩,[.bool (zhV ⟨m,g,o,p⟩ u x 1),.int .i64 (zmi ⟨m,g,o,p⟩ u x)],⟨rfl,fun i c v f d=>?_⟩,rfl⟩
    match i,f,d with
    | 0,f,d=>cases f;cases d;exact .b _ _
    | 1,f,d=>cases f;cases d;exact .i _ _ _
    |i+2,f,d=>cases d
 {cases j}
def z8Q:zfS:=[(88,[],none,zvb)]++zIA
theorem z7A:∀f own a b,zx z8Q f=some (own,a,b)->zeK Tryz.prog f own a b:=zpm zo (by
 intro x c;simp only[qH,qY,or_false]at c;subst c;exact zNa)
@[simp] abbrev zpW (l:List Bare)(a:GAct):Bool:=pc (znT l/\a.Kind=12)
def zxN:List AV->Option (Bool×List AV)
 |[.one<|.s .bare b,.agg [.i .i64 c,.i .i64 d,.i .i64 e,.i .i64 f,.i .i64 g,.i .i64 h]]=>some (zpW b (⟨c,d,e,f,g,h⟩:GAct),[.one<|.s .bare<|zc5 b (⟨c,d,e,f,g,h⟩:GAct),.agg<|Ty.cells .told<|zcE b (⟨c,d,e,f,g,h⟩:GAct)])
 |_=>none
def zt8 (N:Nat)(c:lR)(a:GAct):OA:=
 (cond (zjD c) (cond (zgF a) (cond (cond (zpA a) false true) (some [.one<|.s .bare<|zck c,.agg [.b false,.i .i64 0]])<|cond (zhn a.Kind) (cond (zhO a.Kind) (some [.one<|.s .bare<|zck c,.agg [.b false,.i .i64 0]])<|cond (zZ a.M<|ln c) (cond (cond (zbH a.M<|ln c) false true) (cond (ieq a.Kind 10) (some [.one<|.s .bare<|zck c,.agg [.b false,.i .i64<|-1]])<|cond (zZ a.M<|ln c) (cond (cond (zbH a.M<|ln c) false true) (some [.one<|.s .bare<|zck c,.agg [.b false,.i .i64 0]])<|cond (inb a.M<|ln c) (cond (zwU (ix c a.M zcO) a) (cond (zQ<|ix c a.M zcO) (cond (inb a.M<|ln<|zck c) (share (up (zck c) a.M<|zI<|ix c a.M zcO) λd=>some [.one<|.s .bare d,.agg [.b<|zhV (ix c a.M zcO) a.G a.X 1,.i .i64<|zmi (ix c a.M zcO) a.G a.X]]) none) none) none) none) none)<|cond (zZ a.M<|ln c) (cond (cond (zbH a.M<|ln c) false true) (some [.one<|.s .bare<|zck c,.agg [.b false,.i .i64 0]])<|cond (inb a.M<|ln c) (cond (zwU (ix c a.M zcO) a) (cond (zQ<|ix c a.M zcO) (cond (inb a.M<|ln<|zck c) (share (up (zck c) a.M<|zI<|ix c a.M zcO) λd=>some [.one<|.s .bare d,.agg [.b<|zhV (ix c a.M zcO) a.G a.X 1,.i .i64<|zmi (ix c a.M zcO) a.G a.X]]) none) none) none) none) none) none) none) none) none)
theorem zSE (N:Nat)(a:List Bare)(b:GAct):evalFn (cQ zTC znW zyZ z8Q) (zq []) N 12 40 [.one<|.s .bare a,.agg<|Ty.cells .act b]=zt8 N a b:=by kernel_rfl
theorem zOk (c:List Bare)(a:GAct)(j:zbt big [.one<|.s .bare c,.agg<|Ty.cells .act a])(d:zpW c a=true):∃N,zt8 N c a=some [.one<|.s .bare<|zc5 c a,.agg<|Ty.cells .told<|zcE c a]:=by have f:=(zB.1 d).1;have g:hasB a.M (ln c)=true->SmB (ix c a.M zcO):=λh=>zMa f h _;have l:hasB a.M (ln c)=true->SmB (zoo (ix c a.M zcO) a):=λh=>zIx (g h);have k:c.length<=1048576:=f.1;have e:a.Kind=12:=(zB.1 d).2;have m:=z7P (b:=ix c a.M zcO) e;have i:=z6i (b:=ix c a.M zcO) e;refine⟨0,?_⟩;unfold zt8;refine must (by first|assumption|(simp_all<;>omega)) (must rfl (brN (λ_=>?_) λ_=>must rfl (br (λ_=>?_) λ_=>must rfl (brN (λ_=>br (λ_=>?_) λ_=>must rfl (brN (λ_=>?_) λ_=>must (by first|assumption|(simp_all<;>omega)) (must (by first|assumption|(simp_all<;>omega))<|must (by first|assumption|(simp_all<;>omega))<|must (by first|assumption|(simp_all<;>omega))<|shr ?_))) λ_=>must rfl (brN (λ_=>?_) λ_=>must (by first|assumption|(simp_all<;>omega)) (must (by first|assumption|(simp_all<;>omega))<|must (by first|assumption|(simp_all<;>omega))<|must (by first|assumption|(simp_all<;>omega))<|shr ?_))))));all_goals first|rfl|(simp only [*,zc5,zcE,zfu,zfv,cT,cF]<;>rfl)|simp_all[Ty.cells,zc5,zcE,zfu,zfv]
theorem zG3:vF 40 zxN:=zyF zvy zl zn z7A (zij (by kernel_rfl)) λb f c h=>by unfold zxN at h;split at h;{rename_i a k m g x y z;obtain⟨d,rfl⟩:=zds h;obtain⟨N,e⟩:=zOk a ⟨k,m,g,x,y,z⟩ c d;exact⟨zq [],N,(zSE N a ⟨k,m,g,x,y,z⟩).trans e⟩};{cases h}
def zsZ:List AV->Option (Bool×List AV)
 |[.one<|.s .bare b,.agg [.i .i64 c,.i .i64 d,.i .i64 e,.i .i64 f,.i .i64 g,.i .i64 h]]=>some (zeF b (⟨c,d,e,f,g,h⟩:GAct),[.one<|.s .bare<|zc5 b (⟨c,d,e,f,g,h⟩:GAct),.agg<|Ty.cells .told<|zcE b (⟨c,d,e,f,g,h⟩:GAct)])
 |_=>none
theorem zJ4:vF 40 zsZ:=by refine⟨zus.1,?_⟩;intro w m l p h g;unfold zsZ at g;split at g;{rename_i j a b c d e f;obtain⟨n,rfl⟩:=zds g;have k:=zB.1 n;cases i:ieq a 12;{refine zus.2 w _ l _ h ?_;show some (zpV j ⟨a,b,c,d,e,f⟩,_)=_;rw[show zpV j ⟨a,b,c,d,e,f⟩=true from zN ⟨k,i⟩]};{refine zG3.2 w _ l _ h ?_;show some (zpW j ⟨a,b,c,d,e,f⟩,_)=_;rw[show zpW j ⟨a,b,c,d,e,f⟩=true from zN ⟨k,qD i⟩]}};{cases g}
theorem zQ2 {l:List Bare}{a:GAct}(h:znT l):znT (zfu l a):=by unfold zfu;cases zk a.Kind 1 17;{exact h};{cases zk a.Kind 13 17;{cases b:hasB a.M (ln l);{exact h};{exact zYn h (zIx<|zMa h b _)}};{exact h}}
def z8f:zY:=[(40,zsZ)]++zTD
theorem zQo:zK z8f:=zf zJ4 zQn
def zl4 (u:List Bare×List Told):OA:=some [AV.one<|.s .bare u.1,AV.one<|.s .told u.2]
theorem z7w {b:List (List Ins)}(h:z2s b):SmB (zhT b):=by refine⟨show SmM zuN from ⟨by decide,by decide⟩,⟨?_,?_⟩,by simp[zhT]⟩;{simp only [zhT,k6,uF];omega};{intro x a;simp only[zhT,jD]at a;obtain⟨p,c,rfl⟩:=a;exact⟨h.2 p<|jY c,show zlV.length<=1048576 by decide,show zlV.length<=1048576 by decide,by simp[zdS]⟩}
theorem zVJ {a:List (List<|List Ins)}(h:zrB a):znT ((a.take 3).map zhT):=by refine⟨?_,?_⟩;{simp only [k6,uF];omega};{intro b c;obtain⟨p,d,rfl⟩:=jD.1 c;exact z7w (h.2 p<|jY d)}
theorem zTV {d a c:Type}{b:Nat->d->a->(a->Option c)->Option c}{K K':a->Option c}{l:List d}{i:Nat}{t:a}(h:∀t,K t=K' t):goL b K l i t=goL b K' l i t:=by rw[funext h]
theorem zLF {c:List Bare->GAct->Bool}(d:∀l a,znT l->c l a=true)(m:Nat):∀(l:List GAct) (i:Nat) (u:List Bare×List Told),znT u.1->u.2.length+l.length<=2147483648->
 goL (λ(j:Nat) y (u:List Bare×List Told) k=>bif ilt (j:Int) (m:Int) then (cond (c u.1 y) (cond (few<|ln<|ap u.2 [zfv u.1 y]) (k (zfu u.1 y,ap u.2 [zfv u.1 y])) none) none) else zl4 u) zl4 l i u=zl4 (znu (l.take<|m-i) u)
 |[],i,u,_,_=>by simp[goL,znu]
 |a::l,i,u,e,g=>by simp only[qV]at g;have f:few (ln<|ap u.2 [zfv u.1 a])=true:=zev (by simp[ap];omega);by_cases h:i<m;{have b:ilt (i:Int) (m:Int)=true:=qL (by omega);simp only[goL,b,f,d _ _ e,cT];rw[zLF d m l (i+1) _ (zQ2 e) (by simp[ap];omega)];rw[show m-i=m-(i+1)+1 by omega];rfl};{have b:ilt (i:Int) (m:Int)=false:=qI (by omega);simp only[goL,b,cF];rw[show m-i=0 by omega];rfl}
theorem zQG {c:List Bare->GAct->Bool}(b:∀l a,znT l->c l a=true):∀(l:List GAct) (i:Nat) (u:List Bare×List Told),znT u.1->u.2.length+l.length<=2147483648->
 goL (λ(_:Nat) y (u:List Bare×List Told) g=>bif c u.1 y then (cond (few<|ln<|ap u.2 [zfv u.1 y]) (g (zfu u.1 y,ap u.2 [zfv u.1 y])) none) else none) zl4 l i u=zl4 (znu l u)
 |[],i,u,_,_=>by simp[goL,znu]
 |a::l,i,u,d,f=>by simp only[qV]at f;have e:few (ln<|ap u.2 [zfv u.1 a])=true:=zev (by simp[ap];omega);simp only[goL,e,b _ _ d,cT];rw[zQG b l (i+1) _ (zQ2 d) (by simp[ap];omega)];rfl
@[simp] abbrev zhI (a:List (List<|List Ins))(l:List GAct):List Bare:=(zrU a l).1
@[simp] abbrev zhJ (a:List (List<|List Ins))(l:List GAct):List Told:=(zrU a l).2
def zU1 (l:List GAct)(t:List Bare):OA:=goL (λ(j:Nat) y (u:List Bare×List Told) a=>bif ilt (j:Int) ((80:Nat):Int) then (cond (zeF u.1 y) (cond (few<|ln<|ap u.2 [zfv u.1 y]) (a (zfu u.1 y,ap u.2 [zfv u.1 y])) none) none) else zl4 u) zl4 l 0 (t,[])
def znA:Run:=rF2 (dS<|.sl<|.sl .ins) (dS .act) λb c=>(ze0 b c,[aS .bare<|zhI b c,aS .told<|zhJ b c])
def zBl (N:Nat)(i:lQ)(j:lA):OA:=
 (iter (σ:=(Int×lQ×lA×lR×Unit)) N (λk b=>let f:=ap b.2.2.2.1 [zpC<|ix b.2.1 b.1 []]; (cond (ilt b.1<|ln b.2.1) (cond (ilt b.1 3) (oN (inb b.1<|ln b.2.1)<|oN (zei<|ix b.2.1 b.1 [])<|oN (few<|ln f)<|k (zG .i64 b.1 1,b.2.1,b.2.2.1,f,()))<|iter (σ:=(Int×lA×lR×lT×Unit)) N (λc a=>let d:=ix a.2.1 a.1 ziv;let g:=ap a.2.2.2.1 [zcE a.2.2.1 d]; (cond (ilt a.1<|ln a.2.1) (cond (ilt a.1 80) (oN (inb a.1<|ln a.2.1)<|oN (zeF a.2.2.1 d)<|oN (few<|ln g)<|c (zG .i64 a.1 1,a.2.1,zc5 a.2.2.1 d,g,()))<|some [aS .bare a.2.2.1,aS .told a.2.2.2.1])<|some [aS .bare a.2.2.1,aS .told a.2.2.2.1])) (0,b.2.2.1,b.2.2.2.1,[],()))<|iter (σ:=(Int×lA×lR×lT×Unit)) N (λc a=>let e:=ix a.2.1 a.1 ziv;let h:=ap a.2.2.2.1 [zcE a.2.2.1 e]; (cond (ilt a.1<|ln a.2.1) (cond (ilt a.1 80) (oN (inb a.1<|ln a.2.1)<|oN (zeF a.2.2.1 e)<|oN (few<|ln h)<|c (zG .i64 a.1 1,a.2.1,zc5 a.2.2.1 e,h,()))<|some [aS .bare a.2.2.1,aS .told a.2.2.2.1])<|some [aS .bare a.2.2.1,aS .told a.2.2.2.1])) (0,b.2.2.1,b.2.2.2.1,[],()))) (0,i,j,[],()))
def zPI:=zq [(9,0,{n:=57,tm:=[(0,.sl 0 []),(1,.sl 1 []),(6,.sl 2 []),(7,ti)],lo:=[],ro:=[(0,.sl<|.sl .ins,false),(1,.act,false),(2,.bare,true)]}),(9,2,{n:=57,tm:=[(1,.sl 0 []),(6,.sl 1 []),(8,.sl 2 []),(9,ti)],lo:=[],ro:=[(0,.act,false),(1,.bare,true),(2,.told,true)]})]
theorem zOR (k:List lP)(d:List GAct)(w:ze0 k d=true):∃N,zBl N k d=some [aS .bare<|zhI k d,aS .told<|zhJ k d]:=by
 obtain⟨r,q⟩:=zB.1 w;have p:=zbV r.1;have e:=zbV q;refine zbG λN m=>?_;unfold zBl oN;conv=>zeta
 refine(zW k (λi (t:lR)=>((i:Int),k,d,t,())) _ (λi (x:List lI) (t:List Bare) B=>bif ilt (i:Int) ((3:Nat):Int) then (cond (few<|ln<|ap t [zhT x]) (B<|ap t [zhT x]) none) else zU1 d t) (λ(t:lR)=>iter (σ:=(Int×lA×lR×lT×Unit)) N (λA b=>cond (ilt b.1<|ln b.2.1) (cond (ilt b.1 80) (cond (inb b.1<|ln b.2.1) (cond (zeF b.2.2.1<|ix b.2.1 b.1 ziv) (cond (few<|ln<|ap b.2.2.2.1 [zcE b.2.2.1<|ix b.2.1 b.1 ziv]) (A (zG .i64 b.1 1,b.2.1,zc5 b.2.2.1<|ix b.2.1 b.1 ziv,ap b.2.2.2.1 [zcE b.2.2.1<|ix b.2.1 b.1 ziv],())) none) none) none)<|some [.one<|.s .bare b.2.2.1,.one<|.s .told b.2.2.2.1])<|some [.one<|.s .bare b.2.2.1,.one<|.s .told b.2.2.2.1]) (0,d,t,[],())) (λi n t rec=>?_) (λt rec=>?_) _ ([])<|m p.1).trans ?_;{simp only [zbf n,zO n,zX n,zV n p.1,cT];have z:zei k[i]=true:=zN (r.2 _<|jA n);cases v:ilt (i:Int) 3;{simp only [cF,show ilt (i:Int) ((3:Nat):Int)=false from v];refine(zW d (λj (u:lR×lT)=>((j:Int),d,u.1,u.2,())) _ (λj y (u:List Bare×List Told) c=>bif ilt (j:Int) ((80:Nat):Int) then (cond (zeF u.1 y) (cond (few<|ln<|ap u.2 [zfv u.1 y]) (c (zfu u.1 y,ap u.2 [zfv u.1 y])) none) none) else zl4 u) (λ(u:lR×lT)=>some [.one<|.s .bare u.1,.one<|.s .told u.2]) (λj g u f=>?_) (λu f=>?_) _ (t,[])<|m e.1).trans ?_;{simp only [zbf g,zO g,zX g,zV g e.1,cT];rfl};{simp only [zbc,cF]};rfl};{simp only [z,cT,show ilt (i:Int) ((3:Nat):Int)=true from v]}};{simp only [zbc,cF]};refine(zTV (K':=zU1 d) ?_).trans ?_;intro t;refine(zW d (λj (u:lR×lT)=>((j:Int),d,u.1,u.2,())) _ (λj y (u:List Bare×List Told) c=>bif ilt (j:Int) ((80:Nat):Int) then (cond (zeF u.1 y) (cond (few<|ln<|ap u.2 [zfv u.1 y]) (c (zfu u.1 y,ap u.2 [zfv u.1 y])) none) none) else zl4 u) (λ(u:lR×lT)=>some [.one<|.s .bare u.1,.one<|.s .told u.2]) (λj g u f=>?_) (λu f=>?_) _ (t,[])<|m e.1).trans ?_;{simp only [zbf g,zO g,zX g,zV g e.1,cT];rfl};{simp only [zbc,cF]};rfl;refine(zv2 3 zhT (zU1 d) k 0 [] (by simpa using p.2)).trans ?_;exact zLF (λl a h=>zN h) 80 d 0 _ (zVJ r) (by simpa using e.2)
theorem zHA:vF 9 znA:=kF2 zQo zl zn zo zPI zOR
def z1x (l:List GAct)(t:List Bare):OA:=goL (λ(_:Nat) y (u:List Bare×List Told) a=>bif zeF u.1 y then (cond (few<|ln<|ap u.2 [zfv u.1 y]) (a (zfu u.1 y,ap u.2 [zfv u.1 y])) none) else none) zl4 (tk l<|zcJ (ln l) 80) 0 (t,[])
def zAM (N:Nat)(c:lQ)(i:lA):OA:=
 let g:=zcJ (ln c) 3; (oN (inr 0 g<|ln c)<|iter (σ:=(Int×Int×lA×lR×lT×lQ×Unit)) N (λj a=>let f:=zcJ (ln a.2.2.1) 80;let e:=ix a.2.2.2.2.2.1 a.2.1 []; (cond (ilt a.2.1 a.1) (oN (inb a.2.1<|ln a.2.2.2.2.2.1)<|oN (zei e)<|oN (few<|ln<|ap a.2.2.2.1 [zpC e])<|j (a.1,zG .i64 a.2.1 1,a.2.2.1,ap a.2.2.2.1 [zpC e],a.2.2.2.2.1,a.2.2.2.2.2.1,()))<|oN (inr 0 f<|ln a.2.2.1)<|iter (σ:=(Int×Int×lR×lT×lA×Unit)) N (λk b=>let d:=ix b.2.2.2.2.1 b.2.1 ziv;let h:=ap b.2.2.2.1 [zcE b.2.2.1 d]; (cond (ilt b.2.1 b.1) (oN (inb b.2.1<|ln b.2.2.2.2.1)<|oN (zeF b.2.2.1 d)<|oN (few<|ln h)<|k (b.1,zG .i64 b.2.1 1,zc5 b.2.2.1 d,h,b.2.2.2.2.1,()))<|some [aS .bare b.2.2.1,aS .told b.2.2.2.1])) (ln<|tk a.2.2.1 f,0,a.2.2.2.1,a.2.2.2.2.1,tk a.2.2.1 f,()))) (ln<|tk c g,0,i,[],[],tk c g,()))
def zPy:=zq [(8,0,{n:=53,tm:=[(1,.sl 0 []),(6,.sl 1 []),(7,.sl 2 []),(20,.sl 3 []),(21,ti),(22,ti)],lo:=[],ro:=[(0,.act,false),(1,.bare,true),(2,.told,true),(3,.sl<|.sl .ins,false)]}),(8,2,{n:=53,tm:=[(6,.sl 0 []),(7,.sl 1 []),(33,.sl 2 []),(34,ti),(35,ti)],lo:=[],ro:=[(0,.bare,true),(1,.told,true),(2,.act,false)]})]
theorem zOl (d:List lP)(b:List GAct)(D:ze0 d b=true):∃N,zAM N d b=some [aS .bare<|zhI d b,aS .told<|zhJ d b]:=by
 obtain⟨z,w⟩:=zB.1 D;have C:=zx5 d 3;have m:=zx5 b 80;have A:tk d (zcJ (ln d) 3)=d.take 3:=C.1;have B:tk b (zcJ (ln b) 80)=b.take 80:=m.1;have q:(tk d<|zcJ (ln d) 3).length<=1048576:=(by rw[A];exact qX (by simp;omega) z.1);have r:(tk b<|zcJ (ln b) 80).length<=1048576:=(by rw[B];exact qX (by simp;omega) w);have v:=zbV q;have e:=zbV r;refine zbG λN g=>?_;unfold zAM oN;conv=>zeta
 refine must C.2 ?_;refine(zW (tk d<|zcJ (ln d) 3) (λi (t:lR)=>(ln<|tk d<|zcJ (ln d) 3,(i:Int),b,t,[],tk d<|zcJ (ln d) 3,())) _ (λ_ (x:List lI) (t:List Bare) G=>bif few (ln<|ap t [zhT x]) then G (ap t [zhT x]) else none) (λ(t:lR)=>cond (inr 0 (zcJ (ln b) 80)<|ln b) (iter (σ:=(Int×Int×lR×lT×lA×Unit)) N (λF c=>cond (ilt c.2.1 c.1) (cond (inb c.2.1<|ln c.2.2.2.2.1) (cond (zeF c.2.2.1<|ix c.2.2.2.2.1 c.2.1 ziv) (cond (few<|ln<|ap c.2.2.2.1 [zcE c.2.2.1<|ix c.2.2.2.2.1 c.2.1 ziv]) (F (c.1,zG .i64 c.2.1 1,zc5 c.2.2.1<|ix c.2.2.2.2.1 c.2.1 ziv,ap c.2.2.2.1 [zcE c.2.2.1<|ix c.2.2.2.2.1 c.2.1 ziv],c.2.2.2.2.1,())) none) none) none)<|some [.one<|.s .bare c.2.2.1,.one<|.s .told c.2.2.2.1]) (ln<|tk b<|zcJ (ln b) 80,0,t,[],tk b<|zcJ (ln b) 80,())) none) (λi k t rec=>?_) (λt rec=>?_) _ ([])<|g v.1).trans ?_;{simp only [zbf k,zO k,zX k,zV k v.1,cT];have E:zei (tk d<|zcJ (ln d) 3)[i]=true:=zN (z.2 _<|zMq<|jA k);simp only[E,cT]};{simp only [zbc,cF]};refine(zTV (K':=z1x b) ?_).trans ?_;intro t;simp only[show inr 0 (zcJ (ln b) 80) (ln b)=true from m.2,cT];refine(zW (tk b<|zcJ (ln b) 80) (λj (u:lR×lT)=>(ln<|tk b<|zcJ (ln b) 80,(j:Int),u.1,u.2,tk b<|zcJ (ln b) 80,())) _ (λ_ y (u:List Bare×List Told) f=>bif zeF u.1 y then (cond (few<|ln<|ap u.2 [zfv u.1 y]) (f (zfu u.1 y,ap u.2 [zfv u.1 y])) none) else none) (λ(u:lR×lT)=>some [.one<|.s .bare u.1,.one<|.s .told u.2]) (λj p u n=>?_) (λu n=>?_) _ (t,[])<|g e.1).trans ?_;{simp only [zbf p,zO p,zX p,zV p e.1,cT]};{simp only [zbc,cF]};rfl;refine(zyU zhT (z1x b) _ 0 [] (by simpa using v.2)).trans ?_;rw[A];refine(zQG (λl a h=>zN h) _ 0 _ (zVJ z) (by simpa using e.2)).trans ?_;rw[B];rfl
theorem zG6:vF 8 znA:=kF2 zQo zl zn zo zPy zOl
theorem zU3 {d b:Type}{f:d->b}{l:List d}{x:b}{c:List b}(h:l.map f=x::c):∃a r,l=a::r/\f a=x/\r.map f=c:=by cases l with|nil=>cases h|cons a r=>simp only[jK,List.cons.injEq]at h;exact⟨a,r,rfl,h.1,h.2⟩
theorem z8M {a:AV}{b:CTy}(h:some a.sh=some (false,[b])):∃c,a = .one c/\c.ty=b:=by cases a with|one c=>simp only[AV.sh,qC,jR,List.cons.injEq,and_true,true_and]at h;exact⟨c,rfl,h⟩|agg l=>simp[AV.sh]at h
theorem z9V {a:AV}{t:Ty}(h:some a.sh=some (false,[.s t])):∃l:List t.den,a = .one (.s t l):=by obtain⟨c,rfl,b⟩:=z8M h;obtain⟨l,rfl⟩:=zne b;exact⟨l,rfl⟩
section
open Go Go.ChangeShapes Go.WideShapes Go.ChangeAt
abbrev zOi (_:List Int):Bool:=true
abbrev zLb (l:List Int):Bool:=igt (ln l) 1048576
def zQW:Run:=rF1 (dS .u8) λb=>(zOi b,[aB<|zLb b])
def zXS (N:Nat)(a:List Int):OA:=
 (some [aB<|igt (ln a) 1048576])
theorem z1u (a:List Int)(b:zOi a=true):∃N,zXS N a=some [aB<|zLb a]:=by refine⟨0,?_⟩;unfold zXS;first|rfl|(simp only [*,zLb,cT,cF]<;>rfl)|simp_all[Ty.cells,zLb]
theorem zWN:vF 6 zQW:=kF1 zTK zbk zn zo (zq []) z1u
def z5d:zY:=[(6,zQW),(10,zmg),(8,znA),(9,znA),(13,zkA),(22,zkA),(14,zi0),(15,zi0),(18,zms),(19,zms),(20,zgn),(16,zqa),(17,zgn),(21,zrm),(23,zxU)]++z5c
theorem z3a:zK z5d:=zf zWN (zf zpt<|zf zG6<|zf zHA<|zf zAv<|zf zAG<|zf zux<|zf zuE<|zf zDV<|zf zEe<|zf zHh<|zf ztd<|zf zte<|zf zuz<|zf zHt zTK)
theorem nN {b:Bool}(h:b=true):(cond b false true)=false:=by rw[h];rfl
def zry (N:Nat)(b:List Int):OA:=
 let g:=zid b;let f:=zic b;let e:=zgz b;let a:=zjg b;let d:=zjh b;let i:=zhJ a d;let h:=zhI a d;let c:=zgJ d; (oN (zOi b)<|cond (zLb b) oT<|oN (zg0 b)<|oN (ze0 a d)<|oN (ze0 a d)<|oN (zfq b)<|oN (zg1 b)<|oN (zfB b)<|oN (zh0 d)<|oN (ze0 a c)<|oN (ze0 a c)<|oN (ze0 a c)<|oN (zoq h<|zhI a d)<|cond (nB<|zrQ h<|zhI a d) oF<|oN (zex i<|zhJ a d)<|cond (nB<|zfD i<|zhJ a d) oF<|oN (zlT e f)<|oN (zlT e f)<|oN (zex (ziF e f)<|ziF e f)<|cond (nB<|zfD (ziF e f)<|ziF e f) oF<|oN (zex (zeX b)<|zeY b)<|oN (zex (zeX b)<|zeY b)<|cond (nB<|zkD (zfD (zeX b)<|zeY b)<|zfD (zeX b)<|zeY b) oF<|oN (zh0 g)<|oN (zh0 g)<|oN (zuJ (zgJ g)<|zgJ g)<|cond (nB<|zyP (zgJ g)<|zgJ g) oF<|oN (zuK (zjj a c)<|zjj a c)<|cond (nB<|zyQ (zjj a c)<|zjj a c) oF<|oN (zex (zjk a c)<|zjk a c)<|cond (nB<|zfD (zjk a c)<|zjk a c) oF<|oN (zoq (zhI a c) h)<|cond (zrQ (zhI a c) h) (oN (zlT d i)<|oN (zex (zhJ a c)<|ziF d i)<|cond (zfD (zhJ a c)<|ziF d i) (some [aB<|ieq (ln h)<|ln a]) oF) oF)
theorem zU8 (N:Nat)(a:List Int):evalFn (cQ z5d z3y zyZ zIA) (zq []) N 12 3 [aS .u8 a]=zry N a:=by kernel_rfl
theorem zM0 (N:Nat)(c:List Int)(e:c.length<=big):Ends (λa=>a=[.one<|.b true]) (zry N c):=by
 unfold zry oN nB;conv=>zeta
 obtain⟨⟨⟨g,_⟩,d⟩,k⟩:=(zuZ<|zJz e).2;have i:=(znZ<|zrK e).2;have j:=(zqY<|zQv e).2;refine zbh rfl (zdb (λ_=>zJL rfl) λ_=>zbh (zJz e) ?_);generalize zjg c=f at g k;generalize zjh c=l at d;have h:zrB f:=g;have q:=qX (zuI l) d;obtain⟨m,n⟩:=zZu (ps:=f) d;have p:=zXc f l;refine zbh (zN ⟨h,by omega⟩) (zbh (zN ⟨h,by omega⟩)<|zbh (zrK e)<|zbh (zMZ e)<|zbh (zQv e)<|zbh (zN (by omega))<|zbh (zN ⟨g,?_⟩)<|zbh (zN ⟨g,?_⟩)<|zbh (zN ⟨h,?_⟩) ?_);{show (zek l).length<=1048576;omega};{show (zek l).length<=1048576;omega};{show (zek l).length<=1048576;omega}
 generalize zgz c=r at i;generalize zic c=s;generalize zeX c=t;generalize zeY c=u;generalize zid c=w at j;refine zbh rfl (zq5 (nN (zN rfl)) (zbh rfl (zq5 (nN (zN rfl))<|zbh (zN (by omega))<|zbh (zN (by omega)) (zbh rfl (zq5 (nN (zN rfl)) (zbh rfl (zbh rfl (zq5 (nN<|z0r _)
  (zbh (zN (by omega))<|zbh (zN (by omega)) (zbh rfl (zq5 (nN (zN rfl)) (zbh rfl (zq5 (nN (zN rfl)) (zbh rfl (zq5 (nN (zN rfl)) (zbh rfl (zbh (zN m)<|zbh (zN (by omega)) (zbh rfl (zbh (zN n)<|zJL ?_)))))))))))))))))))
 show [AV.one<|.b<|ieq (ln (zrU f l).1)<|ln f]=_;unfold ln;rw[p,show min 3 f.length=f.length by omega,zuH]
theorem zQ9 (d:List Int)(h:∀c∈zA [aS .u8 d],CVOk c):∃N,zry N d=some [.one<|.b true]:=by have e:zbt big [aS .u8 d]:=λc f=>CVB.of_ok (h c f);have g:=len0 e;exact⟨5,z6R (G:=λa=>a=[.one<|.b true])<|zM0 5 d g⟩
theorem zL8:Tryz.f3.params.toList.map (zcA Tryz.prog 4)=[some (false,[.s .u8])]:=by kernel_rfl
theorem zDN:zXO 3 Tryz.f3.params.toList:=by refine zWx z3a zbk zn zo (zij (by kernel_rfl)) ?_;intro c hg;obtain⟨a,e⟩:=hg;rw[zL8]at a;obtain⟨h,g,rfl,d,a⟩:=zU3 a;cases List.map_eq_nil_iff.1 a;obtain⟨b,rfl⟩:=z9V d;obtain⟨N,f⟩:=zQ9 b e;exact⟨zq [],N,12,(zU8 N b).trans f⟩
theorem zPu (H:Type)(a:List (DataW H))(h:a.length=Tryz.f3.params.toList.length):Rows.fnLivesSpec.fn H a={results:=[.lit<|.bool true],args:=a}:=by
 have b:a.length=1:=h.trans (by kernel_rfl)
 match a,b with
 |[d],_=>rfl
set_option maxRecDepth 100000 in
theorem zIi (g:Os)(a:g.Started)(H:Type)(enc:TypeId×Value->H) :
 ReturnsInHanded {} Tryz.checked g 3 .any (Rows.fnLivesSpec.pre6 enc Tryz.prog Tryz.f3 Rows.fnLivesRow.domain false) (Rows.fnLivesSpec.post enc Tryz.prog Tryz.f3 false true false false):=by
 refine returnsInHanded_of_change_shaped (C:=Tryz.checked) own a (by kernel_rfl) Tryz.func3
  (ChangeSpec.witness6 (enc:=enc) (C:=Tryz.checked) false ⟨#[],#[.slice none 0 0],[]⟩ 8 (by kernel_rfl) (by kernel_rfl) (by kernel_rfl) (by kernel_rfl)) ?_
 intro W d c h i b e j _ f _ _;exact zLc (P:=Tryz.prog) z2B z3p rfl zPu (by kernel_rfl) (B:=4) (by kernel_rfl) (by kernel_rfl) zDN W d c h i b e j f
end
end
end Go.Proofs.YtnnmbkjhakbicaaGreat.E
