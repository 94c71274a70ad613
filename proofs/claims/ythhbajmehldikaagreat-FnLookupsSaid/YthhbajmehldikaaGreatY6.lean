/- What is proved here: a part of the proof that the statement of this claim holds (several texts of wip/, laid together). -/
import Derived.Test.YthhbajmehldikaaGreatY5
import Derived.WalkKit
import Derived.Tactics2
import Derived.Deep.RegionWith
import Derived.Laws.Rows
namespace Go.Proofs.YthhbajmehldikaaGreat.E
open Go
set_option linter.constructorNameAsVariable false
set_option linter.unusedVariables false
set_option maxRecDepth 100000
set_option linter.unusedSimpArgs false
set_option linter.unusedSectionVars false
noncomputable section
def zTJ (N:Nat)(d:Host):OA:=
 (oN (zV d) (iter (σ:=(Int×(Int×(lM×(lN×(lE×(lE×(lM×(lN×(lE×(lE×Unit))))))))))) N (fun k b=>let f:=b.2.2.2.2.2.2.2.1; (cond (ilt b.2.1 b.1) (oN (inb b.2.1 (ln f)) (iter (σ:=(Int×(Int×(Int×(Int×(Int×(Int×(lN×(lM×(lN×(lE×(lE×(lM×(lE×(lE×Unit))))))))))))))) N (fun l a=>let j:=a.2.2.2.2.2.2.2.2.2.2.2.2.1;let i:=a.2.2.2.2.2.2.2.2.2.2.2.2.2.1;let c:=a.2.2.2.2.2.1;let e:=a.2.2.2.2.2.2.1;let h:=(ix e a.1 zi);let g:=(ix e a.2.2.2.1 zi).Tables; (cond (ilt c a.2.2.2.2.1) (oN (inb c (ln g)) (oN (inb a.1 (ln e)) (oN (zdC (ix g c zcN)) (oN (inb c (ln h.Tables)) (share (up e a.1 ({h with Tables:=(up h.Tables c (zna (ix g c zcN)))}:Mon)) (fun p=>(l (a.1,(a.2.1,(a.2.2.1,(a.2.2.2.1,(a.2.2.2.2.1,((zL .i64 c 1),(p,(a.2.2.2.2.2.2.2.1,(a.2.2.2.2.2.2.2.2.1,(a.2.2.2.2.2.2.2.2.2.1,(a.2.2.2.2.2.2.2.2.2.2.1,(a.2.2.2.2.2.2.2.2.2.2.2.1,(j,(i,()))))))))))))))))))))) (k (a.2.1,((zL .i64 a.2.2.1 1),(a.2.2.2.2.2.2.2.1,(a.2.2.2.2.2.2.2.2.1,(a.2.2.2.2.2.2.2.2.2.1,(a.2.2.2.2.2.2.2.2.2.2.1,(a.2.2.2.2.2.2.2.2.2.2.2.1,(e,(j,(i,()))))))))))))) (b.2.1,(b.1,(b.2.1,(b.2.1,((ln (ix f b.2.1 zi).Tables),(0,(f,(b.2.2.1,(b.2.2.2.1,(b.2.2.2.2.1,(b.2.2.2.2.2.1,(b.2.2.2.2.2.2.1,(b.2.2.2.2.2.2.2.2.1,(b.2.2.2.2.2.2.2.2.2.1,())))))))))))))))) (share [] (fun m=>(share [] (fun n=>(some [(aH (⟨b.2.2.2.2.2.2.1,f,m,n⟩:Host))]))))))) ((ln (zu d).Mons),(0,([],([],([],([],((zu d).Memory,((zu d).Mons,((zu d).Buffer,((zu d).IoBuffer,()))))))))))))
def z2v:FuncId->Nat->Option Tmpl:=zq [(45,0,{n:=42,tm:=[(2,.lp 0 0),(3,.lp 1 0),(11,ti),(12,ti)],lo:=[(0,[.sl 0 [],.sl 1 [],.sl 2 [],.sl 3 []]),(1,[.sl 4 [],.sl 5 [],.sl 6 [],.sl 7 []])],ro:=[(0,(.sl .int),true),(1,.mon,true),(2,.entry,true),(3,.entry,true),(4,(.sl .int),true),(5,.mon,true),(6,.entry,true),(7,.entry,true)]}),(45,2,{n:=42,tm:=[(2,.lp 0 0),(3,.lp 1 0),(4,ti),(11,ti),(12,ti),(20,.sl 0 [7]),(21,ti),(22,ti)],lo:=[(0,[.sl 1 [],.sl 2 [],.sl 3 [],.sl 4 []]),(1,[.sl 5 [],.sl 0 [],.sl 6 [],.sl 7 []])],ro:=[(0,.mon,true),(1,(.sl .int),true),(2,.mon,true),(3,.entry,true),(4,.entry,true),(5,(.sl .int),true),(6,.entry,true),(7,.entry,true)]})]
theorem z1f (a:Host)(p:zV a=true):∃N,zTJ N a=some [aH (zhZ a)]:=by
 have v:=(zX a).1 (zO.1 p);have s:=zcv v.2.1.1;refine zb6 fun N f=>?_;unfold zTJ oN;conv=>zeta
 refine must p ?_;refine(zif a.Mons.length (fun i (t:List Mon)=>(ln a.Mons,((i:Int),([],([],([],([],(a.Memory,(t,(a.Buffer,(a.IoBuffer,()))))))))))) _ (fun i t=>zoE t/\t.length=a.Mons.length) (fun i t=>some [AV.agg (zbq ⟨a.Memory,zkq (a.Mons.length-i) i t,[],[]⟩)]) (fun i t rec k e x=>?_) (fun t rec e=>?_) N 0 a.Mons ⟨v.2.1,rfl⟩ (jQ _) (f s.1)).trans rfl
 .have hit:i<t.length:=(by rw[e.2];exact k);have n:zeT (ix t (i:Int) mZ):=by rw[zbd hit];exact e.1.2 _ (q9 hit)
  have r:=zcv n.2.2.2.2.2.1;refine must (zbn k) (must (zT hit) ?_);refine(zif (ix t (i:Int) mZ).Tables.length (fun j (u:List Mon)=>((i:Int),(ln a.Mons,((i:Int),((i:Int),(ln (ix t (i:Int) mZ).Tables,((j:Int),(u,([],([],([],([],(a.Memory,(a.Buffer,(a.IoBuffer,())))))))))))))))
   _ (fun j u=>u.length=t.length/\zeT (ix u (i:Int) mZ)/\(ix u (i:Int) mZ).Tables.length=(ix t (i:Int) mZ).Tables.length)
   (fun j u=>rec (ln a.Mons,(((i+1:Nat):Int),([],([],([],([],(a.Memory,(up u (i:Int) (zoK (ix u (i:Int) mZ) ((ix t (i:Int) mZ).Tables.length-j) j),(a.Buffer,(a.IoBuffer,())))))))))))
   (fun j u h l b m=>?_) (fun u h b=>?_) N 0 t ⟨rfl,n,rfl⟩ (jQ _) (f r.1)).trans ?_
  .have c:i<u.length:=(by rw[b.1];exact hit);have d:j<(ix u (i:Int) mZ).Tables.length:=(by rw[b.2.2];exact l);have g:SmK (ix (ix u (i:Int) mZ).Tables (j:Int) kZ):=by rw[zbd d];exact b.2.1.2.2.2.2.2.2 _ (q9 d)
   refine must (zbn l) (must (zT d) (must (zT c) (must (zbm g) (must (zT d) (shr ?_)))));have w:zeT {ix u (i:Int) mZ with Tables:=up (ix u (i:Int) mZ).Tables (j:Int) (zfG (ix (ix u (i:Int) mZ).Tables (j:Int) kZ))} :=
    ⟨b.2.1.1,b.2.1.2.1,b.2.1.2.2.1,b.2.1.2.2.2.1,b.2.1.2.2.2.2.1,ztZ b.2.1.2.2.2.2.2 (zrW _ _ _ g)⟩
   have q:=m (up u (i:Int) {ix u (i:Int) mZ with Tables:=up (ix u (i:Int) mZ).Tables (j:Int) (zfG (ix (ix u (i:Int) mZ).Tables (j:Int) kZ))}) ⟨by rw[zfW];exact b.1,by rw[zdT c];exact w,by rw[zdT c];simp only[zfW];exact b.2.2⟩;rw[zY l r.1];refine q.trans ?_;rw[zdT c,ztM,show (ix t (i:Int) mZ).Tables.length-j=(ix t (i:Int) mZ).Tables.length-(j+1)+1 by omega];rfl
  {have c:i<u.length:=(by rw[b.1];exact hit);refine zdU (by show ilt ((ix t (i:Int) mZ).Tables.length:Int) (ln (ix t (i:Int) mZ).Tables)=false;exact qL (by simp only[ln];omega)) ?_;rw[zY k s.1,kW];show rec _=rec (ln a.Mons,(_,([],([],([],([],(a.Memory,(up u (i:Int) (ix u (i:Int) mZ),_))))))));rw[zE1 c]};{have q:=x (up t (i:Int) (zoK (ix t (i:Int) mZ) (ix t (i:Int) mZ).Tables.length 0)) ⟨ziH e.1 (zAk n (by omega)),by rw[zfW];exact e.2⟩;refine q.trans ?_;rw[show a.Mons.length-i=a.Mons.length-(i+1)+1 by omega];rfl}
 {refine zdU (by show ilt (a.Mons.length:Int) (ln a.Mons)=false;exact qL (by simp only[ln];omega)) ?_;rw[kW];rfl}
theorem zCZ:vT 45 zmr:=kF1 zQY zC zca zc8 z2v z1f
def z3g:zZ:=[(45,zmr)]++z3f
theorem zQZ:zN z3g:=zh zCZ zQY
theorem zBC:∀(n i:Nat) (t:List Mon),i+n<=t.length->zoE t->zoE (zkq n i t)
 | 0,_,_,_,h=>h
 |n+1,i,t,b,h=>by have a:i<t.length:=(by omega);refine zBC n (i+1) _ (by rw[zfW];omega) (ziH h (zAk ?_ (by omega)));rw[zbd a];exact h.2 _ (q9 a)
theorem zWP {h:Host}(a:SmH h):SmH (cold h):=⟨a.1,zBC _ _ _ (by omega) a.2.1,by simp[cold],by simp[cold]⟩
theorem zn9 {h:Host}{m:Int}{b:Bare}(c:SmH h)(d:zc2 h m=true->SmB b):SmH (zh8 h m b):=by unfold zh8;cases a:zc2 h m;{exact c};{exact zJx c (zcI.1 a).2 (d a).2.1}
theorem z5h {h:Host}{m g p:Int}(c:SmH h):SmH (zlr h m g p):=by unfold zlr;cases e:zc2 h m;{exact c};{cases l:zck (zK h m) g (hasB p 4);{exact c};{have d:=(zcI.1 e).2;have f:=zWN c d;have k:SmB (chg (zK h m) g (hasB p 4) (zea (gAt (zK h m) g) p)):=zqV f (zM7 _ (zkK _ f));have b:=zJx c d k.2.1;have i:=zTY (chg (zK h m) g (hasB p 4) (zea (gAt (zK h m) g) p)) d;have j:=zQ7 c e (chg (zK h m) g (hasB p 4) (zea (gAt (zK h m) g) p)) l;have a:=b.2.1.2 _ (zbG i mZ);simp only[cT];exact⟨b.1,ziH b.2.1 ⟨a.1,a.2.1,a.2.2.1,a.2.2.2.1,a.2.2.2.2.1,ztZ a.2.2.2.2.2 (zmI (a.2.2.2.2.2.2 _ (zbG j _)))⟩,qV (zzt _ _ _) b.2.2.1,qV (zzt _ _ _) b.2.2.2⟩}}
theorem z7D {h:Host}{m p c v:Int}(e:SmH h):SmH (znR h m p c v):=by unfold znR;cases a:zfI h m p c v;{exact e};{have f:zcH h m p=true:=(by unfold zfI at a;cases b:zcH h m p;{rw [b]at a;cases a};{rfl});obtain⟨g,i,b⟩:=zkR.1 f;have d:=(zvk (n:=2) (zfH e g) i b).1.1;exact⟨zAj d.1,d.2⟩}
theorem zzQ {h:Host}{m g c a:Int}(b:List Entry)(i:Bool)(f:SmH h)(d:zbP h m g c a=true):SmH (lookOf h b m g c a i).1:=by have hg:zb3 h m g=true:=(by unfold zbP at d;cases e:zb3 h m g;{rw [e]at d;cases d};{rfl});exact(zx2 f hg).shape.1
theorem zbbo {h:Host}{m g a v:Int}(e:SmH h):SmH (zqu h m g a v):=by unfold zqu;cases b:zho h m g a v;{exact e};{have f:zbP h m g (zbp a) 2=true:=(by unfold zho at b;cases c:zk a 0 15;{rw [c]at b;cases b};{cases d:zk v 0 99;{rw [c,d]at b;cases b};{rw [c,d]at b;exact b}});have c:=zzQ h.IoBuffer true e f;exact⟨zAj c.1,c.2⟩}
theorem z7E {h:Host}{m g a:Int}(d:SmH h):SmH (znS h m g a):=by unfold znS;cases b:zgu h m g a;{exact d};{have e:zbP h m g (zbp a) 1=true:=(by unfold zgu at b;cases c:zk a 0 15;{rw [c]at b;cases b};{rw [c]at b;exact b});exact zzQ h.IoBuffer true d e}
theorem zbbp {h:Host}{m p:Int}(a:SmH h):SmH (zqB h m p):=by unfold zqB;cases b:zcH h m p;{exact a};{obtain⟨c,d,e⟩:=zkR.1 b;cases zk1 h m p;{exact(zM2 (zfH a c).1 d).1};{exact a}}
theorem zbcs {h:Host}{m p:Int}(a:SmH h):SmH (zuH h m p):=by unfold zuH;cases b:zcH h m p;{exact a};{obtain⟨c,d,e⟩:=zkR.1 b;cases zk1 h m p;{exact a};{exact(zkJ (zfH a c) d e).1.1}}
theorem z5l {h:Host}{m t:Int}(a:SmH h):SmH (zkj h m t):=by unfold zkj;cases zb2 h;{exact a};{cases c:hasB m (ln h.Mons);{exact a};{cases zk t 0 3;{exact a};{have b:zeT (ix h.Mons m mZ):=a.2.1.2 _ (zbG c mZ);exact⟨a.1,ziH a.2.1 ⟨b.1,b.2.1,b.2.2.1,b.2.2.2.1,b.2.2.2.2.1,b.2.2.2.2.2⟩,a.2.2⟩}}}
def zuB (h:Host)(a:GAct):Host:=bif ieq a.Kind 1 then (zcz h a.M a.G).1 else (cond (ieq a.Kind 2) (zm3 h a.M a.G a.X ⟨a.Y,a.Z⟩) (cond (ieq a.Kind 3) (zlr h a.M a.G a.X) (cond (ieq a.Kind 4) (zjg h a.M a.G a.X) (cond (ieq a.Kind 5) (zjk h a.M a.G) (cond (ieq a.Kind 6) (zji h a.M a.G a.X) (cond (ieq a.Kind 7) (zm1 h a.M a.G ⟨a.X,a.Y,ieq a.Z 1⟩) (cond (ieq a.Kind 8) (znR h a.M a.X a.Y a.Z) (cond (ieq a.Kind 9) (zly h a.M a.X) (cond (ieq a.Kind 10) (zmY h a.M) (cond (ieq a.Kind 11) (zqu h a.M a.G a.X a.Y) (znS h a.M a.G a.X)))))))))))
def zDg (h:Host)(a:GAct):Told:=bif ieq a.Kind 1 then ⟨(zcz h a.M a.G).2,0⟩ else (cond (ieq a.Kind 2) ⟨zm4 h a.M a.G a.X ⟨a.Y,a.Z⟩,0⟩ (cond (ieq a.Kind 3) ⟨zkw h a.M a.G a.X,0⟩ (cond (ieq a.Kind 4) ⟨zjh h a.M a.G a.X,0⟩ (cond (ieq a.Kind 5) ⟨zjl h a.M a.G,0⟩ (cond (ieq a.Kind 6) ⟨zjj h a.M a.G a.X,0⟩ (cond (ieq a.Kind 7) ⟨zm2 h a.M a.G ⟨a.X,a.Y,ieq a.Z 1⟩,0⟩ (cond (ieq a.Kind 8) ⟨zfI h a.M a.X a.Y a.Z,0⟩ (cond (ieq a.Kind 9) ⟨zlz h a.M a.X,0⟩ (cond (ieq a.Kind 10) ⟨zm0 h a.M,zmZ h a.M⟩ (cond (ieq a.Kind 11) ⟨zho h a.M a.G a.X a.Y,0⟩ (⟨zgu h a.M a.G a.X,zsd h a.M a.G a.X⟩)))))))))))
def zm7 (h:Host)(a:GAct):Host:=bif ieq a.Kind 13 then zqB h a.M a.X else (cond (ieq a.Kind 14) (zuH h a.M a.X) (cond (ieq a.Kind 15) (zut h a.M a.X) (cond (ieq a.Kind 16) (zkj h a.M a.X) (cold h))))
def zMB (h:Host)(a:GAct):Told:=bif ieq a.Kind 13 then ⟨zDC h a.M a.X,0⟩ else (cond (ieq a.Kind 14) ⟨zJg h a.M a.X,0⟩ (cond (ieq a.Kind 15) ⟨zcH h a.M a.X,0⟩ (cond (ieq a.Kind 16) ⟨zAg h a.M a.X,0⟩ (⟨true,0⟩))))
def zeV (h:Host)(a:GAct):Host:=bif zk a.Kind 1 17 then (cond (zk a.Kind 13 17) (zm7 h a) (zuB h a)) else h
def zjY (h:Host)(a:GAct):Told:=bif zk a.Kind 1 17 then (cond (zk a.Kind 13 17) (zMB h a) (zDg h a)) else ⟨false,0⟩
theorem z5k {h:Host}{a:GAct}(b:SmH h):SmH (zm7 h a):=by unfold zm7;cases ieq a.Kind 13;{cases ieq a.Kind 14;{cases ieq a.Kind 15;{cases ieq a.Kind 16;{exact zWP b};{exact z5l b}};{exact z5i b}};{exact zbcs b}};{exact zbbp b}
theorem z5j {h:Host}{a:GAct}(c:SmH h):SmH (zuB h a):=by have d:zc2 h a.M=true->SmB (zK h a.M):=fun b=>zWN c (zcI.1 b).2;unfold zuB;cases ieq a.Kind 1;{cases ieq a.Kind 2;{cases ieq a.Kind 3;{cases ieq a.Kind 4;{cases ieq a.Kind 5;{cases ieq a.Kind 6;{cases ieq a.Kind 7;{cases ieq a.Kind 8;{cases ieq a.Kind 9;{cases ieq a.Kind 10;{cases ieq a.Kind 11;{exact z7E c};{exact zbbo c}};{exact zn9 c (fun b=>zZQ (d b))}};{exact zn9 c (fun b=>zWM _ (d b))}};{exact z7D c}};{exact zn9 c (fun b=>zZR _ _ (d b))}};{exact zn9 c (fun b=>zM5 _ _ (d b))}};{exact zn9 c (fun b=>zM6 _ (d b))}};{exact zn9 c (fun b=>zM4 _ _ (d b))}};{exact z5h c}};{exact zn9 c (fun b=>zZS _ _ _ (d b))}};{exact(z4X a.M a.G c).sm}
theorem zZV {h:Host}{a:GAct}(b:SmH h):SmH (zeV h a):=by unfold zeV;cases zk a.Kind 1 17;{exact b};{cases zk a.Kind 13 17;{exact z5j b};{exact z5k b}}
@[simp] abbrev zh5 (h:Host)(a:GAct):Bool:=pc (zcY h)
@[simp] abbrev zlW (h:Host)(a:GAct):Host:=zm7 h a
@[simp] abbrev zjI (h:Host)(a:GAct):Told:=zMB h a
def zyN:Run:=rF2 dH (dT .act) fun b c=>(zh5 b c,[aH (zlW b c),aT .told (zjI b c)])
def zCy (N:Nat)(c:Host)(a:GAct):OA:=
 (cond (ieq a.Kind 13) (oN (ziA c a.M a.X) (some [(aH (zrz c a.M a.X)),(.agg [(.b (zrA c a.M a.X)),(.i .i64 0)])])) (cond (ieq a.Kind 14) (oN (ziA c a.M a.X) (some [(aH (ztD c a.M a.X)),(.agg [(.b (ztE c a.M a.X)),(.i .i64 0)])])) (cond (ieq a.Kind 15) (oN (ziA c a.M a.X) (some [(aH (zwu c a.M a.X)),(.agg [(.b (zf1 c a.M a.X)),(.i .i64 0)])])) (cond (ieq a.Kind 16) (oN (zvc c a.M a.X) (some [(aH (zpA c a.M a.X)),(.agg [(.b (zpB c a.M a.X)),(.i .i64 0)])])) (oN (zV c) (some [(aH (zhZ c)),(.agg [(.b true),(.i .i64 0)])]))))))
theorem zPy (a:Host)(b:GAct)(c:zh5 a b=true):∃N,zCy N a b=some [aH (zlW a b),aT .told (zjI a b)]:=by have d:=zO.1 c;refine⟨0,?_⟩;unfold zCy oN;refine br (fun _=>mu ?_) (fun _=>br (fun _=>mu ?_) (fun _=>br (fun _=>mu ?_) (fun _=>br (fun _=>mu ?_) (fun _=>mu ?_))));all_goals first|rfl|(simp only [*,zlW,zjI,zm7,zMB,cT,cF]<;>rfl)|simp_all[Ty.cells,zlW,zjI,zm7,zMB]
theorem zIS:vT 325 zyN:=kF2 zQZ zC zca zc8 (zq []) zPy
def z3h:zZ:=[(325,zyN),(323,zG9),(324,zBe),(327,zHb)]++z3g
theorem zQ0:zN z3h:=zh zIS (zh zRV (zh zLq (zh zRX zQZ)))
@[simp] abbrev znb (h:Host)(a:GAct):Host:=zeV h a
@[simp] abbrev znc (h:Host)(a:GAct):Told:=zjY h a
def zsP:Run:=rF2 dH (dT .act) fun b c=>(zh5 b c,[aH (znb b c),aT .told (znc b c)])
def zGe (N:Nat)(c:Host)(a:GAct):OA:=
 let d:=(⟨a.Y,a.Z⟩:Slot); (oN (zon a) (cond (nB (zyO a)) (oN (zV c) (some [(aH (zu c)),(.agg [(.b false),(.i .i64 0)])])) (oN (zxi a.Kind) (cond (zsl a.Kind) (oN (zh5 c a) (some [(aH (zlW c a)),(.agg [(.b (zjI c a).Ok),(.i .i64 (zjI c a).N)])])) (cond (ieq a.Kind 1) (oN (zdp c a.M a.G) (some [(aH (zcL c a.M a.G)),(.agg [(.b (zcM c a.M a.G)),(.i .i64 0)])])) (cond (ieq a.Kind 2) (oN (zxh c a.M a.G a.X d) (some [(aH (zm3 c a.M a.G a.X d)),(.agg [(.b (zm4 c a.M a.G a.X d)),(.i .i64 0)])])) (cond (ieq a.Kind 3) (oN (zsY c a.M a.G a.X) (some [(aH (znA c a.M a.G a.X)),(.agg [(.b (zkw c a.M a.G a.X)),(.i .i64 0)])])) (cond (ieq a.Kind 4) (oN (zqN c a.M a.G a.X) (some [(aH (zjg c a.M a.G a.X)),(.agg [(.b (zjh c a.M a.G a.X)),(.i .i64 0)])])) (cond (ieq a.Kind 5) (oN (zqP c a.M a.G) (some [(aH (zjk c a.M a.G)),(.agg [(.b (zjl c a.M a.G)),(.i .i64 0)])])) (cond (ieq a.Kind 6) (oN (zqO c a.M a.G a.X) (some [(aH (zji c a.M a.G a.X)),(.agg [(.b (zjj c a.M a.G a.X)),(.i .i64 0)])])) (cond (ieq a.Kind 7) (oN (zon a) (oN (zxe c a.M a.G (zqL a)) (some [(aH (zm1 c a.M a.G (zqL a))),(.agg [(.b (zm2 c a.M a.G (zqL a))),(.i .i64 0)])]))) (cond (ieq a.Kind 8) (oN (zu3 c a.M a.X a.Y a.Z) (some [(aH (zpu c a.M a.X a.Y a.Z)),(.agg [(.b (zpv c a.M a.X a.Y a.Z)),(.i .i64 0)])])) (cond (ieq a.Kind 9) (oN (zu4 c a.M a.X) (some [(aH (zly c a.M a.X)),(.agg [(.b (zlz c a.M a.X)),(.i .i64 0)])])) (cond (ieq a.Kind 10) (oN (zhq c a.M) (some [(aH (zmY c a.M)),(.agg [(.b (zm0 c a.M)),(.i .i64 (zmZ c a.M))])])) (cond (ieq a.Kind 11) (oN (zxf c a.M a.G a.X a.Y) (some [(aH (zrv c a.M a.G a.X a.Y)),(.agg [(.b (zrx c a.M a.G a.X a.Y)),(.i .i64 0)])])) (oN (zu5 c a.M a.G a.X) (some [(aH (zpw c a.M a.G a.X)),(.agg [(.b (zpy c a.M a.G a.X)),(.i .i64 (zpx c a.M a.G a.X))])])))))))))))))))))
theorem zSt (a:Host)(b:GAct)(c:zh5 a b=true):∃N,zGe N a b=some [aH (znb a b),aT .told (znc a b)]:=by
 have d:=zO.1 c;refine⟨0,?_⟩;unfold zGe oN nB;conv=>zeta
 refine must rfl (brN (fun _=>mu ?_) (fun _=>must rfl (br (fun _=>mu ?_) (fun _=>br (fun _=>mu ?_) (fun _=>br (fun _=>mu ?_) (fun _=>br (fun _=>mu ?_) (fun _=>br (fun _=>mu ?_) (fun _=>br (fun _=>mu ?_) (fun _=>br (fun _=>mu ?_) (fun _=>br (fun _=>must rfl (mu ?_)) (fun _=>br (fun _=>mu ?_) (fun _=>br (fun _=>mu ?_) (fun _=>br (fun _=>mu ?_) (fun _=>br (fun _=>mu ?_) (fun _=>mu ?_)))))))))))))));all_goals first|rfl|(simp only [*,znb,znc,zeV,zjY,zuB,zDg,cT,cF]<;>rfl)|simp_all[Ty.cells,znb,znc,zeV,zjY,zuB,zDg]
theorem zvY:vT 298 zsP:=kF2 zQ0 zC zca zc8 (zq []) zSt
def z3i:zZ:=[(298,zsP)]++z3h
theorem zQ1:zN z3i:=zh zvY zQ0
def zDJ:List GAct->Host×List Told->Host×List Told
 |[],u=>u
 |a::l,u=>zDJ l (zeV u.1 a,ap u.2 [zjY u.1 a])
def zzG (a:List (List (List Ins)))(l:List GAct):Host×List Told:=zDJ (l.take 80) (zfY a,[])
abbrev HSt:Type:=(List Told)×(List (List Int))×(List Mon)×(List Entry)×(List Entry)
def hOf (t:HSt):Host:=⟨t.2.1,t.2.2.1,t.2.2.2.1,t.2.2.2.2⟩
def tOf (u:Host×List Told):HSt:=(u.2,u.1.Memory,u.1.Mons,u.1.Buffer,u.1.IoBuffer)
def zzP (t:HSt):OA:=some [AV.agg (zbq (hOf t)),AV.one (.s .told t.1)]
theorem zZW {e:List (List (List Ins))}(h:zKt e):SmH (zfY e):=by refine⟨show SmM z1o from ⟨by decide,by decide⟩,⟨?_,?_⟩,by simp[zfY],by simp[zfY]⟩;{simp only [zfY,uQ,vQ];omega};{intro x d;simp only[zfY,jF]at d;obtain⟨p,f,rfl⟩:=d;have b:=h.2 p (j3 f);refine⟨show zvm.length<=1048576 by decide,show SmM zPC from ⟨by decide,by decide⟩,show (rp 8 false).length<=1048576 by decide,⟨?_,?_⟩,by simp[zhb],⟨?_,?_⟩⟩;{simp only [zhb,uQ,vQ];omega};{intro y a;simp only[zhb,jF]at a;obtain⟨q,c,rfl⟩:=a;exact⟨b.2 q (j3 c),show zlZ.length<=1048576 by decide,show zlZ.length<=1048576 by decide,by simp[zfi]⟩};{simp only [zhb,uQ,vQ];omega};{intro y a;simp only[zhb,jF]at a;obtain⟨q,c,rfl⟩:=a;exact⟨show (rp 4 false).length<=1048576 by decide,show zlZ.length<=1048576 by decide⟩}}
theorem zGU {c:Host->GAct->Bool}(d:∀h a,SmH h->c h a=true)(m:Nat):∀(l:List GAct) (i:Nat) (u:Host×List Told),SmH u.1->u.2.length+l.length<=2147483648->
 goL (fun (i:Nat) x (t:HSt) n=>bif ilt (i:Int) (m:Int) then (cond (c (hOf t) x) (cond (few (ln (ap t.1 [zjY (hOf t) x]))) (n (ap t.1 [zjY (hOf t) x],(zeV (hOf t) x).Memory,(zeV (hOf t) x).Mons,(zeV (hOf t) x).Buffer,(zeV (hOf t) x).IoBuffer)) none) none) else zzP t) zzP l i (tOf u)=zzP (tOf (zDJ (l.take (m-i)) u))
 |[],i,u,_,_=>by simp[goL,zDJ]
 |a::l,i,u,e,k=>by simp only[qX]at k;have g:few (ln (ap u.2 [zjY u.1 a]))=true:=zge (by simp[ap];omega);have j:hOf (tOf u)=u.1:=rfl;have f:(tOf u).1=u.2:=rfl;by_cases h:i<m;{have b:ilt (i:Int) (m:Int)=true:=qI (by omega);simp only[goL,b,j,f,g,d _ _ e,cT];refine(zGU d m l (i+1) (zeV u.1 a,ap u.2 [zjY u.1 a]) (zZV e) (by simp[ap];omega)).trans ?_;rw[show m-i=m-(i+1)+1 by omega];rfl};{have b:ilt (i:Int) (m:Int)=false:=qL (by omega);simp only[goL,b,cF];rw[show m-i=0 by omega];rfl}
@[simp] abbrev zu1 (a:List (List (List Ins)))(l:List GAct):Bool:=pc (zKt a/\l.length<=1048576)
@[simp] abbrev zu0 (a:List (List (List Ins)))(l:List GAct):Host:=(zzG a l).1
@[simp] abbrev zD2 (a:List (List (List Ins)))(l:List GAct):List Told:=(zzG a l).2
def zyy:Run:=rF2 (dS (.sl (.sl .ins))) (dS .act) fun b c=>(zu1 b c,[aH (zu0 b c),aS .told (zD2 b c)])
def zCe (N:Nat)(b:lQ)(g:lA):OA:=
 (oN (zxg b) (iter (σ:=(Int×(lA×(lT×(lM×(lN×(lE×(lE×(lM×(lN×(lE×(lE×Unit)))))))))))) N (fun h a=>let e:=(ix a.2.1 a.1 zbda);let c:=(⟨a.2.2.2.2.2.2.2.1,a.2.2.2.2.2.2.2.2.1,a.2.2.2.2.2.2.2.2.2.1,a.2.2.2.2.2.2.2.2.2.2.1⟩:Host);let f:=(ap a.2.2.1 [(znc c e)]);let d:=(znb c e); (cond (ilt a.1 (ln a.2.1)) (cond (ilt a.1 80) (oN (inb a.1 (ln a.2.1)) (oN (zh5 c e) (oN (few (ln f)) (h ((zL .i64 a.1 1),(a.2.1,(f,(a.2.2.2.1,(a.2.2.2.2.1,(a.2.2.2.2.2.1,(a.2.2.2.2.2.2.1,(d.Memory,(d.Mons,(d.Buffer,(d.IoBuffer,()))))))))))))))) (some [(aH c),(aS .told a.2.2.1)])) (some [(aH c),(aS .told a.2.2.1)]))) (0,(g,([],([],([],([],([],((zhu b).Memory,((zhu b).Mons,((zhu b).Buffer,((zhu b).IoBuffer,())))))))))))))
def zP4:FuncId->Nat->Option Tmpl:=zq [(240,0,{n:=39,tm:=[(1,.sl 0 []),(4,.lp 0 0),(6,.lp 1 0),(7,.sl 1 []),(8,ti)],lo:=[(0,[.sl 2 [],.sl 3 [],.sl 4 [],.sl 5 []]),(1,[.sl 6 [],.sl 7 [],.sl 8 [],.sl 9 []])],ro:=[(0,.act,false),(1,.told,true),(2,(.sl .int),true),(3,.mon,true),(4,.entry,true),(5,.entry,true),(6,(.sl .int),true),(7,.mon,true),(8,.entry,true),(9,.entry,true)]})]
theorem zPe (b:List lP)(c:List GAct)(k:zu1 b c=true):∃N,zCe N b c=some [aH (zu0 b c),aS .told (zD2 b c)]:=by
 obtain⟨j,g⟩:=zO.1 k;have f:=zcv g;refine zb6 fun N e=>?_;unfold zCe oN;conv=>zeta
 refine must (zbm j) ?_;refine(zbk c (fun i (t:lT×lM×lN×lE×lE)=>((i:Int),c,t.1,[],[],[],[],t.2.1,t.2.2.1,t.2.2.2.1,t.2.2.2.2,())) _ (fun i (x:GAct) (t:HSt) m=>bif ilt (i:Int) ((80:Nat):Int) then (cond (zh5 (hOf t) x) (cond (few (ln (ap t.1 [zjY (hOf t) x]))) (m (ap t.1 [zjY (hOf t) x],(zeV (hOf t) x).Memory,(zeV (hOf t) x).Mons,(zeV (hOf t) x).Buffer,(zeV (hOf t) x).IoBuffer)) none) none) else zzP t) (fun (t:lT×lM×lN×lE×lE)=>(some [(.agg (zbq (⟨t.2.1,t.2.2.1,t.2.2.2.1,t.2.2.2.2⟩:Host))),(.one (.s .told t.1))])) (fun i d t rec=>?_) (fun t rec=>?_) _ ([],(zhu b).Memory,(zhu b).Mons,(zhu b).Buffer,(zhu b).IoBuffer) (e f.1)).trans ?_;{simp only [zbn d,zT d,zbd d,zY d f.1,cT];rfl};{simp only [zbh,cF]};exact zGU (fun h a l=>zbm ((zX h).2 l)) 80 c 0 (zfY b,[]) (zZW j) (by simpa using f.2)
theorem zIr:vT 240 zyy:=kF2 zQ1 zC zca zc8 zP4 zPe
def zUi:zZ:=[(240,zyy)]++z3i
theorem zGI:zN zUi:=zh zIr zQ1
def z0h (h:Host):Prop:=∃a l,zKt a/\(1<=a.length/\∀p∈a,1<=p.length/\∀x∈p,zds x=true)/\h=(zzG a l).1
theorem zJp {p:List Ins}(h:zds p=true):p.length<=12:=by unfold zds at h;cases a:p.all zes with|false=>rw[a]at h;cases h|true=>rw[a,cT]at h;have b:=(zgs.1 h).2;unfold ln at b;omega
def zwX (N:Nat)(c:Cur)  : OA :=
 let a:=({ (zmG c) with b:=c.b}:Cur); (oN (zp2 c) (oN (znl a 20) (oN (zu1 (zvh c) (zsq a 20)) (some [(.agg [(.s .u8 c.b),(.i .i64 (znm a 20).i),(.i .i64 (znm a 20).h)]),(aH (zu0 (zvh c) (zsq a 20)))]))))
def zp4 (c:Cur)(s:Cur)(a:Host):Prop:=(∃N,zwX N c=some (AV.agg (zbY s)::[aH a]))/\(s.b=c.b/\0<=s.i)/\(z0h a)
def znj (c:Cur)  : Bool:=wC (zp4 c)
def zi0 (c:Cur)  : Cur:=wS (zp4 c)
def zsp (c:Cur)  : Host:=wV (zp4 c)
theorem zHm {c:Cur}(h:znj c=true):zp4 c (zi0 c) (zsp c):=wG h
theorem zYK (c:Cur)  : 0<=(zi0 c).i:=wP fun h=>h.2.1.2
theorem zYJ (c:Cur)(h:∃N,Ends (wE (fun a=>aH a) c.b fun a=>z0h a) (zwX N c)):znj c=true:=wI (fun _ _ h=>h) h
def zyl:zdH:=rP0 fun c=>(znj c,zi0 c,[aH (zsp c)])
theorem zLP:zbL Tryz.prog 149 [false,true,true] zyl:=hP0 zGI zQ zWb zo (zq []) (fun _ h=>(zHm h).1)
theorem z3N {c:Cur}(h:zbj c):znj c=true:=by
 refine zYJ c ⟨0,?_⟩;have e:zbj {zmG c with b:=c.b}:=zbM h (z15 _);have a:=(zMX (z7T h)).2.2;have f:=(zHo (z2D e (m:=20) (by omega) (by omega))).2.2;unfold zwX oN;conv=>zeta
 have i:(zsq {zmG c with b:=c.b} 20).length<=65:=by unfold ln at f;omega
 have S:zKt (zvh c):=⟨by omega,fun p d=>by
  have g:=a.2.2 p d;exact⟨by omega,fun x j=>by have:=zJp (g.2.2 x j);omega⟩⟩
 exact zy (z7T h) (zy (z2D e (by omega) (by omega)) (zy (zbm ⟨S,qV i (by decide)⟩) (zbI aH (zYN _ _) ⟨_,_,S,⟨a.1,fun p d=>⟨(a.2.2 p d).1,(a.2.2 p d).2.2⟩⟩,rfl⟩)))
def z9G:zcR:=[(149,([false,true,true],zyl))]++z9F
theorem zzX:zb7 z9G:=zcs zWb (by
 intro x a;simp only[qG,qN,or_false]at a;rcases a with rfl
 .exact zLP)
def z2Q:zZ:=zUi
theorem zQQ:zN z2Q:=zGI
instance:Inhabited Slot:=⟨⟨0,0⟩⟩
instance:Inhabited Entry:=⟨⟨0,0,0,0⟩⟩
instance:Inhabited GExit:=⟨⟨0,0,false,0⟩⟩
instance:Inhabited Guest:=⟨⟨[],0,0,[],[],⟨0,0,false⟩,0,⟨0,0,false,0⟩,false,[]⟩⟩
theorem zvF {c:Cur}(h:zbj c){n m:Int}(a:0<n)(b:n<=m):inb (zl c n) m=true:=by have:=zgg h a;exact qI (by omega)
theorem zCF {c:Cur}(h:zbj c){n m:Int}(a:0<n)(b:n<=m+1):inr 0 (zl c n) m=true:=by have:=zgg h a;exact qI (by omega)
theorem zDt {a:Type}(l:List a)(n:Int):(tk l n).length<=l.length:=by simp[tk];omega
theorem ze4 {a:Type}(l:List a)(n:Int)(x:a):(up l n x).length=l.length:=by simp[up]
theorem z6Q {a:Type}(l:List a)(n:Int):ln (tk l n)<=ln l:=by have:=zDt l n;unfold ln;omega
theorem z6R {a:Type}(l:List a)(n:Int)(x:a):ln (up l n x)=ln l:=by unfold ln;rw[ze4]
def I64 (x:Int):Prop:=-9223372036854775808<=x/\x<=9223372036854775807
theorem zVV {f:Type}{c:Cur}(h:zbj c){P:f->Prop}{m:Int}(r:0<=m)(I:m<=1000){fc:Cur->Bool}{fs:Cur->Cur}{fv:Cur->f}(z:∀{c:Cur},zbj c->fc c=true)(C:∀c,0<=(fs c).i)(hg:∀{c:Cur},zbj c->P (fv c)){G:Ans->Prop}{R:Cur->List f->Ans}(w:∀s l,s.b=c.b->0<=s.i->ln l=m->(∀x∈l,P x)->G (R s l)){j:Type}(S:Int->Int×Int×List f->j){F:(j->OA)->j->OA}(v:∀rec t i k l,F rec (S t (i,k,l))=bif ilt t m then (cond (fc ⟨c.b,i,k⟩) (cond (few (ln (ap l [fv ⟨c.b,i,k⟩]))) (rec (S (zL .i64 t 1) ((fs ⟨c.b,i,k⟩).i,(fs ⟨c.b,i,k⟩).h,ap l [fv ⟨c.b,i,k⟩]))) none) none) else some (R ⟨c.b,i,k⟩ l)):Ends G (iter 1002 F (S 0 (c.i,c.h,[]))):=by refine zmW (fun n s=>∃t i k l,s=S t (i,k,l)/\t+(n:Int)=1000/\0<=t/\t<=m/\0<=i/\(∀x∈l,P x)/\ln l=t) ?_ 1002 1000 _ ⟨0,c.i,c.h,[],rfl,rfl,kU 0,r,h.1,by simp,rfl⟩ (by omega);rintro n s rec ⟨t,i,k,l,rfl,D,u,E,p,q,H⟩ d;rw[v];have a:zbj ⟨c.b,i,k⟩:=zbM h p;refine zbH (fun g=>?_) (fun g=>?_);{have B:t<m:=qE g;have J:=zhO (y:=1) u (by omega) (by omega) (by omega);refine zy (z a) (zy (zln (by rw[zh7];omega)) (d (n-1) _ (by omega) ⟨_,_,_,_,rfl,by omega,by omega,by omega,C _,?_,by rw[zh7];omega⟩));intro x e;rcases jK.1 e with e|e;{exact q x e};{rw [qF.1 e];exact hg a}};{have A:¬ t<m:=jY g;exact zuo (w _ l rfl p (by omega) q)}
def zsz (N:Nat)(c:Cur)  : OA :=
 let a:=(zba c [3,3,1,2,0,3,1,(-1),4,9223372036854775807]); (oN (zbs c [3,3,1,2,0,3,1,(-1),4,9223372036854775807]) (some [(.agg [(.s .u8 c.b),(.i .i64 a.i),(.i .i64 a.h)]),(aI (zbo c [3,3,1,2,0,3,1,(-1),4,9223372036854775807]))]))
def zmB (c:Cur)(s:Cur)(a:Int):Prop:=(∃N,zsz N c=some (AV.agg (zbY s)::[aI a]))/\(s.b=c.b/\0<=s.i)/\(True)
def zkD (c:Cur)  : Bool:=wC (zmB c)
def zkE (c:Cur)  : Cur:=wS (zmB c)
def zrB (c:Cur)  : Int:=wV (zmB c)
theorem zSY {c:Cur}(h:zkD c=true):zmB c (zkE c) (zrB c):=wG h
theorem zS0 (c:Cur)  : 0<=(zkE c).i:=wP fun h=>h.2.1.2
theorem zSZ (c:Cur)(h:∃N,Ends (wE (fun a=>aI a) c.b fun a=>True) (zsz N c)):zkD c=true:=wI (fun _ _ h=>h) h
def zuK:zdH:=rP0 fun c=>(zkD c,zkE c,[aI (zrB c)])
theorem zFy:zbL Tryz.prog 158 [false,true,true] zuK:=hP0 zdk zQ zzX zo (zq []) (fun _ h=>(zSY h).1)
theorem z7n {c:Cur}(h:zbj c):zkD c=true:=by
 refine zSZ c ⟨0,?_⟩;unfold zsz oN;conv=>zeta
 exact zy (zew h (by simp)) (zbI aI (zbX _ _) trivial)
def z9H:zcR:=[(158,([false,true,true],zuK))]++z9G
theorem zWc:zb7 z9H:=zcs zzX (by
 intro x a;simp only[qG,qN,or_false]at a;rcases a with rfl
 .exact zFy)
def z8A:zZ:=[(100,zlM),(260,zo9),(261,zqH),(262,zsQ)]++zzm
theorem zek:zN z8A:=zh zxW (zh zs9 (zh zuw (zh zv0 zdk)))
def zwS (N:Nat)(c:Cur)(d:Int):OA:=
 let e:=({ (zS c 5) with b:=c.b}:Cur);let a:=({ (zf e d) with b:=c.b}:Cur); (oN (zcT c 5) (cond (zc9 c 5) (oN zbE (some [(.agg [(.s .u8 c.b),(.i .i64 (zS c 5).i),(.i .i64 (zS c 5).h)]),(.agg [(.i .i64 zbc.Page),(.i .i64 zbc.Rights)])])) (oN (zA e d) (oN (zbs a [3,3,3,1,2]) (some [(.agg [(.s .u8 c.b),(.i .i64 (zba a [3,3,3,1,2]).i),(.i .i64 (zba a [3,3,3,1,2]).h)]),(.agg [(.i .i64 (zl e d)),(.i .i64 (zbo a [3,3,3,1,2]))])])))))
def zpN (c:Cur)(a:Int)(s:Cur)(d:Slot):Prop:=(∃N,zwS N c a=some (AV.agg (zbY s)::[aT .slot d]))/\(s.b=c.b/\0<=s.i)/\((0<a->a<=1000->I64 d.Page))
def ziW (c:Cur)(a:Int):Bool:=wC (zpN c a)
def zgC (c:Cur)(a:Int):Cur:=wS (zpN c a)
def zga (c:Cur)(a:Int):Slot:=wV (zpN c a)
theorem zxk {c:Cur}{a:Int}(h:ziW c a=true):zpN c a (zgC c a) (zga c a):=wG h
theorem zHi (c:Cur)(a:Int):0<=(zgC c a).i:=wP fun h=>h.2.1.2
theorem zYA (c:Cur)(a:Int)(h:∃N,Ends (wE (fun d=>aT .slot d) c.b fun d=>(0<a->a<=1000->I64 d.Page)) (zwS N c a)):ziW c a=true:=wI (fun _ _ h=>h) h
def zyf:zdH:=rP1 dI fun c b=>(ziW c b,zgC c b,[aT .slot (zga c b)])
theorem zLE:zbL Tryz.prog 157 [false,true,true] zyf:=hP1 zek zQ zWc zo (zq []) (fun _ _ h=>(zxk h).1)
theorem zM3 {c:Cur}(h:zbj c)(a:Int):ziW c a=true:=by
 refine zYA c a ⟨0,?_⟩;unfold zwS oN;conv=>zeta
 have d:zbj {zS c 5 with b:=c.b}:=zbM h (zcm _ _);have g:zbj {zf {zS c 5 with b:=c.b} a with b:=c.b}:=zbM h (zI _ _);refine zy (zjn h 5) (zbH (fun _=>zy rfl (zbI (aT .slot) (v:=⟨_,_⟩) (zcm _ _) (fun _ _=>?_))) (fun _=>zy (zbD d a) (zy (zew g (by simp)) (zbI (aT .slot) (v:=⟨_,_⟩) (zbX _ _) (fun e f=>?_)))));{exact⟨by decide,by decide⟩};{have:=zgg d e;exact⟨Int.le_trans (by decide) this.1,Int.le_trans (vR this.2) (by omega)⟩}
def z9I:zcR:=[(157,([false,true,true],zyf))]++z9H
theorem zJj:zb7 z9I:=zcs zWc (by
 intro x a;simp only[qG,qN,or_false]at a;rcases a with rfl
 .exact zLE)
def zy2 (N:Nat)(c:Cur)(a:Int):OA:=
 let e:=({ (zgC c a) with b:=c.b}:Cur);let d:=({ (zf e 12) with b:=c.b}:Cur);let f:=(zba d [(-1),(-2),a,9223372036854775807,(-9223372036854775808)]); (oN (ziW c a) (oN (zA e 12) (cond (ieq (zl e 12) 0) (oN (zbs d [(-1),(-2),a,9223372036854775807,(-9223372036854775808)]) (some [(.agg [(.s .u8 c.b),(.i .i64 f.i),(.i .i64 f.h)]),(.agg [(.i .i64 (zbo d [(-1),(-2),a,9223372036854775807,(-9223372036854775808)])),(.i .i64 (zga c a).Rights)])])) (cond (ieq (zl e 12) 1) (oN (zkD d) (some [(.agg [(.s .u8 c.b),(.i .i64 (zkE d).i),(.i .i64 (zkE d).h)]),(.agg [(.i .i64 (zga c a).Page),(.i .i64 (zrB d))])])) (some [(.agg [(.s .u8 c.b),(.i .i64 (zf e 12).i),(.i .i64 (zf e 12).h)]),(.agg [(.i .i64 (zga c a).Page),(.i .i64 (zga c a).Rights)])])))))
def zrC (c:Cur)(a:Int)(s:Cur)(d:Slot):Prop:=(∃N,zy2 N c a=some (AV.agg (zbY s)::[aT .slot d]))/\(s.b=c.b/\0<=s.i)/\((0<a->a<=1000->I64 d.Page))
def zpK (c:Cur)(a:Int):Bool:=wC (zrC c a)
def zpL (c:Cur)(a:Int):Cur:=wS (zrC c a)
def zJu (c:Cur)(a:Int):Slot:=wV (zrC c a)
theorem zMR {c:Cur}{a:Int}(h:zpK c a=true):zrC c a (zpL c a) (zJu c a):=wG h
theorem z1J (c:Cur)(a:Int):0<=(zpL c a).i:=wP fun h=>h.2.1.2
theorem z1I (c:Cur)(a:Int)(h:∃N,Ends (wE (fun d=>aT .slot d) c.b fun d=>(0<a->a<=1000->I64 d.Page)) (zy2 N c a)):zpK c a=true:=wI (fun _ _ h=>h) h
def zAT:zdH:=rP1 dI fun c b=>(zpK c b,zpL c b,[aT .slot (zJu c b)])
theorem zOy:zbL Tryz.prog 69 [false,true,true] zAT:=hP1 zek zQ zJj zo (zq []) (fun _ _ h=>(zMR h).1)
theorem zQH {c:Cur}(h:zbj c)(a:Int):zpK c a=true:=by
 refine z1I c a ⟨0,?_⟩;unfold zy2 oN;conv=>zeta
 have d:zbj {zgC c a with b:=c.b}:=zbM h (zHi _ _);have f:zbj {zf {zgC c a with b:=c.b} 12 with b:=c.b}:=zbM h (zI _ _);have g:=(zxk (zM3 h a)).2.2;refine zy (zM3 h a) (zy (zbD d 12) (zbH (fun _=>zy (zew f (by simp)) (zbI (aT .slot) (v:=⟨zbo _ _,(zga c a).Rights⟩) (zbX _ _) (fun e i=>?_))) (fun _=>zbH (fun _=>zy (z7n f) (zbI (aT .slot) (v:=⟨(zga c a).Page,zrB _⟩) (zS0 _) (fun e d=>g e d))) (fun _=>zbI (aT .slot) (v:=⟨(zga c a).Page,(zga c a).Rights⟩) (zI _ _) (fun e d=>g e d)))));have j:=zZK f (l:=[-1,-2,a,9223372036854775807,-9223372036854775808]) (by simp);simp only[qG,qN,or_false]at j;unfold I64;dsimp only;omega
def zt5 (N:Nat)(c:Cur)(g j:Int):OA:=
 (iter (σ:=(Int×(Int×(Int×(Int×(Int×(lS×((List Int)×Unit)))))))) N (fun k a=>let e:=a.2.2.2.2.2.2.1;let d:=(⟨e,a.2.2.2.1,a.2.2.2.2.1⟩:Cur);let f:=(ap a.2.2.2.2.2.1 [(zga d a.2.1)]); (cond (ilt a.2.2.1 a.1) (oN (ziW d a.2.1) (oN (few (ln f)) (k (a.1,(a.2.1,((zL .i64 a.2.2.1 1),((zgC d a.2.1).i,((zgC d a.2.1).h,(f,(e,())))))))))) (some [(.agg [(.s .u8 e),(.i .i64 a.2.2.2.1),(.i .i64 a.2.2.2.2.1)]),(aS .slot a.2.2.2.2.2.1)]))) (g,(j,(0,(c.i,(c.h,([],(c.b,()))))))))
def zP9:FuncId->Nat->Option Tmpl:=zq [(244,0,{n:=22,tm:=[(0,.lp 0 0),(1,ti),(2,ti),(7,.sl 0 []),(8,ti)],lo:=[(0,[.sl 1 [],ti,ti])],ro:=[(0,.slot,true),(1,.u8,false)]})]
def znC (c:Cur)(a:Int)(d:Int)(s:Cur)(e:List Slot):Prop:=(∃N,zt5 N c a d=some (AV.agg (zbY s)::[aS .slot e]))/\(s.b=c.b/\0<=s.i)/\((0<=a->a<=1000->ln e=a/\(0<d->d<=1000->∀s∈e,I64 s.Page)))
def zh2 (c:Cur)(a:Int)(b:Int):Bool:=wC (znC c a b)
def zJ (c:Cur)(a:Int)(b:Int):Cur:=wS (znC c a b)
def zdG (c:Cur)(a:Int)(b:Int):List Slot:=wV (znC c a b)
theorem zve {c:Cur}{a:Int}{b:Int}(h:zh2 c a b=true):znC c a b (zJ c a b) (zdG c a b):=wG h
theorem zh3 (c:Cur)(a:Int)(b:Int):0<=(zJ c a b).i:=wP fun h=>h.2.1.2
theorem zWt (c:Cur)(a:Int)(d:Int)(h:∃N,Ends (wE (fun e=>aS .slot e) c.b fun e=>(0<=a->a<=1000->ln e=a/\(0<d->d<=1000->∀s∈e,I64 s.Page))) (zt5 N c a d)):zh2 c a d=true:=wI (fun _ _ h=>h) h
def zwd:zdH:=rP2 dI dI fun c b d=>(zh2 c b d,zJ c b d,[aS .slot (zdG c b d)])
theorem zIK:zbL Tryz.prog 244 [false,true,true] zwd:=hP2 zek zQ zJj zo zP9 (fun _ _ _ h=>(zve h).1)
theorem zyX {c:Cur}(h:zbj c){d:Int}(g:0<=d)(j:d<=1000)(a:Int):zh2 c d a=true:=by
 refine zWt c d a ⟨1002,?_⟩;unfold zt5 oN;conv=>zeta
 exact zVV h (P:=fun s=>0<a->a<=1000->I64 s.Page) g j (fc:=fun c=>ziW c a) (fs:=fun c=>zgC c a) (fv:=fun c=>zga c a) (R:=fun s l=>AV.agg (zbY s)::[aS .slot l]) (fun h=>zM3 h a) (fun c=>zHi c a) (fun h=>(zxk (zM3 h a)).2.2) (fun s l m n p q=>⟨s,l,rfl,⟨m,n⟩,fun _ _=>⟨p,fun e f s r=>q s r e f⟩⟩) ((fun i t=>(d,a,(i:Int),t.1,t.2.1,t.2.2,c.b,())):Int->Int×Int×List Slot->_) (fun rec t i k l=>rfl)
theorem zbbs {c:Cur}(h:zbj c){n m:Int}(a:0<=n)(b:n<=1000)(d:0<m)(e:m<=1000):ln (zdG c n m)=n/\∀s∈zdG c n m,I64 s.Page:=by have g:=(zve (zyX h a b m)).2.2 a b;exact⟨g.1,g.2 d e⟩
def z9J:zcR:=[(69,([false,true,true],zAT)),(244,([false,true,true],zwd))]++z9I
theorem zJk:zb7 z9J:=zcs zJj (by
 intro x a;simp only[qG,qN,or_false]at a;rcases a with rfl|rfl
 .exact zOy
 .exact zIK)
def zoC (N:Nat)(c:Cur)(a d:Int):OA:=
 let g:=(zdG c a d);let f:=({ (zJ c a d) with b:=c.b}:Cur);let e:=({ (zf f 8) with b:=c.b}:Cur);let k:=(zl e a);let j:=({ (zf e a) with b:=c.b}:Cur); (oN (zh2 c a d) (oN (zA f 8) (cond (ieq (zl f 8) 0) (oN (zA e a) (oN (zpK j d) (oN (inb k (ln g)) (share (up g k (zJu j d)) (fun l=>(some [(.agg [(.s .u8 c.b),(.i .i64 (zpL j d).i),(.i .i64 (zpL j d).h)]),(aS .slot l)])))))) (cond (ieq (zl f 8) 1) (oN (zA e a) (oN (inr 0 k (ln g)) (some [(.agg [(.s .u8 c.b),(.i .i64 (zf e a).i),(.i .i64 (zf e a).h)]),(aS .slot (tk g k))]))) (some [(.agg [(.s .u8 c.b),(.i .i64 (zf f 8).i),(.i .i64 (zf f 8).h)]),(aS .slot g)])))))
def zkd (c:Cur)(a:Int)(d:Int)(s:Cur)(e:List Slot):Prop:=(∃N,zoC N c a d=some (AV.agg (zbY s)::[aS .slot e]))/\(s.b=c.b/\0<=s.i)/\((0<a->a<=1000->ln e<=a/\(0<d->d<=1000->∀s∈e,I64 s.Page)))
def zfT (c:Cur)(a:Int)(b:Int):Bool:=wC (zkd c a b)
def zg1 (c:Cur)(a:Int)(b:Int):Cur:=wS (zkd c a b)
def zfg (c:Cur)(a:Int)(b:Int):List Slot:=wV (zkd c a b)
theorem zpI {c:Cur}{a:Int}{b:Int}(h:zfT c a b=true):zkd c a b (zg1 c a b) (zfg c a b):=wG h
theorem zpJ (c:Cur)(a:Int)(b:Int):0<=(zg1 c a b).i:=wP fun h=>h.2.1.2
theorem zMQ (c:Cur)(a:Int)(d:Int)(h:∃N,Ends (wE (fun e=>aS .slot e) c.b fun e=>(0<a->a<=1000->ln e<=a/\(0<d->d<=1000->∀s∈e,I64 s.Page))) (zoC N c a d)):zfT c a d=true:=wI (fun _ _ h=>h) h
def zsj:zdH:=rP2 dI dI fun c b d=>(zfT c b d,zg1 c b d,[aS .slot (zfg c b d)])
theorem zBT:zbL Tryz.prog 151 [false,true,true] zsj:=hP2 zek zQ zJk zo (zq []) (fun _ _ _ h=>(zpI h).1)
theorem zoF {c:Cur}(h:zbj c){n:Int}(a:0<n)(j:n<=1000)(m:Int):zfT c n m=true:=by
 refine zMQ c n m ⟨0,?_⟩;unfold zoC oN;conv=>zeta
 have l:zbj {zJ c n m with b:=c.b}:=zbM h (zh3 _ _ _);have i:zbj {zf {zJ c n m with b:=c.b} 8 with b:=c.b}:=zbM h (zI _ _);have k:zbj {zf {zf {zJ c n m with b:=c.b} 8 with b:=c.b} n with b:=c.b}:=zbM h (zI _ _);have g:=(zve (zyX h (vR a) j m)).2.2 (vR a) j;generalize zdG c n m=T at g;refine zy (zyX h (vR a) j m) (zy (zbD l 8) (zbH (fun _=>zy (zbD i n) (zy (zQH k m) (zy (zvF i a (by omega)) (zmd (zbI (aS .slot) (z1J _ _) (fun _ _=>⟨by rw[z6R];omega,fun e f s d=>?_⟩)))))) (fun _=>zbH (fun _=>zy (zbD i n) (zy (zCF i a (by omega)) (zbI (aS .slot) (zI _ _) (fun _ _=>⟨?_,fun e f s d=>g.2 e f s (j3 d)⟩)))) (fun _=>zbI (aS .slot) (zI _ _) (fun _ _=>⟨by omega,g.2⟩)))));{rcases qT d with d|rfl;{exact g.2 e f s d};{exact(zMR (zQH k m)).2.2 e f}};{have:=z6Q T;exact Int.le_trans (this _) (by omega)}
def zwT (N:Nat)(c:Cur)  : OA :=
 (iter (σ:=(Int×(Int×(Int×((List Int)×((List Int)×Unit)))))) N (fun f a=>let d:=(⟨a.2.2.2.2.1,a.2.1,a.2.2.1⟩:Cur);let e:=(ap a.2.2.2.1 [(zl d 100)]); (cond (ilt a.1 4) (oN (zA d 100) (oN (few (ln e)) (f ((zL .i64 a.1 1),((zf d 100).i,((zf d 100).h,(e,(a.2.2.2.2.1,())))))))) (some [(.agg [(.s .u8 a.2.2.2.2.1),(.i .i64 a.2.1),(.i .i64 a.2.2.1)]),(aS .int a.2.2.2.1)]))) (0,(c.i,(c.h,([],(c.b,()))))))
def zTl:FuncId->Nat->Option Tmpl:=zq [(245,0,{n:=16,tm:=[(0,.lp 0 0),(3,.sl 0 []),(4,ti)],lo:=[(0,[.sl 1 [],ti,ti])],ro:=[(0,.int,true),(1,.u8,false)]})]
def zpP (c:Cur)(s:Cur)(a:List Int):Prop:=(∃N,zwT N c=some (AV.agg (zbY s)::[aS .int a]))/\(s.b=c.b/\0<=s.i)/\(a.length=4)
def ziX (c:Cur)  : Bool:=wC (zpP c)
def zfz (c:Cur)  : Cur:=wS (zpP c)
def zoq (c:Cur)  : List Int:=wV (zpP c)
theorem zxl {c:Cur}(h:ziX c=true):zpP c (zfz c) (zoq c):=wG h
theorem zHj (c:Cur)  : 0<=(zfz c).i:=wP fun h=>h.2.1.2
theorem zYB (c:Cur)(h:∃N,Ends (wE (fun a=>aS .int a) c.b fun a=>a.length=4) (zwT N c)):ziX c=true:=wI (fun _ _ h=>h) h
def zyg:zdH:=rP0 fun c=>(ziX c,zfz c,[aS .int (zoq c)])
theorem zLG:zbL Tryz.prog 245 [false,true,true] zyg:=hP0 zek zQ zJk zo zTl (fun _ h=>(zxl h).1)
theorem zMH {c:Cur}(h:zbj c):ziX c=true:=by
 refine zYB c ⟨1002,?_⟩;unfold zwT oN;conv=>zeta
 exact zVV h (P:=fun _=>True) (m:=4) (by omega) (by omega) (fc:=fun c=>zA c 100) (fs:=fun c=>zf c 100) (fv:=fun c=>zl c 100) (R:=fun s l=>AV.agg (zbY s)::[aS .int l]) (fun h=>zbD h _) (fun c=>zI c _) (fun _=>trivial) (fun s l a d e f=>⟨s,l,rfl,⟨a,d⟩,by unfold ln at e;omega⟩) ((fun i t=>((i:Int),t.1,t.2.1,t.2.2,c.b,())):Int->Int×Int×List Int->_) (fun rec t i k l=>rfl)
def z9K:zcR:=[(151,([false,true,true],zsj)),(245,([false,true,true],zyg))]++z9J
theorem zJl:zb7 z9K:=zcs zJk (by
 intro x a;simp only[qG,qN,or_false]at a;rcases a with rfl|rfl
 .exact zBT
 .exact zLG)
def zy3 (N:Nat)(c:Cur)(f:Int):OA:=
 (iter (σ:=(Int×(Int×(Int×(Int×(lM×((List Int)×Unit))))))) N (fun g a=>let d:=(⟨a.2.2.2.2.2.1,a.2.2.1,a.2.2.2.1⟩:Cur);let e:=(ap a.2.2.2.2.1 [(zoq d)]); (cond (ilt a.2.1 a.1) (oN (ziX d) (oN (few (ln e)) (g (a.1,((zL .i64 a.2.1 1),((zfz d).i,((zfz d).h,(e,(a.2.2.2.2.2.1,()))))))))) (some [(.agg [(.s .u8 a.2.2.2.2.2.1),(.i .i64 a.2.2.1),(.i .i64 a.2.2.2.1)]),(aS (.sl .int) a.2.2.2.2.1)]))) (f,(0,(c.i,(c.h,([],(c.b,())))))))
def zXo:FuncId->Nat->Option Tmpl:=zq [(251,0,{n:=19,tm:=[(0,.lp 0 0),(1,ti),(5,.sl 0 []),(6,ti)],lo:=[(0,[.sl 1 [],ti,ti])],ro:=[(0,(.sl .int),true),(1,.u8,false)]})]
def zrF (c:Cur)(a:Int)(s:Cur)(d:List (List Int)):Prop:=(∃N,zy3 N c a=some (AV.agg (zbY s)::[aS (.sl .int) d]))/\(s.b=c.b/\0<=s.i)/\((0<=a->a<=1000->ln d=a/\∀r∈d,r.length=4))
def ziG (c:Cur)(a:Int):Bool:=wC (zrF c a)
def zmC (c:Cur)(a:Int):Cur:=wS (zrF c a)
def zvf (c:Cur)(a:Int):List (List Int):=wV (zrF c a)
theorem zz9 {c:Cur}{a0:Int}(h:ziG c a0=true):zrF c a0 (zmC c a0) (zvf c a0):=wG h
theorem z1N (c:Cur)(a0:Int):0<=(zmC c a0).i:=wP fun h=>h.2.1.2
theorem z1M (c:Cur)(a:Int)(h:∃N,Ends (wE (fun d=>aS (.sl .int) d) c.b fun d=>(0<=a->a<=1000->ln d=a/\∀r∈d,r.length=4)) (zy3 N c a)):ziG c a=true:=wI (fun _ _ h=>h) h
def zAU:zdH:=rP1 dI fun c b=>(ziG c b,zmC c b,[aS (.sl .int) (zvf c b)])
theorem zxY:zbL Tryz.prog 251 [false,true,true] zAU:=hP1 zek zQ zJl zo zXo (fun _ _ h=>(zz9 h).1)
theorem zbcT {c:Cur}(h:zbj c){a0:Int}(a:0<=a0)(d:a0<=1000):ziG c a0=true:=by
 refine z1M c a0 ⟨1002,?_⟩;unfold zy3 oN;conv=>zeta
 exact zVV h (P:=fun r=>r.length=4) a d (fc:=ziX) (fs:=zfz) (fv:=zoq) (R:=fun s l=>AV.agg (zbY s)::[aS (.sl .int) l]) zMH zHj (fun h=>(zxl (zMH h)).2.2) (fun s l e f g j=>⟨s,l,rfl,⟨e,f⟩,fun _ _=>⟨g,j⟩⟩) ((fun i t=>(a0,(i:Int),t.1,t.2.1,t.2.2,c.b,())):Int->Int×Int×List (List Int)->_) (fun rec t i k l=>rfl)
def zt6 (N:Nat)(c:Cur)  : OA :=
 let d:=(zoq c);let e:=({ (zfz c) with b:=c.b}:Cur);let f:=(zf e 6);let a:=({f with b:=c.b}:Cur);let g:=({ (zf a 4) with b:=c.b}:Cur); (oN (ziX c) (oN (zA e 6) (cond (ieq (zl e 6) 0) (oN (zA a 4) (oN (inr 0 (zl a 4) (ln d)) (some [(.agg [(.s .u8 c.b),(.i .i64 (zf a 4).i),(.i .i64 (zf a 4).h)]),(aS .int (tk d (zl a 4)))]))) (cond (ieq (zl e 6) 1) (oN (zA a 4) (oN (zbs g [(-1),99,100]) (oN (inb (zl a 4) (ln d)) (share (up d (zl a 4) (zbo g [(-1),99,100])) (fun j=>(some [(.agg [(.s .u8 c.b),(.i .i64 (zba g [(-1),99,100]).i),(.i .i64 (zba g [(-1),99,100]).h)]),(aS .int j)])))))) (cond (ieq (zl e 6) 2) (oN (few (ln (ap d [1]))) (some [(.agg [(.s .u8 c.b),(.i .i64 f.i),(.i .i64 f.h)]),(aS .int (ap d [1]))])) (some [(.agg [(.s .u8 c.b),(.i .i64 f.i),(.i .i64 f.h)]),(aS .int d)]))))))
def znD (c:Cur)(s:Cur)(a:List Int):Prop:=(∃N,zt6 N c=some (AV.agg (zbY s)::[aS .int a]))/\(s.b=c.b/\0<=s.i)/\(a.length<=5)
def zlQ (c:Cur)  : Bool:=wC (znD c)
def zlR (c:Cur)  : Cur:=wS (znD c)
def ztH (c:Cur)  : List Int:=wV (znD c)
theorem zD5 {c:Cur}(h:zlQ c=true):znD c (zlR c) (ztH c):=wG h
theorem zWv (c:Cur)  : 0<=(zlR c).i:=wP fun h=>h.2.1.2
theorem zWu (c:Cur)(h:∃N,Ends (wE (fun a=>aS .int a) c.b fun a=>a.length<=5) (zt6 N c)):zlQ c=true:=wI (fun _ _ h=>h) h
def zwe:zdH:=rP0 fun c=>(zlQ c,zlR c,[aS .int (ztH c)])
theorem zIL:zbL Tryz.prog 152 [false,true,true] zwe:=hP0 zek zQ zJl zo (zq []) (fun _ h=>(zD5 h).1)
theorem zZd {c:Cur}(h:zbj c):zlQ c=true:=by
 refine zWu c ⟨0,?_⟩;unfold zt6 oN;conv=>zeta
 have e:zbj {zfz c with b:=c.b}:=zbM h (zHj _);have a:zbj {zf {zfz c with b:=c.b} 6 with b:=c.b}:=zbM h (zI _ _);have f:zbj {zf {zf {zfz c with b:=c.b} 6 with b:=c.b} 4 with b:=c.b}:=zbM h (zI _ _);have g:=(zxl (zMH h)).2.2;generalize zoq c=T at g;have d:ln T=4:=(by unfold ln;omega);refine zy (zMH h) (zy (zbD e 6) (zbH (fun _=>zy (zbD a 4) (zy (zCF a (by omega) (by omega)) (zbI (aS .int) (zI _ _) (qV (zDt T _) (by omega))))) (fun _=>zbH (fun _=>zy (zbD a 4) (zy (zew f (by simp)) (zy (zvF a (by omega) (by omega)) (zmd (zbI (aS .int) (zbX _ _) (by rw[ze4];omega)))))) (fun _=>zbH (fun _=>zy (zln (by rw[zh7];omega)) (zbI (aS .int) (zI _ _) ?_)) (fun _=>zbI (aS .int) (zI _ _) (by omega))))));simp[ap];omega
def z9L:zcR:=[(251,([false,true,true],zAU)),(152,([false,true,true],zwe))]++z9K
theorem zWd:zb7 z9L:=zcs zJl (by
 intro x a;simp only[qG,qN,or_false]at a;rcases a with rfl|rfl
 .exact zxY
 .exact zIL)
def zsB (N:Nat)(c:Cur)  : OA :=
 let d:=({ (zgF c) with b:=c.b}:Cur);let a:=({ (zf d 10) with b:=c.b}:Cur);let e:=(zba a [(-1),0,12,15,16,99,100,9223372036854775807]); (oN (zke c) (oN (zA d 10) (cond (ieq (zl d 10) 0) (oN (zA a 11) (some [(.agg [(.s .u8 c.b),(.i .i64 (zf a 11).i),(.i .i64 (zf a 11).h)]),(.agg [(.i .i64 (wsub .i64 (zl a 11) 1)),(.i .i64 (zgq c).X)])])) (cond (ieq (zl d 10) 1) (oN (zbs a [(-1),0,12,15,16,99,100,9223372036854775807]) (some [(.agg [(.s .u8 c.b),(.i .i64 e.i),(.i .i64 e.h)]),(.agg [(.i .i64 (zgq c).Op),(.i .i64 (zbo a [(-1),0,12,15,16,99,100,9223372036854775807]))])])) (some [(.agg [(.s .u8 c.b),(.i .i64 (zf d 10).i),(.i .i64 (zf d 10).h)]),(.agg [(.i .i64 (zgq c).Op),(.i .i64 (zgq c).X)])])))))
def zmF (c:Cur)(s:Cur)(a:Ins):Prop:=(∃N,zsB N c=some (AV.agg (zbY s)::[aT .ins a]))/\(s.b=c.b/\0<=s.i)/\(True)
def zkH (c:Cur)  : Bool:=wC (zmF c)
def zkI (c:Cur)  : Cur:=wS (zmF c)
def zxm (c:Cur)  : Ins:=wV (zmF c)
theorem zS3 {c:Cur}(h:zkH c=true):zmF c (zkI c) (zxm c):=wG h
theorem zS5 (c:Cur)  : 0<=(zkI c).i:=wP fun h=>h.2.1.2
theorem zS4 (c:Cur)(h:∃N,Ends (wE (fun a=>aT .ins a) c.b fun a=>True) (zsB N c)):zkH c=true:=wI (fun _ _ h=>h) h
def zuM:zdH:=rP0 fun c=>(zkH c,zkI c,[aT .ins (zxm c)])
theorem zFA:zbL Tryz.prog 303 [false,true,true] zuM:=hP0 zek zQ zWd zo (zq []) (fun _ h=>(zS3 h).1)
theorem z5G {c:Cur}(h:zbj c):zkH c=true:=by
 refine zS4 c ⟨0,?_⟩;unfold zsB oN;conv=>zeta
 have d:zbj {zgF c with b:=c.b}:=zbM h (zAa _);have a:zbj {zf {zgF c with b:=c.b} 10 with b:=c.b}:=zbM h (zI _ _);exact zy (zTw h) (zy (zbD d 10) (zbH (fun _=>zy (zbD a 11) (zbI (aT .ins) (v:=⟨wsub .i64 _ 1,(zgq c).X⟩) (zI _ _) trivial)) (fun _=>zbH (fun _=>zy (zew a (by simp)) (zbI (aT .ins) (v:=⟨(zgq c).Op,zbo _ _⟩) (zbX _ _) trivial)) (fun _=>zbI (aT .ins) (v:=zgq c) (zI _ _) trivial))))
def z9M:zcR:=[(303,([false,true,true],zuM))]++z9L
theorem zzY:zb7 z9M:=zcs zWd (by
 intro x a;simp only[qG,qN,or_false]at a;rcases a with rfl
 .exact zFA)
def zqg (N:Nat)(c:Cur)  : OA :=
 let e:=(zb8 c);let g:=({ (zbe c) with b:=c.b}:Cur);let k:=(zf g 8);let d:=({k with b:=c.b}:Cur); (oN (zhx c) (oN (zA g 8) (cond (ieq (zl g 8) 0) (oN (zkH d) (oN (inb 0 (ln e)) (share (up e 0 (zxm d)) (fun m=>(some [(.agg [(.s .u8 c.b),(.i .i64 (zkI d).i),(.i .i64 (zkI d).h)]),(aS .ins m)]))))) (cond (ieq (zl g 8) 1) (iter (σ:=(Int×(Int×(lI×((List Int)×Unit))))) N (fun l a=>let j:=(⟨a.2.2.2.1,a.1,a.2.1⟩:Cur);let f:=({ (zf j 2) with b:=a.2.2.2.1}:Cur); (oN (zA j 2) (cond (ilt (ln a.2.2.1) (zL .i64 12 (zl j 2))) (oN (zke f) (oN (few (ln (ap a.2.2.1 [(zgq f)]))) (l ((zgF f).i,((zgF f).h,((ap a.2.2.1 [(zgq f)]),(a.2.2.2.1,()))))))) (some [(.agg [(.s .u8 a.2.2.2.1),(.i .i64 (zf j 2).i),(.i .i64 (zf j 2).h)]),(aS .ins a.2.2.1)])))) (k.i,(k.h,(e,(c.b,()))))) (cond (ieq (zl g 8) 2) (oN (zA d 2) (oN (inr 0 (zl d 2) (ln e)) (some [(.agg [(.s .u8 c.b),(.i .i64 (zf d 2).i),(.i .i64 (zf d 2).h)]),(aS .ins (tk e (zl d 2)))]))) (some [(.agg [(.s .u8 c.b),(.i .i64 k.i),(.i .i64 k.h)]),(aS .ins e)]))))))
def zJH:FuncId->Nat->Option Tmpl:=zq [(247,1,{n:=34,tm:=[(0,.lp 0 0),(3,.sl 0 [])],lo:=[(0,[.sl 1 [],ti,ti])],ro:=[(0,.ins,true),(1,.u8,false)]})]
def zld (c:Cur)(s:Cur)(a:List Ins):Prop:=(∃N,zqg N c=some (AV.agg (zbY s)::[aS .ins a]))/\(s.b=c.b/\0<=s.i)/\(a.length<=13)
def zjB (c:Cur)  : Bool:=wC (zld c)
def zjC (c:Cur)  : Cur:=wS (zld c)
def zpQ (c:Cur)  : List Ins:=wV (zld c)
theorem zyU {c:Cur}(h:zjB c=true):zld c (zjC c) (zpQ c):=wG h
theorem zPR (c:Cur)  : 0<=(zjC c).i:=wP fun h=>h.2.1.2
theorem zPQ (c:Cur)(h:∃N,Ends (wE (fun a=>aS .ins a) c.b fun a=>a.length<=13) (zqg N c)):zjB c=true:=wI (fun _ _ h=>h) h
def ztc:zdH:=rP0 fun c=>(zjB c,zjC c,[aS .ins (zpQ c)])
theorem zDd:zbL Tryz.prog 247 [false,true,true] ztc:=hP0 zek zQ zzY zo zJH (fun _ h=>(zyU h).1)
theorem zQG {c:Cur}(h:zbj c):zjB c=true:=by
 refine zPQ c ⟨1002,?_⟩;unfold zqg oN;conv=>zeta
 have B:zbj {zbe c with b:=c.b}:=zbM h (ziZ _);have q:zbj {zf {zbe c with b:=c.b} 8 with b:=c.b}:=zbM h (zI _ _);have g:=(zrI (zDE h)).2.2;have p:=zJp g;have j:1<=(zb8 c).length:=(by unfold zds at g;cases d:(zb8 c).all zes with|false=>rw[d] at g;cases g|true=>rw[d,cT] at g;have:=(zgs.1 g).1;unfold ln at this;omega);generalize zb8 c=T at p j;have y:1<=ln T/\ln T<=12:=(by unfold ln;omega);have e:(2:Int)<=ln T+1:=(by omega);refine zy (zDE h) (zy (zbD B 8) (zbH (fun _=>zy (z5G q) (zy (qI (by omega)) (zmd (zbI (aS .ins) (zS5 _) (by rw[ze4];omega))))) (fun _=>zbH (fun _=>?_) (fun _=>zbH (fun _=>zy (zbD q 2) (zy (zCF q (n:=2) (by omega) e) (zbI (aS .ins) (zI _ _) (qV (zDt T _) (by omega))))) (fun _=>zbI (aS .ins) (zI _ _) (by omega))))));{refine zmW (fun n s=>s.2.2.1.length+n=13/\0<=s.1/\s.2.2.2.1=c.b) ?_ 1002 (13-T.length) _ ⟨by dsimp only;omega,zI _ _,rfl⟩ (by omega);rintro n ⟨i,k,l,b,u⟩ rec ⟨v,r,t⟩ m;dsimp only at v r t ⊢;subst t;have a:zbj ⟨c.b,i,k⟩:=zbM h r;have A:=zgg a (n:=2) (by omega);have z:=zhO (x:=12) (by omega) (by omega) A.1 (by omega);have w:zbj {zf ⟨c.b,i,k⟩ 2 with b:=c.b}:=zbM h (zI _ _);refine zy (zbD a 2) (zbH (fun d=>?_) (fun d=>?_));{have f:ln l<zL .i64 12 (zl ⟨c.b,i,k⟩ 2):=qE d;rw[z]at f;unfold ln at f;exact zy (zTw w) (zy (zln (by rw[zh7];unfold ln;omega)) (m (n-1) _ (by omega) ⟨by simp[ap];omega,zAa _,rfl⟩))};{exact zbI (aS .ins) (zI _ _) (by omega)}}
def zy5 (N:Nat)(c:Cur)  : OA :=
 let a:=(zcD c);let e:=({ (zch c) with b:=c.b}:Cur);let f:=(zf e 8);let d:=({f with b:=c.b}:Cur);let g:=(zba d [(-1),255,256,9223372036854775807]); (oN (zkf c) (oN (zA e 8) (cond (ieq (zl e 8) 0) (oN (zbs d [(-1),2,3,4]) (some [(.agg [(.s .u8 c.b),(.i .i64 (zba d [(-1),2,3,4]).i),(.i .i64 (zba d [(-1),2,3,4]).h)]),(.agg [(.i .i64 (zbo d [(-1),2,3,4])),(.i .i64 a.Post),(.b a.Open)])])) (cond (ieq (zl e 8) 1) (oN (zbs d [(-1),255,256,9223372036854775807]) (some [(.agg [(.s .u8 c.b),(.i .i64 g.i),(.i .i64 g.h)]),(.agg [(.i .i64 a.Traps),(.i .i64 (zbo d [(-1),255,256,9223372036854775807])),(.b a.Open)])])) (cond (ieq (zl e 8) 2) (some [(.agg [(.s .u8 c.b),(.i .i64 f.i),(.i .i64 f.h)]),(.agg [(.i .i64 a.Traps),(.i .i64 a.Post),(.b (nB a.Open))])]) (some [(.agg [(.s .u8 c.b),(.i .i64 f.i),(.i .i64 f.h)]),(.agg [(.i .i64 a.Traps),(.i .i64 a.Post),(.b a.Open)])]))))))
def zrJ (c:Cur)(s:Cur)(a:Ctl):Prop:=(∃N,zy5 N c=some (AV.agg (zbY s)::[.agg (zmO a)]))/\(s.b=c.b/\0<=s.i)/\(True)
def zpS (c:Cur)  : Bool:=wC (zrJ c)
def zpT (c:Cur)  : Cur:=wS (zrJ c)
def zAb (c:Cur)  : Ctl:=wV (zrJ c)
theorem z1P {c:Cur}(h:zpS c=true):zrJ c (zpT c) (zAb c):=wG h
theorem z1R (c:Cur)  : 0<=(zpT c).i:=wP fun h=>h.2.1.2
theorem z1Q (c:Cur)(h:∃N,Ends (wE (fun a=>.agg (zmO a)) c.b fun a=>True) (zy5 N c)):zpS c=true:=wI (fun _ _ h=>h) h
def zAW:zdH:=rP0 fun c=>(zpS c,zpT c,[.agg (zmO (zAb c))])
theorem zOD:zbL Tryz.prog 90 [false,true,true] zAW:=hP0 zek zQ zzY zo (zq []) (fun _ h=>(z1P h).1)
theorem z5F {c:Cur}(h:zbj c):zpS c=true:=by
 refine z1Q c ⟨0,?_⟩;unfold zy5 oN nB;conv=>zeta
 have d:zbj {zch c with b:=c.b}:=zbM h (zAc _);have a:zbj {zf {zch c with b:=c.b} 8 with b:=c.b}:=zbM h (zI _ _);exact zy (z0v h) (zy (zbD d 8) (zbH (fun _=>zy (zew a (by simp)) (zbI (fun x=>AV.agg (zmO x)) (v:=⟨zbo _ _,(zcD c).Post,(zcD c).Open⟩) (zbX _ _) trivial)) (fun _=>zbH (fun _=>zy (zew a (by simp)) (zbI (fun x=>AV.agg (zmO x)) (v:=⟨(zcD c).Traps,zbo _ _,(zcD c).Open⟩) (zbX _ _) trivial)) (fun _=>zbH (fun _=>zbI (fun x=>AV.agg (zmO x)) (v:=⟨(zcD c).Traps,(zcD c).Post,bif (zcD c).Open then false else true⟩) (zI _ _) trivial) (fun _=>zbI (fun x=>AV.agg (zmO x)) (v:=(zcD c)) (zI _ _) trivial)))))
def zwV (N:Nat)(c:Cur)  : OA :=
 let f:=(zf c 5);let d:=({f with b:=c.b}:Cur);let j:=(zf d 100);let a:=(zl d 100);let e:=({ (zf d 4) with b:=c.b}:Cur);let g:=(zfy (zl d 4) (zc9 e 2)); (oN (zA c 5) (cond (ieq (zl c 5) 0) (oN (zA d 4) (oN (zcT e 2) (oN (zkB (zl d 4) (zc9 e 2)) (some [(.agg [(.s .u8 c.b),(.i .i64 (zS e 2).i),(.i .i64 (zS e 2).h)]),(.agg [(.i .i64 g.Kind),(.i .i64 g.Page),(.b g.Write),(.i .i64 g.N)])])))) (cond (ieq (zl c 5) 1) (oN (zA d 100) (oN (zgR a) (some [(.agg [(.s .u8 c.b),(.i .i64 j.i),(.i .i64 j.h)]),(.agg [(.i .i64 (zfO a).Kind),(.i .i64 (zfO a).Page),(.b (zfO a).Write),(.i .i64 (zfO a).N)])]))) (cond (ieq (zl c 5) 2) (oN (zA d 100) (oN (zgR a) (some [(.agg [(.s .u8 c.b),(.i .i64 j.i),(.i .i64 j.h)]),(.agg [(.i .i64 (zgS a).Kind),(.i .i64 (zgS a).Page),(.b (zgS a).Write),(.i .i64 (zgS a).N)])]))) (cond (ieq (zl c 5) 3) (some [(.agg [(.s .u8 c.b),(.i .i64 f.i),(.i .i64 f.h)]),(.agg [(.i .i64 4),(.i .i64 0),(.b false),(.i .i64 0)])]) (some [(.agg [(.s .u8 c.b),(.i .i64 f.i),(.i .i64 f.h)]),(.agg [(.i .i64 0),(.i .i64 0),(.b false),(.i .i64 0)])]))))))
def zpW (c:Cur)(s:Cur)(a:GExit):Prop:=(∃N,zwV N c=some (AV.agg (zbY s)::[.agg (zgd a)]))/\(s.b=c.b/\0<=s.i)/\(True)
def zhy (c:Cur)  : Bool:=wC (zpW c)
def zeH (c:Cur)  : Cur:=wS (zpW c)
def zcd (c:Cur)  : GExit:=wV (zpW c)
theorem zYD {c:Cur}(h:zhy c=true):zpW c (zeH c) (zcd c):=wG h
theorem zxn (c:Cur)  : 0<=(zeH c).i:=wP fun h=>h.2.1.2
theorem zYE (c:Cur)(h:∃N,Ends (wE (fun a=>.agg (zgd a)) c.b fun a=>True) (zwV N c)):zhy c=true:=wI (fun _ _ h=>h) h
def zyi:zdH:=rP0 fun c=>(zhy c,zeH c,[.agg (zgd (zcd c))])
theorem zLJ:zbL Tryz.prog 175 [false,true,true] zyi:=hP0 zek zQ zzY zo (zq []) (fun _ h=>(zYD h).1)
theorem zUC {c:Cur}(h:zbj c):zhy c=true:=by
 refine zYE c ⟨0,?_⟩;unfold zwV oN;conv=>zeta
 have a:zbj {zf c 5 with b:=c.b}:=zbM h (zI _ _);have d:zbj {zf {zf c 5 with b:=c.b} 4 with b:=c.b}:=zbM h (zI _ _);exact zy (zbD h 5) (zbH (fun _=>zy (zbD a 4) (zy (zjn d 2) (zy rfl (zbI (fun x=>AV.agg (zgd x)) (v:=zfy _ _) (zcm _ _) trivial)))) (fun _=>zbH (fun _=>zy (zbD a 100) (zy rfl (zbI (fun x=>AV.agg (zgd x)) (v:=zfO _) (zI _ _) trivial))) (fun _=>zbH (fun _=>zy (zbD a 100) (zy rfl (zbI (fun x=>AV.agg (zgd x)) (v:=zgS _) (zI _ _) trivial))) (fun _=>zbH (fun _=>zbI (fun x=>AV.agg (zgd x)) (v:=⟨4,0,false,0⟩) (zI _ _) trivial) (fun _=>zbI (fun x=>AV.agg (zgd x)) (v:=⟨0,0,false,0⟩) (zI _ _) trivial)))))
def z9N:zcR:=[(247,([false,true,true],ztc)),(90,([false,true,true],zAW)),(175,([false,true,true],zyi))]++z9M
theorem znU:zb7 z9N:=zcs zzY (by
 intro x a;simp only[qG,qN,or_false]at a;rcases a with rfl|rfl|rfl
 .exact zDd
 .exact zOD
 .exact zLJ)
def zy7 (N:Nat)(c:Cur)  : OA :=
 let a:=(zcd c);let e:=({ (zeH c) with b:=c.b}:Cur);let d:=({ (zf e 8) with b:=c.b}:Cur); (oN (zhy c) (oN (zA e 8) (cond (ieq (zl e 8) 0) (oN (zA d 7) (some [(.agg [(.s .u8 c.b),(.i .i64 (zf d 7).i),(.i .i64 (zf d 7).h)]),(.agg [(.i .i64 (wsub .i64 (zl d 7) 1)),(.i .i64 a.Page),(.b a.Write),(.i .i64 a.N)])])) (cond (ieq (zl e 8) 1) (oN (zbs d [(-1),3,4]) (some [(.agg [(.s .u8 c.b),(.i .i64 (zba d [(-1),3,4]).i),(.i .i64 (zba d [(-1),3,4]).h)]),(.agg [(.i .i64 a.Kind),(.i .i64 (zbo d [(-1),3,4])),(.b a.Write),(.i .i64 a.N)])])) (cond (ieq (zl e 8) 2) (oN (zbs d [(-1),99,100]) (some [(.agg [(.s .u8 c.b),(.i .i64 (zba d [(-1),99,100]).i),(.i .i64 (zba d [(-1),99,100]).h)]),(.agg [(.i .i64 a.Kind),(.i .i64 a.Page),(.b a.Write),(.i .i64 (zbo d [(-1),99,100]))])])) (some [(.agg [(.s .u8 c.b),(.i .i64 (zf e 8).i),(.i .i64 (zf e 8).h)]),(.agg [(.i .i64 a.Kind),(.i .i64 a.Page),(.b a.Write),(.i .i64 a.N)])]))))))
def zrL (c:Cur)(s:Cur)(a:GExit):Prop:=(∃N,zy7 N c=some (AV.agg (zbY s)::[.agg (zgd a)]))/\(s.b=c.b/\0<=s.i)/\(True)
def zpU (c:Cur)  : Bool:=wC (zrL c)
def zpV (c:Cur)  : Cur:=wS (zrL c)
def zAd (c:Cur)  : GExit:=wV (zrL c)
theorem z1U {c:Cur}(h:zpU c=true):zrL c (zpV c) (zAd c):=wG h
theorem z1W (c:Cur)  : 0<=(zpV c).i:=wP fun h=>h.2.1.2
theorem z1V (c:Cur)(h:∃N,Ends (wE (fun a=>.agg (zgd a)) c.b fun a=>True) (zy7 N c)):zpU c=true:=wI (fun _ _ h=>h) h
def zAY:zdH:=rP0 fun c=>(zpU c,zpV c,[.agg (zgd (zAd c))])
theorem zOF:zbL Tryz.prog 249 [false,true,true] zAY:=hP0 zek zQ znU zo (zq []) (fun _ h=>(z1U h).1)
theorem z2E {c:Cur}(h:zbj c):zpU c=true:=by
 refine z1V c ⟨0,?_⟩;unfold zy7 oN;conv=>zeta
 have d:zbj {zeH c with b:=c.b}:=zbM h (zxn _);have a:zbj {zf {zeH c with b:=c.b} 8 with b:=c.b}:=zbM h (zI _ _);exact zy (zUC h) (zy (zbD d 8) (zbH (fun _=>zy (zbD a 7) (zbI (fun x=>AV.agg (zgd x)) (v:=⟨wsub .i64 _ 1,(zcd c).Page,(zcd c).Write,(zcd c).N⟩) (zI _ _) trivial)) (fun _=>zbH (fun _=>zy (zew a (by simp)) (zbI (fun x=>AV.agg (zgd x)) (v:=⟨(zcd c).Kind,zbo _ _,(zcd c).Write,(zcd c).N⟩) (zbX _ _) trivial)) (fun _=>zbH (fun _=>zy (zew a (by simp)) (zbI (fun x=>AV.agg (zgd x)) (v:=⟨(zcd c).Kind,(zcd c).Page,(zcd c).Write,zbo _ _⟩) (zbX _ _) trivial)) (fun _=>zbI (fun x=>AV.agg (zgd x)) (v:=(zcd c)) (zI _ _) trivial)))))
def zwW (N:Nat)(c:Cur)  : OA :=
 let a:=({ (zf c 256) with b:=c.b}:Cur);let d:=({ (zf a 256) with b:=c.b}:Cur);let e:=(zba d [0,1,128,255,(zl c 256),(zl a 256),(-1),256,9223372036854775807]); (oN (zA c 256) (oN (zA a 256) (oN (zbs d [0,1,128,255,(zl c 256),(zl a 256),(-1),256,9223372036854775807]) (some [(.agg [(.s .u8 c.b),(.i .i64 e.i),(.i .i64 e.h)]),(aI (zbo d [0,1,128,255,(zl c 256),(zl a 256),(-1),256,9223372036854775807]))]))))
def zpX (c:Cur)(s:Cur)(a:Int):Prop:=(∃N,zwW N c=some (AV.agg (zbY s)::[aI a]))/\(s.b=c.b/\0<=s.i)/\(True)
def znh (c:Cur)  : Bool:=wC (zpX c)
def zni (c:Cur)  : Cur:=wS (zpX c)
def zwG (c:Cur)  : Int:=wV (zpX c)
theorem zYF {c:Cur}(h:znh c=true):zpX c (zni c) (zwG c):=wG h
theorem zYH (c:Cur)  : 0<=(zni c).i:=wP fun h=>h.2.1.2
theorem zYG (c:Cur)(h:∃N,Ends (wE (fun a=>aI a) c.b fun a=>True) (zwW N c)):znh c=true:=wI (fun _ _ h=>h) h
def zyj:zdH:=rP0 fun c=>(znh c,zni c,[aI (zwG c)])
theorem zLK:zbL Tryz.prog 248 [false,true,true] zyj:=hP0 zek zQ znU zo (zq []) (fun _ h=>(zYF h).1)
theorem zbcl {c:Cur}(h:zbj c):znh c=true:=by
 refine zYG c ⟨0,?_⟩;unfold zwW oN;conv=>zeta
 have a:zbj {zf c 256 with b:=c.b}:=zbM h (zI _ _);have d:zbj {zf {zf c 256 with b:=c.b} 256 with b:=c.b}:=zbM h (zI _ _);exact zy (zbD h 256) (zy (zbD a 256) (zy (zew d (by simp)) (zbI aI (zbX _ _) trivial)))
def zt8 (N:Nat)(c:Cur)  : OA :=
 let a:=(zba c [0,1,2,3,0,1,(-1),4,9223372036854775807]); (oN (zbs c [0,1,2,3,0,1,(-1),4,9223372036854775807]) (some [(.agg [(.s .u8 c.b),(.i .i64 a.i),(.i .i64 a.h)]),(aI (zbo c [0,1,2,3,0,1,(-1),4,9223372036854775807]))]))
def znF (c:Cur)(s:Cur)(a:Int):Prop:=(∃N,zt8 N c=some (AV.agg (zbY s)::[aI a]))/\(s.b=c.b/\0<=s.i)/\(True)
def zlS (c:Cur)  : Bool:=wC (znF c)
def zlT (c:Cur)  : Cur:=wS (znF c)
def ztI (c:Cur)  : Int:=wV (znF c)
theorem zWy {c:Cur}(h:zlS c=true):znF c (zlT c) (ztI c):=wG h
theorem zWA (c:Cur)  : 0<=(zlT c).i:=wP fun h=>h.2.1.2
theorem zWz (c:Cur)(h:∃N,Ends (wE (fun a=>aI a) c.b fun a=>True) (zt8 N c)):zlS c=true:=wI (fun _ _ h=>h) h
def zwg:zdH:=rP0 fun c=>(zlS c,zlT c,[aI (ztI c)])
theorem zIN:zbL Tryz.prog 155 [false,true,true] zwg:=hP0 zek zQ znU zo (zq []) (fun _ h=>(zWy h).1)
theorem zbbu {c:Cur}(h:zbj c):zlS c=true:=by
 refine zWz c ⟨0,?_⟩;unfold zt8 oN;conv=>zeta
 exact zy (zew h (by simp)) (zbI aI (zbX _ _) trivial)
def zCv (N:Nat)(c:Cur)  : OA :=
 let a:=(zba c [0,0,1,1,2,(-1),9223372036854775807]); (oN (zbs c [0,0,1,1,2,(-1),9223372036854775807]) (some [(.agg [(.s .u8 c.b),(.i .i64 a.i),(.i .i64 a.h)]),(aI (zbo c [0,0,1,1,2,(-1),9223372036854775807]))]))
def ztJ (c:Cur)(s:Cur)(a:Int):Prop:=(∃N,zCv N c=some (AV.agg (zbY s)::[aI a]))/\(s.b=c.b/\0<=s.i)/\(True)
def zor (c:Cur)  : Bool:=wC (ztJ c)
def zwH (c:Cur)  : Cur:=wS (ztJ c)
def zES (c:Cur)  : Int:=wV (ztJ c)
theorem z4M {c:Cur}(h:zor c=true):ztJ c (zwH c) (zES c):=wG h
theorem z4O (c:Cur)  : 0<=(zwH c).i:=wP fun h=>h.2.1.2
theorem z4N (c:Cur)(h:∃N,Ends (wE (fun a=>aI a) c.b fun a=>True) (zCv N c)):zor c=true:=wI (fun _ _ h=>h) h
def zDF:zdH:=rP0 fun c=>(zor c,zwH c,[aI (zES c)])
theorem zR8:zbL Tryz.prog 67 [false,true,true] zDF:=hP0 zek zQ znU zo (zq []) (fun _ h=>(z4M h).1)
theorem zbbB {c:Cur}(h:zbj c):zor c=true:=by
 refine z4N c ⟨0,?_⟩;unfold zCv oN;conv=>zeta
 exact zy (zew h (by simp)) (zbI aI (zbX _ _) trivial)
def zwR (N:Nat)(c:Cur)  : OA :=
 let a:=(zba c [0,1,2,3,3,4,7,8,(-1),9223372036854775807,(-9223372036854775808)]); (oN (zbs c [0,1,2,3,3,4,7,8,(-1),9223372036854775807,(-9223372036854775808)]) (some [(.agg [(.s .u8 c.b),(.i .i64 a.i),(.i .i64 a.h)]),(aI (zbo c [0,1,2,3,3,4,7,8,(-1),9223372036854775807,(-9223372036854775808)]))]))
def zpM (c:Cur)(s:Cur)(a:Int):Prop:=(∃N,zwR N c=some (AV.agg (zbY s)::[aI a]))/\(s.b=c.b/\0<=s.i)/\(True)
def zkW (c:Cur)  : Bool:=wC (zpM c)
def zrD (c:Cur)  : Cur:=wS (zpM c)
def zwF (c:Cur)  : Int:=wV (zpM c)
theorem zYx {c:Cur}(h:zkW c=true):zpM c (zrD c) (zwF c):=wG h
theorem zYz (c:Cur)  : 0<=(zrD c).i:=wP fun h=>h.2.1.2
theorem zYy (c:Cur)(h:∃N,Ends (wE (fun a=>aI a) c.b fun a=>True) (zwR N c)):zkW c=true:=wI (fun _ _ h=>h) h
def zye:zdH:=rP0 fun c=>(zkW c,zrD c,[aI (zwF c)])
theorem zLD:zbL Tryz.prog 68 [false,true,true] zye:=hP0 zek zQ znU zo (zq []) (fun _ h=>(zYx h).1)
theorem zba9 {c:Cur}(h:zbj c):zkW c=true:=by
 refine zYy c ⟨0,?_⟩;unfold zwR oN;conv=>zeta
 exact zy (zew h (by simp)) (zbI aI (zbX _ _) trivial)
def zt7 (N:Nat)(c:Cur)  : OA :=
 let e:=({ (zf c 3) with b:=c.b}:Cur);let d:=({ (zf e 4) with b:=c.b}:Cur);let a:=({ (zf d 6) with b:=c.b}:Cur); (oN (zA c 3) (oN (zA e 4) (oN (zA d 6) (oN (zA a 3) (some [(.agg [(.s .u8 c.b),(.i .i64 (zf a 3).i),(.i .i64 (zf a 3).h)]),(.agg [(.i .i64 (zL .i64 1 (zl c 3))),(.i .i64 (zl e 4)),(.i .i64 (zl d 6)),(.i .i64 (zL .i64 1 (zl a 3)))])])))))
def znE (c:Cur)(s:Cur)(a:Entry):Prop:=(∃N,zt7 N c=some (AV.agg (zbY s)::[aT .entry a]))/\(s.b=c.b/\0<=s.i)/\(True)
def zh4 (c:Cur)  : Bool:=wC (znE c)
def zgV (c:Cur)  : Cur:=wS (znE c)
def zmE (c:Cur)  : Entry:=wV (znE c)
theorem zWw {c:Cur}(h:zh4 c=true):znE c (zgV c) (zmE c):=wG h
theorem zvg (c:Cur)  : 0<=(zgV c).i:=wP fun h=>h.2.1.2
theorem zWx (c:Cur)(h:∃N,Ends (wE (fun a=>aT .entry a) c.b fun a=>True) (zt7 N c)):zh4 c=true:=wI (fun _ _ h=>h) h
def zwf:zdH:=rP0 fun c=>(zh4 c,zgV c,[aT .entry (zmE c)])
theorem zIM:zbL Tryz.prog 250 [false,true,true] zwf:=hP0 zek zQ znU zo (zq []) (fun _ h=>(zWw h).1)
theorem zNO {c:Cur}(h:zbj c):zh4 c=true:=by
 refine zWx c ⟨0,?_⟩;unfold zt7 oN;conv=>zeta
 have a:zbj {zf c 3 with b:=c.b}:=zbM h (zI _ _);have d:zbj {zf {zf c 3 with b:=c.b} 4 with b:=c.b}:=zbM h (zI _ _);have e:zbj {zf {zf {zf c 3 with b:=c.b} 4 with b:=c.b} 6 with b:=c.b}:=zbM h (zI _ _);exact zy (zbD h 3) (zy (zbD a 4) (zy (zbD d 6) (zy (zbD e 3) (zbI (aT .entry) (v:=⟨_,_,_,_⟩) (zI _ _) trivial))))
def z9O:zcR:=[(249,([false,true,true],zAY)),(248,([false,true,true],zyj)),(155,([false,true,true],zwg)),(67,([false,true,true],zDF)),(68,([false,true,true],zye)),(250,([false,true,true],zwf))]++z9N
theorem z7h:zb7 z9O:=zcs znU (by
 intro x a;simp only[qG,qN,or_false]at a;rcases a with rfl|rfl|rfl|rfl|rfl|rfl
 .exact zOF
 .exact zLK
 .exact zIN
 .exact zR8
 .exact zLD
 .exact zIM)
section
open Go Go.RowKit
structure Cw (w0:World) (blk:Nat) (u:Value) (c:Cur) (w:World):Prop where
 os:w.os=w0.os
 tape:w.tape=w0.tape
 output:w.output=w0.output
 size:w0.heap.size<=w.heap.size
 keep:∀b,b<w0.heap.size->b≠blk->w.heap[b]?=w0.heap[b]?
 cur:∃e,w.heap[blk]?=some (.cells #[u,.int .i64 c.i,.int .i64 c.h] e (0,0))
theorem Cw.trans {g w1 h:World}{blk:Nat}{u:Value}{i d:Cur}(a:Cw g blk u i w1)(c:Cw w1 blk u d h):Cw g blk u d h :=
 ⟨c.os.trans a.os,c.tape.trans a.tape,c.output.trans a.output,qV a.size c.size,fun b e f=>(c.keep b (jM e a.size) f).trans (a.keep b e f),c.cur⟩
theorem Cw.drew {a w:World}{blk:Nat}{u:Value}{c:Cur}(h:Cw a blk u c w):Cw a blk u c w.drew:=⟨h.os,h.tape,h.output,h.size,h.keep,h.cur⟩
theorem Cw.at (w:World)(blk:Nat)(u:Value)(c:Cur)(h:∃e,w.heap[blk]?=some (.cells #[u,.int .i64 c.i,.int .i64 c.h] e (0,0))):Cw w blk u c w:=⟨rfl,rfl,rfl,qY _,fun _ _ _=>rfl,h⟩
theorem Cw.alloc {d w:World}{blk:Nat}{u:Value}{c:Cur}(h:Cw d blk u c w)(a:blk<w.heap.size)(o:Obj):Cw d blk u c (w.alloc o):=
 ⟨h.os,h.tape,h.output,qV h.size (by simp),fun b a g=>(heap_alloc_old w o (jM a h.size)).trans (h.keep b a g),by obtain⟨e,f⟩:=h.cur;exact⟨e,(heap_alloc_old w o a).trans f⟩⟩
theorem Cw.lt {b w:World}{blk:Nat}{u:Value}{c:Cur}(h:Cw b blk u c w):blk<w.heap.size:=by obtain⟨e,a⟩:=h.cur;exact(qQ.1 a).1
theorem zHY {P:Program}{f:FuncId}{y:List CV->List AV->Option (Bool×List CV×List AV)}(V:zbL P f [false,true,true] y){w:World}{blk:Nat}{u:Value}{c c2:Cur}{z:zbb}(q:∃e,w.heap[blk]?=some (.cells #[u,.int .i64 c.i,.int .i64 c.h] e (0,0)))(hu:Rep false w u (.s .u8 c.b) z)(W:∀x,z x->x<w.heap.size/\x≠blk){avs rs:List AV}{xs:List Value}{Ka:zbb}(l:zdz false w (zB avs) xs (fun _=>Ka))(p:∀x,Ka x->x<w.heap.size/\x≠blk)(hr:y (zbY c) avs=some (true,zbY c2,rs)) :
 Calls P f (#[.pointer (some ⟨blk,0,none⟩)]++(zb0 avs xs).toArray) w fun e B=>∃C A,e = .returned (zj5 (zb0 rs C))/\Cw w blk u c2 B/\ztO (zo0 f) B (zB rs) C A/\(∀i x,i<(zB rs).length->A i x->w.heap.size<=x/\x<B.heap.size):=by
 obtain⟨e,Y⟩:=q;refine(V.2 w blk _ e (zbY c) (fun j x=>j=0/\z x) avs xs Ka (zbY c2) rs Y rfl rfl ?_ ?_ ?_ l ?_ hr).mono ?_
 .intro j cv v m k
  match j,m,k with
  | 0,m,k=>cases m;cases k;exact hu.weak (fun x l=>⟨rfl,l⟩)
  | 1,m,k=>cases m;cases k;exact .i _ _ _
  | 2,m,k=>cases m;cases k;exact .i _ _ _
  |j+3,m,k=>simp[zbY]at m
 .intro j x _ l;exact W x l.2
 .intro i j x r t n hne l hx2;have:i=0:=l.1;subst this;simp[zbg]at n
 .intro x l;refine⟨(p x l).1,(p x l).2,fun j t n d=>?_⟩;have:j=0:=d.1;subst this;simp[zbg]at n
 .intro E B hp;cases E with
  |panicked _=>exact hp.elim
  |outgrown=>exact hp.elim
  |returned v=>
   obtain⟨Q,R,S,T,U,a,G,K',C,A,I,L,g3,F,M,N,g7,O,g9,J,K⟩:=hp;have g:∀i x,i<(zbY c).length->zbg [false,true,true] i->¬ ((fun (j:Nat) x=>j=0/\z x) i x):=by intro i x r n d;have:i=0:=d.1;subst this;simp[zbg]at n
   have k:a = #[u,.int .i64 c2.i,.int .i64 c2.h]:=by
    have hs:a.size=3:=L;have D:=(F 0 _ (a[0]'(by omega)) rfl (jI _)).2 (by simp[zbg]);have H:=F 1 _ (a[1]'(by omega)) rfl (jI _);have E:=F 2 _ (a[2]'(by omega)) rfl (jI _);have D:u=a[0]'(by omega):=(by simpa using D);apply Array.ext;{exact hs}
    .intro i r hi2
     match i,r with
     | 0,_=>exact D.symm
     | 1,_=>exact H
     | 2,_=>exact E
     |i+3,h=>omega
   subst k;refine⟨C,A,by rw[N],⟨Q,R,S,T,fun b X Z=>U b X Z (fun j t n d=>g j b t n d),G,I⟩,M,fun i x r d=>?_⟩;obtain⟨k1,k2,k3⟩:=O i x r d;rcases k3 with⟨j,t,n,d⟩|d;{exact absurd d (g j x t n)};{exact⟨d,k1⟩}
def zeS (c:Cur):List (List Int):=zvf c 3
def zzM (c:Cur):Cur:={zmC c 3 with b:=c.b}
def z1d (c:Cur):Int:=zl (zzM c) 8
def zh6 (c:Cur):Cur:={zf (zzM c) 8 with b:=c.b}
def z1c (c:Cur):Int:=zl (zh6 c) 3
def zto (c:Cur):Cur:={zf (zh6 c) 3 with b:=c.b}
def l04n (c:Cur):Int:=zl (zto c) 4
def z1a (c:Cur):Cur:={zf (zto c) 4 with b:=c.b}
def zuD (c:Cur):Int:=zbo (zh6 c) [-1,100]
def z1b (c:Cur):Cur:={zba (zh6 c) [-1,100] with b:=c.b}
def zoD (_:Nat)(c:Cur):OA:=
 bif ziG c 3 then (bif zA (zzM c) 8 then (bif ieq (z1d c) 0 then (cond (zA (zh6 c) 3) (cond (zA (zto c) 4) (some (AV.agg (zbY (z1a c))::[aS (.sl .int) (up (zeS c) (z1c c) (tk (ix (zeS c) 0 []) (l04n c)))])) none) none)
  else (bif ieq (z1d c) 1 then (cond (zbs (zh6 c) [-1,100]) (some (AV.agg (zbY (z1b c))::[aS (.sl .int) (up (zeS c) 1 (up (ix (zeS c) 1 []) 2 (zuD c)))])) none)
  else (cond (ieq (z1d c) 2) (cond (zA (zh6 c) 3) (some (AV.agg (zbY (zto c))::[aS (.sl .int) (tk (zeS c) (z1c c))])) none) (some (AV.agg (zbY (zh6 c))::[aS (.sl .int) (zeS c)]))))) else none) else none
def zrE (c:Cur)(s:Cur)(a:List (List Int)):Prop:=(∃N,zoD N c=some (AV.agg (zbY s)::[aS (.sl .int) a]))/\(s.b=c.b/\0<=s.i)/\(a.length<=3/\∀r∈a,r.length<=4)
def zpO (c:Cur)  : Bool:=wC (zrE c)
def ziD (c:Cur)  : Cur:=wS (zrE c)
def zqR (c:Cur)  : List (List Int):=wV (zrE c)
theorem zMS {c:Cur}(h:zpO c=true):zrE c (ziD c) (zqR c):=wG h
theorem z1L (c:Cur)  : 0<=(ziD c).i:=wP fun h=>h.2.1.2
theorem z1K (c:Cur)(h:∃N,Ends (wE (fun a=>aS (.sl .int) a) c.b fun a=>a.length<=3/\∀r∈a,r.length<=4) (zoD N c)):zpO c=true:=wI (fun _ _ h=>h) h
def zsJ:zdH:=rP0 fun c=>(zpO c,ziD c,[aS (.sl .int) (zqR c)])
theorem z6Y {w:World}{blk:Nat}{u:Value}{c:Cur}{l:zbb}{n:Int}(g:∃e,w.heap[blk]?=some (.cells #[u,.int .i64 c.i,.int .i64 c.h] e (0,0)))(t:Rep false w u (.s .u8 c.b) l)(q:∀x,l x->x<w.heap.size/\x≠blk)(r:ziG c n=true) :
 Calls Tryz.prog 251 #[.pointer (some ⟨blk,0,none⟩),.int .i64 n] w fun e k=>∃v j,e = .returned v/\Cw w blk u {zmC c n with b:=c.b} k/\Rep true k v (.s (.sl .int) (zvf c n)) j/\(∀x,j x->w.heap.size<=x/\x<k.heap.size):=by
 have:=zHY (c:=c) (c2:=zmC c n) zxY g t q (avs:=[.one (.i .i64 n)]) (rs:=[aS (.sl .int) (zvf c n)]) (xs:=[.int .i64 n]) (Ka:=fun _=>False) ⟨rfl,fun i A x a d=>by
  match i,a,d with
  | 0,a,d=>cases a;cases d;exact .i _ _ _
  |i+1,a,d=>simp at d⟩ (fun x d=>d.elim) (by show some (ziG ⟨c.b,c.i,c.h⟩ n,_,_)=_;rw[show (⟨c.b,c.i,c.h⟩:Cur)=c from rfl,r])
 refine Calls.mono this ?_
 rintro e k ⟨z,j,rfl,f,m,p⟩
 match z,m.1 with
 |[y],_=>exact⟨y,j 0,rfl,⟨f.os,f.tape,f.output,f.size,f.keep,f.cur⟩,m.2 0 _ y rfl rfl,fun x d=>p 0 x (by simp[zB,AV.cvs]) d⟩
theorem ztg {w:World}{blk:Nat}{u:Value}{c:Cur}{j:zbb}{n:Int}(g:∃e,w.heap[blk]?=some (.cells #[u,.int .i64 c.i,.int .i64 c.h] e (0,0)))(r:Rep false w u (.s .u8 c.b) j)(p:∀x,j x->x<w.heap.size/\x≠blk)(q:zA c n=true) :
 Calls Tryz.prog 150 #[.pointer (some ⟨blk,0,none⟩),.int .i64 n] w fun e l=>e = .returned (.int .i64 (zl c n))/\Cw w blk u {zf c n with b:=c.b} l:=by
 have:=zHY (c:=c) (c2:=zf c n) zuz g r p (avs:=[.one (.i .i64 n)]) (rs:=[aI (zl c n)]) (xs:=[.int .i64 n]) (Ka:=fun _=>False) ⟨rfl,fun i z x a d=>by
  match i,a,d with
  | 0,a,d=>cases a;cases d;exact .i _ _ _
  |i+1,a,d=>simp at d⟩ (fun x d=>d.elim) (by show some (zA ⟨c.b,c.i,c.h⟩ n,_,_)=_;rw[show (⟨c.b,c.i,c.h⟩:Cur)=c from rfl,q])
 refine Calls.mono this ?_
 rintro e l ⟨t,v,rfl,f,k,A⟩
 match t,k.1,k.2 with
 |[y],_,m=>have:=(m 0 _ y rfl rfl).int_inv;subst this;exact⟨rfl,f.os,f.tape,f.output,f.size,f.keep,f.cur⟩
theorem z4B {w:World}{blk:Nat}{u:Value}{c:Cur}{k:zbb}{l:List Int}{v:Value}{Ka:zbb}(f:∃e,w.heap[blk]?=some (.cells #[u,.int .i64 c.i,.int .i64 c.h] e (0,0)))(t:Rep false w u (.s .u8 c.b) k)(q:∀x,k x->x<w.heap.size/\x≠blk)(r:zbs c l=true)(z:Rep false w v (.s .int l) Ka)(j:∀x,Ka x->x<w.heap.size/\x≠blk) :
 Calls Tryz.prog 86 #[.pointer (some ⟨blk,0,none⟩),v] w fun e n=>e = .returned (.int .i64 (zbo c l))/\Cw w blk u {zba c l with b:=c.b} n:=by
 have:=zHY (c:=c) (c2:=zba c l) zsc f t q (avs:=[.one (.s .int l)]) (rs:=[aI (zbo c l)]) (xs:=[v]) (Ka:=Ka) ⟨rfl,fun i C x a g=>by
  match i,a,g with
  | 0,a,g=>cases a;cases g;exact z
  |i+1,a,g=>simp at g⟩ j (by show some (zbs ⟨c.b,c.i,c.h⟩ l,_,_)=_;rw[show (⟨c.b,c.i,c.h⟩:Cur)=c from rfl,r])
 refine Calls.mono this ?_
 rintro e n ⟨A,B,rfl,d,m,D⟩
 match A,m.1,m.2 with
 |[y],_,p=>have:=(p 0 _ y rfl rfl).int_inv;subst this;exact⟨rfl,d.os,d.tape,d.output,d.size,d.keep,d.cur⟩
theorem z4H {w:World}{v:Value}{l:List (List Int)}{K:zbb}(h:Rep true w v (.s (.sl .int) l) K)(n:l.length=3):∃(b off cap:Nat) (arr:Array Value) (e:TypeId) (V:Nat->Value) (c:Nat->zbb),v = .slice (some ⟨b,off,none⟩) 3 cap/\w.heap[b]?=some (.cells arr e (0,0))/\3<=cap/\off+cap<=arr.size/\K b/\
 (∀i x,i<3->c i x->K x/\x≠b)/\(∀i g x,i<3->g<3->c i x->c g x->i=g)/\(∀i,i<3->arr[off+i]?=some (V i))/\∀i x,l[i]?=some x->Rep true w (V i) (.s .int x) (c i):=by
 cases h with
 |nil=>simp at n
 |void _ _ _ B=>cases B
 |sl _ _ b off cap arr e E V c _ y k r p f u a d C z=>have:=k rfl;subst this;have t:Ty.width (.sl .int)=1:=rfl;rw[t,u3]at f;refine⟨b,off,cap,arr,e,fun i=>V i 0,fun i=>c i 0,by rw[n],y,by omega,f,u,fun i x q j=>⟨(a i 0 x (by omega) (by decide) j).1,(a i 0 x (by omega) (by decide) j).2 rfl⟩,fun i g x q A j m=>(d rfl i 0 g 0 x (by omega) (by decide) (by omega) (by decide) j m).1,fun i q=>?_,fun i x D=>z i x D 0 _ rfl⟩;have:=C i 0 (by omega) (by decide);rwa [t,u3,j5] at this
theorem zWo {w:World}{v:Value}{l:List Int}{K:zbb}(h:Rep true w v (.s .int l) K)(d:l.length=4):∃(b off cap:Nat) (arr:Array Value) (e:TypeId),v = .slice (some ⟨b,off,none⟩) 4 cap/\w.heap[b]?=some (.cells arr e (0,0))/\4<=cap/\off+cap<=arr.size/\K b/\
 ∀i x,l[i]?=some x->arr[off+i]?=some (.int .i64 x):=by
 cases h with
 |nil=>simp at d
 |void _ _ _ u=>cases u
 |sl _ _ b off cap arr e A V z _ q c j f a p k g y r=>have:=c rfl;subst this;have m:Ty.width .int=1:=rfl;rw[m,u3]at a;refine⟨b,off,cap,arr,e,by rw[d],q,by omega,a,p,fun i x n=>?_⟩;have t:i<l.length:=(qA.1 n).1;have:=y i 0 t (by decide);rw[m,u3,j5] at this;rw[this,(r i x n 0 (.i .i64 x) rfl).int_inv]
theorem zJr {o:Bool}{w:World}{b off cap:Nat}{arr:Array Value}{e:TypeId}(g:w.heap[b]?=some (.cells arr e (0,0))){l:List Int}(r:l.length<=1000)(c:l.length<=cap)(m:off+cap<=arr.size)(n:∀i x,l[i]?=some x->arr[off+i]?=some (.int .i64 x)):Rep o w (.slice (some ⟨b,off,none⟩) l.length cap) (.s .int l) (fun x=>x=b):=by
 refine .sl .int l b off cap arr e (0,0) (fun i j=>.int .i64 (l.getD i 0)) (fun _ _ _=>False) _ g (fun _=>rfl) (by rw[zfm];omega) c (by show off+cap*1<=arr.size;omega) rfl (fun i j x _ _ h=>h.elim) (fun _ i j t u x _ _ _ _ h=>h.elim) (fun i j f k=>?_) (fun i x p j q a=>?_);{have d:j=0:=(by have:j<1:=k;omega);subst d;have:=n i _ (qB f);show arr[off+i*1+0]?=_;rw[u3,j5,this];simp[List.getD,qB f]}
 .match j,a with
  | 0,a=>cases a;have:l.getD i 0=x:=(by simp[List.getD,p]);show Rep o w (.int .i64 (l.getD i 0)) _ _;rw[this];exact .i _ _ _
  |j+1,a=>simp[Ty.cells]at a
theorem zJs {w:World}{b off cap:Nat}{arr:Array Value}{e:TypeId}(n:w.heap[b]?=some (.cells arr e (0,0))){l:List (List Int)}(A:l.length<=1000)(c:l.length<=cap)(t:off+cap<=arr.size)(V:Nat->Value){K:zbb}(f:K b)(u:∀i,i<l.length->arr[off+i]?=some (V i))(r:∀i x,l[i]?=some x->∃d,Rep false w (V i) (.s .int x) d/\∀y,d y->K y):Rep false w (.slice (some ⟨b,off,none⟩) l.length cap) (.s (.sl .int) l) K:=by
 refine .sl (.sl .int) l b off cap arr e (0,0) (fun i _=>V i) (fun _ _=>K) _ n (fun _=>rfl) (by rw[zfm];omega) c (by show off+cap*1<=arr.size;omega) f (fun i j x _ _ h=>⟨h,fun h=>by cases h⟩) (fun h=>by cases h) (fun i j p q=>?_) (fun i x v j z a=>?_);{have g:j=0:=(by have:j<1:=q;omega);subst g;show arr[off+i*1+0]?=_;rw[u3,j5];exact u i p}
 .match j,a with
  | 0,a=>cases a;obtain⟨d,k,m⟩:=r i x v;exact k.weak m
  |j+1,a=>simp[Ty.cells]at a
theorem zvQ {w:World}{b o:Nat}{arr:Array Value}{e:TypeId}(a:w.heap[b]?=some (.cells arr e (0,0))):w.frozen? ⟨b,o,none⟩=false:=by simp[World.frozen?,a]
set_option maxHeartbeats 3000000 in
theorem zX1 {w:World}{blk:Nat}{u:Value}{c:Cur}{K0:zbb}{r:Ans}(N:Nat)(b5:∃e,w.heap[blk]?=some (.cells #[u,.int .i64 c.i,.int .i64 c.h] e (0,0)))(hu:Rep false w u (.s .u8 c.b) K0)(hK:∀x,K0 x->x<w.heap.size/\x≠blk)(hE:zoD N c=some r) :
 Calls Tryz.prog 156 #[.pointer (some ⟨blk,0,none⟩)] w fun e p=>∃c2 l v Kr,r=AV.agg (zbY c2)::[aS (.sl .int) l]/\e = .returned v/\Cw w blk u c2 p/\Rep false p v (.s (.sl .int) l) Kr/\(∀x,Kr x->w.heap.size<=x/\x<p.heap.size):=by
 unfold zoD at hE;cases hm:ziG c 3 with
 |false=>rw[hm]at hE;cases hE
 |true=>
 cases K:zA (zzM c) 8 with
 |false=>rw[hm,K]at hE;cases hE
 |true=>
 rw[hm,K,cT,cT]at hE;have a7:∀{p:World} {O:Cur},Cw w blk u O p->O.b=c.b->Rep false p u (.s .u8 O.b) K0/\∀x,K0 x->x<p.heap.size/\x≠blk:=by intro p O h e;rw[e];exact⟨hu.frame (fun x d=>h.keep x (hK x d).1 (hK x d).2),fun x d=>⟨jM (hK x d).1 h.size,(hK x d).2⟩⟩
 have hM:=(zz9 hm).2.2 (by omega) (by omega)
 have a8:(zeS c).length=3:=by have:=hM.1;unfold ln at this;unfold zeS;omega
 have h5:=(zh1 K).2.2 (by omega)
 obtain⟨k,hk⟩:∃k,zl (zzM c) 8=k:=⟨_,rfl⟩;have f1:z1d c=k:=hk;rw[f1]at hE
 go_enter Tryz.func156,Tryz.ntmps156
 go_wp2_with fail
 refine(z6Y b5 hu hK hm).mono ?_
 rintro e L ⟨v,K1,rfl,F,b3,m⟩
 have b3:Rep true L v (.s (.sl .int) (zeS c)) K1:=b3;have F:Cw w blk u (zzM c) L:=F;obtain⟨E,t,a3,d7,e0,V,Kc,rfl,c3,g9,d1,Z,G,e9,hV,c1⟩:=z4H b3 a8;have h3:blk<w.heap.size:=by obtain⟨e,he⟩:=b5;exact(qQ.1 he).1
 have e5:E≠blk:=by have:=(m E Z).1;omega
 have cellAt:∀{p:World} {O:Cur},Cw L blk u O p->p.heap[E]?=some (.cells d7 e0 (0,0)):=fun h=>(h.keep E (m E Z).2 e5).trans c3
 go_wp2_with fail
 obtain⟨g1,f2⟩:=a7 F rfl;refine(ztg F.cur g1 f2 K).mono ?_;rw[hk]
 rintro e X ⟨rfl,B⟩
 have B:Cw L blk u (zh6 c) X:=B;obtain⟨g2,f3⟩:=a7 (F.trans B) rfl;have g0:=B.size;have g8:w.heap.size<=E/\E<L.heap.size:=m E Z
 have b2:∀{p:World} (i:Nat) (x:List Int),(∀b,Kc i b->b<L.heap.size->b≠blk->b≠E->p.heap[b]?=L.heap[b]?)->i<3->(zeS c)[i]?=some x->Rep false p (V i) (.s .int x) (Kc i)/\∀y,Kc i y->w.heap.size<=y/\y<L.heap.size:=by intro p i x hf P d;refine⟨((c1 i x d).frame (fun y S=>?_)).ro,fun y S=>m y (G i y P S).1⟩;have:=m y (G i y P S).1;exact hf y S this.2 (by omega) (G i y P S).2
 go_wp2_with fail
 .have h0:ieq k 0=true:=by assumption
  rw[h0,cT]at hE;cases J:zA (zh6 c) 3 with
  |false=>rw[J]at hE;cases hE
  |true=>
  cases b4:zA (zto c) 4 with
  |false=>rw[J,b4]at hE;cases hE
  |true=>
   rw[J,b4,cT,cT]at hE;have hj:=(zh1 J).2.2 (by omega);obtain⟨j,a0⟩:=uZ hj.1;have c8:z1c c=(j:Int):=a0;have hn:=(zh1 b4).2.2 (by omega);obtain⟨n,c9⟩:=uZ hn.1;have f8:l04n c=(n:Int):=c9;rw[c8,f8]at hE;rw[a0]at hj;rw[c9]at hn;have e6:j<3:=(by omega);have h6:n<4:=(by omega);obtain⟨R0,c0⟩:∃R0,(zeS c)[0]?=some R0:=⟨_,qB (by omega)⟩;have e2:R0.length=4:=hM.2 R0 (qK c0);obtain⟨f,a,g,T,e1,f0,c4,c6,a9,D,W⟩:=zWo (c1 0 R0 c0) e2;have Q:∀{p:World} {O:Cur},Cw L blk u O p->p.cell? ⟨E,t,none⟩=some (.slice (some ⟨f,a,none⟩) 4 g):=fun h=>(by have:=hV 0 (by omega);rw[j5,f0] at this;rw[cell_of_block (cellAt h)];exact this);have b7:∀{p:World} {O:Cur},Cw L blk u O p->p.cell? ⟨E,t+j,none⟩=some (V j)/\p.frozen? ⟨E,t+j,none⟩=false:=fun h=>by rw[cell_of_block (cellAt h)];exact⟨hV j e6,zvQ (cellAt h)⟩
   have d8:∀{I:World},Cw L blk u (z1a c) I->∃c2 l v Kr,r=AV.agg (zbY c2)::[aS (.sl .int) l]/\Ending.returned (.slice (some ⟨E,t,none⟩) 3 a3) = .returned v/\Cw w blk u c2 (I.setCell ⟨E,t+j,none⟩ (.slice (some ⟨f,a,none⟩) n g))/\Rep false (I.setCell ⟨E,t+j,none⟩ (.slice (some ⟨f,a,none⟩) n g)) v (.s (.sl .int) l) Kr/\
    (∀x,Kr x->w.heap.size<=x/\x<(I.setCell ⟨E,t+j,none⟩ (.slice (some ⟨f,a,none⟩) n g)).heap.size):=by
    intro I h4;have hz:=h4.size;have a6:=m f (G 0 f (by omega) D).1
    have U:f≠blk:=by omega
    have a5:f≠E:=(G 0 f (by omega) D).2
    have ho:∀b,b≠E->(I.setCell ⟨E,t+j,none⟩ (.slice (some ⟨f,a,none⟩) n g)).heap[b]?=I.heap[b]?:=fun b K=>heap_setCell_other I _ b _ K;have d0:=heap_setCell_same I E (t+j) d7 e0 (.slice (some ⟨f,a,none⟩) n g) (cellAt h4);have A:=F.trans h4;refine⟨_,_,_,K1,(Option.some.inj hE).symm,rfl,⟨A.os,A.tape,A.output,by rw[World.size_setCell];exact A.size,fun b K hn=>(ho b (by omega)).trans (A.keep b K hn),by obtain⟨e,he⟩:=A.cur;exact⟨e,(ho blk (fun h=>e5 h.symm)).trans he⟩⟩,?_,fun x d=>⟨(m x d).1,by rw[World.size_setCell];have:=m x d;omega⟩⟩
    have c7:ix (zeS c) 0 []=R0:=by unfold ix;simp[List.getD,c0]
    have a1:(up (zeS c) (j:Int) (tk (ix (zeS c) 0 []) (n:Int))).length=3:=by rw[ze4];exact a8
    have:=zJs d0 (l:=up (zeS c) (j:Int) (tk (ix (zeS c) 0 []) (n:Int))) (by omega) (cap:=a3) (off:=t) (by omega) (by simpa using d1) (fun i=>if i=j then .slice (some ⟨f,a,none⟩) n g else V i) Z (fun i P=>by
     rw[a1]at P;rw[kG]
     by_cases M:i=j
     .subst M;rw[if_pos rfl,if_pos (by omega),if_pos rfl]
     .rw [if_neg (by omega),if_neg M]
      exact hV i P) (fun i x d=>by
     have P:i<3:=by rw[<- a1];exact(qA.1 d).1
     unfold up at d;rw[jB]at d
     by_cases M:i=j
     .subst M;rw[kI,if_pos rfl,if_pos (by omega),c7]at d
      cases d;refine⟨fun x=>x=f,?_,fun y S=>by rw[S];exact(G 0 f (by omega) D).1⟩
      have hl:(tk R0 (n:Int)).length=n:=by simp[tk];omega
      have:=zJr (o:=false) (w:=I.setCell ⟨E,t+i,none⟩ (.slice (some ⟨f,a,none⟩) n g)) (b:=f) (off:=a) (cap:=g) (arr:=T) (e:=e1) ((ho f a5).trans ((h4.keep f a6.2 U).trans c4)) (l:=tk R0 (n:Int)) (by omega) (by omega) a9 (fun q z hq=>by
       unfold tk at hq;rw[jJ]at hq;split at hq
       .exact W q z hq
       .cases hq)
      rw[hl] at this;rw[if_pos rfl];exact this
     .rw [kI,if_neg (by omega)]at d
      rw[if_neg M];exact⟨Kc i,(b2 i x (fun b _ K hn c3=>(ho b c3).trans (h4.keep b K hn)) P d).1,fun y S=>(G i y P S).1⟩)
    rw[a1] at this;exact this
   have Y:Cw L blk u (zh6 c) X.drew:=B.drew;obtain⟨e8,e7⟩:=a7 (F.trans Y) rfl;have d2:=Q Y
   go_region_with (first
    |(go_at_call_of 150 (Value.int IntKind.i64 3);refine(ztg (c:=zh6 c) (n:=3) Y.cur e8 e7 J).mono ?_;rw[a0];rintro e w3 ⟨rfl,H⟩;have H:Cw X.drew blk u (zto c) w3:=H;have C:=Y.trans H;have d3:=Q C;obtain⟨g3,f4⟩:=a7 (F.trans C) rfl)
    |(go_at_call_of 150 (Value.int IntKind.i64 4);refine(ztg (c:=zto c) (n:=4) C.cur g3 f4 b4).mono ?_;rw[c9];rintro e I ⟨rfl,b8⟩;have b8:Cw w3 blk u (z1a c) I:=b8;have b9:=C.trans b8;have d4:=Q b9;obtain⟨d5,d6⟩:=b7 b9))
   (all_goals go_wp2);(all_goals go_ret);all_goals exact d8 b9
 .have h0:ieq k 0=false:=by assumption
  have h1:ieq k 1=true:=by assumption
  rw[h0,h1,cF,cT]at hE;cases c5:zbs (zh6 c) [-1,100] with
  |false=>rw[c5]at hE;cases hE
  |true=>
   rw[c5,cT]at hE;obtain⟨R1,a4⟩:∃R1,(zeS c)[1]?=some R1:=⟨_,qB (by omega)⟩;have e3:R1.length=4:=hM.2 R1 (qK a4);obtain⟨f,a,g,T,e1,e4,c4,c6,a9,D,W⟩:=zWo (c1 1 R1 a4) e3;have a6:=m f (G 1 f (by omega) D).1;have U:f≠blk:=(by omega);have a5:f≠E:=(G 1 f (by omega) D).2;have R:∀{p:World} {O:Cur},Cw L blk u O p->p.cell? ⟨E,t+1,none⟩=some (.slice (some ⟨f,a,none⟩) 4 g):=fun h=>(by have:=hV 1 (by omega);rw[e4] at this;rw[cell_of_block (cellAt h)];exact this);have a2:∀{p:World} {O:Cur},Cw L blk u O p->p.heap[f]?=some (.cells T e1 (0,0)):=fun h=>(h.keep f a6.2 U).trans c4;have b6:∀{p:World} {O:Cur},Cw L blk u O p->p.cell? ⟨f,a+2,none⟩=some (.int .i64 R1[2])/\p.frozen? ⟨f,a+2,none⟩=false:=fun h=>by rw[cell_of_block (a2 h)];exact⟨W 2 _ (qB (by omega)),zvQ (a2 h)⟩
   have Y:Cw L blk u (zh6 c) X.drew:=B.drew;have d2:=R Y;have d9:∀{I:World},Cw L blk u (z1b c) I->∃c2 l v Kr,r=AV.agg (zbY c2)::[aS (.sl .int) l]/\Ending.returned (.slice (some ⟨E,t,none⟩) 3 a3) = .returned v/\Cw w blk u c2 (I.setCell ⟨f,a+2,none⟩ (.int .i64 (zuD c)))/\Rep false (I.setCell ⟨f,a+2,none⟩ (.int .i64 (zuD c))) v (.s (.sl .int) l) Kr/\
    (∀x,Kr x->w.heap.size<=x/\x<(I.setCell ⟨f,a+2,none⟩ (.int .i64 (zuD c))).heap.size):=by
    intro I h4;have hz:=h4.size;have ho:∀b,b≠f->(I.setCell ⟨f,a+2,none⟩ (.int .i64 (zuD c))).heap[b]?=I.heap[b]?:=fun b K=>heap_setCell_other I _ b _ K;have d0:=heap_setCell_same I f (a+2) T e1 (.int .i64 (zuD c)) (a2 h4);have A:=F.trans h4;refine⟨_,_,_,K1,(Option.some.inj hE).symm,rfl,⟨A.os,A.tape,A.output,by rw[World.size_setCell];exact A.size,fun b K hn=>(ho b (by omega)).trans (A.keep b K hn),by obtain⟨e,he⟩:=A.cur;exact⟨e,(ho blk (fun h=>U h.symm)).trans he⟩⟩,?_,fun x d=>⟨(m x d).1,by rw[World.size_setCell];have:=m x d;omega⟩⟩
    have c7:ix (zeS c) 1 []=R1:=by unfold ix;show (zeS c).getD 1 []=R1;simp[List.getD,a4]
    have a1:(up (zeS c) 1 (up (ix (zeS c) 1 []) 2 (zuD c))).length=3:=by rw[ze4];exact a8
    have:=zJs ((ho E (fun h=>a5 h.symm)).trans (cellAt h4)) (l:=up (zeS c) 1 (up (ix (zeS c) 1 []) 2 (zuD c))) (by omega) (cap:=a3) (off:=t) (by omega) d1 V Z (fun i P=>hV i (by omega)) (fun i x d=>by
     have P:i<3:=by rw[<- a1];exact(qA.1 d).1
     unfold up at d;rw[jB]at d
     by_cases M:i=1
     .subst M;rw[show (1:Int).toNat=1 from rfl,if_pos rfl,if_pos (by omega),c7]at d
      cases d;refine⟨fun x=>x=f,?_,fun y S=>by rw[S];exact(G 1 f (by omega) D).1⟩
      have hl:(List.set R1 (2:Int).toNat (zuD c)).length=4:=by simp;omega
      have:=zJr (o:=false) (w:=I.setCell ⟨f,a+2,none⟩ (.int .i64 (zuD c))) (b:=f) (off:=a) (cap:=g) d0 (l:=List.set R1 (2:Int).toNat (zuD c)) (by omega) (by omega) (by simpa using a9) (fun q z hq=>by
       rw[jB]at hq;rw[kG]
       by_cases f9:q=2
       .subst f9;rw[show (2:Int).toNat=2 from rfl,if_pos rfl,if_pos (by omega)]at hq
        cases hq;rw[if_pos rfl,if_pos (by omega)]
       .rw [show (2:Int).toNat=2 from rfl,if_neg (by omega)]at hq
        rw[if_neg (by omega)]
        exact W q z hq)
      rw[hl] at this;rw[e4];exact this
     .rw [show (1:Int).toNat=1 from rfl,if_neg (by omega)]at d
      refine⟨Kc i,(b2 i x (fun b f6 K hn g7=>?_) P d).1,fun y S=>(G i y P S).1⟩;exact(ho b (fun e=>M (e9 i 1 b P (by omega) f6 (by rw[e];exact D)))).trans (h4.keep b K hn))
    rw[a1] at this;exact this
   have hA:Cw L blk u (zh6 c) (X.alloc (Obj.cells #[Value.int .i64 (-1),Value.int .i64 100] 3)).drew:=(B.alloc B.lt _).drew;obtain⟨g4,f5⟩:=a7 (F.trans hA) rfl;have dA:=R hA;have g5:Rep false (X.alloc (Obj.cells #[Value.int .i64 (-1),Value.int .i64 100] 3)).drew (.slice (some ⟨X.heap.size,0,none⟩) 2 2) (.s .int [-1,100]) (fun x=>x=X.heap.size):=by
    have hh:(X.alloc (Obj.cells #[Value.int .i64 (-1),Value.int .i64 100] 3)).drew.heap[X.heap.size]?=some (.cells #[Value.int .i64 (-1),Value.int .i64 100] 3 (0,0)):=heap_alloc_new X _;exact zJr (o:=false) hh (l:=[-1,100]) (cap:=2) (off:=0) (by decide) (by decide) (by decide) (fun i x d=>by
     match i,d with
     | 0,d=>cases d;rfl
     | 1,d=>cases d;rfl
     |i+2,d=>simp at d)
   go_region_with (first
    |(go_at_call_of 86 (Value.slice (some ⟨X.heap.size,0,none⟩) 2 2);refine(z4B (c:=zh6 c) (l:=[-1,100]) hA.cur g4 f5 c5 g5 (fun x d=>by rw[d];exact⟨by simp,Nat.ne_of_gt B.lt⟩)).mono ?_;rintro e w3 ⟨rfl,H⟩;have H:Cw (X.alloc (Obj.cells #[Value.int .i64 (-1),Value.int .i64 100] 3)).drew blk u (z1b c) w3:=H;have C:=hA.trans H;have d3:=R C;obtain⟨d4,d5⟩:=b6 C))
   (all_goals go_wp2);(all_goals go_ret);all_goals exact d9 C
 .have h0:ieq k 0=false:=by assumption
  have h1:ieq k 1=false:=by assumption
  have h2:ieq k 2=true:=by assumption
  rw[h0,h1,h2,cF,cF,cT]at hE;cases J:zA (zh6 c) 3 with
  |false=>rw[J]at hE;cases hE
  |true=>
   rw[J,cT]at hE;have hj:=(zh1 J).2.2 (by omega);obtain⟨j,a0⟩:=uZ hj.1;have c8:z1c c=(j:Int):=a0;rw[c8]at hE;refine(ztg B.cur g2 f3 J).mono ?_;rw[a0];rintro e w3 ⟨rfl,H⟩;have H:Cw X blk u (zto c) w3:=H;go_wp2;go_ret;have e6:j<3:=(by omega);have f7:(tk (zeS c) (j:Int)).length=j:=(by simp[tk];omega);have C:=B.trans H;refine⟨_,_,_,K1,(Option.some.inj hE).symm,rfl,F.trans C,?_,fun x d=>⟨(m x d).1,by have:=m x d;have:=C.size;omega⟩⟩
   have:=zJs (cellAt C) (l:=tk (zeS c) (j:Int)) (by omega) (cap:=a3) (off:=t) (by omega) d1 V Z (fun i P=>hV i (by omega)) (fun i x d=>by
    have P:i<(tk (zeS c) (j:Int)).length:=(qA.1 d).1;have g6:(zeS c)[i]?=some x:=by unfold tk at d;rw[jJ]at d;split at d;{exact d};{cases d}
    exact⟨Kc i,(b2 i x (fun b _ K hn _=>C.keep b K hn) (by omega) g6).1,fun y S=>(G i y (by omega) S).1⟩)
   rw[f7] at this;exact this
 .have h0:ieq k 0=false:=by assumption
  have h1:ieq k 1=false:=by assumption
  have h2:ieq k 2=false:=by assumption
  rw[h0,h1,h2,cF,cF,cF]at hE
  go_ret
  exact⟨_,_,_,K1,(Option.some.inj hE).symm,rfl,F.trans B,(b3.frame (fun x d=>B.keep x (m x d).2 (by have:=m x d;omega))).ro,fun x d=>⟨(m x d).1,by have:=m x d;omega⟩⟩
theorem zU6 {c:Cur}(h:zbj c):zpO c=true:=by
 refine z1K c ⟨0,?_⟩;unfold zoD;have t:=zbcT h (a0:=3) (by omega) (by omega);have y:zbj (zzM c):=zbM h (z1N _ _);have k:zbj (zh6 c):=zbM h (zI _ _);have z:zbj (zto c):=zbM h (zI _ _);have p:=(zz9 t).2.2 (by omega) (by omega);have A:(zeS c).length=3:=(by have:=p.1;unfold ln at this;unfold zeS;omega);have f:∀r∈zeS c,r.length<=4:=fun r f=>k7 (p.2 r f);have u:∀n,(ix (zeS c) n []).length<=4:=(by intro n;unfold ix List.getD;cases e:(zeS c)[n.toNat]? with|none=>simp|some r=>exact f r (qK e));have g:∀(n:Int) (r:List Int),r.length<=4->∀q∈up (zeS c) n r,q.length<=4:=by intro n r j q e;rcases qT e with e|rfl;{exact f q e};{exact j}
 have d:∀(s:Cur) (l:List (List Int)),s.b=c.b->0<=s.i->l.length<=3->(∀r∈l,r.length<=4)->Ends (fun a=>∃s m,a=(AV.agg (zbY s)::[aS (.sl .int) m])/\(s.b=c.b/\0<=s.i)/\(m.length<=3/\∀r∈m,r.length<=4)) (some (AV.agg (zbY s)::[aS (.sl .int) l])):=
  fun s l v w x j=>⟨_,rfl,s,l,rfl,⟨v,w⟩,x,j⟩
 exact zy t (zy (zbD y 8) (zbH (fun _=>zy (zbD k 3) (zy (zbD z 4) (d _ _ rfl (zI _ _) (by rw[ze4];omega) (g _ _ (qV (zDt _ _) (u _))))))
  (fun _=>zbH (fun _=>zy (zew k (by simp)) (d _ _ rfl (zbX _ _) (by rw[ze4];omega) (g _ _ (by rw[ze4];exact u _)))) (fun _=>zbH (fun _=>zy (zbD k 3) (d _ _ rfl (zI _ _) (qV (zDt _ _) (by omega)) (fun r e=>f r (j3 e)))) (fun _=>d _ _ rfl (zI _ _) (by omega) f)))))
theorem zOz:zbL Tryz.prog 156 [false,true,true] zsJ:=by
 refine⟨zjU (by kernel_rfl),?_⟩;intro w blk d e cs K T xs Ka U rs D P a4 k A X n W g;unfold zsJ rP0 at g;obtain⟨⟨p,q,r⟩,rfl,g⟩:=z4w g;obtain⟨rfl,R,rfl,rfl⟩:=zwa g;dsimp only at R ⊢;have hs:d.size=3:=P;have M:xs=[]:=List.eq_nil_of_length_eq_zero n.1;subst M;obtain⟨N,hE⟩:=(zMS R).1;have v1:=(k 1 _ (d[1]'(by omega)) rfl (jI _)).int_inv;have v2:=(k 2 _ (d[2]'(by omega)) rfl (jI _)).int_inv
 have m:d = #[d[0]'(by omega),.int .i64 q,.int .i64 r]:=by
  apply Array.ext;{exact hs}
  .intro i E hi2
   match i,E with
   | 0,_=>rfl
   | 1,_=>exact v1
   | 2,_=>exact v2
   |i+3,h=>omega
 have hu:=k 0 _ (d[0]'(by omega)) rfl (jI _);have f:Rep false w (d[0]'(by omega)) (.s .u8 p) (K 0):=hu;generalize d[0]'(by omega)=u at m f;subst m;refine(zX1 (c:=⟨p,q,r⟩) (u:=u) (K0:=K 0) N ⟨e,D⟩ f (fun x n=>A 0 x (show 0<3 by decide) n) hE).mono ?_;rintro e2 w' ⟨z,l,v,S,hr,rfl,y,Y,t⟩;have B:AV.agg (zbY (ziD ⟨p,q,r⟩))::[aS (.sl .int) (zqR ⟨p,q,r⟩)]=AV.agg (zbY z)::[aS (.sl .int) l]:=hr;simp only[List.cons.injEq,AV.agg.injEq,AV.one.injEq,and_true]at B;obtain⟨C,I⟩:=B;have I:zqR ⟨p,q,r⟩=l:=(by cases I;rfl);subst I;have O:ziD ⟨p,q,r⟩=z:=(by have C:=C;simp only[zbY,List.cons.injEq,CV.s.injEq,CV.i.injEq,true_and,and_true,heq_eq_eq]at C;obtain⟨F,G,H⟩:=C;generalize ziD ⟨p,q,r⟩=s at F G H;obtain⟨a1,a2,a3⟩:=s;obtain⟨b1,b2,b3⟩:=z;simp only at F G H;rw[F,G,H]);rw[O];obtain⟨V,J⟩:=y.cur;refine⟨y.os,y.tape,y.output,y.size,fun b D hn _=>y.keep b D hn,#[u,.int .i64 z.i,.int .i64 z.h],V,fun _ _=>False,[v],fun _=>S,J,rfl,rfl,?_,⟨rfl,fun i Q x a n=>?_⟩,rfl,fun j x _ h=>h.elim,fun i x E L=>⟨(t x L).2,?_,.inr (t x L).1⟩,fun i j x _ _ _ h=>h.elim,?_,fun i j x _ _ h=>h.elim⟩
 .intro j Q u' a f
  match j,a,f with
  | 0,a,f=>cases a;exact⟨fun h=>by simp[zbg]at h,fun _=>f⟩
  | 1,a,f=>cases a;cases f;rfl
  | 2,a,f=>cases a;cases f;rfl
  |j+3,a,f=>simp[zbY]at a
 .match i,a,n with
  | 0,a,n=>cases a;cases n;exact Y
  |i+1,a,n=>simp at n
 {have:=(qQ.1 D).1;have:=(t x L).1;omega};{intro i j Q x E ho Z a0 _;have h1:i<1:=(qA.1 E).1;have h2:j<1:=Z;omega}
def z9P:zcR:=[(156,([false,true,true],zsJ))]++z9O
theorem zWe:zb7 z9P:=zcs z7h (by
 intro x a;simp only[qG,qN,or_false]at a;rcases a with rfl
 .exact zOz)
end
def zbcH:zZ:=[(195,zms),(224,zjq)]++z8A
theorem zHS:zN zbcH:=zh znQ (zh zux zek)
theorem zEy {g:Type}{c e:Cur}(h:zbj c)(j:0<=e.i){P:g->Prop}{q:Int}(A:0<q)(M:q<=1000){fc:Cur->Bool}{fs:Cur->Cur}{fv:Cur->g}(E:∀{c:Cur},zbj c->fc c=true)(H:∀c,0<=(fs c).i)(hg:∀{c:Cur},zbj c->P (fv c)){G:Ans->Prop}{l0:List g}{z:Nat}(O:l0.length<=z)(I:z<=1000)(m:∀x∈l0,P x){p:Type}(S:Nat->Int×Int×Int×List g->p){F:(p->OA)->p->OA}(D:∀rec t i k l,∃r,F rec (S 0 (t,i,k,l))=(bif zA ⟨c.b,i,k⟩ q then (bif ilt t (zl ⟨c.b,i,k⟩ q) then (bif fc { zf ⟨c.b,i,k⟩ q with b:=c.b } then (bif few (ln (ap l [fv { zf ⟨c.b,i,k⟩ q with b:=c.b }])) then
        rec (S 0 (zL .i64 t 1,(fs {zf ⟨c.b,i,k⟩ q with b:=c.b}).i,(fs {zf ⟨c.b,i,k⟩ q with b:=c.b}).h,ap l [fv {zf ⟨c.b,i,k⟩ q with b:=c.b}])) else none) else none) else some r) else none)/\(ln l<=z+q->(∀x∈l,P x)->G r)):Ends G (iter 1002 F (S 0 (0,e.i,e.h,l0))):=by
 refine zmW (fun n s=>∃t i k l,s=S 0 (t,i,k,l)/\t+(n:Int)=1000/\0<=t/\t<=q/\0<=i/\(∀x∈l,P x)/\ln l<=z+t) ?_ 1002 1000 _ ⟨0,e.i,e.h,l0,rfl,rfl,kU 0,by omega,j,m,by unfold ln;omega⟩ (by omega)
 rintro n s rec ⟨t,i,k,l,rfl,J,B,K,C,u,L⟩ f
 obtain⟨r,hF1,hF2⟩:=D rec t i k l;rw[hF1];have a:zbj ⟨c.b,i,k⟩:=zbM h C;have d:=zgg a A;have v:zbj {zf ⟨c.b,i,k⟩ q with b:=c.b}:=zbM h (zI _ _);refine zy (zbD a _) (zbH (fun w=>?_) (fun w=>?_))
 .have hlt:t<zl ⟨c.b,i,k⟩ q:=qE w;have N:=zhO (y:=1) B (by omega) (by omega) (by omega)
  refine zy (E v) (zy (zln (by rw[zh7];omega)) (f (n-1) _ (by omega) ⟨_,_,_,_,rfl,by omega,by omega,by omega,H _,?_,by rw[zh7];omega⟩))
  intro x d;rcases jK.1 d with d|d
  .exact u x d
  .rw [qF.1 d];exact hg v
 .exact zuo (hF2 (by omega) u)
theorem zbb4 {c d:Cur}(h:zbj c)(f:0<=d.i){m q x:Int}(t:0<q)(g:0<=m)(D:m+q<=1000){G:Ans->Prop}{l0:List Int}(B:ln l0<=m+q){j:Type}(S:Nat->Int×Int×List Int->j){F:(j->OA)->j->OA}(w:∀rec i k l,∃r,F rec (S 0 (i,k,l))=(bif zA ⟨c.b,i,k⟩ q then (bif ilt (ln l) (zL .i64 m (zl ⟨c.b,i,k⟩ q)) then (bif few (ln (ap l [x])) then
        rec (S 0 ((zf ⟨c.b,i,k⟩ q).i,(zf ⟨c.b,i,k⟩ q).h,ap l [x])) else none) else some r) else none)/\(ln l<=m+q->G r)):Ends G (iter 1002 F (S 0 (d.i,d.h,l0))):=by
 refine zmW (fun n s=>∃i k l,s=S 0 (i,k,l)/\ln l+(n:Int)=1000/\0<=i/\ln l<=m+q) ?_ 1002 (1000-ln l0).toNat _ ⟨d.i,d.h,l0,rfl,by unfold ln at *;omega,f,B⟩ (by unfold ln at *;omega)
 rintro n s rec ⟨i,k,l,rfl,C,u,v⟩ e
 obtain⟨r,hF1,hF2⟩:=w rec i k l;rw[hF1];have a:zbj ⟨c.b,i,k⟩:=zbM h u;have A:=zgg a t;have z:=zhO (x:=m) (y:=zl ⟨c.b,i,k⟩ q) g (by omega) A.1 (by omega)
 refine zy (zbD a _) (zbH (fun p=>?_) (fun p=>?_))
 .have hlt:ln l<zL .i64 m (zl ⟨c.b,i,k⟩ q):=qE p;rw[z]at hlt;exact zy (zln (by rw[zh7];omega)) (e (n-1) _ (by unfold ln at *;omega) ⟨_,_,_,rfl,by rw[zh7];omega,zI _ _,by rw[zh7];omega⟩)
 .exact zuo (hF2 v)
def GuS (g:Guest):Prop:=g.Prog.length<=13/\g.Written.length<=4/\g.Live.length<=4/\g.Seen.length<=50
theorem zEh {c:Cur}(h:zbj c):(zdG c 4 8).length<=4:=by have:=(zbbs h (n:=4) (m:=8) (by omega) (by omega) (by omega) (by omega)).1;unfold ln at this;omega
def zt9 (N:Nat)(c:Cur)  : OA :=
 let C:=({ (zbe c) with b:=c.b}:Cur);let v:=(zdG C 4 8);let d:=(zcr (zb8 c));let y9:=({ (zJ C 4 8) with b:=c.b}:Cur);let x:=(zdG y9 4 8);let y2:=({ (zJ y9 4 8) with b:=c.b}:Cur);let w:=(zl y2 100);let B:=({ (zf y2 100) with b:=c.b}:Cur);let y:=(zl B 4);let y0:=({ (zf B 4) with b:=c.b}:Cur);let I:=({ (zch y0) with b:=c.b}:Cur);let e:=(zcD y0);let A:=({ (zS I 3) with b:=c.b}:Cur);let H:=({ (zf A 256) with b:=c.b}:Cur);let r:=({ (zS A 4) with b:=c.b}:Cur);let u:=({ (zeH r) with b:=c.b}:Cur);let q:=({ (zS H 4) with b:=c.b}:Cur);let t:=({ (zeH q) with b:=c.b}:Cur); (oN (zhx c) (oN (zjy (zb8 c)) (oN (zh2 C 4 8) (oN (zh2 y9 4 8) (oN (zA y2 100) (oN (zA B 4) (oN (zkf y0) (oN (zcT I 3) (cond (zc9 I 3) (oN (zA A 256) (oN (zcT H 4) (cond (zc9 H 4) (oN (zhy q) (oN (zcT t 12) (iter (σ:=(Int×(Int×(Int×(Int×(Int×(Int×(Int×(Bool×(Int×(Int×(Int×(Bool×(Int×(Bool×(Int×(Int×(Int×(Int×(Bool×(Int×(Int×(Int×(Bool×(Int×(Bool×((List Int)×(lI×(lS×(lS×((List Int)×(lI×(lS×(lS×((List Int)×Unit))))))))))))))))))))))))))))))))))) N (fun z a=>let d6:=a.2.2.2.2.2.2.2.2.2.2.2.2.2.2.1;let d2:=a.2.2.2.2.2.2.2.2.2.2.2.2.2.2.2.1;let c8:=a.2.2.2.2.2.2.2.2.2.2.2.2.2.2.2.2.1;let c4:=a.2.2.2.2.2.2.2.2.2.2.2.2.2.2.2.2.2.1;let c0:=a.2.2.2.2.2.2.2.2.2.2.2.2.2.2.2.2.2.2.1;let b6:=a.2.2.2.2.2.2.2.2.2.2.2.2.2.2.2.2.2.2.2.1;let b2:=a.2.2.2.2.2.2.2.2.2.2.2.2.2.2.2.2.2.2.2.2.1;let a8:=a.2.2.2.2.2.2.2.2.2.2.2.2.2.2.2.2.2.2.2.2.2.1;let a4:=a.2.2.2.2.2.2.2.2.2.2.2.2.2.2.2.2.2.2.2.2.2.2.1;let a0:=a.2.2.2.2.2.2.2.2.2.2.2.2.2.2.2.2.2.2.2.2.2.2.2.1;let W:=a.2.2.2.2.2.2.2.2.2.2.2.2.2.2.2.2.2.2.2.2.2.2.2.2.1;let S:=a.2.2.2.2.2.2.2.2.2.2.2.2.2.2.2.2.2.2.2.2.2.2.2.2.2.2.2.2.2.2.1;let O:=a.2.2.2.2.2.2.2.2.2.2.2.2.2.2.2.2.2.2.2.2.2.2.2.2.2.2.2.2.2.2.2.1;let J:=a.2.2.2.2.2.2.2.2.2.2.2.2.2.2.2.2.2.2.2.2.2.2.2.2.2.2.2.2.2.2.2.2.1;let D:=a.2.2.2.2.2.2.2.2.2.2.2.2.2.2.2.2.2.2.2.2.2.2.2.2.2.2.2.2.2.2.2.2.2.1;let y4:=a.2.2.2.2.2.2.2.2.2.2.2.2.2.2.2.2.2.2.2.2.2.2.2.2.2.1;let l:=(⟨y4,a.2.1,a.2.2.1⟩:Cur);let f:=({ (zf l 4) with b:=y4}:Cur); (oN (zA l 4) (cond (ilt a.1 (zl l 4)) (oN (zA f 100) (oN (few (ln (ap D [(zl f 100)]))) (z ((zL .i64 a.1 1),((zf f 100).i,((zf f 100).h,(a.2.2.2.1,(a.2.2.2.2.1,(a.2.2.2.2.2.1,(a.2.2.2.2.2.2.1,(a.2.2.2.2.2.2.2.1,(a.2.2.2.2.2.2.2.2.1,(a.2.2.2.2.2.2.2.2.2.1,(a.2.2.2.2.2.2.2.2.2.2.1,(a.2.2.2.2.2.2.2.2.2.2.2.1,(a.2.2.2.2.2.2.2.2.2.2.2.2.1,(a.2.2.2.2.2.2.2.2.2.2.2.2.2.1,(d6,(d2,(c8,(c4,(c0,(b6,(b2,(a8,(a4,(a0,(W,(y4,(a.2.2.2.2.2.2.2.2.2.2.2.2.2.2.2.2.2.2.2.2.2.2.2.2.2.2.1,(a.2.2.2.2.2.2.2.2.2.2.2.2.2.2.2.2.2.2.2.2.2.2.2.2.2.2.2.1,(a.2.2.2.2.2.2.2.2.2.2.2.2.2.2.2.2.2.2.2.2.2.2.2.2.2.2.2.2.1,(a.2.2.2.2.2.2.2.2.2.2.2.2.2.2.2.2.2.2.2.2.2.2.2.2.2.2.2.2.2.1,(S,(O,(J,((ap D [(zl f 100)]),()))))))))))))))))))))))))))))))))))))) (some [(.agg [(.s .u8 y4),(.i .i64 (zf l 4).i),(.i .i64 (zf l 4).h)]),(aT .guest (⟨S,d6,d2,O,J,⟨c8,c4,c0⟩,b6,⟨b2,a8,a4,a0⟩,W,D⟩:Guest))])))) (0,((zS t 12).i,((zS t 12).h,(0,(0,(0,(0,(false,(0,(0,(0,(false,(0,(false,(w,(y,(e.Traps,(e.Post,(e.Open,((zl A 256),((zcd q).Kind,((zcd q).Page,((zcd q).Write,((zcd q).N,((zc9 t 12),(c.b,([],([],([],([],(d.Prog,(v,(x,(d.Seen,()))))))))))))))))))))))))))))))))))))) (oN (zcT q 12) (iter (σ:=(Int×(Int×(Int×(Int×(Int×(Int×(Int×(Bool×(Int×(Int×(Int×(Bool×(Int×(Bool×(Int×(Int×(Int×(Int×(Bool×(Int×(Int×(Int×(Bool×(Int×(Bool×((List Int)×(lI×(lS×(lS×((List Int)×(lI×(lS×(lS×((List Int)×Unit))))))))))))))))))))))))))))))))))) N (fun z a=>let d7:=a.2.2.2.2.2.2.2.2.2.2.2.2.2.2.1;let d3:=a.2.2.2.2.2.2.2.2.2.2.2.2.2.2.2.1;let c9:=a.2.2.2.2.2.2.2.2.2.2.2.2.2.2.2.2.1;let c5:=a.2.2.2.2.2.2.2.2.2.2.2.2.2.2.2.2.2.1;let c1:=a.2.2.2.2.2.2.2.2.2.2.2.2.2.2.2.2.2.2.1;let b7:=a.2.2.2.2.2.2.2.2.2.2.2.2.2.2.2.2.2.2.2.1;let b3:=a.2.2.2.2.2.2.2.2.2.2.2.2.2.2.2.2.2.2.2.2.1;let a9:=a.2.2.2.2.2.2.2.2.2.2.2.2.2.2.2.2.2.2.2.2.2.1;let a5:=a.2.2.2.2.2.2.2.2.2.2.2.2.2.2.2.2.2.2.2.2.2.2.1;let a1:=a.2.2.2.2.2.2.2.2.2.2.2.2.2.2.2.2.2.2.2.2.2.2.2.1;let X:=a.2.2.2.2.2.2.2.2.2.2.2.2.2.2.2.2.2.2.2.2.2.2.2.2.1;let T:=a.2.2.2.2.2.2.2.2.2.2.2.2.2.2.2.2.2.2.2.2.2.2.2.2.2.2.2.2.2.2.1;let P:=a.2.2.2.2.2.2.2.2.2.2.2.2.2.2.2.2.2.2.2.2.2.2.2.2.2.2.2.2.2.2.2.1;let K:=a.2.2.2.2.2.2.2.2.2.2.2.2.2.2.2.2.2.2.2.2.2.2.2.2.2.2.2.2.2.2.2.2.1;let E:=a.2.2.2.2.2.2.2.2.2.2.2.2.2.2.2.2.2.2.2.2.2.2.2.2.2.2.2.2.2.2.2.2.2.1;let y5:=a.2.2.2.2.2.2.2.2.2.2.2.2.2.2.2.2.2.2.2.2.2.2.2.2.2.1;let m:=(⟨y5,a.2.1,a.2.2.1⟩:Cur);let g:=({ (zf m 4) with b:=y5}:Cur); (oN (zA m 4) (cond (ilt a.1 (zl m 4)) (oN (zA g 100) (oN (few (ln (ap E [(zl g 100)]))) (z ((zL .i64 a.1 1),((zf g 100).i,((zf g 100).h,(a.2.2.2.1,(a.2.2.2.2.1,(a.2.2.2.2.2.1,(a.2.2.2.2.2.2.1,(a.2.2.2.2.2.2.2.1,(a.2.2.2.2.2.2.2.2.1,(a.2.2.2.2.2.2.2.2.2.1,(a.2.2.2.2.2.2.2.2.2.2.1,(a.2.2.2.2.2.2.2.2.2.2.2.1,(a.2.2.2.2.2.2.2.2.2.2.2.2.1,(a.2.2.2.2.2.2.2.2.2.2.2.2.2.1,(d7,(d3,(c9,(c5,(c1,(b7,(b3,(a9,(a5,(a1,(X,(y5,(a.2.2.2.2.2.2.2.2.2.2.2.2.2.2.2.2.2.2.2.2.2.2.2.2.2.2.1,(a.2.2.2.2.2.2.2.2.2.2.2.2.2.2.2.2.2.2.2.2.2.2.2.2.2.2.2.1,(a.2.2.2.2.2.2.2.2.2.2.2.2.2.2.2.2.2.2.2.2.2.2.2.2.2.2.2.2.1,(a.2.2.2.2.2.2.2.2.2.2.2.2.2.2.2.2.2.2.2.2.2.2.2.2.2.2.2.2.2.1,(T,(P,(K,((ap E [(zl g 100)]),()))))))))))))))))))))))))))))))))))))) (some [(.agg [(.s .u8 y5),(.i .i64 (zf m 4).i),(.i .i64 (zf m 4).h)]),(aT .guest (⟨T,d7,d3,P,K,⟨c9,c5,c1⟩,b7,⟨b3,a9,a5,a1⟩,X,E⟩:Guest))])))) (0,((zS q 12).i,((zS q 12).h,(0,(0,(0,(0,(false,(0,(0,(0,(false,(0,(false,(w,(y,(e.Traps,(e.Post,(e.Open,((zl A 256),(d.Exit.Kind,(d.Exit.Page,(d.Exit.Write,(d.Exit.N,((zc9 q 12),(c.b,([],([],([],([],(d.Prog,(v,(x,(d.Seen,()))))))))))))))))))))))))))))))))))))))) (oN (zcT A 4) (cond (zc9 A 4) (oN (zhy r) (oN (zcT u 12) (iter (σ:=(Int×(Int×(Int×(Int×(Int×(Int×(Int×(Bool×(Int×(Int×(Int×(Bool×(Int×(Bool×(Int×(Int×(Int×(Int×(Bool×(Int×(Int×(Int×(Bool×(Int×(Bool×((List Int)×(lI×(lS×(lS×((List Int)×(lI×(lS×(lS×((List Int)×Unit))))))))))))))))))))))))))))))))))) N (fun z a=>let d8:=a.2.2.2.2.2.2.2.2.2.2.2.2.2.2.1;let d4:=a.2.2.2.2.2.2.2.2.2.2.2.2.2.2.2.1;let d0:=a.2.2.2.2.2.2.2.2.2.2.2.2.2.2.2.2.1;let c6:=a.2.2.2.2.2.2.2.2.2.2.2.2.2.2.2.2.2.1;let c2:=a.2.2.2.2.2.2.2.2.2.2.2.2.2.2.2.2.2.2.1;let b8:=a.2.2.2.2.2.2.2.2.2.2.2.2.2.2.2.2.2.2.2.1;let b4:=a.2.2.2.2.2.2.2.2.2.2.2.2.2.2.2.2.2.2.2.2.1;let b0:=a.2.2.2.2.2.2.2.2.2.2.2.2.2.2.2.2.2.2.2.2.2.1;let a6:=a.2.2.2.2.2.2.2.2.2.2.2.2.2.2.2.2.2.2.2.2.2.2.1;let a2:=a.2.2.2.2.2.2.2.2.2.2.2.2.2.2.2.2.2.2.2.2.2.2.2.1;let Y:=a.2.2.2.2.2.2.2.2.2.2.2.2.2.2.2.2.2.2.2.2.2.2.2.2.1;let U:=a.2.2.2.2.2.2.2.2.2.2.2.2.2.2.2.2.2.2.2.2.2.2.2.2.2.2.2.2.2.2.1;let Q:=a.2.2.2.2.2.2.2.2.2.2.2.2.2.2.2.2.2.2.2.2.2.2.2.2.2.2.2.2.2.2.2.1;let L:=a.2.2.2.2.2.2.2.2.2.2.2.2.2.2.2.2.2.2.2.2.2.2.2.2.2.2.2.2.2.2.2.2.1;let F:=a.2.2.2.2.2.2.2.2.2.2.2.2.2.2.2.2.2.2.2.2.2.2.2.2.2.2.2.2.2.2.2.2.2.1;let y6:=a.2.2.2.2.2.2.2.2.2.2.2.2.2.2.2.2.2.2.2.2.2.2.2.2.2.1;let n:=(⟨y6,a.2.1,a.2.2.1⟩:Cur);let j:=({ (zf n 4) with b:=y6}:Cur); (oN (zA n 4) (cond (ilt a.1 (zl n 4)) (oN (zA j 100) (oN (few (ln (ap F [(zl j 100)]))) (z ((zL .i64 a.1 1),((zf j 100).i,((zf j 100).h,(a.2.2.2.1,(a.2.2.2.2.1,(a.2.2.2.2.2.1,(a.2.2.2.2.2.2.1,(a.2.2.2.2.2.2.2.1,(a.2.2.2.2.2.2.2.2.1,(a.2.2.2.2.2.2.2.2.2.1,(a.2.2.2.2.2.2.2.2.2.2.1,(a.2.2.2.2.2.2.2.2.2.2.2.1,(a.2.2.2.2.2.2.2.2.2.2.2.2.1,(a.2.2.2.2.2.2.2.2.2.2.2.2.2.1,(d8,(d4,(d0,(c6,(c2,(b8,(b4,(b0,(a6,(a2,(Y,(y6,(a.2.2.2.2.2.2.2.2.2.2.2.2.2.2.2.2.2.2.2.2.2.2.2.2.2.2.1,(a.2.2.2.2.2.2.2.2.2.2.2.2.2.2.2.2.2.2.2.2.2.2.2.2.2.2.2.1,(a.2.2.2.2.2.2.2.2.2.2.2.2.2.2.2.2.2.2.2.2.2.2.2.2.2.2.2.2.1,(a.2.2.2.2.2.2.2.2.2.2.2.2.2.2.2.2.2.2.2.2.2.2.2.2.2.2.2.2.2.1,(U,(Q,(L,((ap F [(zl j 100)]),()))))))))))))))))))))))))))))))))))))) (some [(.agg [(.s .u8 y6),(.i .i64 (zf n 4).i),(.i .i64 (zf n 4).h)]),(aT .guest (⟨U,d8,d4,Q,L,⟨d0,c6,c2⟩,b8,⟨b4,b0,a6,a2⟩,Y,F⟩:Guest))])))) (0,((zS u 12).i,((zS u 12).h,(0,(0,(0,(0,(false,(0,(0,(0,(false,(0,(false,(w,(y,(e.Traps,(e.Post,(e.Open,(d.Pending,((zcd r).Kind,((zcd r).Page,((zcd r).Write,((zcd r).N,((zc9 u 12),(c.b,([],([],([],([],(d.Prog,(v,(x,(d.Seen,()))))))))))))))))))))))))))))))))))))) (oN (zcT r 12) (iter (σ:=(Int×(Int×(Int×(Int×(Int×(Int×(Int×(Bool×(Int×(Int×(Int×(Bool×(Int×(Bool×(Int×(Int×(Int×(Int×(Bool×(Int×(Int×(Int×(Bool×(Int×(Bool×((List Int)×(lI×(lS×(lS×((List Int)×(lI×(lS×(lS×((List Int)×Unit))))))))))))))))))))))))))))))))))) N (fun z a=>let d9:=a.2.2.2.2.2.2.2.2.2.2.2.2.2.2.1;let d5:=a.2.2.2.2.2.2.2.2.2.2.2.2.2.2.2.1;let d1:=a.2.2.2.2.2.2.2.2.2.2.2.2.2.2.2.2.1;let c7:=a.2.2.2.2.2.2.2.2.2.2.2.2.2.2.2.2.2.1;let c3:=a.2.2.2.2.2.2.2.2.2.2.2.2.2.2.2.2.2.2.1;let b9:=a.2.2.2.2.2.2.2.2.2.2.2.2.2.2.2.2.2.2.2.1;let b5:=a.2.2.2.2.2.2.2.2.2.2.2.2.2.2.2.2.2.2.2.2.1;let b1:=a.2.2.2.2.2.2.2.2.2.2.2.2.2.2.2.2.2.2.2.2.2.1;let a7:=a.2.2.2.2.2.2.2.2.2.2.2.2.2.2.2.2.2.2.2.2.2.2.1;let a3:=a.2.2.2.2.2.2.2.2.2.2.2.2.2.2.2.2.2.2.2.2.2.2.2.1;let Z:=a.2.2.2.2.2.2.2.2.2.2.2.2.2.2.2.2.2.2.2.2.2.2.2.2.1;let V:=a.2.2.2.2.2.2.2.2.2.2.2.2.2.2.2.2.2.2.2.2.2.2.2.2.2.2.2.2.2.2.1;let R:=a.2.2.2.2.2.2.2.2.2.2.2.2.2.2.2.2.2.2.2.2.2.2.2.2.2.2.2.2.2.2.2.1;let M:=a.2.2.2.2.2.2.2.2.2.2.2.2.2.2.2.2.2.2.2.2.2.2.2.2.2.2.2.2.2.2.2.2.1;let G:=a.2.2.2.2.2.2.2.2.2.2.2.2.2.2.2.2.2.2.2.2.2.2.2.2.2.2.2.2.2.2.2.2.2.1;let y7:=a.2.2.2.2.2.2.2.2.2.2.2.2.2.2.2.2.2.2.2.2.2.2.2.2.2.1;let p:=(⟨y7,a.2.1,a.2.2.1⟩:Cur);let k:=({ (zf p 4) with b:=y7}:Cur); (oN (zA p 4) (cond (ilt a.1 (zl p 4)) (oN (zA k 100) (oN (few (ln (ap G [(zl k 100)]))) (z ((zL .i64 a.1 1),((zf k 100).i,((zf k 100).h,(a.2.2.2.1,(a.2.2.2.2.1,(a.2.2.2.2.2.1,(a.2.2.2.2.2.2.1,(a.2.2.2.2.2.2.2.1,(a.2.2.2.2.2.2.2.2.1,(a.2.2.2.2.2.2.2.2.2.1,(a.2.2.2.2.2.2.2.2.2.2.1,(a.2.2.2.2.2.2.2.2.2.2.2.1,(a.2.2.2.2.2.2.2.2.2.2.2.2.1,(a.2.2.2.2.2.2.2.2.2.2.2.2.2.1,(d9,(d5,(d1,(c7,(c3,(b9,(b5,(b1,(a7,(a3,(Z,(y7,(a.2.2.2.2.2.2.2.2.2.2.2.2.2.2.2.2.2.2.2.2.2.2.2.2.2.2.1,(a.2.2.2.2.2.2.2.2.2.2.2.2.2.2.2.2.2.2.2.2.2.2.2.2.2.2.2.1,(a.2.2.2.2.2.2.2.2.2.2.2.2.2.2.2.2.2.2.2.2.2.2.2.2.2.2.2.2.1,(a.2.2.2.2.2.2.2.2.2.2.2.2.2.2.2.2.2.2.2.2.2.2.2.2.2.2.2.2.2.1,(V,(R,(M,((ap G [(zl k 100)]),()))))))))))))))))))))))))))))))))))))) (some [(.agg [(.s .u8 y7),(.i .i64 (zf p 4).i),(.i .i64 (zf p 4).h)]),(aT .guest (⟨V,d9,d5,R,M,⟨d1,c7,c3⟩,b9,⟨b5,b1,a7,a3⟩,Z,G⟩:Guest))])))) (0,((zS r 12).i,((zS r 12).h,(0,(0,(0,(0,(false,(0,(0,(0,(false,(0,(false,(w,(y,(e.Traps,(e.Post,(e.Open,(d.Pending,(d.Exit.Kind,(d.Exit.Page,(d.Exit.Write,(d.Exit.N,((zc9 r 12),(c.b,([],([],([],([],(d.Prog,(v,(x,(d.Seen,())))))))))))))))))))))))))))))))))))))))))))))))
def zQa:FuncId->Nat->Option Tmpl:=zq [(246,0,{n:=50,tm:=[(0,.lp 0 0),(2,.lp 1 0),(3,.lp 2 0),(4,ti)],lo:=[(0,[.sl 0 [],ti,ti]),(1,[.sl 1 [],ti,ti,.sl 2 [],.sl 3 [],ti,ti,.b,ti,ti,ti,.b,ti,.b,.sl 4 []]),(2,[.sl 5 [],ti,ti,.sl 6 [],.sl 7 [],ti,ti,.b,ti,ti,ti,.b,ti,.b,.sl 8 []])],ro:=[(0,.u8,false),(1,.ins,true),(2,.slot,true),(3,.slot,true),(4,.int,true),(5,.ins,true),(6,.slot,true),(7,.slot,true),(8,.int,true)]})]
def znG (c:Cur)(s:Cur)(a:Guest):Prop:=(∃N,zt9 N c=some (AV.agg (zbY s)::[aT .guest a]))/\(s.b=c.b/\0<=s.i)/\(GuS a/\a.Seen.length<=4)
def zlU (c:Cur)  : Bool:=wC (znG c)
def zjD (c:Cur)  : Cur:=wS (znG c)
def zcc (c:Cur)  : Guest:=wV (znG c)
theorem zD6 {c:Cur}(h:zlU c=true):znG c (zjD c) (zcc c):=wG h
theorem zWC (c:Cur)  : 0<=(zjD c).i:=wP fun h=>h.2.1.2
theorem zWB (c:Cur)(h:∃N,Ends (wE (fun a=>aT .guest a) c.b fun a=>GuS a/\a.Seen.length<=4) (zt9 N c)):zlU c=true:=wI (fun _ _ h=>h) h
def zwh:zdH:=rP0 fun c=>(zlU c,zjD c,[aT .guest (zcc c)])
theorem zIO:zbL Tryz.prog 246 [false,true,true] zwh:=hP0 zHS zQ zWe zo zQa (fun _ h=>(zD6 h).1)
theorem zUz {c:Cur}(h:zbj c):zlU c=true:=by
 refine zWB c ⟨1002,?_⟩;unfold zt9 oN;conv=>zeta
 have f:=zDE h;have j:=zJp (zrI f).2.2;have e:zjy (zb8 c)=true:=zbm (by omega);have q:∀{s:Cur},0<=s.i->zbj {s with b:=c.b}:=fun g=>zbM h g;have d:GuS ⟨zb8 c,0,0,[],[],⟨0,0,false⟩,0,⟨0,0,false,0⟩,false,[]⟩:=⟨by dsimp only;omega,by simp,by simp,by simp⟩
 refine zy f (zy e (zy (zyX (q (ziZ _)) (by omega) (by omega) _) (zy (zyX (q (zh3 _ _ _)) (by omega) (by omega) _) (zy (zbD (q (zh3 _ _ _)) _) (zy (zbD (q (zI _ _)) _) (zy (z0v (q (zI _ _))) (zy (zjn (q (zAc _)) _)
  (zbH (fun _=>zy (zbD (q (zcm _ _)) _) (zy (zjn (q (zI _ _)) _) (zbH (fun _=>zy (zUC (q (zcm _ _))) (zy (zjn (q (zxn _)) _) ?_)) (fun _=>zy (zjn (q (zcm _ _)) _) ?_))))
   (fun _=>zy (zjn (q (zcm _ _)) _) (zbH (fun _=>zy (zUC (q (zcm _ _))) (zy (zjn (q (zxn _)) _) ?_)) (fun _=>zy (zjn (q (zcm _ _)) _) ?_)))))))))))
 .exact zEy h (zcm _ _) (P:=fun _=>True) (q:=4) (by omega) (by omega) (fc:=fun c=>zA c 100) (fs:=fun c=>zf c 100) (fv:=fun c=>zl c 100) (fun h=>zbD h _) (fun c=>zI c _) (fun _=>trivial) (z:=0) (l0:=(zcr (zb8 c)).Seen) (qY 0) (by omega) (by simp) ((fun _ t=>(t.1,t.2.1,t.2.2.1,0,0,0,0,false,0,0,0,false,0,false,(zl ({ (zJ ({ (zJ ({ (zbe c) with b:=c.b }:Cur) 4 8) with b:=c.b }:Cur) 4 8) with b:=c.b }:Cur) 100),(zl ({ (zf ({ (zJ ({ (zJ ({ (zbe c) with b:=c.b }:Cur) 4 8) with b:=c.b }:Cur) 4 8) with b:=c.b }:Cur) 100) with b:=c.b }:Cur) 4),(zcD ({ (zf ({ (zf ({ (zJ ({ (zJ ({ (zbe c) with b:=c.b }:Cur) 4 8) with b:=c.b }:Cur) 4 8) with b:=c.b }:Cur) 100) with b:=c.b }:Cur) 4) with b:=c.b }:Cur)).Traps,(zcD ({ (zf ({ (zf ({ (zJ ({ (zJ ({ (zbe c) with b:=c.b }:Cur) 4 8) with b:=c.b }:Cur) 4 8) with b:=c.b }:Cur) 100) with b:=c.b }:Cur) 4) with b:=c.b }:Cur)).Post,(zcD ({ (zf ({ (zf ({ (zJ ({ (zJ ({ (zbe c) with b:=c.b }:Cur) 4 8) with b:=c.b }:Cur) 4 8) with b:=c.b }:Cur) 100) with b:=c.b }:Cur) 4) with b:=c.b }:Cur)).Open,(zl ({ (zS ({ (zch ({ (zf ({ (zf ({ (zJ ({ (zJ ({ (zbe c) with b:=c.b }:Cur) 4 8) with b:=c.b }:Cur) 4 8) with b:=c.b }:Cur) 100) with b:=c.b }:Cur) 4) with b:=c.b }:Cur)) with b:=c.b }:Cur) 3) with b:=c.b }:Cur) 256),(zcd ({ (zS ({ (zf ({ (zS ({ (zch ({ (zf ({ (zf ({ (zJ ({ (zJ ({ (zbe c) with b:=c.b }:Cur) 4 8) with b:=c.b }:Cur) 4 8) with b:=c.b }:Cur) 100) with b:=c.b }:Cur) 4) with b:=c.b }:Cur)) with b:=c.b }:Cur) 3) with b:=c.b }:Cur) 256) with b:=c.b }:Cur) 4) with b:=c.b }:Cur)).Kind,(zcd ({ (zS ({ (zf ({ (zS ({ (zch ({ (zf ({ (zf ({ (zJ ({ (zJ ({ (zbe c) with b:=c.b }:Cur) 4 8) with b:=c.b }:Cur) 4 8) with b:=c.b }:Cur) 100) with b:=c.b }:Cur) 4) with b:=c.b }:Cur)) with b:=c.b }:Cur) 3) with b:=c.b }:Cur) 256) with b:=c.b }:Cur) 4) with b:=c.b }:Cur)).Page,(zcd ({ (zS ({ (zf ({ (zS ({ (zch ({ (zf ({ (zf ({ (zJ ({ (zJ ({ (zbe c) with b:=c.b }:Cur) 4 8) with b:=c.b }:Cur) 4 8) with b:=c.b }:Cur) 100) with b:=c.b }:Cur) 4) with b:=c.b }:Cur)) with b:=c.b }:Cur) 3) with b:=c.b }:Cur) 256) with b:=c.b }:Cur) 4) with b:=c.b }:Cur)).Write,(zcd ({ (zS ({ (zf ({ (zS ({ (zch ({ (zf ({ (zf ({ (zJ ({ (zJ ({ (zbe c) with b:=c.b }:Cur) 4 8) with b:=c.b }:Cur) 4 8) with b:=c.b }:Cur) 100) with b:=c.b }:Cur) 4) with b:=c.b }:Cur)) with b:=c.b }:Cur) 3) with b:=c.b }:Cur) 256) with b:=c.b }:Cur) 4) with b:=c.b }:Cur)).N,(zc9 ({ (zeH ({ (zS ({ (zf ({ (zS ({ (zch ({ (zf ({ (zf ({ (zJ ({ (zJ ({ (zbe c) with b:=c.b }:Cur) 4 8) with b:=c.b }:Cur) 4 8) with b:=c.b }:Cur) 100) with b:=c.b }:Cur) 4) with b:=c.b }:Cur)) with b:=c.b }:Cur) 3) with b:=c.b }:Cur) 256) with b:=c.b }:Cur) 4) with b:=c.b }:Cur)) with b:=c.b }:Cur) 12),c.b,[],[],[],[],(zcr (zb8 c)).Prog,(zdG ({ (zbe c) with b:=c.b }:Cur) 4 8),(zdG ({ (zJ ({ (zbe c) with b:=c.b }:Cur) 4 8) with b:=c.b }:Cur) 4 8),t.2.2.2,())):Nat->Int×Int×Int×List Int->_)
   (fun rec t i k l=>⟨_,rfl,fun a _=>⟨⟨_,_,_⟩,_,rfl,⟨rfl,zI _ _⟩,⟨⟨d.1,zEh (q (ziZ _)),zEh (q (zh3 _ _ _)),by unfold ln at a;dsimp only;omega⟩,by unfold ln at a;dsimp only;omega⟩⟩⟩)
 .exact zEy h (zcm _ _) (P:=fun _=>True) (q:=4) (by omega) (by omega) (fc:=fun c=>zA c 100) (fs:=fun c=>zf c 100) (fv:=fun c=>zl c 100) (fun h=>zbD h _) (fun c=>zI c _) (fun _=>trivial) (z:=0) (l0:=(zcr (zb8 c)).Seen) (qY 0) (by omega) (by simp) ((fun _ t=>(t.1,t.2.1,t.2.2.1,0,0,0,0,false,0,0,0,false,0,false,(zl ({ (zJ ({ (zJ ({ (zbe c) with b:=c.b }:Cur) 4 8) with b:=c.b }:Cur) 4 8) with b:=c.b }:Cur) 100),(zl ({ (zf ({ (zJ ({ (zJ ({ (zbe c) with b:=c.b }:Cur) 4 8) with b:=c.b }:Cur) 4 8) with b:=c.b }:Cur) 100) with b:=c.b }:Cur) 4),(zcD ({ (zf ({ (zf ({ (zJ ({ (zJ ({ (zbe c) with b:=c.b }:Cur) 4 8) with b:=c.b }:Cur) 4 8) with b:=c.b }:Cur) 100) with b:=c.b }:Cur) 4) with b:=c.b }:Cur)).Traps,(zcD ({ (zf ({ (zf ({ (zJ ({ (zJ ({ (zbe c) with b:=c.b }:Cur) 4 8) with b:=c.b }:Cur) 4 8) with b:=c.b }:Cur) 100) with b:=c.b }:Cur) 4) with b:=c.b }:Cur)).Post,(zcD ({ (zf ({ (zf ({ (zJ ({ (zJ ({ (zbe c) with b:=c.b }:Cur) 4 8) with b:=c.b }:Cur) 4 8) with b:=c.b }:Cur) 100) with b:=c.b }:Cur) 4) with b:=c.b }:Cur)).Open,(zl ({ (zS ({ (zch ({ (zf ({ (zf ({ (zJ ({ (zJ ({ (zbe c) with b:=c.b }:Cur) 4 8) with b:=c.b }:Cur) 4 8) with b:=c.b }:Cur) 100) with b:=c.b }:Cur) 4) with b:=c.b }:Cur)) with b:=c.b }:Cur) 3) with b:=c.b }:Cur) 256),(zcr (zb8 c)).Exit.Kind,(zcr (zb8 c)).Exit.Page,(zcr (zb8 c)).Exit.Write,(zcr (zb8 c)).Exit.N,(zc9 ({ (zS ({ (zf ({ (zS ({ (zch ({ (zf ({ (zf ({ (zJ ({ (zJ ({ (zbe c) with b:=c.b }:Cur) 4 8) with b:=c.b }:Cur) 4 8) with b:=c.b }:Cur) 100) with b:=c.b }:Cur) 4) with b:=c.b }:Cur)) with b:=c.b }:Cur) 3) with b:=c.b }:Cur) 256) with b:=c.b }:Cur) 4) with b:=c.b }:Cur) 12),c.b,[],[],[],[],(zcr (zb8 c)).Prog,(zdG ({ (zbe c) with b:=c.b }:Cur) 4 8),(zdG ({ (zJ ({ (zbe c) with b:=c.b }:Cur) 4 8) with b:=c.b }:Cur) 4 8),t.2.2.2,())):Nat->Int×Int×Int×List Int->_)
   (fun rec t i k l=>⟨_,rfl,fun a _=>⟨⟨_,_,_⟩,_,rfl,⟨rfl,zI _ _⟩,⟨⟨d.1,zEh (q (ziZ _)),zEh (q (zh3 _ _ _)),by unfold ln at a;dsimp only;omega⟩,by unfold ln at a;dsimp only;omega⟩⟩⟩)
 .exact zEy h (zcm _ _) (P:=fun _=>True) (q:=4) (by omega) (by omega) (fc:=fun c=>zA c 100) (fs:=fun c=>zf c 100) (fv:=fun c=>zl c 100) (fun h=>zbD h _) (fun c=>zI c _) (fun _=>trivial) (z:=0) (l0:=(zcr (zb8 c)).Seen) (qY 0) (by omega) (by simp) ((fun _ t=>(t.1,t.2.1,t.2.2.1,0,0,0,0,false,0,0,0,false,0,false,(zl ({ (zJ ({ (zJ ({ (zbe c) with b:=c.b }:Cur) 4 8) with b:=c.b }:Cur) 4 8) with b:=c.b }:Cur) 100),(zl ({ (zf ({ (zJ ({ (zJ ({ (zbe c) with b:=c.b }:Cur) 4 8) with b:=c.b }:Cur) 4 8) with b:=c.b }:Cur) 100) with b:=c.b }:Cur) 4),(zcD ({ (zf ({ (zf ({ (zJ ({ (zJ ({ (zbe c) with b:=c.b }:Cur) 4 8) with b:=c.b }:Cur) 4 8) with b:=c.b }:Cur) 100) with b:=c.b }:Cur) 4) with b:=c.b }:Cur)).Traps,(zcD ({ (zf ({ (zf ({ (zJ ({ (zJ ({ (zbe c) with b:=c.b }:Cur) 4 8) with b:=c.b }:Cur) 4 8) with b:=c.b }:Cur) 100) with b:=c.b }:Cur) 4) with b:=c.b }:Cur)).Post,(zcD ({ (zf ({ (zf ({ (zJ ({ (zJ ({ (zbe c) with b:=c.b }:Cur) 4 8) with b:=c.b }:Cur) 4 8) with b:=c.b }:Cur) 100) with b:=c.b }:Cur) 4) with b:=c.b }:Cur)).Open,(zcr (zb8 c)).Pending,(zcd ({ (zS ({ (zS ({ (zch ({ (zf ({ (zf ({ (zJ ({ (zJ ({ (zbe c) with b:=c.b }:Cur) 4 8) with b:=c.b }:Cur) 4 8) with b:=c.b }:Cur) 100) with b:=c.b }:Cur) 4) with b:=c.b }:Cur)) with b:=c.b }:Cur) 3) with b:=c.b }:Cur) 4) with b:=c.b }:Cur)).Kind,(zcd ({ (zS ({ (zS ({ (zch ({ (zf ({ (zf ({ (zJ ({ (zJ ({ (zbe c) with b:=c.b }:Cur) 4 8) with b:=c.b }:Cur) 4 8) with b:=c.b }:Cur) 100) with b:=c.b }:Cur) 4) with b:=c.b }:Cur)) with b:=c.b }:Cur) 3) with b:=c.b }:Cur) 4) with b:=c.b }:Cur)).Page,(zcd ({ (zS ({ (zS ({ (zch ({ (zf ({ (zf ({ (zJ ({ (zJ ({ (zbe c) with b:=c.b }:Cur) 4 8) with b:=c.b }:Cur) 4 8) with b:=c.b }:Cur) 100) with b:=c.b }:Cur) 4) with b:=c.b }:Cur)) with b:=c.b }:Cur) 3) with b:=c.b }:Cur) 4) with b:=c.b }:Cur)).Write,(zcd ({ (zS ({ (zS ({ (zch ({ (zf ({ (zf ({ (zJ ({ (zJ ({ (zbe c) with b:=c.b }:Cur) 4 8) with b:=c.b }:Cur) 4 8) with b:=c.b }:Cur) 100) with b:=c.b }:Cur) 4) with b:=c.b }:Cur)) with b:=c.b }:Cur) 3) with b:=c.b }:Cur) 4) with b:=c.b }:Cur)).N,(zc9 ({ (zeH ({ (zS ({ (zS ({ (zch ({ (zf ({ (zf ({ (zJ ({ (zJ ({ (zbe c) with b:=c.b }:Cur) 4 8) with b:=c.b }:Cur) 4 8) with b:=c.b }:Cur) 100) with b:=c.b }:Cur) 4) with b:=c.b }:Cur)) with b:=c.b }:Cur) 3) with b:=c.b }:Cur) 4) with b:=c.b }:Cur)) with b:=c.b }:Cur) 12),c.b,[],[],[],[],(zcr (zb8 c)).Prog,(zdG ({ (zbe c) with b:=c.b }:Cur) 4 8),(zdG ({ (zJ ({ (zbe c) with b:=c.b }:Cur) 4 8) with b:=c.b }:Cur) 4 8),t.2.2.2,())):Nat->Int×Int×Int×List Int->_)
   (fun rec t i k l=>⟨_,rfl,fun a _=>⟨⟨_,_,_⟩,_,rfl,⟨rfl,zI _ _⟩,⟨⟨d.1,zEh (q (ziZ _)),zEh (q (zh3 _ _ _)),by unfold ln at a;dsimp only;omega⟩,by unfold ln at a;dsimp only;omega⟩⟩⟩)
 .exact zEy h (zcm _ _) (P:=fun _=>True) (q:=4) (by omega) (by omega) (fc:=fun c=>zA c 100) (fs:=fun c=>zf c 100) (fv:=fun c=>zl c 100) (fun h=>zbD h _) (fun c=>zI c _) (fun _=>trivial) (z:=0) (l0:=(zcr (zb8 c)).Seen) (qY 0) (by omega) (by simp) ((fun _ t=>(t.1,t.2.1,t.2.2.1,0,0,0,0,false,0,0,0,false,0,false,(zl ({ (zJ ({ (zJ ({ (zbe c) with b:=c.b }:Cur) 4 8) with b:=c.b }:Cur) 4 8) with b:=c.b }:Cur) 100),(zl ({ (zf ({ (zJ ({ (zJ ({ (zbe c) with b:=c.b }:Cur) 4 8) with b:=c.b }:Cur) 4 8) with b:=c.b }:Cur) 100) with b:=c.b }:Cur) 4),(zcD ({ (zf ({ (zf ({ (zJ ({ (zJ ({ (zbe c) with b:=c.b }:Cur) 4 8) with b:=c.b }:Cur) 4 8) with b:=c.b }:Cur) 100) with b:=c.b }:Cur) 4) with b:=c.b }:Cur)).Traps,(zcD ({ (zf ({ (zf ({ (zJ ({ (zJ ({ (zbe c) with b:=c.b }:Cur) 4 8) with b:=c.b }:Cur) 4 8) with b:=c.b }:Cur) 100) with b:=c.b }:Cur) 4) with b:=c.b }:Cur)).Post,(zcD ({ (zf ({ (zf ({ (zJ ({ (zJ ({ (zbe c) with b:=c.b }:Cur) 4 8) with b:=c.b }:Cur) 4 8) with b:=c.b }:Cur) 100) with b:=c.b }:Cur) 4) with b:=c.b }:Cur)).Open,(zcr (zb8 c)).Pending,(zcr (zb8 c)).Exit.Kind,(zcr (zb8 c)).Exit.Page,(zcr (zb8 c)).Exit.Write,(zcr (zb8 c)).Exit.N,(zc9 ({ (zS ({ (zS ({ (zch ({ (zf ({ (zf ({ (zJ ({ (zJ ({ (zbe c) with b:=c.b }:Cur) 4 8) with b:=c.b }:Cur) 4 8) with b:=c.b }:Cur) 100) with b:=c.b }:Cur) 4) with b:=c.b }:Cur)) with b:=c.b }:Cur) 3) with b:=c.b }:Cur) 4) with b:=c.b }:Cur) 12),c.b,[],[],[],[],(zcr (zb8 c)).Prog,(zdG ({ (zbe c) with b:=c.b }:Cur) 4 8),(zdG ({ (zJ ({ (zbe c) with b:=c.b }:Cur) 4 8) with b:=c.b }:Cur) 4 8),t.2.2.2,())):Nat->Int×Int×Int×List Int->_)
   (fun rec t i k l=>⟨_,rfl,fun a _=>⟨⟨_,_,_⟩,_,rfl,⟨rfl,zI _ _⟩,⟨⟨d.1,zEh (q (ziZ _)),zEh (q (zh3 _ _ _)),by unfold ln at a;dsimp only;omega⟩,by unfold ln at a;dsimp only;omega⟩⟩⟩)
def z9Q:zcR:=[(246,([false,true,true],zwh))]++z9P
theorem zJm:zb7 z9Q:=zcs zWe (by
 intro x a;simp only[qG,qN,or_false]at a;rcases a with rfl
 .exact zIO)
def zy8 (N:Nat)(c:Cur)  : OA :=
 let e:=(zcc c);let B:=({ (zjD c) with b:=c.b}:Cur);let f:=(zf B 14);let j:=(zl B 14);let d:=({f with b:=c.b}:Cur);let g:=(zg1 d 4 8);let p:=(zba d [(-1),12,13,9223372036854775807]); (oN (zlU c) (oN (zA B 14) (cond (ieq j 0) (oN (zjB d) (some [(.agg [(.s .u8 c.b),(.i .i64 (zjC d).i),(.i .i64 (zjC d).h)]),(aT .guest ({e with Prog:=(zpQ d)}:Guest))])) (cond (ieq j 1) (oN (zbs d [(-1),100]) (some [(.agg [(.s .u8 c.b),(.i .i64 (zba d [(-1),100]).i),(.i .i64 (zba d [(-1),100]).h)]),(aT .guest ({e with A:=(zbo d [(-1),100])}:Guest))])) (cond (ieq j 2) (oN (zbs d [(-1),12,13,9223372036854775807]) (some [(.agg [(.s .u8 c.b),(.i .i64 p.i),(.i .i64 p.h)]),(aT .guest ({e with Pc:=(zbo d [(-1),12,13,9223372036854775807])}:Guest))])) (cond (ieq j 3) (oN (zfT d 4 8) (some [(.agg [(.s .u8 c.b),(.i .i64 g.i),(.i .i64 g.h)]),(aT .guest ({e with Live:=(zfg d 4 8)}:Guest))])) (cond (ieq j 4) (oN (zpS d) (some [(.agg [(.s .u8 c.b),(.i .i64 (zpT d).i),(.i .i64 (zpT d).h)]),(aT .guest ({e with Ctl:=(zAb d)}:Guest))])) (cond (ieq j 5) (oN (znh d) (some [(.agg [(.s .u8 c.b),(.i .i64 (zni d).i),(.i .i64 (zni d).h)]),(aT .guest ({e with Pending:=(zwG d)}:Guest))])) (cond (ieq j 6) (oN (zpU d) (some [(.agg [(.s .u8 c.b),(.i .i64 (zpV d).i),(.i .i64 (zpV d).h)]),(aT .guest ({e with Exit:=(zAd d)}:Guest))])) (cond (ieq j 7) (iter (σ:=(Int×(Int×(Int×(Int×(Int×(Int×(Bool×(Int×(Int×(Int×(Bool×(Int×(Bool×(Int×(Int×(Int×(Int×(Bool×(Int×(Int×(Int×(Bool×(Int×(Bool×((List Int)×(lI×(lS×(lS×((List Int)×(lI×(lS×(lS×((List Int)×Unit)))))))))))))))))))))))))))))))))) N (fun G a=>let y:=a.2.2.2.2.2.2.2.2.2.2.2.2.2.1;let x:=a.2.2.2.2.2.2.2.2.2.2.2.2.2.2.1;let w:=a.2.2.2.2.2.2.2.2.2.2.2.2.2.2.2.1;let v:=a.2.2.2.2.2.2.2.2.2.2.2.2.2.2.2.2.1;let u:=a.2.2.2.2.2.2.2.2.2.2.2.2.2.2.2.2.2.1;let t:=a.2.2.2.2.2.2.2.2.2.2.2.2.2.2.2.2.2.2.1;let r:=a.2.2.2.2.2.2.2.2.2.2.2.2.2.2.2.2.2.2.2.1;let q:=a.2.2.2.2.2.2.2.2.2.2.2.2.2.2.2.2.2.2.2.2.1;let n:=a.2.2.2.2.2.2.2.2.2.2.2.2.2.2.2.2.2.2.2.2.2.1;let m:=a.2.2.2.2.2.2.2.2.2.2.2.2.2.2.2.2.2.2.2.2.2.2.1;let l:=a.2.2.2.2.2.2.2.2.2.2.2.2.2.2.2.2.2.2.2.2.2.2.2.1;let F:=a.2.2.2.2.2.2.2.2.2.2.2.2.2.2.2.2.2.2.2.2.2.2.2.2.2.2.2.2.2.1;let E:=a.2.2.2.2.2.2.2.2.2.2.2.2.2.2.2.2.2.2.2.2.2.2.2.2.2.2.2.2.2.2.1;let D:=a.2.2.2.2.2.2.2.2.2.2.2.2.2.2.2.2.2.2.2.2.2.2.2.2.2.2.2.2.2.2.2.1;let C:=a.2.2.2.2.2.2.2.2.2.2.2.2.2.2.2.2.2.2.2.2.2.2.2.2.1;let z:=a.2.2.2.2.2.2.2.2.2.2.2.2.2.2.2.2.2.2.2.2.2.2.2.2.2.2.2.2.2.2.2.2.1;let k:=(⟨C,a.1,a.2.1⟩:Cur); (oN (zA k 3) (cond (ilt (ln z) (zL .i64 39 (zl k 3))) (oN (few (ln (ap z [1]))) (G ((zf k 3).i,((zf k 3).h,(a.2.2.1,(a.2.2.2.1,(a.2.2.2.2.1,(a.2.2.2.2.2.1,(a.2.2.2.2.2.2.1,(a.2.2.2.2.2.2.2.1,(a.2.2.2.2.2.2.2.2.1,(a.2.2.2.2.2.2.2.2.2.1,(a.2.2.2.2.2.2.2.2.2.2.1,(a.2.2.2.2.2.2.2.2.2.2.2.1,(a.2.2.2.2.2.2.2.2.2.2.2.2.1,(y,(x,(w,(v,(u,(t,(r,(q,(n,(m,(l,(C,(a.2.2.2.2.2.2.2.2.2.2.2.2.2.2.2.2.2.2.2.2.2.2.2.2.2.1,(a.2.2.2.2.2.2.2.2.2.2.2.2.2.2.2.2.2.2.2.2.2.2.2.2.2.2.1,(a.2.2.2.2.2.2.2.2.2.2.2.2.2.2.2.2.2.2.2.2.2.2.2.2.2.2.2.1,(a.2.2.2.2.2.2.2.2.2.2.2.2.2.2.2.2.2.2.2.2.2.2.2.2.2.2.2.2.1,(F,(E,(D,((ap z [1]),()))))))))))))))))))))))))))))))))))) (some [(.agg [(.s .u8 C),(.i .i64 (zf k 3).i),(.i .i64 (zf k 3).h)]),(aT .guest (⟨F,y,x,E,D,⟨w,v,u⟩,t,⟨r,q,n,m⟩,l,z⟩:Guest))])))) (f.i,(f.h,(0,(0,(0,(0,(false,(0,(0,(0,(false,(0,(false,(e.A,(e.Pc,(e.Ctl.Traps,(e.Ctl.Post,(e.Ctl.Open,(e.Pending,(e.Exit.Kind,(e.Exit.Page,(e.Exit.Write,(e.Exit.N,(e.Halted,(c.b,([],([],([],([],(e.Prog,(e.Written,(e.Live,(e.Seen,())))))))))))))))))))))))))))))))))) (cond (ieq j 8) (oN (zfT d 4 8) (some [(.agg [(.s .u8 c.b),(.i .i64 g.i),(.i .i64 g.h)]),(aT .guest ({e with Written:=(zfg d 4 8)}:Guest))])) (some [(.agg [(.s .u8 c.b),(.i .i64 f.i),(.i .i64 f.h)]),(aT .guest e)]))))))))))))
def zXp:FuncId->Nat->Option Tmpl:=zq [(153,1,{n:=65,tm:=[(0,.lp 0 0),(2,.lp 1 0),(3,.lp 2 0)],lo:=[(0,[.sl 0 [],ti,ti]),(1,[.sl 1 [],ti,ti,.sl 2 [],.sl 3 [],ti,ti,.b,ti,ti,ti,.b,ti,.b,.sl 4 []]),(2,[.sl 5 [],ti,ti,.sl 6 [],.sl 7 [],ti,ti,.b,ti,ti,ti,.b,ti,.b,.sl 8 []])],ro:=[(0,.u8,false),(1,.ins,true),(2,.slot,true),(3,.slot,true),(4,.int,true),(5,.ins,true),(6,.slot,true),(7,.slot,true),(8,.int,true)]})]
def zrM (c:Cur)(s:Cur)(a:Guest):Prop:=(∃N,zy8 N c=some (AV.agg (zbY s)::[aT .guest a]))/\(s.b=c.b/\0<=s.i)/\(GuS a)
def zpY (c:Cur)  : Bool:=wC (zrM c)
def zpZ (c:Cur)  : Cur:=wS (zrM c)
def zAe (c:Cur)  : Guest:=wV (zrM c)
theorem zMU {c:Cur}(h:zpY c=true):zrM c (zpZ c) (zAe c):=wG h
theorem z1Y (c:Cur)  : 0<=(zpZ c).i:=wP fun h=>h.2.1.2
theorem z1X (c:Cur)(h:∃N,Ends (wE (fun a=>aT .guest a) c.b fun a=>GuS a) (zy8 N c)):zpY c=true:=wI (fun _ _ h=>h) h
def zAZ:zdH:=rP0 fun c=>(zpY c,zpZ c,[aT .guest (zAe c)])
theorem zOG:zbL Tryz.prog 153 [false,true,true] zAZ:=hP0 zHS zQ zJm zo zXp (fun _ h=>(zMU h).1)
theorem zKz {c:Cur}(h:zbj c):zpY c=true:=by
 refine z1X c ⟨1002,?_⟩;unfold zy8 oN;conv=>zeta
 have q:∀{s:Cur},0<=s.i->zbj {s with b:=c.b}:=fun r=>zbM h r;have a:zbj {zf {zjD c with b:=c.b} 14 with b:=c.b}:=q (zI _ _);obtain⟨⟨d,e,f,g⟩,w⟩:=(zD6 (zUz h)).2.2;have p:(zfg {zf {zjD c with b:=c.b} 14 with b:=c.b} 4 8).length<=4:=by have:=((zpI (zoF a (n:=4) (by omega) (by omega) 8)).2.2 (by omega) (by omega)).1;unfold ln at this;omega
 have j:=(zyU (zQG a)).2.2;refine zy (zUz h) (zy (zbD (q (zWC _)) _) (zbH (fun _=>zy (zQG a) (zbI (aT .guest) (v:={zcc c with Prog:=zpQ _}) (zPR _) ⟨j,e,f,g⟩))
  (fun _=>zbH (fun _=>zy (zew a (by simp)) (zbI (aT .guest) (v:={zcc c with A:=zbo _ _}) (zbX _ _) ⟨d,e,f,g⟩))
  (fun _=>zbH (fun _=>zy (zew a (by simp)) (zbI (aT .guest) (v:={zcc c with Pc:=zbo _ _}) (zbX _ _) ⟨d,e,f,g⟩))
  (fun _=>zbH (fun _=>zy (zoF a (by omega) (by omega) _) (zbI (aT .guest) (v:={zcc c with Live:=zfg _ _ _}) (zpJ _ _ _) ⟨d,e,p,g⟩))
  (fun _=>zbH (fun _=>zy (z5F a) (zbI (aT .guest) (v:={zcc c with Ctl:=zAb _}) (z1R _) ⟨d,e,f,g⟩))
  (fun _=>zbH (fun _=>zy (zbcl a) (zbI (aT .guest) (v:={zcc c with Pending:=zwG _}) (zYH _) ⟨d,e,f,g⟩))
  (fun _=>zbH (fun _=>zy (z2E a) (zbI (aT .guest) (v:={zcc c with Exit:=zAd _}) (z1W _) ⟨d,e,f,g⟩))
  (fun _=>zbH (fun _=>?_)
  (fun _=>zbH (fun _=>zy (zoF a (by omega) (by omega) _) (zbI (aT .guest) (v:={zcc c with Written:=zfg _ _ _}) (zpJ _ _ _) ⟨d,p,f,g⟩))
  (fun _=>zbI (aT .guest) (v:=zcc c) (zI _ _) ⟨d,e,f,g⟩)))))))))))
 exact zbb4 h (zI _ _) (m:=39) (q:=3) (x:=1) (by omega) (by omega) (by omega) (l0:=(zcc c).Seen) (by unfold ln;omega) ((fun _ t=>(t.1,t.2.1,0,0,0,0,false,0,0,0,false,0,false,(zcc c).A,(zcc c).Pc,(zcc c).Ctl.Traps,(zcc c).Ctl.Post,(zcc c).Ctl.Open,(zcc c).Pending,(zcc c).Exit.Kind,(zcc c).Exit.Page,(zcc c).Exit.Write,(zcc c).Exit.N,(zcc c).Halted,c.b,[],[],[],[],(zcc c).Prog,(zcc c).Written,(zcc c).Live,t.2.2,())):Nat->Int×Int×List Int->_)
  (fun rec i k l=>⟨_,rfl,fun u=>⟨⟨_,_,_⟩,_,rfl,⟨rfl,zI _ _⟩,⟨d,e,f,by unfold ln at u;dsimp only;omega⟩⟩⟩)
theorem zbba (b:List Entry)(e:Entry)(h:b.length<=1048576):(zo2 b e).length<=6:=by have c:=(zuN e h).2;unfold zo2;generalize ap (zcJ b e.Tag e.Page) [e]=l at c;cases a:igt (ln l) 6 with|false=>have:¬ ln l>6:=jY a;rw[cF];unfold ln at this;omega|true=>rw[cT,zt1 (by unfold ln;omega) (by unfold ln;omega)];have:ln l>6:=qE a;simp only[dp,vP];unfold ln at *;omega
def zsA (N:Nat)(c:Cur)  : OA :=
 (iter (σ:=(Int×(Int×(Int×(lE×((List Int)×Unit)))))) N (fun l d=>let e:=d.2.2.2.2.1;let j:=(⟨e,d.2.1,d.2.2.1⟩:Cur);let a:=({ (zf j 9) with b:=e}:Cur);let g:=({ (zS a 8) with b:=e}:Cur);let f:=({ (zgV g) with b:=e}:Cur);let k:=(ap d.2.2.2.1 [(zmE g),(zmE f)]); (oN (zA j 9) (cond (ilt d.1 (zl j 9)) (oN (zh4 a) (oN (zgT d.2.2.2.1 (zmE a)) (l ((zL .i64 d.1 1),((zgV a).i,((zgV a).h,((zgA d.2.2.2.1 (zmE a)),(e,())))))))) (oN (zcT a 8) (cond (zc9 a 8) (oN (zh4 g) (oN (zh4 f) (oN (few (ln k)) (some [(.agg [(.s .u8 e),(.i .i64 (zgV f).i),(.i .i64 (zgV f).h)]),(aS .entry k)])))) (some [(.agg [(.s .u8 e),(.i .i64 (zS a 8).i),(.i .i64 (zS a 8).h)]),(aS .entry d.2.2.2.1)])))))) (0,(c.i,(c.h,([],(c.b,()))))))
def zNx:FuncId->Nat->Option Tmpl:=zq [(154,0,{n:=26,tm:=[(0,.lp 0 0),(3,.sl 0 []),(4,ti)],lo:=[(0,[.sl 1 [],ti,ti])],ro:=[(0,.entry,true),(1,.u8,false)]})]
def zmD (c:Cur)(s:Cur)(a:List Entry):Prop:=(∃N,zsA N c=some (AV.agg (zbY s)::[aS .entry a]))/\(s.b=c.b/\0<=s.i)/\(a.length<=8)
def zkF (c:Cur)  : Bool:=wC (zmD c)
def zkG (c:Cur)  : Cur:=wS (zmD c)
def zrG (c:Cur)  : List Entry:=wV (zmD c)
theorem zBB {c:Cur}(h:zkF c=true):zmD c (zkG c) (zrG c):=wG h
theorem zS2 (c:Cur)  : 0<=(zkG c).i:=wP fun h=>h.2.1.2
theorem zS1 (c:Cur)(h:∃N,Ends (wE (fun a=>aS .entry a) c.b fun a=>a.length<=8) (zsA N c)):zkF c=true:=wI (fun _ _ h=>h) h
def zuL:zdH:=rP0 fun c=>(zkF c,zkG c,[aS .entry (zrG c)])
theorem zFz:zbL Tryz.prog 154 [false,true,true] zuL:=hP0 zHS zQ zJm zo zNx (fun _ h=>(zBB h).1)
theorem zT1 {c:Cur}(h:zbj c):zkF c=true:=by
 refine zS1 c ⟨1002,?_⟩;unfold zsA oN;conv=>zeta
 refine zmW (fun n s=>∃t i k l,s=(((fun _ t=>(t.1,t.2.1,t.2.2.1,t.2.2.2,c.b,())):Nat->Int×Int×Int×List Entry->_) 0 (t,i,k,l))/\t+(n:Int)=10/\0<=t/\0<=i/\l.length<=6) ?_ 1002 10 _ ⟨0,c.i,c.h,[],rfl,rfl,kU 0,h.1,by simp⟩ (by omega);rintro n s rec ⟨t,i,k,l,rfl,p,g,j,r⟩ d;dsimp only;have a:zbj ⟨c.b,i,k⟩:=zbM h j;have v:=zgg a (n:=9) (by omega);have q:∀{s:Cur},0<=s.i->zbj {s with b:=c.b}:=fun f=>zbM h f;refine zy (zbD a 9) (zbH (fun e=>?_) (fun e=>?_));{have m:t<zl ⟨c.b,i,k⟩ 9:=qE e;have u:=zhO (y:=1) g (by omega) (by omega) (by omega);exact zy (zNO (q (zI _ _))) (zy (zbm (by omega)) (d (n-1) _ (by omega) ⟨zL .i64 t 1,_,_,_,rfl,by omega,by omega,zvg _,zbba _ _ (by omega)⟩))};{refine zy (zjn (q (zI _ _)) 8) (zbH (fun _=>zy (zNO (q (zcm _ _))) (zy (zNO (q (zvg _))) (zy (zln ?_) (zbI (aS .entry) (zvg _) ?_)))) (fun _=>zbI (aS .entry) (zcm _ _) (by omega)));{simp only [ln,ap,kE,qX,uO];omega};{simp only [ap,kE,qX,uO];omega}}
def z9R:zcR:=[(153,([false,true,true],zAZ)),(154,([false,true,true],zuL))]++z9Q
theorem zWf:zb7 z9R:=zcs zJm (by
 intro x a;simp only[qG,qN,or_false]at a;rcases a with rfl|rfl
 .exact zOG
 .exact zFz)
def zKA (b:Bare)(a:GAct):Bare:=bif ieq a.Kind 1 then ziK b a.G else (cond (ieq a.Kind 2) (chg b a.G (zxo a.X ⟨a.Y,a.Z⟩) (zEb (gAt b a.G) a.X ⟨a.Y,a.Z⟩)) (cond (ieq a.Kind 3) (chg b a.G (hasB a.X 4) (zea (gAt b a.G) a.X)) (cond (ieq a.Kind 4) (chg b a.G (zw2 (gAt b a.G) a.X) (zzd (gAt b a.G) a.X)) (cond (ieq a.Kind 5) (chg b a.G (zDH (gAt b a.G)) (zz0 (gAt b a.G))) (cond (ieq a.Kind 6) (chg b a.G (zhY (gAt b a.G).Pending a.X) (zoS (gAt b a.G) a.X)) (cond (ieq a.Kind 7) (chg b a.G (zl9 ⟨a.X,a.Y,ieq a.Z 1⟩) (zNK (gAt b a.G) ⟨a.X,a.Y,ieq a.Z 1⟩)) (cond (ieq a.Kind 8) (zTy b a.X a.Y a.Z) (cond (ieq a.Kind 9) (zk2 b a.X) (cond (ieq a.Kind 10) (znK b) (cond (ieq a.Kind 11) (z0L b a.G a.X a.Y) (b)))))))))))
def zKB (b:Bare)(a:GAct):Told:=bif ieq a.Kind 1 then ⟨zl7 b a.G,0⟩ else (cond (ieq a.Kind 2) ⟨zck b a.G (zxo a.X ⟨a.Y,a.Z⟩),0⟩ (cond (ieq a.Kind 3) ⟨zck b a.G (hasB a.X 4),0⟩ (cond (ieq a.Kind 4) ⟨zck b a.G (zw2 (gAt b a.G) a.X),0⟩ (cond (ieq a.Kind 5) ⟨zck b a.G (zDH (gAt b a.G)),0⟩ (cond (ieq a.Kind 6) ⟨zck b a.G (zhY (gAt b a.G).Pending a.X),0⟩ (cond (ieq a.Kind 7) ⟨zck b a.G (zl9 ⟨a.X,a.Y,ieq a.Z 1⟩),0⟩ (cond (ieq a.Kind 8) ⟨zyb b a.X a.Y a.Z,0⟩ (cond (ieq a.Kind 9) ⟨zfZ b a.X,0⟩ (cond (ieq a.Kind 10) ⟨znq b,zue b⟩ (cond (ieq a.Kind 11) ⟨zzr b a.G a.X a.Y,0⟩ (⟨zoL b a.G a.X 1,zTC b a.G a.X⟩)))))))))))
def zKC (l:List Bare)(a:GAct):List Bare:=bif zk a.Kind 1 17 then (cond (zk a.Kind 13 17) l (cond (hasB a.M (ln l)) (up l a.M (zKA (ix l a.M zND) a)) l)) else l
def z0l (l:List Bare)(a:GAct):Told:=bif zk a.Kind 1 17 then (cond (zk a.Kind 13 17) ⟨false,0⟩ (cond (hasB a.M (ln l)) (zKB (ix l a.M zND) a) (cond (ieq a.Kind 10) ⟨false,-1⟩ ⟨false,0⟩))) else ⟨false,0⟩
theorem zD {i n:Int}:hasB i n=true↔0<=i/\i<n:=by unfold hasB;exact decide_eq_true_iff
theorem zcV {x a b:Int}:zk x a b=true↔a<=x/\x<=b:=by simp[zk,ige,ile]
theorem zbv {x y:Int}:ieq x y=true↔x=y:=by simp[ieq]
theorem zEJ {x y:Int}:ine x y=true↔x≠y:=by simp[ine]
theorem zb1 {x y:Int}:ieq x y=false↔x≠y:=by simp[ieq]
theorem zce {a b:Bool}:(cond a b false)=true↔a=true/\b=true:=by cases a<;>simp
theorem zbT {a:Type}(l:List a)(i:Int)(x:a):(up l i x).length=l.length:=by simp[up]
theorem zd0 {a:Type}(l:List a)(i:Int)(x:a):ln (up l i x)=ln l:=by simp[up,ln]
theorem zv5 {a:Type}{l:List a}{i:Int}(h:hasB i (ln l)=true)(d:a):∃k:Nat,∃b:k<l.length,i=(k:Int)/\ix l i d=l[k]:=by rw[zD]at h;unfold ln at h;refine⟨i.toNat,by omega,by omega,?_⟩;simp[ix,List.getD,qB (show i.toNat<l.length by omega)]
theorem zku {a:Type}{l:List a}{k:Nat}(h:k<l.length)(d:a):ix l (k:Int) d=l[k]:=by simp[ix,List.getD,qB h]
theorem ziv {a:Type}{l:List a}{i:Int}(h:hasB i (ln l)=true)(d:a):ix l i d∈l:=by obtain⟨k,b,_,e⟩:=zv5 h d;rw[e];exact q9 b
theorem zoY {a:Type}{l:List a}{x:a}(h:x∈l)(d:a):∃i,hasB i (ln l)=true/\ix l i d=x:=by obtain⟨k,b,e⟩:=List.mem_iff_getElem.1 h;exact⟨(k:Int),zD.2 (by unfold ln;omega),(zku b d).trans e⟩
theorem zbl {a:Type}{l:List a}{i:Int}(h:hasB i (ln l)=true)(x d:a):ix (up l i x) i d=x:=by rw[zD]at h;unfold ln at h;simp[ix,up,List.getD,show i.toNat<l.length by omega]
theorem zbw {a:Type}{l:List a}{i j:Int}(b:0<=i)(c:0<=j)(h:i≠j)(x d:a):ix (up l i x) j d=ix l j d:=by have:i.toNat≠j.toNat:=(by omega);simp[ix,up,List.getD,jB,this]
theorem z5w {a:Type}(l:List a)(i:Int)(x y:a):up (up l i x) i y=up l i y:=by simp[up]
theorem zPz {a:Type}{l m:List a}(d:a)(h:l.length=m.length)(e:∀i,hasB i (ln l)=true->ix l i d=ix m i d):l=m:=by refine List.ext_getElem h fun k b c=>?_;have:=e (k:Int) (zD.2 (by unfold ln;omega));rwa [zku b,zku c] at this
theorem zJI {a:Type}{l:List a}{i:Int}(h:hasB i (ln l)=true)(d:a):up l i (ix l i d)=l:=by obtain⟨k,b,rfl,e⟩:=zv5 h d;rw[e];simp[up]
def cPg (x:Mon)(q:Int):Nat:=x.Outer.countP fun s=>ieq s.Page q
def zeR (l:List Mon)(q:Int):Nat:=(l.map fun x=>cPg x q).sum
theorem zQO {a:Type}(P:a->Bool){l:List a}{i:Int}(h:hasB i (ln l)=true)(x d:a):(up l i x).countP P+(if P (ix l i d) then 1 else 0)=l.countP P+(if P x then 1 else 0):=by
 obtain⟨k,b,rfl,e⟩:=zv5 h d;rw[e];simp only[up,kI,List.countP_set b];have:(if P l[k]=true then 1 else 0)<=l.countP P:=by
  split
  .rename_i hp;exact vG.2 ⟨l[k],q9 b,hp⟩
  .omega
 omega
theorem zyW {l:List Mon}{m:Int}(h:hasB m (ln l)=true)(x:Mon)(q:Int):zeR (up l m x) q+cPg (ix l m mZ) q=zeR l q+cPg x q:=by obtain⟨k,a,rfl,e⟩:=zv5 h mZ;rw[e];clear h e;unfold up;simp only[kI];induction l generalizing k with|nil=>simp at a|cons y l b=>(cases k with|zero=>simp[zeR];omega|succ k=>have:=b k (by simpa using a);simp[zeR] at this ⊢;omega)
theorem zHK {l:List Mon}{m p:Int}(a:hasB m (ln l)=true)(b:hasB p (ln (ix l m mZ).Outer)=true):1<=zeR l (ix (ix l m mZ).Outer p sZ).Page:=by have d:1<=cPg (ix l m mZ) (ix (ix l m mZ).Outer p sZ).Page:=vG.2 ⟨_,ziv b sZ,by simp[ieq]⟩;have:=zyW a (⟨[],[],[],[],[],0,0,[],0⟩:Mon) (ix (ix l m mZ).Outer p sZ).Page;have c:cPg (⟨[],[],[],[],[],0,0,[],0⟩:Mon) (ix (ix l m mZ).Outer p sZ).Page=0:=rfl;omega
theorem z5L {l:List Mon}{m p n k:Int}{q:Int}(b:hasB m (ln l)=true)(v:hasB p (ln (ix l m mZ).Outer)=true)(u:hasB n (ln l)=true)(f:hasB k (ln (ix l n mZ).Outer)=true)(z:(ix (ix l m mZ).Outer p sZ).Page=q)(t:(ix (ix l n mZ).Outer k sZ).Page=q)(h:zeR l q<=1):m=n/\p=k:=by have c:=zD.1 b;have d:=zD.1 u;have i:=zD.1 v;have g:=zD.1 f;have B:¬ ieq q (q+1)=true:=(by simp[ieq];omega);obtain⟨y,r⟩:∃y:Mon,y.Outer=up (ix l m mZ).Outer p ⟨q+1,0⟩:=⟨{ix l m mZ with Outer:=up (ix l m mZ).Outer p ⟨q+1,0⟩},rfl⟩;have x:=zQO (fun s=>ieq s.Page q) v (⟨q+1,0⟩:Slot) sZ;simp only[z,show ieq q q=true by simp[ieq],show ieq (q+1) q=false by simp[ieq];omega,if_true,kF,if_false] at x;have C:=zyW b y q;simp only[cPg,r] at C;have D:zeR (up l m y) q=0:=(by omega);apply Classical.byContradiction;intro A;have w:1<=zeR (up l m y) q:=(by by_cases a:m=n;{subst a;have j:p≠k:=fun e=>A ⟨rfl,e⟩;have:=zHK (l:=up l m y) (m:=m) (p:=k) (by rw[zd0];exact b) (by rw[zbl b,r,zd0];exact f);rw[zbl b,r,zbw i.1 g.1 j,t] at this;exact this};{have:=zHK (l:=up l m y) (m:=n) (p:=k) (by rw[zd0];exact u) (by rw[zbw c.1 d.1 a];exact f);rw[zbw c.1 d.1 a,t] at this;exact this});omega
theorem zug {a b c:Bool}:(cond a b c)=true↔(a=true/\b=true)\/(a=false/\c=true):=by cases a<;>simp
def SOk (s:Slot):Prop:=s=noSlot\/(0<=s.Page/\s.Page<=11/\1<=s.Rights/\s.Rights<=3)
theorem zWL {a b:Slot}(c:a.Page=b.Page)(d:a.Rights=b.Rights):a=b:=by cases a;cases b;simp_all
theorem zkk {a b:Slot}:zcQ a b=true↔a=b:=by simp only[zcQ,qD,zbv];exact⟨fun h=>zWL h.1 h.2,fun h=>by rw[h];exact⟨rfl,rfl⟩⟩
theorem zsr {a b:Slot}:zcQ a b=false↔a≠b:=by rw[<- vS,zkk]
theorem zZP {s:Slot}:zd2 s 12=true↔SOk s:=by unfold zd2 SOk;rw[zug,zkk,zsr];have:wsub .i64 12 1=11:=(by decide);simp only[this,zug,zcV];simp[igt];constructor;{rintro (h|⟨h,⟨a,b⟩,c⟩);{exact .inl h};{exact .inr ⟨a,b,c⟩}};{intro h;by_cases d:s=noSlot;{exact .inl d};{rcases h with h|⟨a,b,c⟩;{exact .inl h};{exact .inr ⟨d,⟨a,b⟩,c⟩}}}
theorem SOk.none {s:Slot}(h:SOk s)(a:s.Page = -1):s=noSlot:=by rcases h with h|h;{exact h};{omega}
theorem SOk.pos {s:Slot}(h:SOk s)(a:s.Page≠-1):0<=s.Page/\s.Page<=11/\1<=s.Rights/\s.Rights<=3:=by rcases h with h|h;{rw [h]at a;exact absurd rfl a};{exact h}
structure MOk (x:Mon):Prop where
 g1:1<=x.Guests.length
 g2:x.Guests.length<=2
 gt:x.Tables.length=x.Guests.length
 o8:x.Outer.length=8
 sl:∀s∈x.Outer,SOk s
 u8:x.Out.length=8
 d8:x.Dirty.length=8
 outs:x.Outs.length<=40
 pend:zdQ x.Pending=true
 tr:zk x.Traps 0 3=true
 own:zk x.Own 0 1000000000=true
 gs:∀g∈x.Guests,zd3 g=true
 fit:∀p,hasB p 8=true->zml (ix x.Outer p sZ) (ix x.Out p [])=true
theorem zHG {P:Nat->Bool}:∀{n i:Nat},zmL P n i=true↔∀j,i<=j->j<i+n->P j=true
 | 0,i=>by simp[zmL];intro j a b;omega
 |n+1,i=>by rw[zmL,qD,zHG];constructor;{rintro⟨a,b⟩ j c d;by_cases e:j=i;{rw [e];exact a};{exact b j (by omega) (by omega)}};{intro h;exact⟨h i (by omega) (by omega),fun j a b=>h j (by omega) (by omega)⟩}
theorem zrY {t:List Slot}{n p:Int}:zdc t n p=true↔(∀s∈t,zd2 s p=true)/\ln t=n:=by unfold zdc;rw[zce,qJ,zbv]
theorem zbaV {x:Mon}:zd7 x=true↔MOk x:=by unfold zd7;simp only[zce,zcV,zbv,zrY,zHG,qJ,ile,q0];constructor;{rintro⟨⟨g,i⟩,m,⟨k,l⟩,n,q,r,e,a,b,c,d⟩;unfold ln at *;refine⟨by omega,by omega,by omega,by omega,fun s f=>zZP.1 (k s f),by omega,by omega,by omega,e,zcV.2 a,zcV.2 b,c,fun p t=>?_⟩;have u:=zD.1 t;have:=d p.toNat (by omega) (by omega);unfold fits at this;rwa [show ((p.toNat:Nat):Int)=p by omega] at this};{intro h;obtain⟨g,i,m,k,l,n,q,r,e,a,b,c,d⟩:=h;unfold ln;exact⟨⟨by omega,by omega⟩,by omega,⟨fun s f=>zZP.2 (l s f),by omega⟩,by omega,by omega,by omega,e,zcV.1 a,zcV.1 b,c,fun j g i=>d (j:Int) (zD.2 (by omega))⟩}
theorem zjR (o:List Slot)(s:Slot)(q:Int):(s::o).countP (fun s=>ieq s.Page q)=o.countP (fun s=>ieq s.Page q)+if s.Page=q then 1 else 0:=by rw[uH];simp[ieq]
theorem zAn:∀{o:List Slot} {u:List Bool},(∀s∈o,s.Page<u.length)->
 (∀c,zgX o u=some c↔(∀q,0<=q->o.countP (fun s=>ieq s.Page q)+(if ix u q false then 1 else 0)<=1)/\
  c=(o.foldl (fun u s=>bif ilt s.Page 0 then u else up u s.Page true) u))
 |[],u,h,c=>by simp[zgX];exact⟨fun h=>⟨fun q _=>by split<;>omega,h.symm⟩,fun h=>h.2.symm⟩
 |s::o,u,h,c=>by
  unfold zgX;by_cases g:s.Page<0;{have b:ilt s.Page 0=true:=qI g;rw[b,cond_true,zAn (fun y d=>h y (qS _ d))];simp only[uP,b,cond_true];refine and_congr (forall_congr' fun q=>forall_congr' fun f=>?_) Iff.rfl;have e:(if s.Page=q then 1 else 0)=0:=if_neg (by omega);rw[zjR,e,j5]};{have b:ilt s.Page 0=false:=qL g;have k:=h s jA;have j:hasB s.Page (ln u)=true:=zD.2 ⟨by omega,by unfold ln;omega⟩;rw[b,cond_false];cases i:ix u s.Page false with|true=>rw[cond_true];constructor;{intro h;cases h};{rintro⟨h,_⟩;have:=h s.Page (by omega);rw[zjR,if_pos rfl,i] at this;simp at this}|false=>rw[cond_false,zAn (fun y d=>by rw[zbT];exact h y (qS _ d))];simp only[uP,b,cond_false];refine and_congr (forall_congr' fun q=>forall_congr' fun f=>?_) Iff.rfl;rw[zjR];by_cases a:s.Page=q;{subst a;rw[zbl j,i];simp};{rw [zbw (by omega) f a,if_neg a,j5]}}
theorem zJJ:∀(o:List Slot) (u:List Bool),(o.foldl (fun u s=>bif ilt s.Page 0 then u else up u s.Page true) u).length=u.length
 |[],u=>rfl
 |s::o,u=>by rw[uP,zJJ];cases ilt s.Page 0<;>simp [zbT]
theorem zQe:∀(o:List Slot) (u:List Bool) (q:Int),0<=q->(∀s∈o,s.Page<u.length)->(ix (o.foldl (fun u s=>bif ilt s.Page 0 then u else up u s.Page true) u) q false=true↔ix u q false=true\/1<=o.countP (fun s=>ieq s.Page q))
 |[],u,q,b,h=>by simp
 |s::o,u,q,b,h=>by
  rw[uP,zQe _ _ q b (fun y f=>by have:=h y (qS _ f);cases ilt s.Page 0<;>simpa [zbT] using this),zjR];by_cases c:s.Page<0;{rw [show ilt s.Page 0=true from qI c,cond_true,if_neg (by omega),j5]};{rw [show ilt s.Page 0=false from qL c,cond_false];have e:=h s jA;have d:hasB s.Page (ln u)=true:=zD.2 ⟨by omega,by unfold ln;omega⟩;by_cases a:s.Page=q;{subst a;rw[zbl d];simp};{rw [zbw (by omega) b a,if_neg a,j5]}}
theorem zzF:∀{l:List Mon} {u:List Bool},u.length=12->(zhS l u=true↔(∀x∈l,MOk x)/\∀q,0<=q->zeR l q+(if l≠[]/\ix u q false then 1 else 0)<=1)
 |[],u,c=>by simp[zhS,zeR]
 |x::l,u,c=>by
  unfold zhS;rw[zce,zbaV];constructor;{rintro⟨f,b⟩;have k:∀s∈x.Outer,s.Page<u.length:=fun s n=>(by rcases f.sl s n with h|h;{rw [h,c];decide};{rw [c];omega});split at b;{rename_i B d;obtain⟨g,rfl⟩:=(zAn k B).1 d;rw[zzF (by rw[zJJ,c])]at b;obtain⟨v,w⟩:=b;refine⟨by simpa using ⟨f,v⟩,fun q a=>?_⟩;have z:=g q a;have i:=w q a;have m:=zQe x.Outer u q a k;simp only[zeR,jE,uM]at i ⊢;unfold cPg at i ⊢;simp only[ne_eq,reduceCtorEq,not_false_eq_true,true_and];by_cases r:l=[];{subst r;simpa using z};{simp only [r,ne_eq,not_false_eq_true,true_and]at i;by_cases j:ix (x.Outer.foldl (fun u s=>bif ilt s.Page 0 then u else up u s.Page true) u) q false=true;{rw [if_pos j]at i;omega};{rw [if_neg j]at i;have p:¬ (ix u q false=true\/1<=x.Outer.countP (fun s=>ieq s.Page q)):=fun e=>j (m.2 e);rw[not_or]at p;rw[if_neg p.1];omega}}};{cases b}}
  .rintro⟨f,b⟩;have t:MOk x:=f x jA;refine⟨t,?_⟩;have k:∀s∈x.Outer,s.Page<u.length:=fun s n=>by rcases t.sl s n with h|h;{rw [h,c];decide};{rw [c];omega}
   have d:=(zAn k _).2 ⟨fun q a=>by
    have:=b q a;simp only[zeR,jE,uM,ne_eq,reduceCtorEq,not_false_eq_true,true_and] at this;unfold cPg at this;omega,rfl⟩
   rw[d];simp only;rw[zzF (by rw[zJJ,c])];refine⟨fun y A=>f y (qS _ A),fun q a=>?_⟩;have g:=b q a;have m:=zQe x.Outer u q a k;simp only[zeR,jE,uM,ne_eq,reduceCtorEq,not_false_eq_true,true_and]at g ⊢;unfold cPg at g ⊢;split;{rename_i j;rcases m.1 j.2 with h|h;{rw [if_pos h]at g;omega};{omega}};{omega}
structure HOk (h:Host):Prop where
 m12:h.Memory.length=12
 pgs:∀c∈h.Memory,zcu c=true
 n1:1<=h.Mons.length
 n3:h.Mons.length<=3
 b1:zfE h.Buffer=true
 b2:zfE h.IoBuffer=true
 mons:∀x∈h.Mons,MOk x
 uq:∀q,0<=q->zeR h.Mons q<=1
theorem zie {h:Host}:zb2 h=true↔HOk h:=by unfold zb2 zix;simp only[zce,zcV,zbv,qJ];rw[zzF (by simp[rp])];have g:∀q,ix (rp 12 false) q false=false:=fun q=>(by unfold ix rp;rw[kC,kH];split<;>rfl);simp only[g,kF,and_false,if_false,j5];unfold ln;constructor;{rintro⟨⟨e,f⟩,⟨i,j⟩,a,b,c,d⟩;exact⟨by omega,e,by omega,by omega,a,b,c,d⟩};{rintro⟨e,f,i,j,a,b,c,d⟩;exact⟨⟨f,by omega⟩,⟨by omega,by omega⟩,a,b,c,d⟩}
theorem HOk.mon {h:Host}(H:HOk h){m:Int}(a:hasB m (ln h.Mons)=true):MOk (ix h.Mons m mZ):=H.mons _ (ziv a _)
theorem MOk.hasO {x:Mon}(H:MOk x){p:Int}(a:hasB p 8=true):hasB p (ln x.Outer)=true:=by rw[ln,H.o8];exact a
theorem MOk.hasU {x:Mon}(H:MOk x){p:Int}(a:hasB p 8=true):hasB p (ln x.Out)=true:=by rw[ln,H.u8];exact a
theorem MOk.hasD {x:Mon}(H:MOk x){p:Int}(a:hasB p 8=true):hasB p (ln x.Dirty)=true:=by rw[ln,H.d8];exact a
theorem MOk.slot {x:Mon}(H:MOk x){p:Int}(a:hasB p 8=true):SOk (ix x.Outer p sZ):=H.sl _ (ziv (H.hasO a) _)
theorem HOk.uniq {h:Host}(H:HOk h){m p n k q:Int}(a:hasB m (ln h.Mons)=true)(f:hasB p 8=true)(b:hasB n (ln h.Mons)=true)(e:hasB k 8=true)(c:(ix (ix h.Mons m mZ).Outer p sZ).Page=q)(d:(ix (ix h.Mons n mZ).Outer k sZ).Page=q)(g:0<=q):m=n/\p=k :=
 z5L a ((H.mon a).hasO f) b ((H.mon b).hasO e) c d (H.uq q g)
theorem HOk.up {h:Host}(H:HOk h){m:Int}(k:hasB m (ln h.Mons)=true){x:Mon}(l:MOk x){a:Host}(e:a.Mons=up h.Mons m x)(d:a.Memory.length=12)(f:∀c∈a.Memory,zcu c=true)(i:zfE a.Buffer=true)(j:zfE a.IoBuffer=true)(n:∀q,0<=q->cPg x q<=cPg (ix h.Mons m mZ) q\/zeR h.Mons q=0/\cPg x q<=1):HOk a:=by refine⟨d,f,by rw[e,zbT];exact H.n1,by rw[e,zbT];exact H.n3,i,j,fun y b=>?_,fun q g=>?_⟩;{rw [e]at b;unfold E.up at b;rcases qT b with h|h;{exact H.mons y h};{rw [h];exact l}};{rw [e];have p:=zyW k x q;have r:=H.uq q g;have s:=n q g;omega}
structure KOk (k:Kept) (inner outer:List Slot):Prop where
 l1:k.Known.length=inner.length
 l2:k.Slots.length=inner.length
 at':∀i,hasB i (ln inner)=true->ix k.Slots i sZ=bif ix k.Known i false then zbx (ix inner i sZ) outer else noSlot
theorem zZA {k:Kept}{d e:List Slot}:zlw k d e=true↔KOk k d e:=by unfold zlw;have f:∀{a b:Int} {c:Bool},(cond (ine a b) false c)=true↔a=b/\c=true:=(by intro a b c;by_cases h:a=b;{simp [ine,h]};{simp [ine,h]});rw[f,f,zHG];unfold ln zqw;constructor;{rintro⟨m,n,g⟩;refine⟨by omega,by omega,fun i p=>?_⟩;have l:=zD.1 p;unfold ln at l;have:=zkk.1 (g i.toNat (by omega) (by omega));rwa [show ((i.toNat:Nat):Int)=i by omega] at this};{rintro⟨m,n,g⟩;exact⟨by omega,by omega,fun j q r=>zkk.2 (g _ (zD.2 (by unfold ln;omega)))⟩}
def TOk (x:Mon):Prop:=∀g,hasB g (ln x.Guests)=true->KOk (ix x.Tables g kZ) (ix x.Guests g gZ).Live x.Outer
theorem zEj {o:List Slot}{b:List Kept}:∀{l:List Guest} {i:Nat},b.length=i+l.length->(zkn o b l i=true↔∀j:Nat,(a:j<l.length)->KOk (ix b ((i+j:Nat):Int) kZ) l[j].Live o)
 |[],i,h=>by simp[zkn]
 |g::l,i,h=>by
  simp only[qX]at h;unfold zkn;rw[show ilt (i:Int) (ln b)=true from qI (by unfold ln;omega),cond_true,zce,zZA,zEj (by omega)];constructor;{rintro⟨d,e⟩ j a;cases j with|zero=>exact d|succ j=>have:=e j (by simpa using a);rw[show i+1+j=i+(j+1) by omega] at this;simpa using this};{intro c;refine⟨c 0 (by simp),fun j a=>?_⟩;have:=c (j+1) (by simpa using a);rw[show i+(j+1)=i+1+j by omega] at this;simpa using this}
theorem zbbr {x:Mon}(h:x.Tables.length=x.Guests.length):tablesOf x=true↔TOk x:=by unfold tablesOf TOk;rw[zEj (by omega)];constructor;{intro a g hg;obtain⟨k,c,rfl,e⟩:=zv5 hg gZ;have:=a k c;rw[e];rwa [jZ] at this};{intro a j b;have:=a (j:Int) (zD.2 (by unfold ln;omega));rw[zku b] at this;rwa [jZ]}
structure Rt (h:Host):Prop where
 t:∀m,hasB m (ln h.Mons)=true->TOk (ix h.Mons m mZ)
 e1:∀e∈h.Buffer,zcy h e=true
 e2:∀e∈h.IoBuffer,zcy h e=true
structure Safe (h:Host):Prop where
 ok:HOk h
 rt:Rt h
theorem zr1 {a b:Slot}:below' a b=true↔a=noSlot\/(a.Page=b.Page/\enough b.Rights a.Rights=true):=by unfold below';rw[zug,zkk,zsr,zce,zbv];by_cases h:a=noSlot<;>simp [h]
theorem z5x (x:Int):wand .i64 0 x=0:=by unfold wand;have:(BitVec.ofInt 64 0 &&& BitVec.ofInt 64 x)=0#64:=(by rw[show BitVec.ofInt 64 0=0#64 from rfl,BitVec.zero_and]);show IntKind.wrap .i64 ((BitVec.ofInt 64 0 &&& BitVec.ofInt 64 x).toNat:Int)=0;rw[this];rfl
theorem z5K {a:Slot}(h:below' a noSlot=true):a=noSlot:=by rcases zr1.1 h with h|⟨c,b⟩;{exact h};{refine zWL c ?_;unfold enough at b;rw[show noSlot.Rights=0 from rfl,z5x]at b;simp only[zce,zbv]at b;exact b.2.2.symm}
theorem zf3 {h:Host}{e:Entry}:zcy h e=true↔hasB (zcE e.Tag) (ln h.Mons)=true/\hasB (zdm e.Tag) (ln (ix h.Mons (zcE e.Tag) mZ).Guests)=true/\
 below' ⟨e.Host,e.Rights⟩ (zbx (zbC (ix (ix h.Mons (zcE e.Tag) mZ).Guests (zdm e.Tag) gZ).Live e.Page) (ix h.Mons (zcE e.Tag) mZ).Outer)=true:=by
 unfold zcy;rw[zce,zce]
theorem zRE {o:List Slot}{p q:Int}{s:Slot}(a:0<=p)(h:q≠p):zbC (up o p s) q=zbC o q:=by unfold zbC;rw[zd0];cases b:hasB q (ln o) with|false=>rfl|true=>rw[cond_true,cond_true,zbw a (zD.1 b).1 (Ne.symm h)]
theorem zKM {s:Slot}{o:List Slot}{p:Int}{t:Slot}(a:0<=p)(h:s.Page≠p):zbx s (up o p t)=zbx s o:=by unfold zbx;rw[zRE a h]
theorem z0r {s:Slot}{o:List Slot}:zbx s o=noSlot\/(zbx s o).Page=(zbC o s.Page).Page:=by unfold zbx;cases ieq s.Page (-1)<;>cases ieq (zbC o s.Page).Page (-1)<;>cases ieq (zen s.Rights (zbC o s.Page).Rights) 0<;>simp
theorem zlp (k:Kept)(q:Int):(zbN k q).Known.length=k.Known.length/\(zbN k q).Slots.length=k.Slots.length:=by unfold zbN;cases zdb k q<;>simp [zbT]
theorem zAP:∀(l:List Int) (k:Kept),(zeU k l).Known.length=k.Known.length/\(zeU k l).Slots.length=k.Slots.length
 |[],k=>⟨rfl,rfl⟩
 |q::l,k=>by have a:=zAP l (zbN k q);have b:=zlp k q;exact⟨a.1.trans b.1,a.2.trans b.2⟩
theorem zw6 {k:Kept}{q i:Int}(d:k.Known.length=k.Slots.length)(b:hasB i (ln k.Known)=true) :
 ix (zbN k q).Known i false=(cond (ieq q i) false (ix k.Known i false))/\ix (zbN k q).Slots i sZ=(cond (ieq q i) noSlot (ix k.Slots i sZ)):=by
 have c:hasB i (ln k.Slots)=true:=by unfold ln at b ⊢;rwa [<- d]
 unfold zbN zdb
 by_cases e:q=i
 .subst e;simp only[b,c,cond_true,ieq,beq_self_eq_true];exact⟨zbl b _ _,zbl c _ _⟩
 .rw [show ieq q i=false from zb1.2 e]
  by_cases a:hasB q (ln k.Known)=true
  .have hq':hasB q (ln k.Slots)=true:=by unfold ln at a ⊢;rwa [<- d]
   simp only[a,hq',cond_true,cond_false];exact⟨zbw (zD.1 a).1 (zD.1 b).1 e _ _,zbw (zD.1 a).1 (zD.1 b).1 e _ _⟩
  .rw [vS]at a;simp[a]
theorem zCU:∀(l:List Int) {k:Kept} {i:Int},k.Known.length=k.Slots.length->hasB i (ln k.Known)=true->
 (i∈l->ix (zeU k l).Known i false=false/\ix (zeU k l).Slots i sZ=noSlot)/\
 (i∉l->ix (zeU k l).Known i false=ix k.Known i false/\ix (zeU k l).Slots i sZ=ix k.Slots i sZ)
 |[],k,i,d,c=>⟨fun h=>by simp at h,fun _=>⟨rfl,rfl⟩⟩
 |q::l,k,i,d,c=>by have b:=zlp k q;have g:=zw6 (q:=q) d c;have f:=zCU l (k:=zbN k q) (i:=i) (by rw[b.1,b.2,d]) (by unfold ln at c ⊢;rwa [b.1]);show (_->ix (zeU (zbN k q) l).Known i false=_/\ix (zeU (zbN k q) l).Slots i sZ=_)/\(_->ix (zeU (zbN k q) l).Known i false=_/\ix (zeU (zbN k q) l).Slots i sZ=_);by_cases a:i∈l;{refine⟨fun _=>f.1 a,fun h=>absurd (qS _ a) h⟩};{rw [(f.2 a).1,(f.2 a).2,g.1,g.2];by_cases e:q=i;{subst e;simp[ieq]};{rw [zb1.2 e];simp[a,Ne.symm e]}}
theorem zIU {e:Type}{P:e->Bool}{d:e}:∀{l:List e} {n:Nat} {i:Int},i∈idxs P l n↔∃k:Nat,∃h:k<l.length,i=((n+k:Nat):Int)/\P l[k]=true
 |[],n,i=>by simp[idxs]
 |x::l,n,i=>by
  have g:=@zIU e P d l (n+1) i;unfold idxs;constructor
  .intro h;cases f:P x with
   |true=>rw[f,cond_true,qG]at h;rcases h with h|h;{exact⟨0,by simp,by simpa using h,f⟩};{obtain⟨k,c,b,a⟩:=g.1 h;exact⟨k+1,by simpa using c,by rw[b];congr 1;omega,by simpa using a⟩}
   |false=>rw[f,cond_false]at h;obtain⟨k,c,b,a⟩:=g.1 h;exact⟨k+1,by simpa using c,by rw[b];congr 1;omega,by simpa using a⟩
  {rintro⟨k,c,b,a⟩;cases k with|zero=>simp only[List.getElem_cons_zero]at a;rw[a,cond_true,b];exact jA|succ k=>have:=g.2 ⟨k,by simpa using c,by rw[b];congr 1;omega,by simpa using a⟩;cases P x;{exact this};{exact qS _ this}}
theorem zXy {l:List Slot}{p i:Int}:i∈zEq l p↔hasB i (ln l)=true/\(ix l i sZ).Page=p:=by unfold zEq;rw[zIU (d:=sZ)];constructor;{rintro⟨k,a,rfl,c⟩;rw[jZ,zku a];exact⟨zD.2 (by unfold ln;omega),zbv.1 c⟩};{rintro⟨a,b⟩;obtain⟨k,f,rfl,e⟩:=zv5 a sZ;exact⟨k,f,by simp,by rw[e]at b;exact zbv.2 b⟩}
theorem z06 {k:Kept}{a b:List Slot}(h:KOk k a b){p:Int}(j:0<=p)(s:Slot):KOk (zjV k a p) a (up b p s):=by have g:=zAP (zEq a p) k;refine⟨g.1.trans h.l1,g.2.trans h.l2,fun i d=>?_⟩;have e:hasB i (ln k.Known)=true:=(by unfold ln at d ⊢;rwa [h.l1]);have f:=zCU (zEq a p) (by rw[h.l1,h.l2]) e;unfold zjV;by_cases c:(ix a i sZ).Page=p;{have:=f.1 (zXy.2 ⟨d,c⟩);rw[this.1,this.2];rfl};{have:=f.2 (fun h=>c (zXy.1 h).2);rw[this.1,this.2,h.at' i d,zKM j c]}
theorem zEi (b:List Guest)(p:Int):∀(n:Nat) (a:List Kept),(zl1 b p n a).length=a.length
 | 0,a=>rfl
 |n+1,a=>by rw[zl1,zbT,zEi b p n]
theorem zPV (b:List Guest)(p:Int):∀(n:Nat) (a:List Kept),n<=a.length->∀i,0<=i->ix (zl1 b p n a) i kZ=if i<n then zjV (ix a i kZ) (ix b i gZ).Live p else ix a i kZ
 | 0,a,_,i,c=>by rw[if_neg (by omega)];rfl
 |n+1,a,d,i,c=>by rw[zl1];by_cases e:i=n;{subst e;rw[zbl (by rw[ln,zEi];exact zD.2 (by omega)),if_pos (by omega),zPV b p n a (by omega) _ c,if_neg (by omega)]};{rw [zbw (by omega) c (Ne.symm e),zPV b p n a (by omega) i c];by_cases h:i<n;{rw [if_pos h,if_pos (by omega)]};{rw [if_neg h,if_neg (by omega)]}}
def zkl (x:Mon)(p:Int)(s:Slot):Mon:={zkZ x p x.Tables.length with Outer:=up x.Outer p s}
theorem z5e {x:Mon}(h:TOk x)(c:x.Tables.length=x.Guests.length){p:Int}(b:0<=p)(s:Slot):TOk (zkl x p s):=by intro g hg;have a:hasB g (ln x.Guests)=true:=hg;show KOk (ix (zl1 x.Guests p x.Tables.length x.Tables) g kZ) (ix x.Guests g gZ).Live (up x.Outer p s);rw[zPV _ _ _ _ (qY _) _ (zD.1 a).1,if_pos (by have:=zD.1 a;unfold ln at this;omega)];exact z06 (h g a) b s
theorem zs6 (h:Host)(m p:Int)(s:Slot):(zcq h m p s).Mons=up h.Mons m (zkl (ix h.Mons m mZ) p s):=by unfold zcq;cases ine (ix (ix h.Mons m zi).Outer p zU).Page (-1)<;>rfl
theorem zxq (h:Host)(m p:Int)(s:Slot):(zcq h m p s).Memory=h.Memory:=by unfold zcq;cases ine (ix (ix h.Mons m zi).Outer p zU).Page (-1)<;>rfl
theorem zRG (h:Host)(m p:Int)(s:Slot):(zcq h m p s).Buffer=(cond (ieq (ix (ix h.Mons m mZ).Outer p sZ).Page (-1)) h.Buffer (flushed h.Buffer (ix (ix h.Mons m mZ).Outer p sZ).Page))/\
 (zcq h m p s).IoBuffer=(cond (ieq (ix (ix h.Mons m mZ).Outer p sZ).Page (-1)) h.IoBuffer (flushed h.IoBuffer (ix (ix h.Mons m mZ).Outer p sZ).Page)):=by
 unfold zcq
 by_cases e:(ix (ix h.Mons m zi).Outer p zU).Page = -1
 .rw [show ine (ix (ix h.Mons m zi).Outer p zU).Page (-1)=false by simp[ine,e],show ieq (ix (ix h.Mons m mZ).Outer p sZ).Page (-1)=true from zbv.2 e]
  exact⟨rfl,rfl⟩
 .rw [show ine (ix (ix h.Mons m zi).Outer p zU).Page (-1)=true from zEJ.2 e,show ieq (ix (ix h.Mons m mZ).Outer p sZ).Page (-1)=false from zb1.2 e]
  exact⟨rfl,rfl⟩
theorem zKR {h k:Host}{m p:Int}{s:Slot}(n:hasB m (ln h.Mons)=true)(q:hasB p (ln (ix h.Mons m mZ).Outer)=true){x:Mon}(u:k.Mons=up h.Mons m x)(t:x.Guests=(ix h.Mons m mZ).Guests)(v:x.Outer=up (ix h.Mons m mZ).Outer p s){e:Entry}(w:zcy h e=true)(c:(ix (ix h.Mons m mZ).Outer p sZ).Page = -1\/e.Host≠(ix (ix h.Mons m mZ).Outer p sZ).Page):zcy k e=true:=by obtain⟨f,g,b⟩:=zf3.1 w;rw[zf3,u,zd0];refine⟨f,?_⟩;by_cases l:m=zcE e.Tag;{rw [<- l]at f g b ⊢;rw[zbl n,t,v];refine⟨g,?_⟩;by_cases j:(zbC (ix (ix h.Mons m mZ).Guests (zdm e.Tag) gZ).Live e.Page).Page=p;{have a:zbx (zbC (ix (ix h.Mons m mZ).Guests (zdm e.Tag) gZ).Live e.Page) (ix h.Mons m mZ).Outer=noSlot\/e.Host≠(zbx (zbC (ix (ix h.Mons m mZ).Guests (zdm e.Tag) gZ).Live e.Page) (ix h.Mons m mZ).Outer).Page:=(by rcases z0r (s:=zbC (ix (ix h.Mons m mZ).Guests (zdm e.Tag) gZ).Live e.Page) (o:=(ix h.Mons m mZ).Outer) with d|d;{exact .inl d};{rw [j]at d;have r:zbC (ix h.Mons m mZ).Outer p=ix (ix h.Mons m mZ).Outer p sZ:=(by unfold zbC;rw[q];rfl);rw[r]at d;rcases c with c|c;{left;unfold zbx;rw[j,r,c,show ieq (-1) (-1)=true from rfl];cases ieq p (-1)<;>rfl};{exact .inr (by rw[d];exact c)}});have i:(⟨e.Host,e.Rights⟩:Slot)=noSlot:=(by rcases a with a|a;{rw [a]at b;exact z5K b};{rcases zr1.1 b with h|h;{exact h};{exact absurd h.1 a}});rw[i];exact zr1.2 (.inl rfl)};{rw [zKM (zD.1 q).1 j];exact b}};{rw [zbw (zD.1 n).1 (zD.1 f).1 l];exact⟨g,b⟩}
theorem zz1 {h:Host}(H:Rt h){m p:Int}(d:hasB m (ln h.Mons)=true)(q:hasB p (ln (ix h.Mons m mZ).Outer)=true)(u:(ix h.Mons m mZ).Tables.length=(ix h.Mons m mZ).Guests.length)(s:Slot):Rt (zcq h m p s):=by have c:=zRG h m p s;have i:=zs6 h m p s;have f:∀(b:List Entry),(∀e∈b,zcy h e=true)->∀e∈(cond (ieq (ix (ix h.Mons m mZ).Outer p sZ).Page (-1)) b (flushed b (ix (ix h.Mons m mZ).Outer p sZ).Page)),zcy (zcq h m p s) e=true:=(by intro b c e a;by_cases n:(ix (ix h.Mons m mZ).Outer p sZ).Page = -1;{rw [zbv.2 n,cond_true]at a;exact zKR d q i rfl rfl (c e a) (.inl n)};{rw [zb1.2 n,cond_false]at a;obtain⟨j,l⟩:=List.mem_filter.1 a;exact zKR d q i rfl rfl (c e j) (.inr (by simpa [ieq] using l))});refine⟨fun k g=>?_,fun e a=>f _ H.e1 e (by rwa [c.1]at a),fun e a=>f _ H.e2 e (by rwa [c.2]at a)⟩;rw[i]at g ⊢;rw[zd0]at g;by_cases r:m=k;{subst r;rw[zbl d];exact z5e (H.t m d) u (zD.1 q).1 s};{rw [zbw (zD.1 d).1 (zD.1 g).1 r];exact H.t k g}
theorem zQF:∀(l a:List Entry),allI (alone (a++l)) l a.length=true↔(∀x∈l,∀y∈a,sameKey x y=false)/\l.Pairwise (fun y x=>sameKey x y=false)
 |[],a=>by simp[allI]
 |x::l,a=>by have g:=zQF l (a++[x]);rw[kD,List.singleton_append,kE,uB] at g;rw[allI,qD,g,List.pairwise_cons];have h:alone (a++x::l) a.length x=true↔∀y∈a,sameKey x y=false:=(by unfold alone;rw[kO rfl,qJ];simp);rw[h];constructor;{rintro⟨d,e,f⟩;refine⟨fun z c y b=>?_,fun z c=>e z c x (by simp),f⟩;rcases qG.1 c with rfl|c;{exact d y b};{exact e z c y (by simp[b])}};{rintro⟨d,e,f⟩;refine⟨fun y b=>d x (by simp) y b,fun z c y b=>?_,f⟩;rcases jK.1 b with b|b;{exact d z (by simp[c]) y b};{rw [qF.1 b];exact e z c}}
theorem zEv {l:List Entry}:zfE l=true↔l.Pairwise (fun y x=>sameKey x y=false)/\l.length<=6:=by unfold zfE;have:=zQF l [];simp only[jU,uO] at this;have a:ile (ln l) 6=true↔l.length<=6:=(by rw[ile,q0,ln];omega);rw[zce,this,a];simp
theorem zzh {l:List Entry}(h:zfE l=true)(P:Entry->Bool):zfE (l.filter P)=true:=by rw[zEv]at h ⊢;exact⟨h.1.sublist List.filter_sublist,qV (uD _ _) h.2⟩
theorem zGE {l:List Entry}(h:zfE l=true)(p:Int):zfE (flushed l p)=true:=zzh h _
theorem zT2 {x x':Mon}{p:Int}(a:hasB p (ln x.Outer)=true){s:Slot}(h:x'.Outer=up x.Outer p s)(q:Int):cPg x' q+(if (ix x.Outer p sZ).Page=q then 1 else 0)=cPg x q+(if s.Page=q then 1 else 0):=by have:=zQO (fun s=>ieq s.Page q) a s sZ;simp only[zbv] at this;unfold cPg;rw[h];exact this
theorem zqq {s:Slot}(d:SOk s){c:List Int}:zml s c=true↔(s.Page = -1->zcu c=true)/\(s.Page≠-1->enough s.Rights 1=true/\c=[]):=by unfold zml;by_cases e:s=noSlot;{rw [zkk.2 e,cond_true,e];simp[noSlot]};{rw [zsr.2 e,cond_false,zce];have:s.Page≠-1:=fun h=>e (d.none h);have b:ile (ln c) 0=true↔c=[]:=(by rw[ile,q0,ln,<- uX];omega);rw[b];exact⟨fun h=>⟨fun a=>absurd a this,fun _=>h⟩,fun h=>h.2 this⟩}
structure Chg (x x':Mon) (p:Int) (s:Slot) (c:List Int):Prop where
 o:x'.Outer=up x.Outer p s
 u:x'.Out=up x.Out p c
 g:x'.Guests=x.Guests
 t:x'.Tables.length=x.Tables.length
 d:x'.Dirty.length=x.Dirty.length
 a1:x'.Outs=x.Outs
 a2:x'.Pending=x.Pending
 a3:x'.Traps=x.Traps
 a4:x'.Own=x.Own
theorem MOk.chg {x i:Mon}(H:MOk x){p:Int}(a:hasB p 8=true){s:Slot}{c:List Int}(k:Chg x i p s c)(l:SOk s)(j:zml s c=true):MOk i:=by refine⟨by rw[k.g];exact H.g1,by rw[k.g];exact H.g2,by rw[k.t,k.g];exact H.gt,by rw[k.o,zbT];exact H.o8,fun y f=>?_,by rw[k.u,zbT];exact H.u8,by rw[k.d];exact H.d8,by rw[k.a1];exact H.outs,by rw[k.a2];exact H.pend,by rw[k.a3];exact H.tr,by rw[k.a4];exact H.own,by rw[k.g];exact H.gs,fun q b=>?_⟩;{rw [k.o]at f;rcases qT f with h|h;{exact H.sl y h};{rw [h];exact l}};{rw [k.o,k.u];by_cases e:p=q;{subst e;rw[zbl (H.hasO a),zbl (H.hasU a)];exact j};{rw [zbw (zD.1 a).1 (zD.1 b).1 e,zbw (zD.1 a).1 (zD.1 b).1 e];exact H.fit q b}}
structure Like (h r:Host):Prop where
 len:r.Mons.length=h.Mons.length
 g:∀i,hasB i (ln h.Mons)=true->(ix r.Mons i mZ).Guests=(ix h.Mons i mZ).Guests
 o:∀i,hasB i (ln h.Mons)=true->(ix r.Mons i mZ).Outs=(ix h.Mons i mZ).Outs
 p:∀i,hasB i (ln h.Mons)=true->(ix r.Mons i mZ).Pending=(ix h.Mons i mZ).Pending
 tr:∀i,hasB i (ln h.Mons)=true->(ix r.Mons i mZ).Traps=(ix h.Mons i mZ).Traps
 ow:∀i,hasB i (ln h.Mons)=true->(ix r.Mons i mZ).Own=(ix h.Mons i mZ).Own
 pg:∀i k,hasB i (ln h.Mons)=true->hasB k 8=true->zcK r i k=zcK h i k
theorem Like.refl (h:Host):Like h h:=⟨rfl,fun _ _=>rfl,fun _ _=>rfl,fun _ _=>rfl,fun _ _=>rfl,fun _ _=>rfl,fun _ _ _ _=>rfl⟩
theorem Like.trans {a b c:Host}(x:Like a b)(y:Like b c):Like a c:=by have k:∀i,hasB i (ln a.Mons)=true->hasB i (ln b.Mons)=true:=fun i e=>(by unfold ln at e ⊢;rwa [x.len]);exact⟨y.len.trans x.len,fun i h=>(y.g i (k i h)).trans (x.g i h),fun i h=>(y.o i (k i h)).trans (x.o i h),fun i h=>(y.p i (k i h)).trans (x.p i h),fun i h=>(y.tr i (k i h)).trans (x.tr i h),fun i h=>(y.ow i (k i h)).trans (x.ow i h),fun i q h d=>(y.pg i q (k i h) d).trans (x.pg i q h d)⟩
theorem Like.has {h r:Host}(k:Like h r){i:Int}:hasB i (ln r.Mons)=hasB i (ln h.Mons):=by unfold ln;rw[k.len]
theorem zrg {h r:Host}{m:Int}:∀(n i:Nat),(∀k:Nat,i<=k->k<i+n->zcK r m (k:Int)=zcK h m (k:Int))->zcC r m n i=zcC h m n i
 | 0,i,_=>rfl
 |n+1,i,h=>by rw[zcC,zcC,h i (by omega) (by omega),zrg n (i+1) (fun k a b=>h k (by omega) (by omega))]
theorem Like.seen {h r:Host}(k:Like h r)(m:Int):zK r m=zK h m:=by unfold zK;rw[k.has];cases a:hasB m (ln h.Mons) with|false=>rfl|true=>simp only[cond_true];rw[k.g m a,k.o m a,k.p m a,zrg 8 0 (fun j b c=>k.pg m j a (zD.2 (by omega)))]
theorem zom {h:Host}{m p:Int}(a:hasB m (ln h.Mons)=true)(c:hasB p 8=true)(b:hasB p (ln (ix h.Mons m mZ).Outer)=true) :
 zcK h m p=bif ieq (ix (ix h.Mons m mZ).Outer p sZ).Page (-1) then zcB (ix h.Mons m mZ).Out p else zcB h.Memory (ix (ix h.Mons m mZ).Outer p sZ).Page:=by
 unfold zcK;have:zbC (ix h.Mons m mZ).Outer p=ix (ix h.Mons m mZ).Outer p sZ:=by unfold zbC;rw[b];rfl
 rw[a,c,cond_true,cond_true,this]
 by_cases e:(ix (ix h.Mons m mZ).Outer p sZ).Page = -1
 .rw [zbv.2 e,show ine (ix (ix h.Mons m mZ).Outer p sZ).Page (-1)=false by simp[ine,e]];rfl
 .rw [zb1.2 e,show ine (ix (ix h.Mons m mZ).Outer p sZ).Page (-1)=true from zEJ.2 e];rfl
theorem zlD {m:List (List Int)}{p:Int}(h:hasB p (ln m)=true):zcB m p=ix m p []:=by unfold zcB;rw[h];rfl
theorem zRp {m:List (List Int)}(h:∀c∈m,zcu c=true)(p:Int):zcu (zcB m p)=true:=by unfold zcB;cases a:hasB p (ln m) with|false=>rfl|true=>exact h _ (ziv a _)
theorem zwN {h r:Host}(H:HOk h){m p:Int}(b:hasB m (ln h.Mons)=true)(i:hasB p 8=true){x:Mon}{s:Slot}{c:List Int}(n:r.Mons=up h.Mons m x)(k:Chg (ix h.Mons m mZ) x p s c)(u:SOk s)(t:zml s c=true)(f:r.Memory.length=12)(g:∀c∈r.Memory,zcu c=true)(j:zfE r.Buffer=true)(l:zfE r.IoBuffer=true)(v:0<=s.Page->s.Page=(ix (ix h.Mons m mZ).Outer p sZ).Page\/zeR h.Mons s.Page=0):HOk r:=by refine H.up b ((H.mon b).chg i k u t) n f g j l fun q z=>?_;have d:=zT2 ((H.mon b).hasO i) k.o q;by_cases e:s.Page=q;{have a:=v (by omega);rw[if_pos e]at d;rcases a with a|a;{rw [if_pos (by omega)]at d;left;omega};{right;rw[e] at a;refine⟨a,?_⟩;have:=zyW b x q;have y:cPg (ix h.Mons m mZ) q<=zeR h.Mons q:=(by have:=zyW b (⟨[],[],[],[],[],0,0,[],0⟩:Mon) q;have w:cPg (⟨[],[],[],[],[],0,0,[],0⟩:Mon) q=0:=rfl;omega);omega}};{rw [if_neg e]at d;left;split at d<;>omega}
theorem zv7 {h r:Host}(H:HOk h){m p:Int}(a:hasB m (ln h.Mons)=true)(y:hasB p 8=true){x:Mon}{s:Slot}{c:List Int}(n:r.Mons=up h.Mons m x)(k:Chg (ix h.Mons m mZ) x p s c)(B:(cond (ieq s.Page (-1)) c (zcB r.Memory s.Page))=zcK h m p)(f:∀i q,hasB i (ln h.Mons)=true->hasB q 8=true->¬ (i=m/\q=p)->(ix (ix h.Mons i mZ).Outer q sZ).Page≠-1->zcB r.Memory (ix (ix h.Mons i mZ).Outer q sZ).Page=zcB h.Memory (ix (ix h.Mons i mZ).Outer q sZ).Page):Like h r:=by have l:=(zD.1 a).1;have t:=(zD.1 y).1;have e:∀{C:Type} (F:Mon->C),F x=F (ix h.Mons m mZ)->∀i,hasB i (ln h.Mons)=true->F (ix r.Mons i mZ)=F (ix h.Mons i mZ):=(by intro C F D i d;rw[n];by_cases e:m=i;{subst e;rw[zbl a];exact D};{rw [zbw l (zD.1 d).1 e]});refine⟨by rw[n,zbT],e Mon.Guests k.g,e Mon.Outs k.a1,e Mon.Pending k.a2,e Mon.Traps k.a3,e Mon.Own k.a4,fun i q d b=>?_⟩;have A:hasB i (ln r.Mons)=true:=(by rw[n,zd0];exact d);have w:=(H.mon d).hasO b;have z:hasB q (ln (ix r.Mons i mZ).Outer)=true:=(by rw[n];by_cases e:m=i;{subst e;rw[zbl a,k.o,zd0];exact w};{rw [zbw l (zD.1 d).1 e];exact w});rw[zom A b z];by_cases e:m=i;{subst e;rw[n,zbl a,k.o,k.u];by_cases v:p=q;{subst v;rw[zbl ((H.mon a).hasO y),<- B];cases ieq s.Page (-1);{rfl};{rw [cond_true,cond_true,zlD (by rw[zd0];exact(H.mon a).hasU y),zbl ((H.mon a).hasU y)]}};{rw [zbw t (zD.1 b).1 v,zom a b w];by_cases j:(ix (ix h.Mons m mZ).Outer q sZ).Page = -1;{rw [zbv.2 j,cond_true,cond_true,zlD (by rw[zd0];exact(H.mon a).hasU b),zlD ((H.mon a).hasU b),zbw t (zD.1 b).1 v]};{rw [zb1.2 j,cond_false,cond_false,f m q a b (fun h=>v h.2.symm) j]}}};{rw [n,zbw l (zD.1 d).1 e,zom d b w];by_cases j:(ix (ix h.Mons i mZ).Outer q sZ).Page = -1;{rw [zbv.2 j,cond_true,cond_true]};{rw [zb1.2 j,cond_false,cond_false,f i q d b (fun h=>e h.1.symm) j]}}
structure Op (h r:Host):Prop where
 ok:HOk r
 like:Like h r
 rt:Rt h->Rt r
theorem Op.refl {h:Host}(H:HOk h):Op h h:=⟨H,Like.refl h,id⟩
theorem Op.trans {a b c:Host}(x:Op a b)(y:Op b c):Op a c:=⟨y.ok,x.like.trans y.like,fun h=>y.rt (x.rt h)⟩
theorem Op.safe {h r:Host}(k:Op h r)(s:Safe h):Safe r:=⟨k.ok,k.rt s.rt⟩
theorem zMM {h r:Host}(H:Rt h){m:Int}(l:hasB m (ln h.Mons)=true){x:Mon}(u:r.Mons=up h.Mons m x)(q:r.Buffer=h.Buffer)(s:r.IoBuffer=h.IoBuffer)(y:x.Guests.length=(ix h.Mons m mZ).Guests.length)(w:∀g,hasB g (ln (ix h.Mons m mZ).Guests)=true->(ix x.Guests g gZ).Live=(ix (ix h.Mons m mZ).Guests g gZ).Live)(z:x.Tables=(ix h.Mons m mZ).Tables)(v:x.Outer=(ix h.Mons m mZ).Outer):Rt r:=by have d:=(zD.1 l).1;have hg:∀g,hasB g (ln x.Guests)=hasB g (ln (ix h.Mons m mZ).Guests):=fun g=>(by unfold ln;rw[y]);have f:∀e,zcy h e=true->zcy r e=true:=(by intro e c;obtain⟨n,i,p⟩:=zf3.1 c;rw[zf3,u,zd0];refine⟨n,?_⟩;by_cases b:m=zcE e.Tag;{rw [<- b]at n i p ⊢;rw[zbl l,hg,w _ i,v];exact⟨i,p⟩};{rw [zbw d (zD.1 n).1 b];exact⟨i,p⟩});refine⟨fun k j=>?_,fun e c=>f e (H.e1 e (by rwa [q]at c)),fun e c=>f e (H.e2 e (by rwa [s]at c))⟩;rw[u]at j ⊢;rw[zd0]at j;by_cases b:m=k;{subst b;rw[zbl l];intro g a;rw[hg]at a;rw[z,w g a,v];exact H.t m l g a};{rw [zbw d (zD.1 j).1 b];exact H.t k j}
theorem zp6 {h a:Host}{m p:Int}{s:Slot}{x:Mon}(b:hasB m (ln h.Mons)=true)(e:a.Mons=up h.Mons m x):(zcq a m p s).Mons=up h.Mons m (zkl x p s):=by rw[zs6,e,zbl b,z5w]
theorem zCG {x a:Mon}{p:Int}{s:Slot}{c:List Int}(h:a.Outer=x.Outer)(j:a.Out=up x.Out p c)(hg:a.Guests=x.Guests)(i:a.Tables=x.Tables)(g:a.Dirty.length=x.Dirty.length)(b:a.Outs=x.Outs)(d:a.Pending=x.Pending)(e:a.Traps=x.Traps)(f:a.Own=x.Own):Chg x (zkl a p s) p s c :=
 ⟨by show up a.Outer p s=_;rw[h],j,hg,by show (zl1 a.Guests p a.Tables.length a.Tables).length=_;rw[zEi,i],g,b,d,e,f⟩
theorem zvn {h:Host}{m p:Int}{s:Slot}(a:zfE h.Buffer=true)(b:zfE h.IoBuffer=true):zfE (zcq h m p s).Buffer=true/\zfE (zcq h m p s).IoBuffer=true:=by have:=zRG h m p s;rw[this.1,this.2];cases ieq (ix (ix h.Mons m mZ).Outer p sZ).Page (-1);{exact⟨zGE a _,zGE b _⟩};{exact⟨a,b⟩}
theorem hasM {h:Host}(H:HOk h){s:Slot}(b:SOk s)(a:s.Page≠-1):hasB s.Page (ln h.Memory)=true:=by have:=b.pos a;exact zD.2 ⟨this.1,by unfold ln;rw[H.m12];omega⟩
theorem zZG {h:Host}(H:HOk h){m p:Int}(b:hasB m (ln h.Mons)=true)(c:hasB p 8=true)(l:(ix (ix h.Mons m mZ).Outer p sZ).Page≠-1):Op h (zdV h m p):=by
 have X:=H.mon b;have f:(zdV h m p).Mons=up h.Mons m (zkl {ix h.Mons m mZ with Out:=up (ix h.Mons m mZ).Out p (zcB h.Memory (ix (ix h.Mons m mZ).Outer p sZ).Page)} p noSlot):=zp6 b rfl;have k:Chg (ix h.Mons m mZ) (zkl {ix h.Mons m mZ with Out:=up (ix h.Mons m mZ).Out p (zcB h.Memory (ix (ix h.Mons m mZ).Outer p sZ).Page)} p noSlot) p noSlot (zcB h.Memory (ix (ix h.Mons m mZ).Outer p sZ).Page):=zCG rfl rfl rfl rfl rfl rfl rfl rfl rfl;have a:(zdV h m p).Memory=h.Memory:=zxq _ _ _ _;have g:=zvn (h:=zfc h m p) (m:=m) (p:=p) (s:=noSlot) H.b1 H.b2;refine⟨zwN H b c f k (.inl rfl) ((zqq (.inl rfl)).2 ⟨fun _=>zRp H.pgs _,fun h=>absurd rfl h⟩) (by rw[a];exact H.m12) (by rw[a];exact H.pgs) g.1 g.2 (fun h=>absurd h (by decide)),
  zv7 H b c f k ?_ (fun i q _ _ _ _=>by rw[a]),fun R=>?_⟩
 {rw [zom b c (X.hasO c),zb1.2 l];rfl};{have j:Rt (zfc h m p):=zMM (x:={ix h.Mons m mZ with Out:=up (ix h.Mons m mZ).Out p (zcB h.Memory (ix (ix h.Mons m mZ).Outer p sZ).Page)}) R b rfl rfl rfl rfl (fun _ _=>rfl) rfl rfl;have d:hasB m (ln (zfc h m p).Mons)=true:=(by show hasB m (ln (up h.Mons m _))=true;rw[zd0];exact b);have e:ix (zfc h m p).Mons m mZ={ix h.Mons m mZ with Out:=up (ix h.Mons m mZ).Out p (zcB h.Memory (ix (ix h.Mons m mZ).Outer p sZ).Page)}:=zbl b _ _;exact zz1 j d (by rw[e];exact X.hasO c) (by rw[e];exact X.gt) noSlot}
theorem zGN {o:List Slot}{q:Int}:zoO o q=none↔o.countP (fun s=>ieq s.Page q)=0:=by unfold zoO;rw[List.findIdx?_eq_none_iff,uN];simp
theorem zXQ {o:List Slot}{q:Int}{k:Nat}(h:zoO o q=some k):∃a:k<o.length,o[k].Page=q:=by unfold zoO at h;rw[u2]at h;obtain⟨a,b,_⟩:=h;exact⟨a,zbv.1 b⟩
theorem zzT {q:Int}:∀(l:List Mon) (i:Nat),((ziy q l i).1<0↔zeR l q=0)/\(¬ (ziy q l i).1<0->∃a b:Nat,∃f:a<l.length,∃g:b<l[a].Outer.length,ziy q l i=(((i+a:Nat):Int),(b:Int))/\l[a].Outer[b].Page=q)
 |[],i=>⟨by simp[ziy,zeR],fun h=>absurd (show (-1:Int)<0 by decide) h⟩
 |x::l,i=>by have j:=zzT (q:=q) l (i+1);unfold ziy;split;{rename_i k c;obtain⟨m,n⟩:=zXQ c;refine⟨⟨fun h=>by simp at h;omega,fun h=>?_⟩,fun _=>⟨0,k,by simp,m,by simp,n⟩⟩;exfalso;simp only[zeR,jE,uM]at h;have d:x.Outer.countP (fun s=>ieq s.Page q)=0:=(by unfold cPg at h;omega);rw[zGN.2 d]at c;cases c};{rename_i c;have d:=zGN.1 c;refine⟨?_,fun h=>?_⟩;{rw [j.1];simp only[zeR,jE,uM];unfold cPg;omega};{obtain⟨a,b,f,g,e,p⟩:=j.2 h;exact⟨a+1,b,by simpa using f,by simpa using g,by rw[e];simp;omega,by simpa using p⟩}}
theorem zJe {h:Host}{q:Int}(a:0<=q):(zbK h q).1<0↔zeR h.Mons q=0:=by unfold zbK;rw[show ilt q 0=false from qL (by omega),cond_false];exact(zzT h.Mons 0).1
theorem z7e {h:Host}(H:HOk h){q:Int}(j:0<=q)(c:¬ (zbK h q).1<0):hasB (zbK h q).1 (ln h.Mons)=true/\hasB (zbK h q).2 8=true/\(ix (ix h.Mons (zbK h q).1 mZ).Outer (zbK h q).2 sZ).Page=q:=by unfold zbK at c ⊢;rw[show ilt q 0=false from qL (by omega),cond_false]at c ⊢;obtain⟨a,b,d,f,e,g⟩:=(zzT h.Mons 0).2 c;rw[e,jZ];have i:=(H.mons _ (q9 d)).o8;exact⟨zD.2 (by unfold ln;simp;omega),zD.2 (by simp;omega),by rw[zku d,zku f];exact g⟩
theorem zUX {P:Nat->Bool}:∀{n i:Nat} {q:Int},q∈zw7 P n i↔∃k:Nat,q=(k:Int)/\i<=k/\k<i+n/\P k=true
 | 0,i,q=>by simp[zw7];intro k _ _ _;omega
 |n+1,i,q=>by
  have d:=@zUX P n (i+1) q;unfold zw7;constructor
  .intro h;cases c:P i with
   |true=>rw[c,cond_true,qG]at h;rcases h with h|h;{exact⟨i,h,by omega,by omega,c⟩};{obtain⟨k,a,f,g,b⟩:=d.1 h;exact⟨k,a,by omega,by omega,b⟩}
   |false=>rw[c,cond_false]at h;obtain⟨k,a,f,g,b⟩:=d.1 h;exact⟨k,a,by omega,by omega,b⟩
  {rintro⟨k,a,f,g,b⟩;by_cases e:k=i;{subst e;rw[b,cond_true,a];exact jA};{have:=d.2 ⟨k,a,by omega,by omega,b⟩;cases P i;{exact this};{exact qS _ this}}}
theorem zH4 {h:Host}{q:Int}:q∈zco h↔hasB q (ln h.Memory)=true/\zeR h.Mons q=0:=by unfold zco;rw[zUX];constructor;{rintro⟨k,rfl,b,c,d⟩;exact⟨zD.2 (by unfold ln;omega),(zJe (by omega)).1 (qE d)⟩};{rintro⟨b,c⟩;have a:=zD.1 b;unfold ln at a;refine⟨q.toNat,by omega,by omega,by omega,?_⟩;rw[show ((q.toNat:Nat):Int)=q by omega];exact qI ((zJe a.1).2 c)}
theorem z0W {h:Host}(a:zco h≠[]):hasB (ix (zco h) 0 0) (ln h.Memory)=true/\zeR h.Mons (ix (zco h) 0 0)=0:=by refine zH4.1 (ziv (zD.2 ⟨by omega,?_⟩) 0);unfold ln;have:=kS.2 a;omega
structure But (h r:Host) (m p:Int):Prop where
 ne:∀i k,hasB i (ln h.Mons)=true->hasB k 8=true->¬ (i=m/\k=p)->ix (ix r.Mons i mZ).Outer k sZ=ix (ix h.Mons i mZ).Outer k sZ
theorem zHJ {h r:Host}{m p:Int}(a:hasB m (ln h.Mons)=true)(j:hasB p 8=true){x:Mon}{s:Slot}(b:r.Mons=up h.Mons m x)(g:x.Outer=up (ix h.Mons m mZ).Outer p s):But h r m p:=by refine⟨fun i k d f c=>?_⟩;rw[b];by_cases e:m=i;{subst e;rw[zbl a,g,zbw (zD.1 j).1 (zD.1 f).1 (fun e=>c ⟨rfl,e.symm⟩)]};{rw [zbw (zD.1 a).1 (zD.1 d).1 e]}
theorem z4Y {h:Host}(H:HOk h){m p:Int}(a:hasB m (ln h.Mons)=true)(c:hasB p 8=true):But h (zdV h m p) m p/\ix (ix (zdV h m p).Mons m mZ).Outer p sZ=noSlot:=by have b:(zdV h m p).Mons=up h.Mons m (zkl {ix h.Mons m mZ with Out:=up (ix h.Mons m mZ).Out p (zcB h.Memory (ix (ix h.Mons m mZ).Outer p sZ).Page)} p noSlot):=zp6 a rfl;refine⟨zHJ a c b rfl,?_⟩;rw[b,zbl a];exact zbl ((H.mon a).hasO c) _ _
structure Roomy (h r:Host):Prop where
 op:Op h r
 free:zco r≠[]
 sl:∀i k,hasB i (ln h.Mons)=true->hasB k 8=true->ix (ix r.Mons i mZ).Outer k sZ=ix (ix h.Mons i mZ).Outer k sZ\/ix (ix r.Mons i mZ).Outer k sZ=noSlot
 dirt:∀i,(ix r.Mons i mZ).Dirty=(ix h.Mons i mZ).Dirty
theorem zNN {h r:Host}{m:Int}(c:hasB m (ln h.Mons)=true){x:Mon}(a:r.Mons=up h.Mons m x)(b:x.Dirty=(ix h.Mons m mZ).Dirty)(i:Int):(ix r.Mons i mZ).Dirty=(ix h.Mons i mZ).Dirty:=by
 rw[a];by_cases e:i.toNat=m.toNat
 {have:∀l:List Mon,ix l i mZ=ix l m mZ:=fun l=>(by unfold ix;rw[e]);rw[this,this,zbl c,b]};{unfold ix up;simp[List.getD,jB,Ne.symm e]}
theorem roomy {h:Host}(H:HOk h):Roomy h (zdl h):=by unfold zdl;by_cases b:zco h=[];{rw [show ieq (ln (zco h)) 0=true by rw[b];rfl,cond_true];have p:¬ (zbK h 0).1<0:=fun d=>(by have:(0:Int)∈zco h:=zH4.2 ⟨zD.2 (by unfold ln;rw[H.m12];omega),(zJe (by omega)).1 d⟩;rw[b] at this;cases this);obtain⟨a,c,f⟩:=z7e H (by omega) p;have k:=zZG H a c (by rw[f];decide);have j:=z4Y H a c;refine⟨k,fun d=>?_,fun i q g r=>?_,fun i=>zNN (x:=zkl {ix h.Mons (zbK h 0).1 mZ with Out:=up (ix h.Mons (zbK h 0).1 mZ).Out (zbK h 0).2 (zcB h.Memory (ix (ix h.Mons (zbK h 0).1 mZ).Outer (zbK h 0).2 sZ).Page)} (zbK h 0).2 noSlot) a (zp6 a rfl) rfl i⟩;{have:(0:Int)∈zco (zdV h (zbK h 0).1 (zbK h 0).2):=(by refine zH4.2 ⟨zD.2 (by unfold ln;rw[k.ok.m12];omega),?_⟩;have n:(zdV h (zbK h 0).1 (zbK h 0).2).Mons=up h.Mons (zbK h 0).1 (zkl {ix h.Mons (zbK h 0).1 mZ with Out:=up (ix h.Mons (zbK h 0).1 mZ).Out (zbK h 0).2 (zcB h.Memory (ix (ix h.Mons (zbK h 0).1 mZ).Outer (zbK h 0).2 sZ).Page)} (zbK h 0).2 noSlot):=zp6 a rfl;have l:=zyW a (zkl {ix h.Mons (zbK h 0).1 mZ with Out:=up (ix h.Mons (zbK h 0).1 mZ).Out (zbK h 0).2 (zcB h.Memory (ix (ix h.Mons (zbK h 0).1 mZ).Outer (zbK h 0).2 sZ).Page)} (zbK h 0).2 noSlot) 0;rw[<- n] at l;have m:=zT2 (x':=zkl {ix h.Mons (zbK h 0).1 mZ with Out:=up (ix h.Mons (zbK h 0).1 mZ).Out (zbK h 0).2 (zcB h.Memory (ix (ix h.Mons (zbK h 0).1 mZ).Outer (zbK h 0).2 sZ).Page)} (zbK h 0).2 noSlot) ((H.mon a).hasO c) (s:=noSlot) rfl 0;rw[if_pos f,if_neg (by decide)] at m;have t:=H.uq 0 (by omega);omega);rw[d] at this;cases this};{by_cases e:i=(zbK h 0).1/\q=(zbK h 0).2;{rw [e.1,e.2];exact .inr j.2};{exact .inl (j.1.ne i q g r e)}}};{have:ieq (ln (zco h)) 0=false:=zb1.2 (by unfold ln;have:=kS.2 b;omega);rw[this,cond_false];exact⟨Op.refl H,b,fun i k g u=>.inl rfl,fun _=>rfl⟩}
theorem zY2 {m:List (List Int)}{p:Int}{c:List Int}(b:hasB p (ln m)=true)(a:zcu c=true):zi4 m p c=up m p c:=by unfold zi4;rw[b,a];rfl
theorem zDB {m:List (List Int)}{p q:Int}{c:List Int}(a:0<=p)(h:q≠p):zcB (up m p c) q=zcB m q:=by unfold zcB;rw[zd0];cases b:hasB q (ln m) with|false=>rfl|true=>rw[cond_true,cond_true,zbw a (zD.1 b).1 (Ne.symm h)]
theorem zDA {m:List (List Int)}{p:Int}{c:List Int}(a:hasB p (ln m)=true):zcB (up m p c) p=c:=by rw[zlD (by rw[zd0];exact a),zbl a]
theorem z1v {h:Host}(H:HOk h){m p a:Int}(d:hasB m (ln h.Mons)=true)(f:hasB p 8=true)(z:(ix (ix h.Mons m mZ).Outer p sZ).Page = -1)(u:hasB a (ln h.Memory)=true)(B:zeR h.Mons a=0) :
 Op h (zfn h m p a)/\But h (zfn h m p a) m p/\ix (ix (zfn h m p a).Mons m mZ).Outer p sZ=⟨a,3⟩/\∀i,(ix (zfn h m p a).Mons i mZ).Dirty=(ix h.Mons i mZ).Dirty:=by
 have X:=H.mon d;have g:=zD.1 u;unfold ln at g;rw[H.m12]at g;have l:(zfn h m p a).Mons=up h.Mons m (zkl {ix h.Mons m mZ with Out:=up (ix h.Mons m mZ).Out p []} p ⟨a,3⟩):=zp6 d rfl;have k:Chg (ix h.Mons m mZ) (zkl {ix h.Mons m mZ with Out:=up (ix h.Mons m mZ).Out p []} p ⟨a,3⟩) p ⟨a,3⟩ []:=zCG rfl rfl rfl rfl rfl rfl rfl rfl rfl;have j:=((zqq (X.slot f)).1 (X.fit p f)).1 z;have b:(zfn h m p a).Memory=up h.Memory a (ix (ix h.Mons m mZ).Out p []):=by show (zcq (landing h m p a) m p ⟨a,3⟩).Memory=_;rw[zxq];exact zY2 u j
 have A:SOk ⟨a,3⟩:=.inr ⟨g.1,by show a<=11;omega,by show (1:Int)<=3;omega,by show (3:Int)<=3;omega⟩
 have w:=zvn (h:=landing h m p a) (m:=m) (p:=p) (s:=⟨a,3⟩) H.b1 H.b2;refine⟨⟨zwN H d f l k A ((zqq A).2 ⟨fun h=>absurd h (by show a≠-1;omega),fun _=>⟨show enough 3 1=true by decide,rfl⟩⟩) (by rw[b,zbT];exact H.m12) (fun c r=>?_) w.1 w.2 (fun _=>.inr B),
  zv7 H d f l k ?_ (fun i q y D r C=>?_),fun R=>?_⟩,zHJ d f l rfl,?_,fun i=>zNN (x:=zkl {ix h.Mons m mZ with Out:=up (ix h.Mons m mZ).Out p []} p ⟨a,3⟩) d l rfl i⟩
 .rw [b]at r;rcases qT r with n|n
  .exact H.pgs c n
  .rw [n];exact j
 .rw [zom d f (X.hasO f),zbv.2 z,cond_true,zlD (X.hasU f)];rw[show ieq (⟨a,3⟩:Slot).Page (-1)=false from zb1.2 (by show a≠-1;omega),cond_false,b]
  exact zDA u
 .rw [b];refine zDB g.1 (fun e=>?_);have:=zHK y ((H.mon y).hasO D);rw[e] at this;omega
 .have R1:Rt (landing h m p a):=zMM (x:={ix h.Mons m mZ with Out:=up (ix h.Mons m mZ).Out p []}) R d rfl rfl rfl rfl (fun _ _=>rfl) rfl rfl;have t:hasB m (ln (landing h m p a).Mons)=true:=by show hasB m (ln (up h.Mons m _))=true;rw[zd0];exact d
  have v:ix (landing h m p a).Mons m mZ={ix h.Mons m mZ with Out:=up (ix h.Mons m mZ).Out p []}:=zbl d _ _;exact zz1 R1 t (by rw[v];exact X.hasO f) (by rw[v];exact X.gt) _
 .rw [l,zbl d];exact zbl (X.hasO f) _ _
theorem zMA {h:Host}(H:HOk h){m p:Int}(f:hasB m (ln h.Mons)=true)(g:hasB p 8=true)(k:(ix (ix h.Mons m mZ).Outer p sZ).Page = -1) :
 Op h (fetched h m p)/\(∃e,0<=e/\e<=11/\ix (ix (fetched h m p).Mons m mZ).Outer p sZ=⟨e,3⟩)/\∀i,(ix (fetched h m p).Mons i mZ).Dirty=(ix h.Mons i mZ).Dirty:=by
 have R:=roomy H;have c:hasB m (ln (zdl h).Mons)=true:=by rw[R.op.like.has];exact f
 have d:(ix (ix (zdl h).Mons m mZ).Outer p sZ).Page = -1:=by rcases R.sl m p f g with b|b<;>rw [b];{exact k};{rfl}
 obtain⟨b,j⟩:=z0W R.free;obtain⟨l,r,n,q⟩:=z1v R.op.ok c g d b j;have a:=zD.1 b;unfold ln at a;rw[R.op.ok.m12]at a;exact⟨R.op.trans l,⟨_,a.1,by omega,n⟩,fun i=>(q i).trans (R.dirt i)⟩
theorem zou {o:List Slot}{p:Int}(h:hasB p (ln o)=true):zbC o p=ix o p sZ:=by unfold zbC;rw[h];rfl
theorem zlE {h:Host}(H:HOk h){m p:Int}(a:hasB m (ln h.Mons)=true)(b:hasB p 8=true) :
 (cond (ieq (ix (ix h.Mons m mZ).Outer p sZ).Page (-1)) (ix (ix h.Mons m mZ).Out p []) (zcB h.Memory (ix (ix h.Mons m mZ).Outer p sZ).Page))=zcK h m p:=by
 rw[zom a b ((H.mon a).hasO b),zlD ((H.mon a).hasU b)]
structure Mark (x y:Mon):Prop where
 o:y.Outer=x.Outer
 u:y.Out=x.Out
 g:y.Guests=x.Guests
 t:y.Tables=x.Tables
 d:y.Dirty.length=x.Dirty.length
 a1:y.Outs=x.Outs
 a2:y.Pending=x.Pending
 a3:y.Traps=x.Traps
 a4:y.Own=x.Own
theorem zZF {h:Host}(H:HOk h){m:Int}(b:hasB m (ln h.Mons)=true){y:Mon}(k:Mark (ix h.Mons m mZ) y):Op h {h with Mons:=up h.Mons m y}/\∀i q,ix (ix (up h.Mons m y) i mZ).Outer q sZ=ix (ix h.Mons i mZ).Outer q sZ:=by
 have X:=H.mon b;have a:hasB 0 8=true:=(by decide);have c:Chg (ix h.Mons m mZ) y 0 (ix (ix h.Mons m mZ).Outer 0 sZ) (ix (ix h.Mons m mZ).Out 0 []):=⟨by rw[zJI (X.hasO a),k.o],by rw[zJI (X.hasU a),k.u],k.g,by rw[k.t],k.d,k.a1,k.a2,k.a3,k.a4⟩
 refine⟨⟨zwN H b a rfl c (X.slot a) (X.fit 0 a) H.m12 H.pgs H.b1 H.b2 (fun _=>.inl rfl),zv7 H b a rfl c (zlE H b a) (fun _ _ _ _ _ _=>rfl),
  fun R=>zMM R b rfl rfl rfl (by rw[k.g]) (fun g _=>by rw[k.g]) k.t k.o⟩,fun i q=>?_⟩
 by_cases e:i.toNat=m.toNat
 {have:∀l:List Mon,ix l i mZ=ix l m mZ:=fun l=>(by unfold ix;rw[e]);rw[this,this,zbl b,k.o]};{have:ix (up h.Mons m y) i mZ=ix h.Mons i mZ:=(by unfold ix up;simp[List.getD,jB,Ne.symm e]);rw[this]}
theorem zts {h:Host}(H:HOk h){m:Int}(a:hasB m (ln h.Mons)=true)(p:Int):Op h (zbA h m p)/\∀i q,ix (ix (zbA h m p).Mons i mZ).Outer q sZ=ix (ix h.Mons i mZ).Outer q sZ :=
 zZF H a ⟨rfl,rfl,rfl,rfl,zbT _ _ _,rfl,rfl,rfl,rfl⟩
theorem z4t {h:Host}(H:HOk h){m:Int}(a:hasB m (ln h.Mons)=true)(p:Int):Op h (zqX h m p)/\∀i q,ix (ix (zqX h m p).Mons i mZ).Outer q sZ=ix (ix h.Mons i mZ).Outer q sZ :=
 zZF H a ⟨rfl,rfl,rfl,rfl,zbT _ _ _,rfl,rfl,rfl,rfl⟩
theorem rights {r:Int}(a:1<=r)(b:r<=3):r=1\/r=2\/r=3:=by omega
theorem MOk.enough1 {x:Mon}(X:MOk x){p:Int}(a:hasB p 8=true)(d:(ix x.Outer p sZ).Page≠-1):(ix x.Outer p sZ).Rights=1\/(ix x.Outer p sZ).Rights=3:=by have b:=(((zqq (X.slot a)).1 (X.fit p a)).2 d).1;have c:=(X.slot a).pos d;rcases rights c.2.2.1 c.2.2.2 with e|e|e;{exact .inl e};{rw [e]at b;exact absurd b (by decide)};{exact .inr e}
theorem zDz {h:Host}(H:HOk h){m p:Int}(c:hasB m (ln h.Mons)=true)(b:hasB p 8=true)(g:(ix (ix h.Mons m mZ).Outer p sZ).Page≠-1){r:Int}(n:r=1\/r=3) :
 Op h (zcq h m p ⟨(ix (ix h.Mons m mZ).Outer p sZ).Page,r⟩)/\But h (zcq h m p ⟨(ix (ix h.Mons m mZ).Outer p sZ).Page,r⟩) m p/\
  ix (ix (zcq h m p ⟨(ix (ix h.Mons m mZ).Outer p sZ).Page,r⟩).Mons m mZ).Outer p sZ=⟨(ix (ix h.Mons m mZ).Outer p sZ).Page,r⟩/\∀i,(ix (zcq h m p ⟨(ix (ix h.Mons m mZ).Outer p sZ).Page,r⟩).Mons i mZ).Dirty=(ix h.Mons i mZ).Dirty:=by
 have X:=H.mon c;have d:=(X.slot b).pos g;have e:=zs6 h m p ⟨(ix (ix h.Mons m mZ).Outer p sZ).Page,r⟩;have k:Chg (ix h.Mons m mZ) (zkl (ix h.Mons m mZ) p ⟨(ix (ix h.Mons m mZ).Outer p sZ).Page,r⟩) p ⟨(ix (ix h.Mons m mZ).Outer p sZ).Page,r⟩ (ix (ix h.Mons m mZ).Out p []):=
  zCG rfl (zJI (X.hasU b) _).symm rfl rfl rfl rfl rfl rfl rfl
 have l:SOk ⟨(ix (ix h.Mons m mZ).Outer p sZ).Page,r⟩:=.inr ⟨d.1,d.2.1,by show 1<=r;omega,by show r<=3;omega⟩
 have f:=((zqq (X.slot b)).1 (X.fit p b)).2 g;have j:=zvn (h:=h) (m:=m) (p:=p) (s:=⟨(ix (ix h.Mons m mZ).Outer p sZ).Page,r⟩) H.b1 H.b2;have a:=zxq h m p ⟨(ix (ix h.Mons m mZ).Outer p sZ).Page,r⟩;refine⟨⟨zwN H c b e k l ((zqq l).2 ⟨fun h=>absurd h g,fun _=>⟨?_,f.2⟩⟩) (by rw[a];exact H.m12) (by rw[a];exact H.pgs) j.1 j.2 (fun _=>.inl rfl),
  zv7 H c b e k (by rw[a];exact zlE H c b) (fun i q _ _ _ _=>by rw[a]),fun R=>zz1 R c (X.hasO b) X.gt _⟩,zHJ c b e rfl,?_,fun i=>zNN c e rfl i⟩
 .show enough r 1=true
  rcases n with rfl|rfl<;>decide
 .rw [e,zbl c];exact zbl (X.hasO b) _ _
structure Mended (h r:Host) (m p n:Int):Prop where
 op:Op h r
 inn:(ix (ix r.Mons m mZ).Outer p sZ).Page≠-1
 ri:ieq (wand .i64 n 2) 0=false->(ix (ix r.Mons m mZ).Outer p sZ).Rights=3
 dt:ieq (wand .i64 n 2) 0=false->ix (ix r.Mons m mZ).Dirty p false=true
 d0:ieq (wand .i64 n 2) 0=true->(ix r.Mons m mZ).Dirty=(ix h.Mons m mZ).Dirty
 dk:∀k,hasB k 8=true->k≠p->ix (ix r.Mons m mZ).Dirty k false=ix (ix h.Mons m mZ).Dirty k false
 dm:∀i,hasB i (ln h.Mons)=true->i≠m->(ix r.Mons i mZ).Dirty=(ix h.Mons i mZ).Dirty
theorem zVZ {h:Host}(H:HOk h){m p:Int}(n:Int)(c:hasB m (ln h.Mons)=true)(g:hasB p 8=true)(v:(ix (ix h.Mons m mZ).Outer p sZ).Page≠-1):Mended h (zi6 h m p n) m p n:=by
 unfold zi6;cases s:ieq (wand .i64 n 2) 0 with
 |true=>exact⟨Op.refl H,v,fun e=>(Bool.noConfusion (s.symm.trans e)),fun e=>(Bool.noConfusion (s.symm.trans e)),fun _=>rfl,fun _ _ _=>rfl,fun _ _ _=>rfl⟩
 |false=>rw[cond_false];obtain⟨f,C⟩:=zts H c p;have d:hasB m (ln (zbA h m p).Mons)=true:=(by rw[f.like.has];exact c);have a:(ix (ix (zbA h m p).Mons m mZ).Outer p sZ).Page≠-1:=(by rw[C];exact v);have u:(ix (zbA h m p).Mons m mZ).Dirty=up (ix h.Mons m mZ).Dirty p true:=(by show (ix (up h.Mons m _) m mZ).Dirty=_;rw[zbl c]);have l:∀i,hasB i (ln h.Mons)=true->i≠m->(ix (zbA h m p).Mons i mZ).Dirty=(ix h.Mons i mZ).Dirty:=fun i q b=>(by show (ix (up h.Mons m _) i mZ).Dirty=_;rw[zbw (zD.1 c).1 (zD.1 q).1 (Ne.symm b)]);have A:=(f.ok.mon d).enough1 g a;have t:∀r:Host,(∀i,(ix r.Mons i mZ).Dirty=(ix (zbA h m p).Mons i mZ).Dirty)->Op (zbA h m p) r->(ix (ix r.Mons m mZ).Outer p sZ).Page≠-1->(ix (ix r.Mons m mZ).Outer p sZ).Rights=3->Mended h r m p n:=(by intro r j x y z;refine⟨f.trans x,y,fun _=>z,fun _=>?_,fun e=>(Bool.noConfusion (s.symm.trans e)),fun k B b=>?_,fun i q b=>by rw[j,l i q b]⟩;{rw [j,u,zbl ((H.mon c).hasD g)]};{rw [j,u,zbw (zD.1 g).1 (zD.1 B).1 (Ne.symm b)]});unfold opened;rcases A with e|e;{rw [e,show ieq (wand .i64 1 2) 0=true by decide,cond_true];obtain⟨D,F,w,E⟩:=zDz f.ok d g a (r:=3) (.inr rfl);exact t _ E D (by rw[w];exact a) (by rw[w])};{rw [e,show ieq (wand .i64 3 2) 0=false by decide,cond_false];exact t _ (fun _=>rfl) (Op.refl f.ok) a e}
theorem zDy {h:Host}(H:HOk h){m p:Int}(n:Int)(c:hasB m (ln h.Mons)=true)(d:hasB p 8=true):Mended h (mended h m p n) m p n:=by unfold mended;by_cases e:(ix (ix h.Mons m mZ).Outer p sZ).Page = -1;{rw [zbv.2 e,cond_true];obtain⟨a,⟨q,r,s,l⟩,f⟩:=zMA H c d e;have K:=zVZ a.ok n (by rw[a.like.has];exact c) d (by rw[l];show q≠-1;omega);exact⟨a.trans K.op,K.inn,K.ri,K.dt,fun e=>by rw[K.d0 e,f],fun k j b=>by rw[K.dk k j b,f],fun i g b=>by rw[K.dm i (by rw[a.like.has];exact g) b,f]⟩};{rw [zb1.2 e,cond_false];exact zVZ H n c d e}
theorem zo1 {h:Host}{m p:Int}:zcH h m p=true↔HOk h/\hasB m (ln h.Mons)=true/\hasB p 8=true:=by unfold zcH;rw[zce,zce,zie]
theorem z1w {h:Host}(H:HOk h)(m p:Int):Op h (zqB h m p):=by unfold zqB;cases a:zcH h m p with|false=>exact Op.refl H|true=>obtain⟨_,b,c⟩:=zo1.1 a;rw[cond_true];unfold zk1;by_cases e:(ix (ix h.Mons m mZ).Outer p sZ).Page = -1;{rw [zbv.2 e];exact Op.refl H};{rw [zb1.2 e];exact zZG H b c e}
theorem z4s {h:Host}(H:HOk h)(m p:Int):Op h (zuH h m p):=by unfold zuH;cases a:zcH h m p with|false=>exact Op.refl H|true=>obtain⟨_,b,c⟩:=zo1.1 a;rw[cond_true];unfold zk1;by_cases e:(ix (ix h.Mons m mZ).Outer p sZ).Page = -1;{rw [zbv.2 e];exact(zMA H b c e).1};{rw [zb1.2 e];exact Op.refl H}
theorem z4r {h:Host}(H:HOk h)(m p:Int):Op h (zut h m p):=by unfold zut;cases g:zcH h m p with|false=>exact Op.refl H|true=>obtain⟨_,b,c⟩:=zo1.1 g;rw[cond_true];obtain⟨a,d⟩:=z4t H b p;(cases e:zcQ (ix (ix h.Mons m zi).Outer p zU) noSlot with|true=>exact a|false=>rw[cond_false];have i:(ix (ix h.Mons m mZ).Outer p sZ).Page≠-1:=fun f=>zsr.1 e (((H.mon b).slot c).none f);have:=zDz a.ok (m:=m) (p:=p) (by rw[a.like.has];exact b) c (by rw[d];exact i) (r:=1) (.inl rfl);rw[d m p] at this;exact a.trans this.1)
structure KeepP (x y:Mon):Prop where
 o:y.Outer=x.Outer
 u:y.Out=x.Out
theorem zMG {h r:Host}{m:Int}(b:hasB m (ln h.Mons)=true){y:Mon}(c:r.Mons=up h.Mons m y)(a:r.Memory=h.Memory)(k:KeepP (ix h.Mons m mZ) y)(i q:Int):zcK r i q=zcK h i q:=by unfold zcK;rw[c,zd0,a];cases d:hasB i (ln h.Mons) with|false=>rfl|true=>by_cases e:m=i;{subst e;rw[zbl b,k.o,k.u]};{rw [zbw (zD.1 b).1 (zD.1 d).1 e]}
theorem zvj {h r:Host}{m:Int}(b:hasB m (ln h.Mons)=true){y:Mon}(c:r.Mons=up h.Mons m y)(a:r.Memory=h.Memory)(k:KeepP (ix h.Mons m mZ) y)(i:Int) :
 zK r i=bif ieq i m then ⟨(zK h i).Memory,y.Guests,y.Outs,y.Pending⟩ else zK h i:=by
 have f:zcC r i 8 0=zcC h i 8 0:=zrg 8 0 (fun j _ _=>zMG b c a k i j);unfold zK;rw[f,c,zd0]
 by_cases e:i=m
 .subst e;rw[b,zbv.2 rfl,zbl b];rfl
 .rw [zb1.2 e,cond_false];cases d:hasB i (ln h.Mons) with
  |false=>rfl
  |true=>rw[zbw (zD.1 b).1 (zD.1 d).1 (Ne.symm e)]
theorem zlx {x y:Mon}(X:MOk x)(k:KeepP x y)(g:y.Guests.length=x.Guests.length)(t:y.Tables.length=x.Tables.length)(d:y.Dirty.length=x.Dirty.length)(o:y.Outs.length<=40)(p:zdQ y.Pending=true)(tr:zk y.Traps 0 3=true)(b:zk y.Own 0 1000000000=true)(a:∀g∈y.Guests,zd3 g=true):MOk y :=
 ⟨by rw[g];exact X.g1,by rw[g];exact X.g2,by rw[t,g];exact X.gt,by rw[k.o];exact X.o8,by rw[k.o];exact X.sl,by rw[k.u];exact X.u8,by rw[d];exact X.d8,o,p,tr,b,a,by rw[k.o,k.u];exact X.fit⟩
theorem zUP {h:Host}(H:HOk h){m:Int}(a:hasB m (ln h.Mons)=true){y:Mon}(k:KeepP (ix h.Mons m mZ) y)(b:MOk y):HOk {h with Mons:=up h.Mons m y} :=
 H.up a b rfl H.m12 H.pgs H.b1 H.b2 fun q _=>.inl (by unfold cPg;rw[k.o];exact qY _)
theorem zwJ {h:Host}(S:Safe h){m:Int}(a:hasB m (ln h.Mons)=true){y:Mon}(k:KeepP (ix h.Mons m mZ) y)(d:MOk y)(hg:y.Guests.length=(ix h.Mons m mZ).Guests.length)(c:∀g,hasB g (ln (ix h.Mons m mZ).Guests)=true->(ix y.Guests g gZ).Live=(ix (ix h.Mons m mZ).Guests g gZ).Live)(b:y.Tables=(ix h.Mons m mZ).Tables):Safe {h with Mons:=up h.Mons m y} :=
 ⟨zUP S.ok a k d,zMM S.rt a rfl rfl rfl hg c b k.o⟩
theorem zS6 {h:Host}(S:Safe h)(m t:Int):Safe (zkj h m t)/\∀i,zK (zkj h m t) i=zK h i:=by
 unfold zkj;rw[zie.2 S.ok,cond_true];cases a:hasB m (ln h.Mons) with
 |false=>exact⟨S,fun _=>rfl⟩
 |true=>
  cases b:zk t 0 3 with
  |false=>exact⟨S,fun _=>rfl⟩
  |true=>have X:=S.ok.mon a;have k:KeepP (ix h.Mons m mZ) {ix h.Mons m mZ with Traps:=t}:=⟨rfl,rfl⟩;refine⟨zwJ S a k (zlx X k rfl rfl rfl X.outs X.pend b X.own X.gs) rfl (fun _ _=>rfl) rfl,fun i=>?_⟩;rw[cond_true,cond_true];refine(zvj (h:=h) (r:={h with Mons:=up h.Mons m {ix h.Mons m mZ with Traps:=t}}) a rfl rfl k i).trans ?_;by_cases e:i=m;{subst e;rw[zbv.2 rfl,cond_true];unfold zK;rw[a];rfl};{rw [zb1.2 e];rfl}
theorem zGQ:∀(n i:Nat) (k:Kept),(zfo n i k).Known.length=k.Known.length/\(zfo n i k).Slots.length=k.Slots.length
 | 0,i,k=>⟨rfl,rfl⟩
 |n+1,i,k=>by have a:=zGQ n (i+1) (zbN k (i:Int));have b:=zlp k (i:Int);exact⟨a.1.trans b.1,a.2.trans b.2⟩
theorem zKY:∀(n i:Nat) (k:Kept),k.Known.length=k.Slots.length->∀j,hasB j (ln k.Known)=true->
 ((i:Int)<=j/\j<((i+n:Nat):Int)->ix (zfo n i k).Known j false=false/\ix (zfo n i k).Slots j sZ=noSlot)/\
 (¬ ((i:Int)<=j/\j<((i+n:Nat):Int))->ix (zfo n i k).Known j false=ix k.Known j false/\ix (zfo n i k).Slots j sZ=ix k.Slots j sZ)
 | 0,i,k,_,j,_=>⟨fun h=>by omega,fun _=>⟨rfl,rfl⟩⟩
 |n+1,i,k,g,j,f=>by have b:=zlp k (i:Int);have d:=zw6 (q:=(i:Int)) g f;have c:=zKY n (i+1) (zbN k (i:Int)) (by rw[b.1,b.2,g]) j (by unfold ln at f ⊢;rwa [b.1]);rw[zfo];by_cases a:((i+1:Nat):Int)<=j/\j<((i+1+n:Nat):Int);{exact⟨fun _=>c.1 a,fun h=>absurd (by omega) h⟩};{rw [(c.2 a).1,(c.2 a).2,d.1,d.2];by_cases e:(i:Int)=j;{rw [zbv.2 e];exact⟨fun _=>⟨rfl,rfl⟩,fun h=>absurd (by omega) h⟩};{rw [zb1.2 e];exact⟨fun h=>absurd (by omega) a,fun _=>⟨rfl,rfl⟩⟩}}
theorem zSe {k:Kept}{a b:List Slot}(h:KOk k a b):KOk (zfG k) a b:=by have e:=zGQ k.Known.length 0 k;refine⟨e.1.trans h.l1,e.2.trans h.l2,fun i f=>?_⟩;have c:hasB i (ln k.Known)=true:=(by unfold ln at f ⊢;rwa [h.l1]);have d:=zD.1 c;unfold ln at d;have:=(zKY k.Known.length 0 k (by rw[h.l1,h.l2]) i c).1 ⟨by omega,by omega⟩;unfold zfG;rw[this.1,this.2];rfl
theorem zKL:∀(n j:Nat) (l:List Kept),(zoJ n j l).length=l.length
 | 0,_,_=>rfl
 |n+1,j,l=>by rw[zoJ,zKL n,zbT]
theorem zT6:∀(n j:Nat) (l:List Kept),j+n<=l.length->∀g,0<=g->ix (zoJ n j l) g kZ=if (j:Int)<=g/\g<((j+n:Nat):Int) then zfG (ix l g kZ) else ix l g kZ
 | 0,j,l,_,g,hg=>by rw[if_neg (by omega)];rfl
 |n+1,j,l,a,g,hg=>by rw[zoJ,zT6 n (j+1) _ (by rw[zbT];omega) g hg];by_cases e:(j:Int)=g;{subst e;rw[if_neg (by omega),if_pos (by omega),zbl (zD.2 ⟨by omega,by unfold ln;omega⟩)]};{rw [zbw (by omega) hg e];by_cases h:((j+1:Nat):Int)<=g/\g<((j+1+n:Nat):Int);{rw [if_pos h,if_pos (by omega)]};{rw [if_neg h,if_neg (by omega)]}}
theorem zKK:∀(n i:Nat) (l:List Mon),(zkq n i l).length=l.length
 | 0,_,_=>rfl
 |n+1,i,l=>by rw[zkq,zKK n,zbT]
theorem zQM:∀(n i:Nat) (l:List Mon),i+n<=l.length->∀m,0<=m->ix (zkq n i l) m mZ=if (i:Int)<=m/\m<((i+n:Nat):Int) then zoK (ix l m mZ) (ix l m mZ).Tables.length 0 else ix l m mZ
 | 0,i,l,_,m,a=>by rw[if_neg (by omega)];rfl
 |n+1,i,l,b,m,a=>by rw[zkq,zQM n (i+1) _ (by rw[zbT];omega) m a];by_cases e:(i:Int)=m;{subst e;rw[if_neg (by omega),if_pos (by omega),zbl (zD.2 ⟨by omega,by unfold ln;omega⟩)]};{rw [zbw (by omega) a e];by_cases h:((i+1:Nat):Int)<=m/\m<((i+1+n:Nat):Int);{rw [if_pos h,if_pos (by omega)]};{rw [if_neg h,if_neg (by omega)]}}
theorem z5R (h:Host){m:Int}(a:hasB m (ln h.Mons)=true):ix (cold h).Mons m mZ=zoK (ix h.Mons m mZ) (ix h.Mons m mZ).Tables.length 0:=by have:=zD.1 a;unfold ln at this;show ix (zkq h.Mons.length 0 h.Mons) m mZ=_;rw[zQM _ _ _ (by omega) m this.1,if_pos (by omega)]
theorem zxL (h:Host):(cold h).Mons.length=h.Mons.length:=zKK _ _ _
theorem zHM (h:Host)(m:Int):hasB m (ln (cold h).Mons)=hasB m (ln h.Mons):=by unfold ln;rw[zxL]
theorem zbab {l a:List Mon}(d:a.length=l.length)(h:∀m,hasB m (ln l)=true->(ix a m mZ).Outer=(ix l m mZ).Outer)(q:Int):zeR a q=zeR l q:=by have:a.map (fun x=>cPg x q)=l.map (fun x=>cPg x q):=(by refine List.ext_getElem (by simp[d]) fun k b c=>?_;simp only[uQ]at b c;have:=h (k:Int) (zD.2 ⟨by omega,by unfold ln;omega⟩);rw[zku b,zku c] at this;simp[cPg,this]);unfold zeR;rw[this]
theorem zba6 {h:Host}(H:HOk h):Op h (cold h):=by have c:∀m,hasB m (ln h.Mons)=true->ix (cold h).Mons m mZ=zoK (ix h.Mons m mZ) (ix h.Mons m mZ).Tables.length 0:=fun m a=>z5R h a;have n:∀i q,zcK (cold h) i q=zcK h i q:=(by intro i q;unfold zcK;rw[zHM];cases b:hasB i (ln h.Mons) with|false=>rfl|true=>rw[c i b];rfl);refine⟨⟨H.m12,H.pgs,by rw[zxL];exact H.n1,by rw[zxL];exact H.n3,rfl,rfl,fun y s=>?_,fun q r=>?_⟩,⟨zxL h,fun i b=>by rw[c i b];rfl,fun i b=>by rw[c i b];rfl,fun i b=>by rw[c i b];rfl,fun i b=>by rw[c i b];rfl,fun i b=>by rw[c i b];rfl,fun i k _ _=>n i k⟩,fun R=>⟨fun m a=>?_,fun e j=>(by cases j),fun e j=>(by cases j)⟩⟩;{obtain⟨m,a,rfl⟩:=zoY s mZ;rw[zHM]at a;rw[c m a];have X:=H.mon a;have k:KeepP (ix h.Mons m mZ) (zoK (ix h.Mons m mZ) (ix h.Mons m mZ).Tables.length 0):=⟨rfl,rfl⟩;exact zlx X k rfl (zKL _ _ _) rfl X.outs X.pend X.tr X.own X.gs};{rw [zbab (l:=h.Mons) (zxL h) (fun m a=>by rw[c m a];rfl)];exact H.uq q r};{rw [zHM]at a;rw[c m a];have X:=H.mon a;intro g hg;show KOk (ix (zoJ (ix h.Mons m mZ).Tables.length 0 (ix h.Mons m mZ).Tables) g kZ) (ix (ix h.Mons m mZ).Guests g gZ).Live (ix h.Mons m mZ).Outer;have d:hasB g (ln (ix h.Mons m mZ).Guests)=true:=hg;have f:=zD.1 d;unfold ln at f;have p:=X.gt;rw[zT6 _ _ _ (by omega) g f.1,if_pos (by omega)];exact zSe (R.t m a g d)}
theorem zW0 {m g:Int}(c:zk m 0 2=true)(hg:zk g 0 1=true):zcE (zd8 m g)=m/\zdm (zd8 m g)=g/\1<=zd8 m g/\zd8 m g<=6:=by have d:=zcV.1 c;have e:=zcV.1 hg;have a:m=0\/m=1\/m=2:=(by omega);have b:g=0\/g=1:=(by omega);rcases a with rfl|rfl|rfl<;>rcases b with rfl|rfl<;>decide
theorem HOk.tag {h:Host}(H:HOk h){m g:Int}(a:hasB m (ln h.Mons)=true)(hg:hasB g (ln (ix h.Mons m mZ).Guests)=true):zk m 0 2=true/\zk g 0 1=true:=by have b:=zD.1 a;have c:=zD.1 hg;have d:=H.n3;have e:=(H.mon a).g2;unfold ln at b c;exact⟨zcV.2 (by omega),zcV.2 (by omega)⟩
theorem zgO {r:Int}:zdK r=true↔r=0\/r=1\/r=2\/r=3:=by unfold zdK ige ile;rw[qD,q0,q0];omega
theorem zr3 {a b:Int}(h:enough a b=true):zdK a=true/\zdK b=true:=by unfold enough at h;rw[zce,zce]at h;exact⟨h.1,h.2.1⟩
theorem zUA {a b c:Int}(d:enough a b=true)(e:enough b c=true):enough a c=true:=by have f:=zgO.1 (zr3 d).1;have g:=zgO.1 (zr3 d).2;have h:=zgO.1 (zr3 e).2;rcases f with rfl|rfl|rfl|rfl<;>rcases g with rfl|rfl|rfl|rfl<;>rcases h with rfl|rfl|rfl|rfl<;>revert d e<;>decide
theorem zXH {a b n:Int}(g:n=1\/n=2)(c:enough a n=true)(d:enough b n=true):zen a b≠0/\enough (zen a b) n=true:=by have e:=zgO.1 (zr3 c).1;have f:=zgO.1 (zr3 d).1;rcases g with rfl|rfl<;>rcases e with rfl|rfl|rfl|rfl<;>rcases f with rfl|rfl|rfl|rfl<;>revert c d<;>decide
theorem both_ok (a b:Int):zdK (zen a b)=true:=by
 unfold zen;cases c:zdK a with
 |false=>rfl
 |true=>
  cases d:zdK b with
  |false=>rfl
  |true=>have c:=zgO.1 c;have d:=zgO.1 d;rcases c with rfl|rfl|rfl|rfl<;>rcases d with rfl|rfl|rfl|rfl<;>decide
theorem zXO {a:Int}(h:zdK a=true):enough a a=true:=by rcases zgO.1 h with rfl|rfl|rfl|rfl<;>decide
theorem zq9 {n:Int}(a:n=1\/n=2):enough 0 n=false:=by rcases a with rfl|rfl<;>decide
theorem z0s {s:Slot}{o:List Slot}(a:s.Page≠-1)(b:(zbC o s.Page).Page≠-1):zbx s o=bif ieq (zen s.Rights (zbC o s.Page).Rights) 0 then noSlot else ⟨(zbC o s.Page).Page,zen s.Rights (zbC o s.Page).Rights⟩:=by unfold zbx;rw[zb1.2 a,zb1.2 b];rfl
theorem zqk {s:Slot}{o:List Slot}{n:Int}(c:n=1\/n=2)(h:enough (zbx s o).Rights n=true):s.Page≠-1/\(zbC o s.Page).Page≠-1/\(zbx s o).Page=(zbC o s.Page).Page:=by unfold zbx at h ⊢;by_cases a:s.Page = -1;{rw [zbv.2 a,cond_true]at h;rw[show noSlot.Rights=0 from rfl,zq9 c]at h;cases h};{rw [zb1.2 a,cond_false]at h ⊢;by_cases b:(zbC o s.Page).Page = -1;{rw [zbv.2 b,cond_true]at h;rw[show noSlot.Rights=0 from rfl,zq9 c]at h;cases h};{rw [zb1.2 b,cond_false]at h ⊢;by_cases d:zen s.Rights (zbC o s.Page).Rights=0;{rw [zbv.2 d,cond_true]at h;rw[show noSlot.Rights=0 from rfl,zq9 c]at h;cases h};{rw [zb1.2 d];exact⟨a,b,rfl⟩}}}
theorem zT7 {s:Slot}{o:List Slot}{n:Int}(e:n=1\/n=2)(a:s.Page≠-1)(b:(zbC o s.Page).Page≠-1)(c:enough s.Rights n=true)(d:enough (zbC o s.Page).Rights n=true) :
 (zbx s o).Page=(zbC o s.Page).Page/\enough (zbx s o).Rights n=true:=by
 have:=zXH e c d;rw[z0s a b,zb1.2 this.1];exact⟨rfl,this.2⟩
theorem z0t (s:Slot)(o:List Slot):zdK (zbx s o).Rights=true:=by unfold zbx;cases ieq s.Page (-1)<;>cases ieq (zbC o s.Page).Page (-1)<;>cases ieq (zen s.Rights (zbC o s.Page).Rights) 0<;>first|rfl|exact both_ok _ _
theorem zzu {b:List Entry}{t p:Int}{e:Entry}:e∈zcJ b t p↔e∈b/\¬ (e.Tag=t/\e.Page=p):=by unfold zcJ;rw[List.mem_filter];refine and_congr Iff.rfl ?_;unfold zsh;by_cases h:e.Tag=t;{rw [show ine e.Tag t=false by simp[ine,h],cond_false,zEJ];simp[h]};{rw [zEJ.2 h];simp[h]}
theorem z7l {b:List Entry}{e x:Entry}(h:x∈zo2 b e):x∈b\/x=e:=by unfold zo2 ap at h;have:x∈zcJ b e.Tag e.Page++[e]:=(by cases a:igt (ln (zcJ b e.Tag e.Page++[e])) 6 with|true=>rw[a,cond_true]at h;exact kN h|false=>rw[a,cond_false]at h;exact h);rcases jK.1 this with h|h;{exact .inl (zzu.1 h).1};{exact .inr (qF.1 h)}
theorem zbc9 {n:Nat}(h:n<=100):wsub .i64 (n:Int) 6=(n:Int)-6:=by unfold wsub IntKind.wrap;simp[IntKind.signed,IntKind.bits];omega
theorem zZb {b:List Entry}(h:zfE b=true)(e:Entry):zfE (zo2 b e)=true:=by have c:=zEv.1 h;have k:(zcJ b e.Tag e.Page).length<=6:=qV (uD _ _) c.2;have d:(zcJ b e.Tag e.Page++[e]).Pairwise (fun y x=>sameKey x y=false):=(by rw[List.pairwise_append];refine⟨c.1.sublist List.filter_sublist,List.pairwise_singleton _ _,fun x i y j=>?_⟩;rw[qF.1 j];have:=(zzu.1 i).2;unfold sameKey;by_cases a:e.Tag=x.Tag;{rw [zbv.2 a,cond_true,zb1];exact fun f=>this ⟨a.symm,f.symm⟩};{rw [zb1.2 a];rfl});unfold zo2 ap;cases g:igt (ln (zcJ b e.Tag e.Page++[e])) 6 with|true=>rw[cond_true,zEv];refine⟨d.sublist (List.drop_sublist _ _),?_⟩;unfold dp ln;rw[kE,uB,zbc9 (by omega),vP,kE,uB];omega|false=>rw[cond_false,zEv];refine⟨d,?_⟩;have:=jY g;unfold ln at this;omega
theorem z4c {h r:Host}{m:Int}(c:hasB m (ln h.Mons)=true){y:Mon}(b:r.Mons=up h.Mons m y)(a:r.Memory=h.Memory)(k:KeepP (ix h.Mons m mZ) y)(g:y.Guests=(ix h.Mons m mZ).Guests)(o:y.Outs=(ix h.Mons m mZ).Outs)(p:y.Pending=(ix h.Mons m mZ).Pending)(t:y.Traps=(ix h.Mons m mZ).Traps)(w:y.Own=(ix h.Mons m mZ).Own):Like h r:=by have e:∀{d:Type} (F:Mon->d),F y=F (ix h.Mons m mZ)->∀i,hasB i (ln h.Mons)=true->F (ix r.Mons i mZ)=F (ix h.Mons i mZ):=(by intro d F f i j;rw[b];by_cases e:m=i;{subst e;rw[zbl c];exact f};{rw [zbw (zD.1 c).1 (zD.1 j).1 e]});exact⟨by rw[b,zbT],e Mon.Guests g,e Mon.Outs o,e Mon.Pending p,e Mon.Traps t,e Mon.Own w,fun i q _ _=>zMG c b a k i q⟩
theorem z7o {h:Host}(R:Rt h){m g:Int}(d:hasB m (ln h.Mons)=true)(r:hasB g (ln (ix h.Mons m mZ).Tables)=true){k:Kept}(u:KOk k (ix (ix h.Mons m mZ).Guests g gZ).Live (ix h.Mons m mZ).Outer) :
 Rt {h with Mons:=up h.Mons m {ix h.Mons m mZ with Tables:=up (ix h.Mons m mZ).Tables g k}}:=by
 have f:∀e,zcy h e=true->zcy {h with Mons:=up h.Mons m {ix h.Mons m mZ with Tables:=up (ix h.Mons m mZ).Tables g k}} e=true:=by intro e b;obtain⟨l,n,p⟩:=zf3.1 b;rw[zf3];show hasB (zcE e.Tag) (ln (up h.Mons m _))=true/\hasB (zdm e.Tag) (ln (ix (up h.Mons m _) (zcE e.Tag) mZ).Guests)=true/\below' _ (zbx (zbC (ix (ix (up h.Mons m _) (zcE e.Tag) mZ).Guests (zdm e.Tag) gZ).Live e.Page) (ix (up h.Mons m _) (zcE e.Tag) mZ).Outer)=true;rw[zd0];refine⟨l,?_⟩;by_cases a:m=zcE e.Tag;{rw [<- a]at l n p ⊢;rw[zbl d];exact⟨n,p⟩};{rw [zbw (zD.1 d).1 (zD.1 l).1 a];exact⟨n,p⟩}
 refine⟨fun i s=>?_,fun e b=>f e (R.e1 e b),fun e b=>f e (R.e2 e b)⟩
 show TOk (ix (up h.Mons m _) i mZ)
 have c:hasB i (ln h.Mons)=true:=by have:hasB i (ln (up h.Mons m {ix h.Mons m mZ with Tables:=up (ix h.Mons m mZ).Tables g k}))=true:=s;rwa [zd0] at this
 by_cases a:m=i
 .subst a;rw[zbl d];intro j q
  by_cases e:g=j
  .subst e
   show KOk (ix (up _ g k) g kZ) _ _
   rw[zbl r];exact u
  .show KOk (ix (up _ g k) j kZ) _ _
   rw[zbw (zD.1 r).1 (zD.1 q).1 e];exact R.t m d j q
 .rw [zbw (zD.1 d).1 (zD.1 c).1 a];exact R.t i c
theorem z7b {h:Host}(H:HOk h){m g:Int}(a:hasB m (ln h.Mons)=true)(c:hasB g (ln (ix h.Mons m mZ).Tables)=true){k:Kept}(b:Rt h->KOk k (ix (ix h.Mons m mZ).Guests g gZ).Live (ix h.Mons m mZ).Outer) :
 Op h {h with Mons:=up h.Mons m {ix h.Mons m mZ with Tables:=up (ix h.Mons m mZ).Tables g k}}:=by
 have X:=H.mon a;have kp:KeepP (ix h.Mons m mZ) {ix h.Mons m mZ with Tables:=up (ix h.Mons m mZ).Tables g k}:=⟨rfl,rfl⟩;exact⟨zUP H a kp (zlx X kp rfl (zbT _ _ _) rfl X.outs X.pend X.tr X.own X.gs),z4c (y:={ix h.Mons m mZ with Tables:=up (ix h.Mons m mZ).Tables g k}) a rfl rfl kp rfl rfl rfl rfl rfl,fun R=>z7o R a c (b R)⟩
theorem zLZ {k:Kept}{a b:List Slot}(h:KOk k a b)(p:Int):KOk (filled k a b p) a b:=by unfold filled zdb;cases d:hasB p (ln k.Known) with|false=>exact h|true=>have f:hasB p (ln k.Slots)=true:=(by unfold ln at d ⊢;rw[h.l2,<- h.l1];exact d);have g:hasB p (ln a)=true:=(by unfold ln at d ⊢;rw[<- h.l1];exact d);rw[cond_true,f,cond_true,g,cond_true];refine⟨by rw[zbT];exact h.l1,by rw[zbT];exact h.l2,fun i c=>?_⟩;by_cases e:p=i;{subst e;show ix (up _ p _) p sZ=bif ix (up _ p true) p false then _ else _;rw[zbl f,zbl d];rfl};{show ix (up _ p _) i sZ=bif ix (up _ p true) i false then _ else _;rw[zbw (zD.1 f).1 (zD.1 c).1 e,zbw (zD.1 f).1 (zD.1 c).1 e];exact h.at' i c}
theorem zba7 {h:Host}(H:HOk h){m g:Int}(b:hasB m (ln h.Mons)=true)(hg:hasB g (ln (ix h.Mons m mZ).Guests)=true)(a:Int):Op h (zcl h m g a):=
 z7b H b (by unfold ln;rw[(H.mon b).gt];exact hg) fun R=>zLZ (R.t m b g hg) a
theorem z2H {k:Kept}{a b:List Slot}(h:KOk k a b){p:Int}(c:hasB p (ln a)=true):zdZ k p=bif ix k.Known p false then zbx (ix a p sZ) b else noSlot:=by have d:hasB p (ln k.Known)=true:=(by unfold ln at c ⊢;rw[h.l1];exact c);have e:hasB p (ln k.Slots)=true:=(by unfold ln at c ⊢;rw[h.l2];exact c);unfold zdZ zkv zdb;rw[d,e,cond_true,cond_true,h.at' p c];cases ix k.Known p false<;>rfl
theorem z0k {k:Kept}{a b:List Slot}(h:KOk k a b){p:Int}(c:hasB p (ln a)=true):zdZ (filled k a b p) p=zbx (ix a p sZ) b:=by rw[z2H (zLZ h p) c];have d:hasB p (ln k.Known)=true:=(by unfold ln at c ⊢;rw[h.l1];exact c);have e:hasB p (ln k.Slots)=true:=(by unfold ln at c ⊢;rw[h.l2];exact c);have:ix (filled k a b p).Known p false=true:=(by unfold filled zdb;rw[d,e,c];exact zbl d _ _);rw[this];rfl
theorem zbck {h:Host}(H:HOk h){m g a:Int}(i:Bool)(n:Rt h->zcy h (zTu h m g a)=true):Op h (zri h m g a i):=by have f:∀(j k:List Entry),Like h ⟨h.Memory,h.Mons,j,k⟩:=fun _ _=>⟨rfl,fun _ _=>rfl,fun _ _=>rfl,fun _ _=>rfl,fun _ _=>rfl,fun _ _=>rfl,fun _ _ _ _=>rfl⟩;have d:∀(b:List Entry),(∀e∈b,zcy h e=true)->Rt h->∀e∈zo2 b (zTu h m g a),zcy h e=true:=(by intro b l R e c;rcases z7l c with c|c;{exact l e c};{rw [c];exact n R});unfold zri;cases i;{exact⟨⟨H.m12,H.pgs,H.n1,H.n3,zZb H.b1 _,H.b2,H.mons,H.uq⟩,f _ _,fun R=>⟨R.t,fun e c=>d _ R.e1 R e c,R.e2⟩⟩};{exact⟨⟨H.m12,H.pgs,H.n1,H.n3,H.b1,zZb H.b2 _,H.mons,H.uq⟩,f _ _,fun R=>⟨R.t,R.e1,fun e c=>d _ R.e2 R e c⟩⟩}
theorem z6B {b:List Entry}{t p:Int}{e:Entry}(h:zzs b t p=some e):e∈b/\e.Tag=t/\e.Page=p:=by unfold zzs at h;have a:=List.find?_some h;rw[zce,zbv,zbv]at a;exact⟨uR h,a⟩
theorem zf4 {h:Host}{m g:Int}:zb3 h m g=true↔HOk h/\hasB m (ln h.Mons)=true/\hasB g (ln (ix h.Mons m mZ).Guests)=true:=by unfold zb3;rw[zce,zce,zie]
structure GOk (x:Guest):Prop where
 prog:zds x.Prog=true
 a:zk x.A 0 99=true
 pc:zk x.Pc 0 12=true
 w:zdc x.Written 4 8=true
 l:zdc x.Live 4 8=true
 ctl:zl9 x.Ctl=true
 pend:zdQ x.Pending=true
 ex:zit x.Exit=true
 seen:ile (ln x.Seen) 40=true
theorem ztS {x:Guest}:zd3 x=true↔GOk x:=by unfold zd3;simp only[qD];exact⟨fun⟨a,b,c,d,e,f,g,h,i⟩=>⟨a,b,c,d,e,f,g,h,i⟩,fun⟨a,b,c,d,e,f,g,h,i⟩=>⟨a,b,c,d,e,f,g,h,i⟩⟩
theorem z5d {s:Slot}:zd2 s 8=true↔s=noSlot\/(0<=s.Page/\s.Page<=7/\1<=s.Rights/\s.Rights<=3):=by unfold zd2;rw[zug,zkk,zsr];have:wsub .i64 8 1=7:=(by decide);simp only[this,zug,zcV];simp[igt];constructor;{rintro (h|⟨h,⟨a,b⟩,c⟩);{exact .inl h};{exact .inr ⟨a,b,c⟩}};{intro h;by_cases d:s=noSlot;{exact .inl d};{rcases h with h|⟨a,b,c⟩;{exact .inl h};{exact .inr ⟨d,⟨a,b⟩,c⟩}}}
theorem HOk.guest {h:Host}(H:HOk h){m g:Int}(a:hasB m (ln h.Mons)=true)(hg:hasB g (ln (ix h.Mons m mZ).Guests)=true):GOk (ix (ix h.Mons m mZ).Guests g gZ):=ztS.1 ((H.mon a).gs _ (ziv hg _))
structure Walked (l:List Slot) (p n q:Int):Prop where
 hp:hasB p (ln l)=true
 pg:(ix l p sZ).Page=q
 q8:hasB q 8=true
 en:enough (ix l p sZ).Rights n=true
theorem walked {x:Guest}(X:GOk x){p n:Int}(a:zeB x.Live p n=true):Walked x.Live p n (zbZ x.Live p n):=by have e:zbZ x.Live p n=(zbC x.Live p).Page:=(by unfold zbZ;rw[a];rfl);unfold zeB at a;by_cases b:(zbC x.Live p).Page = -1;{rw [zbv.2 b]at a;cases a};{rw [zb1.2 b,cond_false,zce]at a;have c:hasB p (ln x.Live)=true:=(by cases c:hasB p (ln x.Live) with|true=>rfl|false=>exact absurd (by unfold zbC;rw[c];rfl) b);rw[zou c] at e b a;rw[e];have d:=z5d.1 ((zrY.1 X.l).1 _ (ziv c sZ));refine⟨c,rfl,?_,a.1⟩;rcases d with d|d;{rw [d]at b;exact absurd rfl b};{exact zD.2 (by omega)}}
structure Looked (h r:Host) (m g page need q host:Int):Prop where
 op:Op h r
 inn:(ix (ix r.Mons m mZ).Outer q sZ).Page=host
 ne:host≠-1
 en:enough (zbx (ix (ix (ix h.Mons m mZ).Guests g gZ).Live page sZ) (ix r.Mons m mZ).Outer).Rights need=true
 cp:(zbx (ix (ix (ix h.Mons m mZ).Guests g gZ).Live page sZ) (ix r.Mons m mZ).Outer).Page=host
 dk:∀k,hasB k 8=true->k≠q->ix (ix r.Mons m mZ).Dirty k false=ix (ix h.Mons m mZ).Dirty k false
 dq:need=2->ix (ix r.Mons m mZ).Dirty q false=true
 d1:need=1->(ix r.Mons m mZ).Dirty=(ix h.Mons m mZ).Dirty
 dm:∀i,hasB i (ln h.Mons)=true->i≠m->(ix r.Mons i mZ).Dirty=(ix h.Mons i mZ).Dirty
theorem zRf {h:Host}(S:Safe h){m g a b q:Int}(f:hasB m (ln h.Mons)=true)(hg:hasB g (ln (ix h.Mons m mZ).Guests)=true)(l:b=1\/b=2)(W:Walked (ix (ix h.Mons m mZ).Guests g gZ).Live a b q)(c:Bool)(d:zdZ (zb4 h m g) a=zbx (ix (ix (ix h.Mons m mZ).Guests g gZ).Live a sZ) (ix h.Mons m mZ).Outer)(i:enough (zdZ (zb4 h m g) a).Rights b=true) :
 Op h (zet h m g a c).1/\(zet h m g a c).2=((ix (ix h.Mons m mZ).Outer q sZ).Page,true)/\(ix (ix h.Mons m mZ).Outer q sZ).Page≠-1/\(zet h m g a c).1.Mons=h.Mons:=by
 rw[d]at i;have e:=zqk l i;rw[W.pg,zou ((S.ok.mon f).hasO W.q8)]at e;refine⟨zbck S.ok c fun R=>?_,?_,e.2.1,?_⟩
 .obtain⟨t1,t2⟩:=S.ok.tag f hg;obtain⟨j,k,_⟩:=zW0 t1 t2;rw[zf3]
  show hasB (zcE (zd8 m g)) _=true/\hasB (zdm (zd8 m g)) (ln (ix h.Mons (zcE (zd8 m g)) mZ).Guests)=true/\below' ⟨(zdZ (zb4 h m g) a).Page,(zdZ (zb4 h m g) a).Rights⟩ (zbx (zbC (ix (ix h.Mons (zcE (zd8 m g)) mZ).Guests (zdm (zd8 m g)) gZ).Live a) (ix h.Mons (zcE (zd8 m g)) mZ).Outer)=true
  rw[j,k,zou W.hp,d];exact⟨f,hg,zr1.2 (.inr ⟨rfl,zXO (z0t _ _)⟩)⟩
 .show ((zdZ (zb4 h m g) a).Page,true)=_
  rw[d,e.2.2]
 .show (zri h m g a c).Mons=_
  unfold zri;cases c<;>rfl
theorem zVQ {h:Host}(S:Safe h){m g page need q:Int}(x:hasB m (ln h.Mons)=true)(hg:hasB g (ln (ix h.Mons m mZ).Guests)=true)(D:need=1\/need=2)(W:Walked (ix (ix h.Mons m mZ).Guests g gZ).Live page need q)(N:Bool){b:List Entry}(hb:∀e∈b,zcy h e=true)(hd:need=2->ix (ix h.Mons m mZ).Dirty q false=true) :
 Looked h (zfM h b m g page need q N).1 m g page need q (zfM h b m g page need q N).2.1/\(zfM h b m g page need q N).2.2=true:=by
 have X:=S.ok.mon x;have r:=W.q8;have L:=zou (X.hasO W.q8);unfold zfM;cases K:zhG b m g page need with
 |true=>
  rw[cond_true];unfold zhG at K;cases B:zr6 b m g page with
  |none=>rw[B]at K;cases K
  |some e=>rw[B]at K;have A:enough e.Rights need=true:=K;obtain⟨f1,f2,f3⟩:=z6B B;obtain⟨t1,t2⟩:=S.ok.tag x hg;obtain⟨b1,b2,_⟩:=zW0 t1 t2;obtain⟨_,_,v⟩:=zf3.1 (hb e f1);rw[f2,b1,b2,f3,zou W.hp]at v;have T:(⟨e.Host,e.Rights⟩:Slot)≠noSlot:=fun f=>(by have:e.Rights=0:=congrArg Slot.Rights f;rw[this,zq9 D]at A;cases A);rcases zr1.1 v with v|⟨v,h4⟩;{exact absurd v T};{have h5:=zUA h4 A;have f:=zqk D h5;rw[W.pg,L]at f;have O:e.Host=_:=v;refine⟨⟨Op.refl S.ok,f.2.2.symm.trans v.symm,?_,h5,v.symm,fun _ _ _=>rfl,hd,fun _=>rfl,fun _ _ _=>rfl⟩,rfl⟩;show e.Host≠-1;rw[O,f.2.2];exact f.2.1}
 |false=>
  rw[cond_false];have P:=S.rt.t m x g hg;cases y:zeq h m g page need with
  |false=>rw[cond_false];have E:ix (zb4 h m g).Known page false=true/\enough (zdZ (zb4 h m g) page).Rights need=true:=(by unfold zeq at y;cases n:zkv (zb4 h m g) page with|false=>rw[n]at y;cases y|true=>rw[n,cond_true]at y;refine⟨?_,?_⟩;{unfold zkv at n;cases hh:zdb (zb4 h m g) page with|false=>rw[hh]at n;cases n|true=>rw[hh]at n;exact n};{cases hz:ieq (zdZ (zb4 h m g) page).Page (-1) with|true=>rw[hz]at y;cases y|false=>rw[hz]at y;simpa using y});have H:zdZ (zb4 h m g) page=zbx (ix (ix (ix h.Mons m mZ).Guests g gZ).Live page sZ) (ix h.Mons m mZ).Outer:=(by have Z:=z2H P W.hp;have h1:ix (ix (ix h.Mons m mZ).Tables g kZ).Known page false=true:=E.1;rw[h1]at Z;exact Z);obtain⟨U,V,Y,d⟩:=zRf S x hg D W N H E.2;rw[V];have J:=E.2;rw[H]at J;have f:=zqk D J;rw[W.pg,L]at f;exact⟨⟨U,by rw[d],Y,by rw[d];exact J,by rw[d];exact f.2.2,fun _ _ _=>by rw[d],fun e=>by rw[d];exact hd e,fun _=>by rw[d],fun _ _ _=>by rw[d]⟩,rfl⟩
  |true=>
   rw[cond_true];have M:=zDy S.ok (m:=m) (p:=q) need x r;have c:hasB m (ln (mended h m q need).Mons)=true:=(by rw[M.op.like.has];exact x);have C:(ix (mended h m q need).Mons m mZ).Guests=(ix h.Mons m mZ).Guests:=M.op.like.g m x;have l:hasB g (ln (ix (mended h m q need).Mons m mZ).Guests)=true:=(by rw[C];exact hg);have G:Safe (mended h m q need):=M.op.safe S;have F:=zba7 G.ok c l page;have S2:Safe (zcl (mended h m q need) m g page):=F.safe G;have R:hasB m (ln (zcl (mended h m q need) m g page).Mons)=true:=(by rw[F.like.has];exact c);have u:ix (zcl (mended h m q need) m g page).Mons m mZ={ix (mended h m q need).Mons m mZ with Tables:=up (ix (mended h m q need).Mons m mZ).Tables g (filled (zb4 (mended h m q need) m g) (zbW (mended h m q need) m g) (ix (mended h m q need).Mons m mZ).Outer page)}:=zbl c _ _;have Q:hasB g (ln (ix (zcl (mended h m q need) m g page).Mons m mZ).Guests)=true:=(by rw[u];exact l);have w:(ix (zcl (mended h m q need) m g page).Mons m mZ).Guests=(ix h.Mons m mZ).Guests:=(by rw[u];exact C);have W2:Walked (ix (ix (zcl (mended h m q need) m g page).Mons m mZ).Guests g gZ).Live page need q:=(by rw[w];exact W);have H:zdZ (zb4 (zcl (mended h m q need) m g page) m g) page=zbx (ix (ix (ix (zcl (mended h m q need) m g page).Mons m mZ).Guests g gZ).Live page sZ) (ix (zcl (mended h m q need) m g page).Mons m mZ).Outer:=(by have:zb4 (zcl (mended h m q need) m g page) m g=filled (zb4 (mended h m q need) m g) (zbW (mended h m q need) m g) (ix (mended h m q need).Mons m mZ).Outer page:=(by unfold zb4;rw[u];exact zbl (by unfold ln;rw[(G.ok.mon c).gt];exact l) _ _);rw[this];refine(z0k (p:=page) (G.rt.t m c g l) (by rw[C];exact W.hp)).trans ?_;rw[u]);have z:(ix (zcl (mended h m q need) m g page).Mons m mZ).Outer=(ix (mended h m q need).Mons m mZ).Outer:=by rw[u]
   have j:=zou ((G.ok.mon c).hasO r);have a:=zT7 (s:=ix (ix (ix h.Mons m mZ).Guests g gZ).Live page sZ) (o:=(ix (mended h m q need).Mons m mZ).Outer) D (by rw[W.pg];have:=zD.1 r;omega) (by rw[W.pg,j];exact M.inn) W.en (by
    rw[W.pg,j];rcases D with rfl|rfl
    .rcases (G.ok.mon c).enough1 r M.inn with e|e<;>rw [e]<;>decide
    .rw [M.ri (by decide)];decide)
   have J:enough (zdZ (zb4 (zcl (mended h m q need) m g page) m g) page).Rights need=true:=(by rw[H,w,z];exact a.2);obtain⟨U,V,Y,d⟩:=zRf S2 R Q D W2 N H J;rw[V];have I:=a.1;rw[W.pg,j]at I;refine⟨⟨(M.op.trans F).trans U,by rw[d],Y,by rw[d,z];exact a.2,by rw[d,z];exact I,fun k n f=>?_,fun e=>?_,fun e=>?_,fun i hi f=>?_⟩,rfl⟩;{rw [d,u];exact M.dk k n f};{rw [d,u];exact M.dt (by rw[e];decide)};{rw [d,u];exact M.d0 (by rw[e];decide)};{rw [d];show (ix (up (mended h m q need).Mons m _) i mZ).Dirty=_;rw[zbw (zD.1 x).1 (zD.1 hi).1 (Ne.symm f)];exact M.dm i hi f}
theorem zG0 {n:Int}:zgf n=true↔n=1\/n=2:=by unfold zgf;by_cases h:n=1;{rw [zbv.2 h];simp[h]};{rw [zb1.2 h,cond_false,zbv];simp[h]}
theorem ziQ {h:Host}{m g page need:Int}:zbP h m g page need=true↔zb3 h m g=true/\(need=1\/need=2)/\zeB (zbW h m g) page need=true:=by unfold zbP;rw[zce,zce,zG0]
theorem zv8 {h:Host}(S:Safe h){m g page need:Int}(j:Bool)(t:zbP h m g page need=true){b:List Entry}(r:∀e∈b,zcy h e=true) :
 Looked h (lookOf h b m g page need j).1 m g page need (zbZ (zbW h m g) page need) (lookOf h b m g page need j).2.1/\(lookOf h b m g page need j).2.2=true:=by
 obtain⟨w,A,B⟩:=ziQ.1 t;obtain⟨_,a,hg⟩:=zf4.1 w;have W:=walked (S.ok.guest a hg) B;unfold lookOf;rw[t,cond_true];rcases A with rfl|rfl
 .rw [show ieq 1 2=false by decide,cond_false]
  exact zVQ S a hg (.inl rfl) W j r (fun e=>absurd e (by decide))
 .rw [show ieq 2 2=true by decide,cond_true]
  obtain⟨d,C⟩:=zts S.ok a (zbZ (zbW h m g) page 2);have p:hasB m (ln (zbA h m (zbZ (zbW h m g) page 2)).Mons)=true:=by rw[d.like.has];exact a
  have f:ix (zbA h m (zbZ (zbW h m g) page 2)).Mons m mZ={ix h.Mons m mZ with Dirty:=up (ix h.Mons m mZ).Dirty (zbZ (zbW h m g) page 2) true}:=zbl a _ _;have x:=(S.ok.mon a).hasD W.q8;obtain⟨L,y⟩:=zVQ (d.safe S) p (g:=g) (page:=page) (need:=2) (q:=zbZ (zbW h m g) page 2) (by rw[f];exact hg) (.inr rfl) (by rw[f];exact W) j (b:=b) (fun e z=>by
   obtain⟨l,u,v⟩:=zf3.1 (r e z);rw[zf3];have n:hasB (zcE e.Tag) (ln (zbA h m (zbZ (zbW h m g) page 2)).Mons)=true:=by rw[d.like.has];exact l
   refine⟨n,by rw[d.like.g _ l];exact u,?_⟩
   rw[d.like.g _ l];have:(ix (zbA h m (zbZ (zbW h m g) page 2)).Mons (zcE e.Tag) mZ).Outer=(ix h.Mons (zcE e.Tag) mZ).Outer:=by show (ix (up h.Mons m _) _ mZ).Outer=_;by_cases c:m=zcE e.Tag;{rw [<- c,zbl a]};{rw [zbw (zD.1 a).1 (zD.1 l).1 c]}
   rw[this];exact v) (fun _=>by rw[f];exact zbl x _ _)
  refine⟨⟨d.trans L.op,L.inn,L.ne,?_,?_,fun k s c=>?_,L.dq,fun e=>absurd e (by decide),fun i n c=>?_⟩,y⟩
  .have:=L.en;rw[f] at this;exact this
  .have:=L.cp;rw[f] at this;exact this
  .rw [L.dk k s c,f];exact zbw (zD.1 W.q8).1 (zD.1 s).1 (Ne.symm c) _ _
  .rw [L.dm i (by rw[d.like.has];exact n) c]
   show (ix (up h.Mons m _) i mZ).Dirty=_
   rw[zbw (zD.1 a).1 (zD.1 n).1 (Ne.symm c)]
theorem zQf {x y:Int}(a : -9223372036854775808<=x+y)(b:x+y<=9223372036854775807):zL .i64 x y=x+y:=by unfold zL;simp only[IntKind.wrap,IntKind.signed,IntKind.bits];simp;omega
theorem zKT {n:Nat}{P:Int->Prop}(h:∀i:Fin n,P ((i.val:Nat):Int)){x:Int}(a:0<=x)(b:x<n):P x:=by have:=h ⟨x.toNat,by omega⟩;simpa [show ((x.toNat:Nat):Int)=x by omega] using this
theorem zWh {p:Int}:zdQ p=true↔0<=p/\p<=255:=by unfold zdQ;exact zcV
theorem zRs {p:Int}(h:zdQ p=true):zdQ (zkO p)=true:=by have a:=zWh.1 h;exact zKT (n:=256) (P:=fun x=>zdQ (zkO x)=true) (by decide +kernel) a.1 (by omega)
theorem zRr {p:Int}(h:zdQ p=true)(n:Int):zdQ (ztu p n)=true:=by unfold ztu zhY;rw[h,cond_true];cases e:zk n 0 7 with|false=>exact h|true=>rw[cond_true];have b:=zWh.1 h;have a:=zcV.1 e;exact zKT (n:=256) (P:=fun x=>∀k,0<=k->k<(8:Int)->zdQ (wor .i64 x (zqa .i64 1 k))=true) (fun i k c d=>zKT (n:=8) (P:=fun k=>zdQ (wor .i64 ((i.val:Nat):Int) (zqa .i64 1 k))=true) (by revert i;decide +kernel) c d) b.1 (by omega) n a.1 (by omega)
structure GKeep (x y:Guest):Prop where
 ok:GOk y
 live:y.Live=x.Live
theorem z0Y {x:Guest}(X:GOk x){c:Int}(b:zk c 0 12=true):GOk {x with Pc:=c}:=⟨X.prog,X.a,b,X.w,X.l,X.ctl,X.pend,X.ex,X.seen⟩
theorem z0X {x:Guest}(X:GOk x){c:Int}(a:zk c 0 99=true):GOk {x with A:=c}:=⟨X.prog,a,X.pc,X.w,X.l,X.ctl,X.pend,X.ex,X.seen⟩
theorem zjW {x:Guest}(X:GOk x):GKeep x (zcj x):=by unfold zcj;have a:=zcV.1 X.pc;cases h:ige x.Pc 12 with|true=>exact⟨z0Y X (by decide),rfl⟩|false=>have:¬ x.Pc≥12:=jY h;refine⟨z0Y X ?_,rfl⟩;rw[zQf (by omega) (by omega)];exact zcV.2 (by omega)
theorem zUH {x:Guest}(X:GOk x)(n:Int):GKeep x (saw x n):=by unfold saw;cases h:ilt (ln x.Seen) 40 with|false=>exact⟨X,rfl⟩|true=>have:ln x.Seen<40:=qE h;refine⟨⟨X.prog,X.a,X.pc,X.w,X.l,X.ctl,X.pend,X.ex,qI ?_⟩,rfl⟩;unfold ln ap at *;simp;omega
theorem zjX {x:Guest}(X:GOk x){e:GExit}(b:zit e=true):GKeep x (stopped x e):=⟨⟨X.prog,X.a,X.pc,X.w,X.l,X.ctl,X.pend,b,X.seen⟩,rfl⟩
theorem zZp {x:Guest}(X:GOk x){p:Int}(b:zdQ p=true):GKeep x {x with Pending:=p}:=⟨⟨X.prog,X.a,X.pc,X.w,X.l,X.ctl,b,X.ex,X.seen⟩,rfl⟩
theorem zZm {x:Guest}(X:GOk x)(b:Bool):GKeep x {x with Halted:=b}:=⟨⟨X.prog,X.a,X.pc,X.w,X.l,X.ctl,X.pend,X.ex,X.seen⟩,rfl⟩
theorem zZn {x:Guest}(X:GOk x):GKeep x (held x):=⟨(zjW (zZm X true).ok).ok,(zjW (zZm X true).ok).live⟩
theorem z3I {x:Guest}(X:GOk x){v:Int}(c:zk v 0 99=true):GKeep x (loaded x v):=by have a:=zUH (z0X X c) v;have b:=zjW a.ok;exact⟨b.ok,b.live.trans a.live⟩
theorem zNR {x:Guest}(X:GOk x):GKeep x (interrupted x):=by unfold interrupted;cases zi3 x with|false=>exact⟨X,rfl⟩|true=>have a:=zZp X (zRs X.pend);rw[cond_true];exact⟨(zUH a.ok _).ok,(zUH a.ok _).live⟩
theorem zJo {p:List Ins}(h:zds p=true)(i:Int):zes (zcA p i)=true:=by unfold zcA;cases a:hasB i (ln p) with|false=>rfl|true=>unfold zds at h;rw[zce,qJ]at h;exact h.1 _ (ziv a _)
theorem zbcc {i:Ins}(h:zes i=true)(a:i.Op=3\/i.Op=4):0<=i.X/\i.X<=15:=by unfold zes at h;rcases a with e|e<;>rw [e]at h<;>exact zcV.1 h
theorem z3P {i:Ins}(h:zes i=true)(a:i.Op=5\/i.Op=6):0<=i.X/\i.X<=99:=by unfold zes at h;rcases a with e|e<;>rw [e]at h<;>exact zcV.1 h
theorem zbcR {i:Ins}(h:zes i=true)(a:i.Op=8):0<=i.X/\i.X<=11:=by unfold zes at h;rw[a]at h;exact zcV.1 h
theorem zbcQ {i:Ins}(h:zes i=true)(a:i.Op=1):0<=i.X/\i.X<=99:=by unfold zes at h;rw[a]at h;exact zcV.1 h
theorem z0Z {x:Guest}(X:GOk x):GKeep x (plainly x):=by have M:=zjW X;have b:=zJo X.prog x.Pc;unfold plainly;cases ine (zbi x) 2 with|true=>exact⟨X,rfl⟩|false=>rw[cond_false];(cases zk x.A 0 99 with|false=>exact M|true=>rw[cond_true];(cases zk (zcA x.Prog x.Pc).X 0 99 with|false=>exact M|true=>rw[cond_true];by_cases c:(zcA x.Prog x.Pc).Op=1;{rw [zbv.2 c,cond_true];exact⟨z0X M.ok (zcV.2 (zbcQ b c)),M.live⟩};{rw [zb1.2 c,cond_false];by_cases d:(zcA x.Prog x.Pc).Op=2;{rw [zbv.2 d,cond_true];refine⟨z0X M.ok ?_,M.live⟩;have f:=zcV.1 X.a;have i:0<=(zcA x.Prog x.Pc).X/\(zcA x.Prog x.Pc).X<=99:=(by unfold zes at b;rw[d]at b;exact zcV.1 b);rw[zcV];unfold zp9;rw[zQf (by omega) (by omega)];have g:=Int.tmod_nonneg (a:=x.A+(zcA x.Prog x.Pc).X) 100 (by omega);have h:=Int.tmod_lt_of_pos (x.A+(zcA x.Prog x.Pc).X) (show (0:Int)<100 by omega);omega};{rw [zb1.2 d,cond_false];by_cases e:(zcA x.Prog x.Pc).Op=8;{rw [zbv.2 e,cond_true];cases ieq x.A 0 with|true=>have:=zbcR b e;exact⟨z0Y M.ok (zcV.2 (by omega)),M.live⟩|false=>exact M};{rw [zb1.2 e];exact M}}}))
theorem ztt {c:List Int}:zcu c=true↔(∀x∈c,zk x 0 99=true)/\ln c=4:=by unfold zcu;rw[zce,qJ,zbv]
theorem zm8 (h:Host)(m:Int):∀(n i:Nat),(zcC h m n i).length=n
 | 0,_=>rfl
 |n+1,i=>by rw[zcC,qX,zm8 h m n]
theorem zMI (h:Host)(m:Int):∀(n i k:Nat) (a:k<(zcC h m n i).length),(zcC h m n i)[k]=zcK h m ((i+k:Nat):Int)
 | 0,i,k,a=>by simp[zcC]at a
 |n+1,i,k,a=>by cases k with|zero=>rfl|succ k=>have:=zMI h m n (i+1) k (by simpa [zcC] using a);simp only[zcC,List.getElem_cons_succ];rw[this];congr 1;omega
theorem zqC {h:Host}{m q:Int}(b:hasB q 8=true)(d:List Int):ix (zcC h m 8 0) q d=zcK h m q:=by have c:=zD.1 b;have a:q.toNat<(zcC h m 8 0).length:=(by rw[zm8];omega);have:=zku a d;rw[show ((q.toNat:Nat):Int)=q by omega] at this;rw[this,zMI];congr 1;omega
theorem zuI (h:Host)(m:Int):ln (zcC h m 8 0)=8:=by unfold ln;rw[zm8];rfl
theorem zzV {h:Host}(H:HOk h){m p:Int}(b:hasB m (ln h.Mons)=true)(a:hasB p 8=true):zcu (zcK h m p)=true:=by have X:=H.mon b;rw[<- zlE H b a];by_cases e:(ix (ix h.Mons m mZ).Outer p sZ).Page = -1;{rw [zbv.2 e];exact((zqq (X.slot a)).1 (X.fit p a)).1 e};{rw [zb1.2 e];exact zRp H.pgs _}
theorem zyV {h:Host}(H:HOk h){m:Int}(b:hasB m (ln h.Mons)=true):zcf (zK h m)=true:=by have X:=H.mon b;unfold zK;rw[b,cond_true];unfold zcf zix;rw[zce,qJ];refine⟨X.gs,?_⟩;simp only[qD,zce,qJ,zbv,zcV];refine⟨⟨fun c d=>?_,zuI h m⟩,⟨?_,?_⟩,?_,X.pend⟩;{obtain⟨i,a,rfl⟩:=zoY d [];rw[zuI]at a;rw[zqC a];exact zzV H b a};{unfold ln;have:=X.g1;omega};{unfold ln;have:=X.g2;omega};{unfold ile ln;have:=X.outs;exact qI (by omega)}
structure SimT (h r:Host) (m:Int) (f:Bare->Bare):Prop where
 safe:Safe r
 seen:∀i,zK r i=bif ieq i m then f (zK h i) else zK h i
 len:r.Mons.length=h.Mons.length
theorem SimT.trans {a b c:Host}{m:Int}{f g:Bare->Bare}(x:SimT a b m f)(y:SimT b c m g):SimT a c m (fun t=>g (f t)):=by refine⟨y.safe,fun i=>?_,y.len.trans x.len⟩;rw[y.seen i,x.seen i];cases ieq i m<;>rfl
theorem Op.sim {h r:Host}(k:Op h r)(S:Safe h)(m:Int):SimT h r m id:=⟨k.safe S,fun i=>by rw[k.like.seen i];cases ieq i m<;>rfl,k.like.len⟩
theorem SimT.congr {h r:Host}{m:Int}{f g:Bare->Bare}(x:SimT h r m f)(e:f (zK h m)=g (zK h m)):SimT h r m g:=by refine⟨x.safe,fun i=>?_,x.len⟩;rw[x.seen i];by_cases a:i=m;{subst a;rw[zbv.2 rfl,cond_true,cond_true,e]};{rw [zb1.2 a];rfl}
theorem SimT.has {h r:Host}{m:Int}{f:Bare->Bare}(x:SimT h r m f)(i:Int):hasB i (ln r.Mons)=hasB i (ln h.Mons):=by unfold ln;rw[x.len]
theorem SimT.refl {h:Host}(S:Safe h)(m:Int):SimT h h m id:=⟨S,fun i=>by cases ieq i m<;>rfl,rfl⟩
theorem zwK {h:Host}(S:Safe h){m q a:Int}(l:hasB m (ln h.Mons)=true)(f:hasB q 8=true)(J:(ix (ix h.Mons m mZ).Outer q sZ).Page=a)(y:a≠-1)(c v:Int) :
 SimT h {h with Memory:=zbO h.Memory a c v} m (fun b=>{b with Memory:=zbO b.Memory q c v})/\cellAt h.Memory a c=cellAt (zK h m).Memory q c:=by
 have H:=S.ok;have X:=H.mon l;have N:=X.slot f;have E:=hasM H N (by rw[J];exact y)
 rw[J]at E;have z:ix h.Memory a []=zcK h m q:=by have:=zlE H l f;rw[J,zb1.2 y,cond_false,zlD E] at this;exact this
 have n:ln (zcK h m q)=4:=(ztt.1 (zzV H l f)).2;have d:(zK h m).Memory=zcC h m 8 0:=by unfold zK;rw[l];rfl
 have C:ziw h.Memory a c=hasB c 4:=by unfold ziw;rw[E,cond_true,z,n]
 have D:ziw (zcC h m 8 0) q c=hasB c 4:=by unfold ziw;rw[zuI,f,cond_true,zqC f,n]
 have u:cellAt h.Memory a c=cellAt (zK h m).Memory q c:=by rw[d];unfold cellAt;rw[C,D,z,zqC f]
 refine⟨?_,u⟩;cases A:hasB c 4 with
 |false=>have s:zbO h.Memory a c v=h.Memory:=(by unfold zbO;rw[C,A];rfl);rw[s];refine(SimT.refl S m).congr ?_;show zK h m={zK h m with Memory:=zbO (zK h m).Memory q c v};rw[d];have B:zbO (zcC h m 8 0) q c v=zcC h m 8 0:=(by unfold zbO;rw[D,A];rfl);rw[B,<- d]
 |true=>
  cases K:zk v 0 99 with
  |false=>have s:zbO h.Memory a c v=h.Memory:=(by unfold zbO;rw[C,A,K];rfl);rw[s];refine(SimT.refl S m).congr ?_;show zK h m={zK h m with Memory:=zbO (zK h m).Memory q c v};rw[d];have B:zbO (zcC h m 8 0) q c v=zcC h m 8 0:=(by unfold zbO;rw[D,A,K];rfl);rw[B,<- d]
  |true=>have s:zbO h.Memory a c v=up h.Memory a (up (zcK h m q) c v):=(by unfold zbO;rw[C,A,K,z];rfl);have B:zbO (zcC h m 8 0) q c v=up (zcC h m 8 0) q (up (zcK h m q) c v):=(by unfold zbO;rw[D,A,K,zqC f];rfl);have G:zcu (up (zcK h m q) c v)=true:=(by have:=ztt.1 (zzV H l f);rw[ztt,zd0];refine⟨fun x O=>?_,this.2⟩;rcases qT O with h|h;{exact this.1 x h};{rw [h];exact K});have P:=(zD.1 E).1;have L:HOk {h with Memory:=zbO h.Memory a c v}:=(by rw[s];refine⟨by show (up _ _ _).length=12;rw[zbT];exact H.m12,fun x O=>?_,H.n1,H.n3,H.b1,H.b2,H.mons,H.uq⟩;rcases qT O with h|h;{exact H.pgs x h};{rw [h];exact G});refine⟨⟨L,⟨S.rt.t,S.rt.e1,S.rt.e2⟩⟩,fun i=>?_,rfl⟩;have r:∀i k,hasB i (ln h.Mons)=true->hasB k 8=true->¬ (i=m/\k=q)->zcK {h with Memory:=zbO h.Memory a c v} i k=zcK h i k:=(by intro i k w g I;rw[<- zlE L (m:=i) (p:=k) w g,<- zlE H w g];show (cond (ieq (ix (ix h.Mons i mZ).Outer k sZ).Page (-1)) _ (zcB (zbO h.Memory a c v) _))=_;by_cases e:(ix (ix h.Mons i mZ).Outer k sZ).Page = -1;{rw [zbv.2 e];rfl};{rw [zb1.2 e,cond_false,cond_false,s];exact zDB P (fun e=>I (H.uniq w g l f e J P))});have F:zcK {h with Memory:=zbO h.Memory a c v} m q=up (zcK h m q) c v:=(by rw[<- zlE L (m:=m) (p:=q) l f];show (cond (ieq (ix (ix h.Mons m mZ).Outer q sZ).Page (-1)) _ (zcB (zbO h.Memory a c v) (ix (ix h.Mons m mZ).Outer q sZ).Page))=_;rw[J,zb1.2 y,cond_false,s];exact zDA E);by_cases w:i=m;{subst w;rw[zbv.2 rfl,cond_true];unfold zK;show (cond (hasB i (ln h.Mons)) _ _)=_;rw[l,cond_true,cond_true];show Bare.mk (zcC {h with Memory:=zbO h.Memory a c v} i 8 0) _ _ _=Bare.mk (zbO (zcC h i 8 0) q c v) _ _ _;congr 1;rw[B];refine zPz [] (by rw[zbT,zm8,zm8]) fun k g=>?_;rw[zuI]at g;rw[zqC g];by_cases e:q=k;{subst e;rw[zbl (by rw[zuI];exact f),F]};{rw [zbw (zD.1 f).1 (zD.1 g).1 e,zqC g];exact r i k l g (fun h=>e h.2.symm)}};{rw [zb1.2 w,cond_false];unfold zK;show (cond (hasB i (ln h.Mons)) _ _)=_;cases M:hasB i (ln h.Mons) with|false=>rfl|true=>rw[cond_true,cond_true];show Bare.mk (zcC {h with Memory:=zbO h.Memory a c v} i 8 0) _ _ _=_;rw[zrg 8 0 (fun j C D=>r i (j:Int) M (zD.2 (by omega)) (fun h=>w h.1))]}
theorem zqU {h:Host}(S:Safe h){m g:Int}(a:hasB m (ln h.Mons)=true)(hg:hasB g (ln (ix h.Mons m mZ).Guests)=true){y:Guest}(k:GKeep (gOf h m g) y):SimT h (zlG h m g y) m (fun b=>zeO b g y):=by have X:=S.ok.mon a;have kp:KeepP (ix h.Mons m mZ) {ix h.Mons m mZ with Guests:=up (ix h.Mons m mZ).Guests g y}:=⟨rfl,rfl⟩;refine⟨zwJ S a kp (zlx X kp (zbT _ _ _) rfl rfl X.outs X.pend X.tr X.own fun z d=>?_) (zbT _ _ _) (fun j c=>?_) rfl,fun i=>?_,zbT _ _ _⟩;{rcases qT d with h|h;{exact X.gs z h};{rw [h];exact ztS.2 k.ok}};{show (ix (up (ix h.Mons m mZ).Guests g y) j gZ).Live=_;by_cases e:g=j;{subst e;rw[zbl hg];exact k.live};{rw [zbw (zD.1 hg).1 (zD.1 c).1 e]}};{refine(zvj (h:=h) (r:=zlG h m g y) a rfl rfl kp i).trans ?_;by_cases e:i=m;{subst e;rw[zbv.2 rfl,cond_true,cond_true];unfold zeO zK;rw[a];rfl};{rw [zb1.2 e];rfl}}
theorem zWK {h:Host}(S:Safe h){m:Int}(a:hasB m (ln h.Mons)=true){y:Mon}(kp:KeepP (ix h.Mons m mZ) y)(d:MOk y)(hg:y.Guests=(ix h.Mons m mZ).Guests)(c:y.Tables=(ix h.Mons m mZ).Tables) :
 SimT h {h with Mons:=up h.Mons m y} m (fun b=>{b with Outs:=y.Outs,Pending:=y.Pending}):=by
 refine⟨zwJ S a kp d (by rw[hg]) (fun j _=>by rw[hg]) c,fun i=>?_,zbT _ _ _⟩
 refine(zvj (h:=h) (r:={h with Mons:=up h.Mons m y}) a rfl rfl kp i).trans ?_
 by_cases e:i=m
 .subst e;rw[zbv.2 rfl,cond_true,cond_true];unfold zK;rw[a,hg];rfl
 .rw [zb1.2 e];rfl
theorem zfC {h:Host}{m:Int}(a:hasB m (ln h.Mons)=true):zK h m=⟨zcC h m 8 0,(ix h.Mons m mZ).Guests,(ix h.Mons m mZ).Outs,(ix h.Mons m mZ).Pending⟩:=by unfold zK;rw[a];rfl
theorem z5a {h:Host}(S:Safe h){m:Int}(a:hasB m (ln h.Mons)=true):SimT h (owned h m) m id:=by unfold owned;cases b:ilt (ix h.Mons m mZ).Own 1000000000 with|false=>exact SimT.refl S m|true=>rw[cond_true];have X:=S.ok.mon a;have d:=zcV.1 X.own;have c:(ix h.Mons m mZ).Own<1000000000:=qE b;have kp:KeepP (ix h.Mons m mZ) {ix h.Mons m mZ with Own:=zL .i64 (ix h.Mons m mZ).Own 1}:=⟨rfl,rfl⟩;refine(zWK S a kp (zlx X kp rfl rfl rfl X.outs X.pend X.tr ?_ X.gs) rfl rfl).congr ?_;{show zk (zL .i64 (ix h.Mons m mZ).Own 1) 0 1000000000=true;rw[zQf (by omega) (by omega),zcV];omega};{rw [zfC a];rfl}
theorem z2j {h:Host}(S:Safe h){m:Int}(a:hasB m (ln h.Mons)=true)(n:Int):SimT h (zoZ h m n) m (fun b=>zo3 b n):=by unfold zoZ;have X:=S.ok.mon a;cases c:ilt (ln (ix h.Mons m mZ).Outs) 40 with|false=>refine(SimT.refl S m).congr ?_;rw[zfC a];unfold zo3;rw[c];rfl|true=>rw[cond_true];have d:ln (ix h.Mons m mZ).Outs<40:=qE c;have kp:KeepP (ix h.Mons m mZ) {ix h.Mons m mZ with Outs:=ap (ix h.Mons m mZ).Outs [n]}:=⟨rfl,rfl⟩;refine(zWK S a kp (zlx X kp rfl rfl rfl ?_ X.pend X.tr X.own X.gs) rfl rfl).congr ?_;{show (ap (ix h.Mons m mZ).Outs [n]).length<=40;unfold ln ap at *;simp;omega};{rw [zfC a];unfold zo3;rw[c];rfl}
theorem zur {h:Host}{m g:Int}(a:hasB m (ln h.Mons)=true)(hg:hasB g (ln (ix h.Mons m mZ).Guests)=true):gAt (zK h m) g=gOf h m g:=by rw[zfC a];unfold gAt;show (cond (hasB g (ln (ix h.Mons m mZ).Guests)) _ _)=_;rw[hg];rfl
theorem zQg {x:Guest}(h:zbi x=3\/zbi x=4\/zbi x=5\/zbi x=6):(zcA x.Prog x.Pc).Op=zbi x:=by unfold zbi at h ⊢;cases e:canRun x with|false=>simp[e]at h|true=>simp only[e,cond_true]at h ⊢;(cases f:zi3 x with|true=>simp[f]at h|false=>simp only[f,cond_false]at h ⊢;unfold zx9 at h ⊢;by_cases a:(zcA x.Prog x.Pc).Op=3;{rw [a];rfl};{rw [zb1.2 a,cond_false]at h ⊢;by_cases b:(zcA x.Prog x.Pc).Op=4;{rw [b];rfl};{rw [zb1.2 b,cond_false]at h ⊢;by_cases c:(zcA x.Prog x.Pc).Op=5;{rw [c];rfl};{rw [zb1.2 c,cond_false]at h ⊢;by_cases d:(zcA x.Prog x.Pc).Op=6;{rw [d];rfl};{rw [zb1.2 d,cond_false]at h ⊢;cases g:ieq (zcA x.Prog x.Pc).Op 7<;>simp [g]at h}}}})
theorem z98 {x:Guest}(X:GOk x){w:Int}(a:zbi x=w)(h:w=3\/w=4):0<=address x/\address x<=15:=by have e:address x=(zcA x.Prog x.Pc).X:=(by unfold address;rcases h with e|e;{rw [a,e];rfl};{rw [a,e];rfl});rw[e];exact zbcc (zJo X.prog _) (by rw[zQg (by omega),a];exact h)
theorem z99 {a:Int}(b:0<=a)(c:a<=15):zk (zbp a) 0 3=true/\hasB (zdu a) 4=true :=
 zKT (n:=16) (P:=fun a=>zk (zbp a) 0 3=true/\hasB (zdu a) 4=true) (by decide) b (by omega)
theorem z0O {p:Int}(h:zk p 0 3=true)(w:Bool):zit (zr5 p w)=true:=by unfold zit zr5;simp[ieq,h]
theorem z3y {n:Int}(h:zk n 0 99=true):zit (zzi n)=true:=by unfold zit zzi;simp[ieq,h]
theorem z6A {n:Int}(h:zk n 0 99=true):zit (zya n)=true:=by unfold zit zya;simp[ieq,h]
theorem z6G {x:Guest}(X:GOk x)(t:Int){w:Int}(d:zbi x=w):GKeep x (zkp x t w):=by have c:=zJo X.prog x.Pc;unfold zkp;by_cases b:w=6;{rw [zbv.2 b];exact zjX X (z3y (zcV.2 (z3P c (by rw[zQg (by omega),d];omega))))};{rw [zb1.2 b,cond_false];by_cases a:w=5;{rw [zbv.2 a];cases zhI t 1 with|true=>exact zjX X (z6A (zcV.2 (z3P c (by rw[zQg (by omega),d];omega))))|false=>rw[a];exact zjW X};{rw [zb1.2 a];rw[Bool.false_and,cond_false];cases e:(ieq w 7&&zhI t 2) with|true=>exact zjX X rfl|false=>rw[cond_false];cases ieq w 7;{exact zjW X};{exact zZn X}}}
theorem zZC {a:Type}(g:Int):hasB g (ln ([]:List a))=false:=by cases h:hasB g (ln ([]:List a)) with|false=>rfl|true=>have:=zD.1 h;simp[ln] at this;omega
theorem z5N {m:List (List Int)}(h:∀c∈m,zcu c=true)(p c:Int):zk (cellAt m p c) 0 99=true:=by unfold cellAt ziw;cases b:hasB p (ln m) with|false=>rfl|true=>rw[cond_true];(cases a:hasB c (ln (ix m p [])) with|false=>rfl|true=>rw[cond_true];exact(ztt.1 (h _ (ziv b []))).1 _ (ziv a 0))
theorem HOk.seenG {h:Host}(H:HOk h){m g:Int}(a:hasB m (ln h.Mons)=true)(hg:hasB g (ln (ix h.Mons m mZ).Guests)=true):GOk (gOf h m g):=H.guest a hg
theorem zWX {h:Host}(S:Safe h){m g:Int}(i:hasB m (ln h.Mons)=true)(hg:hasB g (ln (ix h.Mons m mZ).Guests)=true)(w:Bool)(B:zbi (gOf h m g)=bif w then 4 else 3) :
 SimT h (zko (znv h m g (gOf h m g) w) m g (gOf h m g) w) m (fun b=>zov b g (gOf h m g) w):=by
 have X:=S.ok.seenG i hg;have t:=z98 X B (by cases w<;>simp)
 have n:=z99 t.1 t.2;have z:zcg w=1\/zcg w=2:=by cases w<;>simp [zcg]
 unfold zko znv;cases k:zbP h m g (zbp (address (gOf h m g))) (zcg w) with
 |false=>have e:lookOf h h.Buffer m g (zbp (address (gOf h m g))) (zcg w) false=(h,-1,false):=(by unfold lookOf;rw[k];rfl);have q:zeB (gOf h m g).Live (zbp (address (gOf h m g))) (zcg w)=false:=(by cases y:zeB (gOf h m g).Live (zbp (address (gOf h m g))) (zcg w) with|false=>rfl|true=>exact Bool.noConfusion (k.symm.trans (ziQ.2 ⟨zf4.2 ⟨S.ok,i,hg⟩,z,y⟩)));rw[e];refine(zqU S i hg (zjX X (z0O n.1 w))).congr ?_;unfold zov;rw[q];rfl
 |true=>obtain⟨L,x⟩:=zv8 S false k S.rt.e1;obtain⟨_,_,j⟩:=ziQ.1 k;have c:zeB (gOf h m g).Live (zbp (address (gOf h m g))) (zcg w)=true:=j;have W:=walked X j;rw[x,cond_true];have l:=L.op.safe S;have f:hasB m (ln (lookOf h h.Buffer m g (zbp (address (gOf h m g))) (zcg w) false).1.Mons)=true:=(by rw[L.op.like.has];exact i);have a:=L.op.like.g m i;have C:hasB (zbZ (zbW h m g) (zbp (address (gOf h m g))) (zcg w)) 8=true:=W.q8;obtain⟨u,v⟩:=zwK l f C L.inn L.ne (zdu (address (gOf h m g))) (gOf h m g).A;rw[L.op.like.seen m] at v;cases w with|true=>rw[cond_true];have r:=L.op.sim S m;have p:hasB m (ln ({ (lookOf h h.Buffer m g (zbp (address (gOf h m g))) (zcg true) false).1 with Memory:=zbO (lookOf h h.Buffer m g (zbp (address (gOf h m g))) (zcg true) false).1.Memory (lookOf h h.Buffer m g (zbp (address (gOf h m g))) (zcg true) false).2.1 (zdu (address (gOf h m g))) (gOf h m g).A}:Host).Mons)=true:=f;have d:hasB g (ln (ix ({ (lookOf h h.Buffer m g (zbp (address (gOf h m g))) (zcg true) false).1 with Memory:=zbO (lookOf h h.Buffer m g (zbp (address (gOf h m g))) (zcg true) false).1.Memory (lookOf h h.Buffer m g (zbp (address (gOf h m g))) (zcg true) false).2.1 (zdu (address (gOf h m g))) (gOf h m g).A}:Host).Mons m mZ).Guests)=true:=(by show hasB g (ln (ix (lookOf h h.Buffer m g (zbp (address (gOf h m g))) (zcg true) false).1.Mons m mZ).Guests)=true;rw[a];exact hg);have s:GKeep (gOf { (lookOf h h.Buffer m g (zbp (address (gOf h m g))) (zcg true) false).1 with Memory:=zbO (lookOf h h.Buffer m g (zbp (address (gOf h m g))) (zcg true) false).1.Memory (lookOf h h.Buffer m g (zbp (address (gOf h m g))) (zcg true) false).2.1 (zdu (address (gOf h m g))) (gOf h m g).A} m g) (zcj (gOf h m g)):=(by have:gOf { (lookOf h h.Buffer m g (zbp (address (gOf h m g))) (zcg true) false).1 with Memory:=zbO (lookOf h h.Buffer m g (zbp (address (gOf h m g))) (zcg true) false).1.Memory (lookOf h h.Buffer m g (zbp (address (gOf h m g))) (zcg true) false).2.1 (zdu (address (gOf h m g))) (gOf h m g).A} m g=gOf h m g:=(by show ix (ix (lookOf h h.Buffer m g (zbp (address (gOf h m g))) (zcg true) false).1.Mons m mZ).Guests g gZ=_;rw[a];rfl);rw[this];exact zjW X);refine((r.trans u).trans (zqU u.safe p d s)).congr ?_;unfold zov;rw[c];rfl|false=>rw[cond_false];have r:=L.op.sim S m;have d:hasB g (ln (ix (lookOf h h.Buffer m g (zbp (address (gOf h m g))) (zcg false) false).1.Mons m mZ).Guests)=true:=(by rw[a];exact hg);have s:GKeep (gOf (lookOf h h.Buffer m g (zbp (address (gOf h m g))) (zcg false) false).1 m g) (loaded (gOf h m g) (cellAt (lookOf h h.Buffer m g (zbp (address (gOf h m g))) (zcg false) false).1.Memory (lookOf h h.Buffer m g (zbp (address (gOf h m g))) (zcg false) false).2.1 (zdu (address (gOf h m g))))):=(by have:gOf (lookOf h h.Buffer m g (zbp (address (gOf h m g))) (zcg false) false).1 m g=gOf h m g:=(by show ix (ix (lookOf h h.Buffer m g (zbp (address (gOf h m g))) (zcg false) false).1.Mons m mZ).Guests g gZ=_;rw[a];rfl);rw[this];exact z3I X (z5N l.ok.pgs _ _));refine(r.trans (zqU l f d s)).congr ?_;unfold zov;rw[c,v];rfl
theorem z6F {h r:Host}{m g:Int}(e:(ix r.Mons m mZ).Guests=(ix h.Mons m mZ).Guests):gOf r m g=gOf h m g:=by unfold gOf;rw[e]
theorem zba8 (h:Host)(m:Int)(a:hasB m (ln h.Mons)=true):(ix (owned h m).Mons m mZ).Guests=(ix h.Mons m mZ).Guests:=by unfold owned;cases ilt (ix h.Mons m mZ).Own 1000000000 with|false=>rfl|true=>show (ix (up h.Mons m _) m mZ).Guests=_;rw[zbl a]
theorem z7c (h:Host)(m n:Int)(a:hasB m (ln h.Mons)=true):(ix (zoZ h m n).Mons m mZ).Guests=(ix h.Mons m mZ).Guests:=by unfold zoZ;cases ilt (ln (ix h.Mons m mZ).Outs) 40 with|false=>rfl|true=>show (ix (up h.Mons m _) m mZ).Guests=_;rw[zbl a]
theorem z5c {h:Host}(S:Safe h){m:Int}(a:hasB m (ln h.Mons)=true)(x:Guest)(w:Int):SimT h (zg3 h m x w) m id/\(ix (zg3 h m x w).Mons m mZ).Guests=(ix h.Mons m mZ).Guests:=by unfold zg3;cases (cond (ine w 6) (ieq (zzU (ix h.Mons m mZ).Traps x.Ctl.Traps (zyZ w)) 2) false) with|false=>exact⟨SimT.refl S m,rfl⟩|true=>exact⟨z5a S a,zba8 h m a⟩
theorem z5b {h:Host}(S:Safe h){m:Int}(a:hasB m (ln h.Mons)=true)(x:Guest)(w:Int):SimT h (zg2 h m x w) m (fun b=>bif (cond (zle x.Ctl.Traps w) (ieq w 5) false) then zo3 b (zcA x.Prog x.Pc).X else b)/\(ix (zg2 h m x w).Mons m mZ).Guests=(ix h.Mons m mZ).Guests:=by unfold zg2;cases (cond (zle x.Ctl.Traps w) (ieq w 5) false) with|false=>exact⟨SimT.refl S m,rfl⟩|true=>exact⟨z2j S a _,z7c h m _ a⟩
theorem zEd {h:Host}(S:Safe h){m g:Int}(d:hasB m (ln h.Mons)=true)(hg:hasB g (ln (ix h.Mons m mZ).Guests)=true){w:Int}(l:zbi (gOf h m g)=w) :
 SimT h (zwO h m g (gOf h m g) w) m (fun b=>zEX b g (gOf h m g) w):=by
 have X:=S.ok.seenG d hg;obtain⟨f,j⟩:=z5c S d (gOf h m g) w;have a:hasB m (ln (zg3 h m (gOf h m g) w).Mons)=true:=by rw[f.has];exact d
 obtain⟨i,k⟩:=z5b f.safe a (gOf h m g) w;have e:hasB m (ln (zg2 (zg3 h m (gOf h m g) w) m (gOf h m g) w).Mons)=true:=by rw[i.has];exact a
 have c:hasB g (ln (ix (zg2 (zg3 h m (gOf h m g) w) m (gOf h m g) w).Mons m mZ).Guests)=true:=by rw[k,j];exact hg
 have n:GKeep (gOf (zg2 (zg3 h m (gOf h m g) w) m (gOf h m g) w) m g) (zkp (gOf h m g) (gOf h m g).Ctl.Traps w):=by rw[z6F (k.trans j)];exact z6G X _ l
 exact((f.trans i).trans (zqU i.safe e c n)).congr rfl
theorem z2x (x:Guest):zbi x=0\/zbi x=1\/zbi x=2\/zbi x=3\/zbi x=4\/zbi x=5\/zbi x=6\/zbi x=7:=by unfold zbi zx9;cases canRun x<;>cases zi3 x<;>cases ieq (zcA x.Prog x.Pc).Op 3<;>cases ieq (zcA x.Prog x.Pc).Op 4<;>cases ieq (zcA x.Prog x.Pc).Op 5<;>cases ieq (zcA x.Prog x.Pc).Op 6<;>cases ieq (zcA x.Prog x.Pc).Op 7<;>simp
theorem zT4 {h:Host}(H:HOk h)(m g:Int):zl7 (zK h m) g=bif zb3 h m g then !ieq (zbi (gOf h m g)) 0 else false:=by unfold zl7 zb3;rw[zie.2 H,cond_true];cases a:hasB m (ln h.Mons) with|false=>have:(zK h m).Guests=[]:=(by unfold zK;rw[a];rfl);rw[this,zZC];rfl|true=>rw[cond_true,zyV H a,cond_true];have:(zK h m).Guests=(ix h.Mons m mZ).Guests:=(by rw[zfC a]);rw[this];(cases hg:hasB g (ln (ix h.Mons m mZ).Guests) with|false=>rfl|true=>rw[cond_true,cond_true,zur a hg])
theorem step_ok {h:Host}(S:Safe h)(m g:Int):SimT h (zcz h m g).1 m (fun b=>ziK b g)/\(zcz h m g).2=zl7 (zK h m) g:=by
 have a:=zT4 S.ok m g;unfold zcz;cases i:zb3 h m g with
 |false=>rw[i,cond_false]at a;refine⟨(SimT.refl S m).congr ?_,a.symm⟩;unfold ziK;rw[a];rfl
 |true=>rw[i,cond_true]at a;rw[cond_true];obtain⟨_,c,hg⟩:=zf4.1 i;have X:=S.ok.seenG c hg;have f:=zur c hg;have d:∀w,zbi (gOf h m g)=w->w≠0->ziK (zK h m) g=stepped (zK h m) g (gOf h m g) w:=(by intro w j k;unfold ziK;rw[a,j,zb1.2 k,f,j];rfl);rcases z2x (gOf h m g) with e|e|e|e|e|e|e|e;{rw [e];rw[e]at a;refine⟨(SimT.refl S m).congr ?_,a.symm⟩;unfold ziK;rw[a];rfl};{rw [e]at a ⊢;exact⟨(zqU S c hg (zNR X)).congr (d 1 e (by decide)).symm,a.symm⟩};{rw [e]at a ⊢;exact⟨(zqU S c hg (z0Z X)).congr (d 2 e (by decide)).symm,a.symm⟩};{rw [e]at a ⊢;exact⟨(zWX S c hg false e).congr (d 3 e (by decide)).symm,a.symm⟩};{rw [e]at a ⊢;exact⟨(zWX S c hg true e).congr (d 4 e (by decide)).symm,a.symm⟩};{rw [e]at a ⊢;exact⟨(zEd S c hg e).congr (d 5 e (by decide)).symm,a.symm⟩};{rw [e]at a ⊢;exact⟨(zEd S c hg e).congr (d 6 e (by decide)).symm,a.symm⟩};{rw [e]at a ⊢;exact⟨(zEd S c hg e).congr (d 7 e (by decide)).symm,a.symm⟩}
end
end Go.Proofs.YthhbajmehldikaaGreat.E
