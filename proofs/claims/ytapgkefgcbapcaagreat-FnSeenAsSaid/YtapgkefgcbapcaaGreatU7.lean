/- What is proved here: a part of the proof of the claim. -/
import Derived.Test.YtapgkefgcbapcaaGreatU6
namespace Go.Proofs.YtapgkefgcbapcaaGreat.E
open Go
set_option linter.defProp false
set_option linter.constructorNameAsVariable false
set_option linter.unusedVariables false
set_option maxRecDepth 100000
set_option linter.unusedSimpArgs false
set_option linter.unusedSectionVars false
noncomputable section
def zbU (h:ad):List ak:=(List.range h.aa.length).map λ(i:Nat)=>zK h (i:Int)
def zfx (h:ad):(zbU h).length=h.aa.length:=by simp[zbU]
def zmA (h:ad)(m:Int):i0 m (ln<|zbU h)=i0 m (ln h.aa):=by unfold ln;rw[zfx]
def zlS {h:ad}{m:Int}(c:i0 m (ln h.aa)=true)(d:ak):ix (zbU h) m d=zK h m:=by have a:=zF.1 c;unfold ln at a;have b:m.toNat<(zbU h).length:=(by rw[zfx];omega);have:=zmD b d;rw[show ((m.toNat:Nat):Int)=m by omega] at this;rw[this];simp[zbU,show max m 0=m by omega]
def zJh {h r:ad}(a:r.aa.length=h.aa.length)(e:∀i,zK r i=zK h i):zbU r=zbU h:=by unfold zbU;rw[a];exact List.map_congr_left λi _=>e _
def zVw {h:ad}(S:Safe h)(a:GAct):zbU (zeU h a)=zJk (zbU h) a/\(zkT a=true->zjP h a=zXY (zbU h) a):=by obtain⟨_,k,l,t⟩:=zZY S a;have p:zkT a=true->zbU (zeU h a)=(cond (i0 a.M<|ln h.aa) (up (zbU h) a.M<|zJi (zK h a.M) a)<|zbU h):=(by intro b;rw[b]at l;cases f:i0 a.M (ln h.aa) with|false=>rw[cond_false];refine zNT ⟨[],[],[],0⟩ (by rw[zfx,zfx,k]) λi c=>?_;rw[zmA]at c;rw[zlS c];have d:i0 i (ln h.aa)=true:=(by unfold ln at c ⊢;rwa [<- k]);rw[zlS d,l i];have:ieq i a.M=false:=zbY.2 λe=>(by rw[e,f]at d;cases d);rw[this];rfl|true=>rw[cond_true];refine zNT ⟨[],[],[],0⟩ (by rw[zbR,zfx,zfx,k]) λi c=>?_;rw[zmA]at c;rw[zlS c,l i];have d:i0 i (ln h.aa)=true:=(by unfold ln at c ⊢;rwa [<- k]);by_cases e:i=a.M;{rw [e,zbu.2 rfl,zbg (by rw[zmA];exact f)];rfl};{rw [zbY.2 e,zbv (zF.1 f).1 (zF.1 d).1<|Ne.symm e,zlS d];rfl});have s:zkT a=false->zbU (zeU h a)=zbU h:=λb=>zJh k λi=>(by rw[l i,b];rfl);have r:zkT a=true->zl a.Kind 1 17=true/\zl a.Kind 13 17=false:=(by intro b;unfold zkT at b;cases g:zl a.Kind 1 17<;>cases j:zl a.Kind 13 17<;>rw [g,j]at b<;>first|exact⟨rfl,rfl⟩|cases b);constructor;{unfold zJk;cases b:zkT a with|true=>obtain⟨g,j⟩:=r b;rw[g,j,cond_true,cond_false,zmA,p b];(cases f:i0 a.M (ln h.aa) with|true=>rw[cond_true,cond_true,zlS f]|false=>rfl)|false=>rw[s b];unfold zkT at b;(cases g:zl a.Kind 1 17 with|false=>rfl|true=>(cases j:zl a.Kind 13 17 with|true=>rfl|false=>rw[g,j]at b;cases b))};{intro b;rw[t b];obtain⟨g,j⟩:=r b;unfold zXY;rw[g,j,cond_true,cond_false,zmA];cases f:i0 a.M (ln h.aa) with|true=>rw[cond_true,zlS f]|false=>rw[cond_false,seen_none f];have n:=(zQf a.G).2;have q:=ztn;unfold zJj;simp only[n,zjJ];unfold zxG zf8 zm5 ztA zyX zRT zoj;simp only[q,ztB q,cond_false];(cases m:ieq a.Kind 10 with|true=>have:a.Kind=10:=zbu.1 m;rw[this];rfl|false=>cases ieq a.Kind 1<;>cases ieq a.Kind 2<;>cases ieq a.Kind 3<;>cases ieq a.Kind 4<;>cases ieq a.Kind 5<;>cases ieq a.Kind 6<;>cases ieq a.Kind 7<;>cases ieq a.Kind 8<;>cases ieq a.Kind 9<;>cases ieq a.Kind 11<;>rfl)}
def zKx:List GAct->List aF->List aF
 |a::l,t::ts=>bif zkT a then t::zKx l ts else zKx l ts
 |_,_=>[]
structure aw (u:ad×List aF) (v:List ak×List aF):Prop where
 safe:Safe u.1
 seen:zbU u.1=v.1
def zDH:List GAct->ad->List aF
 |[],_=>[]
 |a::l,h=>zjP h a::zDH l (zeU h a)
def z2L:List GAct->List ak->List aF
 |[],_=>[]
 |a::l,b=>zXY b a::z2L l (zJk b a)
def zve:List GAct->ad->ad
 |[],h=>h
 |a::l,h=>zve l (zeU h a)
def z3R:List GAct->List ak->List ak
 |[],b=>b
 |a::l,b=>z3R l (zJk b a)
def zXu:∀(l:List GAct) (u:ad×List aF),zC6 l u=(zve l u.1,u.2++zDH l u.1)
 |[],u=>by simp[zC6,zve,zDH]
 |a::l,u=>by rw[zC6,zXu l];simp[zve,zDH,ap]
def z03:∀(l:List GAct) {h:ad},Safe h->Safe (zve l h)/\zbU (zve l h)=z3R l (zbU h)/\zKx l (zDH l h)=zKx l (z2L l<|zbU h)/\(zve l h).aa.length=h.aa.length
 |[],h,S=>⟨S,rfl,rfl,rfl⟩
 |a::l,h,S=>by have d:=zZY S a;have b:=zVw S a;obtain⟨e,f,c,g⟩:=z03 l d.1;refine⟨e,by show zbU (zve l<|zeU h a)=z3R l (zJk (zbU h) a);rw[f,b.1],?_,g.trans d.2.1⟩;show (cond (zkT a) _ _)=(cond (zkT a) _ _);cases i:zkT a with|false=>rw[cond_false,cond_false,c,b.1]|true=>rw[cond_true,cond_true,c,b.1,b.2 i]
def cz8 (q:Int)(b:0<=q):zuK.countP (λs=>ieq s.af q)=0:=by rw[vF];intro s a;have:=(uT.1 a).2;rw[this];show ¬ ieq (-1) q=true;rw[zbu];omega
def zVN {p:List Ins}(h:zdR p=true):GOk (zfj p):=⟨h,rfl,rfl,rfl,rfl,rfl,rfl,rfl,rfl⟩
def z1K {a:List (List Ins)}(i:1<=a.length)(h:∀p∈a,zdR p=true):MOk (zho a):=by have d:∀s∈zuK,s=z0:=λs c=>(uT.1 c).2;refine⟨?_,?_,?_,rfl,λs c=>.inl (d s c),rfl,rfl,kA _,rfl,rfl,rfl,λg hg=>?_,λp b=>?_⟩;{show 1<=((a.take 2).map zfj).length;simp;omega};{show ((a.take 2).map zfj).length<=2;simp;omega};{show ((a.take 2).map λ_=>zkC).length=((a.take 2).map zfj).length;simp};{obtain⟨p,b,rfl⟩:=jJ.1 hg;exact ztk.2 (zVN<|h p<|jY b)};{have f:=zF.1 b;have e:p=0\/p=1\/p=2\/p=3\/p=4\/p=5\/p=6\/p=7:=(by omega);rcases e with rfl|rfl|rfl|rfl|rfl|rfl|rfl|rfl<;>rfl}
def z7m (a:List (List<|List Ins)):Prop:=1<=a.length/\∀p∈a,1<=p.length/\∀x∈p,zdR x=true
def zYE {a:List (List<|List Ins)}(h:z7m a):Safe (zf7 a):=by have b:∀x∈(zf7 a).aa,∃p∈a,x=zho p:=λx f=>(by obtain⟨p,j,rfl⟩:=jJ.1 f;exact⟨p,jY j,rfl⟩);have u:∀x∈(zf7 a).aa,x.ae=zuK:=λx f=>(by obtain⟨p,_,rfl⟩:=b x f;rfl);have H:HOk (zf7 a):=(by refine⟨rfl,λc v=>?_,?_,?_,rfl,rfl,λx f=>?_,λq B=>?_⟩;{have:c=[0,0,0,0]:=(uT.1 v).2;rw[this];rfl};{show 1<=((a.take 3).map zho).length;have:=h.1;simp;omega};{show ((a.take 3).map zho).length<=3;simp;omega};{obtain⟨p,j,rfl⟩:=b x f;exact z1K (h.2 p j).1 (h.2 p j).2};{have:zfw (zf7 a).aa q=0:=(by unfold zfw;have:(zf7 a).aa.map (λx=>cPg x q)=(zf7 a).aa.map (λ_=>0):=List.map_congr_left λx f=>(by unfold cPg;rw[u x f];exact cz8 q B);rw[this];generalize (zf7 a).aa=l;induction l with|nil=>rfl|cons x l D=>rw[jC,uP,D]);omega});refine⟨H,λm A g hg=>?_,λe r=>(by cases r),λe r=>(by cases r)⟩;obtain⟨p,j,e⟩:=b _ (zl1 A mZ);rw[e]at hg ⊢;have d:i0 g (ln<|(p.take 2).map zfj)=true:=hg;have C:ix (zho p).am g kZ=zkC:=(by have:i0 g (ln<|(p.take 2).map λ_=>zkC)=true:=(by unfold ln at d ⊢;simpa using d);obtain⟨k,y,_,n⟩:=zzf this kZ;show ix ((p.take 2).map λ_=>zkC) g kZ=_;rw[n];simp);have z:(ix (zho p).ac g gZ).aw=zlL:=(by obtain⟨k,y,_,n⟩:=zzf d gZ;show (ix ((p.take 2).map zfj) g gZ).aw=_;rw[n];simp[zfj]);rw[C,z];show KOk zkC zlL zuK;refine⟨rfl,rfl,λi w=>?_⟩;have s:=zF.1 w;have:ln zlL=4:=rfl;rw[this]at s;have t:i=0\/i=1\/i=2\/i=3:=(by omega);rcases t with rfl|rfl|rfl|rfl<;>rfl
def zXE:∀(l:List GAct) (u:ad×List aF),SmH u.1->SmH (zC6 l u).1
 |[],u,h=>h
 |a::l,u,h=>zXE l (zeU u.1 a,ap u.2 [zjP u.1 a]) (zXC h)
def z4f {h:ad}(L:zXU h):Safe h/\SmH h:=by obtain⟨c,l,a,b,rfl⟩:=L;refine⟨?_,zXE _ _<|zXD a⟩;unfold zzb;rw[zXu];exact(z03 _<|zYE b).1
def z0f:zW:=z0d
def zu8:zL z0f:=z0e
structure MonS (x:Mon):Prop where
 sm:zfH x
 g1:1<=x.ac.length
 g2:x.ac.length<=2
 t2:x.am.length<=2
 o8:x.ae.length<=8
 pg:∀s∈x.ae,I64 s.af
 tk:∀k∈x.am,k.ay.length<=k.aC.length
structure AnyH (h:ad):Prop where
 mem:SmM h.ag
 n1:1<=h.aa.length
 n3:h.aa.length<=3
 mons:∀x∈h.aa,MonS x
 b1:h.ao.length<=1048576
 b2:h.an.length<=1048576
def AnyH.sm {h:ad}(k:AnyH h):SmH h:=⟨k.mem,⟨qS k.n3 (by decide),λx a=>(k.mons x a).sm⟩,k.b1,k.b2⟩
def z4H {h:ad}(S:Safe h)(sm:SmH h):AnyH h :=
 ⟨sm.1,S.ok.n1,S.ok.n3,λx a=>by
  have k:=S.ok.mons x a;refine⟨sm.2.1.2 x a,k.g1,k.g2,by rw[k.gt];exact k.g2,by rw[k.o8];exact qW 8,λs b=>?_,λy c=>?_⟩
  .rcases k.sl s b with rfl|⟨h1,h2,_⟩
   .exact⟨by decide,by decide⟩
   .exact⟨by omega,by omega⟩
  .obtain⟨m,hm,rfl⟩:=zCV a mZ;obtain⟨g,hg,rfl⟩:=zCV c kZ;have:=S.rt.t m hm g (by have e:(ix h.aa m mZ).am.length=(ix h.aa m mZ).ac.length:=k.gt;unfold ln at hg ⊢;rw[<- e];exact hg)
   rw[this.l1,this.l2];exact qW _,sm.2.2.1,sm.2.2.2⟩
def zxe {h:ad}(k:AnyH h)(i:Int){x:Mon}(b:MonS x):AnyH {h with aa:=up h.aa i x} :=
 ⟨k.mem,by rw[ziv];exact k.n1,by rw[ziv];exact k.n3,λy a=>by
  rcases qY a with a|rfl
  .exact k.mons y a
  .exact b,k.b1,k.b2⟩
def zLH {g:ah}(h:GuS g):SmG g:=⟨qS h.1 (by decide),qS h.2.1 (by decide),qS h.2.2.1 (by decide),qS h.2.2.2 (by decide)⟩
def zUL {l:List ah}(h:zk2 l)(i:Int){g:ah}(hg:SmG g):zk2 (up l i g):=
 ⟨by rw[ziv];exact h.1,λy a=>by
  rcases qY a with a|rfl
  .exact h.2 y a
  .exact hg⟩
def z8V {l:List LI}(h:SmM l)(i:Int){g:LI}(hg:g.length<=1048576):SmM (up l i g):=
 ⟨by rw[ziv];exact h.1,λy a=>by
  rcases qY a with a|rfl
  .exact h.2 y a
  .exact hg⟩
def zyC (N:Nat)(c:Cur)  : OA :=
 let j:=zr1 c;let r:=({ (ziW c) with b:=c.b}:Cur);let f:=j.aa;let k:=zk r<|ln f;let m:=inb k<|ln f;let g:=ix f k zi;let q:=({ (zf r<|ln f) with b:=c.b}:Cur);let e:=zf q 24;let l:=zk q 24;let a:=({e with b:=c.b}:Cur);let n:=zZ a [-1,1000000000,1000000001];let p:=({ (zf a 8) with b:=c.b}:Cur); (oN (zmZ c)<|oN (zu r<|ln f)<|oN (zu q 24)<|cond (ieq l 0) (oN (zf1 a 8 12)<|oN m<|p0 (up f k ({g with ae:=(zfg a 8 12)}:Mon)) λd=>some [.agg [.s .u8 c.b,.i .i64 (zhb a 8 12).i,.i .i64 (zhb a 8 12).h],aH ({j with aa:=d}:ad)])<|cond (ieq l 1) (oN m<|oN (zu a 8)<|oN (zlD p)<|oN (inb (zk a 8)<|ln g.Out)<|p0 (up f k ({g with Out:=(up g.Out (zk a 8)<|zs8 p)}:Mon)) λd=>some [.agg [.s .u8 c.b,.i .i64 (zlE p).i,.i .i64 (zlE p).h],aH ({j with aa:=d}:ad)])<|cond (ieq l 2) (oN m<|oN (zmn a)<|oN (inb 0<|ln g.ac)<|p0 (up f k ({g with ac:=(up g.ac 0<|zqw a)}:Mon)) λd=>some [.agg [.s .u8 c.b,.i .i64 (zj3 a).i,.i .i64 (zj3 a).h],aH ({j with aa:=d}:ad)])<|cond (ieq l 3) (oN m<|p0 (up f k ({g with am:=[]}:Mon)) λd=>some [.agg [.s .u8 c.b,.i .i64 e.i,.i .i64 e.h],aH ({j with aa:=d}:ad)])<|cond (ieq l 4) (oN (zkr a)<|some [.agg [.s .u8 c.b,.i .i64 (zks a).i,.i .i64 (zks a).h],aH ({j with ao:=(zre a)}:ad)])<|cond (ieq l 5) (oN (zlF a)<|oN m<|p0 (up f k ({g with aq:=(zta a)}:Mon)) λd=>some [.agg [.s .u8 c.b,.i .i64 (zlG a).i,.i .i64 (zlG a).h],aH ({j with aa:=d}:ad)])<|cond (ieq l 6) (oN (zbq a [-1,1000000000,1000000001])<|oN m<|p0 (up f k ({g with Own:=(zbk a [-1,1000000000,1000000001])}:Mon)) λd=>some [.agg [.s .u8 c.b,.i .i64 n.i,.i .i64 n.h],aH ({j with aa:=d}:ad)])<|cond (ieq l 7) (oN (zmj a)<|some [.agg [.s .u8 c.b,.i .i64 (zgL a).i,.i .i64 (zgL a).h],aH ({j with ag:=(zlC a)}:ad)])<|some [.agg [.s .u8 c.b,.i .i64 e.i,.i .i64 e.h],aH j])
def zrn (c:Cur)(s:Cur)(a:ad):Prop:=(∃N,zyC N c=some (AV.agg (zbT s)::[aH a]))/\(s.b=c.b/\0<=s.i)/\(AnyH a)
def zdE (c:Cur)  : Bool:=wC (zrn c)
def zj5 (c:Cur)  : Cur:=wS (zrn c)
def zc3 (c:Cur)  : ad:=wV (zrn c)
def zj4 {c:Cur}(h:zdE c=true):zrn c (zj5 c) (zc3 c):=wG h
def ztb (c:Cur)  : 0<=(zj5 c).i:=wP λh=>h.2.1.2
def zZx (c:Cur)(h:∃N,Ends (wE (λa=>aH a) c.b λa=>AnyH a)<|zyC N c):zdE c=true:=wI (λ_ _ h=>h) h
def zAu:zdB:=rP0 λc=>(zdE c,zj5 c,[aH<|zc3 c])
def zNc:zbP Tryz.prog 105 [false,true,true] zAu:=hP0 zu8 zN zUe zq (zA []) (λ_ h=>(zj4 h).1)
def zkh {c:Cur}(h:zba c):zdE c=true:=by
 refine zZx c ⟨0,?_⟩;unfold zyC oN;conv=>zeta
 obtain⟨S,sm⟩:=z4f (zGu<|z1l h).2.2;have A:=z4H S sm;have q:∀{s:Cur},0<=s.i->zba {s with b:=c.b}:=λy=>zbE h y;have w:zba {ziW c with b:=c.b}:=q (zWx _);have l:0<ln (zr1 c).aa:=by have:=A.n1;unfold ln;omega
 have a:=zu4 w l (kP _);have u:=zbF a zi;generalize B:zr1 c=H at *;generalize zk {ziW c with b:=c.b} (ln H.aa)=m at *;have M:=A.mons _ u;have x:=S.ok.mons _ u;generalize C:ix H.aa m zi=X at *;obtain⟨p,e,f,j,k,t⟩:=M.sm;have d:∀{n},zba {zf {zf {ziW c with b:=c.b} n with b:=c.b} 24 with b:=c.b}:=λ{n}=>q (zB _ _);refine zo (z1l h) (zo (zbp w _) (zo (zbp (q<|zB _ _) 24)
  (zbt (λ_=>zo (zob d (by omega) (by omega) _) (zo a<|zij<|zby aH (v:={H with aa:=up H.aa m {X with ae:=zfg _ _ _}}) (zpb _ _ _)<|zxe A m ?_))
  (λ_=>zbt (λ_=>zo a (zo (zbp d 8)<|zo (zWW<|q<|zB _ _)<|zo (zu4 d (by omega) ?_)<|zij<|zby aH (v:={H with aa:=up H.aa m {X with Out:=up X.Out _ (zs8 _)}}) (zUt _)<|zxe A m ?_))
  (λ_=>zbt (λ_=>zo a (zo (zsM d)<|zo ?_<|zij<|zby aH (v:={H with aa:=up H.aa m {X with ac:=up X.ac 0 (zqw _)}}) (zLv _)<|zxe A m ?_))
  (λ_=>zbt (λ_=>zo a (zij<|zby aH (v:={H with aa:=up H.aa m {X with am:=[]}}) (zB _ _)<|zxe A m ?_))
  (λ_=>zbt (λ_=>zo (zSg d) (zby aH (v:={H with ao:=zre _}) (zRl _) ⟨A.mem,A.n1,A.n3,A.mons,qS (zA8<|zSg d).2.2 (by decide),A.b2⟩))
  (λ_=>zbt (λ_=>zo (z9a d) (zo a<|zij<|zby aH (v:={H with aa:=up H.aa m {X with aq:=zta _}}) (zUy _)<|zxe A m ?_))
  (λ_=>zbt (λ_=>zo (ze8 d (by simp)) (zo a<|zij<|zby aH (v:={H with aa:=up H.aa m {X with Own:=zbk _ _}}) (zbW _ _)<|zxe A m ?_))
  (λ_=>zbt (λ_=>zo (zzh d) (zby aH (v:={H with ag:=zlC _}) (zLs _) ⟨?_,A.n1,A.n3,A.mons,A.b1,A.b2⟩))
  (λ_=>zby aH (v:=H) (zB _ _) A)))))))))))
 {have g:=(zpa<|zob (d (n:=ln H.aa)) (n:=8) (by omega) (by omega) 12).2.2 (by omega) (by omega);refine⟨⟨?_,e,f,j,k,t⟩,M.g1,M.g2,M.t2,?_,g.2 (by omega) (by omega),M.tk⟩;{have:=g.1;unfold ln at this;exact qS (m:=8) (by exact Int.ofNat_le.1 this) (by decide)};{have:=g.1;unfold ln at this;exact Int.ofNat_le.1 this}};{unfold ln;rw[x.u8];decide};{exact⟨⟨p,z8V e _<|qS (zDt<|zWW<|q<|zB _ _).2.2 (by decide),f,j,k,t⟩,M.g1,M.g2,M.t2,M.o8,M.pg,M.tk⟩};{exact qM (by have:=M.g1;unfold ln;omega)};{exact⟨⟨p,e,f,zUL j 0<|zLH (zzL<|zsM d).2.2,k,t⟩,by rw[ziv];exact M.g1,by rw[ziv];exact M.g2,M.t2,M.o8,M.pg,M.tk⟩};{exact⟨⟨p,e,f,j,k,⟨by simp,by simp⟩⟩,M.g1,M.g2,by simp,M.o8,M.pg,by simp⟩};{exact⟨⟨p,e,f,j,k,t⟩,M.g1,M.g2,M.t2,M.o8,M.pg,M.tk⟩};{exact⟨⟨p,e,f,j,k,t⟩,M.g1,M.g2,M.t2,M.o8,M.pg,M.tk⟩};{have g:=(zzG<|zzh<|d (n:=ln H.aa)).2.2;exact⟨qS g.1 (by decide),λr z=>qS (g.2 r z) (by decide)⟩}
def z6Y:zcT:=[(105,[false,true,true],zAu)]++z6X
def z4z:zb2 z6Y:=zce zUe (by
 intro x a;simp only[qG,qN,or_false]at a;rcases a with rfl
 .exact zNc)
def zBU (N:Nat)(c:Cur)  : OA :=
 let a:=zZ c [0,0,0,1,1,2,-1,9223372036854775807]; (oN (zbq c [0,0,0,1,1,2,-1,9223372036854775807])<|some [.agg [.s .u8 c.b,.i .i64 a.i,.i .i64 a.h],aI<|zbk c [0,0,0,1,1,2,-1,9223372036854775807]])
def ztc (c:Cur)(s:Cur)(a:Int):Prop:=(∃N,zBU N c=some (AV.agg (zbT s)::[aI a]))/\(s.b=c.b/\0<=s.i)/\(True)
def ziG (c:Cur)  : Bool:=wC (ztc c)
def zn1 (c:Cur)  : Cur:=wS (ztc c)
def zqx (c:Cur)  : Int:=wV (ztc c)
def z2k {c:Cur}(h:ziG c=true):ztc c (zn1 c) (zqx c):=wG h
def z2m (c:Cur)  : 0<=(zn1 c).i:=wP λh=>h.2.1.2
def z2l (c:Cur)(h:∃N,Ends (wE (λa=>aI a) c.b λa=>True)<|zBU N c):ziG c=true:=wI (λ_ _ h=>h) h
def zuh:zdB:=rP0 λc=>(ziG c,zn1 c,[aI<|zqx c])
def zAk:zbP Tryz.prog 199 [false,true,true] zuh:=hP0 zu8 zN zzt zq (zA []) (λ_ h=>(z2k h).1)
def z9i {c:Cur}(h:zba c):ziG c=true:=by
 refine z2l c ⟨0,?_⟩;unfold zBU oN;conv=>zeta
 exact zo (ze8 h (by simp)) (zby aI (zbW _ _) trivial)
def zbaw:zcT:=[(199,[false,true,true],zuh)]++zZa
def z4x:zb2 zbaw:=zce zzt (by
 intro x a;simp only[qG,qN,or_false]at a;rcases a with rfl
 .exact zAk)
def zXT (N:Nat)(c:Cur)  : OA :=
 let a:=znH c;let e:=({ (zgQ c) with b:=c.b}:Cur);let f:=zk e 10;let d:=({ (zf e 10) with b:=c.b}:Cur);let g:=zZ d [-1,4,8,16,100,9223372036854775807]; (oN (ziI c)<|oN (zu e 10)<|cond (ieq f 0) (oN (zu d 20)<|some [.agg [.s .u8 c.b,.i .i64 (zf d 20).i,.i .i64 (zf d 20).h],.agg [.i .i64<|wsub .i64 (zk d 20) 1,.i .i64 a.M,.i .i64 a.G,.i .i64 a.X,.i .i64 a.Y,.i .i64 a.Z]])<|cond (ieq f 1) (oN (ziG d)<|some [.agg [.s .u8 c.b,.i .i64 (zn1 d).i,.i .i64 (zn1 d).h],.agg [.i .i64 a.Kind,.i .i64<|zqx d,.i .i64 a.G,.i .i64 a.X,.i .i64 a.Y,.i .i64 a.Z]])<|cond (ieq f 2) (oN (zbq d [-1,4,8,16,100,9223372036854775807])<|some [.agg [.s .u8 c.b,.i .i64 g.i,.i .i64 g.h],.agg [.i .i64 a.Kind,.i .i64 a.M,.i .i64 a.G,.i .i64<|zbk d [-1,4,8,16,100,9223372036854775807],.i .i64 a.Y,.i .i64 a.Z]])<|cond (ieq f 3) (oN (zbq d [-1,0,1,4])<|some [.agg [.s .u8 c.b,.i .i64 (zZ d [-1,0,1,4]).i,.i .i64 (zZ d [-1,0,1,4]).h],.agg [.i .i64 a.Kind,.i .i64 a.M,.i .i64 a.G,.i .i64 a.X,.i .i64 a.Y,.i .i64<|zbk d [-1,0,1,4]]])<|some [.agg [.s .u8 c.b,.i .i64 (zf e 10).i,.i .i64 (zf e 10).h],.agg [.i .i64 a.Kind,.i .i64 a.M,.i .i64 a.G,.i .i64 a.X,.i .i64 a.Y,.i .i64 a.Z]])
def zrt (c:Cur)(s:Cur)(a:GAct):Prop:=(∃N,zXT N c=some (AV.agg (zbT s)::[aT .act a]))/\(s.b=c.b/\0<=s.i)/\(True)
def zLy (c:Cur)  : Bool:=wC (zrt c)
def zLz (c:Cur)  : Cur:=wS (zrt c)
def zUC (c:Cur)  : GAct:=wV (zrt c)
def zZB {c:Cur}(h:zLy c=true):zrt c (zLz c) (zUC c):=wG h
def zAw:zdB:=rP0 λc=>(zLy c,zLz c,[aT .act<|zUC c])
def zNh:zbP Tryz.prog 123 [false,true,true] zAw:=hP0 zu8 zN z4x zq (zA []) (λ_ h=>(zZB h).1)
def z6Z:zcT:=[(199,[false,true,true],zuh),(123,[false,true,true],zAw)]++z6Y
def zp9:zb2 z6Z:=zce z4z (by
 intro x a;simp only[qG,qN,or_false]at a;rcases a with rfl|rfl
 .exact zAk
 .exact zNh)
def z5Q:zW:=[(31,zsm)]++z0f
def zyT:zL z5Q:=zh zvq zu8
def zrB {a:LI}(h:a.length<=big){G:Ans->Prop}{N:Nat}(l:a.length<N){g:Int}{R:Int->OA}{d:Type}(S:Int->Int->d){F:(d->OA)->d->OA}(k:∀rec i t,F rec (S i t)=bif ilt i (ln a) then (cond (ilt i 4000) (cond (inb i<|ln a) (rec<|S (zM .i64 i 1)<|wand .i64 (zM .i64 (zM .i64 (zkS .i64 t 131)<|wcv .i64<|ix a i 0) 7) 1073741823) none)<|R t) else R t)(e:∀t,zba ⟨a,0,t⟩->Ends G (R t)):Ends G (iter N F<|S 0 g):=by refine zke (λn s=>∃(i:Nat) (t:Int),s=S (i:Int) t/\i+n=a.length) ?_ N a.length _ ⟨0,g,rfl,by omega⟩ l;rintro n s rec ⟨i,t,rfl,p⟩ b;rw[k];have f:zba ⟨a,0,t⟩:=⟨kP 0,h⟩;refine zbt (λj=>zbt (λm=>?_) λ_=>e t f) (λ_=>e t f);have c:(i:Int)<ln a:=qF j;unfold ln at c;rw[zbx (show i<a.length by omega) h];exact zo (qM ⟨by omega,by unfold ln;omega⟩) (b (n-1) _ (by omega) ⟨i+1,_,rfl,by omega⟩)
def zC2 {b:LI}(h:b.length<=big){s:Cur}(a:0<=s.i):zba {s with b:=b}:=⟨a,h⟩
def zm4 (N:Nat)(f:LI):OA:=
 (iter (σ:=(Int×Int×LI×lM×lN×lE×lE×Unit)) N (λg a=>let c:=a.2.2.1;let d:=(⟨c,0,a.1⟩:Cur);let e:=({ (zj5 d) with b:=c}:Cur); (cond (ilt a.2.1<|ln c) (cond (ilt a.2.1 4000) (oN (inb a.2.1<|ln c)<|g (wand .i64 (zM .i64 (zM .i64 (zkS .i64 a.1 131)<|wcv .i64<|ix c a.2.1 0) 7) 1073741823,zM .i64 a.2.1 1,c,a.2.2.2.1,a.2.2.2.2.1,a.2.2.2.2.2.1,a.2.2.2.2.2.2.1,()))<|oN (zdE d)<|oN (ziG e)<|some [aH<|zc3 d,aI<|zqx e])<|oN (zdE d)<|oN (ziG e)<|some [aH<|zc3 d,aI<|zqx e])) (zM .i64 94701<|ln f,0,f,[],[],[],[],()))
def zpz:=zA [(100,0,{n:=32,tm:=[(0,.sl 0 []),(3,ti),(4,ti)],lo:=[(0,[.sl 1 [],.sl 2 [],.sl 3 [],.sl 4 []])],ro:=[(0,.u8,false),(1,.sl .int,true),(2,.mon,true),(3,.entry,true),(4,.entry,true)],sk:=[(0,2,0,.lp 0 0)]})]
def zqo (b:LI)(a:ad)(c:Int):Prop:=(∃N,zm4 N b=some [aH a,aI c])/\(AnyH a)
def zin (a:LI):Bool:=uC (T:=ad×Int) (λr=>zqo a r.1 r.2)
def zAZ (a:LI):ad×Int:=uV (λr=>zqo a r.1 r.2)
def znb (a:LI):ad:=(zAZ a).1
def znc (a:LI):Int:=(zAZ a).2
def zAY {a:LI}(h:zin a=true):zqo a (znb a) (znc a):=uG h
def zRg (d:LI)(h:∃N,Ends (λa=>∃b c,a=[aH b,aI c]/\(AnyH b))<|zm4 N d):zin d=true:=by obtain⟨N,a,e,b,c,rfl,h⟩:=h;exact zY ⟨(b,c),⟨N,e⟩,h⟩
def zvN:Run:=rF1 (dS .u8) λb=>(zin b,[aH<|znb b,aI<|znc b])
def zKQ (a:LI)(b:zin a=true):∃N,zm4 N a=some [aH<|znb a,aI<|znc a]:=by exact(zAY b).1
def zEv:vT 71 zvN:=kF1 zyT zN zp9 zq zpz zKQ
def zXi {a:LI}(h:a.length<=big):zin a=true:=by
 refine zRg a (zcI λN b=>?_);unfold zm4 oN;conv=>zeta
 refine zrB h (b h) ((λi t=>(t,(i:Int),a,[],[],[],[],())):Int->Int->_) (λrec i t=>by dsimp only) (λt c=>?_);exact zo (zkh c) (zo (z9i<|zC2 h<|ztb _) ⟨_,rfl,_,_,rfl,(zj4<|zkh c).2.2⟩)
def z5R:zW:=[(71,zvN)]++z5Q
def zSu:zL z5R:=zh zEv zyT
def zqH (N:Nat)(g:LI):OA:=
 (iter (σ:=(Int×Int×LI×lM×lN×lE×lE×Unit)) N (λh a=>let c:=a.2.2.1;let e:=(⟨c,0,a.1⟩:Cur);let d:=({ (zj5 e) with b:=c}:Cur);let f:=({ (zn1 d) with b:=c}:Cur); (cond (ilt a.2.1<|ln c) (cond (ilt a.2.1 4000) (oN (inb a.2.1<|ln c)<|h (wand .i64 (zM .i64 (zM .i64 (zkS .i64 a.1 131)<|wcv .i64<|ix c a.2.1 0) 7) 1073741823,zM .i64 a.2.1 1,c,a.2.2.2.1,a.2.2.2.2.1,a.2.2.2.2.2.1,a.2.2.2.2.2.2.1,()))<|oN (zdE e)<|oN (ziG d)<|oN (zkJ f)<|some [aH<|zc3 e,aI<|zqx d,aI<|zv4 f])<|oN (zdE e)<|oN (ziG d)<|oN (zkJ f)<|some [aH<|zc3 e,aI<|zqx d,aI<|zv4 f])) (zM .i64 94701<|ln g,0,g,[],[],[],[],()))
def zuH (b:LI)(a:ad)(c:Int)(d:Int):Prop:=(∃N,zqH N b=some [aH a,aI c,aI d])/\(AnyH a)
def zkN (a:LI):Bool:=uC (T:=ad×Int×Int) (λr=>zuH a r.1 r.2.1 r.2.2)
def zwT (a:LI):ad×Int×Int:=uV (λr=>zuH a r.1 r.2.1 r.2.2)
def zro (a:LI):ad:=(zwT a).1
def zrp (a:LI):Int:=(zwT a).2.1
def zrq (a:LI):Int:=(zwT a).2.2
def zGv {a:LI}(h:zkN a=true):zuH a (zro a) (zrp a) (zrq a):=uG h
def zWy (f:LI)(h:∃N,Ends (λa=>∃b c d,a=[aH b,aI c,aI d]/\(AnyH b))<|zqH N f):zkN f=true:=by obtain⟨N,a,e,b,c,d,rfl,h⟩:=h;exact zY ⟨(b,c,d),⟨N,e⟩,h⟩
def zAW:Run:=rF1 (dS .u8) λb=>(zkN b,[aH<|zro b,aI<|zrp b,aI<|zrq b])
def zRa (a:LI)(b:zkN a=true):∃N,zqH N a=some [aH<|zro a,aI<|zrp a,aI<|zrq a]:=by exact(zGv b).1
def zKr:vT 169 zAW:=kF1 zSu zN zp9 zq zpz zRa
def zPD {a:LI}(h:a.length<=big):zkN a=true:=by
 refine zWy a (zcI λN b=>?_);unfold zqH oN;conv=>zeta
 refine zrB h (b h) ((λi t=>(t,(i:Int),a,[],[],[],[],())):Int->Int->_) (λrec i t=>by dsimp only) (λt c=>?_);exact zo (zkh c) (zo (z9i<|zC2 h<|ztb _)<|zo (z8F<|zC2 h<|z2m _) ⟨_,rfl,_,_,_,rfl,(zj4<|zkh c).2.2⟩)
def z5S:zW:=[(169,zAW)]++z5R
def z3D:zL z5S:=zh zKr zSu
def z5T:zW:=z5S
def zGZ:zL z5T:=z3D
def zi0 (N:Nat)(c:LI):OA:=
 (iter (σ:=(Int×Int×LI×lM×lN×lE×lE×Unit)) N (λd a=>let b:=(⟨a.2.2.1,0,a.1⟩:Cur); (cond (ilt a.2.1<|ln a.2.2.1) (cond (ilt a.2.1 4000) (oN (inb a.2.1<|ln a.2.2.1)<|d (wand .i64 (zM .i64 (zM .i64 (zkS .i64 a.1 131)<|wcv .i64<|ix a.2.2.1 a.2.1 0) 7) 1073741823,zM .i64 a.2.1 1,a.2.2.1,a.2.2.2.1,a.2.2.2.2.1,a.2.2.2.2.2.1,a.2.2.2.2.2.2.1,()))<|oN (zdE b)<|some [aH<|zc3 b])<|oN (zdE b)<|some [aH<|zc3 b])) (zM .i64 94701<|ln c,0,c,[],[],[],[],()))
def zlv (b:LI)(a:ad):Prop:=(∃N,zi0 N b=some [aH a])/\(AnyH a)
def zga (a:LI):Bool:=uC (T:=ad) (λr=>zlv a r)
def zFc (a:LI):ad:=uV (λr=>zlv a r)
def ziA (a:LI):ad:=(zFc a)
def zsJ {a:LI}(h:zga a=true):zlv a (ziA a):=uG h
def zFb (c:LI)(h:∃N,Ends (λa=>∃b,a=[aH b]/\(AnyH b))<|zi0 N c):zga c=true:=by obtain⟨N,a,e,b,rfl,h⟩:=h;exact zY ⟨b,⟨N,e⟩,h⟩
def zpF:Run:=rF1 (dS .u8) λb=>(zga b,[aH<|ziA b])
def zBo (a:LI)(b:zga a=true):∃N,zi0 N a=some [aH<|ziA a]:=by exact(zsJ b).1
def zxq:vT 44 zpF:=kF1 zGZ zN zp9 zq zpz zBo
def zAg {a:LI}(h:a.length<=big):zga a=true:=by
 refine zFb a (zcI λN b=>?_);unfold zi0 oN;conv=>zeta
 refine zrB h (b h) ((λi t=>(t,(i:Int),a,[],[],[],[],())):Int->Int->_) (λrec i t=>by dsimp only) (λt c=>?_);exact zo (zkh c) ⟨_,rfl,_,rfl,(zj4<|zkh c).2.2⟩
def zlQ (N:Nat)(a:LI):OA:=
 (oN (zin a)<|some [aH<|znb a,aI<|znc a])
def zoW (b:LI)(a:ad)(c:Int):Prop:=(∃N,zlQ N b=some [aH a,aI c])/\(AnyH a)
def zhN (a:LI):Bool:=uC (T:=ad×Int) (λr=>zoW a r.1 r.2)
def zyd (a:LI):ad×Int:=uV (λr=>zoW a r.1 r.2)
def zjl (a:LI):ad:=(zyd a).1
def zjm (a:LI):Int:=(zyd a).2
def zyc {a:LI}(h:zhN a=true):zoW a (zjl a) (zjm a):=uG h
def zN9 (d:LI)(h:∃N,Ends (λa=>∃b c,a=[aH b,aI c]/\(AnyH b))<|zlQ N d):zhN d=true:=by obtain⟨N,a,e,b,c,rfl,h⟩:=h;exact zY ⟨(b,c),⟨N,e⟩,h⟩
def zul:Run:=rF1 (dS .u8) λb=>(zhN b,[aH<|zjl b,aI<|zjm b])
def zHX (a:LI)(b:zhN a=true):∃N,zlQ N a=some [aH<|zjl a,aI<|zjm a]:=by exact(zyc b).1
def zCx:vT 47 zul:=kF1 zGZ zN zp9 zq (zA []) zHX
def zJx {a:LI}(h:a.length<=big):zhN a=true:=by refine zN9 a ⟨0,?_⟩;unfold zlQ oN;exact zo (zXi h) ⟨_,rfl,_,_,rfl,(zAY<|zXi h).2⟩
def z5U:zW:=z5T
def z3E:zL z5U:=zGZ
def z5V:zW:=[(44,zpF),(47,zul)]++z5U
def z3F:zL z5V:=zh zxq (zh zCx z3E)
instance:Nonempty ak:=⟨⟨[],[],[],0⟩⟩
structure BaS (b:ak):Prop where
 m:SmM b.ag
 g1:1<=b.ac.length
 g2:b.ac.length<=2
 gs:∀g∈b.ac,GuS g
 o:b.Outs.length<=4
def BaS.sm {b:ak}(k:BaS b):SmB b:=⟨k.m,⟨qS k.g2 (by decide),λg hg=>zLH (k.gs g hg)⟩,qS k.o (by decide)⟩
def zwl (N:Nat)(c:Cur)  : OA :=
 (oN (zhv c 8)<|iter (σ:=(Int×Int×Int×Int×Int×LI×lM×lG×LI×lM×lG×LI×Unit)) N (λt a=>let c:=a.2.2.2.2.2.2;let f:=a.2.2.2.2.2.1;let p:=c.2.2.2.2.1;let k:=(⟨f,a.2.1,a.2.2.1⟩:Cur);let j:=({ (zf k 2) with b:=f}:Cur); (oN (zu k 2)<|cond (ilt a.1<|zM .i64 1<|zk k 2) (oN (zg3 j)<|oN (few<|ln<|ap p [zbN j])<|t (zM .i64 a.1 1,(zes j).i,(zes j).h,a.2.2.2.1,a.2.2.2.2.1,f,c.1,c.2.1,c.2.2.1,c.2.2.2.1,ap p [zbN j],c.2.2.2.2.2.1,()))<|iter (σ:=(Int×Int×Int×Int×Int×LI×lM×lG×LI×lM×lG×LI×Unit)) N (λu d=>let a:=d.2.2.2.2;let c:=a.2.2.2.2;let r:=c.2.1;let q:=c.2.2.1;let m:=c.2.2.2.1;let g:=a.2.1;let n:=(⟨g,d.2.1,d.2.2.1⟩:Cur);let e:=({ (zf n 4) with b:=g}:Cur);let l:=({ (zO e 3) with b:=g}:Cur); (oN (zu n 4)<|cond (ilt d.1<|zk n 4) (oN (zu e 100)<|oN (few<|ln<|ap m [zk e 100])<|u (zM .i64 d.1 1,(zf e 100).i,(zf e 100).h,d.2.2.2.1,a.1,g,a.2.2.1,a.2.2.2.1,c.1,r,q,ap m [zk e 100],()))<|oN (zcv e 3)<|cond (zcQ e 3) (oN (zu l 256)<|some [.agg [.s .u8 g,.i .i64 (zf l 256).i,.i .i64 (zf l 256).h],aT .bare (⟨r,q,m,zk l 256⟩:ak)])<|some [.agg [.s .u8 g,.i .i64 (zO e 3).i,.i .i64 (zO e 3).h],aT .bare (⟨r,q,m,a.1⟩:ak)])) (0,(zf k 2).i,(zf k 2).h,a.2.2.2.1,a.2.2.2.2.1,f,c.1,c.2.1,c.2.2.1,c.2.2.2.1,p,c.2.2.2.2.2.1,()))) (0,(ziF c 8).i,(ziF c 8).h,0,0,c.b,[],[],[],zhl c 8,[],[],()))
def zRC:=zA [(153,0,{n:=42,tm:=[(0,.lp 0 0),(2,.lp 1 0),(3,.lp 2 0),(4,ti)],lo:=[(0,[.sl 0 [],ti,ti]),(1,[.sl 1 [],.sl 2 [],.sl 3 [],ti]),(2,[.sl 4 [],.sl 5 [],.sl 6 [],ti])],ro:=[(0,.u8,false),(1,.sl .int,true),(2,.guest,true),(3,.int,true),(4,.sl .int,true),(5,.guest,true),(6,.int,true)]}),(153,2,{n:=42,tm:=[(0,.lp 0 0),(2,.lp 1 0),(3,.lp 2 0),(5,ti)],lo:=[(0,[.sl 0 [],ti,ti]),(1,[.sl 1 [],.sl 2 [],.sl 3 [],ti]),(2,[.sl 4 [],.sl 5 [],.sl 6 [],ti])],ro:=[(0,.u8,false),(1,.sl .int,true),(2,.guest,true),(3,.int,true),(4,.sl .int,true),(5,.guest,true),(6,.int,true)]})]
def zpq (c:Cur)(s:Cur)(a:ak):Prop:=(∃N,zwl N c=some (AV.agg (zbT s)::[aT .bare a]))/\(s.b=c.b/\0<=s.i)/\(BaS a)
def zmX (c:Cur)  : Bool:=wC (zpq c)
def zmY (c:Cur)  : Cur:=wS (zpq c)
def zee (c:Cur)  : ak:=wV (zpq c)
def zGt {c:Cur}(h:zmX c=true):zpq c (zmY c) (zee c):=wG h
def zWv (c:Cur)  : 0<=(zmY c).i:=wP λh=>h.2.1.2
def zWu (c:Cur)(h:∃N,Ends (wE (λa=>aT .bare a) c.b λa=>BaS a)<|zwl N c):zmX c=true:=wI (λ_ _ h=>h) h
def zxP:zdB:=rP0 λc=>(zmX c,zmY c,[aT .bare<|zee c])
def zKl:zbP Tryz.prog 153 [false,true,true] zxP:=hP0 zyT zN zp9 zq zRC (λ_ h=>(zGt h).1)
def zSd {c:Cur}(h:zba c):zmX c=true:=by
 refine zWu c ⟨1002,?_⟩;unfold zwl oN;conv=>zeta
 have D:=z6C h (a0:=8) (by omega) (by omega);have y:=(zs9 D).2.2 (by omega) (by omega);have sm:SmM (zhl c 8):=⟨by have:=y.1;unfold ln at this;exact qS (m:=8) (by omega) (by decide),fun r J=>by rw[y.2 r J];decide⟩;refine zo D (zke (fun n s=>∃(t i k:Int) (l:List ah),s=(t,i,k,0,0,c.b,[],[],[],zhl c 8,l,[],())/\t+(n:Int)=10/\0<=t/\t<=2/\0<=i/\ln l=t/\∀g∈l,GuS g) ?_ 1002 10 _ ⟨0,_,_,[],rfl,rfl,kP 0,by omega,zLt _ _,rfl,by simp⟩ (by omega));rintro n s rec ⟨t,i,k,l,rfl,N,O,P,I,z,A⟩ q;dsimp only;have e:zba ⟨c.b,i,k⟩:=zbE h I;have S:=zfi e (n:=2) (by omega);have E:zM .i64 1 (zk ⟨c.b,i,k⟩ 2)=1+zk ⟨c.b,i,k⟩ 2:=zmt (by omega) (by omega);refine zo (zbp e 2) (zbt (fun w=>?_) (fun w=>?_));{have j:=qF w;rw[E]at j;have B:zba {zf ⟨c.b,i,k⟩ 2 with b:=c.b}:=zbE h (zB _ _);have Q:zM .i64 t 1=t+1:=zmt (by omega) (by omega);refine zo (znr B) (zo (zhS (by rw[zfR];omega)) (q (n-1) _ (by omega) ⟨zM .i64 t 1,_,_,_,rfl,by omega,by omega,by omega,zlH _,by rw[zfR];omega,fun g hg=>?_⟩));rcases jH.1 hg with hg|hg;{exact A g hg};{rw [qD.1 hg];exact(zpp (znr B)).2.2.1}}
 .have hge:=jV w;rw[E]at hge;refine zke (fun n s=>∃(u i k:Int) (o:LI),s=(u,i,k,0,0,c.b,[],[],[],zhl c 8,l,o,())/\u+(n:Int)=10/\0<=u/\u<=3/\0<=i/\ln o=u) ?_ 1002 10 _ ⟨0,_,_,[],rfl,rfl,kP 0,by omega,zB _ _,rfl⟩ (by omega);rintro n s H ⟨u,F,G,o,rfl,T,U,V,L,M⟩ f;dsimp only;have a:zba ⟨c.b,F,G⟩:=zbE h L;have K:=zfi a (n:=4) (by omega);have C:zba {zf ⟨c.b,F,G⟩ 4 with b:=c.b}:=zbE h (zB _ _);have d:∀p:Int,BaS ⟨zhl c 8,l,o,p⟩:=fun p=>⟨sm,by unfold ln at z;dsimp only;omega,by unfold ln at z;dsimp only;omega,A,by unfold ln at M;dsimp only;omega⟩;refine zo (zbp a 4) (zbt (fun x=>?_) (fun _=>?_));{have j:=qF x;have R:zM .i64 u 1=u+1:=zmt (by omega) (by omega);exact zo (zbp C 100) (zo (zhS (by rw[zfR];omega)) (f (n-1) _ (by omega) ⟨zM .i64 u 1,_,_,_,rfl,by omega,by omega,by omega,zB _ _,by rw[zfR];omega⟩))}
  .refine zo (zhW C 3) (zbt (fun _=>zo (zbp (zbE h (zb0 _ _)) 256) (zby (aT .bare) (v:=⟨zhl c 8,l,o,zk _ 256⟩) (zB _ _) (d _)))
    (fun _=>zby (aT .bare) (v:=⟨zhl c 8,l,o,0⟩) (zb0 _ _) (d _)))
def z7a:zcT:=[(153,[false,true,true],zxP)]++z6Z
def zUf:zb2 z7a:=zce zp9 (by
 intro x a;simp only[qG,qN,or_false]at a;rcases a with rfl
 .exact zKl)
def zyA (N:Nat)(c:Cur)  : OA :=
 let e:=zee c;let n:=({ (zmY c) with b:=c.b}:Cur);let j:=zk n 14;let f:=zf n 14;let d:=({f with b:=c.b}:Cur);let k:=({ (zes d) with b:=c.b}:Cur);let p:=ap e.ac [zbN d,zbN k]; (oN (zmX c)<|oN (zu n 14)<|cond (ieq j 0) (oN (zmj d)<|some [.agg [.s .u8 c.b,.i .i64 (zgL d).i,.i .i64 (zgL d).h],aT .bare ({e with ag:=(zlC d)}:ak)])<|cond (ieq j 1) (oN (zmn d)<|oN (inb 0<|ln e.ac)<|p0 (up e.ac 0<|zqw d) λm=>some [.agg [.s .u8 c.b,.i .i64 (zj3 d).i,.i .i64 (zj3 d).h],aT .bare ({e with ac:=m}:ak)])<|cond (ieq j 2) (oN (zg3 d)<|oN (zg3 k)<|oN (few<|ln p)<|some [.agg [.s .u8 c.b,.i .i64 (zes k).i,.i .i64 (zes k).h],aT .bare ({e with ac:=p}:ak)])<|cond (ieq j 3) (p0 [] λm=>some [.agg [.s .u8 c.b,.i .i64 f.i,.i .i64 f.h],aT .bare ({e with ac:=m}:ak)])<|cond (ieq j 4) (iter (σ:=(Int×Int×Int×Int×LI×lM×lG×LI×lM×lG×LI×Unit)) N (λq a=>let b:=a.2.2.2.2;let c:=b.2.2.2.2;let l:=c.2.2.1;let g:=(⟨b.1,a.1,a.2.1⟩:Cur); (oN (zu g 3)<|cond (ilt (ln l)<|zM .i64 39<|zk g 3) (oN (few<|ln<|ap l [1])<|q ((zf g 3).i,(zf g 3).h,a.2.2.1,a.2.2.2.1,b.1,b.2.1,b.2.2.1,b.2.2.2.1,c.1,c.2.1,ap l [1],()))<|some [.agg [.s .u8 b.1,.i .i64 (zf g 3).i,.i .i64 (zf g 3).h],aT .bare (⟨c.1,c.2.1,l,a.2.2.2.1⟩:ak)])) (f.i,f.h,0,e.ai,c.b,[],[],[],e.ag,e.ac,e.Outs,()))<|cond (ieq j 5) (oN (zkK d)<|some [.agg [.s .u8 c.b,.i .i64 (ziV d).i,.i .i64 (ziV d).h],aT .bare ({e with ai:=(zn0 d)}:ak)])<|some [.agg [.s .u8 c.b,.i .i64 f.i,.i .i64 f.h],aT .bare e])
def zVg:=zA [(152,1,{n:=54,tm:=[(0,.lp 0 0),(2,.lp 1 0),(3,.lp 2 0)],lo:=[(0,[.sl 0 [],ti,ti]),(1,[.sl 1 [],.sl 2 [],.sl 3 [],ti]),(2,[.sl 4 [],.sl 5 [],.sl 6 [],ti])],ro:=[(0,.u8,false),(1,.sl .int,true),(2,.guest,true),(3,.int,true),(4,.sl .int,true),(5,.guest,true),(6,.int,true)]})]
def zrl (c:Cur)(s:Cur)(a:ak):Prop:=(∃N,zyA N c=some (AV.agg (zbT s)::[aT .bare a]))/\(s.b=c.b/\0<=s.i)/\(SmB a)
def zmo (c:Cur)  : Bool:=wC (zrl c)
def zLw (c:Cur)  : Cur:=wS (zrl c)
def zIo (c:Cur)  : ak:=wV (zrl c)
def zZt {c:Cur}(h:zmo c=true):zrl c (zLw c) (zIo c):=wG h
def zZu (c:Cur)(h:∃N,Ends (wE (λa=>aT .bare a) c.b λa=>SmB a)<|zyA N c):zmo c=true:=wI (λ_ _ h=>h) h
def zAs:zdB:=rP0 λc=>(zmo c,zLw c,[aT .bare<|zIo c])
def zNa:zbP Tryz.prog 152 [false,true,true] zAs:=hP0 zyT zN zUf zq zVg (λ_ h=>(zZt h).1)
def z7p {c:Cur}(h:zba c):zmo c=true:=by
 refine zZu c ⟨1002,?_⟩;unfold zyA oN;conv=>zeta
 have q:∀{s:Cur},0<=s.i->zba {s with b:=c.b}:=fun j=>zbE h j;have B:=(zGt (zSd h)).2.2;have a:zba {zf {zmY c with b:=c.b} 14 with b:=c.b}:=q (zB _ _);have S:=B.sm;have e:=(zzG (zzh a)).2.2;have f:∀{c:Cur},zba c->SmG (zbN c):=fun n=>zLH (zpp (znr n)).2.2.1;have d:inb 0 (ln (zee c).ac)=true:=qM (by have:=B.g1;unfold ln;omega)
 refine zo (zSd h) (zo (zbp (q (zWv _)) 14) (zbt (fun _=>zo (zzh a) (zby (aT .bare) (v:={zee c with ag:=zlC _}) (zLs _) ⟨⟨qS e.1 (by decide),fun r u=>qS (e.2 r u) (by decide)⟩,S.2⟩))
  (fun _=>zbt (fun _=>zo (zsM a) (zo d (zij (zby (aT .bare) (v:={zee c with ac:=up (zee c).ac 0 (zqw _)}) (zLv _) ⟨S.1,zUL S.2.1 0 (zLH (zzL (zsM a)).2.2),S.2.2⟩))))
  (fun _=>zbt (fun _=>zo (znr a) (zo (znr (q (zlH _))) (zo (zhS ?_) (zby (aT .bare) (v:={zee c with ac:=ap (zee c).ac [zbN _,zbN _]}) (zlH _) ⟨S.1,⟨?_,fun g hg=>?_⟩,S.2.2⟩))))
  (fun _=>zbt (fun _=>zij (zby (aT .bare) (v:={zee c with ac:=[]}) (zB _ _) ⟨S.1,⟨by simp,by simp⟩,S.2.2⟩))
  (fun _=>zbt (fun _=>?_)
  (fun _=>zbt (fun _=>zo (z14 a) (zby (aT .bare) (v:={zee c with ai:=zn0 _}) (zGs _) S)) (fun _=>zby (aT .bare) (v:=zee c) (zB _ _) S))))))))
 {have:=B.g2;simp only[ln,ap,j7,qX,k5];omega};{have:=B.g2;simp only[ap,j7,qX,k5];omega};{rcases jH.1 hg with hg|hg;{exact S.2.1.2 g hg};{rcases qG.1 hg with rfl|hg;{exact f a};{rw [qD.1 hg];exact f (q (zlH _))}}}
 .exact z05 h (zB _ _) (m:=39) (q:=3) (x:=1) (by omega) (by omega) (by omega) (l0:=(zee c).Outs) (by have:=B.o;unfold ln;omega) ((fun _ t=>(t.1,t.2.1,0,(zee c).ai,c.b,[],[],[],(zee c).ag,(zee c).ac,t.2.2,())):Nat->Int×Int×LI->_)
   (fun rec i k l=>⟨_,rfl,fun p=>⟨⟨_,_,_⟩,_,rfl,⟨rfl,zB _ _⟩,⟨S.1,S.2.1,by unfold ln at p;dsimp only;omega⟩⟩⟩)
def zbax:zcT:=[(152,[false,true,true],zAs)]++z7a
def zIe:zb2 zbax:=zce zUf (by
 intro x a;simp only[qG,qN,or_false]at a;rcases a with rfl
 .exact zNa)
def zov {p:Prop}(h:¬ p):pc p=false:=by cases e:pc p with|false=>rfl|true=>exact absurd (zT.1 e) h
def zgp {p q:Prop}(h:p↔q):pc p=pc q:=by rw[propext h]
def pcI (a b:Int):ieq a b=pc (a=b):=by unfold ieq;by_cases h:a=b;{rw [zY h];exact qM h};{rw [zov h];exact qT h}
def zgU {a b:Int}(h:a≠b):ine a b=true:=by unfold ine;simp[h]
def pcN (a b:Int):ine a b = !pc (a=b):=by by_cases h:a=b;{rw [zY h];subst h;exact zel a};{rw [zov h];exact zgU h}
def pcB (a b:Bool):ziM a b=pc (a=b):=by by_cases h:a=b;{subst h;rw[zY rfl];cases a<;>rfl};{rw [zov h];cases a<;>cases b<;>first|rfl|exact absurd rfl h}
def pcA (p q:Prop):(cond (pc p) (pc q) false)=pc (p/\q):=by by_cases h:p;{rw [zY h,cT];exact zgp ⟨λk=>⟨h,k⟩,λk=>k.2⟩};{rw [zov h,cF,zov λk=>h k.1]}
def pcE:∀(a b:LI),eqI a b=pc (a=b)
 |[],[]=>by rw[zY rfl];rfl
 |[],y::b=>by rw[zov (λh=>by cases h)];rfl
 |x::a,[]=>by rw[zov (λh=>by cases h)];rfl
 |x::a,y::b=>by have c:=pcE a b;unfold eqI at c ⊢;rw[all2,pcI,c,zgp<|Iff.of_eq<|List.cons.injEq x a y b,<- pcA];cases pc (x=y)<;>rfl
def zjf (a b:k0):pc (a.af=b.af/\a.aj=b.aj)=pc (a=b):=zgp (by cases a;cases b;simp)
def zhK (a b:ar):pc (a.Tag=b.Tag/\a.af=b.af/\a.ad=b.ad/\a.aj=b.aj)=pc (a=b):=zgp (by cases a;cases b;simp)
def zl5 (a b:Ins):pc (a.Op=b.Op/\a.X=b.X)=pc (a=b):=zgp (by cases a;cases b;simp)
def zjg (a b:aF):pc (a.Ok=b.Ok/\a.N=b.N)=pc (a=b):=zgp (by cases a;cases b;simp)
def zl4 (a b:GAct):pc (a.Kind=b.Kind/\a.M=b.M/\a.G=b.G/\a.X=b.X/\a.Y=b.Y/\a.Z=b.Z)=pc (a=b):=zgp (by cases a;cases b;simp)
def zRO (a b:Ctl):pc (a.aq=b.aq/\a.Post=b.Post/\a.Open=b.Open)=pc (a=b):=zgp (by cases a;cases b;simp)
def zLh (a b:aE):pc (a.Kind=b.Kind/\a.af=b.af/\a.Write=b.Write/\a.N=b.N)=pc (a=b):=zgp (by cases a;cases b;simp)
def drop_eq {b:Type}{l m:List b}(d:b){i:Nat}(c:i<l.length)(a:i<m.length):l.drop i=m.drop i↔l[i]=ix m (i:Int) d/\l.drop (i+1)=m.drop (i+1):=by rw[kC c,kC a,List.cons.injEq,zbr a]
def zeP {s p j:Type}(l m:List s)(d:s)(mk:Int->p)(F:(p->Option j)->p->Option j)(h g:Option j)(t:l.length<=big)(r:l.length=m.length)(b:∀(i:Nat) (q:i<l.length) rec,F rec (mk (i:Int))=bif pc (l[i]=ix m (i:Int) d) then rec (mk<|zM .i64 (i:Int) 1) else g)(c:∀rec,F rec (mk (l.length:Int))=h){N:Nat}(e:l.length<N) :
 iter N F (mk 0)=bif pc (l=m) then h else g:=by
 have f:∀(n i N:Nat),l.length-i=n->i<=l.length->n<N->iter N F (mk (i:Int))=bif pc (l.drop i=m.drop i) then h else g:=by intro n;induction n with|zero=>intro i N u q e;have:i=l.length:=(by omega);subst this;obtain⟨n,rfl⟩:∃n,N=n+1:=⟨N-1,by omega⟩;rw[zdC,c,zY (by rw[vO,r,vO]),cT]|succ n v=>intro i N u q e;obtain⟨k,rfl⟩:∃k,N=k+1:=⟨N-1,by omega⟩;have a:i<l.length:=(by omega);rw[zdC,b i a,zbx a t,v (i+1) k (by omega) (by omega) (by omega),zgp<|drop_eq d a<|r ▸ a,<- pcA];(cases pc (l[i]=ix m (i:Int) d) with|true=>rw[cT,cT]|false=>rw[cF,cF,cF])
 have:=f l.length 0 N (by omega) (kA _) e
 simpa using this
def zgm (p:Prop):(cond (pc p) (some [AV.one<|.b true])<|some [AV.one<|.b false])=some [AV.one<|.b<|pc p]:=by cases pc p<;>rfl
def zf6 {c:Type}(p:Prop){a b:c}:(cond (!pc p) a b)=(cond (pc p) b a):=by cases pc p<;>rfl
def zeO {c:Type}(p:Prop){a b:c}:(cond (cond (pc p) false true) a b)=(cond (pc p) b a):=by cases pc p<;>rfl
def zfJ {p:Prop}(h:¬ p):(some [AV.one<|.b false]:OA)=some [AV.one<|.b<|pc p]:=by rw[zov h]
def zyP (p q:Prop):(cond (pc p) (some [AV.one<|.b<|pc q]:OA)<|some [AV.one<|.b false])=some [AV.one<|.b<|pc<|p/\q]:=by rw[<- pcA];cases pc p<;>rfl
def ztD {p q:Prop}(h:p↔q):(some [AV.one<|.b<|pc p]:OA)=some [AV.one<|.b<|pc q]:=by rw[zgp h]
def zfQ (_ _:LI):Bool:=true
def zhs (x y:LI):Bool:=pc (x=y)
def zqf:Run:=rF2 (dS .int) (dS .int) λb c=>(zfQ b c,[aB<|zhs b c])
def zOm:=zA [(50,0,{n:=26,tm:=[(0,.sl 0 []),(1,.sl 1 []),(5,ti)],lo:=[],ro:=[(0,.int,false),(1,.int,false)]})]
def zNv (a c:LI)(h:zb5 big [aS .int a,aS .int c])(l:zfQ a c=true):∃N,zqG N a c=some [aB<|zhs a c]:=by have j:a.length<=big:=len0 h;have k:c.length<=big:=((zbI (zbI h).2).1 _ (qD.2 rfl)).len;refine⟨a.length+1,?_⟩;unfold zqG oN;by_cases g:a.length=c.length;{have d:ine (ln a) (ln c)=false:=(by unfold ln;rw[g];exact zel _);refine zcs d ?_;refine(zeP a c 0 (λi=>(i,a,c,())) _ (some [.one<|.b true]) (some [.one<|.b false]) j g (λi f rec=>?_) (λrec=>?_)<|jN _).trans (zgm _);{dsimp only;simp only[zbK f,zbc f,zbc<|g ▸ f,zbr f,pcI,pcN,pcB,pcE,pcA,zjf,zhK,zl5,zjg,zl4,cT,cF];first|exact zf6 _|exact zeO _};{dsimp only;simp only[zbw,cF]}};{have d:ine (ln a) (ln c)=true:=zgU (by unfold ln;omega);refine j0 d ?_;exact zfJ (λe=>g (by rw[e]))}
def ztS:vT 50 zqf:=hF2 zdV zN zC zq zOm zNv
def zdG (_ _:List k0):Bool:=true
def zex (x y:List k0):Bool:=pc (x=y)
def zeX:Run:=rF2 (dS .slot) (dS .slot) λb c=>(zdG b c,[aB<|zex b c])
def zm3 (N:Nat)(b c:lS):OA:=
 (cond (ine (ln b)<|ln c) oF<|iter (σ:=(Int×lS×lS×Unit)) N (λf a=>let e:=ix a.2.1 a.1 zbe;let d:=ix a.2.2.1 a.1 zbe; (cond (ilt a.1<|ln a.2.1) (oN (inb a.1<|ln a.2.1)<|oN (inb a.1<|ln a.2.2.1)<|cond (nB<|cond (ieq e.af d.af) (ieq e.aj d.aj) false) oF<|f (zM .i64 a.1 1,a.2.1,a.2.2.1,())) oT)) (0,b,c,()))
def zLZ:=zA [(193,0,{n:=26,tm:=[(0,.sl 0 []),(1,.sl 1 []),(5,ti)],lo:=[],ro:=[(0,.slot,false),(1,.slot,false)]})]
def zKM (a c:List k0)(h:zb5 big [aS .slot a,aS .slot c])(l:zdG a c=true):∃N,zm3 N a c=some [aB<|zex a c]:=by
 have j:a.length<=big:=len0 h;have k:c.length<=big:=((zbI (zbI h).2).1 _ (qD.2 rfl)).len;refine⟨a.length+1,?_⟩;unfold zm3 oN nB;conv=>zeta
 by_cases g:a.length=c.length;{have d:ine (ln a) (ln c)=false:=(by unfold ln;rw[g];exact zel _);refine zcs d ?_;refine(zeP a c zbe (λi=>(i,a,c,())) _ (some [.one<|.b true]) (some [.one<|.b false]) j g (λi f rec=>?_) (λrec=>?_)<|jN _).trans (zgm _);{dsimp only;simp only[zbK f,zbc f,zbc<|g ▸ f,zbr f,pcI,pcN,pcB,pcE,pcA,zjf,zhK,zl5,zjg,zl4,cT,cF];first|exact zf6 _|exact zeO _};{dsimp only;simp only[zbw,cF]}};{have d:ine (ln a) (ln c)=true:=zgU (by unfold ln;omega);refine j0 d ?_;exact zfJ (λe=>g (by rw[e]))}
def zEt:vT 193 zeX:=hF2 zdV zN zC zq zLZ zKM
def ze7 (_ _:List Ins):Bool:=true
def zgD (x y:List Ins):Bool:=pc (x=y)
def zft:Run:=rF2 (dS .ins) (dS .ins) λb c=>(ze7 b c,[aB<|zgD b c])
def zn8 (N:Nat)(b c:lI):OA:=
 (cond (ine (ln b)<|ln c) oF<|iter (σ:=(Int×lI×lI×Unit)) N (λf a=>let e:=ix a.2.1 a.1 zpB;let d:=ix a.2.2.1 a.1 zpB; (cond (ilt a.1<|ln a.2.1) (oN (inb a.1<|ln a.2.1)<|oN (inb a.1<|ln a.2.2.1)<|cond (nB<|cond (ieq e.Op d.Op) (ieq e.X d.X) false) oF<|f (zM .i64 a.1 1,a.2.1,a.2.2.1,())) oT)) (0,b,c,()))
def zOl:=zA [(440,0,{n:=26,tm:=[(0,.sl 0 []),(1,.sl 1 []),(5,ti)],lo:=[],ro:=[(0,.ins,false),(1,.ins,false)]})]
def zNu (a c:List Ins)(h:zb5 big [aS .ins a,aS .ins c])(l:ze7 a c=true):∃N,zn8 N a c=some [aB<|zgD a c]:=by
 have j:a.length<=big:=len0 h;have k:c.length<=big:=((zbI (zbI h).2).1 _ (qD.2 rfl)).len;refine⟨a.length+1,?_⟩;unfold zn8 oN nB;conv=>zeta
 by_cases g:a.length=c.length;{have d:ine (ln a) (ln c)=false:=(by unfold ln;rw[g];exact zel _);refine zcs d ?_;refine(zeP a c zpB (λi=>(i,a,c,())) _ (some [.one<|.b true]) (some [.one<|.b false]) j g (λi f rec=>?_) (λrec=>?_)<|jN _).trans (zgm _);{dsimp only;simp only[zbK f,zbc f,zbc<|g ▸ f,zbr f,pcI,pcN,pcB,pcE,pcA,zjf,zhK,zl5,zjg,zl4,cT,cF];first|exact zf6 _|exact zeO _};{dsimp only;simp only[zbw,cF]}};{have d:ine (ln a) (ln c)=true:=zgU (by unfold ln;omega);refine j0 d ?_;exact zfJ (λe=>g (by rw[e]))}
def zHm:vT 440 zft:=hF2 zdV zN zC zq zOl zNu
def z0T:zW:=[(50,zqf),(193,zeX),(440,zft)]++zMl
def zCd:zL z0T:=zh ztS (zh zEt<|zh zHm zdV)
def zfd (_ _:List LI):Bool:=true
def zgE (x y:List LI):Bool:=pc (x=y)
def zg9:Run:=rF2 (dS<|.sl .int) (dS<|.sl .int) λb c=>(zfd b c,[aB<|zgE b c])
def zz2 (N:Nat)(b:lM)(c:lM):OA:=
 (cond (ine (ln b)<|ln c) oF<|iter (σ:=(Int×lM×lM×Unit)) N (λd a=>cond (ilt a.1<|ln a.2.1) (oN (inb a.1<|ln a.2.1)<|oN (inb a.1<|ln a.2.2.1)<|oN (zfQ (ix a.2.1 a.1 [])<|ix a.2.2.1 a.1 [])<|cond (nB<|zhs (ix a.2.1 a.1 [])<|ix a.2.2.1 a.1 []) oF<|d (zM .i64 a.1 1,a.2.1,a.2.2.1,())) oT) (0,b,c,()))
def zLY:=zA [(115,0,{n:=27,tm:=[(0,.sl 0 []),(1,.sl 1 []),(5,ti)],lo:=[],ro:=[(0,.sl .int,false),(1,.sl .int,false)]})]
def zKL (a:List LI)(c:List LI)(h:zb5 big [aS (.sl .int) a,aS (.sl .int) c])(l:zfd a c=true):∃N,zz2 N a c=some [aB<|zgE a c]:=by have j:a.length<=big:=len0 h;have k:c.length<=big:=((zbI (zbI h).2).1 _ (qD.2 rfl)).len;refine⟨a.length+1,?_⟩;unfold zz2 oN nB;by_cases g:a.length=c.length;{have d:ine (ln a) (ln c)=false:=(by unfold ln;rw[g];exact zel _);refine zcs d ?_;refine(zeP a c [] (λi=>(i,a,c,())) _ (some [.one<|.b true]) (some [.one<|.b false]) j g (λi f rec=>?_) (λrec=>?_)<|jN _).trans (zgm _);{dsimp only;simp only[zbK f,zbc f,zbc<|g ▸ f,zbr f,zfQ,zhs,pcI,pcN,pcB,pcE,pcA,zjf,zhK,zl5,zjg,zl4,cT,cF];first|exact zf6 _|exact zeO _};{dsimp only;simp only[zbw,cF]}};{have d:ine (ln a) (ln c)=true:=zgU (by unfold ln;omega);refine j0 d ?_;exact zfJ (λe=>g (by rw[e]))}
def zEs:vT 115 zg9:=hF2 zCd zN zC zq zLY zKL
def zgd (_ _:ah):Bool:=true
def zhy (x y:ah):Bool:=pc (x=y)
def zg8:Run:=rF2 (dT .guest) (dT .guest) λb c=>(zgd b c,[aB<|zhy b c])
def zz1 (N:Nat)(a b:ah):OA:=
 (oN (ze7 a.ax b.ax)<|cond (zgD a.ax b.ax) (cond (ieq a.A b.A) (cond (ieq a.Pc b.Pc) (oN (zdG a.aA b.aA)<|cond (zex a.aA b.aA) (oN (zdG a.aw b.aw)<|cond (zex a.aw b.aw) (cond (cond (ieq a.Ctl.aq b.Ctl.aq) (cond (ieq a.Ctl.Post b.Ctl.Post) (ziM a.Ctl.Open b.Ctl.Open) false) false) (cond (ieq a.ai b.ai) (cond (cond (ieq a.Exit.Kind b.Exit.Kind) (cond (ieq a.Exit.af b.Exit.af) (cond (ziM a.Exit.Write b.Exit.Write) (ieq a.Exit.N b.Exit.N) false) false) false) (cond (ziM a.aG b.aG) (oN (zfQ a.aD b.aD)<|some [aB<|zhs a.aD b.aD]) oF) oF) oF) oF) oF) oF) oF) oF) oF)
def zKK (a b:ah)(c:zgd a b=true):∃N,zz1 N a b=some [aB<|zhy a b]:=by refine⟨0,?_⟩;simp only[zz1,ze7,zgD,zdG,zex,zfQ,zhs,pcI,pcN,pcB,pcE,pcA,zRO,zLh,cT,cF,zyP];exact ztD (by cases a;cases b;simp[ah.mk.injEq,and_assoc])
def zEr:vT 356 zg8:=kF2 zCd zN zC zq (zA []) zKK
def z0U:zW:=[(115,zg9),(356,zg8)]++z0T
def zPt:zL z0U:=zh zEs (zh zEr zCd)
def zgo (_ _:List ah):Bool:=true
def zhV (x y:List ah):Bool:=pc (x=y)
def zjU:Run:=rF2 (dS .guest) (dS .guest) λb c=>(zgo b c,[aB<|zhV b c])
def zlO (N:Nat)(b c:lG):OA:=
 (cond (ine (ln b)<|ln c) oF<|iter (σ:=(Int×lG×lG×Unit)) N (λf a=>let e:=ix a.2.1 a.1 zD;let d:=ix a.2.2.1 a.1 zD; (cond (ilt a.1<|ln a.2.1) (oN (inb a.1<|ln a.2.1)<|oN (inb a.1<|ln a.2.2.1)<|oN (zgd e d)<|cond (nB<|zhy e d) oF<|f (zM .i64 a.1 1,a.2.1,a.2.2.1,())) oT)) (0,b,c,()))
def zIy:=zA [(175,0,{n:=27,tm:=[(0,.sl 0 []),(1,.sl 1 []),(5,ti)],lo:=[],ro:=[(0,.guest,false),(1,.guest,false)]})]
def zHR (a c:List ah)(h:zb5 big [aS .guest a,aS .guest c])(l:zgo a c=true):∃N,zlO N a c=some [aB<|zhV a c]:=by
 have j:a.length<=big:=len0 h;have k:c.length<=big:=((zbI (zbI h).2).1 _ (qD.2 rfl)).len;refine⟨a.length+1,?_⟩;unfold zlO oN nB;conv=>zeta
 by_cases g:a.length=c.length;{have d:ine (ln a) (ln c)=false:=(by unfold ln;rw[g];exact zel _);refine zcs d ?_;refine(zeP a c zD (λi=>(i,a,c,())) _ (some [.one<|.b true]) (some [.one<|.b false]) j g (λi f rec=>?_) (λrec=>?_)<|jN _).trans (zgm _);{dsimp only;simp only[zbK f,zbc f,zbc<|g ▸ f,zbr f,zgd,zhy,pcI,pcN,pcB,pcE,pcA,zjf,zhK,zl5,zjg,zl4,cT,cF];first|exact zf6 _|exact zeO _};{dsimp only;simp only[zbw,cF]}};{have d:ine (ln a) (ln c)=true:=zgU (by unfold ln;omega);refine j0 d ?_;exact zfJ (λe=>g (by rw[e]))}
def zCt:vT 175 zjU:=hF2 zPt zN zC zq zIy zHR
def z0V:zW:=[(175,zjU)]++z0U
def zPu:zL z0V:=zh zCt zPt
def zem (_ _:ak):Bool:=true
def zfP (x y:ak):Bool:=pc (x=y)
def zgr:Run:=rF2 (dT .bare) (dT .bare) λb c=>(zem b c,[aB<|zfP b c])
def zBz (N:Nat)(a b:ak):OA:=
 (oN (zfd a.ag b.ag)<|cond (zgE a.ag b.ag) (oN (zgo a.ac b.ac)<|cond (zhV a.ac b.ac) (oN (zfQ a.Outs b.Outs)<|cond (zhs a.Outs b.Outs) (some [aB<|ieq a.ai b.ai]) oF) oF) oF)
def zNt (a b:ak)(c:zem a b=true):∃N,zBz N a b=some [aB<|zfP a b]:=by refine⟨0,?_⟩;simp only[zBz,zfd,zgE,zgo,zhV,zfQ,zhs,pcI,pcN,pcB,pcE,pcA,zRO,zLh,cT,cF,zyP];exact ztD (by cases a;cases b;simp[ak.mk.injEq,and_assoc])
def ztR:vT 53 zgr:=kF2 zPu zN zC zq (zA []) zNt
def z9C:zW:=[(53,zgr)]++z0V
def z0W:zL z9C:=zh ztR zPu
def zse (_ _:List ak):Bool:=true
def zwB (x y:List ak):Bool:=pc (x=y)
def zvL:Run:=rF2 (dS .bare) (dS .bare) λb c=>(zse b c,[aB<|zwB b c])
def zz0 (N:Nat)(b c:lR):OA:=
 (cond (ine (ln b)<|ln c) oF<|iter (σ:=(Int×lR×lR×Unit)) N (λf a=>let e:=ix a.2.1 a.1 ziJ;let d:=ix a.2.2.1 a.1 ziJ; (cond (ilt a.1<|ln a.2.1) (oN (inb a.1<|ln a.2.1)<|oN (inb a.1<|ln a.2.2.1)<|oN (zem e d)<|cond (nB<|zfP e d) oF<|f (zM .i64 a.1 1,a.2.1,a.2.2.1,())) oT)) (0,b,c,()))
def zLX:=zA [(25,0,{n:=27,tm:=[(0,.sl 0 []),(1,.sl 1 []),(5,ti)],lo:=[],ro:=[(0,.bare,false),(1,.bare,false)]})]
def zKJ (a c:List ak)(h:zb5 big [aS .bare a,aS .bare c])(l:zse a c=true):∃N,zz0 N a c=some [aB<|zwB a c]:=by
 have j:a.length<=big:=len0 h;have k:c.length<=big:=((zbI (zbI h).2).1 _ (qD.2 rfl)).len;refine⟨a.length+1,?_⟩;unfold zz0 oN nB;conv=>zeta
 by_cases g:a.length=c.length;{have d:ine (ln a) (ln c)=false:=(by unfold ln;rw[g];exact zel _);refine zcs d ?_;refine(zeP a c ziJ (λi=>(i,a,c,())) _ (some [.one<|.b true]) (some [.one<|.b false]) j g (λi f rec=>?_) (λrec=>?_)<|jN _).trans (zgm _);{dsimp only;simp only[zbK f,zbc f,zbc<|g ▸ f,zbr f,zem,zfP,pcI,pcN,pcB,pcE,pcA,zjf,zhK,zl5,zjg,zl4,cT,cF];first|exact zf6 _|exact zeO _};{dsimp only;simp only[zbw,cF]}};{have d:ine (ln a) (ln c)=true:=zgU (by unfold ln;omega);refine j0 d ?_;exact zfJ (λe=>g (by rw[e]))}
def zEq:vT 25 zvL:=hF2 z0W zN zC zq zLX zKJ
def zL5:=zA [(463,0,{n:=26,tm:=[(0,.sl 0 []),(1,.sl 1 []),(5,ti)],lo:=[],ro:=[(0,.slot,false),(1,.slot,false)]})]
def zKX (a c:List k0)(h:zb5 big [aS .slot a,aS .slot c])(l:zdG a c=true):∃N,zm3 N a c=some [aB<|zex a c]:=by
 have j:a.length<=big:=len0 h;have k:c.length<=big:=((zbI (zbI h).2).1 _ (qD.2 rfl)).len;refine⟨a.length+1,?_⟩;unfold zm3 oN nB;conv=>zeta
 by_cases g:a.length=c.length;{have d:ine (ln a) (ln c)=false:=(by unfold ln;rw[g];exact zel _);refine zcs d ?_;refine(zeP a c zbe (λ(i:Int)=>(i,a,c,())) _ (some [.one<|.b true]) (some [.one<|.b false]) j g (λi f rec=>?_) (λrec=>?_)<|jN _).trans (zgm _);{dsimp only;simp only[zbK f,zbc f,zbc<|g ▸ f,zbr f,pcI,pcN,pcB,pcE,pcA,zjf,zhK,zl5,zjg,zl4,cT,cF];first|exact zf6 _|exact zeO _};{dsimp only;simp only[zbw,cF]}};{have d:ine (ln a) (ln c)=true:=zgU (by unfold ln;omega);refine j0 d ?_;exact zfJ (λe=>g (by rw[e]))}
def zEC:vT 463 zeX:=hF2 zdV zN zC zq zL5 zKX
def zOs:=zA [(462,0,{n:=26,tm:=[(0,.sl 0 []),(1,.sl 1 []),(5,ti)],lo:=[],ro:=[(0,.ins,false),(1,.ins,false)]})]
def zNK (a c:List Ins)(h:zb5 big [aS .ins a,aS .ins c])(l:ze7 a c=true):∃N,zn8 N a c=some [aB<|zgD a c]:=by
 have j:a.length<=big:=len0 h;have k:c.length<=big:=((zbI (zbI h).2).1 _ (qD.2 rfl)).len;refine⟨a.length+1,?_⟩;unfold zn8 oN nB;conv=>zeta
 by_cases g:a.length=c.length;{have d:ine (ln a) (ln c)=false:=(by unfold ln;rw[g];exact zel _);refine zcs d ?_;refine(zeP a c zpB (λ(i:Int)=>(i,a,c,())) _ (some [.one<|.b true]) (some [.one<|.b false]) j g (λi f rec=>?_) (λrec=>?_)<|jN _).trans (zgm _);{dsimp only;simp only[zbK f,zbc f,zbc<|g ▸ f,zbr f,pcI,pcN,pcB,pcE,pcA,zjf,zhK,zl5,zjg,zl4,cT,cF];first|exact zf6 _|exact zeO _};{dsimp only;simp only[zbw,cF]}};{have d:ine (ln a) (ln c)=true:=zgU (by unfold ln;omega);refine j0 d ?_;exact zfJ (λe=>g (by rw[e]))}
def zHy:vT 462 zft:=hF2 zdV zN zC zq zOs zNK
def z0r:zW:=[(297,zil)]++zMl
def zPe:zL z0r:=zh zvs zdV
def zFB (N:Nat)(b:lM)(c:lM):OA:=
 (cond (ine (ln b)<|ln c) oF<|iter (σ:=(Int×lM×lM×Unit)) N (λd a=>cond (ilt a.1<|ln a.2.1) (oN (inb a.1<|ln a.2.1)<|oN (inb a.1<|ln a.2.2.1)<|oN (zeC (ix a.2.1 a.1 [])<|ix a.2.2.1 a.1 [])<|cond (nB<|zeZ (ix a.2.1 a.1 [])<|ix a.2.2.1 a.1 []) oF<|d (zM .i64 a.1 1,a.2.1,a.2.2.1,())) oT) (0,b,c,()))
def zRw:=zA [(295,0,{n:=27,tm:=[(0,.sl 0 []),(1,.sl 1 []),(5,ti)],lo:=[],ro:=[(0,.sl .int,false),(1,.sl .int,false)]})]
def zQY (a:List LI)(c:List LI)(h:zb5 big [aS (.sl .int) a,aS (.sl .int) c])(l:zfd a c=true):∃N,zFB N a c=some [aB<|zgE a c]:=by have j:a.length<=big:=len0 h;have k:c.length<=big:=((zbI (zbI h).2).1 _ (qD.2 rfl)).len;refine⟨a.length+1,?_⟩;unfold zFB oN nB;by_cases g:a.length=c.length;{have d:ine (ln a) (ln c)=false:=(by unfold ln;rw[g];exact zel _);refine zcs d ?_;refine(zeP a c [] (λ(i:Int)=>(i,a,c,())) _ (some [.one<|.b true]) (some [.one<|.b false]) j g (λi f rec=>?_) (λrec=>?_)<|jN _).trans (zgm _);{dsimp only;simp only[zbK f,zbc f,zbc<|g ▸ f,zbr f,zeC,zeZ,pcI,pcN,pcB,pcE,pcA,zjf,zhK,zl5,zjg,zl4,cT,cF];first|exact zf6 _|exact zeO _};{dsimp only;simp only[zbw,cF]}};{have d:ine (ln a) (ln c)=true:=zgU (by unfold ln;omega);refine j0 d ?_;exact zfJ (λe=>g (by rw[e]))}
def zJ6:vT 295 zg9:=hF2 zPe zN zC zq zRw zQY
def z0s:zW:=[(463,zeX),(462,zft),(295,zg9)]++z0r
def zPf:zL z0s:=zh zEC (zh zHy<|zh zJ6 zPe)
def zAc (N:Nat)(a b:ah):OA:=
 (oN (ze7 a.ax b.ax)<|cond (zgD a.ax b.ax) (cond (ieq a.A b.A) (cond (ieq a.Pc b.Pc) (oN (zdG a.aA b.aA)<|cond (zex a.aA b.aA) (oN (zdG a.aw b.aw)<|cond (zex a.aw b.aw) (cond (cond (ieq a.Ctl.aq b.Ctl.aq) (cond (ieq a.Ctl.Post b.Ctl.Post) (ziM a.Ctl.Open b.Ctl.Open) false) false) (cond (ieq a.ai b.ai) (cond (cond (ieq a.Exit.Kind b.Exit.Kind) (cond (ieq a.Exit.af b.Exit.af) (cond (ziM a.Exit.Write b.Exit.Write) (ieq a.Exit.N b.Exit.N) false) false) false) (cond (ziM a.aG b.aG) (oN (zeC a.aD b.aD)<|some [aB<|zeZ a.aD b.aD]) oF) oF) oF) oF) oF) oF) oF) oF) oF)
def zvt (a b:ah)(c:zb5 big [aT .guest a,aT .guest b])(d:zgd a b=true):∃N,zAc N a b=some [aB<|zhy a b]:=by refine⟨0,?_⟩;simp only[zAc,ze7,zgD,zdG,zex,zeC,zeZ,pcI,pcN,pcB,pcE,pcA,zRO,zLh,cT,cF,zyP];exact ztD (by cases a;cases b;simp[ah.mk.injEq,and_assoc])
def zEB:vT 412 zg8:=hF2 zPf zN zC zq (zA []) zvt
def z0t:zW:=[(412,zg8)]++z0s
def zPg:zL z0t:=zh zEB zPf
def zBq:=zA [(296,0,{n:=27,tm:=[(0,.sl 0 []),(1,.sl 1 []),(5,ti)],lo:=[],ro:=[(0,.guest,false),(1,.guest,false)]})]
def zBp (a c:List ah)(h:zb5 big [aS .guest a,aS .guest c])(l:zgo a c=true):∃N,zlO N a c=some [aB<|zhV a c]:=by
 have j:a.length<=big:=len0 h;have k:c.length<=big:=((zbI (zbI h).2).1 _ (qD.2 rfl)).len;refine⟨a.length+1,?_⟩;unfold zlO oN nB;conv=>zeta
 by_cases g:a.length=c.length;{have d:ine (ln a) (ln c)=false:=(by unfold ln;rw[g];exact zel _);refine zcs d ?_;refine(zeP a c zD (λ(i:Int)=>(i,a,c,())) _ (some [.one<|.b true]) (some [.one<|.b false]) j g (λi f rec=>?_) (λrec=>?_)<|jN _).trans (zgm _);{dsimp only;simp only[zbK f,zbc f,zbc<|g ▸ f,zbr f,zgd,zhy,pcI,pcN,pcB,pcE,pcA,zjf,zhK,zl5,zjg,zl4,cT,cF];first|exact zf6 _|exact zeO _};{dsimp only;simp only[zbw,cF]}};{have d:ine (ln a) (ln c)=true:=zgU (by unfold ln;omega);refine j0 d ?_;exact zfJ (λe=>g (by rw[e]))}
def zxv:vT 296 zjU:=hF2 zPg zN zC zq zBq zBp
def z0u:zW:=[(296,zjU)]++z0t
def zPh:zL z0u:=zh zxv zPg
def zBN (N:Nat)(a b:ak):OA:=
 (oN (zfd a.ag b.ag)<|cond (zgE a.ag b.ag) (oN (zgo a.ac b.ac)<|cond (zhV a.ac b.ac) (oN (zeC a.Outs b.Outs)<|cond (zeZ a.Outs b.Outs) (some [aB<|ieq a.ai b.ai]) oF) oF) oF)
def zNJ (a b:ak)(c:zem a b=true):∃N,zBN N a b=some [aB<|zfP a b]:=by refine⟨0,?_⟩;simp only[zBN,zfd,zgE,zgo,zhV,zeC,zeZ,pcI,pcN,pcB,pcE,pcA,zRO,zLh,cT,cF,zyP];exact ztD (by cases a;cases b;simp[ak.mk.injEq,and_assoc])
def zHx:vT 114 zgr:=kF2 zPh zN zC zq (zA []) zNJ
def zSt:zW:=[(114,zgr)]++z0u
def zPi:zL zSt:=zh zHx zPh
def z7y {g f e:Type}(l m:List g)(d:g)(mk:Int->f)(F:(f->Option e)->f->Option e)(c:Option e)(j:l.length<=big)(k:l.length=m.length)(a:∀(i:Nat) (n:i<l.length) rec,F rec (mk (i:Int))=bif pc (l[i]=ix m (i:Int) d) then rec (mk<|zM .i64 (i:Int) 1) else c)(b:∀rec,F rec (mk (l.length:Int))=F (λ_=>none) (mk (l.length:Int))){N:Nat}(h:l.length<N) :
 iter N F (mk 0)=bif pc (l=m) then F (λ_=>none) (mk (l.length:Int)) else c:=zeP l m d mk F _ c j k a b h
def z0g:zW:=[(359,zil)]++zSt
def zu9:zL z0g:=zh zie zPi
def zcB (N:Nat)(b c:lS):OA:=
 (cond (ine (ln b)<|ln c) oF<|iter (σ:=(Int×Int×lS×lS×Unit)) N (λf a=>let e:=ix a.2.2.1 a.2.1 zbe;let d:=ix a.2.2.2.1 a.2.1 zbe; (cond (ilt a.2.1 a.1) (oN (inb a.2.1<|ln a.2.2.1)<|oN (inb a.2.1<|ln a.2.2.2.1)<|cond (nB<|cond (ieq e.af d.af) (ieq e.aj d.aj) false) oF<|f (a.1,zM .i64 a.2.1 1,a.2.2.1,a.2.2.2.1,())) oT)) (ln b,0,b,c,()))
def zdU:=zA [(450,0,{n:=26,tm:=[(0,.sl 0 []),(1,.sl 1 []),(12,ti),(13,ti)],lo:=[],ro:=[(0,.slot,false),(1,.slot,false)]})]
def zdP (a c:List k0)(h:zb5 big [aS .slot a,aS .slot c])(l:zdG a c=true):∃N,zcB N a c=some [aB<|zex a c]:=by
 have j:a.length<=big:=len0 h;have k:c.length<=big:=((zbI (zbI h).2).1 _ (qD.2 rfl)).len;refine⟨a.length+1,?_⟩;unfold zcB oN nB;conv=>zeta
 by_cases g:a.length=c.length;{have d:ine (ln a) (ln c)=false:=(by unfold ln;rw[g];exact zel _);refine zcs d ?_;refine(zeP a c zbe (λ(i:Int)=>(ln a,i,a,c,())) _ (some [.one<|.b true]) (some [.one<|.b false]) j g (λi f rec=>?_) (λrec=>?_)<|jN _).trans (zgm _);{dsimp only;simp only[zbK f,zbc f,zbc<|g ▸ f,zbr f,pcI,pcN,pcB,pcE,pcA,zjf,zhK,zl5,zjg,zl4,cT,cF];first|exact zf6 _|exact zeO _};{dsimp only;simp only[zbw,cF]}};{have d:ine (ln a) (ln c)=true:=zgU (by unfold ln;omega);refine j0 d ?_;exact zfJ (λe=>g (by rw[e]))}
def zdL:vT 450 zeX:=hF2 zu9 zN zC zq zdU zdP
def zcF (N:Nat)(b c:lI):OA:=
 (cond (ine (ln b)<|ln c) oF<|iter (σ:=(Int×Int×lI×lI×Unit)) N (λf a=>let e:=ix a.2.2.1 a.2.1 zpB;let d:=ix a.2.2.2.1 a.2.1 zpB; (cond (ilt a.2.1 a.1) (oN (inb a.2.1<|ln a.2.2.1)<|oN (inb a.2.1<|ln a.2.2.2.1)<|cond (nB<|cond (ieq e.Op d.Op) (ieq e.X d.X) false) oF<|f (a.1,zM .i64 a.2.1 1,a.2.2.1,a.2.2.2.1,())) oT)) (ln b,0,b,c,()))
def zd3:=zA [(468,0,{n:=26,tm:=[(0,.sl 0 []),(1,.sl 1 []),(12,ti),(13,ti)],lo:=[],ro:=[(0,.ins,false),(1,.ins,false)]})]
def zd2 (a c:List Ins)(h:zb5 big [aS .ins a,aS .ins c])(l:ze7 a c=true):∃N,zcF N a c=some [aB<|zgD a c]:=by
 have j:a.length<=big:=len0 h;have k:c.length<=big:=((zbI (zbI h).2).1 _ (qD.2 rfl)).len;refine⟨a.length+1,?_⟩;unfold zcF oN nB;conv=>zeta
 by_cases g:a.length=c.length;{have d:ine (ln a) (ln c)=false:=(by unfold ln;rw[g];exact zel _);refine zcs d ?_;refine(zeP a c zpB (λ(i:Int)=>(ln a,i,a,c,())) _ (some [.one<|.b true]) (some [.one<|.b false]) j g (λi f rec=>?_) (λrec=>?_)<|jN _).trans (zgm _);{dsimp only;simp only[zbK f,zbc f,zbc<|g ▸ f,zbr f,pcI,pcN,pcB,pcE,pcA,zjf,zhK,zl5,zjg,zl4,cT,cF];first|exact zf6 _|exact zeO _};{dsimp only;simp only[zbw,cF]}};{have d:ine (ln a) (ln c)=true:=zgU (by unfold ln;omega);refine j0 d ?_;exact zfJ (λe=>g (by rw[e]))}
def zdO:vT 468 zft:=hF2 zu9 zN zC zq zd3 zd2
def zFf (N:Nat)(c:lM)(d:lM):OA:=
 (cond (ine (ln c)<|ln d) oF<|iter (σ:=(Int×Int×lM×lM×Unit)) N (λe a=>let b:=a.2.1; (cond (ilt b a.1) (oN (inb b<|ln a.2.2.2.1)<|oN (inb b<|ln a.2.2.1)<|oN (zeC (ix a.2.2.2.1 b [])<|ix a.2.2.1 b [])<|cond (nB<|zeZ (ix a.2.2.2.1 b [])<|ix a.2.2.1 b []) oF<|e (a.1,zM .i64 b 1,a.2.2.1,a.2.2.2.1,())) oT)) (ln c,0,d,c,()))
def zRs:=zA [(371,0,{n:=32,tm:=[(1,.sl 0 []),(2,.fn 372 []),(15,.sl 1 []),(16,ti),(17,ti)],lo:=[],ro:=[(0,.sl .int,false),(1,.sl .int,false)]})]
def zQB (a:List LI)(c:List LI)(h:zb5 big [aS (.sl .int) a,aS (.sl .int) c])(l:zfd a c=true):∃N,zFf N a c=some [aB<|zgE a c]:=by
 have j:a.length<=big:=len0 h;have k:c.length<=big:=((zbI (zbI h).2).1 _ (qD.2 rfl)).len;refine⟨a.length+1,?_⟩;unfold zFf oN nB;conv=>zeta
 by_cases g:a.length=c.length;{have d:ine (ln a) (ln c)=false:=(by unfold ln;rw[g];exact zel _);refine zcs d ?_;refine(zeP a c [] (λ(i:Int)=>(ln a,i,c,a,())) _ (some [.one<|.b true]) (some [.one<|.b false]) j g (λi f rec=>?_) (λrec=>?_)<|jN _).trans (zgm _);{dsimp only;simp only[zbK f,zbc f,zbc<|g ▸ f,zbr f,zeC,zeZ,pcI,pcN,pcB,pcE,pcA,zjf,zhK,zl5,zjg,zl4,cT,cF];first|exact zf6 _|exact zeO _};{dsimp only;simp only[zbw,cF]}};{have d:ine (ln a) (ln c)=true:=zgU (by unfold ln;omega);refine j0 d ?_;exact zfJ (λe=>g (by rw[e]))}
def zJP:vT 203 zg9:=hF2 zu9 zN zC zq zRs zQB
def z0h:zW:=[(450,zeX),(468,zft),(203,zg9)]++z0g
def zCa:zL z0h:=zh zdL (zh zdO<|zh zJP zu9)
def zzX (N:Nat)(a b:lS):OA:=
 (oN (zdG a b)<|some [aB<|zex a b])
def zKF (a b:List k0)(c:zdG a b=true):∃N,zzX N a b=some [aB<|zex a b]:=by refine⟨0,?_⟩;unfold zzX oN;exact j0 rfl rfl
def zEm:vT 373 zeX:=kF2 zCa zN zC zq (zA []) zKF
def zBt (N:Nat)(a b:lI):OA:=
 (oN (ze7 a b)<|some [aB<|zgD a b])
def zNo (a b:List Ins)(c:ze7 a b=true):∃N,zBt N a b=some [aB<|zgD a b]:=by refine⟨0,?_⟩;unfold zBt oN;exact j0 rfl rfl
def zHg:vT 441 zft:=kF2 zCa zN zC zq (zA []) zNo
def z0i:zW:=[(373,zeX),(441,zft)]++z0h
def zO7:zL z0i:=zh zEm (zh zHg zCa)
def zEl:vT 358 zg8:=hF2 zO7 zN zC zq (zA []) zvt
def z9A:zW:=[(358,zg8)]++z0i
def z0j:zL z9A:=zh zEl zO7
def zBs (N:Nat)(b c:ak):OA:=
 (oN (zfd b.ag c.ag)<|cond (zgE b.ag c.ag) (cond (ine (ln b.ac)<|ln c.ac) oF<|iter (σ:=(Int×Int×Int×Int×lG×lG×lM×LI×lM×LI×Unit)) N (λh a=>let b:=a.2.2.2.2;let e:=b.2.2.2.1;let g:=ix b.1 a.2.1 zD;let f:=ix b.2.1 a.2.1 zD;let d:=b.2.2.2.2.2.1; (cond (ilt a.2.1 a.1) (oN (inb a.2.1<|ln b.2.1)<|oN (inb a.2.1<|ln b.1)<|oN (zgd f g)<|cond (nB<|zhy f g) oF<|h (a.1,zM .i64 a.2.1 1,a.2.2.1,a.2.2.2.1,b.1,b.2.1,b.2.2.1,e,b.2.2.2.2.1,d,()))<|oN (zeC e d)<|cond (zeZ e d) (some [aB<|ieq a.2.2.1 a.2.2.2.1]) oF)) (ln b.ac,0,b.ai,c.ai,c.ac,b.ac,b.ag,b.Outs,c.ag,c.Outs,())) oF)
def zOk:=zA [(357,0,{n:=32,tm:=[(1,.sl 0 []),(2,.fn 358 []),(15,.sl 1 []),(16,ti),(17,ti)],lo:=[(0,[.sl 2 [],.sl 1 [],.sl 3 [],ti]),(1,[.sl 4 [],.sl 0 [],.sl 5 [],ti])],ro:=[(0,.guest,false),(1,.guest,false),(2,.sl .int,false),(3,.int,false),(4,.sl .int,false),(5,.int,false)],sk:=[(0,0,0,.sl 2 []),(0,0,2,.sl 3 []),(0,1,0,.sl 4 []),(0,1,2,.sl 5 []),(0,2,0,.lp 0 0),(0,3,0,.lp 1 0)]})]
def zNn (a b:ak)(l:zb5 big [aT .bare a,aT .bare b])(m:zem a b=true):∃N,zBs N a b=some [aB<|zfP a b]:=by
 have j:a.ac.length<=big:=((zbI l).1 (.s .guest a.ac) (by simp[AV.cvs,Ty.cells])).len;refine⟨a.ac.length+1,?_⟩;unfold zBs oN nB;conv=>zeta
 refine j0 rfl ?_;refine(Classical.em<|a.ag=b.ag).elim (λc=>?_) (λc=>zcs (zov c) (zfJ λe=>c (by rw[e])));refine j0 (zY c) ?_;refine(Classical.em<|a.ac.length=b.ac.length).elim (λg=>?_) (λg=>j0 (zgU (by unfold ln;omega)) (zfJ λe=>g (by rw[e])));refine zcs (by unfold ln;rw[g];exact zel _) ?_;refine(z7y (N:=a.ac.length+1) a.ac b.ac zD (λ(i:Int)=>(ln a.ac,i,a.ai,b.ai,b.ac,a.ac,a.ag,a.Outs,b.ag,b.Outs,())) _ (oF) j g (λi h rec=>?_) (λrec=>?_) (by omega)).trans ?_;{dsimp only;simp only[zbK h,zbc h,zbc<|g ▸ h,zbr h,zgd,zhy,cT,cF];first|exact zf6 _|exact zeO _};{dsimp only;simp only[zbw,cF]};refine(Classical.em<|a.ac=b.ac).elim (λd=>?_) (λd=>by rw[zov d];exact zfJ λe=>d (by rw[e]));rw[zY d,cT];dsimp only;simp only[zbw,cF];refine j0 rfl ?_;refine(Classical.em<|a.Outs=b.Outs).elim (λf=>?_) (λf=>zcs ((pcE _ _).trans (zov f)) (zfJ λe=>f (by rw[e])));refine j0 ((pcE _ _).trans (zY f)) ?_;rw[pcI];exact ztD (by cases a;cases b;simp only[ak.mk.injEq] at *;exact⟨λk=>⟨c,d,f,k⟩,λk=>k.2.2.2⟩)
def zHf:vT 177 zgr:=hF2 z0j zN zC zq zOk zNn
def z0k:zW:=[(73,zwG),(52,zh0)]++zSt
def zO8:zL z0k:=zh zAj (zh zp0 zPi)
def zI3 (N:Nat)(b:ad)(c:Int):OA:=
 (oN (zDr b c)<|cond (nB<|zrY b c) (some [aT .bare (⟨[],[],[],0⟩:ak)])<|iter (σ:=(Int×Int×Int×Int×lM×lN×lE×lE×lM×lG×LI×lM×lG×LI×Unit)) N (λh a=>let b:=a.2.2.2.2.2;let c:=b.2.2.2.2;let g:=c.2.2.2.1;let f:=c.2.2.2.2.1;let d:=(⟨a.2.2.2.2.1,b.1,b.2.1,b.2.2.1⟩:ad);let e:=ap c.2.2.1 [zh3 d a.1 a.2.1]; (cond (ilt a.2.1 8) (oN (zjY d a.1 a.2.1)<|oN (few<|ln e)<|h (a.1,zM .i64 a.2.1 1,a.2.2.1,a.2.2.2.1,a.2.2.2.2.1,b.1,b.2.1,b.2.2.1,b.2.2.2.1,c.1,c.2.1,e,g,f,()))<|some [aT .bare (⟨c.2.2.1,g,f,a.2.2.2.1⟩:ak)])) (c,0,0,(zfu b c).ai,b.ag,b.aa,b.ao,b.an,[],[],[],[],(zfu b c).ac,(zfu b c).Outs,()))
def zVb:=zA [(55,0,{n:=39,tm:=[(1,ti),(2,.lp 0 0),(4,.lp 1 0),(7,.lp 2 0),(8,ti)],lo:=[(0,[.sl 0 [],.sl 1 [],.sl 2 [],.sl 3 []]),(1,[.sl 4 [],.sl 5 [],.sl 6 [],ti]),(2,[.sl 7 [],.sl 8 [],.sl 9 [],ti])],ro:=[(0,.sl .int,false),(1,.mon,false),(2,.entry,false),(3,.entry,false),(4,.sl .int,true),(5,.guest,true),(6,.int,true),(7,.sl .int,true),(8,.guest,true),(9,.int,true)]})]
def zTC (a:ad)(b:Int)(f:zek a b=true):∃N,zI3 N a b=some [aT .bare<|zeQ a b]:=by
 have e:=zT.1 f;refine zcI λN d=>?_;unfold zI3 zeQ zK oN nB;conv=>zeta
 refine j0 (zbH e) ?_;rw[show zrY a b=i0 b (ln a.aa) from rfl];cases g:i0 b (ln a.aa);{rfl};{refine zcs rfl ?_;refine(zt3 8 (λi (t:lM)=>(b,(i:Int),0,(zfu a b).ai,a.ag,a.aa,a.ao,a.an,[],[],[],t,(zfu a b).ac,(zfu a b).Outs,())) _ (λi (c:List LI) j=>bif few (ln<|ap c [zb8 a b (i:Int)]) then j (ap c [zb8 a b (i:Int)]) else none) (λ(t:lM)=>some [.agg<|Ty.cells .bare (⟨t,(zfu a b).ac,(zfu a b).Outs,(zfu a b).ai⟩:ak)]) (λi h t rec=>?_) (λt rec=>?_) _ ([])<|d (by decide)).trans ?_;{simp only [show ilt (i:Int) 8=true from qM (by omega),zbx h (show 8<=big by decide),cT];exact j0 (zbH e) rfl};{simp only [show ilt ((8:Nat):Int) 8=false from qT (by omega),cF]};rw[zCo a b _ 8 0 [] (by decide)];simp only[zfu,g,cT,jS]}
def zxt:vT 55 zhZ:=kF2 zO8 zN zC zq zVb zTC
def z0l:zW:=[(55,zhZ)]++z0k
def zO9:zL z0l:=zh zxt zO8
def zHa {d:Type}(h:ad)(K:List ak->Option d):∀(l:List Mon) (i:Nat) (a:List ak),a.length+l.length<=2147483648->
 goL (λi (_:Mon) a c=>bif few (ln<|ap a [zK h (i:Int)]) then c (ap a [zK h (i:Int)]) else none) K l i a=K (a++(List.range' i l.length).map λ(i:Nat)=>zK h (i:Int))
 |[],_,a,_=>by simp[goL]
 |x::l,i,a,b=>by simp only[qX]at b;simp only[goL];rw[zhn (by simp[ap];omega),cT,zHa h K l (i+1) _ (by simp[ap];omega)];simp[ap,vB]
@[simp] abbrev zcf (h:ad):List ak:=zbU h
def zha:Run:=rF1 dH λb=>(zbh b,[aS .bare<|zcf b])
def zz3 (N:Nat)(b:ad):OA:=
 (iter (σ:=(Int×lR×lM×lN×lE×lE×Unit)) N (λe a=>let b:=a.2.2.2.2;let c:=(⟨a.2.2.1,a.2.2.2.1,b.1,b.2.1⟩:ad);let d:=ap a.2.1 [zeQ c a.1]; (cond (ilt a.1<|ln a.2.2.2.1) (oN (zek c a.1)<|oN (few<|ln d)<|e (zM .i64 a.1 1,d,a.2.2.1,a.2.2.2.1,b.1,b.2.1,()))<|some [aS .bare a.2.1])) (0,[],b.ag,b.aa,b.ao,b.an,()))
def zL0:=zA [(11,0,{n:=20,tm:=[(1,.lp 0 0),(3,.sl 0 []),(4,ti)],lo:=[(0,[.sl 1 [],.sl 2 [],.sl 3 [],.sl 4 []])],ro:=[(0,.bare,true),(1,.sl .int,false),(2,.mon,false),(3,.entry,false),(4,.entry,false)]})]
def zKN (a:ad)(f:zbh a=true):∃N,zz3 N a=some [aS .bare<|zcf a]:=by
 have d:=zT.1 f;have e:a.aa.length<=big:=(zcO ((zU a).1 d).2.1.1).1;refine zcI λN c=>?_;unfold zz3 oN;conv=>zeta
 refine(zbJ a.aa (λi (t:lR)=>((i:Int),t,a.ag,a.aa,a.ao,a.an,())) _ (λi (x:Mon) (t:List ak) g=>bif few (ln<|ap t [zK a (i:Int)]) then g (ap t [zK a (i:Int)]) else none) (λ(t:lR)=>some [.one<|.s .bare t]) (λi b t rec=>?_) (λt rec=>?_) _ ([])<|c e).trans ?_;{simp only [zbK b,zbc b,zbr b,zbx b e,cT];exact j0 (zbH d) rfl};{simp only [zbw,cF]};rw[zHa a _ _ 0 [] (by simpa using (zcO ((zU a).1 d).2.1.1).2)];simp[zbU,uM]
def zsC:vT 11 zha:=kF1 zO9 zN zC zq zL0 zKN
def z0m:zW:=[(11,zha)]++z0l
def zPa:zL z0m:=zh zsC zO9
@[simp] abbrev zh2 (h:ad)(_:List ak):Bool:=pc (zcR h)
def zjW (h:ad)(l:List ak):Bool:=pc (zbU h=l)
def zhL:Run:=rF2 dH (dS .bare) λb c=>(zh2 b c,[aB<|zjW b c])
def zBK (N:Nat)(b:ad)(d:lR):OA:=
 (cond (ine (ln d)<|ln b.aa) oF<|iter (σ:=(Int×lR×lM×lN×lE×lE×Unit)) N (λf a=>let b:=a.2.2.2.2;let e:=ix a.2.1 a.1 ziJ;let c:=(⟨a.2.2.1,a.2.2.2.1,b.1,b.2.1⟩:ad); (cond (ilt a.1<|ln a.2.1) (oN (zek c a.1)<|oN (inb a.1<|ln a.2.1)<|oN (zem (zeQ c a.1) e)<|cond (nB<|zfP (zeQ c a.1) e) oF<|f (zM .i64 a.1 1,a.2.1,a.2.2.1,a.2.2.2.1,b.1,b.2.1,())) oT)) (0,d,b.ag,b.aa,b.ao,b.an,()))
def zOq:=zA [(23,0,{n:=27,tm:=[(1,.sl 0 []),(2,.lp 0 0),(5,ti)],lo:=[(0,[.sl 1 [],.sl 2 [],.sl 3 [],.sl 4 []])],ro:=[(0,.bare,false),(1,.sl .int,false),(2,.mon,false),(3,.entry,false),(4,.entry,false)]})]
def zNG (a:ad)(c:List ak)(l:zh2 a c=true):∃N,zBK N a c=some [aB<|zjW a c]:=by
 have k:=zT.1 l;have j:(zbU a).length=a.aa.length:=zfx a;have m:a.aa.length<=big:=(zcO ((zU a).1 k).2.1.1).1;refine⟨c.length+1,?_⟩;unfold zBK oN nB;conv=>zeta
 by_cases f:c.length=(zbU a).length;{refine zcs (by unfold ln;rw[f,j];exact zel _) ?_;refine(zeP c (zbU a) ziJ (λ(i:Int)=>(i,c,a.ag,a.aa,a.ao,a.an,())) _ (some [.one<|.b true]) (some [.one<|.b false]) (by omega) f (λi d rec=>?_) (λrec=>?_)<|jN _).trans ?_;{dsimp only;have h:i<(zbU a).length:=f ▸ d;have e:ix (zbU a) (i:Int) ziJ=zeQ a (i:Int):=(by rw[zbr h];simp[zbU]);have g:zek a (i:Int)=true:=zbH k;rw[e];simp only[zbK d,zbc d,zbr d,zem,zfP,cT,cF];refine j0 g ?_;rw[zgp (Iff.intro Eq.symm Eq.symm:c[i]=zeQ a (i:Int)↔zeQ a (i:Int)=c[i])];first|exact zf6 _|exact zeO _};{dsimp only;simp only[zbw,cF]};{rw [zgp (Iff.intro Eq.symm Eq.symm:c=zbU a↔zbU a=c)];exact zgm _}};{refine j0 (zgU (by unfold ln;rw[<- j];omega)) (zfJ λe=>f (by rw[e]))}
def ztV:vT 23 zhL:=kF2 zPa zN zC zq zOq zNG
def z0n:zW:=[(23,zhL)]++z0m
def zPb:zL z0n:=zh ztV zPa
@[simp] abbrev zlz (a b:ad):Bool:=pc (zcR a/\zcR b)
def zo3 (a b:ad):Bool:=pc (zbU a=zbU b)
def zjh:Run:=rF2 dH dH λb c=>(zlz b c,[aB<|zo3 b c])
def zBO (N:Nat)(b a:ad):OA:=
 (oN (zbh a)<|oN (zh2 b<|zcf a)<|some [aB<|zjW b<|zcf a])
def zxA (a b:ad)(f:zb5 big [aH a,aH b])(e:zlz a b=true):∃N,zBO N a b=some [aB<|zo3 a b]:=by obtain⟨c,d⟩:=zT.1 e;refine⟨0,?_⟩;unfold zBO oN;exact j0 (zbH d) (j0 (zbH c) rfl)
def ztX:vT 43 zjh:=hF2 zPb zN zC zq (zA []) zxA
def z0o:zW:=[(43,zjh),(54,zhZ),(177,zgr)]++z0n
def zPc:zL z0o:=zh ztX (zh zpZ<|zh zHf zPb)
def zzV (N:Nat)(b:ad):OA:=
 (iter (σ:=(Int×Int×lR×lM×lN×lE×lE×Unit)) N (λe a=>let b:=a.2.2.2.2;let c:=(⟨a.2.2.2.1,b.1,b.2.1,b.2.2.1⟩:ad);let d:=ap a.2.2.1 [zeQ c a.2.1]; (cond (ilt a.2.1 a.1) (oN (zek c a.2.1)<|oN (few<|ln d)<|e (a.1,zM .i64 a.2.1 1,d,a.2.2.2.1,b.1,b.2.1,b.2.2.1,()))<|some [aS .bare a.2.2.1])) (ln b.aa,0,[],b.ag,b.aa,b.ao,b.an,()))
def zLV:=zA [(45,0,{n:=20,tm:=[(1,.lp 0 0),(3,.sl 0 []),(8,ti),(9,ti)],lo:=[(0,[.sl 1 [],.sl 2 [],.sl 3 [],.sl 4 []])],ro:=[(0,.bare,true),(1,.sl .int,false),(2,.mon,false),(3,.entry,false),(4,.entry,false)]})]
def zKD (a:ad)(f:zbh a=true):∃N,zzV N a=some [aS .bare<|zcf a]:=by
 have d:=zT.1 f;have e:a.aa.length<=big:=(zcO ((zU a).1 d).2.1.1).1;refine zcI λN c=>?_;unfold zzV oN;conv=>zeta
 refine(zbJ a.aa (λi (t:lR)=>(ln a.aa,(i:Int),t,a.ag,a.aa,a.ao,a.an,())) _ (λi (x:Mon) (t:List ak) g=>bif few (ln<|ap t [zK a (i:Int)]) then g (ap t [zK a (i:Int)]) else none) (λ(t:lR)=>some [.one<|.s .bare t]) (λi b t rec=>?_) (λt rec=>?_) _ ([])<|c e).trans ?_;{simp only [zbK b,zbc b,zbr b,zbx b e,cT];exact j0 (zbH d) rfl};{simp only [zbw,cF]};rw[zHa a _ _ 0 [] (by simpa using (zcO ((zU a).1 d).2.1.1).2)];simp[zbU,uM]
def zsB:vT 45 zha:=kF1 zPc zN zC zq zLV zKD
def z0p:zW:=[(45,zha)]++z0o
def zPd:zL z0p:=zh zsB zPc
def zBr (N:Nat)(b:ad)(c:lR):OA:=
 (oN (zbh b)<|cond (ine (ln<|zcf b)<|ln c) oF<|iter (σ:=(Int×Int×lR×lR×lM×lN×lE×lE×Unit)) N (λf a=>let b:=a.2.2.2.2;let e:=ix a.2.2.1 a.2.1 ziJ;let d:=ix a.2.2.2.1 a.2.1 ziJ; (cond (ilt a.2.1 a.1) (oN (inb a.2.1<|ln a.2.2.2.1)<|oN (inb a.2.1<|ln a.2.2.1)<|oN (zem d e)<|cond (nB<|zfP d e) oF<|f (a.1,zM .i64 a.2.1 1,a.2.2.1,a.2.2.2.1,b.1,b.2.1,b.2.2.1,b.2.2.2.1,())) oT)) (ln<|zcf b,0,c,zcf b,b.ag,b.aa,b.ao,b.an,()))
def zOj:=zA [(176,0,{n:=32,tm:=[(1,.sl 0 []),(2,.fn 177 []),(15,.sl 1 []),(16,ti),(17,ti)],lo:=[(0,[.sl 2 [],.sl 3 [],.sl 4 [],.sl 5 []])],ro:=[(0,.bare,false),(1,.bare,true),(2,.sl .int,false),(3,.mon,false),(4,.entry,false),(5,.entry,false)],sk:=[(0,0,0,.sl 2 []),(0,0,1,.sl 3 []),(0,0,2,.sl 4 []),(0,0,3,.sl 5 []),(0,2,0,.lp 0 0)]})]
def zNm (a:ad)(c:List ak)(h:zh2 a c=true):∃N,zBr N a c=some [aB<|zjW a c]:=by
 have g:=zT.1 h;have j:(zcf a).length<=big:=(by show (zbU a).length<=big;rw[zfx];exact(zcO ((zU a).1 g).2.1.1).1);refine⟨(zcf a).length+1,?_⟩;unfold zBr oN nB;conv=>zeta
 refine j0 (zbH g) ?_;by_cases f:(zcf a).length=c.length;{refine zcs (by unfold ln;rw[f];exact zel _) ?_;refine(zeP (zcf a) c ziJ (λ(i:Int)=>(ln<|zcf a,i,c,zcf a,a.ag,a.aa,a.ao,a.an,())) _ (some [.one<|.b true]) (some [.one<|.b false]) j f (λi d rec=>?_) (λrec=>?_)<|jN _).trans ?_;{dsimp only;simp only[zbK d,zbc d,zbc<|f ▸ d,zbr d,zem,zfP,cT,cF];first|exact zf6 _|exact zeO _};{dsimp only;simp only[zbw,cF]};{exact zgm _}};{exact j0 (zgU (by unfold ln;omega)) (zfJ λe=>f (by rw[<- e]))}
def ztQ:vT 56 zhL:=kF2 zPd zN zC zq zOj zNm
def z9B:zW:=[(56,zhL)]++z0p
def z0q:zL z9B:=zh ztQ zPd
def zHh:vT 57 zjh:=hF2 z0q zN zC zq (zA []) zxA
def z0X:zW:=[(11,zha),(58,zzA)]++z5V
def zvb:zL z0X:=zh zsC (zh zCv z3F)
def zjH (N:Nat)(l:LI):OA:=
 (iter (σ:=(Int×Int×LI×lR×lM×lN×lE×lE×Unit)) N (λn a=>let l:=a.2.2.2.2;let f:=a.2.2.1;let c:=(⟨f,0,a.1⟩:Cur);let g:=aH<|zc3 c;let e:=zcf<|zc3 c;let i:=inb 0<|ln e;let m:=up e 0 ({ (ix e 0 ziJ) with ai:=(zM .i64 (ix e 0 ziJ).ai 1)}:ak);let d:=({ (zj5 c) with b:=f}:Cur);let k:=({ (zf d 4) with b:=f}:Cur);let h:=ap e [zIo k]; (cond (ilt a.2.1<|ln f) (cond (ilt a.2.1 4000) (oN (inb a.2.1<|ln f)<|n (wand .i64 (zM .i64 (zM .i64 (zkS .i64 a.1 131)<|wcv .i64<|ix f a.2.1 0) 7) 1073741823,zM .i64 a.2.1 1,f,a.2.2.2.1,l.1,l.2.1,l.2.2.1,l.2.2.2.1,()))<|oN (zdE c)<|oN (zbh<|zc3 c)<|oN (zu d 4)<|cond (ieq (zk d 4) 0) (oN (zmo k)<|oN (few<|ln h)<|some [g,aS .bare h])<|cond (ieq (zk d 4) 1) (oN i<|oN i<|p0 m λj=>some [g,aS .bare j])<|some [g,aS .bare e])<|oN (zdE c)<|oN (zbh<|zc3 c)<|oN (zu d 4)<|cond (ieq (zk d 4) 0) (oN (zmo k)<|oN (few<|ln h)<|some [g,aS .bare h])<|cond (ieq (zk d 4) 1) (oN i<|oN i<|p0 m λj=>some [g,aS .bare j])<|some [g,aS .bare e])) (zM .i64 94701<|ln l,0,l,[],[],[],[],[],()))
def zDF:=zA [(100,0,{n:=32,tm:=[(0,.sl 0 []),(3,ti),(4,ti)],lo:=[(0,[.sl 2 [],.sl 3 [],.sl 4 [],.sl 5 []])],ro:=[(0,.u8,false),(1,.bare,true),(2,.sl .int,true),(3,.mon,true),(4,.entry,true),(5,.entry,true)],sk:=[(0,2,0,.lp 0 0),(0,3,0,.sl 1 [])]})]
def zmx (b:LI)(a:ad)(c:List ak):Prop:=(∃N,zjH N b=some [aH a,aS .bare c])/\(AnyH a)
def zgs (a:LI):Bool:=uC (T:=ad×List ak) (λr=>zmx a r.1 r.2)
def zut (a:LI):ad×List ak:=uV (λr=>zmx a r.1 r.2)
def zeo (a:LI):ad:=(zut a).1
def zep (a:LI):List ak:=(zut a).2
def zus {a:LI}(h:zgs a=true):zmx a (zeo a) (zep a):=uG h
def zIj (d:LI)(h:∃N,Ends (λa=>∃b c,a=[aH b,aS .bare c]/\(AnyH b))<|zjH N d):zgs d=true:=by obtain⟨N,a,e,b,c,rfl,h⟩:=h;exact zY ⟨(b,c),⟨N,e⟩,h⟩
def zrT:Run:=rF1 (dS .u8) λb=>(zgs b,[aH<|zeo b,aS .bare<|zep b])
def zCO (a:LI)(b:zgs a=true):∃N,zjH N a=some [aH<|zeo a,aS .bare<|zep a]:=by exact(zus b).1
def zy7:vT 48 zrT:=kF1 zvb zN zIe zq zDF zCO
def zCg {a:LI}(h:a.length<=big):zgs a=true:=by
 refine zIj a (zcI λN c=>?_);unfold zjH oN;conv=>zeta
 refine zrB h (c h) ((λi t=>(t,(i:Int),a,[],[],[],[],[],())):Int->Int->_) (λrec i t=>by dsimp only) (λt d=>?_);have A:=(zj4<|zkh d).2.2;have f:=(zU _).2 A.sm;have e:(zbU<|zc3 ⟨a,0,t⟩).length=(zc3 ⟨a,0,t⟩).aa.length:=zfx _;have b:inb 0 (ln<|zcf<|zc3 ⟨a,0,t⟩)=true:=qM (by have:=A.n1;show (0:Int)<=0/\(0:Int)<((zbU<|zc3 ⟨a,0,t⟩).length:Int);omega)
 refine zo (zkh d) (zo (zY f)<|zo (zbp (zC2 h<|ztb _) 4) (zbt (λ_=>zo (z7p<|zC2 h<|zB _ _) (zo (zhS ?_) ⟨_,rfl,zc3 ⟨a,0,t⟩,_,rfl,A⟩))
  (λ_=>zbt (λ_=>zo b (zo b<|zij ⟨_,rfl,zc3 ⟨a,0,t⟩,_,rfl,A⟩)) λ_=>⟨_,rfl,zc3 ⟨a,0,t⟩,_,rfl,A⟩)))
 rw[zfR];have:=A.n3;show ((zbU<|zc3 ⟨a,0,t⟩).length:Int)+1<=_;omega
def zjI (N:Nat)(h:LI):OA:=
 (iter (σ:=(Int×Int×LI×lM×lN×lE×lE×lM×lN×lE×lE×Unit)) N (λi a=>let h:=a.2.2.2.2.2;let d:=a.2.2.1;let f:=(⟨d,0,a.1⟩:Cur);let c:=zc3 f;let e:=({ (zj5 f) with b:=d}:Cur);let g:=({ (zO e 2) with b:=d}:Cur); (cond (ilt a.2.1<|ln d) (cond (ilt a.2.1 4000) (oN (inb a.2.1<|ln d)<|i (wand .i64 (zM .i64 (zM .i64 (zkS .i64 a.1 131)<|wcv .i64<|ix d a.2.1 0) 7) 1073741823,zM .i64 a.2.1 1,d,a.2.2.2.1,a.2.2.2.2.1,h.1,h.2.1,h.2.2.1,h.2.2.2.1,h.2.2.2.2.1,h.2.2.2.2.2.1,()))<|oN (zdE f)<|oN (zcv e 2)<|cond (zcQ e 2) (oN (zbh c)<|some [aH c,aH<|zur c])<|oN (zdE g)<|some [aH c,aH<|zc3 g])<|oN (zdE f)<|oN (zcv e 2)<|cond (zcQ e 2) (oN (zbh c)<|some [aH c,aH<|zur c])<|oN (zdE g)<|some [aH c,aH<|zc3 g])) (zM .i64 94701<|ln h,0,h,[],[],[],[],[],[],[],[],()))
def zDG:=zA [(100,0,{n:=32,tm:=[(0,.sl 0 []),(3,ti),(4,ti)],lo:=[(0,[.sl 1 [],.sl 2 [],.sl 3 [],.sl 4 []]),(1,[.sl 5 [],.sl 6 [],.sl 7 [],.sl 8 []])],ro:=[(0,.u8,false),(1,.sl .int,true),(2,.mon,true),(3,.entry,true),(4,.entry,true),(5,.sl .int,true),(6,.mon,true),(7,.entry,true),(8,.entry,true)],sk:=[(0,2,0,.lp 0 0),(0,3,0,.lp 1 0)]})]
def zmy (c:LI)(a:ad)(b:ad):Prop:=(∃N,zjI N c=some [aH a,aH b])/\(AnyH a/\SmH b)
def zgt (a:LI):Bool:=uC (T:=ad×ad) (λr=>zmy a r.1 r.2)
def zuv (a:LI):ad×ad:=uV (λr=>zmy a r.1 r.2)
def zeq (a:LI):ad:=(zuv a).1
def zer (a:LI):ad:=(zuv a).2
def zuu {a:LI}(h:zgt a=true):zmy a (zeq a) (zer a):=uG h
def zIk (d:LI)(h:∃N,Ends (λa=>∃b c,a=[aH b,aH c]/\(AnyH b/\SmH c))<|zjI N d):zgt d=true:=by obtain⟨N,a,e,b,c,rfl,h⟩:=h;exact zY ⟨(b,c),⟨N,e⟩,h⟩
def zrU:Run:=rF1 (dS .u8) λb=>(zgt b,[aH<|zeq b,aH<|zer b])
def zCP (a:LI)(b:zgt a=true):∃N,zjI N a=some [aH<|zeq a,aH<|zer a]:=by exact(zuu b).1
def zy8:vT 49 zrU:=kF1 zvb zN zIe zq zDG zCP
def zxj {a:LI}(h:a.length<=big):zgt a=true:=by
 refine zIk a (zcI λN b=>?_);unfold zjI oN;conv=>zeta
 refine zrB h (b h) ((λi t=>(t,(i:Int),a,[],[],[],[],[],[],[],[],())):Int->Int->_) (λrec i t=>by dsimp only) (λt c=>?_)
 have A:=(zj4<|zkh c).2.2;have d:=(zU _).2 A.sm;exact zo (zkh c) (zo (zhW (zC2 h<|ztb _) 2) (zbt (λ_=>zo (zY d) ⟨_,rfl,zc3 ⟨a,0,t⟩,_,rfl,A,zIt A.sm⟩)
  (λ_=>zo (zkh<|zC2 h<|zb0 _ _) ⟨_,rfl,zc3 ⟨a,0,t⟩,_,rfl,A,(zj4<|zkh<|zC2 h<|zb0 _ _).2.2.sm⟩)))
def zlP (N:Nat)(a:LI):OA:=
 (oN (zkN a)<|some [aH<|zro a,aI<|zrp a,aI<|zrq a])
def zoV (b:LI)(a:ad)(c:Int)(d:Int):Prop:=(∃N,zlP N b=some [aH a,aI c,aI d])/\(AnyH a)
def zhM (a:LI):Bool:=uC (T:=ad×Int×Int) (λr=>zoV a r.1 r.2.1 r.2.2)
def zqp (a:LI):ad×Int×Int:=uV (λr=>zoV a r.1 r.2.1 r.2.2)
def zji (a:LI):ad:=(zqp a).1
def zjj (a:LI):Int:=(zqp a).2.1
def zjk (a:LI):Int:=(zqp a).2.2
def zyb {a:LI}(h:zhM a=true):zoV a (zji a) (zjj a) (zjk a):=uG h
def zN8 (f:LI)(h:∃N,Ends (λa=>∃b c d,a=[aH b,aI c,aI d]/\(AnyH b))<|zlP N f):zhM f=true:=by obtain⟨N,a,e,b,c,d,rfl,h⟩:=h;exact zY ⟨(b,c,d),⟨N,e⟩,h⟩
def zuk:Run:=rF1 (dS .u8) λb=>(zhM b,[aH<|zji b,aI<|zjj b,aI<|zjk b])
def zHW (a:LI)(b:zhM a=true):∃N,zlP N a=some [aH<|zji a,aI<|zjj a,aI<|zjk a]:=by exact(zyb b).1
def zCw:vT 46 zuk:=kF1 zvb zN zIe zq (zA []) zHW
def zCh {a:LI}(h:a.length<=big):zhM a=true:=by refine zN8 a ⟨0,?_⟩;unfold zlP oN;exact zo (zPD h) ⟨_,rfl,_,_,_,rfl,(zGv<|zPD h).2⟩
def z0Y:zW:=[(48,zrT),(49,zrU),(46,zuk)]++z0X
def zPv:zL z0Y:=zh zy7 (zh zy8<|zh zCw zvb)
def zZ9 (h:ad):zbU (cold h)=zbU h:=by refine zJh (ztf h) λi=>?_;have b:∀k,zb8 (cold h) i k=zb8 h i k:=λk=>(by cases a:i0 i (ln h.aa) with|false=>simp only[zb8,zpR,a,cond_false]|true=>simp only[zb8,zpR,zGT h a,a];rfl);unfold zK;rw[zpR];cases a:i0 i (ln h.aa) with|false=>rfl|true=>rw[zGT h a,zmN 8 0 λk _ _=>b k];rfl
def zTS {d b:Type}{f:d->b}{l:List d}{x:b}{c:List b}(h:l.map f=x::c):∃a r,l=a::r/\f a=x/\r.map f=c:=by cases l with|nil=>cases h|cons a r=>simp only[jC,List.cons.injEq]at h;exact⟨a,r,rfl,h.1,h.2⟩
def z96 {a:AV}{b:CTy}(h:some a.sh=some (false,[b])):∃c,a = .one c/\c.ty=b:=by cases a with|one c=>simp only[AV.sh,qC,jR,List.cons.injEq,and_true,true_and]at h;exact⟨c,rfl,h⟩|agg l=>simp[AV.sh]at h
def sh_s {a:AV}{t:Ty}(h:some a.sh=some (false,[.s t])):∃l:List t.den,a = .one (.s t l):=by obtain⟨c,rfl,b⟩:=z96 h;obtain⟨l,rfl⟩:=zlW b;exact⟨l,rfl⟩
section
open Go Go.ChangeShapes Go.WideShapes Go.ChangeAt
abbrev zNl (_:LI):Bool:=true
abbrev zKB (l:LI):Bool:=igt (ln l) 1048576
def zP1:Run:=rF1 (dS .u8) λb=>(zNl b,[aB<|zKB b])
def zWP (N:Nat)(a:LI):OA:=
 (some [aB<|igt (ln a) 1048576])
def z1x (a:LI)(b:zNl a=true):∃N,zWP N a=some [aB<|zKB a]:=by refine⟨0,?_⟩;unfold zWP;first|rfl|(simp only [*,zKB,cT,cF]<;>rfl)|simp_all[Ty.cells,zKB]
def zVP:vT 9 zP1:=kF1 zPv zN zC zq (zA []) z1x
def z6v:zW:=[(9,zP1),(45,zha),(25,zvL),(51,zh0),(52,zh0),(50,zqf),(54,zhZ),(55,zhZ),(53,zgr),(56,zhL),(23,zhL),(57,zjh),(43,zjh)]++z0Y
def z3L:zL z6v:=zh zVP (zh zsB<|zh zEq<|zh zxp<|zh zp0<|zh ztS<|zh zpZ<|zh zxt<|zh ztR<|zh ztQ<|zh ztV<|zh zHh<|zh ztX zPv)
def nN {b:Bool}(h:b=true):(cond b false true)=false:=by rw[h];rfl
def zXj (x:Bool):(cond (ziM x x) false true)=false:=by rw[zZ8];rfl
def zn7 (N:Nat)(a:LI):OA:=
 let g:=zjm a;let f:=zjl a;let e:=zjk a;let d:=zjj a;let c:=zji a;let b:=ziA a; (oN (zNl a)<|cond (zKB a) oT<|oN (zga a)<|oN (zbh b)<|oN (zhM a)<|oN (zhN a)<|oN (zgs a)<|oN (zgt a)<|oN (zbh b)<|oN (zse (zcf b)<|zcf b)<|cond (nB<|zwB (zcf b)<|zcf b) oF<|oN (zjY c d e)<|oN (zjY c d e)<|oN (zfQ (zh3 c d e)<|zh3 c d e)<|cond (nB<|zhs (zh3 c d e)<|zh3 c d e) oF<|oN (zek f g)<|oN (zek f g)<|oN (zem (zeQ f g)<|zeQ f g)<|cond (nB<|zfP (zeQ f g)<|zeQ f g) oF<|oN (zh2 (zeo a)<|zep a)<|oN (zh2 (zeo a)<|zep a)<|cond (nB<|ziM (zjW (zeo a)<|zep a)<|zjW (zeo a)<|zep a) oF<|oN (zlz (zeq a)<|zer a)<|oN (zlz (zeq a)<|zer a)<|cond (nB<|ziM (zo3 (zeq a)<|zer a)<|zo3 (zeq a)<|zer a) oF<|oN (zh2 b<|zcf b)<|cond (zjW b<|zcf b) (oN (zbh b)<|oN (zlz (zur b) b)<|cond (zo3 (zur b) b) (some [aB<|ieq (ln<|zcf b)<|ln b.aa]) oF) oF)
def zRf (N:Nat)(a:LI):evalFn (cQ z6v z4n zN2 zZR) (zA []) N 12 5 [aS .u8 a]=zn7 N a:=by kernel_rfl
def zJy (N:Nat)(c:LI)(d:c.length<=big):Ends (λa=>a=[.one<|.b true]) (zn7 N c):=by
 unfold zn7 oN nB;conv=>zeta
 have A:=(zsJ<|zAg d).2;have B:=(zyb<|zCh d).2;have C:=(zyc<|zJx d).2;have D:=(zus<|zCg d).2;have K:=(zuu<|zxj d).2;refine zo rfl (zbt (λ_=>ztJ rfl) λ_=>zo (zAg d) ?_);generalize ziA c=h at A;have e:zcR h:=(zU _).2 A.sm;refine zo (zY e) (zo (zCh d)<|zo (zJx d)<|zo (zCg d)<|zo (zxj d) ?_);generalize zji c=u at B;generalize zjj c=n;generalize zjk c=p;generalize zjl c=v at C;generalize zjm c=q;generalize zeo c=w at D;generalize zep c=r;generalize zeq c=x at K;generalize zer c=m at K;have g:zcR u:=(zU _).2 B.sm;have i:zcR v:=(zU _).2 C.sm;have j:zcR w:=(zU _).2 D.sm;have k:zcR x:=(zU _).2 K.1.sm;have f:zcR m:=(zU _).2 K.2;have l:zcR (cold h):=(zU _).2 (zIt A.sm);refine zo (zY e) (zo rfl (zxk (nN (zY rfl))<|zo (zY g)<|zo (zY g) (zo rfl (zxk (nN (zY rfl))<|zo (zY i)<|zo (zY i) (zo rfl (zxk (nN (zY rfl)) ?_))))));refine zo (zY j) (zo (zY j)<|zxk (zXj _)<|zo (zY ⟨k,f⟩)<|zo (zY ⟨k,f⟩)<|zxk (zXj _)<|zo (zY e)<|zo (zY rfl)<|zo (zY e)<|zo (zY ⟨l,e⟩)<|zo (zY<|zZ9 h)<|ztJ ?_);show [AV.one<|.b<|ieq (ln<|zbU h)<|ln h.aa]=_;unfold ln;rw[zfx,zzd]
def zMg (d:LI)(h:∀c∈zy [aS .u8 d],CVOk c):∃N,zn7 N d=some [.one<|.b true]:=by have e:zb5 big [aS .u8 d]:=λc f=>CVB.of_ok (h c f);have g:=len0 e;exact⟨5,z7Z (G:=λa=>a=[.one<|.b true])<|zJy 5 d g⟩
def zIr:Tryz.f5.params.toList.map (zcE Tryz.prog 4)=[some (false,[.s .u8])]:=by kernel_rfl
def zB0:zWN 5 Tryz.f5.params.toList:=by refine zVx z3L zN zC zq (zjK (by kernel_rfl)) ?_;intro c hg;obtain⟨a,e⟩:=hg;rw[zIr]at a;obtain⟨h,g,rfl,d,a⟩:=zTS a;cases List.map_eq_nil_iff.1 a;obtain⟨b,rfl⟩:=sh_s d;obtain⟨N,f⟩:=zMg b e;exact⟨zA [],N,12,(zRf N b).trans f⟩
def zLM (H:Type)(a:List (DataW H))(h:a.length=Tryz.f5.params.toList.length):Rows.fnSeenAsSpec.fn H a={results:=[.lit<|.bool true],args:=a}:=by
 have b:a.length=1:=h.trans (by kernel_rfl)
 match a,b with
 |[d],_=>rfl
set_option maxRecDepth 100000 in
def zE2 (g:Os)(a:g.Started)(H:Type)(enc:TypeId×Value->H) :
 ReturnsInHanded {} Tryz.checked g 5 .any (Rows.fnSeenAsSpec.pre6 enc Tryz.prog Tryz.f5 Rows.fnSeenAsRow.domain false) (Rows.fnSeenAsSpec.post enc Tryz.prog Tryz.f5 false true false false):=by
 refine returnsInHanded_of_change_shaped (C:=Tryz.checked) own a (by kernel_rfl) Tryz.func5
  (ChangeSpec.witness6 (enc:=enc) (C:=Tryz.checked) false ⟨#[],#[.slice none 0 0],[]⟩ 8 (by kernel_rfl) (by kernel_rfl) (by kernel_rfl) (by kernel_rfl)) ?_
 intro W d c h i b e j _ f _ _;exact zKC (P:=Tryz.prog) z3f z4d rfl zLM (by kernel_rfl) (B:=4) (by kernel_rfl) (by kernel_rfl) zB0 W d c h i b e j f
end
end
end Go.Proofs.YtapgkefgcbapcaaGreat.E
