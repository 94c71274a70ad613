/- What is proved here: a part of the proof of the claim. -/
import Derived.Test.YtapgkefgcbapcaaGreatY6
namespace Go.Proofs.YtapgkefgcbapcaaGreat.E
open Go
set_option linter.defProp false
set_option linter.constructorNameAsVariable false
set_option linter.unusedVariables false
set_option maxRecDepth 100000
set_option linter.unusedSimpArgs false
set_option linter.unusedSectionVars false
noncomputable section
def z1Z {k:ax}{a b:List k0}(h:KOk k a b)(p:Int)(s:k0):KOk (zbW k p) (zeN a p s) b:=by have j:=zlH k p;have f:(zeN a p s).length=a.length:=(by unfold zeN;cases i0 p (ln a)<;>simp [zbQ]);refine⟨by rw[j.1,f,h.l1],by rw[j.2,f,h.l2],λi l=>?_⟩;have c:i0 i (ln a)=true:=(by unfold ln at l ⊢;rwa [<- f]);have d:i0 i (ln k.ay)=true:=(by unfold ln at c ⊢;rwa [h.l1]);have g:=zwS (q:=p) (by rw[h.l1,h.l2]) d;rw[g.1,g.2];by_cases e:p=i;{subst e;rw[zbw.2 rfl];rfl};{rw [zbX.2 e,cond_false,cond_false,h.at' i c];have:ix (zeN a p s) i sZ=ix a i sZ:=(by unfold zeN;cases m:i0 p (ln a) with|false=>rfl|true=>exact zbx (zG.1 m).1 (zG.1 c).1 e _ _);rw[this]}
def zbaK {t m g:Int}(a:zdI t=m)(b:zeM t=g)(c:0<=m):t=zfl m g:=by subst a;subst b;by_cases h:1<=t/\t<=6;{have e:t=1\/t=2\/t=3\/t=4\/t=5\/t=6:=(by omega);rcases e with rfl|rfl|rfl|rfl|rfl|rfl<;>decide};{exfalso;have:zdI t = -1:=(by unfold zdI ige ile;rw[show (decide (t≥1)&&decide (t<=6))=false by simp;omega];rfl);omega}
def zXi {t:List k0}{p q:Int}{s:k0}(h:q≠p):zbG (zeN t p s) q=zbG t q:=by unfold zeN;cases a:i0 p (ln t) with|false=>rfl|true=>exact zQo (zG.1 a).1 h
def z5z {t:List k0}(h:zdb t 4 8=true)(p:Int):zd3 (zbG t p) 8=true:=by unfold zbG;cases a:i0 p (ln t) with|false=>rfl|true=>exact(zrY.1 h).1 _ (zmx a _)
def z1Q {x:ah}(X:GOk x)(p:Int):GOk (zeh x p):=⟨X.prog,X.a,X.pc,X.w,zVp X.l<|z5z X.w p,X.ctl,X.pend,X.ex,X.seen⟩
def z4H {h:ad}(S:Safe h)(m g p:Int):SimT h (zlI h m g p) m (λb=>chg b g (i0 p 4) (zeh (gAt b g) p))/\zg9 h m (zci (zM h m) g<|i0 p 4)=zci (zM h m) g (i0 p 4):=by
 refine⟨?_,zlW S m (t:=λb=>zci b g (i0 p 4))<|zj8 g _⟩;unfold zlI zc2;rw[zk3.2 S.ok,cond_true];cases a:i0 m (ln h.aa) with
 |false=>refine(SimT.refl S m).congr ?_;rw[seen_none a,zqs];rfl
 |true=>
  rw[cond_true];cases w:zci (zM h m) g (i0 p 4) with
  |false=>refine(SimT.refl S m).congr ?_;show zM h m=chg (zM h m) g (i0 p 4) (zeh (gAt (zM h m) g) p);have c:=w;unfold zci at c;unfold chg;rw[c];rfl
  |true=>rw[cond_true];have c:=w;unfold zci zcg at c;rw[zyC S.ok a,cond_true,zca,zfK a]at c;have hg:i0 g (ln (ix h.aa m mZ).ac)=true:=c.1;have X:=S.ok.mon a;have G:=S.ok.seenG a hg;have C:chg (zM h m) g (i0 p 4) (zeh (gAt (zM h m) g) p)=zeZ (zM h m) g (zeh (gOf h m g) p):=(by have l:=w;unfold zci at l;unfold chg;rw[l,zt8 a hg];rfl);rw[C];have B:i0 g (ln (ix h.aa m mZ).ai)=true:=(by unfold ln;rw[X.gt];exact hg);have s:(zCE (zdi h m<|zeZ (zM h m) g<|zeh (gOf h m g) p) m g p).aa=up h.aa m {ix h.aa m mZ with ac:=up (ix h.aa m mZ).ac g (zeh (gOf h m g) p),ai:=up (ix h.aa m mZ).ai g (zbW (ix (ix h.aa m mZ).ai g kZ) p)}:=(by show up (up h.aa m _) m _=_;rw[z3v];have D:ix (zdi h m<|zeZ (zM h m) g<|zeh (gOf h m g) p).aa m mZ=zvl (ix h.aa m mZ) (zeZ (zM h m) g<|zeh (gOf h m g) p):=zbg a _ _;rw[D];unfold zvl zeZ;rw[zfK a]);have kp:KeepP (ix h.aa m mZ) {ix h.aa m mZ with ac:=up (ix h.aa m mZ).ac g (zeh (gOf h m g) p),ai:=up (ix h.aa m mZ).ai g (zbW (ix (ix h.aa m mZ).ai g kZ) p)}:=⟨rfl,rfl⟩;have K:MOk {ix h.aa m mZ with ac:=up (ix h.aa m mZ).ac g (zeh (gOf h m g) p),ai:=up (ix h.aa m mZ).ai g (zbW (ix (ix h.aa m mZ).ai g kZ) p)}:=zlL X kp (zbQ _ _ _) (zbQ _ _ _) rfl X.outs X.pend X.tr X.own λz L=>(by rcases qY L with h|h;{exact X.gs z h};{rw [h];exact ztE.2 (z1Q G p)});have E:HOk (zCE (zdi h m<|zeZ (zM h m) g<|zeh (gOf h m g) p) m g p):=S.ok.up a K s S.ok.m12 S.ok.pgs (zy3 S.ok.b1 _) (zy3 S.ok.b2 _) λq _=>.inl (qQ _);have u:∀b:List au,(∀e∈b,zdc h e=true)->∀e∈zcP b (zfl m g) p,zdc (zCE (zdi h m<|zeZ (zM h m) g<|zeh (gOf h m g) p) m g p) e=true:=(by intro b F e H;obtain⟨x,y⟩:=zzf.1 H;obtain⟨l,n,r⟩:=zgb.1 (F e x);rw[zgb,s,zd1];refine⟨l,?_⟩;by_cases d:m=zdI e.Tag;{rw [<- d]at l n r ⊢;rw[zbg a];show i0 (zeM e.Tag) (ln<|up _ _ _)=true/\below' _ (zbC (zbG (ix (up (ix h.aa m mZ).ac g _) (zeM e.Tag) gZ).av e.af) (ix h.aa m mZ).ae)=true;rw[zd1];refine⟨n,?_⟩;by_cases f:g=zeM e.Tag;{rw [<- f]at n r ⊢;rw[zbg hg];have A:e.af≠p:=λJ=>y ⟨zbaK d.symm f.symm (zG.1 a).1,J⟩;show below' _ (zbC (zbG (zeN (gOf h m g).av p _) e.af) _)=true;rw[zXi A];exact r};{rw [zbx (zG.1 hg).1 (zG.1 n).1 f];exact r}};{rw [zbx (zG.1 a).1 (zG.1 l).1 d];exact⟨n,r⟩});refine⟨⟨E,⟨λi v=>?_,u _ S.rt.e1,u _ S.rt.e2⟩⟩,λi=>?_,by rw[s,zbQ]⟩;{rw [s]at v ⊢;rw[zd1]at v;by_cases d:m=i;{subst d;rw[zbg a];intro j I;show KOk (ix (up (ix h.aa m mZ).ai g _) j kZ) (ix (up (ix h.aa m mZ).ac g _) j gZ).av (ix h.aa m mZ).ae;have k:i0 j (ln (ix h.aa m mZ).ac)=true:=(by have:i0 j (ln<|up (ix h.aa m mZ).ac g<|zeh (gOf h m g) p)=true:=I;rwa [zd1] at this);by_cases e:g=j;{subst e;rw[zbg B,zbg hg];exact z1Z (S.rt.t m a g hg) p _};{rw [zbx (zG.1 hg).1 (zG.1 k).1 e,zbx (zG.1 hg).1 (zG.1 k).1 e];exact S.rt.t m a j k}};{rw [zbx (zG.1 a).1 (zG.1 v).1 d];exact S.rt.t i v}};{refine(zuX (h:=h) a s rfl kp i).trans ?_;by_cases e:i=m;{subst e;rw[zbw.2 rfl,cond_true,cond_true,C,zfK a];rfl};{rw [zbX.2 e];rfl}}
def zQy (g:Int):zi4 ⟨[],[],[],0⟩ g=⟨[],[],[],0⟩/\zmn ⟨[],[],[],0⟩ g=false:=by have:zmn ⟨[],[],[],0⟩ g=false:=(by unfold zmn;rw[zXR];rfl);refine⟨?_,this⟩;unfold zi4;rw[this];rfl
def z4N {h:ad}(S:Safe h)(a:GAct):SimT h (zum h a) a.M (λb=>zJF b a)/\zCX h a=zJG (zM h a.M) a:=by
 have f:=ztG;unfold zum zCX zJF zJG;cases ieq a.Kind 1 with
 |true=>obtain⟨k,e⟩:=step_ok S a.M a.G;exact⟨k,by rw[cond_true,cond_true,e]⟩
 |false=>
  simp only[cond_false];cases ieq a.Kind 2 with
  |true=>
   exact⟨zqM S a.M (F:=λb=>chg b a.G (zxc a.X ⟨a.Y,a.Z⟩) (zDF (gAt b a.G) a.X ⟨a.Y,a.Z⟩)) (λb c=>zr0 c λ_ d G=>z8M G d)<|zqs _ _ _,
    congrArg (λt=>aE.mk t 0) (zlW S a.M (t:=λb=>zci b a.G (zxc a.X ⟨a.Y,a.Z⟩))<|zj8 _ _)⟩
  |false=>
   simp only[cond_false];cases ieq a.Kind 3 with
   |true=>obtain⟨k,e⟩:=z4H S a.M a.G a.X;exact⟨k,congrArg (λt=>aE.mk t 0) e⟩
   |false=>
    simp only[cond_false];cases ieq a.Kind 4 with
    |true=>
     exact⟨zqM S a.M (F:=λb=>chg b a.G (zwO (gAt b a.G) a.X) (zyY (gAt b a.G) a.X)) (λb c=>zr0 c λ_ d G=>z8J G d)<|zqs _ _ _,
      congrArg (λt=>aE.mk t 0) (zlW S a.M (t:=λb=>zci b a.G (zwO (gAt b a.G) a.X))<|zj8 _ _)⟩
    |false=>
     simp only[cond_false];cases ieq a.Kind 5 with
     |true=>
      exact⟨zqM S a.M (F:=λb=>chg b a.G (zDj<|gAt b a.G) (zzK<|gAt b a.G)) (λb c=>zr0 c λ_ _ G=>z8L G)<|zqs _ _ _,
       congrArg (λt=>aE.mk t 0) (zlW S a.M (t:=λb=>zci b a.G (zDj<|gAt b a.G))<|zj8 _ _)⟩
     |false=>
      simp only[cond_false];cases ieq a.Kind 6 with
      |true=>
       exact⟨zqM S a.M (F:=λb=>chg b a.G (zib (gAt b a.G).ak a.X) (zo4 (gAt b a.G) a.X)) (λb c=>zr0 c λ_ _ G=>zXL G _)<|zqs _ _ _,
        congrArg (λt=>aE.mk t 0) (zlW S a.M (t:=λb=>zci b a.G (zib (gAt b a.G).ak a.X))<|zj8 _ _)⟩
      |false=>
       simp only[cond_false];cases ieq a.Kind 7 with
       |true=>
        exact⟨zqM S a.M (F:=λb=>chg b a.G (zmp ⟨a.X,a.Y,ieq a.Z 1⟩) (zMP (gAt b a.G) ⟨a.X,a.Y,ieq a.Z 1⟩)) (λb c=>zr0 c λ_ d G=>z8K G d)<|zqs _ _ _,
         congrArg (λt=>aE.mk t 0) (zlW S a.M (t:=λb=>zci b a.G (zmp ⟨a.X,a.Y,ieq a.Z 1⟩))<|zj8 _ _)⟩
       |false=>
        simp only[cond_false];cases ieq a.Kind 8 with
        |true=>obtain⟨k,e⟩:=z5o S a.M a.X a.Y a.Z;exact⟨k,congrArg (λt=>aE.mk t 0) e⟩
        |false=>
         simp only[cond_false];cases ieq a.Kind 9 with
         |true=>
          exact⟨zqM S a.M (F:=λb=>zlo b a.X) (λb c=>zYC c _) (by unfold zlo zf8;rw[f];rfl),
           congrArg (λt=>aE.mk t 0) (zlW S a.M (t:=λb=>zf8 b a.X) (by unfold zf8;rw[f];rfl))⟩
         |false=>
          simp only[cond_false];cases ieq a.Kind 10 with
          |true=>refine⟨zqM S a.M (F:=znY) (λb c=>z0M c) (by unfold znY;rw[f];rfl),?_⟩;have e:=zlW S a.M (t:=znC) (by unfold znC;rw[f];rfl);show aE.mk (zg9 h a.M<|znC<|zM h a.M) (cond (zc2 h a.M) (ztU<|zM h a.M)<|-1)=⟨znC<|zM h a.M,ztU<|zM h a.M⟩;rw[e];congr 1;unfold zc2;rw[zk3.2 S.ok,cond_true];cases j:i0 a.M (ln h.aa) with|true=>rfl|false=>rw[seen_none j];unfold ztU;rw[f];rfl
          |false=>
           simp only[cond_false];cases ieq a.Kind 11 with
           |true=>obtain⟨k,e⟩:=zbak S a.M a.G a.X a.Y;exact⟨k,congrArg (λt=>aE.mk t 0) e⟩
           |false=>obtain⟨k,g,i⟩:=z9o S a.M a.G a.X;exact⟨k,by simp only[cond_false];rw[g,i]⟩
def z5g {h:ad}(S:Safe h)(a:GAct):Safe (znh h a)/\(∀i,zM (znh h a) i=zM h i)/\(znh h a).aa.length=h.aa.length:=by
 unfold znh;have k:∀r,Op h r->Safe r/\(∀i,zM r i=zM h i)/\r.aa.length=h.aa.length:=λr k=>⟨k.safe S,λi=>k.like.seen i,k.like.len⟩;cases ieq a.Kind 13 with
 |true=>exact k _ (zZK S.ok _ _)
 |false=>
  simp only[cond_false];cases ieq a.Kind 14 with
  |true=>exact k _ (z2v S.ok _ _)
  |false=>
   simp only[cond_false];cases ieq a.Kind 15 with
   |true=>exact k _ (z2u S.ok _ _)
   |false=>
    simp only[cond_false];cases ieq a.Kind 16 with
    |true=>obtain⟨b,c⟩:=zRO S a.M a.X;refine⟨b,c,?_⟩;simp only[cond_true];unfold zkx;cases zcc h<;>cases i0 a.M (ln h.aa)<;>cases zk a.X 0 3<;>first|rfl|exact zbQ _ _ _
    |false=>exact k _ (z9j S.ok)
def zlk (a:GAct):Bool:=bif zk a.Kind 1 17 then !zk a.Kind 13 17 else false
def z0F {h:ad}(S:Safe h)(a:GAct):Safe (ze6 h a)/\(ze6 h a).aa.length=h.aa.length/\
 (∀i,zM (ze6 h a) i=bif (cond (zlk a) (ieq i a.M) false) then zJF (zM h i) a else zM h i)/\(zlk a=true->zke h a=zJG (zM h a.M) a):=by
 unfold ze6 zke zlk;cases zk a.Kind 1 17 with
 |false=>exact⟨S,rfl,λ_=>rfl,λe=>by cases e⟩
 |true=>
  simp only[cond_true];cases zk a.Kind 13 17 with
  |true=>obtain⟨b,c,d⟩:=z5g S a;exact⟨b,d,λi=>by simp only[cond_true,vF,cond_false];exact c i,λe=>by cases e⟩
  |false=>obtain⟨k,e⟩:=z4N S a;exact⟨k.safe,k.len,λi=>by simp only[cond_false,Bool.not_false,cond_true];exact k.seen i,λ_=>e⟩
def zdM (h:ad):List am:=(List.range h.aa.length).map λ(i:Nat)=>zM h (i:Int)
def zk0 (h:ad):(zdM h).length=h.aa.length:=by simp[zdM]
def zm4 (h:ad)(m:Int):i0 m (ln<|zdM h)=i0 m (ln h.aa):=by unfold ln;rw[zk0]
def zmm {h:ad}{m:Int}(c:i0 m (ln h.aa)=true)(d:am):ix (zdM h) m d=zM h m:=by have a:=zG.1 c;unfold ln at a;have b:m.toNat<(zdM h).length:=(by rw[zk0];omega);have:=zm7 b d;rw[show ((m.toNat:Nat):Int)=m by omega] at this;rw[this];simp[zdM,show max m 0=m by omega]
def zYy {h r:ad}(a:r.aa.length=h.aa.length)(e:∀i,zM r i=zM h i):zdM r=zdM h:=by unfold zdM;rw[a];exact List.map_congr_left λi _=>e _
def zV7 {h:ad}(S:Safe h)(a:GAct):zdM (ze6 h a)=zJH (zdM h) a/\(zlk a=true->zke h a=zYB (zdM h) a):=by obtain⟨_,k,l,t⟩:=z0F S a;have p:zlk a=true->zdM (ze6 h a)=(cond (i0 a.M<|ln h.aa) (up (zdM h) a.M<|zJF (zM h a.M) a)<|zdM h):=(by intro b;rw[b]at l;cases f:i0 a.M (ln h.aa) with|false=>rw[cond_false];refine zOm ⟨[],[],[],0⟩ (by rw[zk0,zk0,k]) λi c=>?_;rw[zm4]at c;rw[zmm c];have d:i0 i (ln h.aa)=true:=(by unfold ln at c ⊢;rwa [<- k]);rw[zmm d,l i];have:ieq i a.M=false:=zbX.2 λe=>(by rw[e,f]at d;cases d);rw[this];rfl|true=>rw[cond_true];refine zOm ⟨[],[],[],0⟩ (by rw[zbQ,zk0,zk0,k]) λi c=>?_;rw[zm4]at c;rw[zmm c,l i];have d:i0 i (ln h.aa)=true:=(by unfold ln at c ⊢;rwa [<- k]);by_cases e:i=a.M;{rw [e,zbw.2 rfl,zbg (by rw[zm4];exact f)];rfl};{rw [zbX.2 e,zbx (zG.1 f).1 (zG.1 d).1<|Ne.symm e,zmm d];rfl});have s:zlk a=false->zdM (ze6 h a)=zdM h:=λb=>zYy k λi=>(by rw[l i,b];rfl);have r:zlk a=true->zk a.Kind 1 17=true/\zk a.Kind 13 17=false:=(by intro b;unfold zlk at b;cases g:zk a.Kind 1 17<;>cases j:zk a.Kind 13 17<;>rw [g,j]at b<;>first|exact⟨rfl,rfl⟩|cases b);constructor;{unfold zJH;cases b:zlk a with|true=>obtain⟨g,j⟩:=r b;rw[g,j,cond_true,cond_false,zm4,p b];(cases f:i0 a.M (ln h.aa) with|true=>rw[cond_true,cond_true,zmm f]|false=>rfl)|false=>rw[s b];unfold zlk at b;(cases g:zk a.Kind 1 17 with|false=>rfl|true=>(cases j:zk a.Kind 13 17 with|true=>rfl|false=>rw[g,j]at b;cases b))};{intro b;rw[t b];obtain⟨g,j⟩:=r b;unfold zYB;rw[g,j,cond_true,cond_false,zm4];cases f:i0 a.M (ln h.aa) with|true=>rw[cond_true,zmm f]|false=>rw[cond_false,seen_none f];have n:=(zQy a.G).2;have q:=ztG;unfold zJG;simp only[n,zj8];unfold zx3 zf8 znC ztU zzd zSi zoV;simp only[q,ztV q,cond_false];(cases m:ieq a.Kind 10 with|true=>have:a.Kind=10:=zbw.1 m;rw[this];rfl|false=>cases ieq a.Kind 1<;>cases ieq a.Kind 2<;>cases ieq a.Kind 3<;>cases ieq a.Kind 4<;>cases ieq a.Kind 5<;>cases ieq a.Kind 6<;>cases ieq a.Kind 7<;>cases ieq a.Kind 8<;>cases ieq a.Kind 9<;>cases ieq a.Kind 11<;>rfl)}
def zKW:List GAct->List aE->List aE
 |a::l,t::ts=>bif zlk a then t::zKW l ts else zKW l ts
 |_,_=>[]
structure av (u:ad×List aE) (v:List am×List aE):Prop where
 safe:Safe u.1
 seen:zdM u.1=v.1
def zDQ:List GAct->ad->List aE
 |[],_=>[]
 |a::l,h=>zke h a::zDQ l (ze6 h a)
def z3t:List GAct->List am->List aE
 |[],_=>[]
 |a::l,b=>zYB b a::z3t l (zJH b a)
def zvw:List GAct->ad->ad
 |[],h=>h
 |a::l,h=>zvw l (ze6 h a)
def z4D:List GAct->List am->List am
 |[],b=>b
 |a::l,b=>z4D l (zJH b a)
def zX5:∀(l:List GAct) (u:ad×List aE),zDl l u=(zvw l u.1,u.2++zDQ l u.1)
 |[],u=>by simp[zDl,zvw,zDQ]
 |a::l,u=>by rw[zDl,zX5 l];simp[zvw,zDQ,ap]
def z1F:∀(l:List GAct) {h:ad},Safe h->Safe (zvw l h)/\zdM (zvw l h)=z4D l (zdM h)/\zKW l (zDQ l h)=zKW l (z3t l<|zdM h)/\(zvw l h).aa.length=h.aa.length
 |[],h,S=>⟨S,rfl,rfl,rfl⟩
 |a::l,h,S=>by have d:=z0F S a;have b:=zV7 S a;obtain⟨e,f,c,g⟩:=z1F l d.1;refine⟨e,by show zdM (zvw l<|ze6 h a)=z4D l (zJH (zdM h) a);rw[f,b.1],?_,g.trans d.2.1⟩;show (cond (zlk a) _ _)=(cond (zlk a) _ _);cases i:zlk a with|false=>rw[cond_false,cond_false,c,b.1]|true=>rw[cond_true,cond_true,c,b.1,b.2 i]
def cz8 (q:Int)(b:0<=q):zuZ.countP (λs=>ieq s.af q)=0:=by rw[vA];intro s a;have:=(k7.1 a).2;rw[this];show ¬ ieq (-1) q=true;rw[zbw];omega
def zWp {p:List Ins}(h:zdg p=true):GOk (zdO p):=⟨h,rfl,rfl,rfl,rfl,rfl,rfl,rfl,rfl⟩
def z2m {a:List (List Ins)}(i:1<=a.length)(h:∀p∈a,zdg p=true):MOk (zfV a):=by have d:∀s∈zuZ,s=A0:=λs c=>(k7.1 c).2;refine⟨?_,?_,?_,rfl,λs c=>.inl (d s c),rfl,rfl,j7 _,rfl,rfl,rfl,λg hg=>?_,λp b=>?_⟩;{show 1<=((a.take 2).map zdO).length;simp;omega};{show ((a.take 2).map zdO).length<=2;simp;omega};{show ((a.take 2).map λ_=>zhX).length=((a.take 2).map zdO).length;simp};{obtain⟨p,b,rfl⟩:=jD.1 hg;exact ztE.2 (zWp<|h p<|jU b)};{have f:=zG.1 b;have e:p=0\/p=1\/p=2\/p=3\/p=4\/p=5\/p=6\/p=7:=(by omega);rcases e with rfl|rfl|rfl|rfl|rfl|rfl|rfl|rfl<;>rfl}
def z7W (a:List (List<|List Ins)):Prop:=1<=a.length/\∀p∈a,1<=p.length/\∀x∈p,zdg x=true
def zZi {a:List (List<|List Ins)}(h:z7W a):Safe (zcS a):=by have b:∀x∈(zcS a).aa,∃p∈a,x=zfV p:=λx f=>(by obtain⟨p,j,rfl⟩:=jD.1 f;exact⟨p,jU j,rfl⟩);have u:∀x∈(zcS a).aa,x.ae=zuZ:=λx f=>(by obtain⟨p,_,rfl⟩:=b x f;rfl);have H:HOk (zcS a):=(by refine⟨rfl,λc v=>?_,?_,?_,rfl,rfl,λx f=>?_,λq B=>?_⟩;{have:c=[0,0,0,0]:=(k7.1 v).2;rw[this];rfl};{show 1<=((a.take 3).map zfV).length;have:=h.1;simp;omega};{show ((a.take 3).map zfV).length<=3;simp;omega};{obtain⟨p,j,rfl⟩:=b x f;exact z2m (h.2 p j).1 (h.2 p j).2};{have:zfA (zcS a).aa q=0:=(by unfold zfA;have:(zcS a).aa.map (λx=>cPg x q)=(zcS a).aa.map (λ_=>0):=List.map_congr_left λx f=>(by unfold cPg;rw[u x f];exact cz8 q B);rw[this];generalize (zcS a).aa=l;induction l with|nil=>rfl|cons x l D=>rw[jF,uM,D]);omega});refine⟨H,λm A g hg=>?_,λe r=>(by cases r),λe r=>(by cases r)⟩;obtain⟨p,j,e⟩:=b _ (zmx A mZ);rw[e]at hg ⊢;have d:i0 g (ln<|(p.take 2).map zdO)=true:=hg;have C:ix (zfV p).ai g kZ=zhX:=(by have:i0 g (ln<|(p.take 2).map λ_=>zhX)=true:=(by unfold ln at d ⊢;simpa using d);obtain⟨k,y,_,n⟩:=zzu this kZ;show ix ((p.take 2).map λ_=>zhX) g kZ=_;rw[n];simp);have z:(ix (zfV p).ac g gZ).av=zjV:=(by obtain⟨k,y,_,n⟩:=zzu d gZ;show (ix ((p.take 2).map zdO) g gZ).av=_;rw[n];simp[zdO]);rw[C,z];show KOk zhX zjV zuZ;refine⟨rfl,rfl,λi w=>?_⟩;have s:=zG.1 w;have:ln zjV=4:=rfl;rw[this]at s;have t:i=0\/i=1\/i=2\/i=3:=(by omega);rcases t with rfl|rfl|rfl|rfl<;>rfl
def zYf:∀(l:List GAct) (u:ad×List aE),SmH u.1->SmH (zDl l u).1
 |[],u,h=>h
 |a::l,u,h=>zYf l (ze6 u.1 a,ap u.2 [zke u.1 a]) (zYd h)
def zUe {h:ad}(L:zYw h):Safe h/\SmH h:=by obtain⟨c,l,a,b,rfl⟩:=L;refine⟨?_,zYf _ _<|zYe a⟩;unfold zzr;rw[zX5];exact(z1F _<|zZi b).1
def z0V:zW:=z0T
def zvr:zL z0V:=z0U
structure MonS (x:Mon):Prop where
 sm:ze4 x
 g1:1<=x.ac.length
 g2:x.ac.length<=2
 t2:x.ai.length<=2
 o8:x.ae.length<=8
 pg:∀s∈x.ae,I64 s.af
 tk:∀k∈x.ai,k.ay.length<=k.aA.length
structure AnyH (h:ad):Prop where
 mem:SmM h.ag
 n1:1<=h.aa.length
 n3:h.aa.length<=3
 mons:∀x∈h.aa,MonS x
 b1:h.ao.length<=1048576
 b2:h.an.length<=1048576
def AnyH.sm {h:ad}(k:AnyH h):SmH h:=⟨k.mem,⟨qU k.n3 (by decide),λx a=>(k.mons x a).sm⟩,k.b1,k.b2⟩
def zU9 {h:ad}(S:Safe h)(sm:SmH h):AnyH h :=
 ⟨sm.1,S.ok.n1,S.ok.n3,λx a=>by
  have k:=S.ok.mons x a;refine⟨sm.2.1.2 x a,k.g1,k.g2,by rw[k.gt];exact k.g2,by rw[k.o8];exact qQ 8,λs b=>?_,λy c=>?_⟩
  .rcases k.sl s b with rfl|⟨h1,h2,_⟩
   .exact⟨by decide,by decide⟩
   .exact⟨by omega,by omega⟩
  .obtain⟨m,hm,rfl⟩:=zDc a mZ;obtain⟨g,hg,rfl⟩:=zDc c kZ;have:=S.rt.t m hm g (by have e:(ix h.aa m mZ).ai.length=(ix h.aa m mZ).ac.length:=k.gt;unfold ln at hg ⊢;rw[<- e];exact hg)
   rw[this.l1,this.l2];exact qQ _,sm.2.2.1,sm.2.2.2⟩
def zxx {h:ad}(k:AnyH h)(i:Int){x:Mon}(b:MonS x):AnyH {h with aa:=up h.aa i x} :=
 ⟨k.mem,by rw[ziG];exact k.n1,by rw[ziG];exact k.n3,λy a=>by
  rcases qY a with a|rfl
  .exact k.mons y a
  .exact b,k.b1,k.b2⟩
def zbaH {g:ah}(h:GuS g):SmG g:=⟨qU h.1 (by decide),qU h.2.1 (by decide),qU h.2.2.1 (by decide),qU h.2.2.2 (by decide)⟩
def z5E {l:List ah}(h:zlz l)(i:Int){g:ah}(hg:SmG g):zlz (up l i g):=
 ⟨by rw[ziG];exact h.1,λy a=>by
  rcases qY a with a|rfl
  .exact h.2 y a
  .exact hg⟩
def z9C {l:List LI}(h:SmM l)(i:Int){g:LI}(hg:g.length<=1048576):SmM (up l i g):=
 ⟨by rw[ziG];exact h.1,λy a=>by
  rcases qY a with a|rfl
  .exact h.2 y a
  .exact hg⟩
def zyT (N:Nat)(c:Cur)  : OA :=
 let j:=zi0 c;let r:=({ (zjl c) with b:=c.b}:Cur);let f:=j.aa;let k:=zn r<|ln f;let m:=inb k<|ln f;let g:=ix f k zi;let q:=({ (zf r<|ln f) with b:=c.b}:Cur);let e:=zf q 24;let l:=zn q 24;let a:=({e with b:=c.b}:Cur);let n:=zZ a [-1,1000000000,1000000001];let p:=({ (zf a 8) with b:=c.b}:Cur); (oN (zjk c)<|oN (zA r<|ln f)<|oN (zA q 24)<|cond (ieq l 0) (oN (zf1 a 8 12)<|oN m<|p0 (up f k ({g with ae:=(zfk a 8 12)}:Mon)) λd=>some [.agg [.s .u8 c.b,.i .i64 (zhe a 8 12).i,.i .i64 (zhe a 8 12).h],aH ({j with aa:=d}:ad)])<|cond (ieq l 1) (oN m<|oN (zA a 8)<|oN (zl6 p)<|oN (inb (zn a 8)<|ln g.Out)<|p0 (up f k ({g with Out:=(up g.Out (zn a 8)<|ztx p)}:Mon)) λd=>some [.agg [.s .u8 c.b,.i .i64 (zl7 p).i,.i .i64 (zl7 p).h],aH ({j with aa:=d}:ad)])<|cond (ieq l 2) (oN m<|oN (zp3 a)<|oN (inb 0<|ln g.ac)<|p0 (up f k ({g with ac:=(up g.ac 0<|zzW a)}:Mon)) λd=>some [.agg [.s .u8 c.b,.i .i64 (zp4 a).i,.i .i64 (zp4 a).h],aH ({j with aa:=d}:ad)])<|cond (ieq l 3) (oN m<|p0 (up f k ({g with ai:=[]}:Mon)) λd=>some [.agg [.s .u8 c.b,.i .i64 e.i,.i .i64 e.h],aH ({j with aa:=d}:ad)])<|cond (ieq l 4) (oN (zkT a)<|some [.agg [.s .u8 c.b,.i .i64 (zkU a).i,.i .i64 (zkU a).h],aH ({j with ao:=(zrN a)}:ad)])<|cond (ieq l 5) (oN (zl9 a)<|oN m<|p0 (up f k ({g with aq:=(zty a)}:Mon)) λd=>some [.agg [.s .u8 c.b,.i .i64 (zma a).i,.i .i64 (zma a).h],aH ({j with aa:=d}:ad)])<|cond (ieq l 6) (oN (zbt a [-1,1000000000,1000000001])<|oN m<|p0 (up f k ({g with Own:=(zbn a [-1,1000000000,1000000001])}:Mon)) λd=>some [.agg [.s .u8 c.b,.i .i64 n.i,.i .i64 n.h],aH ({j with aa:=d}:ad)])<|cond (ieq l 7) (oN (zpU a)<|some [.agg [.s .u8 c.b,.i .i64 (ziW a).i,.i .i64 (ziW a).h],aH ({j with ag:=(zq1 a)}:ad)])<|some [.agg [.s .u8 c.b,.i .i64 e.i,.i .i64 e.h],aH j])
def zrU (c:Cur)(s:Cur)(a:ad):Prop:=(∃N,zyT N c=some (AV.agg (zbV s)::[aH a]))/\(s.b=c.b/\0<=s.i)/\(AnyH a)
def zev (c:Cur)  : Bool:=wC (zrU c)
def zhD (c:Cur)  : Cur:=wS (zrU c)
def zcr (c:Cur)  : ad:=wV (zrU c)
def zp7 {c:Cur}(h:zev c=true):zrU c (zhD c) (zcr c):=wG h
def zzY (c:Cur)  : 0<=(zhD c).i:=wP λh=>h.2.1.2
def z0c (c:Cur)(h:∃N,Ends (wE (λa=>aH a) c.b λa=>AnyH a)<|zyT N c):zev c=true:=wI (λ_ _ h=>h) h
def zAO:zdX:=rP0 λc=>(zev c,zhD c,[aH<|zcr c])
def zNF:zbR Tryz.prog 105 [false,true,true] zAO:=hP0 zvr zQ zUG zq (zx []) (λ_ h=>(zp7 h).1)
def zo0 {c:Cur}(h:zbf c):zev c=true:=by
 refine z0c c ⟨0,?_⟩;unfold zyT oN;conv=>zeta
 obtain⟨S,sm⟩:=zUe (zxb<|zKV h).2.2;have A:=zU9 S sm;have q:∀{s:Cur},0<=s.i->zbf {s with b:=c.b}:=λy=>zbM h y;have w:zbf {zjl c with b:=c.b}:=q (zW8 _);have l:0<ln (zi0 c).aa:=by have:=A.n1;unfold ln;omega
 have a:=zvm w l (kS _);have u:=zbE a zi;generalize B:zi0 c=H at *;generalize zn {zjl c with b:=c.b} (ln H.aa)=m at *;have M:=A.mons _ u;have x:=S.ok.mons _ u;generalize C:ix H.aa m zi=X at *;obtain⟨p,e,f,j,k,t⟩:=M.sm;have d:∀{n},zbf {zf {zf {zjl c with b:=c.b} n with b:=c.b} 24 with b:=c.b}:=λ{n}=>q (zF _ _);refine zu (zKV h) (zu (zbA w _) (zu (zbA (q<|zF _ _) 24)
  (zbz (λ_=>zu (zoO d (by omega) (by omega) _) (zu a<|zjx<|zbJ aH (v:={H with aa:=up H.aa m {X with ae:=zfk _ _ _}}) (zpP _ _ _)<|zxx A m ?_))
  (λ_=>zbz (λ_=>zu a (zu (zbA d 8)<|zu (zXy<|q<|zF _ _)<|zu (zvm d (by omega) ?_)<|zjx<|zbJ aH (v:={H with aa:=up H.aa m {X with Out:=up X.Out _ (ztx _)}}) (zUX _)<|zxx A m ?_))
  (λ_=>zbz (λ_=>zu a (zu (zJE d)<|zu ?_<|zjx<|zbJ aH (v:={H with aa:=up H.aa m {X with ac:=up X.ac 0 (zzW _)}}) (z0a _)<|zxx A m ?_))
  (λ_=>zbz (λ_=>zu a (zjx<|zbJ aH (v:={H with aa:=up H.aa m {X with ai:=[]}}) (zF _ _)<|zxx A m ?_))
  (λ_=>zbz (λ_=>zu (zSG d) (zbJ aH (v:={H with ao:=zrN _}) (zRK _) ⟨A.mem,A.n1,A.n3,A.mons,qU (zBm<|zSG d).2.2 (by decide),A.b2⟩))
  (λ_=>zbz (λ_=>zu (z9J d) (zu a<|zjx<|zbJ aH (v:={H with aa:=up H.aa m {X with aq:=zty _}}) (zU2 _)<|zxx A m ?_))
  (λ_=>zbz (λ_=>zu (zfy d (by simp)) (zu a<|zjx<|zbJ aH (v:={H with aa:=up H.aa m {X with Own:=zbn _ _}}) (zb0 _ _)<|zxx A m ?_))
  (λ_=>zbz (λ_=>zu (zTy d) (zbJ aH (v:={H with ag:=zq1 _}) (zZX _) ⟨?_,A.n1,A.n3,A.mons,A.b1,A.b2⟩))
  (λ_=>zbJ aH (v:=H) (zF _ _) A)))))))))))
 {have g:=(zpO<|zoO (d (n:=ln H.aa)) (n:=8) (by omega) (by omega) 12).2.2 (by omega) (by omega);refine⟨⟨?_,e,f,j,k,t⟩,M.g1,M.g2,M.t2,?_,g.2 (by omega) (by omega),M.tk⟩;{have:=g.1;unfold ln at this;exact qU (m:=8) (by exact Int.ofNat_le.1 this) (by decide)};{have:=g.1;unfold ln at this;exact Int.ofNat_le.1 this}};{unfold ln;rw[x.u8];decide};{exact⟨⟨p,z9C e _<|qU (zDC<|zXy<|q<|zF _ _).2.2 (by decide),f,j,k,t⟩,M.g1,M.g2,M.t2,M.o8,M.pg,M.tk⟩};{exact qK (by have:=M.g1;unfold ln;omega)};{exact⟨⟨p,e,f,z5E j 0<|zbaH (zL2<|zJE d).2.2,k,t⟩,by rw[ziG];exact M.g1,by rw[ziG];exact M.g2,M.t2,M.o8,M.pg,M.tk⟩};{exact⟨⟨p,e,f,j,k,⟨by simp,by simp⟩⟩,M.g1,M.g2,by simp,M.o8,M.pg,by simp⟩};{exact⟨⟨p,e,f,j,k,t⟩,M.g1,M.g2,M.t2,M.o8,M.pg,M.tk⟩};{exact⟨⟨p,e,f,j,k,t⟩,M.g1,M.g2,M.t2,M.o8,M.pg,M.tk⟩};{have g:=(zL0<|zTy<|d (n:=ln H.aa)).2.2;exact⟨qU g.1 (by decide),λr z=>qU (g.2 r z) (by decide)⟩}
def z7K:zcY:=[(105,[false,true,true],zAO)]++z7J
def z5m:zb2 z7K:=zcq zUG (by
 intro x a;simp only[qG,qP,or_false]at a;rcases a with rfl
 .exact zNF)
def zCc (N:Nat)(c:Cur)  : OA :=
 let a:=zZ c [0,0,0,1,1,2,-1,9223372036854775807]; (oN (zbt c [0,0,0,1,1,2,-1,9223372036854775807])<|some [.agg [.s .u8 c.b,.i .i64 a.i,.i .i64 a.h],aI<|zbn c [0,0,0,1,1,2,-1,9223372036854775807]])
def ztz (c:Cur)(s:Cur)(a:Int):Prop:=(∃N,zCc N c=some (AV.agg (zbV s)::[aI a]))/\(s.b=c.b/\0<=s.i)/\(True)
def ziZ (c:Cur)  : Bool:=wC (ztz c)
def zmc (c:Cur)  : Cur:=wS (ztz c)
def zq4 (c:Cur)  : Int:=wV (ztz c)
def z2R {c:Cur}(h:ziZ c=true):ztz c (zmc c) (zq4 c):=wG h
def z2T (c:Cur)  : 0<=(zmc c).i:=wP λh=>h.2.1.2
def z2S (c:Cur)(h:∃N,Ends (wE (λa=>aI a) c.b λa=>True)<|zCc N c):ziZ c=true:=wI (λ_ _ h=>h) h
def zuA:zdX:=rP0 λc=>(ziZ c,zmc c,[aI<|zq4 c])
def zAE:zbR Tryz.prog 199 [false,true,true] zuA:=hP0 zvr zQ zzH zq (zx []) (λ_ h=>(z2R h).1)
def z9Q {c:Cur}(h:zbf c):ziZ c=true:=by
 refine z2S c ⟨0,?_⟩;unfold zCc oN;conv=>zeta
 exact zu (zfy h (by simp)) (zbJ aI (zb0 _ _) trivial)
def zba8:zcY:=[(199,[false,true,true],zuA)]++zZP
def z5k:zb2 zba8:=zcq zzH (by
 intro x a;simp only[qG,qP,or_false]at a;rcases a with rfl
 .exact zAE)
def zYv (N:Nat)(c:Cur)  : OA :=
 let a:=zok c;let e:=({ (zgQ c) with b:=c.b}:Cur);let f:=zn e 10;let d:=({ (zf e 10) with b:=c.b}:Cur);let g:=zZ d [-1,4,8,16,100,9223372036854775807]; (oN (zi2 c)<|oN (zA e 10)<|cond (ieq f 0) (oN (zA d 20)<|some [.agg [.s .u8 c.b,.i .i64 (zf d 20).i,.i .i64 (zf d 20).h],.agg [.i .i64<|wsub .i64 (zn d 20) 1,.i .i64 a.M,.i .i64 a.G,.i .i64 a.X,.i .i64 a.Y,.i .i64 a.Z]])<|cond (ieq f 1) (oN (ziZ d)<|some [.agg [.s .u8 c.b,.i .i64 (zmc d).i,.i .i64 (zmc d).h],.agg [.i .i64 a.Kind,.i .i64<|zq4 d,.i .i64 a.G,.i .i64 a.X,.i .i64 a.Y,.i .i64 a.Z]])<|cond (ieq f 2) (oN (zbt d [-1,4,8,16,100,9223372036854775807])<|some [.agg [.s .u8 c.b,.i .i64 g.i,.i .i64 g.h],.agg [.i .i64 a.Kind,.i .i64 a.M,.i .i64 a.G,.i .i64<|zbn d [-1,4,8,16,100,9223372036854775807],.i .i64 a.Y,.i .i64 a.Z]])<|cond (ieq f 3) (oN (zbt d [-1,0,1,4])<|some [.agg [.s .u8 c.b,.i .i64 (zZ d [-1,0,1,4]).i,.i .i64 (zZ d [-1,0,1,4]).h],.agg [.i .i64 a.Kind,.i .i64 a.M,.i .i64 a.G,.i .i64 a.X,.i .i64 a.Y,.i .i64<|zbn d [-1,0,1,4]]])<|some [.agg [.s .u8 c.b,.i .i64 (zf e 10).i,.i .i64 (zf e 10).h],.agg [.i .i64 a.Kind,.i .i64 a.M,.i .i64 a.G,.i .i64 a.X,.i .i64 a.Y,.i .i64 a.Z]])
def zrW (c:Cur)(s:Cur)(a:GAct):Prop:=(∃N,zYv N c=some (AV.agg (zbV s)::[aT .act a]))/\(s.b=c.b/\0<=s.i)/\(True)
def zL4 (c:Cur)  : Bool:=wC (zrW c)
def zL5 (c:Cur)  : Cur:=wS (zrW c)
def zU6 (c:Cur)  : GAct:=wV (zrW c)
def z0g {c:Cur}(h:zL4 c=true):zrW c (zL5 c) (zU6 c):=wG h
def zAQ:zdX:=rP0 λc=>(zL4 c,zL5 c,[aT .act<|zU6 c])
def zNJ:zbR Tryz.prog 123 [false,true,true] zAQ:=hP0 zvr zQ z5k zq (zx []) (λ_ h=>(z0g h).1)
def zba9:zcY:=[(199,[false,true,true],zuA),(123,[false,true,true],zAQ)]++z7K
def zn7:zb2 zba9:=zcq z5m (by
 intro x a;simp only[qG,qP,or_false]at a;rcases a with rfl|rfl
 .exact zAE
 .exact zNJ)
def z6D:zW:=[(31,zsM)]++z0V
def zSS:zL z6D:=zh zvL zvr
def zor {a:LI}(h:a.length<=big){G:Ans->Prop}{N:Nat}(l:a.length<N){g:Int}{R:Int->OA}{d:Type}(S:Int->Int->d){F:(d->OA)->d->OA}(k:∀rec i t,F rec (S i t)=bif ilt i (ln a) then (cond (ilt i 4000) (cond (inb i<|ln a) (rec<|S (zK .i64 i 1)<|wand .i64 (zK .i64 (zK .i64 (zkC .i64 t 131)<|wcv .i64<|ix a i 0) 7) 1073741823) none)<|R t) else R t)(e:∀t,zbf ⟨a,0,t⟩->Ends G (R t)):Ends G (r0 N F<|S 0 g):=by refine zlG (λn s=>∃(i:Nat) (t:Int),s=S (i:Int) t/\i+n=a.length) ?_ N a.length _ ⟨0,g,rfl,by omega⟩ l;rintro n s rec ⟨i,t,rfl,p⟩ b;rw[k];have f:zbf ⟨a,0,t⟩:=⟨kS 0,h⟩;refine zbz (λj=>zbz (λm=>?_) λ_=>e t f) (λ_=>e t f);have c:(i:Int)<ln a:=qF j;unfold ln at c;rw[zbj (show i<a.length by omega) h];exact zu (qK ⟨by omega,by unfold ln;omega⟩) (b (n-1) _ (by omega) ⟨i+1,_,rfl,by omega⟩)
def zsG {b:LI}(h:b.length<=big){s:Cur}(a:0<=s.i):zbf {s with b:=b}:=⟨a,h⟩
def znA (N:Nat)(f:LI):OA:=
 (r0 (σ:=(Int×Int×LI×lM×lN×lE×lE×Unit)) N (λg a=>let c:=a.2.2.1;let d:=(⟨c,0,a.1⟩:Cur);let e:=({ (zhD d) with b:=c}:Cur); (cond (ilt a.2.1<|ln c) (cond (ilt a.2.1 4000) (oN (inb a.2.1<|ln c)<|g (wand .i64 (zK .i64 (zK .i64 (zkC .i64 a.1 131)<|wcv .i64<|ix c a.2.1 0) 7) 1073741823,zK .i64 a.2.1 1,c,a.2.2.2.1,a.2.2.2.2.1,a.2.2.2.2.2.1,a.2.2.2.2.2.2.1,()))<|oN (zev d)<|oN (ziZ e)<|some [aH<|zcr d,aI<|zq4 e])<|oN (zev d)<|oN (ziZ e)<|some [aH<|zcr d,aI<|zq4 e])) (zK .i64 94701<|ln f,0,f,[],[],[],[],()))
def zMu:=zx [(100,0,{n:=32,tm:=[(0,.sl 0 []),(3,ti),(4,ti)],lo:=[(0,[.sl 1 [],.sl 2 [],.sl 3 [],.sl 4 []])],ro:=[(0,.u8,false),(1,.sl .int,true),(2,.mon,true),(3,.entry,true),(4,.entry,true)],sk:=[(0,2,0,.lp 0 0)]})]
def zqW (b:LI)(a:ad)(c:Int):Prop:=(∃N,znA N b=some [aH a,aI c])/\(AnyH a)
def ziw (a:LI):Bool:=uC (T:=ad×Int) (λr=>zqW a r.1 r.2)
def zBd (a:LI):ad×Int:=uV (λr=>zqW a r.1 r.2)
def zkK (a:LI):ad:=(zBd a).1
def zkL (a:LI):Int:=(zBd a).2
def zBc {a:LI}(h:ziw a=true):zqW a (zkK a) (zkL a):=uG h
def zRC (d:LI)(h:∃N,Ends (λa=>∃b c,a=[aH b,aI c]/\(AnyH b))<|znA N d):ziw d=true:=by obtain⟨N,a,e,b,c,rfl,h⟩:=h;exact zY ⟨(b,c),⟨N,e⟩,h⟩
def zv7:Run:=rF1 (dS .u8) λb=>(ziw b,[aH<|zkK b,aI<|zkL b])
def zLf (a:LI)(b:ziw a=true):∃N,znA N a=some [aH<|zkK a,aI<|zkL a]:=by exact(zBc b).1
def zEL:vR 71 zv7:=kF1 zSS zQ zn7 zq zMu zLf
def zXU {a:LI}(h:a.length<=big):ziw a=true:=by
 refine zRC a (zcj λN b=>?_);unfold znA oN;conv=>zeta
 refine zor h (b h) ((λi t=>(t,(i:Int),a,[],[],[],[],())):Int->Int->_) (λrec i t=>by dsimp only) (λt c=>?_);exact zu (zo0 c) (zu (z9Q<|zsG h<|zzY _) ⟨_,rfl,_,_,rfl,(zp7<|zo0 c).2.2⟩)
def z6E:zW:=[(71,zv7)]++z6D
def z4n:zL z6E:=zh zEL zSS
def z6F:zW:=z6E
def z4o:zL z6F:=z4n
def z6G:zW:=z6F
def z4p:zL z6G:=z4o
def z6H:zW:=z6G
def z4q:zL z6H:=z4p
def z6I:zW:=z6H
def z4r:zL z6I:=z4q
def zhA {p:Prop}(h:¬ p):pc p=false:=by cases e:pc p with|false=>rfl|true=>exact absurd (zS.1 e) h
def zh9 {p q:Prop}(h:p↔q):pc p=pc q:=by rw[propext h]
def pcI (a b:Int):ieq a b=pc (a=b):=by unfold ieq;by_cases h:a=b;{rw [zY h];exact qK h};{rw [zhA h];exact qV h}
def zgm {a b:Int}(h:a≠b):ine a b=true:=by unfold ine;simp[h]
def pcN (a b:Int):ine a b = !pc (a=b):=by by_cases h:a=b;{rw [zY h];subst h;exact zes a};{rw [zhA h];exact zgm h}
def pcB (a b:Bool):zhh a b=pc (a=b):=by by_cases h:a=b;{subst h;rw[zY rfl];cases a<;>rfl};{rw [zhA h];cases a<;>cases b<;>first|rfl|exact absurd rfl h}
def pcA (p q:Prop):(cond (pc p) (pc q) false)=pc (p/\q):=by by_cases h:p;{rw [zY h,cT];exact zh9 ⟨λk=>⟨h,k⟩,λk=>k.2⟩};{rw [zhA h,cF,zhA λk=>h k.1]}
def pcE:∀(a b:LI),eqI a b=pc (a=b)
 |[],[]=>by rw[zY rfl];rfl
 |[],y::b=>by rw[zhA (λh=>by cases h)];rfl
 |x::a,[]=>by rw[zhA (λh=>by cases h)];rfl
 |x::a,y::b=>by have c:=pcE a b;unfold eqI at c ⊢;rw[all2,pcI,c,zh9<|Iff.of_eq<|List.cons.injEq x a y b,<- pcA];cases pc (x=y)<;>rfl
def ziM (a b:k0):pc (a.af=b.af/\a.aj=b.aj)=pc (a=b):=zh9 (by cases a;cases b;simp)
def zg8 (a b:au):pc (a.Tag=b.Tag/\a.af=b.af/\a.ad=b.ad/\a.aj=b.aj)=pc (a=b):=zh9 (by cases a;cases b;simp)
def zlm (a b:Ins):pc (a.Op=b.Op/\a.X=b.X)=pc (a=b):=zh9 (by cases a;cases b;simp)
def ziN (a b:aE):pc (a.Ok=b.Ok/\a.N=b.N)=pc (a=b):=zh9 (by cases a;cases b;simp)
def zll (a b:GAct):pc (a.Kind=b.Kind/\a.M=b.M/\a.G=b.G/\a.X=b.X/\a.Y=b.Y/\a.Z=b.Z)=pc (a=b):=zh9 (by cases a;cases b;simp)
def zLI (a b:Ctl):pc (a.aq=b.aq/\a.Post=b.Post/\a.Open=b.Open)=pc (a=b):=zh9 (by cases a;cases b;simp)
def zDh (a b:aD):pc (a.Kind=b.Kind/\a.af=b.af/\a.Write=b.Write/\a.N=b.N)=pc (a=b):=zh9 (by cases a;cases b;simp)
def drop_eq {b:Type}{l m:List b}(d:b){i:Nat}(c:i<l.length)(a:i<m.length):l.drop i=m.drop i↔l[i]=ix m (i:Int) d/\l.drop (i+1)=m.drop (i+1):=by rw[kB c,kB a,List.cons.injEq,zbi a]
def zfm {s p j:Type}(l m:List s)(d:s)(mk:Int->p)(F:(p->Option j)->p->Option j)(h g:Option j)(t:l.length<=big)(r:l.length=m.length)(b:∀(i:Nat) (q:i<l.length) rec,F rec (mk (i:Int))=bif pc (l[i]=ix m (i:Int) d) then rec (mk<|zK .i64 (i:Int) 1) else g)(c:∀rec,F rec (mk (l.length:Int))=h){N:Nat}(e:l.length<N) :
 r0 N F (mk 0)=bif pc (l=m) then h else g:=by
 have f:∀(n i N:Nat),l.length-i=n->i<=l.length->n<N->r0 N F (mk (i:Int))=bif pc (l.drop i=m.drop i) then h else g:=by intro n;induction n with|zero=>intro i N u q e;have:i=l.length:=(by omega);subst this;obtain⟨n,rfl⟩:∃n,N=n+1:=⟨N-1,by omega⟩;rw[zdJ,c,zY (by rw[vM,r,vM]),cT]|succ n v=>intro i N u q e;obtain⟨k,rfl⟩:∃k,N=k+1:=⟨N-1,by omega⟩;have a:i<l.length:=(by omega);rw[zdJ,b i a,zbj a t,v (i+1) k (by omega) (by omega) (by omega),zh9<|drop_eq d a<|r ▸ a,<- pcA];(cases pc (l[i]=ix m (i:Int) d) with|true=>rw[cT,cT]|false=>rw[cF,cF,cF])
 have:=f l.length 0 N (by omega) (j7 _) e
 simpa using this
def zg5 (p:Prop):(cond (pc p) (some [AV.one<|.b true])<|some [AV.one<|.b false])=some [AV.one<|.b<|pc p]:=by cases pc p<;>rfl
def zfs {c:Type}(p:Prop){a b:c}:(cond (!pc p) a b)=(cond (pc p) b a):=by cases pc p<;>rfl
def zeB {c:Type}(p:Prop){a b:c}:(cond (cond (pc p) false true) a b)=(cond (pc p) b a):=by cases pc p<;>rfl
def zdG {p:Prop}(h:¬ p):(some [AV.one<|.b false]:OA)=some [AV.one<|.b<|pc p]:=by rw[zhA h]
def ztY (p q:Prop):(cond (pc p) (some [AV.one<|.b<|pc q]:OA)<|some [AV.one<|.b false])=some [AV.one<|.b<|pc<|p/\q]:=by rw[<- pcA];cases pc p<;>rfl
def zn0 {p q:Prop}(h:p↔q):(some [AV.one<|.b<|pc p]:OA)=some [AV.one<|.b<|pc q]:=by rw[zh9 h]
def zgW (_ _:LI):Bool:=true
def ziE (x y:LI):Bool:=pc (x=y)
def zyi:Run:=rF2 (dS .int) (dS .int) λb c=>(zgW b c,[aB<|ziE b c])
def zBS (N:Nat)(b c:LI):OA:=
 (cond (ine (ln b)<|ln c) oF<|r0 (σ:=(Int×LI×LI×Unit)) N (λd a=>cond (ilt a.1<|ln a.2.1) (oN (inb a.1<|ln a.2.1)<|oN (inb a.1<|ln a.2.2.1)<|cond (ine (ix a.2.1 a.1 0)<|ix a.2.2.1 a.1 0) oF<|d (zK .i64 a.1 1,a.2.1,a.2.2.1,())) oT) (0,b,c,()))
def zOP:=zx [(50,0,{n:=26,tm:=[(0,.sl 0 []),(1,.sl 1 []),(5,ti)],lo:=[],ro:=[(0,.int,false),(1,.int,false)]})]
def zN0 (a c:LI)(h:zbT big [aS .int a,aS .int c])(l:zgW a c=true):∃N,zBS N a c=some [aB<|ziE a c]:=by have j:a.length<=big:=len0 h;have k:c.length<=big:=((zbp (zbp h).2).1 _ (qD.2 rfl)).len;refine⟨a.length+1,?_⟩;unfold zBS oN;by_cases g:a.length=c.length;{have d:ine (ln a) (ln c)=false:=(by unfold ln;rw[g];exact zes _);refine zb7 d ?_;refine(zfm a c 0 (λi=>(i,a,c,())) _ (some [.one<|.b true]) (some [.one<|.b false]) j g (λi f rec=>?_) (λrec=>?_)<|jO _).trans (zg5 _);{dsimp only;simp only[zbu f,zT f,zT<|g ▸ f,zbi f,pcI,pcN,pcB,pcE,pcA,ziM,zg8,zlm,ziN,zll,cT,cF];first|exact zfs _|exact zeB _};{dsimp only;simp only[zbh,cF]}};{have d:ine (ln a) (ln c)=true:=zgm (by unfold ln;omega);refine j0 d ?_;exact zdG (λe=>g (by rw[e]))}
def zHK:vR 50 zyi:=hF2 zd5 zQ zB zq zOP zN0
def zgd (_ _:List Bool):Bool:=true
def zhJ (x y:List Bool):Bool:=pc (x=y)
def zlp:Run:=rF2 (dS .bool) (dS .bool) λb c=>(zgd b c,[aB<|zhJ b c])
def zAd (N:Nat)(b c:lB):OA:=
 (cond (ine (ln b)<|ln c) oF<|r0 (σ:=(Int×lB×lB×Unit)) N (λd a=>cond (ilt a.1<|ln a.2.1) (oN (inb a.1<|ln a.2.1)<|oN (inb a.1<|ln a.2.2.1)<|cond (nB<|zhh (ix a.2.1 a.1 false)<|ix a.2.2.1 a.1 false) oF<|d (zK .i64 a.1 1,a.2.1,a.2.2.1,())) oT) (0,b,c,()))
def zMq:=zx [(194,0,{n:=26,tm:=[(0,.sl 0 []),(1,.sl 1 []),(5,ti)],lo:=[],ro:=[(0,.bool,false),(1,.bool,false)]})]
def zK9 (a c:List Bool)(h:zbT big [aS .bool a,aS .bool c])(l:zgd a c=true):∃N,zAd N a c=some [aB<|zhJ a c]:=by have j:a.length<=big:=len0 h;have k:c.length<=big:=((zbp (zbp h).2).1 _ (qD.2 rfl)).len;refine⟨a.length+1,?_⟩;unfold zAd oN nB;by_cases g:a.length=c.length;{have d:ine (ln a) (ln c)=false:=(by unfold ln;rw[g];exact zes _);refine zb7 d ?_;refine(zfm a c false (λi=>(i,a,c,())) _ (some [.one<|.b true]) (some [.one<|.b false]) j g (λi f rec=>?_) (λrec=>?_)<|jO _).trans (zg5 _);{dsimp only;simp only[zbu f,zT f,zT<|g ▸ f,zbi f,pcI,pcN,pcB,pcE,pcA,ziM,zg8,zlm,ziN,zll,cT,cF];first|exact zfs _|exact zeB _};{dsimp only;simp only[zbh,cF]}};{have d:ine (ln a) (ln c)=true:=zgm (by unfold ln;omega);refine j0 d ?_;exact zdG (λe=>g (by rw[e]))}
def zEF:vR 194 zlp:=hF2 zd5 zQ zB zq zMq zK9
def zcR (_ _:List k0):Bool:=true
def zdl (x y:List k0):Bool:=pc (x=y)
def zha:Run:=rF2 (dS .slot) (dS .slot) λb c=>(zcR b c,[aB<|zdl b c])
def zAh (N:Nat)(b c:lS):OA:=
 (cond (ine (ln b)<|ln c) oF<|r0 (σ:=(Int×lS×lS×Unit)) N (λf a=>let e:=ix a.2.1 a.1 zba;let d:=ix a.2.2.1 a.1 zba; (cond (ilt a.1<|ln a.2.1) (oN (inb a.1<|ln a.2.1)<|oN (inb a.1<|ln a.2.2.1)<|cond (nB<|cond (ieq e.af d.af) (ieq e.aj d.aj) false) oF<|f (zK .i64 a.1 1,a.2.1,a.2.2.1,())) oT)) (0,b,c,()))
def zMt:=zx [(193,0,{n:=26,tm:=[(0,.sl 0 []),(1,.sl 1 []),(5,ti)],lo:=[],ro:=[(0,.slot,false),(1,.slot,false)]})]
def zLd (a c:List k0)(h:zbT big [aS .slot a,aS .slot c])(l:zcR a c=true):∃N,zAh N a c=some [aB<|zdl a c]:=by
 have j:a.length<=big:=len0 h;have k:c.length<=big:=((zbp (zbp h).2).1 _ (qD.2 rfl)).len;refine⟨a.length+1,?_⟩;unfold zAh oN nB;conv=>zeta
 by_cases g:a.length=c.length;{have d:ine (ln a) (ln c)=false:=(by unfold ln;rw[g];exact zes _);refine zb7 d ?_;refine(zfm a c zba (λi=>(i,a,c,())) _ (some [.one<|.b true]) (some [.one<|.b false]) j g (λi f rec=>?_) (λrec=>?_)<|jO _).trans (zg5 _);{dsimp only;simp only[zbu f,zT f,zT<|g ▸ f,zbi f,pcI,pcN,pcB,pcE,pcA,ziM,zg8,zlm,ziN,zll,cT,cF];first|exact zfs _|exact zeB _};{dsimp only;simp only[zbh,cF]}};{have d:ine (ln a) (ln c)=true:=zgm (by unfold ln;omega);refine j0 d ?_;exact zdG (λe=>g (by rw[e]))}
def zEJ:vR 193 zha:=hF2 zd5 zQ zB zq zMt zLd
def zft (_ _:List au):Bool:=true
def zgV (x y:List au):Bool:=pc (x=y)
def zkl:Run:=rF2 (dS .entry) (dS .entry) λb c=>(zft b c,[aB<|zgV b c])
def zxn (N:Nat)(d e:lE):OA:=
 (cond (ine (ln d)<|ln e) oF<|r0 (σ:=(Int×lE×lE×Unit)) N (λf a=>let c:=ix a.2.1 a.1 zey;let b:=ix a.2.2.1 a.1 zey; (cond (ilt a.1<|ln a.2.1) (oN (inb a.1<|ln a.2.1)<|oN (inb a.1<|ln a.2.2.1)<|cond (nB<|cond (ieq c.Tag b.Tag) (cond (ieq c.af b.af) (cond (ieq c.ad b.ad) (ieq c.aj b.aj) false) false) false) oF<|f (zK .i64 a.1 1,a.2.1,a.2.2.1,())) oT)) (0,d,e,()))
def zIU:=zx [(117,0,{n:=26,tm:=[(0,.sl 0 []),(1,.sl 1 []),(5,ti)],lo:=[],ro:=[(0,.entry,false),(1,.entry,false)]})]
def zIh (a c:List au)(h:zbT big [aS .entry a,aS .entry c])(l:zft a c=true):∃N,zxn N a c=some [aB<|zgV a c]:=by
 have j:a.length<=big:=len0 h;have k:c.length<=big:=((zbp (zbp h).2).1 _ (qD.2 rfl)).len;refine⟨a.length+1,?_⟩;unfold zxn oN nB;conv=>zeta
 by_cases g:a.length=c.length;{have d:ine (ln a) (ln c)=false:=(by unfold ln;rw[g];exact zes _);refine zb7 d ?_;refine(zfm a c zey (λi=>(i,a,c,())) _ (some [.one<|.b true]) (some [.one<|.b false]) j g (λi f rec=>?_) (λrec=>?_)<|jO _).trans (zg5 _);{dsimp only;simp only[zbu f,zT f,zT<|g ▸ f,zbi f,pcI,pcN,pcB,pcE,pcA,ziM,zg8,zlm,ziN,zll,cT,cF];first|exact zfs _|exact zeB _};{dsimp only;simp only[zbh,cF]}};{have d:ine (ln a) (ln c)=true:=zgm (by unfold ln;omega);refine j0 d ?_;exact zdG (λe=>g (by rw[e]))}
def zCM:vR 117 zkl:=hF2 zd5 zQ zB zq zIU zIh
def zfT (_ _:List Ins):Bool:=true
def zhy (x y:List Ins):Bool:=pc (x=y)
def zhY:Run:=rF2 (dS .ins) (dS .ins) λb c=>(zfT b c,[aB<|zhy b c])
def zBR (N:Nat)(b c:lI):OA:=
 (cond (ine (ln b)<|ln c) oF<|r0 (σ:=(Int×lI×lI×Unit)) N (λf a=>let e:=ix a.2.1 a.1 zqg;let d:=ix a.2.2.1 a.1 zqg; (cond (ilt a.1<|ln a.2.1) (oN (inb a.1<|ln a.2.1)<|oN (inb a.1<|ln a.2.2.1)<|cond (nB<|cond (ieq e.Op d.Op) (ieq e.X d.X) false) oF<|f (zK .i64 a.1 1,a.2.1,a.2.2.1,())) oT)) (0,b,c,()))
def zOO:=zx [(440,0,{n:=26,tm:=[(0,.sl 0 []),(1,.sl 1 []),(5,ti)],lo:=[],ro:=[(0,.ins,false),(1,.ins,false)]})]
def zNZ (a c:List Ins)(h:zbT big [aS .ins a,aS .ins c])(l:zfT a c=true):∃N,zBR N a c=some [aB<|zhy a c]:=by
 have j:a.length<=big:=len0 h;have k:c.length<=big:=((zbp (zbp h).2).1 _ (qD.2 rfl)).len;refine⟨a.length+1,?_⟩;unfold zBR oN nB;conv=>zeta
 by_cases g:a.length=c.length;{have d:ine (ln a) (ln c)=false:=(by unfold ln;rw[g];exact zes _);refine zb7 d ?_;refine(zfm a c zqg (λi=>(i,a,c,())) _ (some [.one<|.b true]) (some [.one<|.b false]) j g (λi f rec=>?_) (λrec=>?_)<|jO _).trans (zg5 _);{dsimp only;simp only[zbu f,zT f,zT<|g ▸ f,zbi f,pcI,pcN,pcB,pcE,pcA,ziM,zg8,zlm,ziN,zll,cT,cF];first|exact zfs _|exact zeB _};{dsimp only;simp only[zbh,cF]}};{have d:ine (ln a) (ln c)=true:=zgm (by unfold ln;omega);refine j0 d ?_;exact zdG (λe=>g (by rw[e]))}
def zHJ:vR 440 zhY:=hF2 zd5 zQ zB zq zOO zNZ
def z1t:zW:=[(50,zyi),(194,zlp),(193,zha),(117,zkl),(440,zhY)]++zMQ
def zvt:zL z1t:=zh zHK (zh zEF<|zh zEJ<|zh zCM<|zh zHJ zd5)
def zfh (_ _:List LI):Bool:=true
def zgE (x y:List LI):Bool:=pc (x=y)
def zlr:Run:=rF2 (dS<|.sl .int) (dS<|.sl .int) λb c=>(zfh b c,[aB<|zgE b c])
def zAg (N:Nat)(b:lM)(c:lM):OA:=
 (cond (ine (ln b)<|ln c) oF<|r0 (σ:=(Int×lM×lM×Unit)) N (λd a=>cond (ilt a.1<|ln a.2.1) (oN (inb a.1<|ln a.2.1)<|oN (inb a.1<|ln a.2.2.1)<|oN (zgW (ix a.2.1 a.1 [])<|ix a.2.2.1 a.1 [])<|cond (nB<|ziE (ix a.2.1 a.1 [])<|ix a.2.2.1 a.1 []) oF<|d (zK .i64 a.1 1,a.2.1,a.2.2.1,())) oT) (0,b,c,()))
def zMs:=zx [(115,0,{n:=27,tm:=[(0,.sl 0 []),(1,.sl 1 []),(5,ti)],lo:=[],ro:=[(0,.sl .int,false),(1,.sl .int,false)]})]
def zLc (a:List LI)(c:List LI)(h:zbT big [aS (.sl .int) a,aS (.sl .int) c])(l:zfh a c=true):∃N,zAg N a c=some [aB<|zgE a c]:=by have j:a.length<=big:=len0 h;have k:c.length<=big:=((zbp (zbp h).2).1 _ (qD.2 rfl)).len;refine⟨a.length+1,?_⟩;unfold zAg oN nB;by_cases g:a.length=c.length;{have d:ine (ln a) (ln c)=false:=(by unfold ln;rw[g];exact zes _);refine zb7 d ?_;refine(zfm a c [] (λi=>(i,a,c,())) _ (some [.one<|.b true]) (some [.one<|.b false]) j g (λi f rec=>?_) (λrec=>?_)<|jO _).trans (zg5 _);{dsimp only;simp only[zbu f,zT f,zT<|g ▸ f,zbi f,zgW,ziE,pcI,pcN,pcB,pcE,pcA,ziM,zg8,zlm,ziN,zll,cT,cF];first|exact zfs _|exact zeB _};{dsimp only;simp only[zbh,cF]}};{have d:ine (ln a) (ln c)=true:=zgm (by unfold ln;omega);refine j0 d ?_;exact zdG (λe=>g (by rw[e]))}
def zEI:vR 115 zlr:=hF2 zvt zQ zB zq zMs zLc
def zjD (_ _:ax):Bool:=true
def zmA (x y:ax):Bool:=pc (x=y)
def zmH:Run:=rF2 (dT .kept) (dT .kept) λb c=>(zjD b c,[aB<|zmA b c])
def zBT (N:Nat)(a b:ax):OA:=
 (oN (zgd a.ay b.ay)<|cond (zhJ a.ay b.ay) (oN (zcR a.aA b.aA)<|some [aB<|zdl a.aA b.aA]) oF)
def zxW (a b:ax)(c:zbT big [aT .kept a,aT .kept b])(d:zjD a b=true):∃N,zBT N a b=some [aB<|zmA a b]:=by refine⟨0,?_⟩;simp only[zBT,zgd,zhJ,zcR,zdl,pcI,pcN,pcB,pcE,pcA,zLI,zDh,cT,cF,ztY];exact zn0 (by cases a;cases b;simp[ax.mk.injEq,and_assoc])
def zHL:vR 367 zmH:=hF2 zvt zQ zB zq (zx []) zxW
def zhk (_ _:ah):Bool:=true
def zjb (x y:ah):Bool:=pc (x=y)
def zlq:Run:=rF2 (dT .guest) (dT .guest) λb c=>(zhk b c,[aB<|zjb b c])
def zAe (N:Nat)(a b:ah):OA:=
 (oN (zfT a.aw b.aw)<|cond (zhy a.aw b.aw) (cond (ieq a.A b.A) (cond (ieq a.Pc b.Pc) (oN (zcR a.az b.az)<|cond (zdl a.az b.az) (oN (zcR a.av b.av)<|cond (zdl a.av b.av) (cond (cond (ieq a.Ctl.aq b.Ctl.aq) (cond (ieq a.Ctl.Post b.Ctl.Post) (zhh a.Ctl.Open b.Ctl.Open) false) false) (cond (ieq a.ak b.ak) (cond (cond (ieq a.Exit.Kind b.Exit.Kind) (cond (ieq a.Exit.af b.Exit.af) (cond (zhh a.Exit.Write b.Exit.Write) (ieq a.Exit.N b.Exit.N) false) false) false) (cond (zhh a.aF b.aF) (oN (zgW a.aC b.aC)<|some [aB<|ziE a.aC b.aC]) oF) oF) oF) oF) oF) oF) oF) oF) oF)
def zLa (a b:ah)(c:zhk a b=true):∃N,zAe N a b=some [aB<|zjb a b]:=by refine⟨0,?_⟩;simp only[zAe,zfT,zhy,zcR,zdl,zgW,ziE,pcI,pcN,pcB,pcE,pcA,zLI,zDh,cT,cF,ztY];exact zn0 (by cases a;cases b;simp[ah.mk.injEq,and_assoc])
def zEG:vR 356 zlq:=kF2 zvt zQ zB zq (zx []) zLa
def z1u:zW:=[(115,zlr),(367,zmH),(356,zlq)]++z1t
def zCx:zL z1u:=zh zEI (zh zHL<|zh zEG zvt)
def znF (_ _:List ax):Bool:=true
def zrr (x y:List ax):Bool:=pc (x=y)
def zv6:Run:=rF2 (dS .kept) (dS .kept) λb c=>(znF b c,[aB<|zrr b c])
def zAf (N:Nat)(b c:lK):OA:=
 (cond (ine (ln b)<|ln c) oF<|r0 (σ:=(Int×lK×lK×Unit)) N (λf a=>let e:=ix a.2.1 a.1 zex;let d:=ix a.2.2.1 a.1 zex; (cond (ilt a.1<|ln a.2.1) (oN (inb a.1<|ln a.2.1)<|oN (inb a.1<|ln a.2.2.1)<|oN (zjD e d)<|cond (nB<|zmA e d) oF<|f (zK .i64 a.1 1,a.2.1,a.2.2.1,())) oT)) (0,b,c,()))
def zMr:=zx [(195,0,{n:=27,tm:=[(0,.sl 0 []),(1,.sl 1 []),(5,ti)],lo:=[],ro:=[(0,.kept,false),(1,.kept,false)]})]
def zLb (a c:List ax)(h:zbT big [aS .kept a,aS .kept c])(l:znF a c=true):∃N,zAf N a c=some [aB<|zrr a c]:=by
 have j:a.length<=big:=len0 h;have k:c.length<=big:=((zbp (zbp h).2).1 _ (qD.2 rfl)).len;refine⟨a.length+1,?_⟩;unfold zAf oN nB;conv=>zeta
 by_cases g:a.length=c.length;{have d:ine (ln a) (ln c)=false:=(by unfold ln;rw[g];exact zes _);refine zb7 d ?_;refine(zfm a c zex (λi=>(i,a,c,())) _ (some [.one<|.b true]) (some [.one<|.b false]) j g (λi f rec=>?_) (λrec=>?_)<|jO _).trans (zg5 _);{dsimp only;simp only[zbu f,zT f,zT<|g ▸ f,zbi f,zjD,zmA,pcI,pcN,pcB,pcE,pcA,ziM,zg8,zlm,ziN,zll,cT,cF];first|exact zfs _|exact zeB _};{dsimp only;simp only[zbh,cF]}};{have d:ine (ln a) (ln c)=true:=zgm (by unfold ln;omega);refine j0 d ?_;exact zdG (λe=>g (by rw[e]))}
def zEH:vR 195 zv6:=hF2 zCx zQ zB zq zMr zLb
def zmz (_ _:List ah):Bool:=true
def zo5 (x y:List ah):Bool:=pc (x=y)
def zuD:Run:=rF2 (dS .guest) (dS .guest) λb c=>(zmz b c,[aB<|zo5 b c])
def zxo (N:Nat)(b c:lG):OA:=
 (cond (ine (ln b)<|ln c) oF<|r0 (σ:=(Int×lG×lG×Unit)) N (λf a=>let e:=ix a.2.1 a.1 zD;let d:=ix a.2.2.1 a.1 zD; (cond (ilt a.1<|ln a.2.1) (oN (inb a.1<|ln a.2.1)<|oN (inb a.1<|ln a.2.2.1)<|oN (zhk e d)<|cond (nB<|zjb e d) oF<|f (zK .i64 a.1 1,a.2.1,a.2.2.1,())) oT)) (0,b,c,()))
def zIV:=zx [(175,0,{n:=27,tm:=[(0,.sl 0 []),(1,.sl 1 []),(5,ti)],lo:=[],ro:=[(0,.guest,false),(1,.guest,false)]})]
def zIi (a c:List ah)(h:zbT big [aS .guest a,aS .guest c])(l:zmz a c=true):∃N,zxo N a c=some [aB<|zo5 a c]:=by
 have j:a.length<=big:=len0 h;have k:c.length<=big:=((zbp (zbp h).2).1 _ (qD.2 rfl)).len;refine⟨a.length+1,?_⟩;unfold zxo oN nB;conv=>zeta
 by_cases g:a.length=c.length;{have d:ine (ln a) (ln c)=false:=(by unfold ln;rw[g];exact zes _);refine zb7 d ?_;refine(zfm a c zD (λi=>(i,a,c,())) _ (some [.one<|.b true]) (some [.one<|.b false]) j g (λi f rec=>?_) (λrec=>?_)<|jO _).trans (zg5 _);{dsimp only;simp only[zbu f,zT f,zT<|g ▸ f,zbi f,zhk,zjb,pcI,pcN,pcB,pcE,pcA,ziM,zg8,zlm,ziN,zll,cT,cF];first|exact zfs _|exact zeB _};{dsimp only;simp only[zbh,cF]}};{have d:ine (ln a) (ln c)=true:=zgm (by unfold ln;omega);refine j0 d ?_;exact zdG (λe=>g (by rw[e]))}
def zCN:vR 175 zuD:=hF2 zCx zQ zB zq zIV zIi
def z1v:zW:=[(195,zv6),(175,zuD)]++z1u
def zPJ:zL z1v:=zh zEH (zh zCN zCx)
def zgF (_ _:Mon):Bool:=true
def ziF (x y:Mon):Bool:=pc (x=y)
def zkI:Run:=rF2 (dT .mon) (dT .mon) λb c=>(zgF b c,[aB<|ziF b c])
def zFG (N:Nat)(a b:Mon):OA:=
 (oN (zcR a.ae b.ae)<|cond (zdl a.ae b.ae) (oN (zfh a.Out b.Out)<|cond (zgE a.Out b.Out) (oN (zgd a.ar b.ar)<|cond (zhJ a.ar b.ar) (oN (zmz a.ac b.ac)<|cond (zo5 a.ac b.ac) (oN (zgW a.Outs b.Outs)<|cond (ziE a.Outs b.Outs) (cond (ieq a.ak b.ak) (cond (ieq a.aq b.aq) (oN (znF a.ai b.ai)<|cond (zrr a.ai b.ai) (some [aB<|ieq a.Own b.Own]) oF) oF) oF) oF) oF) oF) oF) oF)
def zQ3 (a b:Mon)(c:zgF a b=true):∃N,zFG N a b=some [aB<|ziF a b]:=by refine⟨0,?_⟩;simp only[zFG,zcR,zdl,zfh,zgE,zgd,zhJ,zmz,zo5,zgW,ziE,znF,zrr,pcI,pcN,pcB,pcE,pcA,zLI,zDh,cT,cF,ztY];exact zn0 (by cases a;cases b;simp[Mon.mk.injEq,and_assoc])
def zvG:vR 69 zkI:=kF2 zPJ zQ zB zq (zx []) zQ3
def z1w:zW:=[(69,zkI)]++z1v
def zPK:zL z1w:=zh zvG zPJ
def zo6 (_ _:List Mon):Bool:=true
def ztk (x y:List Mon):Bool:=pc (x=y)
def zyj:Run:=rF2 (dS .mon) (dS .mon) λb c=>(zo6 b c,[aB<|ztk b c])
def zBU (N:Nat)(b c:lN):OA:=
 (cond (ine (ln b)<|ln c) oF<|r0 (σ:=(Int×lN×lN×Unit)) N (λf a=>let e:=ix a.2.1 a.1 zi;let d:=ix a.2.2.1 a.1 zi; (cond (ilt a.1<|ln a.2.1) (oN (inb a.1<|ln a.2.1)<|oN (inb a.1<|ln a.2.2.1)<|oN (zgF e d)<|cond (nB<|ziF e d) oF<|f (zK .i64 a.1 1,a.2.1,a.2.2.1,())) oT)) (0,b,c,()))
def zOQ:=zx [(116,0,{n:=27,tm:=[(0,.sl 0 []),(1,.sl 1 []),(5,ti)],lo:=[],ro:=[(0,.mon,false),(1,.mon,false)]})]
def zN1 (a c:List Mon)(h:zbT big [aS .mon a,aS .mon c])(l:zo6 a c=true):∃N,zBU N a c=some [aB<|ztk a c]:=by
 have j:a.length<=big:=len0 h;have k:c.length<=big:=((zbp (zbp h).2).1 _ (qD.2 rfl)).len;refine⟨a.length+1,?_⟩;unfold zBU oN nB;conv=>zeta
 by_cases g:a.length=c.length;{have d:ine (ln a) (ln c)=false:=(by unfold ln;rw[g];exact zes _);refine zb7 d ?_;refine(zfm a c zi (λi=>(i,a,c,())) _ (some [.one<|.b true]) (some [.one<|.b false]) j g (λi f rec=>?_) (λrec=>?_)<|jO _).trans (zg5 _);{dsimp only;simp only[zbu f,zT f,zT<|g ▸ f,zbi f,zgF,ziF,pcI,pcN,pcB,pcE,pcA,ziM,zg8,zlm,ziN,zll,cT,cF];first|exact zfs _|exact zeB _};{dsimp only;simp only[zbh,cF]}};{have d:ine (ln a) (ln c)=true:=zgm (by unfold ln;omega);refine j0 d ?_;exact zdG (λe=>g (by rw[e]))}
def zHM:vR 116 zyj:=hF2 zPK zQ zB zq zOQ zN1
def zbaa:zW:=[(116,zyj)]++z1w
def z1x:zL zbaa:=zh zHM zPK
def zh7 (_ _:ad):Bool:=true
def zkg (x y:ad):Bool:=pc (x=y)
def zmG:Run:=rF2 dH dH λb c=>(zh7 b c,[aB<|zkg b c])
def zBQ (N:Nat)(a b:ad):OA:=
 (oN (zfh a.ag b.ag)<|cond (zgE a.ag b.ag) (oN (zo6 a.aa b.aa)<|cond (ztk a.aa b.aa) (oN (zft a.ao b.ao)<|cond (zgV a.ao b.ao) (oN (zft a.an b.an)<|some [aB<|zgV a.an b.an]) oF) oF) oF)
def zNY (a b:ad)(c:zh7 a b=true):∃N,zBQ N a b=some [aB<|zkg a b]:=by refine⟨0,?_⟩;simp only[zBQ,zfh,zgE,zo6,ztk,zft,zgV,pcI,pcN,pcB,pcE,pcA,zLI,zDh,cT,cF,ztY];exact zn0 (by cases a;cases b;simp[ad.mk.injEq,and_assoc])
def zHI:vR 24 zmG:=kF2 z1x zQ zB zq (zx []) zNY
def zMO {g f e:Type}(l m:List g)(d:g)(mk:Int->f)(F:(f->Option e)->f->Option e)(c:Option e)(j:l.length<=big)(k:l.length=m.length)(a:∀(i:Nat) (n:i<l.length) rec,F rec (mk (i:Int))=bif pc (l[i]=ix m (i:Int) d) then rec (mk<|zK .i64 (i:Int) 1) else c)(b:∀rec,F rec (mk (l.length:Int))=F (λ_=>none) (mk (l.length:Int))){N:Nat}(h:l.length<N) :
 r0 N F (mk 0)=bif pc (l=m) then F (λ_=>none) (mk (l.length:Int)) else c:=zfm l m d mk F _ c j k a b h
def z0W:zW:=[(359,zgk)]++z4c
def zos:zL z0W:=zh zin zXA
def zcz (N:Nat)(b c:lS):OA:=
 (cond (ine (ln b)<|ln c) oF<|r0 (σ:=(Int×Int×lS×lS×Unit)) N (λf a=>let e:=ix a.2.2.1 a.2.1 zba;let d:=ix a.2.2.2.1 a.2.1 zba; (cond (ilt a.2.1 a.1) (oN (inb a.2.1<|ln a.2.2.1)<|oN (inb a.2.1<|ln a.2.2.2.1)<|cond (nB<|cond (ieq e.af d.af) (ieq e.aj d.aj) false) oF<|f (a.1,zK .i64 a.2.1 1,a.2.2.1,a.2.2.2.1,())) oT)) (ln b,0,b,c,()))
def zd4:=zx [(450,0,{n:=26,tm:=[(0,.sl 0 []),(1,.sl 1 []),(12,ti),(13,ti)],lo:=[],ro:=[(0,.slot,false),(1,.slot,false)]})]
def zd0 (a c:List k0)(h:zbT big [aS .slot a,aS .slot c])(l:zcR a c=true):∃N,zcz N a c=some [aB<|zdl a c]:=by
 have j:a.length<=big:=len0 h;have k:c.length<=big:=((zbp (zbp h).2).1 _ (qD.2 rfl)).len;refine⟨a.length+1,?_⟩;unfold zcz oN nB;conv=>zeta
 by_cases g:a.length=c.length;{have d:ine (ln a) (ln c)=false:=(by unfold ln;rw[g];exact zes _);refine zb7 d ?_;refine(zfm a c zba (λ(i:Int)=>(ln a,i,a,c,())) _ (some [.one<|.b true]) (some [.one<|.b false]) j g (λi f rec=>?_) (λrec=>?_)<|jO _).trans (zg5 _);{dsimp only;simp only[zbu f,zT f,zT<|g ▸ f,zbi f,pcI,pcN,pcB,pcE,pcA,ziM,zg8,zlm,ziN,zll,cT,cF];first|exact zfs _|exact zeB _};{dsimp only;simp only[zbh,cF]}};{have d:ine (ln a) (ln c)=true:=zgm (by unfold ln;omega);refine j0 d ?_;exact zdG (λe=>g (by rw[e]))}
def zdS:vR 450 zha:=hF2 zos zQ zB zq zd4 zd0
def zcF (N:Nat)(b c:lI):OA:=
 (cond (ine (ln b)<|ln c) oF<|r0 (σ:=(Int×Int×lI×lI×Unit)) N (λf a=>let e:=ix a.2.2.1 a.2.1 zqg;let d:=ix a.2.2.2.1 a.2.1 zqg; (cond (ilt a.2.1 a.1) (oN (inb a.2.1<|ln a.2.2.1)<|oN (inb a.2.1<|ln a.2.2.2.1)<|cond (nB<|cond (ieq e.Op d.Op) (ieq e.X d.X) false) oF<|f (a.1,zK .i64 a.2.1 1,a.2.2.1,a.2.2.2.1,())) oT)) (ln b,0,b,c,()))
def zeg:=zx [(468,0,{n:=26,tm:=[(0,.sl 0 []),(1,.sl 1 []),(12,ti),(13,ti)],lo:=[],ro:=[(0,.ins,false),(1,.ins,false)]})]
def zef (a c:List Ins)(h:zbT big [aS .ins a,aS .ins c])(l:zfT a c=true):∃N,zcF N a c=some [aB<|zhy a c]:=by
 have j:a.length<=big:=len0 h;have k:c.length<=big:=((zbp (zbp h).2).1 _ (qD.2 rfl)).len;refine⟨a.length+1,?_⟩;unfold zcF oN nB;conv=>zeta
 by_cases g:a.length=c.length;{have d:ine (ln a) (ln c)=false:=(by unfold ln;rw[g];exact zes _);refine zb7 d ?_;refine(zfm a c zqg (λ(i:Int)=>(ln a,i,a,c,())) _ (some [.one<|.b true]) (some [.one<|.b false]) j g (λi f rec=>?_) (λrec=>?_)<|jO _).trans (zg5 _);{dsimp only;simp only[zbu f,zT f,zT<|g ▸ f,zbi f,pcI,pcN,pcB,pcE,pcA,ziM,zg8,zlm,ziN,zll,cT,cF];first|exact zfs _|exact zeB _};{dsimp only;simp only[zbh,cF]}};{have d:ine (ln a) (ln c)=true:=zgm (by unfold ln;omega);refine j0 d ?_;exact zdG (λe=>g (by rw[e]))}
def zdZ:vR 468 zhY:=hF2 zos zQ zB zq zeg zef
def zct (N:Nat)(d e:lE):OA:=
 (cond (ine (ln d)<|ln e) oF<|r0 (σ:=(Int×Int×lE×lE×Unit)) N (λf a=>let c:=ix a.2.2.1 a.2.1 zey;let b:=ix a.2.2.2.1 a.2.1 zey; (cond (ilt a.2.1 a.1) (oN (inb a.2.1<|ln a.2.2.1)<|oN (inb a.2.1<|ln a.2.2.2.1)<|cond (nB<|cond (ieq c.Tag b.Tag) (cond (ieq c.af b.af) (cond (ieq c.ad b.ad) (ieq c.aj b.aj) false) false) false) oF<|f (a.1,zK .i64 a.2.1 1,a.2.2.1,a.2.2.2.1,())) oT)) (ln d,0,d,e,()))
def zdU:=zx [(206,0,{n:=26,tm:=[(0,.sl 0 []),(1,.sl 1 []),(12,ti),(13,ti)],lo:=[],ro:=[(0,.entry,false),(1,.entry,false)]})]
def zdT (a c:List au)(h:zbT big [aS .entry a,aS .entry c])(l:zft a c=true):∃N,zct N a c=some [aB<|zgV a c]:=by
 have j:a.length<=big:=len0 h;have k:c.length<=big:=((zbp (zbp h).2).1 _ (qD.2 rfl)).len;refine⟨a.length+1,?_⟩;unfold zct oN nB;conv=>zeta
 by_cases g:a.length=c.length;{have d:ine (ln a) (ln c)=false:=(by unfold ln;rw[g];exact zes _);refine zb7 d ?_;refine(zfm a c zey (λ(i:Int)=>(ln a,i,a,c,())) _ (some [.one<|.b true]) (some [.one<|.b false]) j g (λi f rec=>?_) (λrec=>?_)<|jO _).trans (zg5 _);{dsimp only;simp only[zbu f,zT f,zT<|g ▸ f,zbi f,pcI,pcN,pcB,pcE,pcA,ziM,zg8,zlm,ziN,zll,cT,cF];first|exact zfs _|exact zeB _};{dsimp only;simp only[zbh,cF]}};{have d:ine (ln a) (ln c)=true:=zgm (by unfold ln;omega);refine j0 d ?_;exact zdG (λe=>g (by rw[e]))}
def zdL:vR 206 zkl:=hF2 zos zQ zB zq zdU zdT
def zjq (N:Nat)(b c:lB):OA:=
 (cond (ine (ln b)<|ln c) oF<|r0 (σ:=(Int×Int×lB×lB×Unit)) N (λd a=>cond (ilt a.2.1 a.1) (oN (inb a.2.1<|ln a.2.2.1)<|oN (inb a.2.1<|ln a.2.2.2.1)<|cond (nB<|zhh (ix a.2.2.1 a.2.1 false)<|ix a.2.2.2.1 a.2.1 false) oF<|d (a.1,zK .i64 a.2.1 1,a.2.2.1,a.2.2.2.1,())) oT) (ln b,0,b,c,()))
def zoK:=zx [(374,0,{n:=26,tm:=[(0,.sl 0 []),(1,.sl 1 []),(12,ti),(13,ti)],lo:=[],ro:=[(0,.bool,false),(1,.bool,false)]})]
def zoJ (a c:List Bool)(h:zbT big [aS .bool a,aS .bool c])(l:zgd a c=true):∃N,zjq N a c=some [aB<|zhJ a c]:=by have j:a.length<=big:=len0 h;have k:c.length<=big:=((zbp (zbp h).2).1 _ (qD.2 rfl)).len;refine⟨a.length+1,?_⟩;unfold zjq oN nB;by_cases g:a.length=c.length;{have d:ine (ln a) (ln c)=false:=(by unfold ln;rw[g];exact zes _);refine zb7 d ?_;refine(zfm a c false (λ(i:Int)=>(ln a,i,a,c,())) _ (some [.one<|.b true]) (some [.one<|.b false]) j g (λi f rec=>?_) (λrec=>?_)<|jO _).trans (zg5 _);{dsimp only;simp only[zbu f,zT f,zT<|g ▸ f,zbi f,pcI,pcN,pcB,pcE,pcA,ziM,zg8,zlm,ziN,zll,cT,cF];first|exact zfs _|exact zeB _};{dsimp only;simp only[zbh,cF]}};{have d:ine (ln a) (ln c)=true:=zgm (by unfold ln;omega);refine j0 d ?_;exact zdG (λe=>g (by rw[e]))}
def zm6:vR 374 zlp:=hF2 zos zQ zB zq zoK zoJ
def zFA (N:Nat)(c:lM)(d:lM):OA:=
 (cond (ine (ln c)<|ln d) oF<|r0 (σ:=(Int×Int×lM×lM×Unit)) N (λe a=>let b:=a.2.1; (cond (ilt b a.1) (oN (inb b<|ln a.2.2.2.1)<|oN (inb b<|ln a.2.2.1)<|oN (zcW (ix a.2.2.2.1 b [])<|ix a.2.2.1 b [])<|cond (nB<|zcO (ix a.2.2.2.1 b [])<|ix a.2.2.1 b []) oF<|e (a.1,zK .i64 b 1,a.2.2.1,a.2.2.2.1,())) oT)) (ln c,0,d,c,()))
def zRS:=zx [(371,0,{n:=32,tm:=[(1,.sl 0 []),(2,.fn 372 []),(15,.sl 1 []),(16,ti),(17,ti)],lo:=[],ro:=[(0,.sl .int,false),(1,.sl .int,false)]})]
def zQX (a:List LI)(c:List LI)(h:zbT big [aS (.sl .int) a,aS (.sl .int) c])(l:zfh a c=true):∃N,zFA N a c=some [aB<|zgE a c]:=by
 have j:a.length<=big:=len0 h;have k:c.length<=big:=((zbp (zbp h).2).1 _ (qD.2 rfl)).len;refine⟨a.length+1,?_⟩;unfold zFA oN nB;conv=>zeta
 by_cases g:a.length=c.length;{have d:ine (ln a) (ln c)=false:=(by unfold ln;rw[g];exact zes _);refine zb7 d ?_;refine(zfm a c [] (λ(i:Int)=>(ln a,i,c,a,())) _ (some [.one<|.b true]) (some [.one<|.b false]) j g (λi f rec=>?_) (λrec=>?_)<|jO _).trans (zg5 _);{dsimp only;simp only[zbu f,zT f,zT<|g ▸ f,zbi f,zcW,zcO,pcI,pcN,pcB,pcE,pcA,ziM,zg8,zlm,ziN,zll,cT,cF];first|exact zfs _|exact zeB _};{dsimp only;simp only[zbh,cF]}};{have d:ine (ln a) (ln c)=true:=zgm (by unfold ln;omega);refine j0 d ?_;exact zdG (λe=>g (by rw[e]))}
def zKe:vR 203 zlr:=hF2 zos zQ zB zq zRS zQX
def z0X:zW:=[(450,zha),(468,zhY),(206,zkl),(374,zlp),(203,zlr)]++z0W
def zCr:zL z0X:=zh zdS (zh zdZ<|zh zdL<|zh zm6<|zh zKe zos)
def zAa (N:Nat)(a b:lS):OA:=
 (oN (zcR a b)<|some [aB<|zdl a b])
def zK5 (a b:List k0)(c:zcR a b=true):∃N,zAa N a b=some [aB<|zdl a b]:=by refine⟨0,?_⟩;unfold zAa oN;exact j0 rfl rfl
def zEB:vR 373 zha:=kF2 zCr zQ zB zq (zx []) zK5
def zBJ (N:Nat)(a b:lI):OA:=
 (oN (zfT a b)<|some [aB<|zhy a b])
def zNS (a b:List Ins)(c:zfT a b=true):∃N,zBJ N a b=some [aB<|zhy a b]:=by refine⟨0,?_⟩;unfold zBJ oN;exact j0 rfl rfl
def zHC:vR 441 zhY:=kF2 zCr zQ zB zq (zx []) zNS
def z0Y:zW:=[(373,zha),(441,zhY)]++z0X
def zPz:zL z0Y:=zh zEB (zh zHC zCr)
def zz9 (N:Nat)(a b:ah):OA:=
 (oN (zfT a.aw b.aw)<|cond (zhy a.aw b.aw) (cond (ieq a.A b.A) (cond (ieq a.Pc b.Pc) (oN (zcR a.az b.az)<|cond (zdl a.az b.az) (oN (zcR a.av b.av)<|cond (zdl a.av b.av) (cond (cond (ieq a.Ctl.aq b.Ctl.aq) (cond (ieq a.Ctl.Post b.Ctl.Post) (zhh a.Ctl.Open b.Ctl.Open) false) false) (cond (ieq a.ak b.ak) (cond (cond (ieq a.Exit.Kind b.Exit.Kind) (cond (ieq a.Exit.af b.Exit.af) (cond (zhh a.Exit.Write b.Exit.Write) (ieq a.Exit.N b.Exit.N) false) false) false) (cond (zhh a.aF b.aF) (oN (zcW a.aC b.aC)<|some [aB<|zcO a.aC b.aC]) oF) oF) oF) oF) oF) oF) oF) oF) oF)
def zK4 (a b:ah)(c:zhk a b=true):∃N,zz9 N a b=some [aB<|zjb a b]:=by refine⟨0,?_⟩;simp only[zz9,zfT,zhy,zcR,zdl,zcW,zcO,pcI,pcN,pcB,pcE,pcA,zLI,zDh,cT,cF,ztY];exact zn0 (by cases a;cases b;simp[ah.mk.injEq,and_assoc])
def zEA:vR 358 zlq:=kF2 zPz zQ zB zq (zx []) zK4
def z0Z:zW:=[(358,zlq)]++z0Y
def z00:zL z0Z:=zh zEA zPz
def z01:zW:=z0Z
def zPA:zL z01:=z00
def zHH:vR 376 zmH:=hF2 zPA zQ zB zq (zx []) zxW
def z02:zW:=[(376,zmH)]++z01
def zPB:zL z02:=zh zHH zPA
def zFF (N:Nat)(c f:Mon):OA:=
 (oN (zcR c.ae f.ae)<|cond (zdl c.ae f.ae) (oN (zfh c.Out f.Out)<|cond (zgE c.Out f.Out) (oN (zgd c.ar f.ar)<|cond (zhJ c.ar f.ar) (cond (ine (ln c.ac)<|ln f.ac) oF<|r0 (σ:=(Int×Int×Int×Int×Int×Int×Int×Int×lG×lG×lS×lM×lB×LI×lK×lS×lM×lB×LI×lK×Unit)) N (λu a=>let c:=a.2.2.2.2.2.2.2.2.2.2;let f:=c.2.2.2.2;let i:=c.2.2.1;let g:=a.2.2.2.2.2.2.1;let d:=a.2.1;let h:=f.2.1;let t:=f.2.2.1;let s:=f.2.2.2.1;let k:=a.2.2.2.2.2.2.2.2.1;let r:=f.2.2.2.2.2.1;let j:=a.2.2.2.2.2.2.2.2.2.1;let n:=c.2.2.2.1;let m:=f.1;let l:=f.2.2.2.2.1; (cond (ilt d a.1) (oN (inb d<|ln j)<|oN (inb d<|ln k)<|oN (zhk (ix j d zD)<|ix k d zD)<|cond (nB<|zjb (ix j d zD)<|ix k d zD) oF<|u (a.1,zK .i64 d 1,a.2.2.1,a.2.2.2.1,a.2.2.2.2.1,a.2.2.2.2.2.1,g,a.2.2.2.2.2.2.2.1,k,j,c.1,c.2.1,i,n,m,h,t,s,l,r,()))<|oN (zcW n l)<|cond (zcO n l) (cond (ieq a.2.2.1 a.2.2.2.2.2.1) (cond (ieq a.2.2.2.1 g) (cond (ine (ln m)<|ln r) oF<|r0 (σ:=(Int×Int×Int×Int×Int×Int×Int×Int×lK×lK×lS×lM×lB×lG×LI×lS×lM×lB×lG×LI×Unit)) N (λv b=>let a:=b.2.2.2.2.2.2.2;let c:=a.2.2.2.2.2.2;let e:=b.2.1;let q:=a.2.1;let p:=a.2.2.1; (cond (ilt e b.1) (oN (inb e<|ln p)<|oN (inb e<|ln q)<|oN (zjD (ix p e zex)<|ix q e zex)<|cond (nB<|zmA (ix p e zex)<|ix q e zex) oF<|v (b.1,zK .i64 e 1,b.2.2.1,b.2.2.2.1,b.2.2.2.2.1,b.2.2.2.2.2.1,b.2.2.2.2.2.2.1,a.1,q,p,a.2.2.2.1,a.2.2.2.2.1,a.2.2.2.2.2.1,c.1,c.2.1,c.2.2.1,c.2.2.2.1,c.2.2.2.2.1,c.2.2.2.2.2.1,c.2.2.2.2.2.2.1,()))<|some [aB<|ieq b.2.2.2.2.1 a.1])) (ln m,0,a.2.2.1,a.2.2.2.1,a.2.2.2.2.1,a.2.2.2.2.2.1,g,a.2.2.2.2.2.2.2.1,r,m,c.1,c.2.1,i,j,n,h,t,s,k,l,())) oF) oF) oF)) (ln c.ac,0,c.ak,c.aq,c.Own,f.ak,f.aq,f.Own,f.ac,c.ac,c.ae,c.Out,c.ar,c.Outs,c.ai,f.ae,f.Out,f.ar,f.Outs,f.ai,())) oF) oF) oF)
def zRW:=zx [(375,0,{n:=32,tm:=[(1,.sl 0 []),(2,.fn 376 []),(15,.sl 1 []),(16,ti),(17,ti)],lo:=[(0,[.sl 2 [],.sl 3 [],.sl 4 [],.sl 5 [],.sl 6 [],ti,ti,.sl 1 [],ti]),(1,[.sl 7 [],.sl 8 [],.sl 9 [],.sl 10 [],.sl 11 [],ti,ti,.sl 0 [],ti])],ro:=[(0,.kept,false),(1,.kept,false),(2,.slot,false),(3,.sl .int,false),(4,.bool,false),(5,.guest,false),(6,.int,false),(7,.slot,false),(8,.sl .int,false),(9,.bool,false),(10,.guest,false),(11,.int,false)],sk:=[(0,0,0,.sl 2 []),(0,0,1,.sl 3 []),(0,0,2,.sl 4 []),(0,0,3,.sl 5 []),(0,0,4,.sl 6 []),(0,1,0,.sl 7 []),(0,1,1,.sl 8 []),(0,1,2,.sl 9 []),(0,1,3,.sl 10 []),(0,1,4,.sl 11 []),(0,2,0,.lp 0 0),(0,3,0,.lp 1 0)]}),(357,0,{n:=32,tm:=[(1,.sl 0 []),(2,.fn 358 []),(15,.sl 1 []),(16,ti),(17,ti)],lo:=[(0,[.sl 2 [],.sl 3 [],.sl 4 [],.sl 1 [],.sl 5 [],ti,ti,.sl 6 [],ti]),(1,[.sl 7 [],.sl 8 [],.sl 9 [],.sl 0 [],.sl 10 [],ti,ti,.sl 11 [],ti])],ro:=[(0,.guest,false),(1,.guest,false),(2,.slot,false),(3,.sl .int,false),(4,.bool,false),(5,.int,false),(6,.kept,false),(7,.slot,false),(8,.sl .int,false),(9,.bool,false),(10,.int,false),(11,.kept,false)],sk:=[(0,0,0,.sl 2 []),(0,0,1,.sl 3 []),(0,0,2,.sl 4 []),(0,0,4,.sl 5 []),(0,0,7,.sl 6 []),(0,1,0,.sl 7 []),(0,1,1,.sl 8 []),(0,1,2,.sl 9 []),(0,1,4,.sl 10 []),(0,1,7,.sl 11 []),(0,2,0,.lp 0 0),(0,3,0,.lp 1 0)]})]
def zQ2 (a b:Mon)(t:zbT big [aT .mon a,aT .mon b])(w:zgF a b=true):∃N,zFF N a b=some [aB<|ziF a b]:=by
 have u:a.ac.length<=big:=((zbp t).1 (.s .guest a.ac) (by simp[AV.cvs,Ty.cells])).len;have v:a.ai.length<=big:=((zbp t).1 (.s .kept a.ai) (by simp[AV.cvs,Ty.cells])).len;refine⟨a.ac.length+a.ai.length+1,?_⟩;unfold zFF oN nB;conv=>zeta
 refine j0 rfl ?_;refine(Classical.em<|a.ae=b.ae).elim (λd=>?_) (λd=>zb7 (zhA d) (zdG λe=>d (by rw[e])));refine j0 (zY d) ?_;refine j0 rfl ?_;refine(Classical.em<|a.Out=b.Out).elim (λf=>?_) (λf=>zb7 (zhA f) (zdG λe=>f (by rw[e])));refine j0 (zY f) ?_;refine j0 rfl ?_;refine(Classical.em<|a.ar=b.ar).elim (λg=>?_) (λg=>zb7 (zhA g) (zdG λe=>g (by rw[e])));refine j0 (zY g) ?_;refine(Classical.em<|a.ac.length=b.ac.length).elim (λq=>?_) (λq=>j0 (zgm (by unfold ln;omega)) (zdG λe=>q (by rw[e])));refine zb7 (by unfold ln;rw[q];exact zes _) ?_;refine(zMO (N:=a.ac.length+a.ai.length+1) a.ac b.ac zD (λ(i:Int)=>(ln a.ac,i,a.ak,a.aq,a.Own,b.ak,b.aq,b.Own,b.ac,a.ac,a.ae,a.Out,a.ar,a.Outs,a.ai,b.ae,b.Out,b.ar,b.Outs,b.ai,())) _ (oF) u q (λi c rec=>?_) (λrec=>?_) (by omega)).trans ?_;{dsimp only;simp only[zbu c,zT c,zT<|q ▸ c,zbi c,zhk,zjb,cT,cF];first|exact zfs _|exact zeB _};{dsimp only;simp only[zbh,cF]};refine(Classical.em<|a.ac=b.ac).elim (λh=>?_) (λh=>by rw[zhA h];exact zdG λe=>h (by rw[e]));rw[zY h,cT];dsimp only;simp only[zbh,cF];refine j0 rfl ?_;refine(Classical.em<|a.Outs=b.Outs).elim (λl=>?_) (λl=>zb7 ((pcE _ _).trans (zhA l)) (zdG λe=>l (by rw[e])));refine j0 ((pcE _ _).trans (zY l)) ?_;refine(Classical.em<|a.ak=b.ak).elim (λm=>?_) (λm=>zb7 ((pcI _ _).trans (zhA m)) (zdG λe=>m (by rw[e])));refine j0 ((pcI _ _).trans (zY m)) ?_;refine(Classical.em<|a.aq=b.aq).elim (λn=>?_) (λn=>zb7 ((pcI _ _).trans (zhA n)) (zdG λe=>n (by rw[e])));refine j0 ((pcI _ _).trans (zY n)) ?_;refine(Classical.em<|a.ai.length=b.ai.length).elim (λr=>?_) (λr=>j0 (zgm (by unfold ln;omega)) (zdG λe=>r (by rw[e])));refine zb7 (by unfold ln;rw[r];exact zes _) ?_;refine(zMO (N:=a.ac.length+a.ai.length+1) a.ai b.ai zex (λ(j:Int)=>(ln a.ai,j,a.ak,a.aq,a.Own,b.ak,b.aq,b.Own,b.ai,a.ai,a.ae,a.Out,a.ar,a.ac,a.Outs,b.ae,b.Out,b.ar,b.ac,b.Outs,())) _ (oF) v r (λi c rec=>?_) (λrec=>?_) (by omega)).trans ?_;{dsimp only;simp only[zbu c,zT c,zT<|r ▸ c,zbi c,zjD,zmA,cT,cF];first|exact zfs _|exact zeB _};{dsimp only;simp only[zbh,cF]};refine(Classical.em<|a.ai=b.ai).elim (λp=>?_) (λp=>by rw[zhA p];exact zdG λe=>p (by rw[e]));rw[zY p,cT];dsimp only;simp only[zbh,cF];rw[pcI];exact zn0 (by cases a;cases b;simp only[Mon.mk.injEq] at *;exact⟨λk=>⟨d,f,g,h,l,m,n,p,k⟩,λk=>k.2.2.2.2.2.2.2.2⟩)
def zKi:vR 205 zkI:=hF2 zPB zQ zB zq zRW zQ2
def z99:zW:=[(205,zkI)]++z02
def z03:zL z99:=zh zKi zPB
def zBI (N:Nat)(b c:ad):OA:=
 (oN (zfh b.ag c.ag)<|cond (zgE b.ag c.ag) (cond (ine (ln b.aa)<|ln c.aa) oF<|r0 (σ:=(Int×Int×lN×lN×lM×lE×lE×lM×lE×lE×Unit)) N (λi a=>let b:=a.2.2.2.2.2;let f:=b.2.1;let h:=ix a.2.2.1 a.2.1 zi;let g:=ix a.2.2.2.1 a.2.1 zi;let e:=b.2.2.2.1;let d:=b.2.2.2.2.1; (cond (ilt a.2.1 a.1) (oN (inb a.2.1<|ln a.2.2.2.1)<|oN (inb a.2.1<|ln a.2.2.1)<|oN (zgF g h)<|cond (nB<|ziF g h) oF<|i (a.1,zK .i64 a.2.1 1,a.2.2.1,a.2.2.2.1,a.2.2.2.2.1,b.1,f,b.2.2.1,e,d,()))<|oN (zft b.1 e)<|cond (zgV b.1 e) (oN (zft f d)<|some [aB<|zgV f d]) oF)) (ln b.aa,0,c.aa,b.aa,b.ag,b.ao,b.an,c.ag,c.ao,c.an,())) oF)
def zOM:=zx [(204,0,{n:=32,tm:=[(1,.sl 0 []),(2,.fn 205 []),(15,.sl 1 []),(16,ti),(17,ti)],lo:=[(0,[.sl 2 [],.sl 1 [],.sl 3 [],.sl 4 []]),(1,[.sl 5 [],.sl 0 [],.sl 6 [],.sl 7 []])],ro:=[(0,.mon,false),(1,.mon,false),(2,.sl .int,false),(3,.entry,false),(4,.entry,false),(5,.sl .int,false),(6,.entry,false),(7,.entry,false)],sk:=[(0,0,0,.sl 2 []),(0,0,2,.sl 3 []),(0,0,3,.sl 4 []),(0,1,0,.sl 5 []),(0,1,2,.sl 6 []),(0,1,3,.sl 7 []),(0,2,0,.lp 0 0),(0,3,0,.lp 1 0)]})]
def zNR (a b:ad)(l:zbT big [aH a,aH b])(m:zh7 a b=true):∃N,zBI N a b=some [aB<|zkg a b]:=by
 have j:a.aa.length<=big:=((zbp l).1 (.s .mon a.aa) (by simp[AV.cvs,zbo])).len;refine⟨a.aa.length+1,?_⟩;unfold zBI oN nB;conv=>zeta
 refine j0 rfl ?_;refine(Classical.em<|a.ag=b.ag).elim (λc=>?_) (λc=>zb7 (zhA c) (zdG λe=>c (by rw[e])));refine j0 (zY c) ?_;refine(Classical.em<|a.aa.length=b.aa.length).elim (λg=>?_) (λg=>j0 (zgm (by unfold ln;omega)) (zdG λe=>g (by rw[e])));refine zb7 (by unfold ln;rw[g];exact zes _) ?_;refine(zMO (N:=a.aa.length+1) a.aa b.aa zi (λ(i:Int)=>(ln a.aa,i,b.aa,a.aa,a.ag,a.ao,a.an,b.ag,b.ao,b.an,())) _ (oF) j g (λi h rec=>?_) (λrec=>?_) (by omega)).trans ?_;{dsimp only;simp only[zbu h,zT h,zT<|g ▸ h,zbi h,zgF,ziF,cT,cF];first|exact zfs _|exact zeB _};{dsimp only;simp only[zbh,cF]};refine(Classical.em<|a.aa=b.aa).elim (λd=>?_) (λd=>by rw[zhA d];exact zdG λe=>d (by rw[e]));rw[zY d,cT];dsimp only;simp only[zbh,cF];refine j0 rfl ?_;refine(Classical.em<|a.ao=b.ao).elim (λf=>?_) (λf=>zb7 (zhA f) (zdG λe=>f (by rw[e])));refine j0 (zY f) ?_;exact j0 rfl (zn0 (by cases a;cases b;simp only[ad.mk.injEq] at *;exact⟨λk=>⟨c,d,f,k⟩,λk=>k.2.2.2⟩))
def zHB:vR 79 zmG:=hF2 z03 zQ zB zq zOM zNR
instance:Nonempty Mon:=⟨Ty.dflt .mon⟩
def zO7 (h:ad)(m:Int)(x:Mon):ad:=bif i0 m (ln h.aa) then {h with aa:=up h.aa m x} else h
def zbae:zW:=[(107,zho),(201,zuK),(121,znj),(102,zho),(200,zsI),(154,zDm)]++zMQ
def zPL:zL zbae:=zh zo2 (zh zxR<|zh zAD<|zh zug<|zh zvF<|zh zGr zd5)
@[simp] abbrev znr (h:ad)(_:Int)(x:Mon):Bool:=pc (zdY h/\ze4 x)
@[simp] abbrev ziV (h:ad)(m:Int)(x:Mon):ad:=zO7 h m x
def znK:Run:=rF3 dH dI (dT .mon) λb c d=>(znr b c d,[aH<|ziV b c d])
def zF3 (N:Nat)(a:ad)(b:Int)(d:Mon):OA:=
 let c:=(zo a).aa; (oN (zby a)<|oN (zN b 0<|wsub .i64 (ln c) 1)<|cond (zk b 0<|wsub .i64 (ln c) 1) (oN (zhE d)<|oN (inb b<|ln c)<|p0 (up c b<|zmd d) λe=>some [aH ({ (zo a) with aa:=e}:ad)])<|some [aH<|zo a])
def zRq (a:ad)(b:Int)(c:Mon)(g:znr a b c=true):∃N,zF3 N a b c=some [aH<|ziV a b c]:=by
 obtain⟨d,j⟩:=zS.1 g;have i:=(zcV ((zbc a).1 d).2.1.1).1;refine⟨0,?_⟩;unfold zF3 ziV zO7 oN;conv=>zeta
 have e:zk b 0 (wsub .i64 (ln (zo a).aa) 1)=i0 b (ln a.aa):=zvP i b;have f:zhE c=true:=zY ((zMM c).2 j);refine j0 (zbL d) (j0 rfl ?_);rw[e];cases h:i0 b (ln a.aa);{rfl};{exact j0 rfl (j0 f (j0 (zI h) rfl))}
def zKA:vR 78 znK:=kF3 zPL zQ zB zq (zx []) zRq
def zFC (N:Nat)(a:ad)(b:Int)(c:Mon):OA:=
 (oN (zby a)<|oN (zcH b<|ln a.aa)<|cond (zkf b<|ln a.aa) (oN (zja c)<|oN (inb b<|ln (zo a).aa)<|p0 (up (zo a).aa b<|zjZ c) λd=>some [aH ({ (zo a) with aa:=d}:ad)])<|some [aH<|zo a])
def zQZ (a:ad)(b:Int)(c:Mon)(d:znr a b c=true):∃N,zFC N a b c=some [aH<|ziV a b c]:=by obtain⟨f,g⟩:=zS.1 d;refine⟨0,?_⟩;unfold zFC ziV zO7 oN;refine j0 (zbL f) (j0 rfl ?_);rw[show zkf b (ln a.aa)=i0 b (ln a.aa) from rfl];cases e:i0 b (ln a.aa);{rfl};{exact j0 rfl (j0 (zbL g) (j0 (zI e) rfl))}
def zKg:vR 77 znK:=kF3 zPL zQ zB zq (zx []) zQZ
def z1y:zW:=[(78,znK),(77,znK),(107,zho)]++z6I
def zCy:zL z1y:=zh zKA (zh zKg<|zh zo2 z4r)
def zIF {l:List (List Ins)}(b:l.length<=2)(h:∀x∈l,zdg x=true):zyW l:=⟨by omega,λx a=>by have:=zuu (h x a);omega⟩
def zli (N:Nat)(j:LI):OA:=
 (r0 (σ:=(Int×Int×LI×lQ×Unit)) N (λl a=>let c:=a.2.2.1;let e:=(⟨c,0,a.1⟩:Cur);let k:=aS (.sl<|.sl .ins)<|zku e;let d:=({ (zgP e) with b:=c}:Cur);let f:=({ (zO d 4) with b:=c}:Cur);let h:=({ (zek f) with b:=c}:Cur);let i:=({ (zek h) with b:=c}:Cur);let g:=ap (zku e) [zeY f,zeY h,zeY i]; (cond (ilt a.2.1<|ln c) (cond (ilt a.2.1 4000) (oN (inb a.2.1<|ln c)<|l (wand .i64 (zK .i64 (zK .i64 (zkC .i64 a.1 131)<|wcv .i64<|ix c a.2.1 0) 7) 1073741823,zK .i64 a.2.1 1,c,a.2.2.2.1,()))<|oN (zkv e)<|oN (zck d 4)<|cond (zcC d 4) (oN (zdC f)<|oN (zdC h)<|oN (zdC i)<|oN (few<|ln g)<|some [aS (.sl<|.sl .ins) g])<|some [k])<|oN (zkv e)<|oN (zck d 4)<|cond (zcC d 4) (oN (zdC f)<|oN (zdC h)<|oN (zdC i)<|oN (few<|ln g)<|some [aS (.sl<|.sl .ins) g])<|some [k])) (zK .i64 94701<|ln j,0,j,[],()))
def zFv:=zx [(100,0,{n:=32,tm:=[(0,.sl 0 []),(3,ti),(4,ti)],lo:=[],ro:=[(0,.u8,false),(1,.sl<|.sl .ins,true)],sk:=[(0,2,0,.sl 1 [])]})]
def zoe (b:LI)(a:List (List<|List Ins)):Prop:=(∃N,zli N b=some [aS (.sl<|.sl .ins) a])/\(zvh a)
def zhc (a:LI):Bool:=uC (T:=List (List<|List Ins)) (λr=>zoe a r)
def zLV (a:LI):List (List<|List Ins):=uV (λr=>zoe a r)
def zkJ (a:LI):List (List<|List Ins):=(zLV a)
def zwg {a:LI}(h:zhc a=true):zoe a (zkJ a):=uG h
def zLU (c:LI)(h:∃N,Ends (λa=>∃b,a=[aS (.sl<|.sl .ins) b]/\(zvh b))<|zli N c):zhc c=true:=by obtain⟨N,a,e,b,rfl,h⟩:=h;exact zY ⟨b,⟨N,e⟩,h⟩
def ztb:Run:=rF1 (dS .u8) λb=>(zhc b,[aS (.sl<|.sl .ins)<|zkJ b])
def zE8 (a:LI)(b:zhc a=true):∃N,zli N a=some [aS (.sl<|.sl .ins)<|zkJ a]:=by exact(zwg b).1
def zBt:vR 65 ztb:=kF1 zCy zQ zn7 zq zFv zE8
def zAv {a:LI}(h:a.length<=big):zhc a=true:=by
 refine zLU a (zcj λN f=>?_);unfold zli oN;conv=>zeta
 refine zor h (f h) ((λi t=>(t,(i:Int),a,[],())):Int->Int->_) (λrec i t=>by dsimp only) (λt e=>?_);have g:=(zzX<|zR6 e).2.2;have S:∀p∈zku ⟨a,0,t⟩,zyW p:=λp d=>zIF (g.2.2 p d).2.1 (g.2.2 p d).2.2;have P:∀{c:Cur},zbf c->zyW (zeY c):=λe=>have k:=(zp5<|zoz e).2.2;zIF k.2.1 k.2.2;have j:=zsG h (zb5 {zgP ⟨a,0,t⟩ with b:=a} 4);have l:=zsG h (zp6 {zO {zgP ⟨a,0,t⟩ with b:=a} 4 with b:=a});have m:=zsG h (zp6 {zek {zO {zgP ⟨a,0,t⟩ with b:=a} 4 with b:=a} with b:=a});refine zu (zR6 e) (zu (zh8 (zsG h<|zL3 _) 4)<|zbz (λ_=>zu (zoz j) (zu (zoz l)<|zu (zoz m)<|zu (zjz ?_) ⟨_,rfl,_,rfl,?_,λp d=>?_⟩)) λ_=>⟨_,rfl,zku ⟨a,0,t⟩,rfl,by omega,S⟩);{simp only [ln,ap,jR,qW,jZ];omega};{simp only [ap,jR,qW,jZ];omega};{rcases jJ.1 d with d|d;{exact S p d};{rcases qG.1 d with rfl|d;{exact P j};{rcases qG.1 d with rfl|d;{exact P l};{rw [qD.1 d];exact P m}}}}
def zlh (N:Nat)(i:LI):OA:=
 (r0 (σ:=(Int×Int×LI×lP×Unit)) N (λj a=>let c:=a.2.2.1;let d:=(⟨c,0,a.1⟩:Cur);let e:=({ (zek d) with b:=c}:Cur);let f:=({ (zO e 4) with b:=c}:Cur);let h:=({ (zbb f) with b:=c}:Cur);let g:=ap (zeY d) [zbY f,zl8 h]; (cond (ilt a.2.1<|ln c) (cond (ilt a.2.1 4000) (oN (inb a.2.1<|ln c)<|j (wand .i64 (zK .i64 (zK .i64 (zkC .i64 a.1 131)<|wcv .i64<|ix c a.2.1 0) 7) 1073741823,zK .i64 a.2.1 1,c,a.2.2.2.1,()))<|oN (zdC d)<|oN (zck e 4)<|cond (zcC e 4) (oN (zfG f)<|oN (zgx h)<|oN (few<|ln g)<|some [aS (.sl .ins) g])<|some [aS (.sl .ins)<|zeY d])<|oN (zdC d)<|oN (zck e 4)<|cond (zcC e 4) (oN (zfG f)<|oN (zgx h)<|oN (few<|ln g)<|some [aS (.sl .ins) g])<|some [aS (.sl .ins)<|zeY d])) (zK .i64 94701<|ln i,0,i,[],()))
def zFu:=zx [(100,0,{n:=32,tm:=[(0,.sl 0 []),(3,ti),(4,ti)],lo:=[],ro:=[(0,.u8,false),(1,.sl .ins,true)],sk:=[(0,2,0,.sl 1 [])]})]
def zod (b:LI)(a:List (List Ins)):Prop:=(∃N,zlh N b=some [aS (.sl .ins) a])/\(zyW a)
def zhb (a:LI):Bool:=uC (T:=List (List Ins)) (λr=>zod a r)
def zLT (a:LI):List (List Ins):=uV (λr=>zod a r)
def znM (a:LI):List (List Ins):=(zLT a)
def zwf {a:LI}(h:zhb a=true):zod a (znM a):=uG h
def zLS (c:LI)(h:∃N,Ends (λa=>∃b,a=[aS (.sl .ins) b]/\(zyW b))<|zlh N c):zhb c=true:=by obtain⟨N,a,e,b,rfl,h⟩:=h;exact zY ⟨b,⟨N,e⟩,h⟩
def zta:Run:=rF1 (dS .u8) λb=>(zhb b,[aS (.sl .ins)<|znM b])
def zE7 (a:LI)(b:zhb a=true):∃N,zlh N a=some [aS (.sl .ins)<|znM a]:=by exact(zwf b).1
def zBs:vR 189 zta:=kF1 zCy zQ zn7 zq zFu zE7
def zAu {a:LI}(h:a.length<=big):zhb a=true:=by
 refine zLS a (zcj λN d=>?_);unfold zlh oN;conv=>zeta
 refine zor h (d h) ((λi t=>(t,(i:Int),a,[],())):Int->Int->_) (λrec i t=>by dsimp only) (λt e=>?_);have k:=(zp5<|zoz e).2.2;have S:=zIF k.2.1 k.2.2;have f:=zsG h (zb5 {zek ⟨a,0,t⟩ with b:=a} 4);have g:=zsG h (zhN {zO {zek ⟨a,0,t⟩ with b:=a} 4 with b:=a});have j:=(znu<|zuv f).2.2;have l:=(zq3<|zvj g).2.2;refine zu (zoz e) (zu (zh8 (zsG h<|zp6 _) 4)<|zbz (λ_=>zu (zuv f) (zu (zvj g)<|zu (zjz ?_) ⟨_,rfl,_,rfl,?_,λp c=>?_⟩)) λ_=>⟨_,rfl,zeY ⟨a,0,t⟩,rfl,S⟩);{simp only [ln,ap,jR,qW,jZ];omega};{simp only [ap,jR,qW,jZ];omega};{rcases jJ.1 c with c|c;{exact S.2 p c};{rcases qG.1 c with rfl|c;{exact qU (zuu j) (by decide)};{rw [qD.1 c];exact qU l (by decide)}}}
def z1z:zW:=[(189,zta)]++z1y
def zr3:zL z1z:=zh zBs zCy
def zmk (N:Nat)(a:LI):OA:=
 (oN (zhb a)<|some [aS (.sl .ins)<|znM a])
def zpz (b:LI)(a:List (List Ins)):Prop:=(∃N,zmk N b=some [aS (.sl .ins) a])/\(zyW a)
def zhZ (a:LI):Bool:=uC (T:=List (List Ins)) (λr=>zpz a r)
def zOC (a:LI):List (List Ins):=uV (λr=>zpz a r)
def zlY (a:LI):List (List Ins):=(zOC a)
def zyy {a:LI}(h:zhZ a=true):zpz a (zlY a):=uG h
def zOB (c:LI)(h:∃N,Ends (λa=>∃b,a=[aS (.sl .ins) b]/\(zyW b))<|zmk N c):zhZ c=true:=by obtain⟨N,a,e,b,rfl,h⟩:=h;exact zY ⟨b,⟨N,e⟩,h⟩
def zuF:Run:=rF1 (dS .u8) λb=>(zhZ b,[aS (.sl .ins)<|zlY b])
def zIn (a:LI)(b:zhZ a=true):∃N,zmk N a=some [aS (.sl .ins)<|zlY a]:=by exact(zyy b).1
def zCP:vR 67 zuF:=kF1 zr3 zQ zn7 zq (zx []) zIn
def zCB {a:LI}(h:a.length<=big):zhZ a=true:=by refine zOB a ⟨0,?_⟩;unfold zmk oN;exact zu (zAu h) ⟨_,rfl,_,rfl,(zwf<|zAu h).2⟩
def zlj (N:Nat)(g:LI):OA:=
 (r0 (σ:=(Int×Int×Int×Int×Int×LI×lM×lN×lE×lE×lS×lM×lB×lG×LI×lK×Unit)) N (λi a=>let g:=a.2.2.2.2.2.2.2;let j:=g.2.2.2.2;let c:=a.2.2.2.2.2.1;let f:=(⟨c,0,a.1⟩:Cur);let d:=({ (zhD f) with b:=c}:Cur);let e:=({ (zmc d) with b:=c}:Cur);let h:=aT .mon<|ix (zi0 e).aa 0 zi; (cond (ilt a.2.1<|ln c) (cond (ilt a.2.1 4000) (oN (inb a.2.1<|ln c)<|i (wand .i64 (zK .i64 (zK .i64 (zkC .i64 a.1 131)<|wcv .i64<|ix c a.2.1 0) 7) 1073741823,zK .i64 a.2.1 1,a.2.2.1,a.2.2.2.1,a.2.2.2.2.1,c,a.2.2.2.2.2.2.1,g.1,g.2.1,g.2.2.1,g.2.2.2.1,j.1,j.2.1,j.2.2.1,j.2.2.2.1,j.2.2.2.2.1,()))<|oN (zev f)<|oN (ziZ d)<|oN (zjk e)<|oN (inb 0<|ln (zi0 e).aa)<|some [aH<|zcr f,aI<|zq4 d,h])<|oN (zev f)<|oN (ziZ d)<|oN (zjk e)<|oN (inb 0<|ln (zi0 e).aa)<|some [aH<|zcr f,aI<|zq4 d,h])) (zK .i64 94701<|ln g,0,0,0,0,g,[],[],[],[],[],[],[],[],[],[],()))
def zFw:=zx [(100,0,{n:=32,tm:=[(0,.sl 0 []),(3,ti),(4,ti)],lo:=[(0,[.sl 1 [],.sl 2 [],.sl 3 [],.sl 4 []]),(1,[.sl 5 [],.sl 6 [],.sl 7 [],.sl 8 [],.sl 9 [],ti,ti,.sl 10 [],ti])],ro:=[(0,.u8,false),(1,.sl .int,true),(2,.mon,true),(3,.entry,true),(4,.entry,true),(5,.slot,true),(6,.sl .int,true),(7,.bool,true),(8,.guest,true),(9,.int,true),(10,.kept,true)],sk:=[(0,2,0,.lp 0 0),(0,4,0,.lp 1 0)]})]
def zof (c:LI)(a:ad)(d:Int)(b:Mon):Prop:=(∃N,zlj N c=some [aH a,aI d,aT .mon b])/\(AnyH a/\ze4 b)
def zhd (a:LI):Bool:=uC (T:=ad×Int×Mon) (λr=>zof a r.1 r.2.1 r.2.2)
def zpA (a:LI):ad×Int×Mon:=uV (λr=>zof a r.1 r.2.1 r.2.2)
def ziO (a:LI):ad:=(zpA a).1
def ziP (a:LI):Int:=(zpA a).2.1
def ziQ (a:LI):Mon:=(zpA a).2.2
def zwh {a:LI}(h:zhd a=true):zof a (ziO a) (ziP a) (ziQ a):=uG h
def zLW (f:LI)(h:∃N,Ends (λa=>∃b d c,a=[aH b,aI d,aT .mon c]/\(AnyH b/\ze4 c))<|zlj N f):zhd f=true:=by obtain⟨N,a,e,b,d,c,rfl,h⟩:=h;exact zY ⟨(b,d,c),⟨N,e⟩,h⟩
def ztc:Run:=rF1 (dS .u8) λb=>(zhd b,[aH<|ziO b,aI<|ziP b,aT .mon<|ziQ b])
def zE9 (a:LI)(b:zhd a=true):∃N,zlj N a=some [aH<|ziO a,aI<|ziP a,aT .mon<|ziQ a]:=by exact(zwh b).1
def zBu:vR 74 ztc:=kF1 zr3 zQ zn7 zq zFw zE9
def zAw {a:LI}(h:a.length<=big):zhd a=true:=by
 refine zLW a (zcj λN d=>?_);unfold zlj oN;conv=>zeta
 refine zor h (d h) ((λi t=>(t,(i:Int),0,0,0,a,[],[],[],[],[],[],[],[],[],[],())):Int->Int->_) (λrec i t=>by dsimp only) (λt e=>?_);have A:=(zp7<|zo0 e).2.2;have g:=zsG h (zzY ⟨a,0,t⟩);have f:=zsG h (z2T {zhD ⟨a,0,t⟩ with b:=a});obtain⟨S,sm⟩:=zUe (zxb<|zKV f).2.2;have B:=zU9 S sm;generalize j:zi0 {zmc {zhD ⟨a,0,t⟩ with b:=a} with b:=a}=H at *;have c:inb 0 (ln H.aa)=true:=qK (by have:=B.n1;unfold ln;omega);exact zu (zo0 e) (zu (z9Q g)<|zu (zKV f)<|zu c ⟨_,rfl,zcr ⟨a,0,t⟩,_,ix H.aa 0 zi,rfl,A,(B.mons _<|zbE c _).sm⟩)
def znB (N:Nat)(d:LI):OA:=
 (r0 (σ:=(Int×Int×Int×Int×Int×LI×lS×lM×lB×lG×LI×lK×Unit)) N (λf a=>let d:=a.2.2.2.2.2;let c:=d.1;let b:=(⟨c,0,a.1⟩:Cur);let e:=aT .mon<|ix (zcr b).aa 0 zi; (cond (ilt a.2.1<|ln c) (cond (ilt a.2.1 4000) (oN (inb a.2.1<|ln c)<|f (wand .i64 (zK .i64 (zK .i64 (zkC .i64 a.1 131)<|wcv .i64<|ix c a.2.1 0) 7) 1073741823,zK .i64 a.2.1 1,a.2.2.1,a.2.2.2.1,a.2.2.2.2.1,c,d.2.1,d.2.2.1,d.2.2.2.1,d.2.2.2.2.1,d.2.2.2.2.2.1,d.2.2.2.2.2.2.1,()))<|oN (zev b)<|oN (inb 0<|ln (zcr b).aa)<|some [e])<|oN (zev b)<|oN (inb 0<|ln (zcr b).aa)<|some [e])) (zK .i64 94701<|ln d,0,0,0,0,d,[],[],[],[],[],[],()))
def zMv:=zx [(100,0,{n:=32,tm:=[(0,.sl 0 []),(3,ti),(4,ti)],lo:=[(0,[.sl 1 [],.sl 2 [],.sl 3 [],.sl 4 [],.sl 5 [],ti,ti,.sl 6 [],ti])],ro:=[(0,.u8,false),(1,.slot,true),(2,.sl .int,true),(3,.bool,true),(4,.guest,true),(5,.int,true),(6,.kept,true)],sk:=[(0,2,0,.lp 0 0)]})]
def zqX (a:LI)(b:Mon):Prop:=(∃N,znB N a=some [aT .mon b])/\(True)
def zix (a:LI):Bool:=uC (T:=Mon) (λr=>zqX a r)
def zRF (a:LI):Mon:=uV (λr=>zqX a r)
def zhL (a:LI):Mon:=(zRF a)
def zRD {a:LI}(h:zix a=true):zqX a (zhL a):=uG h
def zRE (c:LI)(h:∃N,Ends (λa=>∃b,a=[aT .mon b]/\(True))<|znB N c):zix c=true:=by obtain⟨N,a,e,b,rfl,h⟩:=h;exact zY ⟨b,⟨N,e⟩,h⟩
def zv8:Run:=rF1 (dS .u8) λb=>(zix b,[aT .mon<|zhL b])
def zLg (a:LI)(b:zix a=true):∃N,znB N a=some [aT .mon<|zhL a]:=by exact(zRD b).1
def zEM:vR 76 zv8:=kF1 zr3 zQ zn7 zq zMv zLg
def zWi {a:LI}(h:a.length<=big):zix a=true:=by
 refine zRE a (zcj λN b=>?_);unfold znB oN;conv=>zeta
 refine zor h (b h) ((λi t=>(t,(i:Int),0,0,0,a,[],[],[],[],[],[],())):Int->Int->_) (λrec i t=>by dsimp only) (λt d=>?_);have A:=(zp7<|zo0 d).2.2;have c:inb 0 (ln (zcr ⟨a,0,t⟩).aa)=true:=qK (by have:=A.n1;unfold ln;omega);exact zu (zo0 d) (zu c ⟨_,rfl,ix (zcr ⟨a,0,t⟩).aa 0 zi,rfl,trivial⟩)
def zj5 (N:Nat)(q:LI):OA:=
 (r0 (σ:=(Int×Int×LI×lM×lN×lE×lE×lM×lN×lE×lE×Unit)) N (λt c=>let o:=c.2.2.2.2.2;let d:=c.2.2.1;let i:=(⟨d,0,c.1⟩:Cur);let f:=aH<|zcr i;let e:=zo<|zcr i;let g:=inb 0<|ln e.aa;let n:=ix e.aa 0 zi;let j:=ap [true] n.ar;let s:=up e.aa 0 ({n with ar:=j}:Mon);let r:=up e.aa 0 ({n with Own:=(zK .i64 n.Own 1)}:Mon);let m:=({ (zhD i) with b:=d}:Cur);let a:=zn m 6;let k:=({ (zf m 6) with b:=d}:Cur);let p:=ap e.ao [zkr k];let l:=aH ({e with ao:=p}:ad); (cond (ilt c.2.1<|ln d) (cond (ilt c.2.1 4000) (oN (inb c.2.1<|ln d)<|t (wand .i64 (zK .i64 (zK .i64 (zkC .i64 c.1 131)<|wcv .i64<|ix d c.2.1 0) 7) 1073741823,zK .i64 c.2.1 1,d,c.2.2.2.1,c.2.2.2.2.1,o.1,o.2.1,o.2.2.1,o.2.2.2.1,o.2.2.2.2.1,o.2.2.2.2.2.1,()))<|oN (zev i)<|oN (zby<|zcr i)<|oN (zA m 6)<|cond (ieq a 0) (oN g<|oN g<|p0 r λh=>some [f,aH ({e with aa:=h}:ad)])<|cond (ieq a 1) (oN (zf2 k)<|oN (few<|ln p)<|some [f,l])<|cond (ieq a 2) (oN g<|oN (few<|ln j)<|oN g<|p0 s λh=>some [f,aH ({e with aa:=h}:ad)])<|cond (ieq a 3) (oN (zev k)<|some [f,aH<|zcr k])<|some [f,aH e])<|oN (zev i)<|oN (zby<|zcr i)<|oN (zA m 6)<|cond (ieq a 0) (oN g<|oN g<|p0 r λh=>some [f,aH ({e with aa:=h}:ad)])<|cond (ieq a 1) (oN (zf2 k)<|oN (few<|ln p)<|some [f,l])<|cond (ieq a 2) (oN g<|oN (few<|ln j)<|oN g<|p0 s λh=>some [f,aH ({e with aa:=h}:ad)])<|cond (ieq a 3) (oN (zev k)<|some [f,aH<|zcr k])<|some [f,aH e])) (zK .i64 94701<|ln q,0,q,[],[],[],[],[],[],[],[],()))
def zDP:=zx [(100,0,{n:=32,tm:=[(0,.sl 0 []),(3,ti),(4,ti)],lo:=[(0,[.sl 1 [],.sl 2 [],.sl 3 [],.sl 4 []]),(1,[.sl 5 [],.sl 6 [],.sl 7 [],.sl 8 []])],ro:=[(0,.u8,false),(1,.sl .int,true),(2,.mon,true),(3,.entry,true),(4,.entry,true),(5,.sl .int,true),(6,.mon,true),(7,.entry,true),(8,.entry,true)],sk:=[(0,2,0,.lp 0 0),(0,3,0,.lp 1 0)]})]
def zm2 (a:LI)(b:ad)(c:ad):Prop:=(∃N,zj5 N a=some [aH b,aH c])/\(True)
def zgt (a:LI):Bool:=uC (T:=ad×ad) (λr=>zm2 a r.1 r.2)
def zuM (a:LI):ad×ad:=uV (λr=>zm2 a r.1 r.2)
def zeF (a:LI):ad:=(zuM a).1
def zeG (a:LI):ad:=(zuM a).2
def zIJ {a:LI}(h:zgt a=true):zm2 a (zeF a) (zeG a):=uG h
def zIK (d:LI)(h:∃N,Ends (λa=>∃b c,a=[aH b,aH c]/\(True))<|zj5 N d):zgt d=true:=by obtain⟨N,a,e,b,c,rfl,h⟩:=h;exact zY ⟨(b,c),⟨N,e⟩,h⟩
def zsm:Run:=rF1 (dS .u8) λb=>(zgt b,[aH<|zeF b,aH<|zeG b])
def zC4 (a:LI)(b:zgt a=true):∃N,zj5 N a=some [aH<|zeF a,aH<|zeG a]:=by exact(zIJ b).1
def zzo:vR 75 zsm:=kF1 zr3 zQ zn7 zq zDP zC4
def zMU {a:LI}(h:a.length<=big):zgt a=true:=by
 refine zIK a (zcj λN d=>?_);unfold zj5 oN;conv=>zeta
 refine zor h (d h) ((λi t=>(t,(i:Int),a,[],[],[],[],[],[],[],[],())):Int->Int->_) (λrec i t=>by dsimp only) (λt e=>?_);have A:=(zp7<|zo0 e).2.2;have j:=zsG h (zzY ⟨a,0,t⟩);have f:=zsG h (zF {zhD ⟨a,0,t⟩ with b:=a} 6);have g:=(zbc _).2 A.sm;have c:inb 0 (ln (zo<|zcr ⟨a,0,t⟩).aa)=true:=qK (by have:=A.n1;show (0:Int)<=0/\(0:Int)<((zcr ⟨a,0,t⟩).aa.length:Int);omega)
 have k:=((A.mons _<|zbE c zi).sm).2.2.1;refine zu (zo0 e) (zu (zY g)<|zu (zbA j 6) (zbz (λ_=>zu c (zu c<|zjx ⟨_,rfl,zcr ⟨a,0,t⟩,_,rfl,trivial⟩))
  (λ_=>zbz (λ_=>zu (zD3 f) (zu (zfO ?_) ⟨_,rfl,zcr ⟨a,0,t⟩,{zo (zcr ⟨a,0,t⟩) with ao:=_},rfl,trivial⟩))
  (λ_=>zbz (λ_=>zu c (zu (zfO ?_)<|zu c<|zjx ⟨_,rfl,zcr ⟨a,0,t⟩,{zo (zcr ⟨a,0,t⟩) with aa:=_},rfl,trivial⟩))
  (λ_=>zbz (λ_=>zu (zo0 f) ⟨_,rfl,zcr ⟨a,0,t⟩,zcr _,rfl,trivial⟩) λ_=>⟨_,rfl,zcr ⟨a,0,t⟩,zo<|zcr ⟨a,0,t⟩,rfl,trivial⟩)))))
 {have:=A.b1;simp only[ap,jR,qW,jZ];show (zcr ⟨a,0,t⟩).ao.length+(0+1)<=_;omega};{simp only [ap,jR,qW,jZ];omega}
def z1A:zW:=[(65,ztb),(67,zuF),(74,ztc),(76,zv8),(75,zsm)]++z1z
def zPM:zL z1A:=zh zBt (zh zCP<|zh zBu<|zh zEM<|zh zzo zr3)
def zUi {d b:Type}{f:d->b}{l:List d}{x:b}{c:List b}(h:l.map f=x::c):∃a r,l=a::r/\f a=x/\r.map f=c:=by cases l with|nil=>cases h|cons a r=>simp only[jF,List.cons.injEq]at h;exact⟨a,r,rfl,h.1,h.2⟩
def zbaG {a:AV}{b:CTy}(h:some a.sh=some (false,[b])):∃c,a = .one c/\c.ty=b:=by cases a with|one c=>simp only[AV.sh,qC,jS,List.cons.injEq,and_true,true_and]at h;exact⟨c,rfl,h⟩|agg l=>simp[AV.sh]at h
def sh_s {a:AV}{t:Ty}(h:some a.sh=some (false,[.s t])):∃l:List t.den,a = .one (.s t l):=by obtain⟨c,rfl,b⟩:=zbaG h;obtain⟨l,rfl⟩:=zmq b;exact⟨l,rfl⟩
section
open Go Go.ChangeShapes Go.WideShapes Go.ChangeAt
abbrev zNO (_:LI):Bool:=true
abbrev zK1 (l:LI):Bool:=igt (ln l) 1048576
def zQj:Run:=rF1 (dS .u8) λb=>(zNO b,[aB<|zK1 b])
def zXs (N:Nat)(a:LI):OA:=
 (some [aB<|igt (ln a) 1048576])
def z2a (a:LI)(b:zNO a=true):∃N,zXs N a=some [aB<|zK1 a]:=by refine⟨0,?_⟩;unfold zXs;first|rfl|(simp only [*,zK1,cT,cF]<;>rfl)|simp_all[Ty.cells,zK1]
def zWq:vR 9 zQj:=kF1 zPM zQ zB zq (zx []) z2a
def z6R:zW:=[(9,zQj),(66,ziu),(62,ziu),(68,zjN),(70,zjN),(24,zmG),(69,zkI),(72,zwZ),(73,zw0),(79,zmG),(80,zk7),(81,zk7),(82,zjL),(28,zjL),(83,zuJ)]++z1A
def z4s:zL z6R:=zh zWq (zh zvE<|zh zvM<|zh zxK<|zh zxO<|zh zHI<|zh zvG<|zh zAy<|zh zAB<|zh zHB<|zh zAz<|zh zAC<|zh zxI<|zh zxL<|zh zxM zPM)
def nN {b:Bool}(h:b=true):(cond b false true)=false:=by rw[h];rfl
def zEj (x:Bool):(cond (zhh x x) false true)=false:=by rw[z0P];rfl
def zbay:zvh [[[(⟨7,0⟩:Ins)]]]:=⟨by decide,λp a=>by
 rw[qD.1 a];exact⟨by decide,λx b=>by rw[qD.1 b];decide⟩⟩
def z9g {a:List (List<|List Ins)}{x:Mon}(h:x∈(zcS a).aa):ine (zzO x.ae) 0=false:=by obtain⟨p,_,rfl⟩:=jD.1 h;rfl
def z9f (a:List (List<|List Ins)):ieq (ln (zcS a).aa) (zgp 3<|ln a)=true:=by have b:(zcS a).aa.length=min 3 a.length:=(by simp[zcS]);unfold ln zgp;rw[b];refine qK ?_;split<;>omega
def zmj (N:Nat)(a:LI):OA:=
 let j:=ziQ a;let i:=ziP a;let h:=ziO a;let f:=zlY a;let d:=zkL a;let m:=zeH [[[(⟨7,0⟩:Ins)]]];let e:=zkJ a;let g:=zeH e;let b:=zkK a; (oN (zNO a)<|cond (zK1 a) oT<|oN (zhc a)<|oN (zjd e)<|oN (zhZ a)<|oN (zhB f)<|oN (zjd e)<|oN (zh7 g<|zeH e)<|cond (nB<|zkg g<|zeH e) oF<|oN (zhB f)<|oN (zgF (zkn f)<|zkn f)<|cond (nB<|ziF (zkn f)<|zkn f) oF<|oN (ziw a)<|oN (zov b d)<|oN (zDA b d)<|oN (zhd a)<|oN (zgt a)<|oN (zix a)<|cond (nB<|zhh (zvO b d)<|zwt b d) oF<|oN (zgF (zsg b d)<|zso b d)<|cond (nB<|ziF (zsg b d)<|zso b d) oF<|oN (znr h i j)<|oN (znr h i j)<|oN (zh7 (ziV h i j)<|ziV h i j)<|cond (nB<|zkg (ziV h i j)<|ziV h i j) oF<|oN (zh7 (zeF a)<|zeG a)<|oN (zh7 (zeF a)<|zeG a)<|cond (nB<|zhh (zkg (zeF a)<|zeG a)<|zkg (zeF a)<|zeG a) oF<|oN (zgU<|zhL a)<|oN (zgU<|zhL a)<|cond (nB<|zhh (zhW<|zhL a)<|zhW<|zhL a) oF<|oN (zeb b)<|oN (zeb b)<|cond (nB<|zhh (zea b)<|zea b) oF<|r0 (σ:=(Int×lQ×lM×lN×lE×lE×Unit)) N (λn c=>let l:=c.2.2.2.1;let k:=(ix l c.1 zi).ae; (cond (ilt c.1<|ln l) (oN (inb c.1<|ln l)<|oN (zzP k)<|cond (ine (zzO k) 0) oF<|n (zK .i64 c.1 1,c.2.1,c.2.2.1,l,c.2.2.2.2.1,c.2.2.2.2.2.1,()))<|oN (zjd [[[(⟨7,0⟩:Ins)]]])<|cond (ieq (ln l)<|zgp 3<|ln c.2.1) (oN (zeb m)<|cond (zea m) (some [aB<|ieq (ln m.aa) 1]) oF) oF)) (0,e,g.ag,g.aa,g.ao,g.an,()))
def zu1:=zx [(7,0,{n:=154,tm:=[(3,.sl 0 []),(4,.lp 0 0),(19,ti)],lo:=[(0,[.sl 1 [],.sl 2 [],.sl 3 [],.sl 4 []])],ro:=[(0,.sl<|.sl .ins,true),(1,.sl .int,true),(2,.mon,true),(3,.entry,true),(4,.entry,true)]})]
def zLu (N:Nat)(a:LI):evalFn (cQ z6R z5a zOv z0y) zu1 N 12 7 [aS .u8 a]=zmj N a:=by kernel_rfl
def zEx (N:Nat)(c:LI)(e:c.length<=big)(q:4<N):Ends (λa=>a=[.one<|.b true]) (zmj N c):=by
 unfold zmj oN nB;conv=>zeta
 have P:=(zwg<|zAv e).2;have Q:=(zyy<|zCB e).2;have A:=(zBc<|zXU e).2;have B:=(zwh<|zAw e).2;refine zu rfl (zbz (λ_=>zt4 rfl) λ_=>zu (zAv e) ?_);generalize zkJ c=d at P;refine zu (zY P) (zu (zCB e) ?_);generalize zlY c=x at Q;have h:=(zbc _).2 A.sm;have j:=(zbc _).2 B.1.sm;refine zu (zY Q) (zu (zY P) (zu rfl (zms (nN (zY rfl))<|zu (zY Q) (zu rfl (zms (nN (zY rfl))<|zu (zXU e)<|zu (zY h)<|zu (zY h)<|zu (zAw e)<|zu (zMU e)<|zu (zWi e) ?_)))));generalize zkK c=u at h;generalize zkL c=y;generalize ziO c=v at B j;generalize ziP c=z;generalize ziQ c=C at B;generalize zeF c=w;generalize zeG c=D;generalize zhL c=k;refine zms (zEj _) (zu rfl (zms (nN (zY rfl))<|zu (zY ⟨j,B.2⟩)<|zu (zY ⟨j,B.2⟩) (zu rfl (zms (nN (zY rfl)) (zu rfl (zu rfl (zms (zEj _) (zu rfl (zu rfl (zms (zEj _) (zu rfl (zu rfl (zms (zEj _) ?_)))))))))))));have t:(zcS d).aa.length<=3:=(by simp[zcS];omega);refine zlG (λn s=>∃i:Nat,s=((i:Int),d,(zcS d).ag,(zcS d).aa,(zcS d).ao,(zcS d).an,())/\i+n=(zcS d).aa.length) ?_ N (zcS d).aa.length _ ⟨0,rfl,by omega⟩ (by omega);rintro n s rec ⟨i,rfl,r⟩ g;dsimp only;refine zbz (λl=>?_) (λ_=>?_);{have f:(i:Int)<ln (zcS d).aa:=qF l;have m:inb (i:Int) (ln (zcS d).aa)=true:=zI (zG.2 ⟨by omega,f⟩);unfold ln at f;have p:zK .i64 (i:Int) 1=((i+1:Nat):Int):=(by rw[zrb (by omega) (by omega)];omega);exact zu m (zu rfl (zms (z9g<|zbE m _)<|g (n-1) _ (by omega) ⟨i+1,by rw[p],by omega⟩))};{exact zu (zY zbay) (zu (z9f d) (zu rfl (zu (by decide) (zt4 rfl))))}
def zG9 (d:LI)(h:∀c∈zy [aS .u8 d],CVOk c):∃N,zmj N d=some [.one<|.b true]:=by have e:zbT big [aS .u8 d]:=λc f=>CVB.of_ok (h c f);have g:=len0 e;exact⟨5,z8G (G:=λa=>a=[.one<|.b true])<|zEx 5 d g (by decide)⟩
def zDG:Tryz.f7.params.toList.map (zcE Tryz.prog 4)=[some (false,[.s .u8])]:=by kernel_rfl
def zyZ:zXq 7 Tryz.f7.params.toList:=by refine zV8 z4s zQ zB zq (zjs (by kernel_rfl)) ?_;intro c hg;obtain⟨a,e⟩:=hg;rw[zDG]at a;obtain⟨h,g,rfl,d,a⟩:=zUi a;cases List.map_eq_nil_iff.1 a;obtain⟨b,rfl⟩:=sh_s d;obtain⟨N,f⟩:=zG9 b e;exact⟨zu1,N,12,(zLu N b).trans f⟩
def zFs (H:Type)(a:List (DataW H))(h:a.length=Tryz.f7.params.toList.length):Rows.fnMachinesSpec.fn H a={results:=[.lit<|.bool true],args:=a}:=by
 have b:a.length=1:=h.trans (by kernel_rfl)
 match a,b with
 |[d],_=>rfl
set_option maxRecDepth 100000 in
def zBF (g:Os)(a:g.Started)(H:Type)(enc:TypeId×Value->H) :
 ReturnsInHanded {} Tryz.checked g 7 .any (Rows.fnMachinesSpec.pre6 enc Tryz.prog Tryz.f7 Rows.fnMachinesRow.domain false) (Rows.fnMachinesSpec.post enc Tryz.prog Tryz.f7 false true false false):=by
 refine returnsInHanded_of_change_shaped (C:=Tryz.checked) own a (by kernel_rfl) Tryz.func7
  (ChangeSpec.witness6 (enc:=enc) (C:=Tryz.checked) false ⟨#[],#[.slice none 0 0],[]⟩ 8 (by kernel_rfl) (by kernel_rfl) (by kernel_rfl) (by kernel_rfl)) ?_
 intro W d c h i b e j _ f _ _;exact zK2 (P:=Tryz.prog) z3M z4Q rfl zFs (by kernel_rfl) (B:=4) (by kernel_rfl) (by kernel_rfl) zyZ W d c h i b e j f
end
end
end Go.Proofs.YtapgkefgcbapcaaGreat.E
