/- What is proved here: a part of the proof of the claim. -/
import Derived.Test.YtapgkefgcbapcaaGreatU4
import Derived.Shelf.Bits.Mul64
import Derived.Ground.NamesProg
import Derived.Laws.CopyOwn
import Derived.Deep.RegionLaw
namespace Go.Proofs.YtapgkefgcbapcaaGreat.E
open Go
set_option linter.defProp false
set_option linter.constructorNameAsVariable false
set_option linter.unusedVariables false
set_option maxRecDepth 100000
set_option linter.unusedSimpArgs false
set_option linter.unusedSectionVars false
noncomputable section
def z1h {a c b:Type}(r:Option b):∀(l:List a) (i:Nat) (t:c),goL (λ_ _ _ _=>r) (λ_=>r) l i t=r
 |[],_,_=>rfl
 |_::_,_,_=>rfl
def zuZ (N:Nat)(d:ad)(f:Int):OA:=
 (iter (σ:=(Int×Int×lM×lN×lE×lE×Unit)) N (λg b=>cond (ilt b.2.1<|ln b.2.2.2.1) (cond (ige b.1 0) (iter (σ:=(Int×Int×Int×lM×lN×lE×lE×Unit)) N (λh a=>let b:=a.2.2.2.2;let c:=b.1;let e:=(ix c a.2.1 zi).ae; (oN (inb a.2.1<|ln c)<|cond (ilt a.2.2.1<|ln e) (oN (inb a.2.1<|ln c)<|oN (inb a.2.2.1<|ln e)<|cond (ieq (ix e a.2.2.1 zbe).af a.1) (some [aI a.2.1,aI a.2.2.1])<|h (a.1,a.2.1,zM .i64 a.2.2.1 1,a.2.2.2.1,c,b.2.1,b.2.2.1,()))<|g (a.1,zM .i64 a.2.1 1,a.2.2.2.1,c,b.2.1,b.2.2.1,()))) (b.1,b.2.1,0,b.2.2.1,b.2.2.2.1,b.2.2.2.2.1,b.2.2.2.2.2.1,()))<|some [aI<|-1,aI<|-1])<|some [aI<|-1,aI<|-1]) (f,0,d.ag,d.aa,d.ao,d.an,()))
def zFe:=zA [(443,0,{n:=44,tm:=[(1,ti),(2,.lp 0 0),(6,ti)],lo:=[(0,[.sl 0 [],.sl 1 [],.sl 2 [],.sl 3 []])],ro:=[(0,.sl .int,false),(1,.mon,false),(2,.entry,false),(3,.entry,false)]}),(443,2,{n:=44,tm:=[(1,ti),(2,.lp 0 0),(6,ti),(7,ti)],lo:=[(0,[.sl 0 [],.sl 1 [],.sl 2 [],.sl 3 []])],ro:=[(0,.sl .int,false),(1,.mon,false),(2,.entry,false),(3,.entry,false)]})]
def zE1 (a:ad)(b:Int)(p:zb5 big [aH a,aI b])(r:zfO a b=true):∃N,zuZ N a b=some [aI<|zdp a b,aI<|zeg a b]:=by
 have m:CVB big (.s .mon a.aa):=(zbI p).1 _ (by simp[AV.cvs,zbn]);have l:=m.len;refine zcI λN e=>?_;unfold zuZ zdp zeg zbM oN;conv=>zeta
 refine(zbJ a.aa (λi (t:Unit)=>(b,(i:Int),a.ag,a.aa,a.ao,a.an,())) _ (λi (x:Mon) (_:Unit) q=>bif ige b 0 then goL (λj (y:k0) (_:Unit) c=>bif ieq y.af b then some [AV.one<|.i .i64 (i:Int),AV.one<|.i .i64 (j:Int)] else c ()) (λ_=>q ()) x.ae 0 () else some [AV.one<|.i .i64<|-1,AV.one<|.i .i64<|-1]) (λ(t:Unit)=>some [.one<|.i .i64<|-1,.one<|.i .i64<|-1]) (λi d t rec=>?_) (λt rec=>?_) _ ()<|e l).trans ?_;{simp only [zbK d,zbc d,zbr d,zbx d l,cT];cases h:ige b 0;{rfl};have n:a.aa[i].ae.length<=big:=(m.inv.2 _ (jM d) (.s .slot _) (by simp[Ty.cells])).len;simp only[cT];refine(zbJ a.aa[i].ae (λj (_:Unit)=>(b,(i:Int),(j:Int),a.ag,a.aa,a.ao,a.an,())) _ (λj (y:k0) (_:Unit) c=>bif ieq y.af b then some [AV.one<|.i .i64 (i:Int),AV.one<|.i .i64 (j:Int)] else c ()) (λ_=>rec (b,((i+1:Nat):Int),a.ag,a.aa,a.ao,a.an,())) (λj g u f=>?_) (λu f=>?_) _ ()<|e n).trans ?_;{simp only [zbK g,zbc g,zbr g,zbx g n,cT,zbc d,zbr d]};{simp only [zbw,cF,cT,zbc d,zbr d,zbx d l]};rfl};{simp only [zbw,cF]};cases h:ige b 0;{have k:ilt b 0=true:=(by have:=jV h;exact qM (by omega));rw[k];exact z1h _ _ _ _};{have k:ilt b 0=false:=(by have:=qF h;exact qT (by omega));rw[k];exact zMt b (λi j=>some [AV.one<|.i .i64 i,AV.one<|.i .i64 j]) a.aa 0}
def zBm:vT 443 zi2:=hF2 zyU zJ zC ze4 zFe zE1
def z6l:zW:=[(384,zqj),(443,zi2),(465,zi2)]++z6k
def ztG:zL z6l:=zh ztW (zh zBm<|zh zBc zyU)
def zcn (h:ad):LI:=zwA (λi=>ilt (zbM h (i:Int)).1 0) h.ag.length 0
@[simp] abbrev zfV (h:ad):Bool:=pc (h.ag.length<=1048576)
@[simp] abbrev zcV (h:ad):LI:=zcn h
def zoE:Run:=rF1 dH λb=>(zfV b,[aS .int<|zcV b])
def zIS (N:Nat)(b:ad):OA:=
 (iter (σ:=(Int×LI×lM×lN×lE×lE×Unit)) N (λc a=>let b:=a.2.2.2.2;let d:=(⟨a.2.2.1,a.2.2.2.1,b.1,b.2.1⟩:ad); (cond (ilt a.1<|ln a.2.2.1) (oN (zfO d a.1)<|cond (ilt (zdp d a.1) 0) (oN (few<|ln<|ap a.2.1 [a.1])<|c (zM .i64 a.1 1,ap a.2.1 [a.1],a.2.2.1,a.2.2.2.1,b.1,b.2.1,()))<|c (zM .i64 a.1 1,a.2.1,a.2.2.1,a.2.2.2.1,b.1,b.2.1,()))<|some [aS .int a.2.1])) (0,[],b.ag,b.aa,b.ao,b.an,()))
def zU5:=zA [(442,0,{n:=28,tm:=[(1,.lp 0 0),(3,.sl 0 []),(4,ti)],lo:=[(0,[.sl 1 [],.sl 2 [],.sl 3 [],.sl 4 []])],ro:=[(0,.int,true),(1,.sl .int,false),(2,.mon,false),(3,.entry,false),(4,.entry,false)]})]
def zTq (a:ad)(f:zfV a=true):∃N,zIS N a=some [aS .int<|zcV a]:=by
 have g:=zT.1 f;have e:=zcO g;refine zcI λN d=>?_;unfold zIS oN;conv=>zeta
 refine(zbJ a.ag (λi (t:LI)=>((i:Int),t,a.ag,a.aa,a.ao,a.an,())) _ (λi (_:LI) (t:LI) b=>bif ilt (zbM a (i:Int)).1 0 then (cond (few<|ln<|ap t [(i:Int)]) (b<|ap t [(i:Int)]) none) else b t) (λ(t:LI)=>some [.one<|.s .int t]) (λi c t rec=>?_) (λt rec=>?_) _ ([])<|d e.1).trans ?_;{simp only [zbK c,zbc c,zbr c,zbx c e.1,cT]};{simp only [zbw,cF]};rw[zD3 λi (t:LI) b=>bif ilt (zbM a (i:Int)).1 0 then (cond (few<|ln<|ap t [(i:Int)]) (b<|ap t [(i:Int)]) none) else b t];exact zy4 (λi=>ilt (zbM a (i:Int)).1 0) _ _ 0 [] (by simpa using e.2)
def zMM:vT 442 zoE:=kF1 ztG zJ zC ze4 zU5 zTq
def zIF (N:Nat)(b:ad):OA:=
 (iter (σ:=(Int×Int×LI×lM×lN×lE×lE×Unit)) N (λd a=>let b:=a.2.2.2.2;let c:=b.2.2.1;let e:=(⟨a.2.2.2.1,b.1,b.2.1,c⟩:ad); (cond (ilt a.2.1 a.1) (oN (zfO e a.2.1)<|cond (ilt (zdp e a.2.1) 0) (oN (few<|ln<|ap a.2.2.1 [a.2.1])<|d (a.1,zM .i64 a.2.1 1,ap a.2.2.1 [a.2.1],a.2.2.2.1,b.1,b.2.1,c,()))<|d (a.1,zM .i64 a.2.1 1,a.2.2.1,a.2.2.2.1,b.1,b.2.1,c,()))<|some [aS .int a.2.2.1])) (ln b.ag,0,[],b.ag,b.aa,b.ao,b.an,()))
def zU0:=zA [(427,0,{n:=28,tm:=[(1,.lp 0 0),(3,.sl 0 []),(10,ti),(11,ti)],lo:=[(0,[.sl 1 [],.sl 2 [],.sl 3 [],.sl 4 []])],ro:=[(0,.int,true),(1,.sl .int,false),(2,.mon,false),(3,.entry,false),(4,.entry,false)]})]
def zTe (a:ad)(f:zfV a=true):∃N,zIF N a=some [aS .int<|zcV a]:=by
 have g:=zT.1 f;have e:=zcO g;refine zcI λN d=>?_;unfold zIF oN;conv=>zeta
 refine(zbJ a.ag (λi (t:LI)=>(ln a.ag,(i:Int),t,a.ag,a.aa,a.ao,a.an,())) _ (λi (_:LI) (t:LI) b=>bif ilt (zbM a (i:Int)).1 0 then (cond (few<|ln<|ap t [(i:Int)]) (b<|ap t [(i:Int)]) none) else b t) (λ(t:LI)=>some [.one<|.s .int t]) (λi c t rec=>?_) (λt rec=>?_) _ ([])<|d e.1).trans ?_;{simp only [zbK c,zbc c,zbr c,zbx c e.1,cT]};{simp only [zbw,cF]};rw[zD3 λi (t:LI) b=>bif ilt (zbM a (i:Int)).1 0 then (cond (few<|ln<|ap t [(i:Int)]) (b<|ap t [(i:Int)]) none) else b t];exact zy4 (λi=>ilt (zbM a (i:Int)).1 0) _ _ 0 [] (by simpa using e.2)
def zMz:vT 427 zoE:=kF1 ztG zJ zC ze4 zU0 zTe
def ziZ (m:List LI)(p:Int)(c:LI):List LI:=bif i0 p (ln m) then (cond (zcK c) (up m p c) m) else m
@[simp] abbrev zf0 (m:List LI)(p:Int)(c:LI):Bool:=pc (SmM m/\c.length<=1048576)
@[simp] abbrev zeJ (m:List LI)(p:Int)(c:LI):List LI:=ziZ m p c
def zma:Run:=rF3 (dS<|.sl .int) dI (dS .int) λb c d=>(zf0 b c d,[aS (.sl .int)<|zeJ b c d])
def zBS (N:Nat)(a:lM)(b:Int)(c:LI):OA:=
 (oN (zgM a)<|oN (zQ b 0<|wsub .i64 (ln a) 1)<|cond (zl b 0<|wsub .i64 (ln a) 1) (oN (zeI c)<|cond (zdv c) (oN (few<|ln<|ap [] c)<|oN (inb b<|ln<|zeY a)<|p0 (up (zeY a) b<|ap [] c) λd=>some [aS (.sl .int) d])<|some [aS (.sl .int)<|zeY a])<|some [aS (.sl .int)<|zeY a])
def zNP (b:List LI)(a:Int)(c:LI)(g:zf0 b a c=true):∃N,zBS N b a c=some [aS (.sl .int)<|zeJ b a c]:=by obtain⟨e,d⟩:=zT.1 g;refine⟨0,?_⟩;unfold zBS zeJ ziZ oN;refine j0 (zbH<|(zpV _).2 e) (j0 rfl ?_);rw[show zl a 0 (wsub .i64 (ln b) 1)=i0 a (ln b) from zqE e.1 a];cases f:i0 a (ln b);{rfl};{simp only [cT,zeI,zdv];cases h:zcK c;{rfl};{refine j0 rfl (j0 (ztj d)<|j0 (zG f) ?_);rw[zmB];rfl}}
def zHC:vT 444 zma:=kF3 ztG zJ zC ze4 (zA []) zNP
def zBu (N:Nat)(a:lM)(b:Int)(c:LI):OA:=
 (oN (zmC a)<|oN (zcG b<|ln a)<|cond (zib b<|ln a) (oN (zeI c)<|cond (zdv c) (oN (zd5 c)<|oN (inb b<|ln<|ziu a)<|p0 (up (ziu a) b<|zdZ c) λd=>some [aS (.sl .int) d])<|some [aS (.sl .int)<|ziu a])<|some [aS (.sl .int)<|ziu a])
def zNp (a:List LI)(b:Int)(c:LI)(f:zf0 a b c=true):∃N,zBu N a b c=some [aS (.sl .int)<|zeJ a b c]:=by obtain⟨g,d⟩:=zT.1 f;refine⟨0,?_⟩;unfold zBu zeJ ziZ oN;refine j0 (zbH g) (j0 rfl ?_);rw[show zib b (ln a)=i0 b (ln a) from rfl];cases e:i0 b (ln a);{rfl};{simp only [cT,zeI,zdv];cases h:zcK c;{rfl};{refine j0 rfl (j0 (zbH<|qS d (by decide)) (j0 (zG e) rfl))}}
def zHi:vT 429 zma:=kF3 ztG zJ zC ze4 (zA []) zNp
def zqO:zW:=[(442,zoE),(427,zoE),(444,zma),(429,zma)]++z6l
def zhQ:zL zqO:=zh zMM (zh zMz<|zh zHC<|zh zHi ztG)
abbrev mZ:Mon:=Ty.dflt .mon
abbrev sZ:k0:=Ty.dflt .slot
def ShM (x:Mon):Prop:=x.ae.length=8/\x.Out.length=8/\x.au.length=8/\x.am.length=x.ac.length
def Shape (h:ad):Prop:=SmH h/\∀x∈h.aa,ShM x
def ziX {h:ad}{m:Int}{x:Mon}(a:Shape h)(c:zfH x)(d:ShM x):Shape {h with aa:=up h.aa m x}:=by refine⟨⟨a.1.1,zjF a.1.2.1 c,a.1.2.2⟩,λy b=>?_⟩;rcases qY b with b|rfl;{exact a.2 y b};{exact d}
def zcD {h:ad}(b:Shape h){m:Int}(a:i0 m (ln h.aa)=true):zfH (ix h.aa m mZ)/\ShM (ix h.aa m mZ):=⟨b.1.2.1.2 _<|zbF a _,b.2 _<|zbF a _⟩
def zP4 {h:ad}{b:List LI}(a:Shape h)(c:SmM b):Shape {h with ag:=b}:=⟨⟨c,a.1.2⟩,a.2⟩
def zsy {h:ad}{m p:Int}{s:k0}(e:i0 m (ln h.aa)=true)(b:Shape h):Shape (zcq h m p s):=by refine⟨zGB e b.1,?_⟩;obtain⟨_,a⟩:=zcD b e;have d:∀y∈up h.aa m {zkR (ix h.aa m mZ) p (ix h.aa m mZ).am.length with ae:=up (ix h.aa m mZ).ae p s},ShM y:=(by intro y c;rcases qY c with c|rfl;{exact b.2 y c};{exact⟨by simpa using a.1,a.2.1,a.2.2.1,by simpa [zkR,zqB] using a.2.2.2⟩});unfold zcq;cases ine (ix (ix h.aa m mZ).ae p sZ).af (-1)<;>exact d
def zgV (h:ad)(m p:Int)(s:k0):(zcq h m p s).aa=up h.aa m {zkR (ix h.aa m mZ) p (ix h.aa m mZ).am.length with ae:=up (ix h.aa m mZ).ae p s}/\(zcq h m p s).ag=h.ag:=by unfold zcq;cases ine (ix (ix h.aa m mZ).ae p sZ).af (-1)<;>exact⟨rfl,rfl⟩
def ze5 {h:ad}{m k:Int}{x:Mon}(a:i0 m (ln h.aa)=true):i0 m (ln<|up h.aa k x)=true:=by simpa [ln] using a
def zFZ {h:ad}{m k p:Int}{s:k0}(a:i0 m (ln h.aa)=true):i0 m (ln (zcq h k p s).aa)=true:=by rw[(zgV h k p s).1];exact ze5 a
def zdI {b:Type}{l:List b}{p:Int}(h:l.length=8)(a:i0 p 8=true):i0 p (ln l)=true:=by rw[ln,h];exact a
def zze (h:ad)(m p:Int)(s:k0):ad :=
 bif ine s.af (-1) then ⟨h.ag,up h.aa m<|zkR (ix h.aa m mZ) p (ix h.aa m mZ).ac.length,flushed h.ao s.af,flushed h.an s.af⟩
 else ⟨h.ag,up h.aa m<|zkR (ix h.aa m mZ) p (ix h.aa m mZ).ac.length,h.ao,h.an⟩
def zzN {h:ad}{k:Nat}{p:Int}{s:k0}(a:k<h.aa.length)(b:(ix h.aa (k:Int) mZ).am.length=(ix h.aa (k:Int) mZ).ac.length) :
 zze {h with aa:=up h.aa (k:Int) {ix h.aa (k:Int) mZ with ae:=up (ix h.aa (k:Int) mZ).ae p s}} (k:Int) p (ix (ix h.aa (k:Int) mZ).ae p sZ)=zcq h (k:Int) p s:=by
 unfold zcq zze;simp only[zd8 a,zwc,zkR,b]
def zYI {a:Type}(m p:Int)(i:Nat)(t:List Mon)(b:List Mon->Option a):Option a :=
 (cond (inb (i:Int)<|ln (ix t m mZ).am) (cond (inb (i:Int)<|ln (ix t m mZ).ac) (cond (pc<|SmK (ix (ix t m mZ).am (i:Int) zhq)/\(ix (ix t m mZ).ac (i:Int) zD).aw.length<=1048576) (cond (inb (i:Int)<|ln (ix t m mZ).am) (b<|up t m ({ (ix t m mZ) with am:=(up (ix t m mZ).am (i:Int)<|zjM (ix (ix t m mZ).am (i:Int) zhq) (ix (ix t m mZ).ac (i:Int) zD).aw p)}:Mon)) none) none) none) none)
def zW9 {j:Type}{mons:List Mon}{k:Nat}(d:k<mons.length)(p:Int)(c:zfH (ix mons (k:Int) mZ))(f:(ix mons (k:Int) mZ).am.length=(ix mons (k:Int) mZ).ac.length)(K:List Mon->Option j) :
 ∀(n i:Nat),i+n=(ix mons (k:Int) mZ).ac.length->goN (λi t g=>zYI (k:Int) p i t g) K n i (up mons (k:Int)<|zkR (ix mons (k:Int) mZ) p i)=K (up mons (k:Int)<|zkR (ix mons (k:Int) mZ) p (ix mons (k:Int) mZ).ac.length)
 | 0,i,h=>by have:i=(ix mons (k:Int) mZ).ac.length:=(by omega);subst this;rfl
 |n+1,i,h=>by
  have b:i<(ix mons (k:Int) mZ).ac.length:=(by omega);have a:i<(zlN (ix mons (k:Int) mZ).ac p i (ix mons (k:Int) mZ).am).length:=by rw[zqB];omega
  have e:pc (SmK (ix (zlN (ix mons (k:Int) mZ).ac p i (ix mons (k:Int) mZ).am) (i:Int) zhq)/\(ix (ix mons (k:Int) mZ).ac (i:Int) zD).aw.length<=1048576)=true :=
   zbH ⟨by rw[zbr a];exact(zv8 _ _ _ _ (by omega) c.2.2.2.2.2).2 _ (jM a),by rw[zbr b];exact(c.2.2.2.1.2 _<|jM b).2.2.1⟩
  simp only[goN,zYI,zd8 d,zwc,zkR,zbc a,zbc b,e,cT];exact zW9 d p c f K n (i+1) (by omega)
@[simp] abbrev zeE (h:ad)(m p:Int)(s:k0):Bool:=pc (Shape h/\i0 m (ln h.aa)=true)
@[simp] abbrev zeF (h:ad)(m p:Int)(s:k0):ad:=zze h m p s
def zmw:LC->LA->Option (Bool×LC×LA)
 |[.s (.sl .int) b,.s .mon c,.s .entry d,.s .entry e],[.one<|.i .i64 f,.one<|.i .i64 g,.agg [.i .i64 h,.i .i64 j]]=>some (zeE (⟨b,c,d,e⟩:ad) f g (⟨h,j⟩:k0),zbn<|zeF (⟨b,c,d,e⟩:ad) f g (⟨h,j⟩:k0),[])
 |_,_=>none
def zpI (N:Nat)(c:ad)(i n:Int)(k:k0):OA:=
 (oN (inb i<|ln c.aa)<|iter (σ:=(Int×Int×Int×Int×Int×Int×lN×lM×lE×lE×Unit)) N (λp a=>let c:=a.2.2.2.2;let j:=c.2.2.2.1;let h:=c.2.2.1;let e:=c.1;let g:=c.2.2.2.2.1;let f:=c.2.2.2.2.2.1;let b:=a.2.2.2.1;let d:=ix h a.2.1 zi;let m:=ix d.am b zhq;let l:=(ix d.ac b zD).aw; (cond (ilt b a.2.2.1) (oN (inb b<|ln d.am)<|oN (inb b<|ln d.ac)<|oN (zhO m l a.1)<|oN (inb b<|ln d.am)<|p0 (up h a.2.1 ({d with am:=(up d.am b<|zlw m l a.1)}:Mon)) λq=>p (a.1,a.2.1,a.2.2.1,zM .i64 b 1,e,c.2.1,q,j,g,f,()))<|cond (ine e<|-1) (oN (zd6 g e)<|oN (zd6 f e)<|some [aH (⟨j,h,zgH g e,zgH f e⟩:ad)])<|some [aH (⟨j,h,g,f⟩:ad)])) (n,i,ln (ix c.aa i zi).ac,0,k.af,k.aj,c.aa,c.ag,c.ao,c.an,()))
def zIx:=zA [(325,0,{n:=71,tm:=[(0,.lp 0 0),(2,ti),(7,.lp 1 0),(8,.ep 0 [] 0),(20,ti),(21,ti)],lo:=[(0,[.sl 1 [],.sl 0 [],.sl 2 [],.sl 3 []]),(1,[ti,ti])],ro:=[(0,.mon,true),(1,.sl .int,true),(2,.entry,true),(3,.entry,true)]})]
def zK4 (N:Nat)(c:ad)(a b:Int)(d:k0):zok (cQ zqO zp3 zN2 zUX) zIx N 12 325 [true,true,true,true] (zbn c) [aI a,aI b,aT .slot d]=zpI N c a b d:=by kernel_rfl
def zHQ (c:ad)(d b:Int)(a:k0)(s:zb5 big (.agg (zbn c)::[aI d,aI b,aT .slot a]))(r:zeE c d b a=true):∃N,zpI N c d b a=some (.agg (zbn<|zeF c d b a)::[]):=by
 obtain⟨h,g⟩:=zT.1 r;obtain⟨l,q⟩:=zcD h g;have hg:(ix c.aa d mZ).ac.length<=big:=(zcO l.2.2.2.1.1).1;refine zcI λN f=>?_;unfold zpI oN;conv=>zeta
 refine j0 (zG g) ?_;refine(zbJ ((ix c.aa d zi).ac) (λi (t:lN)=>(b,d,ln (ix c.aa d zi).ac,(i:Int),a.af,a.aj,t,c.ag,c.ao,c.an,())) _ (λi (x:ah) (t:List Mon) j=>zYI d b i t j) (λ(t:lN)=>cond (ine a.af<|-1) (cond (zd6 c.ao a.af) (cond (zd6 c.an a.af) (some [.agg<|zbn (⟨c.ag,t,zgH c.ao a.af,zgH c.an a.af⟩:ad)]) none) none)<|some [.agg<|zbn (⟨c.ag,t,c.ao,c.an⟩:ad)]) (λi e t rec=>?_) (λt rec=>?_) _ (c.aa)<|f hg).trans ?_;{simp only [zbK e,zbc e,zbr e,zbx e hg,cT];rfl};{simp only [zbw,cF]};obtain⟨k,rfl,m⟩:=zdW (n:=c.aa.length) g;rw[zD3 λi t j=>zYI (k:Int) b i t j];have p:c.aa=up c.aa (k:Int) (zkR (ix c.aa (k:Int) mZ) b 0):=(zOz m _).symm;refine(congrArg _ p).trans ((zW9 m b l q.2.2.2 _ _ 0<|jW _).trans ?_);show (cond (ine a.af<|-1) _ _)=some [AV.agg<|zbn<|zze c (k:Int) b a];unfold zze;cases ine a.af (-1);{rfl};{exact j0 rfl (j0 (zbH h.1.2.2.1) (j0 (zbH h.1.2.2.2) rfl))}
def zCs:zbP Tryz.prog 325 [true,true,true,true] zmw:=by refine zhJ (zg6 zhQ zJ zC ze4) (zjK (by kernel_rfl)) ?_;intro g a b j i f h;have d:=zk4 f;unfold zmw at h;split at h;{obtain⟨e,rfl,rfl⟩:=zm2 h;obtain⟨N,c⟩:=zHQ _ _ _ _ (by exact d) e;exact⟨rfl,_,N,12,(zK4 N _ _ _ _ ).trans c⟩};{cases h}
def zY7:zcT:=[(325,[true,true,true,true],zmw)]++zN2
def zN3:zb2 zY7:=zce zC (by
 intro x a;simp only[qG,qN,or_false]at a;rcases a with rfl
 .exact zCs)
def zfe (h:ad)(m p:Int):ad:={h with aa:=up h.aa m {ix h.aa m mZ with Out:=up (ix h.aa m mZ).Out p (zcy h.ag (ix (ix h.aa m mZ).ae p sZ).af)}}
def zdK (h:ad)(m p:Int):ad:=zcq (zfe h m p) m p z0
def zUM {m:List LI}{p:Int}(h:SmM m):(zcy m p).length<=1048576:=by unfold zcy;cases a:i0 p (ln m);{exact(by decide:zzT.length<=1048576)};{exact h.2 _ (zbF a _)}
def zwV {h:ad}{m p:Int}(c:Shape h)(d:i0 m (ln h.aa)=true):Shape (zfe h m p):=by obtain⟨a,b⟩:=zcD c d;exact ziX c ⟨a.1,zLK a.2.1<|zUM c.1.1,a.2.2⟩ ⟨b.1,by simpa using b.2.1,b.2.2⟩
def zLB {h:ad}{m p:Int}(b:Shape h)(a:i0 m (ln h.aa)=true):Shape (zdK h m p):=zsy (ze5 a) (zwV b a)
@[simp] abbrev zj7 (h:ad)(m p:Int):Bool:=pc (Shape h/\i0 m (ln h.aa)=true/\i0 p 8=true)
@[simp] abbrev znG (h:ad)(m p:Int):ad:=zdK h m p
def zuq:LW
 |[.agg [.s (.sl .int) b,.s .mon c,.s .entry d,.s .entry e],.one<|.i .i64 f,.one<|.i .i64 g]=>some (zj7 (⟨b,c,d,e⟩:ad) f g,[aH<|znG (⟨b,c,d,e⟩:ad) f g])
 |_=>none
def zyD (N:Nat)(a:ad)(b c:Int):OA:=
 let d:=ix a.aa b zi;let e:=(ix d.ae c zbe).af; (oN (inb b<|ln a.aa)<|oN (inb b<|ln a.aa)<|oN (inb c<|ln d.ae)<|oN (zeH a.ag e)<|oN (inb c<|ln d.Out)<|p0 (up a.aa b ({d with Out:=(up d.Out c<|zgv a.ag e)}:Mon)) (λg=>let f:=({a with aa:=g}:ad); (oN zb3<|oN (zfE f b c zbo)<|some [aH<|zhD f b c zbo])))
def zWc (N:Nat)(a:ad)(b c:Int):zDV (cQ zqO zp3 zY7 zUX) (zA []) N 12 432 [true,true,true,true,false,false] 1 1 [[0],[1],[2],[4],[7]] .mon [aH a,aI b,aI c]=zyD N a b c:=by kernel_rfl
def zTM (b:ad)(d c:Int)(m:zb5 big [aH b,aI d,aI c])(j:zj7 b d c=true):∃N,zyD N b d c=some [aH<|znG b d c]:=by
 obtain⟨g,a,f⟩:=zT.1 j;obtain⟨l,e⟩:=zcD g a;obtain⟨k,rfl,h⟩:=zdW (n:=b.aa.length) a;have i:=zwV (p:=c) g a;refine⟨0,?_⟩;unfold zyD oN;conv=>zeta
 refine j0 (zG a) (j0 (zG a)<|j0 (zG<|zdI e.1 f)<|j0 (zbH<|(zpV _).2 g.1.1)<|j0 (zG<|zdI e.2.1 f)<|shr (j0 rfl (j0 (zbH ⟨(zU _).2 i.1,ze5 a,?_,?_⟩) rfl)));{simp only [zd8 h];exact zdI e.1 f};{simp only [zd8 h];exact uA e.2.2.2}
def zNe:zeh Tryz.prog 432 [true,true,true,true,false,false] (some (1,1,[[0],[1],[2],[4],[7]])) zuq:=by refine zlZ (kt:=.mon) (zg6 zhQ zJ zN3 ze4) (zjK (by kernel_rfl)) (by kernel_rfl) ?_;intro a g f e h;have c:=zi4 e;unfold zuq at h;split at h;{obtain⟨d,rfl⟩:=zeu h;obtain⟨N,b⟩:=zTM _ _ _ (by exact c) d;exact⟨⟨_,rfl⟩,rfl,_,N,12,(zWc N _ _ _ ).trans b⟩};{cases h}
def zwF:LC->LA->Option (Bool×LC×LA)
 |[.s (.sl .int) b,.s .mon c,.s .entry d,.s .entry e],[.one<|.i .i64 f,.one<|.i .i64 g]=>some (zj7 (⟨b,c,d,e⟩:ad) f g,zbn<|znG (⟨b,c,d,e⟩:ad) f g,[])
 |_,_=>none
def zGL (N:Nat)(c:ad)(b a:Int):OA:=
 let d:=ix c.aa b zi;let e:=ix d.ae a zbe; (oN (inb b<|ln c.aa)<|oN (inb a<|ln d.ae)<|oN (zeH c.ag e.af)<|oN (inb a<|ln d.Out)<|p0 (up c.aa b ({d with Out:=(up d.Out a<|zgv c.ag e.af)}:Mon)) (λg=>let f:=ix g b zi; (oN zb3<|oN (inb a<|ln f.ae)<|p0 (up g b ({f with ae:=(up f.ae a zbo)}:Mon)) (λi=>let h:=({c with aa:=i}:ad); (oN (zeE h b a e)<|some [aH<|zeF h b a e])))))
def z1M (N:Nat)(c:ad)(a b:Int):zok (cQ zqO zp3 zY7 zUX) (zA []) N 12 323 [true,true,true,true] (zbn c) [aI a,aI b]=zGL N c a b:=by kernel_rfl
def zYT (c:ad)(e a:Int)(w:zb5 big (.agg (zbn c)::[aI e,aI a]))(u:zj7 c e a=true):∃N,zGL N c e a=some (.agg (zbn<|znG c e a)::[]):=by
 obtain⟨l,b,j⟩:=zT.1 u;obtain⟨v,f⟩:=zcD l b;obtain⟨k,rfl,h⟩:=zdW (n:=c.aa.length) b;have m:=zwV (p:=a) l b;have d:i0 (k:Int) (ln (zfe c (k:Int) a).aa)=true:=ze5 b;have i:k<(zfe c (k:Int) a).aa.length:=(by simpa [zfe] using h);have g:ix (zfe c (k:Int) a).aa (k:Int) mZ={ix c.aa (k:Int) mZ with Out:=up (ix c.aa (k:Int) mZ).Out a (zcy c.ag (ix (ix c.aa (k:Int) mZ).ae a sZ).af)}:=zd8 h _ _;have t:Shape {zfe c (k:Int) a with aa:=up (zfe c (k:Int) a).aa (k:Int) {ix (zfe c (k:Int) a).aa (k:Int) mZ with ae:=up (ix (zfe c (k:Int) a).aa (k:Int) mZ).ae a z0}}:=(by obtain⟨q,r⟩:=zcD m d;exact ziX m ⟨by simpa using q.1,q.2⟩ ⟨by simpa using r.1,r.2⟩);refine⟨0,?_⟩;unfold zGL oN;conv=>zeta
 refine j0 (zG b) (j0 (zG<|zdI f.1 j)<|j0 (zbH<|(zpV _).2 l.1.1)<|j0 (zG<|zdI f.2.1 j)<|shr (j0 rfl (j0 ?_<|shr<|j0 (zbH ⟨t,ze5 d⟩) ?_)));{rw [zd8 h];exact zG (zdI f.1 j)};{have:=zzN (p:=a) (s:=z0) i (by rw[g];exact f.2.2.2);rw[g] at this;show some [AV.agg<|zbn<|zze {zfe c (k:Int) a with aa:=up (zfe c (k:Int) a).aa (k:Int) {ix (zfe c (k:Int) a).aa (k:Int) mZ with ae:=up (ix (zfe c (k:Int) a).aa (k:Int) mZ).ae a z0}} (k:Int) a<|ix (ix c.aa (k:Int) mZ).ae a sZ]=_;rw[g];exact congrArg (λx=>some [AV.agg<|zbn x]) this}
def zS1:zbP Tryz.prog 323 [true,true,true,true] zwF:=by refine zhJ (zg6 zhQ zJ zN3 ze4) (zjK (by kernel_rfl)) ?_;intro g a b j i f h;have d:=zk4 f;unfold zwF at h;split at h;{obtain⟨e,rfl,rfl⟩:=zm2 h;obtain⟨N,c⟩:=zYT _ _ _ (by exact d) e;exact⟨rfl,_,N,12,(z1M N _ _ _ ).trans c⟩};{cases h}
def zY8:zcT:=[(323,[true,true,true,true],zwF)]++zY7
def zN4:zb2 zY8:=zce zN3 (by
 intro x a;simp only[qG,qN,or_false]at a;rcases a with rfl
 .exact zS1)
def zZS:zgj:=[(432,[true,true,true,true,false,false],some (1,1,[[0],[1],[2],[4],[7]]),zuq)]++zUX
def zOi:zeL zZS:=zqC ze4 (by
 intro x a;simp only[qG,qN,or_false]at a;rcases a with rfl
 .exact zNe)
def cz (l:List k0):Nat:=l.countP λs=>ieq s.af 0
def zH:List Mon->Nat
 |[]=>0
 |m::l=>cz m.ae+zH l
def bit (u:List Bool):Nat:=bif ix u 0 false then 1 else 0
def zxi (s:k0)(l:List k0):cz (s::l)=cz l+bif ieq s.af 0 then 1 else 0:=by unfold cz;rw[vM];cases ieq s.af 0<;>rfl
def z9R {u:List Bool}{p:Int}(c:0<=p)(a:p.toNat<u.length)(x:Bool):ix (up u p x) 0 false=bif ieq p 0 then x else ix u 0 false:=by unfold ix up;cases h:ieq p 0;{have:p≠0:=(by simpa [ieq] using h);have b:p.toNat≠0:=(by omega);simp[List.getD,q9,b]};{have:p=0:=(by simpa [ieq] using h);subst this;have a:0<u.length:=a;simp[List.getD,q9,a]}
def zDI:∀(l:List k0) (u b:List Bool),(∀s∈l,s.af<12)->u.length=12->zia l u=some b->cz l+bit u=bit b
 |[],u,b,_,_,h=>by cases h;simp[cz]
 |s::l,u,b,i,k,h=>by
  simp only[zia]at h;rw[zxi];cases c:ilt s.af 0;{have c:=jV c;rw[show ilt s.af 0=false from qT (by omega)]at h;simp only[cF]at h;cases d:ix u s.af false;{rw [d]at h;simp only[cF]at h;have g:s.af.toNat<u.length:=(by have:=i s (by simp);omega);have a:=zDI l _ b (λt j=>i t (by simp[j])) (by simpa using k) h;have e:bit (up u s.af true)=bif ieq s.af 0 then 1 else bit u:=(by unfold bit;rw[z9R (by omega) g];cases ieq s.af 0<;>rfl);rw[e] at a;cases f:ieq s.af 0;{rw [f] at a;simp only[cF] at a ⊢;omega};{have n:s.af=0:=(by simpa [ieq] using f);rw[n]at d;have:bit u=0:=(by unfold bit;rw[d];rfl);rw[f] at a;simp only[cT] at a ⊢;omega}};{rw [d]at h;cases h}};{have m:=qF c;rw[c]at h;simp only[cT]at h;have a:=zDI l u b (λt j=>i t (by simp[j])) k h;have:ieq s.af 0=false:=(by simp[ieq];omega);rw[this];simpa using a}
def zS4:∀(l:List Mon) (u:List Bool),u.length=12->zlf l u=true->zH l+bit u<=1
 |[],u,_,_=>by unfold zH bit;cases ix u 0 false<;>simp
 |m::l,u,c,h=>by simp only[zlf]at h;cases b:zfT m;{rw [b]at h;cases h};{rw [b]at h;simp only[cT]at h;cases a:zia m.ae u with|none=>rw[a]at h;cases h|some d =>rw[a]at h;have e:=zDI _ _ _ (zOd<|zqW b) c a;have f:=zS4 l d ((zte _ _ _ a).trans c) h;simp only[zH];omega}
def z00:∀(l:List k0) (b:Nat) (s:k0),l[b]?=some s->s.af=0->cz (l.set b z0)+1=cz l
 |[],b,s,h,_=>by simp at h
 |t::l,0,s,h,a=>by simp only[qI,qC]at h;subst h;rw[List.set_cons_zero,zxi,zxi];have:ieq t.af 0=true:=(by simp[ieq,a]);rw[this];rfl
 |t::l,b+1,s,h,a=>by rw[List.set_cons_succ,zxi,zxi];have:=z00 l b s (by simpa using h) a;omega
def zVs:∀(l:List Mon) (a:Nat) (x y:Mon),l[a]?=some x->zH (l.set a y)+cz x.ae=zH l+cz y.ae
 |[],a,x,y,h=>by simp at h
 |m::l,0,x,y,h=>by simp only[qI,qC]at h;subst h;rw[List.set_cons_zero];simp only[zH];omega
 |m::l,a+1,x,y,h=>by rw[List.set_cons_succ];have:=zVs l a x y (by simpa using h);simp only[zH];omega
def zYq {l:List k0}(h:cz l=0):zom l 0=none:=by unfold zom;rw[List.findIdx?_eq_none_iff];intro s a;have:=(vF.1 h) s a;simpa using this
def zLa:∀(l:List Mon) (i:Nat),zH l=0->ziz 0 l i=(-1,-1)
 |[],_,_=>rfl
 |m::l,i,h=>by simp only[zH]at h;simp only[ziz];rw[zYq (by omega)];exact zLa l (i+1) (by omega)
def zYr {l:List k0}{k:Nat}(h:zom l 0=some k):∃s,l[k]?=some s/\s.af=0:=by unfold zom at h;rw[u4]at h;obtain⟨a,b,_⟩:=h;exact⟨l[k],qB a,by simpa [ieq] using b⟩
def zF6:∀(l:List Mon) (i:Nat),ziz 0 l i=(-1,-1)\/∃a b x s,ziz 0 l i=(((i+a:Nat):Int),((b:Nat):Int))/\l[a]?=some x/\x.ae[b]?=some s/\s.af=0
 |[],_=>.inl rfl
 |m::l,i=>by
  simp only[ziz];cases h:zom m.ae 0 with
  |none=>rcases zF6 l (i+1) with c|⟨a,b,x,s,c,d,f,g⟩;{exact .inl c};{refine .inr ⟨a+1,b,x,s,?_,by simpa using d,f,g⟩;have e:i+1+a=i+(a+1):=(by omega);rw[c,e]}
  |some k=>obtain⟨s,c,d⟩:=zYr h;exact .inr ⟨0,k,m,s,rfl,rfl,c,d⟩
def Fit (h:ad):Prop:=Shape h/\0<h.ag.length/\zH h.aa<=1
def zFY {h:ad}(c:0<h.ag.length)(b:ilt (zbM h 0).1 0=true):inb 0 (ln<|zcn h)=true:=by unfold zcn;obtain⟨n,a⟩:∃n,h.ag.length=n+1:=⟨h.ag.length-1,by omega⟩;rw[a];simp only[zwA];rw[show ilt (zbM h ((0:Nat):Int)).1 0=true from b];exact qM (by simp only[cT,ln,qX];omega)
def zYw {h:ad}(b:0<h.ag.length)(a:ieq (ln<|zcn h) 0=true):ilt (zbM h 0).1 0=false:=by cases c:ilt (zbM h 0).1 0;{rfl};{have d:=qF (zFY b c);have e:ln (zcn h)=0:=(by simpa [ieq] using a);omega}
def zdc (h:ad):ad:=bif ieq (ln<|zcn h) 0 then zdK h (zbM h 0).1 (zbM h 0).2 else h
structure Room (h r:ad):Prop where
 shape:Shape r
 free:inb 0 (ln (zcn r))=true
 len:r.aa.length=h.aa.length
 outer:∀m,(ix r.aa m mZ).ae.length=8\/True
def z1U {h:ad}(i:Fit h)(f:ieq (ln<|zcn h) 0=true):∃(a b:Nat) (x:Mon) (s:k0),zbM h 0=((a:Int),(b:Int))/\h.aa[a]?=some x/\x.ae[b]?=some s/\s.af=0:=by have d:=zYw i.2.1 f;have e:zbM h 0=ziz 0 h.aa 0:=rfl;rcases zF6 h.aa 0 with c|⟨a,b,x,s,c,g⟩;{rw [e,c]at d;cases d};{exact⟨a,b,x,s,by rw[e,c,jW],g⟩}
def zEa {h:ad}(d:Fit h)(e:ieq (ln<|zcn h) 0=true):i0 (zbM h 0).1 (ln h.aa)=true/\i0 (zbM h 0).2 8=true:=by obtain⟨a,b,x,s,f,c,g,j⟩:=z1U d e;rw[f];have k:=(qA.1 c).1;have l:=(qA.1 g).1;have i:=d.1.2 x (qH c);refine⟨qM (by simp only[ln];omega),qM ?_⟩;have:=i.1;show 0<=(b:Int)/\(b:Int)<8;omega
def room {h:ad}(d:Fit h):Room h (zdc h):=by unfold zdc;cases g:ieq (ln<|zcn h) 0;{refine⟨d.1,qM ?_,rfl,λ_=>.inr trivial⟩;have:ln (zcn h)≠0:=(by simpa [ieq] using g);show 0<=(0:Int)/\(0:Int)<ln (zcn h);simp only[ln] at *;omega};{obtain⟨n,u⟩:=zEa d g;obtain⟨a,b,x,s,r,i,k,t⟩:=z1U d g;simp only[cT];rw[r]at n u ⊢;have m:=(qA.1 i).1;have B:=(qA.1 k).1;have j:ix h.aa (a:Int) mZ=x:=(by rw[zbr m];exact(qA.1 i).2);have c:=(zgV (zfe h (a:Int) (b:Int)) (a:Int) (b:Int) z0).1;have q:ix (zfe h (a:Int) (b:Int)).aa (a:Int) mZ={x with Out:=up x.Out (b:Int) (zcy h.ag (ix x.ae (b:Int) sZ).af)}:=(by unfold zfe;rw[zd8 m,j]);obtain⟨y,l,v⟩:∃y,(zdK h (a:Int) (b:Int)).aa=h.aa.set a y/\y.ae=x.ae.set b z0:=(by unfold zdK;rw[c,q];unfold zfe;rw[zwc];exact⟨_,by simp[up];rfl,by simp[up]⟩);have w:zH (zdK h (a:Int) (b:Int)).aa=0:=(by have p:=zVs h.aa a x y i;have z:=z00 x.ae b s k t;have A:=d.2.2;rw[l];rw[v] at p;omega);have f:(zdK h (a:Int) (b:Int)).ag=h.ag:=(zgV (zfe h (a:Int) (b:Int)) (a:Int) (b:Int) z0).2;refine⟨zLB d.1 n,zFY (by rw[f];exact d.2.1) ?_,by rw[l];simp,λ_=>.inr trivial⟩;have e:zbM (zdK h (a:Int) (b:Int)) 0=ziz 0 (zdK h (a:Int) (b:Int)).aa 0:=rfl;rw[e,zLa _ _ w];rfl}
def zUN {m:List LI}{p:Int}{c:LI}(h:SmM m)(a:c.length<=1048576):SmM (ziZ m p c):=by unfold ziZ;cases i0 p (ln m);{exact h};{cases zcK c;{exact h};{exact zLK h a}}
def landing (r:ad)(m p to:Int):ad:={r with ag:=ziZ r.ag to (ix (ix r.aa m mZ).Out p []),aa:=up r.aa m {ix r.aa m mZ with Out:=up (ix r.aa m mZ).Out p []}}
def zfn (r:ad)(m p to:Int):ad:=zcq (landing r m p to) m p ⟨to,3⟩
def fetched (h:ad)(m p:Int):ad:=zfn (zdc h) m p (ix (zcn<|zdc h) 0 0)
def zUP {r:ad}{m p:Int}(e:Shape r)(c:i0 m (ln r.aa)=true)(d:i0 p 8=true):(ix (ix r.aa m mZ).Out p []).length<=1048576:=by obtain⟨a,b⟩:=zcD e c;exact a.2.1.2 _ (zbF (zdI b.2.1 d) _)
def zsx {r:ad}{m p to:Int}(a:Shape r)(d:i0 m (ln r.aa)=true)(e:i0 p 8=true):Shape (landing r m p to):=by obtain⟨b,c⟩:=zcD a d;exact zP4 (h:={r with aa:=up r.aa m {ix r.aa m mZ with Out:=up (ix r.aa m mZ).Out p []}}) (ziX (x:={ix r.aa m mZ with Out:=up (ix r.aa m mZ).Out p []}) a ⟨b.1,zLK b.2.1 (by simp),b.2.2⟩ ⟨c.1,by simpa using c.2.1,c.2.2⟩) (zUN a.1.1<|zUP a d e)
def zRq {r:ad}{m p d:Int}(c:Shape r)(a:i0 m (ln r.aa)=true)(b:i0 p 8=true):Shape (zfn r m p d):=zsy (ze5 a) (zsx c a b)
def zqe {h:ad}(a:Fit h){m:Int}(b:i0 m (ln h.aa)=true):i0 m (ln (zdc h).aa)=true:=by rw[ln,(room a).len];exact b
def zkv {h:ad}{m p:Int}(a:Fit h)(b:i0 m (ln h.aa)=true)(c:i0 p 8=true):Shape (fetched h m p)/\i0 m (ln (fetched h m p).aa)=true :=
 ⟨zRq (room a).shape (zqe a b) c,zFZ<|ze5<|zqe a b⟩
@[simp] abbrev zlI (h:ad)(m p:Int):Bool:=pc (Fit h/\i0 m (ln h.aa)=true/\i0 p 8=true)
@[simp] abbrev zmq (h:ad)(m p:Int):ad:=fetched h m p
def zwH:LW
 |[.agg [.s (.sl .int) b,.s .mon c,.s .entry d,.s .entry e],.one<|.i .i64 f,.one<|.i .i64 g]=>some (zlI (⟨b,c,d,e⟩:ad) f g,[aH<|zmq (⟨b,c,d,e⟩:ad) f g])
 |_=>none
def zBV (N:Nat)(a:ad)(c b:Int):OA:=
 let h:=ix (zcV a) 0 0;let f:=ix a.aa c zi;let d:=znG a (zdp a 0)<|zeg a 0;let g:=ix (zcV d) 0 0;let e:=ix d.aa c zi; (oN (zfV a)<|cond (ieq (ln<|zcV a) 0) (oN (zfO a 0)<|oN (zj7 a (zdp a 0)<|zeg a 0)<|oN (zfV d)<|oN (inb 0<|ln<|zcV d)<|oN (inb c<|ln d.aa)<|oN (inb b<|ln e.Out)<|oN (zf0 d.ag g<|ix e.Out b [])<|oN (inb c<|ln d.aa)<|oN (inb b<|ln e.Out)<|p0 (up d.aa c ({e with Out:=(up e.Out b [])}:Mon)) (λi=>let j:=({d with ag:=(zeJ d.ag g<|ix e.Out b []),aa:=i}:ad); (oN (zfE j c b (⟨g,3⟩:k0))<|some [aH<|zhD j c b (⟨g,3⟩:k0)])))<|oN (zfV a)<|oN (inb 0<|ln<|zcV a)<|oN (inb c<|ln a.aa)<|oN (inb b<|ln f.Out)<|oN (zf0 a.ag h<|ix f.Out b [])<|oN (inb c<|ln a.aa)<|oN (inb b<|ln f.Out)<|p0 (up a.aa c ({f with Out:=(up f.Out b [])}:Mon)) (λi=>let k:=({a with ag:=(zeJ a.ag h<|ix f.Out b []),aa:=i}:ad); (oN (zfE k c b (⟨h,3⟩:k0))<|some [aH<|zhD k c b (⟨h,3⟩:k0)])))
def zY1 (N:Nat)(a:ad)(b c:Int):zDV (cQ zqO zp3 zY8 zZS) (zA []) N 12 361 [true,true,true,true,false,false] 1 1 [[0],[1],[2],[4],[7]] .mon [aH a,aI b,aI c]=zBV N a b c:=by kernel_rfl
def zV9 (c:ad)(b d:Int)(z:zb5 big [aH c,aI b,aI d])(u:zlI c b d=true):∃N,zBV N c b d=some [aH<|zmq c b d]:=by
 obtain⟨h,v,i⟩:=zT.1 u;have e:∀r,Shape r->inb 0 (ln<|zcn r)=true->i0 b (ln r.aa)=true->(cond (zfV r) (cond (inb 0<|ln<|zcV r) (cond (inb b<|ln r.aa) (cond (inb d<|ln (ix r.aa b zi).Out) (cond (zf0 r.ag (ix (zcV r) 0 0)<|ix (ix r.aa b zi).Out d []) (cond (inb b<|ln r.aa) (cond (inb d<|ln (ix r.aa b zi).Out) (p0 (up r.aa b ({ (ix r.aa b zi) with Out:=(up (ix r.aa b zi).Out d [])}:Mon)) λs=>cond (zfE ({r with ag:=(zeJ r.ag (ix (zcV r) 0 0)<|ix (ix r.aa b zi).Out d []),aa:=s}:ad) b d (⟨ix (zcV r) 0 0,3⟩:k0)) (some [AV.agg<|zbn<|zhD ({r with ag:=(zeJ r.ag (ix (zcV r) 0 0)<|ix (ix r.aa b zi).Out d []),aa:=s}:ad) b d (⟨ix (zcV r) 0 0,3⟩:k0)]) none) none) none) none) none) none) none) none)=some [AV.agg<|zbn<|zfn r b d<|ix (zcn r) 0 0]:=(by intro r j f a;obtain⟨y,l⟩:=zcD j a;have t:=zsx (to:=ix (zcn r) 0 0) j a i;obtain⟨k,rfl,q⟩:=zdW (n:=r.aa.length) a;refine j0 (zbH j.1.1.1) (j0 f<|j0 (zG a)<|j0 (zG<|zdI l.2.1 i)<|j0 (zbH ⟨j.1.1,zUP j a i⟩)<|j0 (zG a)<|j0 (zG<|zdI l.2.1 i)<|shr (j0 (zbH ⟨(zU _).2 t.1,ze5 a,?_,?_⟩) rfl));{simp only [zd8 q];exact zdI l.1 i};{simp only [zd8 q];exact uA l.2.2.2});have g:=room h;have a:=zqe h v;refine⟨0,?_⟩;unfold zBV zmq fetched oN;conv=>zeta
 refine j0 (zbH h.1.1.1.1) ?_;cases p:ieq (ln<|zcV c) 0;{have m:zdc c=c:=(by unfold zdc;rw[show ieq (ln<|zcn c) 0=false from p];rfl);rw[m]at g a ⊢;exact e c g.shape g.free a};{obtain⟨w,x⟩:=zEa h p;have m:zdc c=zdK c (zbM c 0).1 (zbM c 0).2:=(by unfold zdc;rw[show ieq (ln<|zcn c) 0=true from p];rfl);rw[m]at g a ⊢;exact j0 rfl (j0 rfl (j0 (zbH ⟨h.1,w,x⟩)<|e _ g.shape g.free a))}
def zQw:zeh Tryz.prog 361 [true,true,true,true,false,false] (some (1,1,[[0],[1],[2],[4],[7]])) zwH:=by refine zlZ (kt:=.mon) (zg6 zhQ zJ zN4 zOi) (zjK (by kernel_rfl)) (by kernel_rfl) ?_;intro a g f e h;have c:=zi4 e;unfold zwH at h;split at h;{obtain⟨d,rfl⟩:=zeu h;obtain⟨N,b⟩:=zV9 _ _ _ (by exact c) d;exact⟨⟨_,rfl⟩,rfl,_,N,12,(zY1 N _ _ _ ).trans b⟩};{cases h}
@[simp] abbrev zsc (h:ad):Bool:=pc (Shape h/\i0 (zbM h 0).1 (ln h.aa)=true/\i0 (zbM h 0).2 8=true)
@[simp] abbrev zsd (h:ad):ad:=zdK h (zbM h 0).1 (zbM h 0).2
def znx:LC->LA->Option (Bool×LC×LA)
 |[.s (.sl .int) b,.s .mon c,.s .entry d,.s .entry e],[]=>some (zsc (⟨b,c,d,e⟩:ad),zbn<|zsd (⟨b,c,d,e⟩:ad),[])
 |_,_=>none
def zr4 (N:Nat)(c:ad)  : OA :=
 (oN (zfO c 0)<|oN (zj7 c (zdp c 0)<|zeg c 0)<|some [aH<|znG c (zdp c 0)<|zeg c 0])
def zNY (N:Nat)(c:ad)  : zok (cQ zqO zp3 zY8 zZS) (zA []) N 12 428 [true,true,true,true] (zbn c) []=zr4 N c:=by kernel_rfl
def zKI (c:ad)(d:zb5 big (.agg (zbn c)::[]))(a:zsc c=true):∃N,zr4 N c=some (.agg (zbn<|zsd c)::[]):=by have b:=zT.1 a;refine⟨0,?_⟩;unfold zr4 oN;exact j0 rfl (j0 (zbH b) rfl)
def zEp:zbP Tryz.prog 428 [true,true,true,true] znx:=by refine zhJ (zg6 zhQ zJ zN4 zOi) (zjK (by kernel_rfl)) ?_;intro g a b j i f h;have d:=zk4 f;unfold znx at h;split at h;{obtain⟨e,rfl,rfl⟩:=zm2 h;obtain⟨N,c⟩:=zKI _ (by exact d) e;exact⟨rfl,_,N,12,(zNY N _ ).trans c⟩};{cases h}
def z4w:zcT:=[(428,[true,true,true,true],znx)]++zY8
def zXo:zb2 z4w:=zce zN4 (by
 intro x a;simp only[qG,qN,or_false]at a;rcases a with rfl
 .exact zEp)
def zUY:zgj:=[(361,[true,true,true,true,false,false],some (1,1,[[0],[1],[2],[4],[7]]),zwH)]++zZS
def zEi:zeL zUY:=zqC zOi (by
 intro x a;simp only[qG,qN,or_false]at a;rcases a with rfl
 .exact zQw)
def zX0 {r:ad}{m p to:Int}(d:Shape r)(b:i0 m (ln r.aa)=true):zze {landing r m p to with aa:=up (landing r m p to).aa m {ix (landing r m p to).aa m mZ with ae:=up (ix (landing r m p to).aa m mZ).ae p ⟨to,3⟩}} m p (ix (ix (landing r m p to).aa m mZ).ae p sZ)=zfn r m p to:=by obtain⟨e,c⟩:=zcD d b;obtain⟨k,rfl,a⟩:=zdW (n:=r.aa.length) b;refine zzN (h:=landing r (k:Int) p to) (by simpa [landing] using a) ?_;unfold landing;simp only[zd8 a];exact c.2.2.2
def zWH {r:ad}{m p to:Int}(f:Shape r)(b:i0 m (ln r.aa)=true)(e:i0 p 8=true):Shape {landing r m p to with aa:=up (landing r m p to).aa m {ix (landing r m p to).aa m mZ with ae:=up (ix (landing r m p to).aa m mZ).ae p ⟨to,3⟩}}:=by have a:=zsx (to:=to) f b e;obtain⟨c,d⟩:=zcD a (ze5 b);exact ziX a ⟨by simpa using c.1,c.2⟩ ⟨by simpa using d.1,d.2⟩
def zua:LC->LA->Option (Bool×LC×LA)
 |[.s (.sl .int) b,.s .mon c,.s .entry d,.s .entry e],[.one<|.i .i64 f,.one<|.i .i64 g]=>some (zlI (⟨b,c,d,e⟩:ad) f g,zbn<|zmq (⟨b,c,d,e⟩:ad) f g,[])
 |_,_=>none
def zBy (N:Nat)(c:ad)(b a:Int):OA:=
 let m:=ix (zcV c) 0 0;let d:=zsd c;let l:=ix (zcV d) 0 0;let f:=ix c.aa b zi;let e:=ix d.aa b zi; (oN (zfV c)<|cond (ieq (ln<|zcV c) 0) (oN (zsc c)<|oN (inb b<|ln d.aa)<|oN (zfV d)<|oN (inb 0<|ln<|zcV d)<|oN (inb a<|ln e.Out)<|oN (zf0 d.ag l<|ix e.Out a [])<|oN (inb a<|ln e.Out)<|p0 (up d.aa b ({e with Out:=(up e.Out a [])}:Mon)) (λg=>let i:=ix g b zi;let q:=ix i.ae a zbe; (oN (inb a<|ln i.ae)<|oN (inb a<|ln i.ae)<|p0 (up g b ({i with ae:=(up i.ae a (⟨l,3⟩:k0))}:Mon)) (λk=>let n:=({d with ag:=(zeJ d.ag l<|ix e.Out a []),aa:=k}:ad); (oN (zeE n b a q)<|some [aH<|zeF n b a q])))))<|oN (inb b<|ln c.aa)<|oN (zfV c)<|oN (inb 0<|ln<|zcV c)<|oN (inb a<|ln f.Out)<|oN (zf0 c.ag m<|ix f.Out a [])<|oN (inb a<|ln f.Out)<|p0 (up c.aa b ({f with Out:=(up f.Out a [])}:Mon)) (λg=>let j:=ix g b zi;let h:=ix j.ae a zbe; (oN (inb a<|ln j.ae)<|oN (inb a<|ln j.ae)<|p0 (up g b ({j with ae:=(up j.ae a (⟨m,3⟩:k0))}:Mon)) (λk=>let p:=({c with ag:=(zeJ c.ag m<|ix f.Out a []),aa:=k}:ad); (oN (zeE p b a h)<|some [aH<|zeF p b a h])))))
def zY0 (N:Nat)(c:ad)(a b:Int):zok (cQ zqO zp3 z4w zUY) (zA []) N 12 324 [true,true,true,true] (zbn c) [aI a,aI b]=zBy N c a b:=by kernel_rfl
def zVU (c:ad)(b d:Int)(F:zb5 big (.agg (zbn c)::[aI b,aI d]))(w:zlI c b d=true):∃N,zBy N c b d=some (.agg (zbn<|zmq c b d)::[]):=by
 obtain⟨j,B,l⟩:=zT.1 w;have e:∀r,Shape r->inb 0 (ln<|zcn r)=true->i0 b (ln r.aa)=true->(cond (inb b<|ln r.aa) (cond (zfV r) (cond (inb 0<|ln<|zcV r) (cond (inb d<|ln (ix r.aa b zi).Out) (cond (zf0 r.ag (ix (zcV r) 0 0)<|ix (ix r.aa b zi).Out d []) (cond (inb d<|ln (ix r.aa b zi).Out) (p0 (up r.aa b ({ (ix r.aa b zi) with Out:=(up (ix r.aa b zi).Out d [])}:Mon)) λg=>cond (inb d<|ln (ix g b zi).ae) (cond (inb d<|ln (ix g b zi).ae) (p0 (up g b ({ (ix g b zi) with ae:=(up (ix g b zi).ae d (⟨ix (zcV r) 0 0,3⟩:k0))}:Mon)) λu=>cond (zeE ({r with ag:=(zeJ r.ag (ix (zcV r) 0 0)<|ix (ix r.aa b zi).Out d []),aa:=u}:ad) b d<|ix (ix g b zi).ae d zbe) (some [AV.agg<|zbn<|zeF ({r with ag:=(zeJ r.ag (ix (zcV r) 0 0)<|ix (ix r.aa b zi).Out d []),aa:=u}:ad) b d<|ix (ix g b zi).ae d zbe]) none) none) none) none) none) none) none) none) none)=some [AV.agg<|zbn<|zfn r b d<|ix (zcn r) 0 0]:=(by intro r i f a;obtain⟨E,q⟩:=zcD i a;have v:=zWH (to:=ix (zcn r) 0 0) i a l;have hE:=zX0 (p:=d) (to:=ix (zcn r) 0 0) i a;obtain⟨k,rfl,A⟩:=zdW (n:=r.aa.length) a;have z:∀(x y:Mon),i0 (k:Int) (ln<|up (up r.aa (k:Int) x) (k:Int) y)=true:=λx y=>(by simpa [ln] using a);have t:inb d (ln (ix (up r.aa (k:Int) {ix r.aa (k:Int) mZ with Out:=up (ix r.aa (k:Int) mZ).Out d []}) (k:Int) mZ).ae)=true:=(by rw[zd8 A];exact zG (zdI q.1 l));refine j0 (zG a) (j0 (zbH i.1.1.1)<|j0 f<|j0 (zG<|zdI q.2.1 l)<|j0 (zbH ⟨i.1.1,zUP i a l⟩)<|j0 (zG<|zdI q.2.1 l)<|shr<|j0 t<|j0 t<|shr<|j0 (zbH ⟨v,z _ _⟩) ?_);exact congrArg (λx=>some [AV.agg<|zbn x]) hE);have h:=room j;have a:=zqe j B;refine⟨0,?_⟩;unfold zBy zmq fetched oN;conv=>zeta
 refine j0 (zbH j.1.1.1.1) ?_;cases s:ieq (ln<|zcV c) 0;{have m:zdc c=c:=(by unfold zdc;rw[show ieq (ln<|zcn c) 0=false from s];rfl);rw[m]at h a ⊢;exact e c h.shape h.free a};{obtain⟨C,D⟩:=zEa j s;have m:zdc c=zdK c (zbM c 0).1 (zbM c 0).2:=(by unfold zdc;rw[show ieq (ln<|zcn c) 0=true from s];rfl);rw[m]at h a ⊢;exact j0 rfl (j0 (zbH ⟨j.1,C,D⟩)<|e _ h.shape h.free a)}
def zQi:zbP Tryz.prog 324 [true,true,true,true] zua:=by refine zhJ (zg6 zhQ zJ zXo zEi) (zjK (by kernel_rfl)) ?_;intro g a b j i f h;have d:=zk4 f;unfold zua at h;split at h;{obtain⟨e,rfl,rfl⟩:=zm2 h;obtain⟨N,c⟩:=zVU _ _ _ (by exact d) e;exact⟨rfl,_,N,12,(zY0 N _ _ _ ).trans c⟩};{cases h}
def zY9:zcT:=[(324,[true,true,true,true],zua)]++z4w
def zN5:zb2 zY9:=zce zXo (by
 intro x a;simp only[qG,qN,or_false]at a;rcases a with rfl
 .exact zQi)
def zbL (h:ad)(m p:Int):ad:={h with aa:=up h.aa m {ix h.aa m mZ with au:=up (ix h.aa m mZ).au p true}}
def opened (h:ad)(m p:Int):ad:=bif ieq (wand .i64 (ix (ix h.aa m mZ).ae p sZ).aj 2) 0 then zcq h m p ⟨(ix (ix h.aa m mZ).ae p sZ).af,3⟩ else h
def zjR (h:ad)(m p n:Int):ad:=bif ieq (wand .i64 n 2) 0 then h else opened (zbL h m p) m p
def C0 (h:ad)(m p n:Int):ad:=bif ieq (ix (ix h.aa m mZ).ae p sZ).af (-1) then zjR (fetched h m p) m p n else zjR h m p n
def z8a {r:Int}(a:0<=r)(b:r<=3):enough r 2 = !ieq (wand .i64 r 2) 0:=by have:r=0\/r=1\/r=2\/r=3:=(by omega);rcases this with rfl|rfl|rfl|rfl<;>rfl
structure SlotFit (s:k0):Prop where
 no:zdh s z0=ieq s.af (-1)
 lo:0<=s.aj
 hi:s.aj<=3
def zZJ {s:k0}{n:Int}(h:zeM s n=true):SlotFit s:=by refine⟨zP6 h,?_,?_⟩<;>unfold zeM at h<;>cases a:zdh s z0;{rw [a]at h;simp only[cF,zde]at h;have:=(zgz.1 h.2.2).1;omega};{unfold zdh at a;rw[qE]at a;have:s.aj=0:=qF a.2;omega};{rw [a]at h;simp only[cF,zde]at h;have:=(zgz.1 h.2.2).2;omega};{unfold zdh at a;rw[qE]at a;have:s.aj=0:=qF a.2;omega}
def znn {h:ad}{m p:Int}(c:Shape h)(d:i0 m (ln h.aa)=true):Shape (zbL h m p):=by obtain⟨a,b⟩:=zcD c d;exact ziX c ⟨a.1,a.2.1,by simpa using a.2.2.1,a.2.2.2⟩ ⟨b.1,b.2.1,by simpa using b.2.2.1,b.2.2.2⟩
def zUF {h:ad}{m p:Int}(b:Shape h)(a:i0 m (ln h.aa)=true):Shape (opened h m p)/\i0 m (ln (opened h m p).aa)=true:=by unfold opened;cases ieq (wand .i64 (ix (ix h.aa m mZ).ae p sZ).aj 2) 0;{exact⟨b,a⟩};{exact⟨zsy a b,zFZ a⟩}
def zGz {h:ad}{m p n:Int}(b:Shape h)(a:i0 m (ln h.aa)=true):Shape (zjR h m p n)/\i0 m (ln (zjR h m p n).aa)=true:=by unfold zjR;cases ieq (wand .i64 n 2) 0;{exact zUF (znn b a) (ze5 a)};{exact⟨b,a⟩}
def zuJ {h:ad}{m p n:Int}(a:Fit h)(b:i0 m (ln h.aa)=true)(e:i0 p 8=true):Shape (C0 h m p n)/\i0 m (ln (C0 h m p n).aa)=true:=by unfold C0;cases ieq (ix (ix h.aa m mZ).ae p sZ).af (-1);{exact zGz a.1 b};{obtain⟨c,d⟩:=zkv a b e;exact zGz c d}
def zSM {h:ad}{m p:Int}(c:Fit h)(g:i0 m (ln h.aa)=true)(j:i0 p 8=true):(ix (ix (fetched h m p).aa m mZ).ae p sZ).aj=3:=by have f:=room c;have a:=zqe c g;obtain⟨r,e⟩:=zcD f.shape a;obtain⟨k,rfl,d⟩:=zdW (n:=(zdc h).aa.length) a;obtain⟨q,rfl,l⟩:=zdW (n:=8) j;unfold fetched zfn;rw[(zgV _ _ _ _).1];have b:k<(landing (zdc h) (k:Int) (q:Int)<|ix (zcn<|zdc h) 0 0).aa.length:=(by simpa [landing] using d);rw[zd8 b];have i:q<(ix (landing (zdc h) (k:Int) (q:Int)<|ix (zcn<|zdc h) 0 0).aa (k:Int) mZ).ae.length:=(by unfold landing;rw[zd8 d];show q<(ix (zdc h).aa (k:Int) mZ).ae.length;rw[e.1];exact l);show (ix (up (ix (landing (zdc h) (k:Int) (q:Int)<|ix (zcn<|zdc h) 0 0).aa (k:Int) mZ).ae (q:Int) ⟨_,3⟩) (q:Int) sZ).aj=3;rw[zd8 i]
def zR5 (h:ad)(m p n:Int):Prop:=Fit h/\i0 m (ln h.aa)=true/\i0 p 8=true/\(n=1\/n=2\/n=3)/\SlotFit (ix (ix h.aa m mZ).ae p sZ)
@[simp] abbrev zkM (h:ad)(m p n:Int):Bool:=pc (zR5 h m p n)
@[simp] abbrev ziH (h:ad)(m p n:Int):ad:=C0 h m p n
def zso:LW
 |[.agg [.s (.sl .int) b,.s .mon c,.s .entry d,.s .entry e],.one<|.i .i64 f,.one<|.i .i64 g,.one<|.i .i64 h]=>some (zkM (⟨b,c,d,e⟩:ad) f g h,[aH<|ziH (⟨b,c,d,e⟩:ad) f g h])
 |_=>none
def zwn (N:Nat)(c:ad)(a b l:Int):OA:=
 let h:=zmq c a b;let k:=ix h.aa a zi;let e:=ix c.aa a zi;let p:=ix e.ae b zbe; (oN (inb a<|ln c.aa)<|oN (inb b<|ln e.ae)<|oN zb3<|cond (cond (ieq p.af zbo.af) (ieq p.aj zbo.aj) false) (oN (zlI c a b)<|cond (ieq (wand .i64 l 2) 0) (some [aH h])<|oN (inb a<|ln h.aa)<|oN (inb b<|ln k.au)<|p0 (up h.aa a ({k with au:=(up k.au b true)}:Mon)) (λd=>let q:=(ix d a zi).ae;let i:=({h with aa:=d}:ad);let m:=ix q b zbe;let r:=({m with aj:=3}:k0); (oN (inb a<|ln d)<|oN (inb b<|ln q)<|cond (ieq (wand .i64 m.aj 2) 0) (oN (zfE i a b r)<|some [aH<|zhD i a b r])<|some [aH i])))<|cond (ieq (wand .i64 l 2) 0) (some [aH c])<|oN (inb a<|ln c.aa)<|oN (inb b<|ln e.au)<|p0 (up c.aa a ({e with au:=(up e.au b true)}:Mon)) (λd=>let f:=(ix d a zi).ae;let j:=({c with aa:=d}:ad);let n:=ix f b zbe;let g:=({n with aj:=3}:k0); (oN (inb a<|ln d)<|oN (inb b<|ln f)<|cond (ieq (wand .i64 n.aj 2) 0) (oN (zfE j a b g)<|some [aH<|zhD j a b g])<|some [aH j])))
def zTW (N:Nat)(a:ad)(b c d:Int):zDV (cQ zqO zp3 zY9 zUY) (zA []) N 12 183 [true,true,true,true,false,false,false] 1 1 [[0],[1],[2],[4],[7]] .mon [aH a,aI b,aI c,aI d]=zwn N a b c d:=by kernel_rfl
def zQ9 (d:ad)(b a h:Int)(C:zb5 big [aH d,aI b,aI a,aI h])(z:zkM d b a h=true):∃N,zwn N d b a h=some [aH<|ziH d b a h]:=by
 obtain⟨l,j,i,D,A⟩:=zT.1 z;obtain⟨B,v⟩:=zcD l.1 j;have f:∀r,Shape r->i0 b (ln r.aa)=true->(cond (ieq (wand .i64 h 2) 0) (some [AV.agg<|zbn r])<|cond (inb b<|ln r.aa) (cond (inb a<|ln (ix r.aa b zi).au) (p0 (up r.aa b ({ (ix r.aa b zi) with au:=(up (ix r.aa b zi).au a true)}:Mon)) λg=>cond (inb b<|ln g) (cond (inb a<|ln (ix g b zi).ae) (cond (ieq (wand .i64 (ix (ix g b zi).ae a zbe).aj 2) 0) (cond (zfE ({r with aa:=g}:ad) b a ({ (ix (ix g b zi).ae a zbe) with aj:=3}:k0)) (some [AV.agg<|zbn<|zhD ({r with aa:=g}:ad) b a ({ (ix (ix g b zi).ae a zbe) with aj:=3}:k0)]) none)<|some [AV.agg<|zbn ({r with aa:=g}:ad)]) none) none) none) none)=some [AV.agg<|zbn<|zjR r b a h]:=(by intro r u c;obtain⟨E,m⟩:=zcD u c;have y:=znn (p:=a) u c;unfold zjR;cases w:ieq (wand .i64 h 2) 0;{obtain⟨k,rfl,t⟩:=zdW (n:=r.aa.length) c;have q:ix (zbL r (k:Int) a).aa (k:Int) mZ={ix r.aa (k:Int) mZ with au:=up (ix r.aa (k:Int) mZ).au a true}:=zd8 t _ _;refine zcs rfl (j0 (zG c)<|j0 (zG<|zdI m.2.2.1 i)<|shr<|j0 (zG<|ze5 c)<|j0 ?_ ?_);{rw [zd8 t];exact zG (zdI m.1 i)};{unfold opened;show (cond (ieq (wand .i64 (ix (ix (zbL r (k:Int) a).aa (k:Int) mZ).ae a sZ).aj 2) 0) _ _)=_;cases s:ieq (wand .i64 (ix (ix (zbL r (k:Int) a).aa (k:Int) mZ).ae a sZ).aj 2) 0;{rfl};{refine j0 rfl (j0 (zbH ⟨(zU _).2 y.1,ze5 c,?_,?_⟩) rfl);{show i0 a (ln (ix (zbL r (k:Int) a).aa (k:Int) mZ).ae)=true;rw[q];exact zdI m.1 i};{show (ix (zbL r (k:Int) a).aa (k:Int) mZ).am.length<=(ix (zbL r (k:Int) a).aa (k:Int) mZ).ac.length;rw[q];exact uA m.2.2.2}}}};{rfl});refine⟨0,?_⟩;unfold zwn ziH C0 oN;conv=>zeta
 refine j0 (zG j) (j0 (zG<|zdI v.1 i) (j0 rfl ?_));have e:(cond (ieq (ix (ix d.aa b mZ).ae a sZ).af zbo.af) (ieq (ix (ix d.aa b mZ).ae a sZ).aj zbo.aj) false)=ieq (ix (ix d.aa b mZ).ae a sZ).af (-1):=(by rw[<- A.no];unfold zdh zbo;cases ieq (ix (ix d.aa b mZ).ae a sZ).af z0.af<;>rfl);rw[e];cases w:ieq (ix (ix d.aa b mZ).ae a sZ).af (-1);{exact f d l.1 j};{obtain⟨s,x⟩:=zkv (p:=a) l j i;exact j0 rfl (j0 (zbH ⟨l,j,i⟩)<|f _ s x)}
def zKq:zeh Tryz.prog 183 [true,true,true,true,false,false,false] (some (1,1,[[0],[1],[2],[4],[7]])) zso:=by refine zlZ (kt:=.mon) (zg6 zhQ zJ zN5 zEi) (zjK (by kernel_rfl)) (by kernel_rfl) ?_;intro a g f e h;have c:=zi4 e;unfold zso at h;split at h;{obtain⟨d,rfl⟩:=zeu h;obtain⟨N,b⟩:=zQ9 _ _ _ _ (by exact c) d;exact⟨⟨_,rfl⟩,rfl,_,N,12,(zTW N _ _ _ _ ).trans b⟩};{cases h}
def zwE:LC->LA->Option (Bool×LC×LA)
 |[.s (.sl .int) b,.s .mon c,.s .entry d,.s .entry e],[.one<|.i .i64 f,.one<|.i .i64 g,.one<|.i .i64 h]=>some (zkM (⟨b,c,d,e⟩:ad) f g h,zbn<|ziH (⟨b,c,d,e⟩:ad) f g h,[])
 |_,_=>none
def zGK (N:Nat)(c:ad)(b a k:Int):OA:=
 let e:=zmq c b a;let m:=ix e.aa b zi;let h:=ix c.aa b zi; (oN (inb b<|ln c.aa)<|oN (inb a<|ln h.ae)<|cond (ieq (ix h.ae a zbe).af<|-1) (oN (zlI c b a)<|oN (zcG k 2)<|cond (nB<|zd1 k 2) (some [aH e])<|oN (inb b<|ln e.aa)<|oN (inb a<|ln m.au)<|p0 (up e.aa b ({m with au:=(up m.au a true)}:Mon)) (λd=>let i:=ix d b zi;let f:=ix i.ae a zbe; (oN (inb a<|ln i.ae)<|oN (zcG f.aj 2)<|cond (nB<|zd1 f.aj 2) (oN (inb a<|ln i.ae)<|p0 (up d b ({i with ae:=(up i.ae a ({f with aj:=3}:k0))}:Mon)) (λl=>let n:=({e with aa:=l}:ad); (oN (zeE n b a f)<|some [aH<|zeF n b a f])))<|some [aH ({e with aa:=d}:ad)])))<|oN (zcG k 2)<|cond (nB<|zd1 k 2) (some [aH c])<|oN (inb b<|ln c.aa)<|oN (inb a<|ln h.au)<|p0 (up c.aa b ({h with au:=(up h.au a true)}:Mon)) (λd=>let j:=ix d b zi;let g:=ix j.ae a zbe; (oN (inb a<|ln j.ae)<|oN (zcG g.aj 2)<|cond (nB<|zd1 g.aj 2) (oN (inb a<|ln j.ae)<|p0 (up d b ({j with ae:=(up j.ae a ({g with aj:=3}:k0))}:Mon)) (λl=>let p:=({c with aa:=l}:ad); (oN (zeE p b a g)<|some [aH<|zeF p b a g])))<|some [aH ({c with aa:=d}:ad)])))
def z1L (N:Nat)(c:ad)(a b d:Int):zok (cQ zqO zp3 zY9 zUY) (zA []) N 12 181 [true,true,true,true] (zbn c) [aI a,aI b,aI d]=zGK N c a b d:=by kernel_rfl
def zYS (c:ad)(b a f:Int)(R:zb5 big (.agg (zbn c)::[aI b,aI a,aI f]))(M:zkM c b a f=true):∃N,zGK N c b a f=some (.agg (zbn<|ziH c b a f)::[]):=by
 obtain⟨l,i,j,P,C⟩:=zT.1 M;obtain⟨Q,I⟩:=zcD l.1 i;have H:enough f 2 = !ieq (wand .i64 f 2) 0:=(by rcases P with rfl|rfl|rfl<;>rfl);have g:∀r,Shape r->i0 b (ln r.aa)=true->enough (ix (ix r.aa b mZ).ae a sZ).aj 2=(!ieq (wand .i64 (ix (ix r.aa b mZ).ae a sZ).aj 2) 0)->(cond (zcG f 2) (cond (cond (zd1 f 2) false true) (some [AV.agg<|zbn r])<|cond (inb b<|ln r.aa) (cond (inb a<|ln (ix r.aa b zi).au) (p0 (up r.aa b ({ (ix r.aa b zi) with au:=(up (ix r.aa b zi).au a true)}:Mon)) λe=>cond (inb a<|ln (ix e b zi).ae) (cond (zcG (ix (ix e b zi).ae a zbe).aj 2) (cond (cond (zd1 (ix (ix e b zi).ae a zbe).aj 2) false true) (cond (inb a<|ln (ix e b zi).ae) (p0 (up e b ({ (ix e b zi) with ae:=(up (ix e b zi).ae a ({ (ix (ix e b zi).ae a zbe) with aj:=3}:k0))}:Mon)) λF=>cond (zeE ({r with aa:=F}:ad) b a<|ix (ix e b zi).ae a zbe) (some [AV.agg<|zbn<|zeF ({r with aa:=F}:ad) b a<|ix (ix e b zi).ae a zbe]) none) none)<|some [AV.agg<|zbn ({r with aa:=e}:ad)]) none) none) none) none) none)=some [AV.agg<|zbn<|zjR r b a f]:=(by intro r B d q;obtain⟨S,u⟩:=zcD B d;have w:=znn (p:=a) B d;unfold zjR;simp only[zcG,zd1,H,cT];cases J:ieq (wand .i64 f 2) 0;{obtain⟨k,rfl,A⟩:=zdW (n:=r.aa.length) d;have m:ix (zbL r (k:Int) a).aa (k:Int) mZ={ix r.aa (k:Int) mZ with au:=up (ix r.aa (k:Int) mZ).au a true}:=zd8 A _ _;have t:k<(zbL r (k:Int) a).aa.length:=(by simpa [zbL] using A);have z:inb a (ln (ix (zbL r (k:Int) a).aa (k:Int) mZ).ae)=true:=(by rw[m];exact zG (zdI u.1 j));refine zcs rfl (j0 (zG d)<|j0 (zG<|zdI u.2.2.1 j)<|shr<|j0 z ?_);unfold opened;show (cond (cond (enough (ix (ix (zbL r (k:Int) a).aa (k:Int) mZ).ae a sZ).aj 2) false true) _ _)=_;have G:(cond (enough (ix (ix (zbL r (k:Int) a).aa (k:Int) mZ).ae a sZ).aj 2) false true)=ieq (wand .i64 (ix (ix (zbL r (k:Int) a).aa (k:Int) mZ).ae a sZ).aj 2) 0:=(by rw[m];show (cond (enough (ix (ix r.aa (k:Int) mZ).ae a sZ).aj 2) false true)=ieq (wand .i64 (ix (ix r.aa (k:Int) mZ).ae a sZ).aj 2) 0;rw[q];cases ieq (wand .i64 (ix (ix r.aa (k:Int) mZ).ae a sZ).aj 2) 0<;>rfl);rw[G];cases v:ieq (wand .i64 (ix (ix (zbL r (k:Int) a).aa (k:Int) mZ).ae a sZ).aj 2) 0;{rfl};{have L:Shape {zbL r (k:Int) a with aa:=up (zbL r (k:Int) a).aa (k:Int) {ix (zbL r (k:Int) a).aa (k:Int) mZ with ae:=up (ix (zbL r (k:Int) a).aa (k:Int) mZ).ae a ⟨(ix (ix (zbL r (k:Int) a).aa (k:Int) mZ).ae a sZ).af,3⟩}}:=(by obtain⟨D,E⟩:=zcD w (ze5 d);exact ziX w ⟨by simpa using D.1,D.2⟩ ⟨by simpa using E.1,E.2⟩);have O:∀(x y:Mon),i0 (k:Int) (ln<|up (up r.aa (k:Int) x) (k:Int) y)=true:=λx y=>(by simpa [ln] using d);refine j0 rfl (j0 z<|shr<|j0 (zbH ⟨L,O _ _⟩) ?_);exact congrArg (λx=>some [AV.agg<|zbn x]) (zzN (h:=zbL r (k:Int) a) (p:=a) (s:=⟨(ix (ix (zbL r (k:Int) a).aa (k:Int) mZ).ae a sZ).af,3⟩) t (by rw[m];exact u.2.2.2))}};{rfl});refine⟨0,?_⟩;unfold zGK ziH C0 oN nB;conv=>zeta
 refine j0 (zG i) (j0 (zG<|zdI I.1 j) ?_);cases J:ieq (ix (ix c.aa b mZ).ae a sZ).af (-1);{exact g c l.1 i (z8a C.lo C.hi)};{obtain⟨v,K⟩:=zkv (p:=a) l i j;exact j0 rfl (j0 (zbH ⟨l,i,j⟩)<|g _ v K (by rw[zSM l i j];rfl))}
def zS0:zbP Tryz.prog 181 [true,true,true,true] zwE:=by refine zhJ (zg6 zhQ zJ zN5 zEi) (zjK (by kernel_rfl)) ?_;intro g a b j i f h;have d:=zk4 f;unfold zwE at h;split at h;{obtain⟨e,rfl,rfl⟩:=zm2 h;obtain⟨N,c⟩:=zYS _ _ _ _ (by exact d) e;exact⟨rfl,_,N,12,(z1L N _ _ _ _ ).trans c⟩};{cases h}
def zZb:zcT:=[(181,[true,true,true,true],zwE)]++zY9
def zci:zb2 zZb:=zce zN5 (by
 intro x a;simp only[qG,qN,or_false]at a;rcases a with rfl
 .exact zS0)
def zZT:zgj:=[(183,[true,true,true,true,false,false,false],some (1,1,[[0],[1],[2],[4],[7]]),zso)]++zUY
def zyo:zeL zZT:=zqC zEi (by
 intro x a;simp only[qG,qN,or_false]at a;rcases a with rfl
 .exact zKq)
def zYF {h:ad}(b:zcj h=true):h.ag.length=12:=by unfold zcj at b;simp only[zde]at b;have a:=b.1;unfold zl3 at a;simp only[zde]at a;have:ln h.ag=12:=qF a.2;simp only[ln] at this;omega
def zhx {h:ad}(a:zcj h=true):∀x∈h.aa,zfT x=true:=by unfold zcj at a;simp only[zde]at a;exact zy9 _ _ a.2.2.2.2
def zH4 {x:Mon}(a:zfT x=true):ShM x:=by have e:=zwa (zqW a);unfold zfT at a;simp only[zde]at a;have b:ln x.am=ln x.ac:=qF a.2.1;have c:ln x.Out=8:=qF a.2.2.2.1;have d:ln x.au=8:=qF a.2.2.2.2.1;simp only[ln] at *;exact⟨by omega,by omega,by omega,by omega⟩
def zfM {h:ad}(b:SmH h)(a:zcj h=true):Fit h:=by refine⟨⟨b,λx c=>zH4 (zhx a x c)⟩,by rw[zYF a];decide,?_⟩;unfold zcj at a;simp only[zde]at a;have:=zS4 _ _ rfl a.2.2.2.2;omega
def zsU {x:Mon}(b:zfT x=true){p:Int}(c:i0 p 8=true):SlotFit (ix x.ae p sZ):=by have a:=zqW b;unfold zdy at a;simp only[zde]at a;exact zZJ (qO.1 a.1 _<|zbF (zdI (zH4 b).1 c) _)
def zVK {h:ad}{m p:Int}(a:Fit h)(c:i0 m (ln h.aa)=true):Fit (zbL h m p):=by refine⟨znn a.1 c,a.2.1,?_⟩;obtain⟨k,rfl,b⟩:=zdW (n:=h.aa.length) c;have:=zVs h.aa k (ix h.aa (k:Int) mZ) {ix h.aa (k:Int) mZ with au:=up (ix h.aa (k:Int) mZ).au p true} (by rw[zbr b];exact qB b);have d:=a.2.2;unfold zbL;simp only[up,kM];dsimp only at this;simp only[up] at this;omega
abbrev gZ:ah:=Ty.dflt .guest
@[simp] abbrev zek (h:ad)(m:Int):Bool:=pc (zcR h)
@[simp] abbrev zfp (h:ad)(m:Int):Mon:=bif i0 m (ln h.aa) then ix h.aa m mZ else mZ
@[simp] abbrev zrN (h:ad)(m:Int):Bool:=i0 m (ln h.aa)
def zGb:Run:=rF2 dH dI λb c=>(zek b c,[aT .mon<|zfp b c,aB<|zrN b c])
def zOF (N:Nat)(a:ad)(b:Int):OA:=
 let c:=ix a.aa b zi; (oN (zcG b<|ln a.aa)<|cond (nB<|zib b<|ln a.aa) (some [aT .mon (⟨[],[],[],[],[],0,0,[],0⟩:Mon),aB false])<|oN (inb b<|ln a.aa)<|oN (zwz c)<|some [aT .mon<|zCD c,aB true])
def zVT (a:ad)(b:Int)(d:zek a b=true):∃N,zOF N a b=some [aT .mon<|zfp a b,aB<|zrN a b]:=by
 have e:=(zU a).1 (zT.1 d);refine⟨0,?_⟩;unfold zOF zfp zrN oN nB;conv=>zeta
 refine j0 rfl ?_;rw[show zib b (ln a.aa)=i0 b (ln a.aa) from rfl];cases c:i0 b (ln a.aa);{rfl};{exact zcs rfl (j0 (zG c) (j0 (zbH<|e.2.1.2 _<|zbF c _) rfl))}
def zQh:vT 72 zGb:=kF2 zhQ zJ zci zyo (zA []) zVT
def zb1 (h:ad)(m g:Int):Bool:=bif zcj h then (cond (i0 m<|ln h.aa) (i0 g<|ln (ix h.aa m mZ).ac) false) else false
@[simp] abbrev zdf (h:ad)(m g:Int):Bool:=pc (zcR h)
@[simp] abbrev zjv (h:ad)(m g:Int):Bool:=zb1 h m g
def zGo:Run:=rF3 dH dI dI λb c d=>(zdf b c d,[aB<|zjv b c d])
def zOV (N:Nat)(a:ad)(b c:Int):OA:=
 let d:=wsub .i64 (ln (ix a.aa b zi).ac) 1; (oN (zfX a)<|cond (zfW a) (oN (zQ b 0<|wsub .i64 (ln a.aa) 1)<|cond (zl b 0<|wsub .i64 (ln a.aa) 1) (oN (inb b<|ln a.aa)<|oN (zQ c 0 d)<|some [aB<|zl c 0 d]) oF) oF)
def zWb (a:ad)(b c:Int)(f:zdf a b c=true):∃N,zOV N a b c=some [aB<|zjv a b c]:=by
 have e:=(zU a).1 (zT.1 f);refine⟨0,?_⟩;unfold zOV zjv zb1 oN;conv=>zeta
 refine j0 rfl ?_;rw[show zfW a=zcj a from rfl];cases g:zcj a;{rfl};{rw [show zl b 0 (wsub .i64 (ln a.aa) 1)=i0 b (ln a.aa) from zqE e.2.1.1 b];refine j0 rfl (j0 rfl ?_);cases d:i0 b (ln a.aa);{rfl};{have hg:(ix a.aa b mZ).ac.length<=1048576:=(e.2.1.2 _<|zbF d _).2.2.2.1.1;rw[show zl c 0 (wsub .i64 (ln (ix a.aa b zi).ac) 1)=i0 c (ln (ix a.aa b mZ).ac) from zqE hg c];exact j0 rfl (j0 (zG d) (j0 rfl rfl))}}
def zQy:vT 258 zGo:=kF3 zhQ zJ zci zyo (zA []) zWb
def zcz (h:ad)(m:Int):Nat->Nat->List LI
 | 0,_=>[]
 |n+1,i=>zb8 h m (i:Int)::zcz h m n (i+1)
def zzs (h:ad)(m:Int):∀(n i:Nat),(zcz h m n i).length=n
 | 0,_=>rfl
 |n+1,i=>by simp[zcz,zzs h m n]
def zK (h:ad)(m:Int):ak:=bif i0 m (ln h.aa) then ⟨zcz h m 8 0,(ix h.aa m mZ).ac,(ix h.aa m mZ).Outs,(ix h.aa m mZ).ai⟩ else ⟨[],[],[],0⟩
def zCo {c:Type}(h:ad)(m:Int)(K:List LI->Option c):∀(n i:Nat) (a:List LI),a.length+n<=2147483648->
 goN (λi a b=>bif few (ln<|ap a [zb8 h m (i:Int)]) then b (ap a [zb8 h m (i:Int)]) else none) K n i a=K (a++zcz h m n i)
 | 0,_,a,_=>by simp[goN,zcz]
 |n+1,i,a,d=>by simp only[goN,zcz];rw[zhn (by simp[ap];omega),cT,zCo h m K n (i+1) _ (by simp[ap];omega)];simp[ap]
@[simp] abbrev zeQ (h:ad)(m:Int):ak:=zK h m
def z6m:zW:=[(72,zGb),(258,zGo)]++zqO
def zSC:zL z6m:=zh zQh (zh zQy zhQ)
def zhZ:Run:=rF2 dH dI λb c=>(zek b c,[aT .bare<|zeQ b c])
def zIJ (N:Nat)(b:ad)(c:Int):OA:=
 (oN (zek b c)<|cond (nB<|zrN b c) (some [aT .bare (⟨[],[],[],0⟩:ak)])<|iter (σ:=(Int×Int×Int×Int×lM×lN×lE×lE×lM×lG×LI×lM×lG×LI×Unit)) N (λh a=>let b:=a.2.2.2.2.2;let c:=b.2.2.2.2;let g:=c.2.2.2.1;let f:=c.2.2.2.2.1;let d:=(⟨a.2.2.2.2.1,b.1,b.2.1,b.2.2.1⟩:ad);let e:=ap c.2.2.1 [zh3 d a.1 a.2.1]; (cond (ilt a.2.1 8) (oN (zjY d a.1 a.2.1)<|oN (few<|ln e)<|h (a.1,zM .i64 a.2.1 1,a.2.2.1,a.2.2.2.1,a.2.2.2.2.1,b.1,b.2.1,b.2.2.1,b.2.2.2.1,c.1,c.2.1,e,g,f,()))<|some [aT .bare (⟨c.2.2.1,g,f,a.2.2.2.1⟩:ak)])) (c,0,0,(zfp b c).ai,b.ag,b.aa,b.ao,b.an,[],[],[],[],(zfp b c).ac,(zfp b c).Outs,()))
def zU2:=zA [(54,0,{n:=39,tm:=[(1,ti),(2,.lp 0 0),(4,.lp 1 0),(7,.lp 2 0),(8,ti)],lo:=[(0,[.sl 0 [],.sl 1 [],.sl 2 [],.sl 3 []]),(1,[.sl 4 [],.sl 5 [],.sl 6 [],ti]),(2,[.sl 7 [],.sl 8 [],.sl 9 [],ti])],ro:=[(0,.sl .int,false),(1,.mon,false),(2,.entry,false),(3,.entry,false),(4,.sl .int,true),(5,.guest,true),(6,.int,true),(7,.sl .int,true),(8,.guest,true),(9,.int,true)]})]
def zTi (a:ad)(b:Int)(f:zek a b=true):∃N,zIJ N a b=some [aT .bare<|zeQ a b]:=by
 have e:=zT.1 f;refine zcI λN d=>?_;unfold zIJ zeQ zK oN nB;conv=>zeta
 refine j0 (zbH e) ?_;rw[show zrN a b=i0 b (ln a.aa) from rfl];cases g:i0 b (ln a.aa);{rfl};{refine zcs rfl ?_;refine(zt3 8 (λi (t:lM)=>(b,(i:Int),0,(zfp a b).ai,a.ag,a.aa,a.ao,a.an,[],[],[],t,(zfp a b).ac,(zfp a b).Outs,())) _ (λi (c:List LI) j=>bif few (ln<|ap c [zb8 a b (i:Int)]) then j (ap c [zb8 a b (i:Int)]) else none) (λ(t:lM)=>some [.agg<|Ty.cells .bare (⟨t,(zfp a b).ac,(zfp a b).Outs,(zfp a b).ai⟩:ak)]) (λi h t rec=>?_) (λt rec=>?_) _ ([])<|d (by decide)).trans ?_;{simp only [show ilt (i:Int) 8=true from qM (by omega),zbx h (show 8<=big by decide),cT];exact j0 (zbH e) rfl};{simp only [show ilt ((8:Nat):Int) 8=false from qT (by omega),cF]};rw[zCo a b _ 8 0 [] (by decide)];simp only[zfp,g,cT,jS]}
def zpZ:vT 54 zhZ:=kF2 zSC zJ zci zyo zU2 zTi
def zWd:zcK zzT=true:=by decide
def zWS {p:Nat->Bool}:∀{n i q:Nat},zpM p n i=true->i<=q->q<i+n->p q=true
 | 0,i,q,_,a,b=>by omega
 |n+1,i,q,h,a,b=>by simp only[zpM,qE]at h;by_cases c:i=q;{subst c;exact h.1};{exact zWS h.2 (by omega) (by omega)}
def z1Y {h:ad}{m:Int}(e:zcj h=true)(l:i0 m (ln h.aa)=true){p:Int}(j:i0 p 8=true):zcK (zb8 h m p)=true:=by have i:=zhx e _ (zbF l mZ);have s:=zH4 i;have f:h.ag.all zcK=true:=(by unfold zcj at e;simp only[zde]at e;have b:=e.1;unfold zl3 at b;simp only[zde]at b;exact b.1);unfold zb8;rw[l,j];simp only[cT];have t:zbB (ix h.aa m mZ).ae p=ix (ix h.aa m mZ).ae p sZ:=(by unfold zbB;rw[zdI s.1 j];rfl);rw[t];have d:∀(g:List LI) (q:Int),(i0 q (ln g)=true->zcK (ix g q [])=true)->zcK (zcy g q)=true:=(by intro g q k;unfold zcy;cases b:i0 q (ln g);{exact zWd};{exact k b});cases c:ine (ix (ix h.aa m mZ).ae p sZ).af (-1);{refine d _ _ (λk=>?_);obtain⟨q,rfl,u⟩:=zdW (n:=8) j;have a:fits (ix h.aa m mZ) q=true:=(by unfold zfT at i;simp only[zde]at i;exact zWS i.2.2.2.2.2.2.2.2.2.2 (by omega) (by omega));unfold fits znU at a;have r:zdh (ix (ix h.aa m mZ).ae (q:Int) sZ) z0=true:=(by rw[(zsU (zhx e _<|zbF l mZ) j).no];rw[ztl]at c;cases b:ieq (ix (ix h.aa m mZ).ae (q:Int) sZ).af (-1);{rw [b]at c;cases c};{rfl});rw[r]at a;exact a};{exact d _ _ (λk=>qO.1 f _ (zbF k _))}
def zPU {h:ad}{m:Int}(a:zcj h=true)(b:i0 m (ln h.aa)=true):∀(n i:Nat),i+n<=8->(zcz h m n i).all zcK=true
 | 0,_,_=>rfl
 |n+1,i,c=>by simp only[zcz,k9,qE];exact⟨z1Y a b<|qM (by omega),zPU a b n (i+1) (by omega)⟩
def zFN {h:ad}{m:Int}(c:zcj h=true)(b:i0 m (ln h.aa)=true):zcc (zK h m)=true:=by have a:=zhx c _ (zbF b mZ);unfold zfT at a;simp only[zde]at a;unfold zK zcc zl3;rw[b];simp only[cT,a.2.2.2.2.2.2.2.2.2.1,zPU c b 8 0 (by decide),ln,zzs];simp only[ln]at a;rw[a.1,a.2.2.2.2.2.1,a.2.2.2.2.2.2.1];rfl
def zm6:zW:=[(54,zhZ)]++z6m
def ziN:zL zm6:=zh zpZ zSC
def zej (l:List Mon):List (List ah):=l.map λx=>x.ac
def zy6 {l:List Mon}{m:Int}{x:Mon}(b:i0 m (ln l)=true)(c:x.ac=(ix l m mZ).ac):zej (up l m x)=zej l:=by obtain⟨k,rfl,a⟩:=zdW (n:=l.length) b;unfold zej up;rw[List.map_set,kM,c,zbr a];have:=@vD _ (l.map λx=>x.ac) k (by simpa using a);simpa using this
def zJM {l b:List Mon}(h:zej b=zej l)(m:Int):(ix b m mZ).ac=(ix l m mZ).ac:=by unfold zej at h;have a:(b.map λx=>x.ac)[m.toNat]?=(l.map λx=>x.ac)[m.toNat]?:=(by rw[h]);rw[qQ,qQ]at a;unfold ix;simp only[kG];cases c:b[m.toNat]? <;> cases d:l[m.toNat]? <;> rw [c,d]at a<;>simp at a ⊢;exact a
def zy5 {h:ad}{m p:Int}{s:k0}(a:i0 m (ln h.aa)=true):zej (zcq h m p s).aa=zej h.aa:=by rw[(zgV h m p s).1];exact zy6 a rfl
def z8h {h:ad}{m p:Int}(a:i0 m (ln h.aa)=true):zej (zdK h m p).aa=zej h.aa:=(zy5 (h:=zfe h m p)<|ze5 a).trans (zy6 a rfl)
def z8g {h:ad}(b:Fit h):zej (zdc h).aa=zej h.aa:=by unfold zdc;cases a:ieq (ln<|zcn h) 0;{rfl};{exact z8h (zEa b a).1}
def zYC {h:ad}{m p:Int}(a:Fit h)(c:i0 m (ln h.aa)=true):zej (fetched h m p).aa=zej h.aa:=by have b:=zqe a c;exact((zy5 (h:=landing (zdc h) m p (ix (zcn<|zdc h) 0 0))<|ze5 b).trans (zy6 b rfl)).trans (z8g a)
def zSX {h:ad}{m p n:Int}(b:i0 m (ln h.aa)=true):zej (zjR h m p n).aa=zej h.aa:=by have a:zej (zbL h m p).aa=zej h.aa:=zy6 b rfl;unfold zjR;cases ieq (wand .i64 n 2) 0;{unfold opened;cases ieq (wand .i64 (ix (ix (zbL h m p).aa m mZ).ae p sZ).aj 2) 0;{exact a};{exact(zy5 (h:=zbL h m p)<|ze5 b).trans a}};{rfl}
def z1k {h:ad}{m p n:Int}(b:Fit h)(a:i0 m (ln h.aa)=true)(c:i0 p 8=true):zej (C0 h m p n).aa=zej h.aa:=by unfold C0;cases ieq (ix (ix h.aa m mZ).ae p sZ).af (-1);{exact zSX a};{exact(zSX (zkv b a c).2).trans (zYC b a)}
def z9N {l a:List Mon}(h:zej a=zej l):a.length=l.length:=by have:=congrArg List.length h;simpa [zej] using this
abbrev kZ:az:=Ty.dflt .kept
def zbaF {x:ah}(f:ze0 x=true){p n:Int}(d:zf5 x.aw p n=true):i0 (zcP x.aw p n) 8=true:=by have g:zdy x.aw 4 8=true:=(by unfold ze0 at f;simp only[qE]at f;exact f.2.2.2.2.1);unfold zcP;rw[d];simp only[cT];unfold zf5 at d;cases a:ieq (zbB x.aw p).af (-1);{unfold zbB at a ⊢;cases e:i0 p (ln x.aw);{rw [e]at a;cases a};{rw [e]at a;simp only[cT]at a ⊢;unfold zdy at g;simp only[zde]at g;have c:=qO.1 g.1 _ (zbF e sZ);unfold zeM at c;cases b:zdh (ix x.aw p sZ) z0;{rw [b]at c;simp only[cF,zde]at c;have:=zgz.1 c.2.1;rw[show wsub .i64 8 1=7 from rfl] at this;show i0 (ix x.aw p sZ).af 8=true;exact qM (by omega)};{unfold zdh at b;rw[qE]at b;have:(ix x.aw p sZ).af = -1:=qF b.1;rw[show ieq (ix x.aw p zbe).af (-1)=true from qM this]at a;cases a}}};{rw [a]at d;cases d}
def zcZ (h:ad)(m g:Int):List k0:=(ix (ix h.aa m mZ).ac g gZ).aw
def zcC (h:ad)(m g:Int):az:=ix (ix h.aa m mZ).am g kZ
def zrF (b:List ar)(m g a:Int):Option ar:=zDX b (zfh m g) a
def zik (b:List ar)(m g a c:Int):Bool:=bif (zrF b m g a).isSome then enough ((zrF b m g a).getD ⟨0,0,0,0⟩).aj c else false
def zfv (h:ad)(m g a b:Int):Bool:=bif zlh (zcC h m g) a then (cond (ieq (zfI (zcC h m g) a).af<|-1) true<|!enough (zfI (zcC h m g) a).aj b) else true
def zdY (h:ad)(m g a:Int):ad:={h with aa:=up h.aa m {ix h.aa m mZ with am:=up (ix h.aa m mZ).am g (filled (zcC h m g) (zcZ h m g) (ix h.aa m mZ).ae a)}}
def zRK (h:ad)(m g a:Int):ar:=⟨zfh m g,a,(zfI (zcC h m g) a).af,(zfI (zcC h m g) a).aj⟩
def zvE (h:ad)(m g a:Int)(b:Bool):ad:=bif b then {h with an:=zqa h.an (zRK h m g a)} else {h with ao:=zqa h.ao (zRK h m g a)}
def zix (h:ad)(m g a:Int)(b:Bool):ad×Int×Bool:=(zvE h m g a b,(zfI (zcC h m g) a).af,true)
def ziw (h:ad)(b:List ar)(m g a c q:Int)(d:Bool):ad×Int×Bool :=
 bif zik b m g a c then (h,((zrF b m g a).getD ⟨0,0,0,0⟩).ad,true)
 else (cond (zfv h m g a c) (zix (zdY (C0 h m q c) m g a) m g a d)<|zix h m g a d)
def zkj (a:Int):Bool:=bif ieq a 1 then true else ieq a 2
def zca (h:ad)(m g page need:Int):Bool:=bif zb1 h m g then (cond (zkj need) (zf5 (zcZ h m g) page need) false) else false
def lookOf (h:ad)(b:List ar)(m g page need:Int)(io:Bool):ad×Int×Bool :=
 bif zca h m g page need then ziw (cond (ieq need 2) (zbL h m<|zcP (zcZ h m g) page need) h) b m g page need (zcP (zcZ h m g) page need) io else (h,-1,false)
structure Kp (h r:ad):Prop where
 shape:Shape r
 gs:zej r.aa=zej h.aa
def Kp.has {h r:ad}(k:Kp h r){m:Int}(a:i0 m (ln h.aa)=true):i0 m (ln r.aa)=true:=by rw[ln,z9N k.gs];exact a
def zZG {h:ad}{m g c:Int}(d:Shape h)(e:i0 m (ln h.aa)=true)(hg:i0 g (ln (ix h.aa m mZ).ac)=true):Shape (zdY h m g c):=by obtain⟨a,b⟩:=zcD d e;have f:i0 g (ln (ix h.aa m mZ).am)=true:=(by rw[ln,b.2.2.2];exact hg);exact ziX d ⟨a.1,a.2.1,a.2.2.1,a.2.2.2.1,a.2.2.2.2.1,zyk a.2.2.2.2.2<|zZM<|a.2.2.2.2.2.2 _<|zbF f _⟩ ⟨b.1,b.2.1,b.2.2.1,by simpa using b.2.2.2⟩
def z1v {h r:ad}{m g a:Int}{i:Bool}(k:Kp h r):Kp h (zvE r m g a i):=by obtain⟨⟨b,c,d,e⟩,f⟩:=k.shape;unfold zvE;cases i;{exact⟨⟨⟨b,c,(zzv _ d).1,e⟩,f⟩,k.gs⟩};{exact⟨⟨⟨b,c,d,(zzv _ e).1⟩,f⟩,k.gs⟩}
structure LookAt (h:ad) (m g q need:Int):Prop where
 fit:Fit h
 hm:i0 m (ln h.aa)=true
 hg:i0 g (ln (ix h.aa m mZ).ac)=true
 hq:i0 q 8=true
 hn:need=1\/need=2
 hs:SlotFit (ix (ix h.aa m mZ).ae q sZ)
def LookAt.mend {h:ad}{m g q a:Int}(A:LookAt h m g q a):zR5 h m q a:=⟨A.fit,A.hm,A.hq,A.hn.elim .inl λh=>.inr (.inl h),A.hs⟩
def LookAt.kp {h:ad}{m g q a:Int}(A:LookAt h m g q a):Kp h (C0 h m q a):=⟨(zuJ A.fit A.hm A.hq).1,z1k A.fit A.hm A.hq⟩
def LookAt.fill {h:ad}{m g q a:Int}(A:LookAt h m g q a)(b:Int):Kp h (zdY (C0 h m q a) m g b):=by have k:=A.kp;have hg:i0 g (ln (ix (C0 h m q a).aa m mZ).ac)=true:=(by rw[zJM k.gs];exact A.hg);have e:zej (zdY (C0 h m q a) m g b).aa=zej (C0 h m q a).aa:=zy6 (k.has A.hm) rfl;exact⟨zZG k.shape (k.has A.hm) hg,e.trans k.gs⟩
def zTa {h:ad}{b:List ar}{m g page a q:Int}{io:Bool}(A:LookAt h m g q a):Kp h (ziw h b m g page a q io).1:=by unfold ziw;cases zik b m g page a;{cases zfv h m g page a;{exact z1v ⟨A.fit.1,rfl⟩};{exact z1v (A.fill page)}};{exact⟨A.fit.1,rfl⟩}
def zdH {h:ad}{m g:Int}(a:zb1 h m g=true):zcj h=true/\i0 m (ln h.aa)=true/\i0 g (ln (ix h.aa m mZ).ac)=true:=by unfold zb1 at a;simp only[zde]at a;exact a
def zYD {h:ad}{m g:Int}(e:zb1 h m g=true):ze0 (ix (ix h.aa m mZ).ac g gZ)=true:=by obtain⟨b,c,d⟩:=zdH e;have a:=zhx b _ (zbF c mZ);unfold zfT at a;simp only[zde]at a;exact qO.1 a.2.2.2.2.2.2.2.2.2.1 _ (zbF d _)
def zK3 {n:Int}(h:zkj n=true):n=1\/n=2:=by unfold zkj at h;cases a:ieq n 1;{rw [a]at h;exact .inr (qF h)};{exact .inl (qF a)}
def zPF {h:ad}{m g page a:Int}(s:SmH h)(d:zca h m g page a=true) :
 LookAt h m g (zcP (zcZ h m g) page a) a/\LookAt (zbL h m<|zcP (zcZ h m g) page a) m g (zcP (zcZ h m g) page a) a:=by
 unfold zca at d;simp only[zde]at d;obtain⟨l,p,r⟩:=d;obtain⟨i,b,j⟩:=zdH l;have f:i0 (zcP (zcZ h m g) page a) 8=true:=zbaF (zYD l) r;have c:=zsU (zhx i _<|zbF b mZ) f;have q:=zfM s i;refine⟨⟨q,b,j,f,zK3 p,c⟩,⟨zVK q b,ze5 b,?_,f,zK3 p,?_⟩⟩
 .have e:zej (zbL h m<|zcP (zcZ h m g) page a).aa=zej h.aa:=zy6 b rfl;rw[zJM e];exact j
 .obtain⟨k,rfl,hk⟩:=zdW (n:=h.aa.length) b;unfold zbL;rw[zd8 hk];exact c
def zxx {h:ad}{b:List ar}{m g page need:Int}{io:Bool}(a:SmH h)(f:zb1 h m g=true):Kp h (lookOf h b m g page need io).1:=by have d:=zfM a (zdH f).1;unfold lookOf;cases c:zca h m g page need;{exact⟨d.1,rfl⟩};{obtain⟨A,B⟩:=zPF a c;simp only[cT];cases ieq need 2;{exact zTa A};{have k:=zTa (b:=b) (page:=page) (io:=io) B;have e:zej (zbL h m<|zcP (zcZ h m g) page need).aa=zej h.aa:=zy6 A.hm rfl;exact⟨k.shape,k.gs.trans e⟩}}
def zN7 (x:ad×Int×Bool):LA:=[.agg<|zbn x.1,.one<|.i .i64 x.2.1,.one<|.b x.2.2]
def znS {h:ad}{b:List ar}{m g c a:Int}{e:Bool}(d:zca h m g c a=false):lookOf h b m g c a e=(h,-1,false):=by unfold lookOf;rw[d];rfl
def zCU {h:ad}{m g b a:Int}(c:zb1 h m g=false):zca h m g b a=false:=by unfold zca;rw[c];rfl
def z8i {h:ad}{m g:Int}(a:zcj h=false):zb1 h m g=false:=by unfold zb1;rw[a];rfl
def z8j {h:ad}{m g:Int}(a:i0 m (ln h.aa)=false):zb1 h m g=false:=by unfold zb1;rw[a];cases zcj h<;>rfl
def z8k {h:ad}{m g:Int}(a:i0 g (ln (ix h.aa m mZ).ac)=false):zb1 h m g=false:=by unfold zb1;rw[a];cases zcj h<;>cases i0 m (ln h.aa)<;>rfl
def z8l {h:ad}{m g:Int}(a:zcj h=true)(b:i0 m (ln h.aa)=true)(c:i0 g (ln (ix h.aa m mZ).ac)=true):zb1 h m g=true:=by unfold zb1;rw[a,b,c];rfl
structure LookF (r:ad) (m g:Int):Prop where
 hm:i0 m (ln r.aa)=true
 hg:i0 g (ln (ix r.aa m mZ).ac)=true
 ht:i0 g (ln (ix r.aa m mZ).am)=true
 hk:SmK (zcC r m g)
 hb:r.ao.length<=1048576
 hi:r.an.length<=1048576
def zD7 {h r:ad}{m g:Int}(k:Kp h r)(b:i0 m (ln h.aa)=true)(hg:i0 g (ln (ix h.aa m mZ).ac)=true):LookF r m g:=by obtain⟨d,e⟩:=zcD k.shape (k.has b);have a:i0 g (ln (ix r.aa m mZ).ac)=true:=(by rw[zJM k.gs];exact hg);have c:i0 g (ln (ix r.aa m mZ).am)=true:=(by rw[ln,e.2.2.2];exact a);exact⟨k.has b,a,c,d.2.2.2.2.2.2 _<|zbF c _,k.shape.1.2.2.1,k.shape.1.2.2.2⟩
@[simp] abbrev zkP (h:ad)(b:List ar)(m g c a:Int)(d:Bool):Bool:=pc (zcR h)
@[simp] abbrev zfF (h:ad)(b:List ar)(m g page need:Int)(io:Bool):ad:=(lookOf h b m g page need io).1
@[simp] abbrev zkO (h:ad)(b:List ar)(m g c a:Int)(d:Bool):Int:=(lookOf h b m g c a d).2.1
@[simp] abbrev zhE (h:ad)(b:List ar)(m g c a:Int)(d:Bool):Bool:=(lookOf h b m g c a d).2.2
def zsq:LW
 |[.agg [.s (.sl .int) c,.s .mon d,.s .entry e,.s .entry f],.one<|.s .entry g,.one<|.i .i64 h,.one<|.i .i64 j,.one<|.i .i64 k,.one<|.i .i64 l,.one<|.b m]=>some (zkP (⟨c,d,e,f⟩:ad) g h j k l m,[aH<|zfF (⟨c,d,e,f⟩:ad) g h j k l m,aI<|zkO (⟨c,d,e,f⟩:ad) g h j k l m,aB<|zhE (⟨c,d,e,f⟩:ad) g h j k l m])
 |_=>none
abbrev zQd (b:lM)(c:lN)(d:lE)(e:lE)(a:Int)(g:Int)(f:Int):Mon :=
 (ix (ziH (⟨b,c,d,e⟩:ad) a g f).aa a zi)
abbrev zQe (a:ad)(b c:Int)(d e:Int):Int :=
 (zkn (ix (ix a.aa b zi).ac c zD).aw d e)
def zMc (N:Nat)(a:Int)(b:lM)(c:lN)(d:lE)(e:lE):OA:=
 (some [aH (⟨b,c,d,e⟩:ad),aI a,aB true])
def zpL (N:Nat)(l:Int)(m:Bool)(n:Int)(c:Int)(d:Int)(k:lM)(e:lN)(a:lE)(b:lE)(f:lM)(g:lN)(h:lE)(i:lE):OA:=
 let q:=(⟨n,l,c,d⟩:ar); (p0 (λ(j:(Int×Int×lM×lN×lE×lE×lM×lN×lE×lE×Unit))=>zMc N j.1 j.2.2.1 j.2.2.2.1 j.2.2.2.2.1 j.2.2.2.2.2.1) λp=>cond m (oN (zly b q)<|p (c,d,k,e,a,zmf b q,f,g,h,i,()))<|oN (zly a q)<|p (c,d,k,e,zmf a q,b,f,g,h,i,()))
def zr8 (N:Nat)(d:lM)(e:lN)(f:lE)(g:lE)(b:Int)(i:Int)(h:Int)(a:Int)(c:Int)(y:(Int×Bool×Int×Int×Int×Int×Int×Int×Int×lM×lN×lE×lE×lM×lN×lE×lE×Unit)->OA)(r:Bool)(s:Int)(t:Int)(u:Int)(v:Int)(k:Int)(l:lM)(m:lN)(n:lE)(p:lE):OA:=
 let D:=(⟨d,e,f,g⟩:ad);let w:=ziH D b i h;let x:=inb b<|ln w.aa;let j:=zQd d e f g b i h;let C:=ix j.am a zhq;let A:=(ix j.ac a zD).aw; (oN (zkM D b i h)<|oN x<|oN x<|oN (inb a<|ln j.am)<|oN x<|oN (inb a<|ln j.ac)<|oN x<|oN (zIl C A j.ae c)<|oN (inb a<|ln j.am)<|p0 (up w.aa b ({j with am:=(up j.am a<|zLp C A j.ae c)}:Mon)) (λq=>let B:=(ix q b zi).am;let z:=ix B a zhq; (oN (inb b<|ln q)<|oN (inb a<|ln B)<|oN (zds z c)<|y (c,r,s,t,u,v,k,(zto z c).af,(zto z c).aj,w.ag,q,w.ao,w.an,l,m,n,p,()))))
def zlR (N:Nat)(d:Int)(e:Int)(c:Int)(n:Int)(p:Bool)(v:Int)(q:Int)(r:Int)(s:Int)(t:Int)(f:Int)(g:lM)(b:lN)(h:lE)(i:lE)(j:lM)(k:lN)(l:lE)(m:lE):OA:=
 let z:=(ix b d zi).am;let x:=ix z e zhq;let w:=zto x c; (oN (inb d<|ln b)<|oN (inb e<|ln z)<|oN (zds x c)<|p0 (λ(a:(Int×Bool×Int×Int×Int×Int×Int×Int×Int×lM×lN×lE×lE×lM×lN×lE×lE×Unit))=>zpL N a.1 a.2.1 a.2.2.1 a.2.2.2.2.2.2.2.1 a.2.2.2.2.2.2.2.2.1 a.2.2.2.2.2.2.2.2.2.1 a.2.2.2.2.2.2.2.2.2.2.1 a.2.2.2.2.2.2.2.2.2.2.2.1 a.2.2.2.2.2.2.2.2.2.2.2.2.1 a.2.2.2.2.2.2.2.2.2.2.2.2.2.1 a.2.2.2.2.2.2.2.2.2.2.2.2.2.2.1 a.2.2.2.2.2.2.2.2.2.2.2.2.2.2.2.1 a.2.2.2.2.2.2.2.2.2.2.2.2.2.2.2.2.1) (λu=>let y:=zr8 N g b h i d v n e c u p q r s t f j k l m; (cond (nB<|zEe x c) y<|cond (ieq w.af<|-1) y<|oN (zcG w.aj n)<|cond (nB<|zd1 w.aj n) y<|u (c,p,q,r,s,t,f,w.af,w.aj,g,b,h,i,j,k,l,m,()))))
def zr9 (N:Nat)(g:Int)(a:ad)(h e f:Int)(l:lE)(n:Bool):OA:=
 let i:=ztq g h;let k:=zQe a g h e f;let m:=ix a.aa g zi;let s:=(ix m.ac h zD).aw;let d:=znd l i e;let j:=d.aj; (oN (inb g<|ln a.aa)<|oN (inb h<|ln m.ac)<|oN (zsu s e f)<|cond (nB<|zko s e f) (some [aH a,aI<|-1,aB false])<|oN (zlA g h)<|cond (ieq f 2) (oN (inb g<|ln a.aa)<|oN (inb k<|ln m.au)<|p0 (up a.aa g ({m with au:=(up m.au k true)}:Mon)) λp=>oN (zne l i e)<|p0 (λ(c:(Int×Int×Int×Int×Bool×Int×Int×Int×Int×Int×Int×lM×lN×lE×lE×lM×lN×lE×lE×Unit))=>zlR N c.1 c.2.1 c.2.2.1 c.2.2.2.1 c.2.2.2.2.1 c.2.2.2.2.2.1 c.2.2.2.2.2.2.1 c.2.2.2.2.2.2.2.1 c.2.2.2.2.2.2.2.2.1 c.2.2.2.2.2.2.2.2.2.1 c.2.2.2.2.2.2.2.2.2.2.1 c.2.2.2.2.2.2.2.2.2.2.2.1 c.2.2.2.2.2.2.2.2.2.2.2.2.1 c.2.2.2.2.2.2.2.2.2.2.2.2.2.1 c.2.2.2.2.2.2.2.2.2.2.2.2.2.2.1 c.2.2.2.2.2.2.2.2.2.2.2.2.2.2.2.1 c.2.2.2.2.2.2.2.2.2.2.2.2.2.2.2.2.1 c.2.2.2.2.2.2.2.2.2.2.2.2.2.2.2.2.2.1 c.2.2.2.2.2.2.2.2.2.2.2.2.2.2.2.2.2.2.1) λr=>cond (zkl l i e) (oN (zcG j f)<|cond (zd1 j f) (some [aH ({a with aa:=p}:ad),aI d.ad,aB true])<|r (g,h,e,f,n,k,i,d.Tag,d.af,d.ad,j,a.ag,p,a.ao,a.an,[],[],[],[],()))<|r (g,h,e,f,n,k,i,d.Tag,d.af,d.ad,j,a.ag,p,a.ao,a.an,[],[],[],[],()))<|oN (zne l i e)<|p0 (λ(b:(Int×Int×Int×Int×Bool×Int×Int×Int×Int×Int×Int×lM×lN×lE×lE×lM×lN×lE×lE×Unit))=>zlR N b.1 b.2.1 b.2.2.1 b.2.2.2.1 b.2.2.2.2.1 b.2.2.2.2.2.1 b.2.2.2.2.2.2.1 b.2.2.2.2.2.2.2.1 b.2.2.2.2.2.2.2.2.1 b.2.2.2.2.2.2.2.2.2.1 b.2.2.2.2.2.2.2.2.2.2.1 b.2.2.2.2.2.2.2.2.2.2.2.1 b.2.2.2.2.2.2.2.2.2.2.2.2.1 b.2.2.2.2.2.2.2.2.2.2.2.2.2.1 b.2.2.2.2.2.2.2.2.2.2.2.2.2.2.1 b.2.2.2.2.2.2.2.2.2.2.2.2.2.2.2.1 b.2.2.2.2.2.2.2.2.2.2.2.2.2.2.2.2.1 b.2.2.2.2.2.2.2.2.2.2.2.2.2.2.2.2.2.1 b.2.2.2.2.2.2.2.2.2.2.2.2.2.2.2.2.2.2.1) λq=>cond (zkl l i e) (oN (zcG j f)<|cond (zd1 j f) (some [aH a,aI d.ad,aB true])<|q (g,h,e,f,n,k,i,d.Tag,d.af,d.ad,j,a.ag,a.aa,a.ao,a.an,[],[],[],[],()))<|q (g,h,e,f,n,k,i,d.Tag,d.af,d.ad,j,a.ag,a.aa,a.ao,a.an,[],[],[],[],()))
def zqI (N:Nat)(a:ad)(g:lE)(b c:Int)(h d:Int)(i:Bool):OA:=
 let f:=zr9 N b a c h d g i;let e:=wsub .i64 (ln (ix a.aa b zi).ac) 1; (oN (zfX a)<|cond (nB<|zfW a) (some [aH a,aI<|-1,aB false])<|oN (zQ b 0<|wsub .i64 (ln a.aa) 1)<|cond (nB<|zl b 0<|wsub .i64 (ln a.aa) 1) (some [aH a,aI<|-1,aB false])<|oN (inb b<|ln a.aa)<|oN (zQ c 0 e)<|cond (nB<|zl c 0 e) (some [aH a,aI<|-1,aB false])<|cond (ine d 1) (cond (ine d 2) (some [aH a,aI<|-1,aB false]) f) f)
def zsA:=zA [(337,999999,{n:=0,tm:=[],lo:=[],ro:=[]}),(337,1007023,{n:=210,tm:=[(2,ti),(3,ti),(4,ti),(5,ti),(6,.b),(7,.lp 0 0),(14,.lp 1 0),(17,ti),(19,ti),(20,.lp 2 0)],lo:=[(0,[.sl 0 [],.sl 1 [],.sl 2 [],.sl 3 []]),(1,[.sl 4 [],.sl 5 [],.sl 6 [],.sl 7 []]),(2,[ti,ti,ti,ti])],ro:=[(0,.sl .int,true),(1,.mon,true),(2,.entry,true),(3,.entry,true),(4,.sl .int,true),(5,.mon,true),(6,.entry,true),(7,.entry,true)],kr:=1}),(337,1009011,{n:=210,tm:=[(4,ti),(6,.b),(7,.lp 0 0),(14,.lp 1 0),(19,ti),(20,.lp 2 0),(22,.lp 3 0)],lo:=[(0,[.sl 0 [],.sl 1 [],.sl 2 [],.sl 3 []]),(1,[.sl 4 [],.sl 5 [],.sl 6 [],.sl 7 []]),(2,[ti,ti,ti,ti]),(3,[ti,ti])],ro:=[(0,.sl .int,true),(1,.mon,true),(2,.entry,true),(3,.entry,true),(4,.sl .int,true),(5,.mon,true),(6,.entry,true),(7,.entry,true)],kr:=1}),(337,1005003,{n:=210,tm:=[(7,.lp 0 0),(14,.lp 1 0),(22,.lp 2 0)],lo:=[(0,[.sl 0 [],.sl 1 [],.sl 2 [],.sl 3 []]),(1,[.sl 4 [],.sl 5 [],.sl 6 [],.sl 7 []]),(2,[ti,ti])],ro:=[(0,.sl .int,true),(1,.mon,true),(2,.entry,true),(3,.entry,true),(4,.sl .int,true),(5,.mon,true),(6,.entry,true),(7,.entry,true)],kr:=1})]
def zNZ (N:Nat)(a:ad)(b c:Int)(d e:Int)(f:Bool):zRL (cQ zm6 zp3 zZb zZT) zsA N 12 337 [true,true,true,true,false,false,false,false,false,false] [(4,2)] 1 1 [[0],[1],[2],[4],[7]] .mon [aH a,aS .entry a.ao,aI b,aI c,aI d,aI e,aB f]=zqI N a a.ao b c d e f:=by kernel_rfl
def zN0 (N:Nat)(a:ad)(b c:Int)(d e:Int)(f:Bool):zRL (cQ zm6 zp3 zZb zZT) zsA N 12 337 [true,true,true,true,false,false,false,false,false,false] [(4,3)] 1 1 [[0],[1],[2],[4],[7]] .mon [aH a,aS .entry a.an,aI b,aI c,aI d,aI e,aB f]=zqI N a a.an b c d e f:=by kernel_rfl
def zDY {N:Nat}{r:ad}{m g a:Int}{b:Bool}{z1 z2 z3 z4}(c:r.ao.length<=1048576)(d:r.an.length<=1048576) :
 zpL N a b (zfh m g) (zfI (zcC r m g) a).af (zfI (zcC r m g) a).aj r.ag r.aa r.ao r.an z1 z2 z3 z4=some (zN7<|zix r m g a b):=by
 unfold zpL oN
 conv=>zeta
 refine shr ?_;cases b
 .exact zcs rfl (j0 (zbH c) rfl)
 .exact j0 rfl (j0 (zbH d) rfl)
def zSN {N:Nat}{r:ad}{m g a b q:Int}{c:Bool}{R:OA}{r11}{u6 u7 u8 u9 u10 z1 z2 z3 z4}(A:LookAt r m g q b)(d:r11 (a,c,u6,u7,u8,u9,u10,(zfI (zcC (zdY (C0 r m q b) m g a) m g) a).af,(zfI (zcC (zdY (C0 r m q b) m g a) m g) a).aj,(zdY (C0 r m q b) m g a).ag,(zdY (C0 r m q b) m g a).aa,(zdY (C0 r m q b) m g a).ao,(zdY (C0 r m q b) m g a).an,z1,z2,z3,z4,())=R) :
 zr8 N r.ag r.aa r.ao r.an m q b g a r11 c u6 u7 u8 u9 u10 z1 z2 z3 z4=R:=by
 have M:=zD7 A.kp A.hm A.hg;have F:=zD7 (A.fill a) A.hm A.hg;unfold zr8 oN
 conv=>zeta
 exact j0 (zbH A.mend) (j0 (zG M.hm)<|j0 (zG M.hm)<|j0 (zG M.ht)<|j0 (zG M.hm)<|j0 (zG M.hg)<|j0 (zG M.hm)<|j0 (zbH M.hk)<|j0 (zG M.ht)<|shr<|j0 (zG F.hm)<|j0 (zG F.ht)<|j0 (zbH F.hk) d)
def z8W {r:ad}{m g a b:Int}(h:zlh (zcC r m g) a=false):zfv r m g a b=true:=by unfold zfv;rw[h];rfl
def z8X {r:ad}{m g a b:Int}(h:ieq (zfI (zcC r m g) a).af (-1)=true):zfv r m g a b=true:=by unfold zfv;rw[h];cases zlh (zcC r m g) a<;>rfl
def z8Y {r:ad}{m g a b:Int}(h:enough (zfI (zcC r m g) a).aj b=false):zfv r m g a b=true:=by unfold zfv;rw[h];cases zlh (zcC r m g) a<;>cases ieq (zfI (zcC r m g) a).af (-1)<;>rfl
def z8Z {r:ad}{m g a b:Int}(c:zlh (zcC r m g) a=true)(d:ieq (zfI (zcC r m g) a).af (-1)=false)(e:enough (zfI (zcC r m g) a).aj b=true):zfv r m g a b=false:=by unfold zfv;rw[c,d,e];rfl
def zNU {r:ad}{m g a b q:Int}{c:Bool}(h:zfv r m g a b=true):(cond (zfv r m g a b) (zix (zdY (C0 r m q b) m g a) m g a c)<|zix r m g a c)=zix (zdY (C0 r m q b) m g a) m g a c:=by rw[h];rfl
def z8p {r:ad}{m g a b q:Int}{c:Bool}(h:zfv r m g a b=false):(cond (zfv r m g a b) (zix (zdY (C0 r m q b) m g a) m g a c)<|zix r m g a c)=zix r m g a c:=by rw[h];rfl
def zDZ {N:Nat}{r:ad}{m g a b q:Int}{f:Bool}{u7 u8 u9 u10 z1 z2 z3 z4}(A:LookAt r m g q b) :
 zlR N m g a b f q (zfh m g) u7 u8 u9 u10 r.ag r.aa r.ao r.an z1 z2 z3 z4=some (zN7<|cond (zfv r m g a b) (zix (zdY (C0 r m q b) m g a) m g a f)<|zix r m g a f):=by
 have M:=zD7 ⟨A.fit.1,rfl⟩ A.hm A.hg;have F:=zD7 (A.fill a) A.hm A.hg;unfold zlR oN nB
 conv=>zeta
 refine j0 (zG M.hm) (j0 (zG M.ht)<|j0 (zbH M.hk)<|shr<|brN (λc=>?_) λc=>br (λd=>?_) λd=>j0 rfl (brN (λe=>?_) λe=>?_))
 .rw [zNU<|z8W c];exact zSN A (zDY (r:=zdY (C0 r m q b) m g a) (m:=m) (g:=g) F.hb F.hi)
 .rw [zNU<|z8X d];exact zSN A (zDY (r:=zdY (C0 r m q b) m g a) (m:=m) (g:=g) F.hb F.hi)
 .rw [zNU<|z8Y e];exact zSN A (zDY (r:=zdY (C0 r m q b) m g a) (m:=m) (g:=g) F.hb F.hi)
 .rw [z8p<|z8Z c d e];exact zDY (r:=r) (m:=m) (g:=g) M.hb M.hi
def zW4 {b:List ar}{m g a c:Int}(h:(zrF b m g a).isSome=false):zik b m g a c=false:=by unfold zik;rw[h];rfl
def zD2 {b:List ar}{m g a c:Int}{x:Bool}(d:(zrF b m g a).isSome=true)(h:enough ((zrF b m g a).getD ⟨0,0,0,0⟩).aj c=x):zik b m g a c=x:=by unfold zik;rw[d,h];rfl
def zD6 {r:ad}{b:List ar}{m g a c q:Int}{d:Bool}(h:zik b m g a c=false):ziw r b m g a c q d=bif zfv r m g a c then zix (zdY (C0 r m q c) m g a) m g a d else zix r m g a d:=by unfold ziw;rw[h];rfl
def zXg {r:ad}{b:List ar}{m g a c q:Int}{d:Bool}(h:zik b m g a c=true):ziw r b m g a c q d=(r,((zrF b m g a).getD ⟨0,0,0,0⟩).ad,true):=by unfold ziw;rw[h];rfl
def zTR {h:ad}{b:List ar}{m g c a:Int}{d:Bool}(e:zca h m g c a=true):lookOf h b m g c a d=ziw (cond (ieq a 2) (zbL h m<|zcP (zcZ h m g) c a) h) b m g c a (zcP (zcZ h m g) c a) d:=by unfold lookOf;rw[e];rfl
def z06 {N:Nat}{r:ad}{b:List ar}{m g c a:Int}{f:Bool}(p:SmH r)(hg:zb1 r m g=true)(k:zkj a=true) :
 zr9 N m r g c a b f=some (zN7 (lookOf r b m g c a f)):=by
 obtain⟨q,h,l⟩:=zdH hg;unfold zr9 oN nB
 conv=>zeta
 refine j0 (zG h) (j0 (zG l) (j0 rfl (brN (fun j=>?_) (fun j=>j0 rfl ?_))))
 .have:zca r m g c a=false:=by
   unfold zca;rw[hg,k,show zf5 (zcZ r m g) c a=false from j];rfl
  rw[znS this];rfl
 .have hl:zca r m g c a=true:=by
   unfold zca;rw[hg,k,show zf5 (zcZ r m g) c a=true from j];rfl
  obtain⟨A,B⟩:=zPF p hl;rw[zTR hl];have n:i0 (zcP (zcZ r m g) c a) (ln (ix r.aa m mZ).au)=true:=zdI (zcD A.fit.1 h).2.2.2.1 A.hq;refine br (fun i=>?_) (fun i=>?_)
  .rw [i]
   show _=some (zN7 (ziw (zbL r m (zcP (zcZ r m g) c a)) b m g c a (zcP (zcZ r m g) c a) f))
   refine j0 (zG h) (j0 (zG n) (shr (j0 rfl (shr (br (fun d=>j0 rfl (br (fun e=>?_) (fun e=>?_))) (fun d=>?_))))))
   .rw [zXg (zD2 d e)];rfl
   .rw [zD6 (zD2 d e)];exact zDZ (r:=zbL r m (zcP (zcZ r m g) c a)) B
   .rw [zD6 (zW4 d)];exact zDZ (r:=zbL r m (zcP (zcZ r m g) c a)) B
  .rw [i]
   show _=some (zN7 (ziw r b m g c a (zcP (zcZ r m g) c a) f))
   refine j0 rfl (shr (br (fun d=>j0 rfl (br (fun e=>?_) (fun e=>?_))) (fun d=>?_)))
   .rw [zXg (zD2 d e)];rfl
   .rw [zD6 (zD2 d e)];exact zDZ A
   .rw [zD6 (zW4 d)];exact zDZ A
def zRc (a:ad)(f:List ar)(b c:Int)(e d:Int)(g:Bool)(t:zb5 big [aH a,aS .entry f,aI b,aI c,aI e,aI d,aB g])(r:zkP a f b c e d g=true):∃N,zqI N a f b c e d g=some [aH<|zfF a f b c e d g,aI<|zkO a f b c e d g,aB<|zhE a f b c e d g]:=by
 have j:=(zU a).1 (zT.1 r);refine⟨0,?_⟩;show _=some (zN7<|lookOf a f b c e d g);unfold zqI oN nB;conv=>zeta
 refine j0 rfl (brN (λk=>?_) λk=>j0 rfl ?_);{rw [znS<|zCU<|z8i k];rfl};rw[show zl b 0 (wsub .i64 (ln a.aa) 1)=i0 b (ln a.aa) from zqE j.2.1.1 b];refine brN (λi=>?_) (λi=>j0 (zG i) (j0 rfl ?_));{rw [znS<|zCU<|z8j i];rfl};have s:(ix a.aa b mZ).ac.length<=1048576:=(j.2.1.2 _<|zbF i _).2.2.2.1.1;rw[show zl c 0 (wsub .i64 (ln (ix a.aa b zi).ac) 1)=i0 c (ln (ix a.aa b mZ).ac) from zqE s c];refine brN (λl=>?_) (λl=>?_);{rw [znS<|zCU<|z8k l];rfl};have hg:=z8l k i l;have p:∀{n:Int},zkj n=false->zca a b c e n=false:=λ{n} h=>(by unfold zca;rw[hg,h];rfl);rw[ztl,ztl];cases m:ieq d 1;{cases q:ieq d 2;{have:zkj d=false:=(by unfold zkj;rw[m,q];rfl);rw[znS<|p this];rfl};{exact z06 j hg (by unfold zkj;rw[m,q];rfl)}};{exact z06 j hg (by unfold zkj;rw[m];rfl)}
def zKt:zeh Tryz.prog 337 [true,true,true,true,false,false,false,false,false,false] (some (1,1,[[0],[1],[2],[4],[7]])) zsq:=by refine zMv (kt:=.mon) (zg6 ziN zJ zci zyo) (zjK (by kernel_rfl)) ?_;intro p s x f i w v h;have t:=zi4 v;have g:p=[(4,2)]\/p=[(4,3)]:=(by rw[show zir 337=[[(4,2)],[(4,3)]] from by kernel_rfl]at f;simpa using f);unfold zsq at h;split at h;{rename_i a b c d r j k l m n;obtain⟨u,rfl⟩:=zeu h;obtain⟨N,q⟩:=zRc (⟨a,b,c,d⟩:ad) r j k l m n t u;refine⟨⟨_,rfl⟩,rfl,zsA,N,12,?_⟩;rcases g with rfl|rfl;{have e:=i 4 2 (by simp);simp only[zy,kE,AV.cvs] at e;cases e;exact(zNZ N (⟨a,b,c,d⟩:ad) j k l m n).trans q};{have e:=i 4 3 (by simp);simp only[zy,kE,AV.cvs] at e;cases e;exact(zN0 N (⟨a,b,c,d⟩:ad) j k l m n).trans q}};{cases h}
def z5b:zgj:=[(337,[true,true,true,true,false,false,false,false,false,false],some (1,1,[[0],[1],[2],[4],[7]]),zsq)]++zZT
def zjy:zeL z5b:=zqC zyo (by
 intro x a;simp only[qG,qN,or_false]at a;rcases a with rfl
 .exact zKt)
def gOf (h:ad)(m g:Int):ah:=ix (ix h.aa m mZ).ac g gZ
def zls (h:ad)(m g:Int)(x:ah):ad:={h with aa:=up h.aa m {ix h.aa m mZ with ac:=up (ix h.aa m mZ).ac g x}}
def zm9 (h:ad)(m g:Int)(x:ah)(w:Bool):ad×Int×Bool:=lookOf h h.ao m g (zbi<|D0 x) (zcd w) false
def zkb (L:ad×Int×Bool)(m g:Int)(x:ah)(w:Bool):ad :=
 bif L.2.2 then (cond w (zls {L.1 with ag:=zbO L.1.ag L.2.1 (zdi<|D0 x) x.A} m g<|zck x)<|zls L.1 m g<|loaded x<|cellAt L.1.ag L.2.1<|zdi<|D0 x)
 else zls L.1 m g (stopped x<|zrD (zbi<|D0 x) w)
def owned (h:ad)(m:Int):ad:=bif ilt (ix h.aa m mZ).Own 1000000000 then {h with aa:=up h.aa m {ix h.aa m mZ with Own:=zM .i64 (ix h.aa m mZ).Own 1}} else h
def zot (h:ad)(m n:Int):ad:=bif ilt (ln (ix h.aa m mZ).Outs) 40 then {h with aa:=up h.aa m {ix h.aa m mZ with Outs:=ap (ix h.aa m mZ).Outs [n]}} else h
def zhd (h:ad)(m:Int)(x:ah)(w:Int):ad:=bif (cond (ine w 6) (ieq (zzq (ix h.aa m mZ).aq x.Ctl.aq<|zyp w) 2) false) then owned h m else h
def zhc (h:ad)(m:Int)(x:ah)(w:Int):ad:=bif (cond (zk0 x.Ctl.aq w) (ieq w 5) false) then zot h m (zcx x.ax x.Pc).X else h
def zwb (h:ad)(m g:Int)(x:ah)(w:Int):ad:=zls (zhc (zhd h m x w) m x w) m g (zkc x x.Ctl.aq w)
def zUR (h:ad)(m g:Int)(x:ah)(w:Int):ad×Bool :=
 bif ieq w 0 then (h,false) else (bif ieq w 1 then (zls h m g<|interrupted x,true) else (bif ieq w 2 then (zls h m g<|plainly x,true) else
  (cond (cond (ieq w 3) true<|ieq w 4) (zkb (zm9 h m g x<|ieq w 4) m g x<|ieq w 4,true) (zwb h m g x w,true))))
def zcw (h:ad)(m g:Int):ad×Bool:=bif zb1 h m g then zUR h m g (gOf h m g) (zbf<|gOf h m g) else (h,false)
def zgq (x:ad×Bool):LA:=[.agg<|zbn x.1,.one<|.b x.2]
def zpx {h:ad}{m g:Int}(b:SmH h)(a:i0 m (ln h.aa)=true)(hg:i0 g (ln (ix h.aa m mZ).ac)=true):SmG (gOf h m g):=(b.2.1.2 _<|zbF a _).2.2.2.1.2 _ (zbF hg _)
def zZH {h:ad}{m g:Int}{x:ah}(c:Shape h)(d:i0 m (ln h.aa)=true)(e:SmG x):Shape (zls h m g x):=by obtain⟨a,b⟩:=zcD c d;exact ziX c ⟨a.1,a.2.1,a.2.2.1,zEg a.2.2.2.1 e,a.2.2.2.2⟩ ⟨b.1,b.2.1,b.2.2.1,by simpa using b.2.2.2⟩
def zK2 {h:ad}{m:Int}(b:i0 m (ln h.aa)=true)(x:Mon):ix (up h.aa m x) m mZ=x:=by obtain⟨k,rfl,a⟩:=zdW (n:=h.aa.length) b;exact zd8 a _ _
@[simp] abbrev zcM (h:ad)(m g:Int):ad:=(zcw h m g).1
@[simp] abbrev zcN (h:ad)(m g:Int):Bool:=(zcw h m g).2
def z6x {a:Type}{l:List a}{x:a}(h:ilt (ln l) 40=true):few (ln<|ap l [x])=true:=by have:=qF h;simp only[ln] at this;exact zhn (by simp[ap];omega)
def zXI {h:ad}{m:Int}{x:ah}{w:Int}(a:(cond (zk0 x.Ctl.aq w) (ieq w 5) false)=false):zhc h m x w=h:=by unfold zhc;rw[a];rfl
def zP8 {h:ad}{m:Int}{x:ah}{w:Int}(a:ilt (ln (ix h.aa m mZ).Outs) 40=false):zhc h m x w=h:=by unfold zhc zot;rw[a];cases (cond (zk0 x.Ctl.aq w) (ieq w 5) false)<;>rfl
def zUZ {h:ad}{m:Int}{x:ah}{w:Int}(a:zk0 x.Ctl.aq w=true)(b:ieq w 5=true)(c:ilt (ln (ix h.aa m mZ).Outs) 40=true):zhc h m x w={h with aa:=up h.aa m {ix h.aa m mZ with Outs:=ap (ix h.aa m mZ).Outs [(zcx x.ax x.Pc).X]}}:=by unfold zhc zot;rw[a,b,c];rfl
def z2J {h:ad}{m:Int}{x:ah}{w:Int}(a:zk0 x.Ctl.aq w=false):zhc h m x w=h:=zXI (by rw[a];rfl)
def zLT {h:ad}{m:Int}{x:ah}{w:Int}(a:ieq w 5=false):zhc h m x w=h:=zXI (by rw[a];cases zk0 x.Ctl.aq w<;>rfl)
def z1m (a:Int):(cond (ieq a a) true false)=true:=by rw[zzd];rfl
def zms {h:ad}{m g:Int}(a:zb1 h m g=false):zcw h m g=(h,false):=by unfold zcw;rw[a];rfl
def zka {h:ad}{m g:Int}(a:zb1 h m g=true):zcw h m g=zUR h m g (gOf h m g) (zbf<|gOf h m g):=by unfold zcw;rw[a];rfl
def zmu {a b:Bool}(h:(cond a b false)=true):a=true/\b=true:=by cases a;{cases h};{exact⟨rfl,h⟩}
def zi1 {a b:Bool}(c:a=true)(d:b=true):(cond a b false)=true:=by rw[c];exact d
def zXL {h:ad}{m:Int}{x:ah}{w:Int}(b:ine w 6=true)(a:ieq (zzq (ix h.aa m mZ).aq x.Ctl.aq<|zyp w) 2=true)(c:ilt (ix h.aa m mZ).Own 1000000000=true):zhd h m x w={h with aa:=up h.aa m {ix h.aa m mZ with Own:=zM .i64 (ix h.aa m mZ).Own 1}}:=by unfold zhd owned;rw[b,a,c];rfl
def zXJ {h:ad}{m:Int}{x:ah}{w:Int}(a:ieq (zzq (ix h.aa m mZ).aq x.Ctl.aq<|zyp w) 2=false):zhd h m x w=h:=by unfold zhd;rw[a];cases ine w 6<;>rfl
def zXK {h:ad}{m:Int}{x:ah}{w:Int}(a:ilt (ix h.aa m mZ).Own 1000000000=false):zhd h m x w=h:=by unfold zhd owned;rw[a];cases (cond (ine w 6) (ieq (zzq (ix h.aa m mZ).aq x.Ctl.aq<|zyp w) 2) false)<;>rfl
def z88 {h:ad}{m:Int}{x:ah}:zhd h m x 6=h:=rfl
def znL {h a:ad}{m g:Int}{x:ah}{w:Int}(e:zhd h m x w=a):zwb h m g x w=zls (zhc a m x w) m g (zkc x x.Ctl.aq w):=by unfold zwb;rw[e]
def z5d (x:ah):ieq (zbf x) 0=true\/ieq (zbf x) 1=true\/ieq (zbf x) 2=true\/ieq (zbf x) 3=true\/ieq (zbf x) 4=true\/ieq (zbf x) 5=true\/ieq (zbf x) 6=true\/ieq (zbf x) 7=true:=by cases a:ieq (zbf x) 0;{cases b:ieq (zbf x) 1;{cases c:ieq (zbf x) 2;{cases d:ieq (zbf x) 3;{cases e:ieq (zbf x) 4;{cases f:ieq (zbf x) 5;{cases g:ieq (zbf x) 6;{exact .inr (.inr<|.inr<|.inr<|.inr<|.inr<|.inr<|zbaG x a b c d e f g)};{exact .inr (.inr<|.inr<|.inr<|.inr<|.inr (.inl rfl))}};{exact .inr (.inr<|.inr<|.inr<|.inr (.inl rfl))}};{exact .inr (.inr<|.inr<|.inr (.inl rfl))}};{exact .inr (.inr<|.inr (.inl rfl))}};{exact .inr (.inr (.inl rfl))}};{exact .inr (.inl rfl)}};{exact .inl rfl}
abbrev zA0 (x:ah):Bool:=bif zbV x then ieq (zbf x) 0 else false
def zoJ:LW
 |[.agg [.s .ins c,.i .i64 d,.i .i64 e,.s .slot f,.s .slot g,.i .i64 h,.i .i64 j,.b k,.i .i64 l,.i .i64 m,.i .i64 n,.b o,.i .i64 p,.b q,.s .int r]]=>some (zA0 (⟨c,d,e,f,g,⟨h,j,k⟩,l,⟨m,n,o,p⟩,q,r⟩:ah),[.one<|.i .i64 0])
 |_=>none
def zEE:vT 259 zoJ:=by refine⟨zcp.1,λw b g j a h=>?_⟩;unfold zoJ at h;split at h;{obtain⟨f,rfl⟩:=zeu h;obtain⟨d,e⟩:=zmu f;exact zcp.2 w _ g _ a (congr (congrArg (λc v=>some (c,[AV.one<|CV.i .i64 v])) d) (qF e))};{cases h}
def z7I:zW:=[(259,zoJ)]++zm6
def zYa:zL z7I:=zh zEE ziN
@[simp] abbrev zvV (h:ad)(m g:Int):Bool:=bif zdf h m g then ieq (zbf<|gOf h m g) 0 else false
def zE3:Run:=rF3 dH dI dI λb c d=>(zvV b c d,[aH<|zcM b c d,aB<|zcN b c d])
def zuQ (N:Nat)(d:ad)(b c:Int):OA:=
 let a:=zx d;let e:=(ix a.aa b zi).ac; (oN (zbh d)<|oN (zdf a b c)<|cond (nB<|zjv a b c) (some [aH a,aB false])<|oN (inb b<|ln a.aa)<|oN (inb c<|ln e)<|oN (zA0<|ix e c zD)<|some [aH a,aB false])
abbrev zA1 (x:ah):Bool:=bif zbV x then ieq (zbf x) 1 else false
def zoK:LW
 |[.agg [.s .ins c,.i .i64 d,.i .i64 e,.s .slot f,.s .slot g,.i .i64 h,.i .i64 j,.b k,.i .i64 l,.i .i64 m,.i .i64 n,.b o,.i .i64 p,.b q,.s .int r]]=>some (zA1 (⟨c,d,e,f,g,⟨h,j,k⟩,l,⟨m,n,o,p⟩,q,r⟩:ah),[.one<|.i .i64 1])
 |_=>none
def zEF:vT 259 zoK:=by refine⟨zcp.1,λw b g j a h=>?_⟩;unfold zoK at h;split at h;{obtain⟨f,rfl⟩:=zeu h;obtain⟨d,e⟩:=zmu f;exact zcp.2 w _ g _ a (congr (congrArg (λc v=>some (c,[AV.one<|CV.i .i64 v])) d) (qF e))};{cases h}
def z7J:zW:=[(259,zoK)]++zm6
def zYb:zL z7J:=zh zEF ziN
@[simp] abbrev zvW (h:ad)(m g:Int):Bool:=bif zdf h m g then ieq (zbf<|gOf h m g) 1 else false
def zE4:Run:=rF3 dH dI dI λb c d=>(zvW b c d,[aH<|zcM b c d,aB<|zcN b c d])
def zuR (N:Nat)(f:ad)(b c:Int):OA:=
 let a:=zx f;let d:=ix a.aa b zi;let e:=ix d.ac c zD; (oN (zbh f)<|oN (zdf a b c)<|cond (nB<|zjv a b c) (some [aH a,aB false])<|oN (inb b<|ln a.aa)<|oN (inb c<|ln d.ac)<|oN (zA1 e)<|oN (inb b<|ln a.aa)<|oN (zbj e)<|oN (inb c<|ln d.ac)<|p0 (up a.aa b ({d with ac:=(up d.ac c<|zkm e)}:Mon)) λg=>some [aH ({a with aa:=g}:ad),aB true])
abbrev zA2 (x:ah):Bool:=bif zbV x then ieq (zbf x) 2 else false
def zoL:LW
 |[.agg [.s .ins c,.i .i64 d,.i .i64 e,.s .slot f,.s .slot g,.i .i64 h,.i .i64 j,.b k,.i .i64 l,.i .i64 m,.i .i64 n,.b o,.i .i64 p,.b q,.s .int r]]=>some (zA2 (⟨c,d,e,f,g,⟨h,j,k⟩,l,⟨m,n,o,p⟩,q,r⟩:ah),[.one<|.i .i64 2])
 |_=>none
def zEG:vT 259 zoL:=by refine⟨zcp.1,λw b g j a h=>?_⟩;unfold zoL at h;split at h;{obtain⟨f,rfl⟩:=zeu h;obtain⟨d,e⟩:=zmu f;exact zcp.2 w _ g _ a (congr (congrArg (λc v=>some (c,[AV.one<|CV.i .i64 v])) d) (qF e))};{cases h}
def z7K:zW:=[(259,zoL)]++zm6
def zYc:zL z7K:=zh zEG ziN
@[simp] abbrev zvX (h:ad)(m g:Int):Bool:=bif zdf h m g then ieq (zbf<|gOf h m g) 2 else false
def zE5:Run:=rF3 dH dI dI λb c d=>(zvX b c d,[aH<|zcM b c d,aB<|zcN b c d])
def zuS (N:Nat)(f:ad)(b c:Int):OA:=
 let a:=zx f;let d:=ix a.aa b zi;let e:=ix d.ac c zD; (oN (zbh f)<|oN (zdf a b c)<|cond (nB<|zjv a b c) (some [aH a,aB false])<|oN (inb b<|ln a.aa)<|oN (inb c<|ln d.ac)<|oN (zA2 e)<|oN (inb b<|ln a.aa)<|oN (zbj e)<|oN (inb c<|ln d.ac)<|p0 (up a.aa b ({d with ac:=(up d.ac c<|zr0 e)}:Mon)) λg=>some [aH ({a with aa:=g}:ad),aB true])
abbrev zA3 (x:ah):Bool:=bif zbV x then ieq (zbf x) 3 else false
def zoM:LW
 |[.agg [.s .ins c,.i .i64 d,.i .i64 e,.s .slot f,.s .slot g,.i .i64 h,.i .i64 j,.b k,.i .i64 l,.i .i64 m,.i .i64 n,.b o,.i .i64 p,.b q,.s .int r]]=>some (zA3 (⟨c,d,e,f,g,⟨h,j,k⟩,l,⟨m,n,o,p⟩,q,r⟩:ah),[.one<|.i .i64 3])
 |_=>none
def zEH:vT 259 zoM:=by refine⟨zcp.1,λw b g j a h=>?_⟩;unfold zoM at h;split at h;{obtain⟨f,rfl⟩:=zeu h;obtain⟨d,e⟩:=zmu f;exact zcp.2 w _ g _ a (congr (congrArg (λc v=>some (c,[AV.one<|CV.i .i64 v])) d) (qF e))};{cases h}
def z7L:zW:=[(259,zoM)]++zm6
def zYd:zL z7L:=zh zEH ziN
@[simp] abbrev zvY (h:ad)(m g:Int):Bool:=bif zdf h m g then ieq (zbf<|gOf h m g) 3 else false
def zE6:Run:=rF3 dH dI dI λb c d=>(zvY b c d,[aH<|zcM b c d,aB<|zcN b c d])
def zuT (N:Nat)(m:ad)(a b:Int):OA:=
 let c:=zx m;let n:=(ix c.aa a zi).ac;let h:=ix n b zD;let f:=zjD h;let g:=zc1 f;let l:=zkO c c.ao a b g (zfY false) false;let d:=zfF c c.ao a b g (zfY false) false;let e:=ix d.aa a zi;let j:=ix e.ac b zD;let i:=({h with ax:=j.ax,aA:=j.aA,aw:=j.aw,aD:=j.aD}:ah); (oN (zbh m)<|oN (zdf c a b)<|cond (nB<|zjv c a b) (some [aH c,aB false])<|oN (inb a<|ln c.aa)<|oN (inb b<|ln n)<|oN (zA3 h)<|oN (zbV h)<|oN (zdq f)<|oN (zs4 false)<|oN (zkP c c.ao a b g (zfY false) false)<|cond (nB<|zhE c c.ao a b g (zfY false) false) (oN (inb a<|ln d.aa)<|oN (zdq f)<|oN (zkk g false)<|oN (zeA i<|zfB g false)<|oN (inb b<|ln e.ac)<|p0 (up d.aa a ({e with ac:=(up e.ac b<|zdS i<|zfB g false)}:Mon)) λk=>some [aH ({d with aa:=k}:ad),aB true])<|oN (inb a<|ln d.aa)<|oN (zdq f)<|oN (ziE d.ag l<|zeG f)<|oN (zzD i<|znB d.ag l<|zeG f)<|oN (inb b<|ln e.ac)<|p0 (up d.aa a ({e with ac:=(up e.ac b<|zuC i<|znB d.ag l<|zeG f)}:Mon)) λk=>some [aH ({d with aa:=k}:ad),aB true])
abbrev zA4 (x:ah):Bool:=bif zbV x then ieq (zbf x) 4 else false
def zoN:LW
 |[.agg [.s .ins c,.i .i64 d,.i .i64 e,.s .slot f,.s .slot g,.i .i64 h,.i .i64 j,.b k,.i .i64 l,.i .i64 m,.i .i64 n,.b o,.i .i64 p,.b q,.s .int r]]=>some (zA4 (⟨c,d,e,f,g,⟨h,j,k⟩,l,⟨m,n,o,p⟩,q,r⟩:ah),[.one<|.i .i64 4])
 |_=>none
def zEI:vT 259 zoN:=by refine⟨zcp.1,λw b g j a h=>?_⟩;unfold zoN at h;split at h;{obtain⟨f,rfl⟩:=zeu h;obtain⟨d,e⟩:=zmu f;exact zcp.2 w _ g _ a (congr (congrArg (λc v=>some (c,[AV.one<|CV.i .i64 v])) d) (qF e))};{cases h}
def z7M:zW:=[(259,zoN)]++zm6
def zYe:zL z7M:=zh zEI ziN
@[simp] abbrev zvZ (h:ad)(m g:Int):Bool:=bif zdf h m g then ieq (zbf<|gOf h m g) 4 else false
def zE7:Run:=rF3 dH dI dI λb c d=>(zvZ b c d,[aH<|zcM b c d,aB<|zcN b c d])
def zuU (N:Nat)(l:ad)(a b:Int):OA:=
 let c:=zx l;let n:=(ix c.aa a zi).ac;let g:=ix n b zD;let h:=zjD g;let f:=zc1 h;let m:=zkO c c.ao a b f (zfY true) false;let d:=zfF c c.ao a b f (zfY true) false;let e:=ix d.aa a zi;let j:=ix e.ac b zD;let i:=({g with ax:=j.ax,aA:=j.aA,aw:=j.aw,aD:=j.aD}:ah); (oN (zbh l)<|oN (zdf c a b)<|cond (nB<|zjv c a b) (some [aH c,aB false])<|oN (inb a<|ln c.aa)<|oN (inb b<|ln n)<|oN (zA4 g)<|oN (zbV g)<|oN (zdq h)<|oN (zs4 true)<|oN (zkP c c.ao a b f (zfY true) false)<|cond (nB<|zhE c c.ao a b f (zfY true) false) (oN (inb a<|ln d.aa)<|oN (zdq h)<|oN (zkk f true)<|oN (zeA i<|zfB f true)<|oN (inb b<|ln e.ac)<|p0 (up d.aa a ({e with ac:=(up e.ac b<|zdS i<|zfB f true)}:Mon)) λk=>some [aH ({d with aa:=k}:ad),aB true])<|oN (zdq h)<|oN (zlB d.ag m (zeG h) g.A)<|oN (inb a<|ln d.aa)<|oN (zbj i)<|oN (inb b<|ln e.ac)<|p0 (up d.aa a ({e with ac:=(up e.ac b<|ze2 i)}:Mon)) λk=>some [aH ({d with ag:=(zjZ d.ag m (zeG h) g.A),aa:=k}:ad),aB true])
abbrev zA5 (x:ah):Bool:=bif zbV x then ieq (zbf x) 5 else false
def zoO:LW
 |[.agg [.s .ins c,.i .i64 d,.i .i64 e,.s .slot f,.s .slot g,.i .i64 h,.i .i64 j,.b k,.i .i64 l,.i .i64 m,.i .i64 n,.b o,.i .i64 p,.b q,.s .int r]]=>some (zA5 (⟨c,d,e,f,g,⟨h,j,k⟩,l,⟨m,n,o,p⟩,q,r⟩:ah),[.one<|.i .i64 5])
 |_=>none
def zEJ:vT 259 zoO:=by refine⟨zcp.1,λw b g j a h=>?_⟩;unfold zoO at h;split at h;{obtain⟨f,rfl⟩:=zeu h;obtain⟨d,e⟩:=zmu f;exact zcp.2 w _ g _ a (congr (congrArg (λc v=>some (c,[AV.one<|CV.i .i64 v])) d) (qF e))};{cases h}
def z7N:zW:=[(259,zoO)]++zm6
def zYf:zL z7N:=zh zEJ ziN
@[simp] abbrev zv0 (h:ad)(m g:Int):Bool:=bif zdf h m g then ieq (zbf<|gOf h m g) 5 else false
def zE8:Run:=rF3 dH dI dI λb c d=>(zv0 b c d,[aH<|zcM b c d,aB<|zcN b c d])
def zuV (N:Nat)(x:ad)(a e:Int):OA:=
 let d:=zx x;let f:=inb a<|ln d.aa;let g:=ix d.aa a zi;let j:=inb e<|ln g.ac;let c:=ix g.ac e zD;let w:=ap g.Outs [(zgu c.ax c.Pc).X];let s:=up d.aa a ({g with Outs:=w}:Mon);let h:=c.Ctl.aq;let v:=up d.aa a ({g with ac:=(up g.ac e<|zcm c h 5)}:Mon); (oN (zbh x)<|oN (zdf d a e)<|cond (nB<|zjv d a e) (some [aH d,aB false])<|oN f<|oN j<|oN (zA5 c)<|oN f<|oN (zq6 g.aq h 1)<|cond (ieq (znY g.aq h 1) 2) (oN f<|cond (ilt g.Own 1000000000) (oN f<|oN f<|p0 (up d.aa a ({g with Own:=(zM .i64 g.Own 1)}:Mon)) (λb=>let k:=inb a<|ln b;let l:=ix b a zi;let q:=ix l.ac e zD;let t:=ap l.Outs [(zgu q.ax c.Pc).X];let u:=({c with ax:=q.ax,aA:=q.aA,aw:=q.aw,aD:=q.aD}:ah);let r:=up b a ({l with ac:=(up l.ac e<|zcm u h 5)}:Mon); (oN (zed u h 5)<|cond (zdx u h 5) (oN k<|cond (ilt (ln l.Outs) 40) (oN k<|oN (zgf q.ax c.Pc)<|oN (few<|ln t)<|oN k<|oN (cond (ieq a a) true false)<|p0 (up b a ({l with Outs:=t}:Mon)) (λi=>let m:=ix i a zi; (oN (inb a<|ln i)<|oN (inb e<|ln m.ac)<|p0 (up i a ({m with ac:=(up m.ac e<|zcm u h 5)}:Mon)) λy=>some [aH ({d with aa:=y}:ad),aB true])))<|oN k<|oN (inb e<|ln l.ac)<|p0 r λi=>some [aH ({d with aa:=i}:ad),aB true])<|oN k<|oN (inb e<|ln l.ac)<|p0 r λi=>some [aH ({d with aa:=i}:ad),aB true])))<|oN (zed c h 5)<|cond (zdx c h 5) (oN f<|cond (ilt (ln g.Outs) 40) (oN f<|oN (zgf c.ax c.Pc)<|oN (few<|ln w)<|oN f<|oN (cond (ieq a a) true false)<|p0 s (λb=>let n:=ix b a zi; (oN (inb a<|ln b)<|oN (inb e<|ln n.ac)<|p0 (up b a ({n with ac:=(up n.ac e<|zcm c h 5)}:Mon)) λi=>some [aH ({d with aa:=i}:ad),aB true])))<|oN f<|oN j<|p0 v λb=>some [aH ({d with aa:=b}:ad),aB true])<|oN f<|oN j<|p0 v λb=>some [aH ({d with aa:=b}:ad),aB true])<|oN (zed c h 5)<|cond (zdx c h 5) (oN f<|cond (ilt (ln g.Outs) 40) (oN f<|oN (zgf c.ax c.Pc)<|oN (few<|ln w)<|oN f<|oN (cond (ieq a a) true false)<|p0 s (λb=>let p:=ix b a zi; (oN (inb a<|ln b)<|oN (inb e<|ln p.ac)<|p0 (up b a ({p with ac:=(up p.ac e<|zcm c h 5)}:Mon)) λi=>some [aH ({d with aa:=i}:ad),aB true])))<|oN f<|oN j<|p0 v λb=>some [aH ({d with aa:=b}:ad),aB true])<|oN f<|oN j<|p0 v λb=>some [aH ({d with aa:=b}:ad),aB true])
abbrev zA6 (x:ah):Bool:=bif zbV x then ieq (zbf x) 6 else false
def zoP:LW
 |[.agg [.s .ins c,.i .i64 d,.i .i64 e,.s .slot f,.s .slot g,.i .i64 h,.i .i64 j,.b k,.i .i64 l,.i .i64 m,.i .i64 n,.b o,.i .i64 p,.b q,.s .int r]]=>some (zA6 (⟨c,d,e,f,g,⟨h,j,k⟩,l,⟨m,n,o,p⟩,q,r⟩:ah),[.one<|.i .i64 6])
 |_=>none
def zEK:vT 259 zoP:=by refine⟨zcp.1,λw b g j a h=>?_⟩;unfold zoP at h;split at h;{obtain⟨f,rfl⟩:=zeu h;obtain⟨d,e⟩:=zmu f;exact zcp.2 w _ g _ a (congr (congrArg (λc v=>some (c,[AV.one<|CV.i .i64 v])) d) (qF e))};{cases h}
def z7O:zW:=[(259,zoP)]++zm6
def zYg:zL z7O:=zh zEK ziN
@[simp] abbrev zv1 (h:ad)(m g:Int):Bool:=bif zdf h m g then ieq (zbf<|gOf h m g) 6 else false
def zE9:Run:=rF3 dH dI dI λb c d=>(zv1 b c d,[aH<|zcM b c d,aB<|zcN b c d])
def zuW (N:Nat)(i:ad)(c d:Int):OA:=
 let a:=zx i;let g:=inb c<|ln a.aa;let e:=ix a.aa c zi;let h:=inb d<|ln e.ac;let b:=ix e.ac d zD;let j:=up a.aa c ({e with ac:=(up e.ac d<|zcm b b.Ctl.aq 6)}:Mon); (oN (zbh i)<|oN (zdf a c d)<|cond (nB<|zjv a c d) (some [aH a,aB false])<|oN g<|oN h<|oN (zA6 b)<|oN (zed b b.Ctl.aq 6)<|cond (zdx b b.Ctl.aq 6) (oN g<|oN h<|p0 j λf=>some [aH ({a with aa:=f}:ad),aB true])<|oN g<|oN h<|p0 j λf=>some [aH ({a with aa:=f}:ad),aB true])
abbrev zA7 (x:ah):Bool:=bif zbV x then ieq (zbf x) 7 else false
def zoQ:LW
 |[.agg [.s .ins c,.i .i64 d,.i .i64 e,.s .slot f,.s .slot g,.i .i64 h,.i .i64 j,.b k,.i .i64 l,.i .i64 m,.i .i64 n,.b o,.i .i64 p,.b q,.s .int r]]=>some (zA7 (⟨c,d,e,f,g,⟨h,j,k⟩,l,⟨m,n,o,p⟩,q,r⟩:ah),[.one<|.i .i64 7])
 |_=>none
def zEL:vT 259 zoQ:=by refine⟨zcp.1,λw b g j a h=>?_⟩;unfold zoQ at h;split at h;{obtain⟨f,rfl⟩:=zeu h;obtain⟨d,e⟩:=zmu f;exact zcp.2 w _ g _ a (congr (congrArg (λc v=>some (c,[AV.one<|CV.i .i64 v])) d) (qF e))};{cases h}
def z7P:zW:=[(259,zoQ)]++zm6
def zYh:zL z7P:=zh zEL ziN
@[simp] abbrev zv2 (h:ad)(m g:Int):Bool:=bif zdf h m g then ieq (zbf<|gOf h m g) 7 else false
def zFa:Run:=rF3 dH dI dI λb c d=>(zv2 b c d,[aH<|zcM b c d,aB<|zcN b c d])
def zuX (N:Nat)(q:ad)(c e:Int):OA:=
 let a:=zx q;let g:=inb c<|ln a.aa;let f:=ix a.aa c zi;let k:=inb e<|ln f.ac;let h:=ix f.ac e zD;let d:=h.Ctl.aq;let l:=up a.aa c ({f with ac:=(up f.ac e<|zcm h d 7)}:Mon); (oN (zbh q)<|oN (zdf a c e)<|cond (nB<|zjv a c e) (some [aH a,aB false])<|oN g<|oN k<|oN (zA7 h)<|oN g<|oN (zq6 f.aq d 2)<|cond (ieq (znY f.aq d 2) 2) (oN g<|cond (ilt f.Own 1000000000) (oN g<|oN g<|p0 (up a.aa c ({f with Own:=(zM .i64 f.Own 1)}:Mon)) (λb=>let j:=ix b c zi;let m:=ix j.ac e zD;let p:=({h with ax:=m.ax,aA:=m.aA,aw:=m.aw,aD:=m.aD}:ah);let i:=up b c ({j with ac:=(up j.ac e<|zcm p d 7)}:Mon); (oN (zed p d 7)<|cond (zdx p d 7) (oN (inb c<|ln b)<|oN (inb e<|ln j.ac)<|p0 i λn=>some [aH ({a with aa:=n}:ad),aB true])<|oN (inb c<|ln b)<|oN (inb e<|ln j.ac)<|p0 i λn=>some [aH ({a with aa:=n}:ad),aB true])))<|oN (zed h d 7)<|cond (zdx h d 7) (oN g<|oN k<|p0 l λb=>some [aH ({a with aa:=b}:ad),aB true])<|oN g<|oN k<|p0 l λb=>some [aH ({a with aa:=b}:ad),aB true])<|oN (zed h d 7)<|cond (zdx h d 7) (oN g<|oN k<|p0 l λb=>some [aH ({a with aa:=b}:ad),aB true])<|oN g<|oN k<|p0 l λb=>some [aH ({a with aa:=b}:ad),aB true])
def zES (a:ad)(b c:Int)(e:zvV a b c=true):∃N,zuQ N a b c=some [aH<|zcM a b c,aB<|zcN a b c]:=by
 obtain⟨e,i⟩:=zmu e;have f:=(zU a).1 (zT.1 e);refine⟨0,?_⟩;show _=some (zgq<|zcw a b c);unfold zuQ oN nB;conv=>zeta
 refine j0 (zbH<|(zU _).2 f) (j0 (zbH<|(zU _).2 f)<|brN (λd=>?_) λd=>?_);{rw [zms d];rfl};obtain⟨k,g,h⟩:=zdH d;have l:=zpx f g h;have j:zbf (gOf a b c)=0:=qF i;rw[zka d,j];refine j0 (zG g) (j0 (zG h)<|j0 (zi1 rfl i) ?_);rfl
def zpE:vT 108 zE3:=kF3 zYa zJ zci zjy (zA []) zES
def zET (a:ad)(b c:Int)(g:zvW a b c=true):∃N,zuR N a b c=some [aH<|zcM a b c,aB<|zcN a b c]:=by
 obtain⟨g,i⟩:=zmu g;have h:=(zU a).1 (zT.1 g);refine⟨0,?_⟩;show _=some (zgq<|zcw a b c);unfold zuR oN nB;conv=>zeta
 refine j0 (zbH<|(zU _).2 h) (j0 (zbH<|(zU _).2 h)<|brN (λd=>?_) λd=>?_);{rw [zms d];rfl};obtain⟨l,e,f⟩:=zdH d;have k:=zpx h e f;have j:zbf (gOf a b c)=1:=qF i;rw[zka d,j];refine j0 (zG e) (j0 (zG f)<|j0 (zi1 rfl i) ?_);show _=some (zgq (zls a b c<|interrupted<|gOf a b c,true));exact j0 (zG e) (j0 (zbH k) (j0 (zG f) rfl))
def zBe:vT 108 zE4:=kF3 zYb zJ zci zjy (zA []) zET
def zEU (a:ad)(b c:Int)(g:zvX a b c=true):∃N,zuS N a b c=some [aH<|zcM a b c,aB<|zcN a b c]:=by
 obtain⟨g,i⟩:=zmu g;have h:=(zU a).1 (zT.1 g);refine⟨0,?_⟩;show _=some (zgq<|zcw a b c);unfold zuS oN nB;conv=>zeta
 refine j0 (zbH<|(zU _).2 h) (j0 (zbH<|(zU _).2 h)<|brN (λd=>?_) λd=>?_);{rw [zms d];rfl};obtain⟨l,e,f⟩:=zdH d;have k:=zpx h e f;have j:zbf (gOf a b c)=2:=qF i;rw[zka d,j];refine j0 (zG e) (j0 (zG f)<|j0 (zi1 rfl i) ?_);show _=some (zgq (zls a b c<|plainly<|gOf a b c,true));exact j0 (zG e) (j0 (zbH k) (j0 (zG f) rfl))
def zBf:vT 108 zE5:=kF3 zYc zJ zci zjy (zA []) zEU
def zEV (a:ad)(c d:Int)(j:zvY a c d=true):∃N,zuT N a c d=some [aH<|zcM a c d,aB<|zcN a c d]:=by
 obtain⟨j,m⟩:=zmu j;have f:=(zU a).1 (zT.1 j);refine⟨0,?_⟩;show _=some (zgq<|zcw a c d);unfold zuT oN nB;conv=>zeta
 refine j0 (zbH<|(zU _).2 f) (j0 (zbH<|(zU _).2 f)<|brN (λe=>?_) λe=>?_);{rw [zms e];rfl};obtain⟨r,g,i⟩:=zdH e;have n:=zpx f g i;have q:zbf (gOf a c d)=3:=qF m;rw[zka e,q];refine j0 (zG g) (j0 (zG i)<|j0 (zi1 rfl m) ?_);show _=some (zgq (zkb (zm9 a c d (gOf a c d) false) c d (gOf a c d) false,true));have k:=zxx (b:=a.ao) (page:=zbi (D0<|gOf a c d)) (need:=zcd false) (io:=false) f e;have F:=zD7 k g i;have p:(ix (ix (zfF (zx a) (zx a).ao c d (zc1<|zjD<|ix (ix (zx a).aa c zi).ac d zD) (zfY false) false).aa c zi).ac d zD)=(ix (ix (zx a).aa c zi).ac d zD):=congrArg (λl=>ix l d gZ) (zJM k.gs c);rw[p];unfold zkb;refine j0 rfl (j0 rfl (j0 rfl (j0 (zbH<|(zU _).2 f)<|brN (λh=>?_) λh=>?_)));{rw [show (zm9 a c d (gOf a c d) false).2.2=false from h];exact j0 (zG F.hm) (j0 rfl (j0 rfl (j0 (zbH n) (j0 (zG F.hg) rfl))))};{rw [show (zm9 a c d (gOf a c d) false).2.2=true from h];exact j0 (zG F.hm) (j0 rfl (j0 rfl (j0 (zbH n) (j0 (zG F.hg) rfl))))}
def zBg:vT 108 zE6:=kF3 zYd zJ zci zjy (zA []) zEV
def zEW (a:ad)(c d:Int)(j:zvZ a c d=true):∃N,zuU N a c d=some [aH<|zcM a c d,aB<|zcN a c d]:=by
 obtain⟨j,m⟩:=zmu j;have f:=(zU a).1 (zT.1 j);refine⟨0,?_⟩;show _=some (zgq<|zcw a c d);unfold zuU oN nB;conv=>zeta
 refine j0 (zbH<|(zU _).2 f) (j0 (zbH<|(zU _).2 f)<|brN (λe=>?_) λe=>?_);{rw [zms e];rfl};obtain⟨r,g,i⟩:=zdH e;have n:=zpx f g i;have q:zbf (gOf a c d)=4:=qF m;rw[zka e,q];refine j0 (zG g) (j0 (zG i)<|j0 (zi1 rfl m) ?_);show _=some (zgq (zkb (zm9 a c d (gOf a c d) true) c d (gOf a c d) true,true));have k:=zxx (b:=a.ao) (page:=zbi (D0<|gOf a c d)) (need:=zcd true) (io:=false) f e;have F:=zD7 k g i;have p:(ix (ix (zfF (zx a) (zx a).ao c d (zc1<|zjD<|ix (ix (zx a).aa c zi).ac d zD) (zfY true) false).aa c zi).ac d zD)=(ix (ix (zx a).aa c zi).ac d zD):=congrArg (λl=>ix l d gZ) (zJM k.gs c);rw[p];unfold zkb;refine j0 rfl (j0 rfl (j0 rfl (j0 (zbH<|(zU _).2 f)<|brN (λh=>?_) λh=>?_)));{rw [show (zm9 a c d (gOf a c d) true).2.2=false from h];exact j0 (zG F.hm) (j0 rfl (j0 rfl (j0 (zbH n) (j0 (zG F.hg) rfl))))};{rw [show (zm9 a c d (gOf a c d) true).2.2=true from h];exact j0 rfl (j0 (zbH k.shape.1.1)<|j0 (zG F.hm)<|j0 (zbH n) (j0 (zG F.hg) rfl))}
def zBh:vT 108 zE7:=kF3 zYe zJ zci zjy (zA []) zEW
def z6y {c:ad}{a d:Int}(k:SmG (gOf c a d))(f:i0 a (ln c.aa)=true)(i:i0 d (ln (ix c.aa a mZ).ac)=true) :
 (cond (zed (ix (ix (zx c).aa a zi).ac d zD) (ix (ix (zx c).aa a zi).ac d zD).Ctl.aq 5) (cond (zdx (ix (ix (zx c).aa a zi).ac d zD) (ix (ix (zx c).aa a zi).ac d zD).Ctl.aq 5) (cond (inb a<|ln (zx c).aa) (cond (ilt (ln (ix (zx c).aa a zi).Outs) 40) (cond (inb a<|ln (zx c).aa) (cond (zgf (ix (ix (zx c).aa a zi).ac d zD).ax (ix (ix (zx c).aa a zi).ac d zD).Pc) (cond (few<|ln<|ap (ix (zx c).aa a zi).Outs [(zgu (ix (ix (zx c).aa a zi).ac d zD).ax (ix (ix (zx c).aa a zi).ac d zD).Pc).X]) (cond (inb a<|ln (zx c).aa) (cond (cond (ieq a a) true false) (p0 (up (zx c).aa a ({ (ix (zx c).aa a zi) with Outs:=(ap (ix (zx c).aa a zi).Outs [(zgu (ix (ix (zx c).aa a zi).ac d zD).ax (ix (ix (zx c).aa a zi).ac d zD).Pc).X])}:Mon)) λe=>cond (inb a<|ln e) (cond (inb d<|ln (ix e a zi).ac) (p0 (up e a ({ (ix e a zi) with ac:=(up (ix e a zi).ac d<|zcm (ix (ix (zx c).aa a zi).ac d zD) (ix (ix (zx c).aa a zi).ac d zD).Ctl.aq 5)}:Mon)) λl=>some [.agg<|zbn ({ (zx c) with aa:=l}:ad),.one<|.b true]) none) none) none) none) none) none) none)<|cond (inb a<|ln (zx c).aa) (cond (inb d<|ln (ix (zx c).aa a zi).ac) (p0 (up (zx c).aa a ({ (ix (zx c).aa a zi) with ac:=(up (ix (zx c).aa a zi).ac d<|zcm (ix (ix (zx c).aa a zi).ac d zD) (ix (ix (zx c).aa a zi).ac d zD).Ctl.aq 5)}:Mon)) λe=>some [.agg<|zbn ({ (zx c) with aa:=e}:ad),.one<|.b true]) none) none) none)<|cond (inb a<|ln (zx c).aa) (cond (inb d<|ln (ix (zx c).aa a zi).ac) (p0 (up (zx c).aa a ({ (ix (zx c).aa a zi) with ac:=(up (ix (zx c).aa a zi).ac d<|zcm (ix (ix (zx c).aa a zi).ac d zD) (ix (ix (zx c).aa a zi).ac d zD).Ctl.aq 5)}:Mon)) λe=>some [.agg<|zbn ({ (zx c) with aa:=e}:ad),.one<|.b true]) none) none) none)=some (zgq (zls (zhc c a (gOf c a d) 5) a d<|zkc (gOf c a d) (gOf c a d).Ctl.aq 5,true)):=by
 refine j0 (zbH k) (br (λj=>j0 (zG f) (br (λg=>?_) λg=>?_)) λj=>?_)
 .rw [zUZ (h:=c) (m:=a) (x:=gOf c a d) (w:=5) j rfl g];refine j0 (zG f) (j0 rfl (j0 (z6x g)<|j0 (zG f)<|j0 (z1m _)<|shr<|j0 (zG<|ze5 f) (j0 ?_ rfl)));rw[zK2 f];exact zG i
 .rw [zP8 (h:=c) (m:=a) (x:=gOf c a d) (w:=5) g];exact j0 (zG f) (j0 (zG i) rfl)
 .rw [z2J (h:=c) (m:=a) (x:=gOf c a d) (w:=5) j];exact j0 (zG f) (j0 (zG i) rfl)
def zbam {f:ad}{d:List Mon}{a c:Int}(n:SmG (gOf f a c))(i:i0 a (ln d)=true)(k:i0 c (ln (ix d a mZ).ac)=true)(e:(ix (ix d a zi).ac c zD)=gOf f a c) :
 (cond (zed ({ (ix (ix (zx f).aa a zi).ac c zD) with ax:=(ix (ix d a zi).ac c zD).ax,aA:=(ix (ix d a zi).ac c zD).aA,aw:=(ix (ix d a zi).ac c zD).aw,aD:=(ix (ix d a zi).ac c zD).aD}:ah) (ix (ix (zx f).aa a zi).ac c zD).Ctl.aq 5) (cond (zdx ({ (ix (ix (zx f).aa a zi).ac c zD) with ax:=(ix (ix d a zi).ac c zD).ax,aA:=(ix (ix d a zi).ac c zD).aA,aw:=(ix (ix d a zi).ac c zD).aw,aD:=(ix (ix d a zi).ac c zD).aD}:ah) (ix (ix (zx f).aa a zi).ac c zD).Ctl.aq 5) (cond (inb a<|ln d) (cond (ilt (ln (ix d a zi).Outs) 40) (cond (inb a<|ln d) (cond (zgf (ix (ix d a zi).ac c zD).ax (ix (ix (zx f).aa a zi).ac c zD).Pc) (cond (few<|ln<|ap (ix d a zi).Outs [(zgu (ix (ix d a zi).ac c zD).ax (ix (ix (zx f).aa a zi).ac c zD).Pc).X]) (cond (inb a<|ln d) (cond (cond (ieq a a) true false) (p0 (up d a ({ (ix d a zi) with Outs:=(ap (ix d a zi).Outs [(zgu (ix (ix d a zi).ac c zD).ax (ix (ix (zx f).aa a zi).ac c zD).Pc).X])}:Mon)) λg=>cond (inb a<|ln g) (cond (inb c<|ln (ix g a zi).ac) (p0 (up g a ({ (ix g a zi) with ac:=(up (ix g a zi).ac c<|zcm ({ (ix (ix (zx f).aa a zi).ac c zD) with ax:=(ix (ix d a zi).ac c zD).ax,aA:=(ix (ix d a zi).ac c zD).aA,aw:=(ix (ix d a zi).ac c zD).aw,aD:=(ix (ix d a zi).ac c zD).aD}:ah) (ix (ix (zx f).aa a zi).ac c zD).Ctl.aq 5)}:Mon)) λp=>some [.agg<|zbn ({ (zx f) with aa:=p}:ad),.one<|.b true]) none) none) none) none) none) none) none)<|cond (inb a<|ln d) (cond (inb c<|ln (ix d a zi).ac) (p0 (up d a ({ (ix d a zi) with ac:=(up (ix d a zi).ac c<|zcm ({ (ix (ix (zx f).aa a zi).ac c zD) with ax:=(ix (ix d a zi).ac c zD).ax,aA:=(ix (ix d a zi).ac c zD).aA,aw:=(ix (ix d a zi).ac c zD).aw,aD:=(ix (ix d a zi).ac c zD).aD}:ah) (ix (ix (zx f).aa a zi).ac c zD).Ctl.aq 5)}:Mon)) λg=>some [.agg<|zbn ({ (zx f) with aa:=g}:ad),.one<|.b true]) none) none) none)<|cond (inb a<|ln d) (cond (inb c<|ln (ix d a zi).ac) (p0 (up d a ({ (ix d a zi) with ac:=(up (ix d a zi).ac c<|zcm ({ (ix (ix (zx f).aa a zi).ac c zD) with ax:=(ix (ix d a zi).ac c zD).ax,aA:=(ix (ix d a zi).ac c zD).aA,aw:=(ix (ix d a zi).ac c zD).aw,aD:=(ix (ix d a zi).ac c zD).aD}:ah) (ix (ix (zx f).aa a zi).ac c zD).Ctl.aq 5)}:Mon)) λg=>some [.agg<|zbn ({ (zx f) with aa:=g}:ad),.one<|.b true]) none) none) none)=some (zgq (zls (zhc {f with aa:=d} a (gOf f a c) 5) a c<|zkc (gOf f a c) (gOf f a c).Ctl.aq 5,true)):=by
 rw[e];refine j0 (zbH n) (br (λl=>j0 (zG i) (br (λj=>?_) λj=>?_)) λl=>?_)
 .rw [zUZ (h:={f with aa:=d}) (m:=a) (x:=gOf f a c) (w:=5) l rfl j];refine j0 (zG i) (j0 rfl (j0 (z6x j)<|j0 (zG i)<|j0 (z1m _)<|shr<|j0 (zG<|ze5 (h:={f with aa:=d}) i) (j0 ?_ rfl)));rw[zK2 (h:={f with aa:=d}) i];exact zG k
 .rw [zP8 (h:={f with aa:=d}) (m:=a) (x:=gOf f a c) (w:=5) j];exact j0 (zG i) (j0 (zG k) rfl)
 .rw [z2J (h:={f with aa:=d}) (m:=a) (x:=gOf f a c) (w:=5) l];exact j0 (zG i) (j0 (zG k) rfl)
def zEX (b:ad)(a c:Int)(j:zv0 b a c=true):∃N,zuV N b a c=some [aH<|zcM b a c,aB<|zcN b a c]:=by
 obtain⟨j,p⟩:=zmu j;have k:=(zU b).1 (zT.1 j);refine⟨0,?_⟩;show _=some (zgq<|zcw b a c);unfold zuV oN nB;conv=>zeta
 refine j0 (zbH<|(zU _).2 k) (j0 (zbH<|(zU _).2 k)<|brN (λf=>?_) λf=>?_);{rw [zms f];rfl};obtain⟨r,d,e⟩:=zdH f;have l:=zpx k d e;have q:zbf (gOf b a c)=5:=qF p;rw[zka f,q];refine j0 (zG d) (j0 (zG e)<|j0 (zi1 rfl p) ?_);show _=some (zgq (zwb b a c (gOf b a c) 5,true));refine j0 (zG d) (j0 rfl (br (λg=>j0 (zG d) (br (λi=>j0 (zG d) (j0 (zG d)<|shr ?_)) λi=>?_)) λg=>?_));{rw [znL (zXL (h:=b) (m:=a) (x:=gOf b a c) (w:=5) rfl g i)];have n:=zK2 d {ix b.aa a mZ with Own:=zM .i64 (ix b.aa a mZ).Own 1};refine zbam l (ze5 d) ?_ ?_;{show i0 c (ln (ix (up b.aa a _) a mZ).ac)=true;rw[n];exact e};{show ix (ix (up b.aa a _) a mZ).ac c gZ=_;rw[n];rfl}};{rw [znL<|zXK (h:=b) (m:=a) (x:=gOf b a c) (w:=5) i];exact z6y l d e};{rw [znL<|zXJ (h:=b) (m:=a) (x:=gOf b a c) (w:=5) g];exact z6y l d e}
def zBi:vT 108 zE8:=kF3 zYf zJ zci zjy (zA []) zEX
def zEY (a:ad)(b c:Int)(g:zv1 a b c=true):∃N,zuW N a b c=some [aH<|zcM a b c,aB<|zcN a b c]:=by
 obtain⟨g,j⟩:=zmu g;have i:=(zU a).1 (zT.1 g);refine⟨0,?_⟩;show _=some (zgq<|zcw a b c);unfold zuW oN nB;conv=>zeta
 refine j0 (zbH<|(zU _).2 i) (j0 (zbH<|(zU _).2 i)<|brN (λf=>?_) λf=>?_);{rw [zms f];rfl};obtain⟨p,d,e⟩:=zdH f;have n:=zpx i d e;have l:zbf (gOf a b c)=6:=qF j;rw[zka f,l];refine j0 (zG d) (j0 (zG e)<|j0 (zi1 rfl j) ?_);show _=some (zgq (zwb a b c (gOf a b c) 6,true));rw[znL<|z88 (h:=a) (m:=b) (x:=gOf a b c),zLT (w:=6) rfl];exact j0 (zbH n) (br (λk=>j0 (zG d) (j0 (zG e) rfl)) λk=>j0 (zG d) (j0 (zG e) rfl))
def zBj:vT 108 zE9:=kF3 zYg zJ zci zjy (zA []) zEY
def z6z {a:ad}{c d:Int}(i:SmG (gOf a c d))(f:i0 c (ln a.aa)=true)(g:i0 d (ln (ix a.aa c mZ).ac)=true) :
 (cond (zed (ix (ix (zx a).aa c zi).ac d zD) (ix (ix (zx a).aa c zi).ac d zD).Ctl.aq 7) (cond (zdx (ix (ix (zx a).aa c zi).ac d zD) (ix (ix (zx a).aa c zi).ac d zD).Ctl.aq 7) (cond (inb c<|ln (zx a).aa) (cond (inb d<|ln (ix (zx a).aa c zi).ac) (p0 (up (zx a).aa c ({ (ix (zx a).aa c zi) with ac:=(up (ix (zx a).aa c zi).ac d<|zcm (ix (ix (zx a).aa c zi).ac d zD) (ix (ix (zx a).aa c zi).ac d zD).Ctl.aq 7)}:Mon)) λe=>some [.agg<|zbn ({ (zx a) with aa:=e}:ad),.one<|.b true]) none) none)<|cond (inb c<|ln (zx a).aa) (cond (inb d<|ln (ix (zx a).aa c zi).ac) (p0 (up (zx a).aa c ({ (ix (zx a).aa c zi) with ac:=(up (ix (zx a).aa c zi).ac d<|zcm (ix (ix (zx a).aa c zi).ac d zD) (ix (ix (zx a).aa c zi).ac d zD).Ctl.aq 7)}:Mon)) λe=>some [.agg<|zbn ({ (zx a) with aa:=e}:ad),.one<|.b true]) none) none) none)=some (zgq (zls a c d<|zkc (gOf a c d) (gOf a c d).Ctl.aq 7,true)):=
 j0 (zbH i) (br (λh=>j0 (zG f) (j0 (zG g) rfl)) λh=>j0 (zG f) (j0 (zG g) rfl))
def zban {f:ad}{d:List Mon}{a c:Int}(k:SmG (gOf f a c))(h:i0 a (ln d)=true)(i:i0 c (ln (ix d a mZ).ac)=true)(e:(ix (ix d a zi).ac c zD)=gOf f a c) :
 (cond (zed ({ (ix (ix (zx f).aa a zi).ac c zD) with ax:=(ix (ix d a zi).ac c zD).ax,aA:=(ix (ix d a zi).ac c zD).aA,aw:=(ix (ix d a zi).ac c zD).aw,aD:=(ix (ix d a zi).ac c zD).aD}:ah) (ix (ix (zx f).aa a zi).ac c zD).Ctl.aq 7) (cond (zdx ({ (ix (ix (zx f).aa a zi).ac c zD) with ax:=(ix (ix d a zi).ac c zD).ax,aA:=(ix (ix d a zi).ac c zD).aA,aw:=(ix (ix d a zi).ac c zD).aw,aD:=(ix (ix d a zi).ac c zD).aD}:ah) (ix (ix (zx f).aa a zi).ac c zD).Ctl.aq 7) (cond (inb a<|ln d) (cond (inb c<|ln (ix d a zi).ac) (p0 (up d a ({ (ix d a zi) with ac:=(up (ix d a zi).ac c<|zcm ({ (ix (ix (zx f).aa a zi).ac c zD) with ax:=(ix (ix d a zi).ac c zD).ax,aA:=(ix (ix d a zi).ac c zD).aA,aw:=(ix (ix d a zi).ac c zD).aw,aD:=(ix (ix d a zi).ac c zD).aD}:ah) (ix (ix (zx f).aa a zi).ac c zD).Ctl.aq 7)}:Mon)) λg=>some [.agg<|zbn ({ (zx f) with aa:=g}:ad),.one<|.b true]) none) none)<|cond (inb a<|ln d) (cond (inb c<|ln (ix d a zi).ac) (p0 (up d a ({ (ix d a zi) with ac:=(up (ix d a zi).ac c<|zcm ({ (ix (ix (zx f).aa a zi).ac c zD) with ax:=(ix (ix d a zi).ac c zD).ax,aA:=(ix (ix d a zi).ac c zD).aA,aw:=(ix (ix d a zi).ac c zD).aw,aD:=(ix (ix d a zi).ac c zD).aD}:ah) (ix (ix (zx f).aa a zi).ac c zD).Ctl.aq 7)}:Mon)) λg=>some [.agg<|zbn ({ (zx f) with aa:=g}:ad),.one<|.b true]) none) none) none)=some (zgq (zls {f with aa:=d} a c<|zkc (gOf f a c) (gOf f a c).Ctl.aq 7,true)):=by
 rw[e];exact j0 (zbH k) (br (λj=>j0 (zG h) (j0 (zG i) rfl)) λj=>j0 (zG h) (j0 (zG i) rfl))
def zEZ (b:ad)(a c:Int)(j:zv2 b a c=true):∃N,zuX N b a c=some [aH<|zcM b a c,aB<|zcN b a c]:=by
 obtain⟨j,p⟩:=zmu j;have k:=(zU b).1 (zT.1 j);refine⟨0,?_⟩;show _=some (zgq<|zcw b a c);unfold zuX oN nB;conv=>zeta
 refine j0 (zbH<|(zU _).2 k) (j0 (zbH<|(zU _).2 k)<|brN (λf=>?_) λf=>?_);{rw [zms f];rfl};obtain⟨r,d,e⟩:=zdH f;have l:=zpx k d e;have q:zbf (gOf b a c)=7:=qF p;rw[zka f,q];refine j0 (zG d) (j0 (zG e)<|j0 (zi1 rfl p) ?_);show _=some (zgq (zwb b a c (gOf b a c) 7,true));refine j0 (zG d) (j0 rfl (br (λg=>j0 (zG d) (br (λi=>j0 (zG d) (j0 (zG d)<|shr ?_)) λi=>?_)) λg=>?_));{rw [znL (zXL (h:=b) (m:=a) (x:=gOf b a c) (w:=7) rfl g i),zLT (w:=7) rfl];have n:=zK2 d {ix b.aa a mZ with Own:=zM .i64 (ix b.aa a mZ).Own 1};refine zban l (ze5 d) ?_ ?_;{show i0 c (ln (ix (up b.aa a _) a mZ).ac)=true;rw[n];exact e};{show ix (ix (up b.aa a _) a mZ).ac c gZ=_;rw[n];rfl}};{rw [znL<|zXK (h:=b) (m:=a) (x:=gOf b a c) (w:=7) i,zLT (w:=7) rfl];exact z6z l d e};{rw [znL<|zXJ (h:=b) (m:=a) (x:=gOf b a c) (w:=7) g,zLT (w:=7) rfl];exact z6z l d e}
def zBk:vT 108 zFa:=kF3 zYh zJ zci zjy (zA []) zEZ
def zqi:LW
 |[.agg [.s (.sl .int) b,.s .mon c,.s .entry d,.s .entry e],.one<|.i .i64 f,.one<|.i .i64 g]=>some (zdf (⟨b,c,d,e⟩:ad) f g,[aH<|zcM (⟨b,c,d,e⟩:ad) f g,aB<|zcN (⟨b,c,d,e⟩:ad) f g])
 |_=>none
def zHu:vT 108 zqi:=by refine⟨zpE.1,λw m l n g h=>?_⟩;unfold zqi at h;split at h;{rename_i a b d f i j;obtain⟨k,rfl⟩:=zeu h;rcases z5d (gOf (⟨a,b,d,f⟩:ad) i j) with e|e|e|e|e|e|e|e;{exact zpE.2 w _ l _ g (congrArg (λc=>some (c,zgq<|zcw (⟨a,b,d,f⟩:ad) i j))<|zi1 k e)};{exact zBe.2 w _ l _ g (congrArg (λc=>some (c,zgq<|zcw (⟨a,b,d,f⟩:ad) i j))<|zi1 k e)};{exact zBf.2 w _ l _ g (congrArg (λc=>some (c,zgq<|zcw (⟨a,b,d,f⟩:ad) i j))<|zi1 k e)};{exact zBg.2 w _ l _ g (congrArg (λc=>some (c,zgq<|zcw (⟨a,b,d,f⟩:ad) i j))<|zi1 k e)};{exact zBh.2 w _ l _ g (congrArg (λc=>some (c,zgq<|zcw (⟨a,b,d,f⟩:ad) i j))<|zi1 k e)};{exact zBi.2 w _ l _ g (congrArg (λc=>some (c,zgq<|zcw (⟨a,b,d,f⟩:ad) i j))<|zi1 k e)};{exact zBj.2 w _ l _ g (congrArg (λc=>some (c,zgq<|zcw (⟨a,b,d,f⟩:ad) i j))<|zi1 k e)};{exact zBk.2 w _ l _ g (congrArg (λc=>some (c,zgq<|zcw (⟨a,b,d,f⟩:ad) i j))<|zi1 k e)}};{cases h}
def z6n:zW:=[(108,zqi)]++zm6
def z3H:zL z6n:=zh zHu ziN
def z6o:zW:=z6n
def z3I:zL z6o:=z3H
def brought (n a b:Int):Int:=bif ilt n a then a else (cond (ilt b a) a<|zNi n b)
@[simp] abbrev zq3 (_ _ _:Int):Bool:=true
@[simp] abbrev zrV (n a b:Int):Int:=brought n a b
def zsl:Run:=rF3 dI dI dI λb c d=>(zq3 b c d,[aI<|zrV b c d])
def zFm (N:Nat)(b a c:Int):OA:=
 (cond (ilt c a) (some [aI a])<|cond (ilt b a) (some [aI a])<|cond (igt b c) (some [aI c])<|some [aI b])
def zQI (a b c:Int)(g:zq3 a b c=true):∃N,zFm N a b c=some [aI<|zrV a b c]:=by refine⟨0,?_⟩;unfold zFm;unfold zrV brought zNi;cases d:ilt c b<;>cases e:ilt a b<;>cases f:igt a c<;>simp [igt] at * <;> omega
def zvp:vT 110 zsl:=kF3 ztF zJ zC zq (zA []) zQI
structure RI (a:List ak) (i:Nat) (l:List ak):Prop where
 len:l.length=a.length
 sm:zXV l
 eq:∀k,i<=k->l[k]?=a[k]?
def RI.up {a l:List ak}{i:Nat}(h:RI a i l)(x:ak)(b:SmB x):RI a (i+1) (up l (i:Int) x):=
 ⟨by rw[zhp];exact h.len,z8S h.sm b,λk c=>by rw[z9M (by omega)];exact h.eq k (by omega)⟩
structure RJ (l:List ak) (i:Nat) (l':List ak):Prop where
 len:l'.length=l.length
 sm:SmB (ix l' (i:Int) ziJ)
 up:∀x,E.up l' (i:Int) x=E.up l (i:Int) x
def RJ.next {l a:List ak}{i:Nat}(h:RJ l i a)(b:i<l.length)(x:ak)(c:SmB x):RJ l i (E.up a (i:Int) x):=
 ⟨by rw[zhp];exact h.len,by rw[zd8 (by rw[h.len];exact b)];exact c,λy=>by rw[zwc];exact h.up y⟩
def z0R:zW:=z6o
def z0S:zL z0R:=z3I
def zUJ {h:ad}{m:Int}(g:SmH h)(f:i0 m (ln h.aa)=true):SmB (zK h m):=by
 have b:=g.2.1.2 _ (zbF f mZ);have e:∀(d:List LI) (q:Int),SmM d->(zcy d q).length<=1048576:=λd q h=>zUM h;have c:∀p:Int,(zb8 h m p).length<=1048576:=by intro p;unfold zb8;cases i0 m (ln h.aa);{exact(by decide:zzT.length<=1048576)};{cases i0 p 8;{exact(by decide:zzT.length<=1048576)};{simp only [cT];cases ine (zbB (ix h.aa m zi).ae p).af (-1);{exact e _ _ b.2.1};{exact e _ _ g.1}}}
 have j:∀(n i:Nat),∀x∈zcz h m n i,x.length<=1048576:=by
  intro n
  induction n with
  |zero=>intro i x a;cases a
  |succ n k=>intro i x a;rcases qG.1 a with rfl|a;{exact c _};{exact k (i+1) x a}
 unfold zK;rw[f];exact⟨⟨by show (zcz h m 8 0).length<=1048576;rw[zzs];decide,j 8 0⟩,b.2.2.2.1,b.2.2.2.2.1⟩
def z6p:zW:=z0R
def z3J:zL z6p:=z0S
def z6q:zW:=[(110,zsl)]++z6p
def z3K:zL z6q:=zh zvp z3J
def cnt (l:List Mon):List Nat:=l.map λx=>x.ac.length
def z9p {l a:List Mon}(h:zej a=zej l):cnt a=cnt l:=by have e:∀l:List Mon,cnt l=(zej l).map List.length:=λl=>(by simp[cnt,zej]);rw[e,e,h]
def zSk {l:List Mon}{m:Int}{x:Mon}(b:i0 m (ln l)=true)(c:x.ac.length=(ix l m mZ).ac.length):cnt (up l m x)=cnt l:=by obtain⟨k,rfl,a⟩:=zdW (n:=l.length) b;unfold cnt up;rw[List.map_set,kM,c,zbr a];have:=@vD _ (l.map λx=>x.ac.length) k (by simpa using a);simpa using this
def z7z {l a:List Mon}(h:cnt a=cnt l):a.length=l.length:=by have:=congrArg List.length h;simpa [cnt] using this
def z9q {l b:List Mon}(h:cnt b=cnt l)(m:Int):(ix b m mZ).ac.length=(ix l m mZ).ac.length:=by have a:(cnt b)[m.toNat]?=(cnt l)[m.toNat]?:=(by rw[h]);unfold cnt at a;rw[qQ,qQ]at a;unfold ix;simp only[kG];cases c:b[m.toNat]? <;> cases d:l[m.toNat]? <;> rw [c,d]at a<;>simp at a ⊢;exact a
def z8y (h:ad)(m p:Int):(zdK h m p).ag=h.ag:=(zgV (zfe h m p) m p z0).2
def z8x (h:ad):(zdc h).ag=h.ag:=by unfold zdc;cases ieq (ln<|zcn h) 0;{rfl};{exact z8y _ _ _}
def z8w (m:List LI)(p:Int)(c:LI):(ziZ m p c).length=m.length:=by unfold ziZ;cases i0 p (ln m);{rfl};{cases zcK c;{rfl};{simp}}
def z8u (m:List LI)(p c v:Int):(zbO m p c v).length=m.length:=by unfold zbO;cases ziy m p c;{rfl};{cases zl v 0 99;{rfl};{simp}}
def zYZ (h:ad)(m p:Int):(fetched h m p).ag.length=h.ag.length:=by unfold fetched zfn;rw[(zgV _ _ _ _).2];unfold landing;rw[z8w,z8x]
def zTU (h:ad)(m p n:Int):(zjR h m p n).ag=h.ag:=by unfold zjR;cases ieq (wand .i64 n 2) 0;{unfold opened;cases ieq (wand .i64 (ix (ix (zbL h m p).aa m mZ).ae p sZ).aj 2) 0;{rfl};{exact(zgV _ _ _ _).2}};{rfl}
def z1H (h:ad)(m p n:Int):(C0 h m p n).ag.length=h.ag.length:=by unfold C0;cases ieq (ix (ix h.aa m mZ).ae p sZ).af (-1);{exact congrArg List.length (zTU _ _ _ _)};{exact(congrArg List.length<|zTU _ _ _ _).trans (zYZ _ _ _)}
def z1I (h:ad)(m g p:Int)(a:Bool):(zvE h m g p a).ag=h.ag:=by cases a<;>rfl
def z4p (h:ad)(b:List ar)(m g c a q:Int)(d:Bool):(ziw h b m g c a q d).1.ag.length=h.ag.length:=by unfold ziw;cases zik b m g c a;{cases zfv h m g c a;{exact congrArg List.length (z1I _ _ _ _ _)};{exact(congrArg List.length<|z1I _ _ _ _ _).trans (z1H h m q a)}};{rfl}
def z8v (h:ad)(b:List ar)(m g page need:Int)(io:Bool):(lookOf h b m g page need io).1.ag.length=h.ag.length:=by unfold lookOf;cases zca h m g page need;{rfl};{simp only [cT];rw[z4p];cases ieq need 2<;>rfl}
structure Keep (h r:ad):Prop where
 shape:Shape r
 cnt:cnt r.aa=cnt h.aa
 mem:r.ag.length=h.ag.length
def Keep.has {h r:ad}(k:Keep h r){m:Int}(a:i0 m (ln h.aa)=true):i0 m (ln r.aa)=true:=by rw[ln,z7z k.cnt];exact a
def Keep.hg {h r:ad}(k:Keep h r){m g:Int}(hg:i0 g (ln (ix h.aa m mZ).ac)=true):i0 g (ln (ix r.aa m mZ).ac)=true:=by rw[ln,z9q k.cnt];exact hg
def Keep.trans {a b c:ad}(h:Keep a b)(k:Keep b c):Keep a c:=⟨k.shape,k.cnt.trans h.cnt,k.mem.trans h.mem⟩
def Keep.rfl' {h:ad}(a:Shape h):Keep h h:=⟨a,rfl,rfl⟩
def znR {h:ad}{m g:Int}{x:ah}(b:Shape h)(a:i0 m (ln h.aa)=true)(c:SmG x):Keep h (zls h m g x):=⟨zZH b a c,zSk a (by simp),rfl⟩
def zCJ {h:ad}{b:List ar}{m g page need:Int}{io:Bool}(c:SmH h)(a:zb1 h m g=true):Keep h (lookOf h b m g page need io).1:=by have k:=zxx (b:=b) (page:=page) (need:=need) (io:=io) c a;exact⟨k.shape,z9p k.gs,z8v _ _ _ _ _ _ _⟩
def z1s {h:ad}{p c v:Int}(a:Shape h):Keep h {h with ag:=zbO h.ag p c v}:=⟨zP4 a<|zzP a.1.1,rfl,z8u _ _ _ _⟩
def zYL {h:ad}{m:Int}(a:Shape h)(b:i0 m (ln h.aa)=true):Keep h (owned h m):=by obtain⟨c,d⟩:=zcD a b;unfold owned;cases ilt (ix h.aa m mZ).Own 1000000000;{exact Keep.rfl' a};{exact⟨ziX a c d,zSk b rfl,rfl⟩}
def zYK {h:ad}{m n:Int}(b:Shape h)(c:i0 m (ln h.aa)=true):Keep h (zot h m n):=by obtain⟨a,d⟩:=zcD b c;unfold zot;cases e:ilt (ln (ix h.aa m mZ).Outs) 40;{exact Keep.rfl' b};{have f:=qF e;simp only[ln]at f;refine⟨ziX b ⟨a.1,a.2.1,a.2.2.1,a.2.2.2.1,?_,a.2.2.2.2.2⟩ d,zSk c rfl,rfl⟩;simp[ap];omega}
def z1u {h:ad}{m g:Int}{x:ah}{w:Int}(d:Shape h)(b:i0 m (ln h.aa)=true)(e:SmG x):Keep h (zwb h m g x w):=by have a:Keep h (zhd h m x w):=(by unfold zhd;cases (cond (ine w 6) (ieq (zzq (ix h.aa m mZ).aq x.Ctl.aq<|zyp w) 2) false);{exact Keep.rfl' d};{exact zYL d b});have f:Keep (zhd h m x w) (zhc (zhd h m x w) m x w):=(by unfold zhc;cases (cond (zk0 x.Ctl.aq w) (ieq w 5) false);{exact Keep.rfl' a.shape};{exact zYK a.shape (a.has b)});have c:=a.trans f;exact c.trans (znR c.shape (c.has b)<|zDz _ _ e)
def z1t {h:ad}{m g:Int}(f:SmH h)(e:zb1 h m g=true):Keep h (zcw h m g).1:=by obtain⟨l,a,n⟩:=zdH e;have d:=zpx f a n;have i:=(zfM f l).1;rw[zka e];unfold zUR;cases ieq (zbf<|gOf h m g) 0;{cases ieq (zbf<|gOf h m g) 1;{cases ieq (zbf<|gOf h m g) 2;{cases (cond (ieq (zbf<|gOf h m g) 3) true<|ieq (zbf<|gOf h m g) 4);{exact z1u i a d};{have k:=zCJ (b:=h.ao) (page:=zbi (D0<|gOf h m g)) (need:=zcd (ieq (zbf<|gOf h m g) 4)) (io:=false) f e;show Keep h (zkb (zm9 h m g (gOf h m g)<|ieq (zbf<|gOf h m g) 4) m g (gOf h m g)<|ieq (zbf<|gOf h m g) 4);unfold zkb;cases (zm9 h m g (gOf h m g)<|ieq (zbf<|gOf h m g) 4).2.2;{exact k.trans (znR k.shape (k.has a) d)};{cases ieq (zbf<|gOf h m g) 4;{have k:=zCJ (b:=h.ao) (page:=zbi (D0<|gOf h m g)) (need:=zcd false) (io:=false) f e;exact k.trans (znR k.shape (k.has a)<|zLI _ d)};{have k:=zCJ (b:=h.ao) (page:=zbi (D0<|gOf h m g)) (need:=zcd true) (io:=false) f e;have q:=z1s (p:=(zm9 h m g (gOf h m g) true).2.1) (c:=zdi (D0<|gOf h m g)) (v:=(gOf h m g).A) k.shape;have j:=k.trans q;exact j.trans (znR j.shape (j.has a)<|zlM d)}}}};{exact znR i a (zGA d)}};{exact znR i a (zXB d)}};{exact Keep.rfl' i}
structure Same (h r:ad):Prop where
 sm:SmH r
 cnt:cnt r.aa=cnt h.aa
 mem:r.ag.length=h.ag.length
 st:r=h\/Shape r
def Same.rfl' {h:ad}(a:SmH h):Same h h:=⟨a,rfl,rfl,.inl rfl⟩
def Same.trans {a b c:ad}(h:Same a b)(k:Same b c):Same a c:=⟨k.sm,k.cnt.trans h.cnt,k.mem.trans h.mem,by
 rcases k.st with e|e
 .rw [e];exact h.st
 .exact .inr e⟩
def z2q {h:ad}(m g:Int)(b:SmH h):Same h (zcw h m g).1:=by cases a:zb1 h m g;{rw [zms a];exact Same.rfl' b};{have k:=z1t b a;exact⟨k.shape.1,k.cnt,k.mem,.inr k.shape⟩}
def z6r:zW:=[(110,zsl)]++zX9
def ztH:zL z6r:=zh zvp ztF
def zSf {a b:Bool}(h:(a=true)↔(b=true)):a=b:=by cases a<;>cases b<;>simp_all
@[simp] def zbac (x:Int):zl x 0 3=i0 x 4:=zSf (by rw[zgz];unfold i0;rw[decide_eq_true_iff];omega)
@[simp] def z2Q (x:Int):zl x 0 7=i0 x 8:=zSf (by rw[zgz];unfold i0;rw[decide_eq_true_iff];omega)
def zew (t:List k0)(p:Int)(s:k0):List k0:=bif i0 p (ln t) then up t p s else t
@[simp] def zbad (t:List k0)(p:Int)(s:k0):(zew t p s).length=t.length:=by unfold zew;cases i0 p (ln t)<;>simp
@[simp] abbrev zo7 (t:List k0)(p:Int)(s:k0):Bool:=pc (t.length<=1048576)
@[simp] abbrev zmh (t:List k0)(p:Int)(s:k0):List k0:=zew t p s
def zx7:Run:=rF3 (dS .slot) dI (dT .slot) λb c d=>(zo7 b c d,[aS .slot<|zmh b c d])
def zBT (N:Nat)(a:lS)(b:Int)(c:k0):OA:=
 (oN (few<|ln<|ap [] a)<|oN (zQ b 0<|wsub .i64 (ln a) 1)<|cond (zl b 0<|wsub .i64 (ln a) 1) (oN (inb b<|ln<|ap [] a)<|p0 (up (ap [] a) b c) λd=>some [aS .slot d])<|some [aS .slot<|ap [] a])
def zNQ (a:List k0)(b:Int)(c:k0)(d:zo7 a b c=true):∃N,zBT N a b c=some [aS .slot<|zmh a b c]:=by have e:=zT.1 d;refine⟨0,?_⟩;unfold zBT oN;refine mu (j0 rfl (br (λ_=>mu (shr ?_)) λ_=>?_));all_goals first|rfl|(simp only [*,zmh,zew,cT,cF]<;>rfl)|simp_all[Ty.cells,zmh,zew]
def zHD:vT 347 zx7:=kF3 ztH zJ zC zq (zA []) zNQ
def zhY (p n:Int):Bool:=bif zdz p then zl n 0 7 else false
def zsX (p n:Int):Int:=bif zhY p n then wor .i64 p (zpA .i64 1 n) else p
def cv7 {n:Int}(h:i0 n 8=true):wcv .u64 n=n/\ile 0 n=true:=by have:=qF h;exact⟨zXP (by omega) (by omega),qM (by omega)⟩
@[simp] abbrev zkG (p n:Int):Bool:=true
@[simp] abbrev zhB (p n:Int):Int:=zsX p n
@[simp] abbrev zmS (p n:Int):Bool:=zhY p n
def zAM:Run:=rF2 dI dI λb c=>(zkG b c,[aI<|zhB b c,aB<|zmS b c])
def zFA (N:Nat)(a b:Int):OA:=
 (oN (zc8 a)<|cond (nB<|zfZ a) (some [aI a,aB false])<|oN (zQ b 0 7)<|cond (nB<|zl b 0 7) (some [aI a,aB false])<|oN (ile 0<|wcv .u64 b)<|some [aI<|wor .i64 a<|zpA .i64 1<|wcv .u64 b,aB true])
def zQX (b a:Int)(c:zkG b a=true):∃N,zFA N b a=some [aI<|zhB b a,aB<|zmS b a]:=by have d:=@cv7 a;refine⟨0,?_⟩;unfold zFA oN nB;refine j0 rfl (brN (λ_=>?_) λ_=>j0 rfl (brN (λ_=>?_) λ_=>mu ?_));all_goals first|rfl|(simp only [*,zhB,zmS,zsX,zhY,cT,cF]<;>rfl)|simp_all[Ty.cells,zhB,zmS,zsX,zhY]
def zJ5:vT 350 zAM:=kF2 ztH zJ zC zq (zA []) zQX
def posts (c:Ctl)(n:Int):Bool:=bif zlV c then (cond (zl n 0 7) (ieq (wand .i64 (zDK .i64 c.Post n) 1) 1) false) else false
@[simp] abbrev zDs (c:Ctl)(n:Int):Bool:=true
@[simp] abbrev zyg (c:Ctl)(n:Int):Bool:=posts c n
def zGk:Run:=rF2 dC dI λb c=>(zDs b c,[aB<|zyg b c])
def zOQ (N:Nat)(b:Ctl)(a:Int):OA:=
 (oN (zge b)<|cond (zqn b) (oN (zQ a 0 7)<|cond (zl a 0 7) (oN (ile 0<|wcv .u64 a)<|some [aB<|ieq (wand .i64 (zDK .i64 b.Post<|wcv .u64 a) 1) 1]) oF) oF)
def zV6 (b:Ctl)(a:Int)(c:zDs b a=true):∃N,zOQ N b a=some [aB<|zyg b a]:=by have d:=@cv7 a;refine⟨0,?_⟩;unfold zOQ oN;refine j0 rfl (br (λ_=>j0 rfl (br (λ_=>mu ?_) λ_=>?_)) λ_=>?_);all_goals first|rfl|(simp only [*,zyg,posts,cT,cF]<;>rfl)|simp_all[Ty.cells,zyg,posts]
def zQs:vT 438 zGk:=kF2 ztH zJ zC zq (zA []) zV6
def zch (b:ak)(g:Int):Bool:=bif zcc b then i0 g (ln b.ac) else false
def zdM {b:ak}{g:Int}:(zch b g=true)↔zcc b=true/\i0 g (ln b.ac)=true:=by unfold zch;cases zcc b<;>simp
@[simp] abbrev zgi (b:ak)(g:Int):Bool:=pc (SmB b)
@[simp] abbrev zkL (b:ak)(g:Int):Bool:=zch b g
def zGm:Run:=rF2 (dT .bare) dI λb c=>(zgi b c,[aB<|zkL b c])
def zOT (N:Nat)(a:ak)(b:Int):OA:=
 (oN (zoS a)<|cond (zfl a) (oN (zQ b 0<|wsub .i64 (ln a.ac) 1)<|some [aB<|zl b 0<|wsub .i64 (ln a.ac) 1]) oF)
def zV8 (a:ak)(b:Int)(c:zgi a b=true):∃N,zOT N a b=some [aB<|zkL a b]:=by have d:=zT.1 c;have e:a.ac.length<=1048576:=d.2.1.1;refine⟨0,?_⟩;unfold zOT oN;refine j0 rfl (br (λ_=>j0 rfl ?_) λ_=>?_);all_goals first|rfl|(simp only [*,zkL,zch,cT,cF]<;>rfl)|simp_all[Ty.cells,zkL,zch]
def zQv:vT 345 zGm:=kF2 ztH zJ zC zq (zA []) zV8
def z6s:zW:=[(347,zx7),(350,zAM),(438,zGk),(345,zGm)]++z6r
def zlc:zL z6s:=zh zHD (zh zJ5<|zh zQs<|zh zQv ztH)
def z5c {b:Type}{l:List b}{i:Int}{d:b}(h:i0 i (ln l)=true):up l i (ix l i d)=l:=by obtain⟨k,rfl,a⟩:=zdW (n:=l.length) h;unfold up;rw[zbr a,kM];exact vD a
def ztM {b:ak}{g:Int}(h:i0 g (ln b.ac)=true):gAt b g=ix b.ac g zD:=by unfold gAt;rw[h];rfl
def z2s {b:ak}{g:Int}(h:i0 g (ln b.ac)=true):zeK b g (gAt b g)=b:=by unfold zeK;rw[ztM h,z5c h]
def chg (b:ak)(g:Int)(c:Bool)(x:ah):ak:=bif (cond (zch b g) c false) then zeK b g x else b
def zcl (b:ak)(g:Int)(c:Bool):Bool:=bif zch b g then c else false
def zwU (p:Int)(s:k0):Bool:=bif i0 p 4 then zeM s 8 else false
def zDw (x:ah)(p:Int)(s:k0):ah:={x with aA:=zew x.aA p s}
def zd4 (x:ah)(p:Int):ah:={x with aw:=zew x.aw p (zbB x.aA p)}
def zlm:aE:=⟨0,0,false,0⟩
def zwr (x:ah)(v:Int):Bool:=bif zl v 0 99 then (cond (ieq x.Exit.Kind 2) true<|ieq x.Exit.Kind 3) else false
def zyG (x:ah)(v:Int):ah:=zck (stopped (cond (ieq x.Exit.Kind 2) {x with A:=v} x) zlm)
def zC3 (x:ah):Bool:=bif ieq x.Exit.Kind 1 then true else ieq x.Exit.Kind 4
def zzx (x:ah):ah:=bif ieq x.Exit.Kind 1 then stopped x zlm else held (stopped x zlm)
def zoq (x:ah)(n:Int):ah:={x with ai:=zsX x.ai n}
def zMk (x:ah)(c:Ctl):ah:={x with Ctl:=c}
def z8o {x:ah}{n:Int}(h:zhY x.ai n=false):zoq x n=x:=by unfold zoq zsX;rw[h];rfl
def z4R {x:ah}(p:Int)(s:k0)(h:SmG x):SmG (zDw x p s):=⟨h.1,by simpa [zDw] using h.2.1,h.2.2.1,h.2.2.2⟩
def zLG {x:ah}(p:Int)(h:SmG x):SmG (zd4 x p):=⟨h.1,h.2.1,by simpa [zd4] using h.2.2.1,h.2.2.2⟩
def z4P {x:ah}(v:Int)(h:SmG x):SmG (zyG x v):=by unfold zyG;cases ieq x.Exit.Kind 2<;>exact zlM h
def z4Q {x:ah}(h:SmG x):SmG (zzx x):=by unfold zzx;cases ieq x.Exit.Kind 1;{exact zUK (g:=stopped x zlm) h};{exact h}
def zqA {b:ak}{g:Int}{c:Bool}{x:ah}(h:SmB b)(a:SmG x):SmB (chg b g c x):=by unfold chg;cases (cond (zch b g) c false);{exact h};{exact znJ h a}
@[simp] abbrev zq2 (b:ak)(g p:Int)(s:k0):Bool:=pc (SmB b)
@[simp] abbrev zez (b:ak)(g p:Int)(s:k0):ak:=chg b g (zwU p s) (zDw (gAt b g) p s)
@[simp] abbrev zfA (b:ak)(g p:Int)(s:k0):Bool:=zcl b g (zwU p s)
def zsk:Run:=rF4 (dT .bare) dI dI (dT .slot) λb c d e=>(zq2 b c d e,[aT .bare<|zez b c d e,aB<|zfA b c d e])
def zFl (N:Nat)(f:ak)(b c:Int)(d:k0):OA:=
 let a:=zct f;let e:=ix a.ac b zD; (oN (zdN f)<|oN (zgi a b)<|cond (nB<|zkL a b) (some [aT .bare a,aB false])<|oN (zQ c 0 3)<|cond (nB<|zl c 0 3) (some [aT .bare a,aB false])<|oN (zs7 d 8)<|cond (nB<|zqu d 8) (some [aT .bare a,aB false])<|oN (inb b<|ln a.ac)<|oN (zo7 e.aA c d)<|oN (inb b<|ln a.ac)<|p0 (up a.ac b ({e with aA:=(zmh e.aA c d)}:ah)) λg=>some [aT .bare ({a with ac:=g}:ak),aB true])
def zQH (b:ak)(a c:Int)(d:k0)(e:zq2 b a c d=true):∃N,zFl N b a c d=some [aT .bare<|zez b a c d,aB<|zfA b a c d]:=by
 have f:=zT.1 e;have g:=zkw a f;have k:zch b a=true->i0 a (ln b.ac)=true:=λh=>(zdM.1 h).2;have i:zch b a=true->gAt b a=ix b.ac a zD:=λh=>ztM (zdM.1 h).2;have j:=g.2.1;refine⟨0,?_⟩;unfold zFl oN nB;conv=>zeta
 refine mu (mu<|brN (λ_=>?_) λ_=>j0 rfl (brN (λ_=>?_) λ_=>j0 rfl (brN (λ_=>?_) λ_=>mu (mu<|mu<|shr ?_))));all_goals first|rfl|(simp only [*,zez,zfA,chg,zcl,zwU,zDw,zeK,cT,cF]<;>rfl)|simp_all[Ty.cells,zez,zfA,chg,zcl,zwU,zDw,zeK]
def zvo:vT 157 zsk:=kF4 zlc zJ zC zq (zA []) zQH
@[simp] abbrev zss (b:ak)(g p:Int):Bool:=pc (SmB b)
@[simp] abbrev zff (b:ak)(g p:Int):ak:=chg b g (i0 p 4) (zd4 (gAt b g) p)
@[simp] abbrev zim (b:ak)(g p:Int):Bool:=zcl b g (i0 p 4)
def zoA:Run:=rF3 (dT .bare) dI dI λb c d=>(zss b c d,[aT .bare<|zff b c d,aB<|zim b c d])
def zz4 (N:Nat)(f:ak)(d b:Int):OA:=
 let a:=zct f;let e:=inb d<|ln a.ac;let c:=ix a.ac d zD; (oN (zdN f)<|oN (zgi a d)<|cond (nB<|zkL a d) (some [aT .bare a,aB false])<|oN (zQ b 0 3)<|cond (nB<|zl b 0 3) (some [aT .bare a,aB false])<|oN e<|oN e<|oN (zgJ c.aA b)<|oN (zo7 c.aw b<|zeS c.aA b)<|oN e<|p0 (up a.ac d ({c with aw:=(zmh c.aw b<|zeS c.aA b)}:ah)) λg=>some [aT .bare ({a with ac:=g}:ak),aB true])
def zKO (b:ak)(a c:Int)(d:zss b a c=true):∃N,zz4 N b a c=some [aT .bare<|zff b a c,aB<|zim b a c]:=by
 have e:=zT.1 d;have f:=zkw a e;have j:zch b a=true->i0 a (ln b.ac)=true:=λh=>(zdM.1 h).2;have g:zch b a=true->gAt b a=ix b.ac a zD:=λh=>ztM (zdM.1 h).2;have i:=f.2.2.1;refine⟨0,?_⟩;unfold zz4 oN nB;conv=>zeta
 refine mu (mu<|brN (λ_=>?_) λ_=>j0 rfl (brN (λ_=>?_) λ_=>mu (mu (j0 rfl (mu<|mu<|shr ?_)))));all_goals first|rfl|(simp only [*,zff,zim,chg,zcl,zd4,zeK,cT,cF]<;>rfl)|simp_all[Ty.cells,zff,zim,chg,zcl,zd4,zeK]
def zsD:vT 158 zoA:=kF3 zlc zJ zC zq (zA []) zKO
@[simp] abbrev zmb (b:ak)(g v:Int):Bool:=pc (SmB b)
@[simp] abbrev zdl (b:ak)(g v:Int):ak:=chg b g (zwr (gAt b g) v) (zyG (gAt b g) v)
@[simp] abbrev zea (b:ak)(g v:Int):Bool:=zcl b g (zwr (gAt b g) v)
def zny:Run:=rF3 (dT .bare) dI dI λb c d=>(zmb b c d,[aT .bare<|zdl b c d,aB<|zea b c d])
def zw6 (N:Nat)(i:ak)(b e:Int):OA:=
 let a:=zct i;let h:=inb b<|ln a.ac;let d:=(⟨0,0,false,0⟩:aE);let c:=ix a.ac b zD;let g:=({c with A:=e}:ah); (oN (zdN i)<|oN (zgi a b)<|cond (nB<|zkL a b) (some [aT .bare a,aB false])<|oN (zQ e 0 99)<|cond (nB<|zl e 0 99) (some [aT .bare a,aB false])<|oN h<|cond (ieq c.Exit.Kind 2) (oN (zeA g d)<|oN (zbj<|zdS g d)<|oN h<|p0 (up a.ac b<|ze2<|zdS g d) λf=>some [aT .bare ({a with ac:=f}:ak),aB true])<|cond (ieq c.Exit.Kind 3) (oN (zeA c d)<|oN (zbj<|zdS c d)<|oN h<|p0 (up a.ac b<|ze2<|zdS c d) λf=>some [aT .bare ({a with ac:=f}:ak),aB true])<|some [aT .bare a,aB false])
def zHS (b:ak)(a c:Int)(d:zmb b a c=true):∃N,zw6 N b a c=some [aT .bare<|zdl b a c,aB<|zea b a c]:=by
 have e:=zT.1 d;have f:=zkw a e;have j:zch b a=true->i0 a (ln b.ac)=true:=λh=>(zdM.1 h).2;have g:zch b a=true->gAt b a=ix b.ac a zD:=λh=>ztM (zdM.1 h).2;have i:_/\_/\_/\_:=f;refine⟨0,?_⟩;unfold zw6 oN nB;conv=>zeta
 refine mu (mu<|brN (λ_=>?_) λ_=>j0 rfl (brN (λ_=>?_) λ_=>mu (br (λ_=>mu (mu<|mu<|shr ?_)) λ_=>br (λ_=>mu (mu<|mu<|shr ?_)) λ_=>?_)));all_goals first|rfl|(simp only [*,zdl,zea,chg,zcl,zwr,zyG,zlm,zeK,SmG,stopped,cT,cF]<;>rfl)|simp_all[Ty.cells,zdl,zea,chg,zcl,zwr,zyG,zlm,zeK,SmG,stopped]
def zrI:vT 159 zny:=kF3 zlc zJ zC zq (zA []) zHS
@[simp] abbrev zdn (b:ak)(g:Int):ak:=chg b g (zC3<|gAt b g) (zzx<|gAt b g)
@[simp] abbrev zec (b:ak)(g:Int):Bool:=zcl b g (zC3<|gAt b g)
def znA:Run:=rF2 (dT .bare) dI λb c=>(zgi b c,[aT .bare<|zdn b c,aB<|zec b c])
def zw8 (N:Nat)(g:ak)(c:Int):OA:=
 let a:=zct g;let f:=inb c<|ln a.ac;let d:=(⟨0,0,false,0⟩:aE);let b:=ix a.ac c zD; (oN (zdN g)<|oN (zgi a c)<|cond (nB<|zkL a c) (some [aT .bare a,aB false])<|oN f<|cond (ieq b.Exit.Kind 1) (oN (zeA b d)<|oN f<|p0 (up a.ac c<|zdS b d) λe=>some [aT .bare ({a with ac:=e}:ak),aB true])<|cond (ieq b.Exit.Kind 4) (oN (zeA b d)<|oN (zbj<|zdS b d)<|oN f<|p0 (up a.ac c<|zye<|zdS b d) λe=>some [aT .bare ({a with ac:=e}:ak),aB true])<|some [aT .bare a,aB false])
def zHU (b:ak)(a:Int)(c:zgi b a=true):∃N,zw8 N b a=some [aT .bare<|zdn b a,aB<|zec b a]:=by
 have d:=zT.1 c;have e:=zkw a d;have i:zch b a=true->i0 a (ln b.ac)=true:=λh=>(zdM.1 h).2;have f:zch b a=true->gAt b a=ix b.ac a zD:=λh=>ztM (zdM.1 h).2;have g:_/\_/\_/\_:=e;refine⟨0,?_⟩;unfold zw8 oN nB;conv=>zeta
 refine mu (mu<|brN (λ_=>?_) λ_=>mu (br (λ_=>mu (mu<|shr ?_)) λ_=>br (λ_=>mu (mu<|mu<|shr ?_)) λ_=>?_));all_goals first|rfl|(simp only [*,zdn,zec,chg,zcl,zC3,zzx,zlm,zeK,SmG,stopped,cT,cF]<;>rfl)|simp_all[Ty.cells,zdn,zec,chg,zcl,zC3,zzx,zlm,zeK,SmG,stopped]
def zrK:vT 160 znA:=kF2 zlc zJ zC zq (zA []) zHU
def z9m {b:ak}{g:Int}{c:Bool}{x:ah}(h:zch b g=false):chg b g c x=b:=by unfold chg;rw[h];rfl
def z7w {b:ak}{g n:Int}(h:zch b g=true):chg b g (zhY (gAt b g).ai n) (zoq (gAt b g) n)=zeK b g (zoq (gAt b g) n):=by unfold chg;rw[h];cases a:zhY (gAt b g).ai n;{rw [z8o a,z2s (zdM.1 h).2];rfl};{rfl}
@[simp] abbrev zmc (b:ak)(g n:Int):Bool:=pc (SmB b)
@[simp] abbrev zdm (b:ak)(g n:Int):ak:=chg b g (zhY (gAt b g).ai n) (zoq (gAt b g) n)
@[simp] abbrev zeb (b:ak)(g n:Int):Bool:=zcl b g (zhY (gAt b g).ai n)
def znz:Run:=rF3 (dT .bare) dI dI λb c d=>(zmc b c d,[aT .bare<|zdm b c d,aB<|zeb b c d])
def zw7 (N:Nat)(e:ak)(b d:Int):OA:=
 let a:=zct e;let c:=ix a.ac b zD; (oN (zdN e)<|oN (zgi a b)<|cond (nB<|zkL a b) (some [aT .bare a,aB false])<|oN (inb b<|ln a.ac)<|oN (zkG c.ai d)<|oN (inb b<|ln a.ac)<|p0 (up a.ac b ({c with ai:=(zhB c.ai d)}:ah)) λf=>some [aT .bare ({a with ac:=f}:ak),aB<|zmS c.ai d])
def zHT (a:ak)(b c:Int)(d:zmc a b c=true):∃N,zw7 N a b c=some [aT .bare<|zdm a b c,aB<|zeb a b c]:=by
 have i:=zT.1 d;have j:zch a b=true->i0 b (ln a.ac)=true:=λh=>(zdM.1 h).2;have f:zch a b=true->gAt a b=ix a.ac b zD:=λh=>ztM (zdM.1 h).2;have g:=@z7w a b c;have e:=@z9m a b (zhY (gAt a b).ai c) (zoq (gAt a b) c);refine⟨0,?_⟩;unfold zw7 oN nB;conv=>zeta
 refine mu (mu<|brN (λ_=>?_) λ_=>mu (j0 rfl (mu<|shr ?_)));all_goals first|rfl|(simp only [*,zdm,zeb,zcl,zeK,zoq,cT,cF]<;>rfl)|simp_all[Ty.cells,zdm,zeb,zcl,zeK,zoq]
def zrJ:vT 161 znz:=kF3 zlc zJ zC zq (zA []) zHT
@[simp] abbrev zq1 (b:ak)(g:Int)(c:Ctl):Bool:=pc (SmB b)
@[simp] abbrev zey (b:ak)(g:Int)(c:Ctl):ak:=chg b g (zlV c) (zMk (gAt b g) c)
@[simp] abbrev zfz (b:ak)(g:Int)(c:Ctl):Bool:=zcl b g (zlV c)
def zsj:Run:=rF3 (dT .bare) dI dC λb c d=>(zq1 b c d,[aT .bare<|zey b c d,aB<|zfz b c d])
def zFk (N:Nat)(d:ak)(b:Int)(c:Ctl):OA:=
 let a:=zct d; (oN (zdN d)<|oN (zgi a b)<|cond (nB<|zkL a b) (some [aT .bare a,aB false])<|oN (zge c)<|cond (nB<|zqn c) (some [aT .bare a,aB false])<|oN (inb b<|ln a.ac)<|p0 (up a.ac b ({ (ix a.ac b zD) with Ctl:=c}:ah)) λe=>some [aT .bare ({a with ac:=e}:ak),aB true])
def zQG (a:ak)(b:Int)(c:Ctl)(d:zq1 a b c=true):∃N,zFk N a b c=some [aT .bare<|zey a b c,aB<|zfz a b c]:=by
 have f:=zT.1 d;have g:zch a b=true->i0 b (ln a.ac)=true:=λh=>(zdM.1 h).2;have e:zch a b=true->gAt a b=ix a.ac b zD:=λh=>ztM (zdM.1 h).2;refine⟨0,?_⟩;unfold zFk oN nB;conv=>zeta
 refine mu (mu<|brN (λ_=>?_) λ_=>j0 rfl (brN (λ_=>?_) λ_=>mu (shr ?_)));all_goals first|rfl|(simp only [*,zey,zfz,chg,zcl,zMk,zeK,cT,cF]<;>rfl)|simp_all[Ty.cells,zey,zfz,chg,zcl,zMk,zeK]
def zvn:vT 162 zsj:=kF3 zlc zJ zC zq (zA []) zQG
def z7b (p c v:Int):Bool:=bif i0 p 8 then (cond (i0 c 4) (zl v 0 99) false) else false
def zxG (b:ak)(p c v:Int):Bool:=bif zcc b then z7b p c v else false
def zRP (b:ak)(p c v:Int):ak:=bif zxG b p c v then {b with ag:=zbO b.ag p c v} else b
def zno (b:ak):ak:=bif zcc b then {b with ai:=zkB b.ai} else b
def ztA (b:ak):Int:=bif zcc b then zt2 b.ai else -1
def zm5 (b:ak):Bool:=bif zcc b then !ilt (zd7 b.ai) 0 else false
def zoj (b:ak)(g a n:Int):Bool:=bif zch b g then (cond (zl a 0 15) (zf5 (gAt b g).aw (zbi a) n) false) else false
def zDS (b:ak)(g a n:Int):Int:=zcP (gAt b g).aw (zbi a) n
def zyX (b:ak)(g a v:Int):Bool:=bif zoj b g a 2 then zl v 0 99 else false
def zYm (b:ak)(g a v:Int):ak:=bif zyX b g a v then {b with ag:=zbO b.ag (zDS b g a 2) (zdi a) v} else b
def zRT (b:ak)(g a:Int):Int:=bif zoj b g a 1 then cellAt b.ag (zDS b g a 1) (zdi a) else 0
@[simp] abbrev ze9 (b:ak):ak:=zno b
@[simp] abbrev zgF (b:ak):Int:=ztA b
@[simp] abbrev zgG (b:ak):Bool:=zm5 b
def zsi:Run:=rF1 (dT .bare) λb=>(zdN b,[aT .bare<|ze9 b,aI<|zgF b,aB<|zgG b])
def zFj (N:Nat)(b:ak):OA:=
 let a:=zct b; (oN (zdN b)<|oN (zoS a)<|cond (nB<|zfl a) (some [aT .bare a,aI<|-1,aB false])<|oN (zc8 a.ai)<|some [aT .bare ({a with ai:=(zkH a.ai)}:ak),aI<|zkI a.ai,aB<|zmU a.ai])
def zQF (a:ak)(b:zdN a=true):∃N,zFj N a=some [aT .bare<|ze9 a,aI<|zgF a,aB<|zgG a]:=by
 have c:=zT.1 b;refine⟨0,?_⟩;unfold zFj oN nB;conv=>zeta
 refine mu (j0 rfl (brN (λ_=>?_) λ_=>j0 rfl ?_));all_goals first|rfl|(simp only [*,ze9,zgF,zgG,zno,ztA,zm5,zkB,zt2,cT,cF]<;>rfl)|simp_all[Ty.cells,ze9,zgF,zgG,zno,ztA,zm5,zkB,zt2]
def zvm:vT 165 zsi:=kF1 zlc zJ zC zq (zA []) zQF
def z6t:zW:=z6s
def zSD:zL z6t:=zlc
def zen (l:List ah)(n:Int):LI:=idxs (λ(x:ah)=>posts x.Ctl n) l 0
def zS6 {d:Type}(p:d->Bool):∀(l:List d) (i:Nat),∀k∈idxs p l i,(i:Int)<=k/\k<(i:Int)+l.length
 |[],_,k,a=>by cases a
 |x::l,i,k,a=>by have c:=zS6 p l (i+1);simp only[qX];unfold idxs at a;cases b:p x;{rw [b]at a;have:=c k a;omega};{rw [b]at a;rcases qG.1 a with rfl|a;{omega};{have:=c k a;omega}}
@[simp] abbrev zh4 (b:ak)(n:Int):Bool:=pc (SmB b)
@[simp] abbrev zme (b:ak)(n:Int):LI:=zen b.ac n
def zx3:Run:=rF2 (dT .bare) dI λb c=>(zh4 b c,[aS .int<|zme b c])
def zBL (N:Nat)(c:ak)(f:Int):OA:=
 (iter (σ:=(Int×Int×Int×LI×lM×lG×LI×Unit)) N (λd a=>let c:=a.2.2.2.2;let b:=c.2.1;let e:=(ix b a.2.1 zD).Ctl; (cond (ilt a.2.1<|ln b) (oN (inb a.2.1<|ln b)<|oN (zDs e a.1)<|cond (zyg e a.1) (oN (few<|ln<|ap a.2.2.2.1 [a.2.1])<|d (a.1,zM .i64 a.2.1 1,a.2.2.1,ap a.2.2.2.1 [a.2.1],c.1,b,c.2.2.1,()))<|d (a.1,zM .i64 a.2.1 1,a.2.2.1,a.2.2.2.1,c.1,b,c.2.2.1,()))<|some [aS .int a.2.2.2.1])) (f,0,c.ai,[],c.ag,c.ac,c.Outs,()))
def zOr:=zA [(352,0,{n:=28,tm:=[(1,ti),(2,.lp 0 0),(5,.sl 0 []),(6,ti)],lo:=[(0,[.sl 1 [],.sl 2 [],.sl 3 [],ti])],ro:=[(0,.int,true),(1,.sl .int,false),(2,.guest,false),(3,.int,false)]})]
def zNH (a:ak)(b:Int)(g:zh4 a b=true):∃N,zBL N a b=some [aS .int<|zme a b]:=by
 have h:=zT.1 g;have e:=zcO h.2.1.1;refine zcI λN d=>?_;unfold zBL oN;conv=>zeta
 refine(zbJ a.ac (λi (t:LI)=>(b,(i:Int),a.ai,t,a.ag,a.ac,a.Outs,())) _ (λi (x:ah) (t:LI) f=>bif posts x.Ctl b then (cond (few<|ln<|ap t [(i:Int)]) (f<|ap t [(i:Int)]) none) else f t) (λ(t:LI)=>some [.one<|.s .int t]) (λi c t rec=>?_) (λt rec=>?_) _ ([])<|d e.1).trans ?_;{simp only [zbK c,zbc c,zbr c,zbx c e.1,cT]};{simp only [zbw,cF]};exact ztO (λ(x:ah)=>posts x.Ctl b) _ a.ac 0 [] (by simpa using e.2)
def zHv:vT 352 zx3:=kF2 zSD zJ zC zq zOr zNH
def z6u:zW:=[(352,zx3)]++z6t
def zSE:zL z6u:=zh zHv zSD
def zEc (n:Int)(l:List ah)(k:Int):List ah:=up l k (zoq (ix l k zD) n)
def zl6 (n:Int)(a:LI)(l:List ah):List ah:=a.foldl (zEc n) l
def zC0 (n:Int)(l:List ah)(k:Int):(zEc n l k).length=l.length:=zhp _ _ _
def zZL {n:Int}{l:List ah}{k:Int}(a:i0 k (ln l)=true)(h:zk2 l):zk2 (zEc n l k):=zEg h (z2z h a _)
def zDA {n:Int}:∀(a:LI) {l:List ah},(∀k∈a,i0 k (ln l)=true)->zk2 l->zk2 (zl6 n a l)/\(zl6 n a l).length=l.length
 |[],_,_,h=>⟨h,rfl⟩
 |k::a,l,b,h=>by have e:=zZL (n:=n) (b k (by simp)) h;obtain⟨c,d⟩:=zDA (n:=n) a (l:=zEc n l k) (λj f=>by rw[ln,zC0];exact b j (by simp[f])) e;exact⟨c,d.trans<|zC0 _ _ _⟩
def zSV {e:Type}(n:Int)(K:List ah->Option e):∀(a:LI) (i:Nat) (l:List ah),(∀k∈a,i0 k (ln l)=true)->
 goL (λ_ k (t:List ah) d=>bif inb k (ln t) then (cond (inb k<|ln t) (d<|up t k<|zoq (ix t k zD) n) none) else none) K a i l=K (zl6 n a l)
 |[],_,_,_=>rfl
 |k::a,i,l,h=>by have c:inb k (ln l)=true:=h k (by simp);simp only[goL,c,cT];exact zSV n K a (i+1) (zEc n l k) (λj b=>by rw[ln,zC0];exact h j (by simp[b]))
def zEd (b:ak)(n:Int):ak:=bif ieq (ln<|zen b.ac n) 0 then {b with ai:=zsX b.ai n} else {b with ac:=zl6 n (zen b.ac n) b.ac}
def zf8 (b:ak)(n:Int):Bool:=bif zcc b then i0 n 8 else false
def zkV (b:ak)(n:Int):ak:=bif zf8 b n then zEd b n else b
def zLi {b:ak}{n:Int}:∀k∈zen b.ac n,i0 k (ln b.ac)=true:=λk a=>by have:=zS6 _ _ _ k a;exact qM (by simp only[ln];omega)
def zZd {b:ak}{n:Int}(h:ieq (ln<|zen b.ac n) 0=true):zl6 n (zen b.ac n) b.ac=b.ac:=by have a:((zen b.ac n).length:Int)=0:=qF h;have:zen b.ac n=[]:=uY.1 (by omega);rw[this];rfl
def zZc {b:ak}{n:Int}:(cond (ieq (ln<|zen b.ac n) 0) (some [AV.agg<|Ty.cells .bare ⟨b.ag,zl6 n (zen b.ac n) b.ac,b.Outs,zsX b.ai n⟩,AV.one<|.b true])<|some [AV.agg<|Ty.cells .bare ⟨b.ag,zl6 n (zen b.ac n) b.ac,b.Outs,b.ai⟩,AV.one<|.b true])=some [AV.agg<|Ty.cells .bare<|zEd b n,AV.one<|.b true]:=by unfold zEd;cases h:ieq (ln<|zen b.ac n) 0;{rfl};{simp only [cT,zZd h]}
@[simp] abbrev zfa (b:ak)(n:Int):ak:=zkV b n
@[simp] abbrev zgY (b:ak)(n:Int):Bool:=zf8 b n
def zqg:Run:=rF2 (dT .bare) dI λb c=>(zh4 b c,[aT .bare<|zfa b c,aB<|zgY b c])
def zBC (N:Nat)(i:ak)(e:Int):OA:=
 let b:=zct i; (oN (zdN i)<|oN (zoS b)<|cond (nB<|zfl b) (some [aT .bare b,aB false])<|oN (zQ e 0 7)<|cond (nB<|zl e 0 7) (some [aT .bare b,aB false])<|oN (zh4 b e)<|iter (σ:=(Int×Int×Int×Int×LI×lM×lG×LI×lM×lG×LI×Unit)) N (λj a=>let b:=a.2.2.2.2.2;let h:=b.2.2.1;let d:=a.2.2.2.2.1;let c:=b.2.1;let f:=ix d a.2.1 0;let g:=ix c f zD; (cond (ilt a.2.1<|ln d) (oN (inb a.2.1<|ln d)<|oN (inb a.2.1<|ln d)<|oN (inb f<|ln c)<|oN (zkG g.ai a.1)<|oN (inb f<|ln c)<|j (a.1,zM .i64 a.2.1 1,a.2.2.1,a.2.2.2.1,d,b.1,up c f ({g with ai:=(zhB g.ai a.1)}:ah),h,b.2.2.2.1,b.2.2.2.2.1,b.2.2.2.2.2.1,()))<|cond (ieq (ln d) 0) (oN (zkG a.2.2.1 a.1)<|some [aT .bare (⟨b.1,c,h,zhB a.2.2.1 a.1⟩:ak),aB true])<|some [aT .bare (⟨b.1,c,h,a.2.2.1⟩:ak),aB true])) (e,0,b.ai,0,zme b e,b.ag,b.ac,b.Outs,[],[],[],()))
def zOn:=zA [(164,0,{n:=62,tm:=[(1,ti),(2,.lp 0 0),(4,.lp 1 0),(6,.sl 0 []),(7,ti)],lo:=[(0,[.sl 1 [],.sl 2 [],.sl 3 [],ti]),(1,[.sl 4 [],.sl 5 [],.sl 6 [],ti])],ro:=[(0,.int,true),(1,.sl .int,true),(2,.guest,true),(3,.int,true),(4,.sl .int,true),(5,.guest,true),(6,.int,true)]})]
def zNy (a:ak)(c:Int)(l:zh4 a c=true):∃N,zBC N a c=some [aT .bare<|zfa a c,aB<|zgY a c]:=by
 have h:=zT.1 l;have j:(zen a.ac c).length<=big:=qS (zzc _ _ _) (zcO h.2.1.1).1;refine zcI λN g=>?_;unfold zBC zfa zgY zkV zf8 oN nB;conv=>zeta
 refine j0 (zY h) (j0 rfl (brN (λe=>?_) λe=>j0 rfl (brN (λd=>?_) λd=>j0 (zY h) ?_)));{simp only [show zcc a=false from e,cF]};{simp only [show zcc a=true from e,show i0 c 8=false from by first|exact d|exact(z2Q c).symm.trans d,cT,cF]};simp only[show zcc a=true from e,show i0 c 8=true from by first|exact d|exact(z2Q c).symm.trans d,cT];refine(zbJ (zme (zct a) c) (λi (t:lG)=>(c,(i:Int),(zct a).ai,0,zme (zct a) c,(zct a).ag,t,(zct a).Outs,[],[],[],())) _ (λ_ k (t:List ah) m=>bif inb k (ln t) then (cond (inb k<|ln t) (m<|up t k<|zoq (ix t k zD) c) none) else none) (λ(t:lG)=>cond (ieq (ln<|zme (zct a) c) 0) (cond (zkG (zct a).ai c) (some [.agg<|Ty.cells .bare (⟨(zct a).ag,t,(zct a).Outs,zhB (zct a).ai c⟩:ak),.one<|.b true]) none)<|some [.agg<|Ty.cells .bare (⟨(zct a).ag,t,(zct a).Outs,(zct a).ai⟩:ak),.one<|.b true]) (λi f t rec=>?_) (λt rec=>?_) _ ((zct a).ac)<|g j).trans ?_;{simp only [zbK f,zbc f,zbr f,zbx f j,cT];rfl};{simp only [zbw,cF];rfl};exact(zSV c _ _ 0 _ zLi).trans zZc
def ztT:vT 164 zqg:=kF2 zSE zJ zC zq zOn zNy
end
end Go.Proofs.YtapgkefgcbapcaaGreat.E
namespace Go.Proofs
open Go Go.Shelf
end Go.Proofs
namespace Go.Proofs.YtapgkefgcbapcaaGreat.E
open Go
set_option linter.defProp false
set_option linter.constructorNameAsVariable false
set_option linter.unusedVariables false
set_option maxRecDepth 100000
set_option linter.unusedSimpArgs false
set_option linter.unusedSectionVars false
noncomputable section
section
open Go Go.RowKit Go.Proofs
section
variable {P:Program}
end
end
def z0a:zW:=[(157,zsk),(158,zoA),(159,zny),(160,znA),(161,znz),(162,zsj),(165,zsi),(164,zqg)]++z6u
def zB8:zL z0a:=zh zvo (zh zsD<|zh zrI<|zh zrK<|zh zrJ<|zh zvn<|zh zvm<|zh ztT zSE)
def z2H {n:Int}(h:(ieq n 4||ieq n 8)=true):n=4\/n=8:=by rcases kJ _ _ ▸ h with h|h;{exact .inl (qF h)};{exact .inr (qF h)}
def z1F {n:Int}(h:(ieq n 8||ieq n 12)=true):n=8\/n=12:=by rcases kJ _ _ ▸ h with h|h;{exact .inl (qF h)};{exact .inr (qF h)}
@[simp] abbrev zjq (n:Int):Bool:=ieq n 4||ieq n 8
@[simp] abbrev zhu (n:Int):List k0:=List.replicate n.toNat ⟨-1,0⟩
def zqk:Run:=rF1 dI λb=>(zjq b,[aS .slot<|zhu b])
def zR3 (N:Nat)(b:Int):OA:=
 (oN (zq3 b 0 24)<|iter (σ:=(Int×lS×Unit)) N (λc a=>cond (igt a.1 0) (oN zb3<|oN (few<|ln<|ap a.2.1 [zbo])<|c (wsub .i64 a.1 1,ap a.2.1 [zbo],()))<|some [aS .slot a.2.1]) (zrV b 0 24,[],()))
def zOt:=zA [(196,0,{n:=17,tm:=[(3,.sl 0 []),(4,ti)],lo:=[],ro:=[(0,.slot,true)]})]
def zNM (a:Int)(b:zjq a=true):∃N,zR3 N a=some [aS .slot<|zhu a]:=by refine⟨30,?_⟩;have h:a=4\/a=8:=z2H b;rcases h with rfl|rfl<;>(change _=_;kernel_rfl)
def ztY:vT 196 zqk:=kF1 zB8 zJ zC zq zOt zNM
@[simp] abbrev zo2 (n:Int):Bool:=ieq n 8||ieq n 12
@[simp] abbrev zjX (n:Int):List LI:=List.replicate n.toNat [0,0,0,0]
def zup:Run:=rF1 dI λb=>(zo2 b,[aS (.sl .int)<|zjX b])
def zXR (N:Nat)(b:Int):OA:=
 (oN (zq3 b 0 24)<|iter (σ:=(Int×lM×Unit)) N (λc a=>cond (igt a.1 0) (oN (cond (few 4) (ieq 4 4) false)<|oN (few<|ln<|ap a.2.1 [rp 4 0])<|c (wsub .i64 a.1 1,ap a.2.1 [rp 4 0],()))<|some [aS (.sl .int) a.2.1]) (zrV b 0 24,[],()))
def zU7:=zA [(184,0,{n:=17,tm:=[(3,.sl 0 []),(4,ti)],lo:=[],ro:=[(0,.sl .int,true)]})]
def zTt (a:Int)(b:zo2 a=true):∃N,zXR N a=some [aS (.sl .int)<|zjX a]:=by refine⟨30,?_⟩;have h:a=8\/a=12:=z1F b;rcases h with rfl|rfl<;>(change _=_;kernel_rfl)
def zxr:vT 184 zup:=kF1 zB8 zJ zC zq zU7 zTt
def z0b:zW:=[(196,zqk),(184,zup)]++z0a
def zO6:zL z0b:=zh ztY (zh zxr zB8)
def zlL:List k0:=List.replicate 4 ⟨-1,0⟩
def zfj (p:List Ins):ah:=⟨p,0,0,zlL,zlL,⟨0,0,false⟩,0,⟨0,0,false,0⟩,false,[]⟩
@[simp] abbrev zjn (p:List Ins):Bool:=pc (p.length<=1048576)
@[simp] abbrev zcr (p:List Ins):ah:=zfj p
def zl8:Run:=rF1 (dS .ins) λb=>(zjn b,[aT .guest<|zcr b])
def zBF (N:Nat)(a:lI):OA:=
 (oN (few<|ln<|ap [] a)<|oN (zjq 4)<|oN (zjq 4)<|some [aT .guest (⟨ap [] a,0,0,zhu 4,zhu 4,⟨0,0,false⟩,0,⟨0,0,false,0⟩,false,[]⟩:ah)])
def zNB (a:List Ins)(b:zjn a=true):∃N,zBF N a=some [aT .guest<|zcr a]:=by have c:=zT.1 b;refine⟨0,?_⟩;unfold zBF oN;refine mu (j0 rfl (j0 rfl ?_));first|rfl|(simp only [*,zcr,zfj,zlL,cT,cF]<;>rfl)|simp_all[Ty.cells,zcr,zfj,zlL]
def znu:vT 197 zl8:=kF1 zO6 zJ zC zq (zA []) zNB
def z9y:zW:=[(197,zl8)]++z0b
def zB9:zL z9y:=zh znu zO6
def zNX:List LI:=List.replicate 8 [0,0,0,0]
def z9h (a:List (List Ins)):Prop:=a.length<=1048576/\∀p∈a,p.length<=1048576
def zPK {d c j:Type}(m:Nat)(f:d->c)(K:List c->Option j):∀(l:List d) (i:Nat) (a:List c),a.length+l.length<=2147483648->
 goL (λ(i:Nat) x a k=>bif ilt (i:Int) (m:Int) then (cond (few<|ln<|ap a [f x]) (k<|ap a [f x]) none) else K a) K l i a=K (a++(l.take<|m-i).map f)
 |[],i,a,_=>by simp[goL]
 |x::l,i,a,g=>by simp only[qX]at g;have e:few (ln<|ap a [f x])=true:=zhn (by simp[ap];omega);by_cases h:i<m;{have b:ilt (i:Int) (m:Int)=true:=qM (by omega);simp only[goL,b,e,cT];rw[zPK m f K l (i+1) (ap a [f x]) (by simp[ap];omega)];rw[show m-i=m-(i+1)+1 by omega];simp[ap]};{have b:ilt (i:Int) (m:Int)=false:=qT (by omega);simp only[goL,b,cF];rw[show m-i=0 by omega];simp}
@[simp] abbrev znX (a:GAct):Bool:=true
@[simp] abbrev zya (a:GAct):Bool:=zl a.Kind 1 17
def zGc:Run:=rF1 (dT .act) λb=>(znX b,[aB<|zya b])
def zOG (N:Nat)(a:GAct):OA:=
 (oN (zQ a.Kind 1 17)<|some [aB<|zl a.Kind 1 17])
def zVV (a:GAct)(b:znX a=true):∃N,zOG N a=some [aB<|zya a]:=by refine⟨0,?_⟩;unfold zOG oN;refine j0 rfl ?_;first|rfl|(simp only [*,zya,cT,cF]<;>rfl)|simp_all[Ty.cells,zya]
def zQj:vT 42 zGc:=kF1 zB9 zJ zC zq (zA []) zVV
@[simp] abbrev zwN (k:Int):Bool:=true
@[simp] abbrev zrW (k:Int):Bool:=zl k 13 17
def zAH:Run:=rF1 dI λb=>(zwN b,[aB<|zrW b])
def zFv (N:Nat)(a:Int):OA:=
 (oN (zQ a 13 17)<|some [aB<|zl a 13 17])
def zQR (a:Int)(b:zwN a=true):∃N,zFv N a=some [aB<|zrW a]:=by refine⟨0,?_⟩;unfold zFv oN;refine j0 rfl ?_;first|rfl|(simp only [*,zrW,cT,cF]<;>rfl)|simp_all[Ty.cells,zrW]
def zJ0:vT 40 zAH:=kF1 zB9 zJ zC zq (zA []) zQR
@[simp] abbrev zqm (a:GAct):Ctl:=⟨a.X,a.Y,ieq a.Z 1⟩
def zGd:Run:=rF1 (dT .act) λb=>(znX b,[.agg<|zog<|zqm b])
def zOH (N:Nat)(a:GAct):OA:=
 (some [.agg [.i .i64 a.X,.i .i64 a.Y,.b<|ieq a.Z 1]])
def zVW (a:GAct)(b:znX a=true):∃N,zOH N a=some [.agg<|zog<|zqm a]:=by refine⟨0,?_⟩;unfold zOH;first|rfl|(simp only [*,zqm,cT,cF]<;>rfl)|simp_all[Ty.cells,zqm]
def zQk:vT 38 zGd:=kF1 zB9 zJ zC zq (zA []) zVW
def zSv:zW:=[(157,zsk),(158,zoA),(159,zny),(160,znA),(161,znz),(162,zsj),(165,zsi),(164,zqg),(184,zup)]++z6q
def zCb:zL zSv:=zh zvo (zh zsD<|zh zrI<|zh zrK<|zh zrJ<|zh zvn<|zh zvm<|zh ztT<|zh zxr z3K)
def zc5 (x:Mon):ak:=⟨zNX,x.ac,x.Outs,x.ai⟩
def zu3 (x:Mon)(b:ak):Mon:={x with ac:=b.ac,ai:=b.ai}
def zdd (h:ad)(m:Int)(b:ak):ad:={h with aa:=up h.aa m (zu3 (ix h.aa m mZ) b)}
@[simp] abbrev zfc (x:Mon):Bool:=pc (zfH x)
@[simp] abbrev zbQ (x:Mon):ak:=zc5 x
def zAX:Run:=rF1 (dT .mon) λb=>(zfc b,[aT .bare<|zbQ b])
def zFL (N:Nat)(a:Mon):OA:=
 (oN (zo2 8)<|oN (zgh a.ac)<|oN (few<|ln<|ap [] a.Outs)<|some [aT .bare (⟨zjX 8,zgP a.ac,ap [] a.Outs,a.ai⟩:ak)])
def zRe (a:Mon)(c:zfc a=true):∃N,zFL N a=some [aT .bare<|zbQ a]:=by have b:=zT.1 c;refine⟨0,?_⟩;unfold zFL oN;exact j0 rfl (j0 (zY<|(zvc _).2 b.2.2.2.1) (j0 (ztj b.2.2.2.2.1) rfl))
def zKv:vT 332 zAX:=kF1 zCb zJ zci zjy (zA []) zRe
@[simp] abbrev zfb (h:ad)(m:Int)(b:ak):Bool:=pc (i0 m (ln h.aa)=true/\zk2 b.ac)
@[simp] abbrev zhF (h:ad)(m:Int)(b:ak):ad:=zdd h m b
def zbaa {l:List Mon}{m:Int}(a:i0 m (ln l)=true)(b:ak):inb m (ln<|up l m {ix l m mZ with ac:=b.ac})=true/\
 up (up l m {ix l m mZ with ac:=b.ac}) m {ix (up l m {ix l m mZ with ac:=b.ac}) m mZ with ai:=b.ai}=up l m (zu3 (ix l m mZ) b):=by
 obtain⟨k,rfl,c⟩:=zdW (n:=l.length) a;refine⟨zG (by rw[ln,zhp];exact a),?_⟩
 rw[zwc,zd8 c];rfl
def zsr:LW
 |[.agg [.s (.sl .int) b,.s .mon c,.s .entry d,.s .entry e],.one<|.i .i64 f,.agg [.s (.sl .int) g,.s .guest h,.s .int j,.i .i64 k]]=>some (zfb (⟨b,c,d,e⟩:ad) f (⟨g,h,j,k⟩:ak),[aH<|zhF (⟨b,c,d,e⟩:ad) f (⟨g,h,j,k⟩:ak)])
 |_=>none
def zwp (N:Nat)(b:ad)(a:Int)(c:ak):OA:=
 (oN (zgh c.ac)<|oN (inb a<|ln b.aa)<|p0 (up b.aa a ({ (ix b.aa a zi) with ac:=(zgP c.ac)}:Mon)) λd=>oN (inb a<|ln d)<|p0 (up d a ({ (ix d a zi) with ai:=c.ai}:Mon)) λe=>some [aH ({b with aa:=e}:ad)])
def zTY (N:Nat)(a:ad)(b:Int)(c:ak):zYo (cQ zSv zp3 zZb z5b) (zA []) N 12 333 [true,true,true,true,false,false,false,false,false] [aH a,aI b,aT .bare c]=zwp N a b c:=by kernel_rfl
def zRd (b:ad)(c:Int)(a:ak)(i:zb5 big [aH b,aI c,aT .bare a])(h:zfb b c a=true):∃N,zwp N b c a=some [aH<|zhF b c a]:=by obtain⟨d,hg⟩:=zT.1 h;obtain⟨f,g⟩:=zbaa d a;refine⟨0,?_⟩;unfold zwp oN;refine j0 (zY<|(zvc _).2 hg) (j0 (zG d)<|shr<|j0 f<|shr ?_);have e:zgP a.ac=a.ac:=rfl;rw[e];show some [AV.agg<|zbn {b with aa:=_}]=some [AV.agg<|zbn {b with aa:=_}];rw[show zi=mZ from rfl,g]
def zKu:zeh Tryz.prog 333 [true,true,true,true,false,false,false,false,false] none zsr:=by refine zMw (zg6 zCb zJ zci zjy) (zjK (by kernel_rfl)) (by kernel_rfl) ?_;intro a g f e h;have c:=zi4 e;unfold zsr at h;split at h;{obtain⟨d,rfl⟩:=zeu h;obtain⟨N,b⟩:=zRd _ _ _ (by exact c) d;exact⟨_,N,12,(zTY N _ _ _ ).trans b⟩};{cases h}
def z0v:zW:=[(332,zAX)]++zSv
def zjB:zL z0v:=zh zKv zCb
def zbaD:zgj:=[(333,[true,true,true,true,false,false,false,false,false],none,zsr)]++z5b
def zdk:zeL zbaD:=zqC zjy (by
 intro x a;simp only[qG,qN,or_false]at a;rcases a with rfl
 .exact zKu)
def z7i (h:ad)(m:Int)(a:Bool)(B:ak)(b c:ad->Ans):OA:=
 bif zbh h then (cond (zf3 h m) (cond (cond (zf2 h m) false true) (some<|b h)<|cond (inb m<|ln h.aa) (cond (zfc<|ix h.aa m mZ) (cond a (cond (zfb h m B) (some<|c<|zdd h m B) none) none) none) none) none) else none
def zcJ {h:ad}{m:Int}:(zc0 h m=true)↔zcj h=true/\i0 m (ln h.aa)=true:=by unfold zc0;cases zcj h<;>simp
def znM {h:ad}{m:Int}{cB:Bool}{B:ak}{o0 o1:ad->Ans}(c:SmH h)(e:zc0 h m=true->cB=true)(d:zc0 h m=true->SmB B):z7i h m cB B o0 o1=some (cond (zc0 h m) (o1<|zdd h m B)<|o0 h):=by unfold z7i;refine j0 (zY<|(zU h).2 c) (j0 rfl ?_);rw[show zf2 h m=zc0 h m from rfl];cases a:zc0 h m;{rfl};{have b:=(zcJ.1 a).2;exact zcs rfl (j0 (zG b)<|j0 (zY<|c.2.1.2 _<|zbF b _)<|j0 (e a) (j0 (zY ⟨b,(d a).2.1⟩) rfl))}
structure SameB (b c:ak):Prop where
 g:b.ac=c.ac
 p:b.ai=c.ai
 o:zcc b=zcc c
def SameB.at {b c:ak}(h:SameB b c)(g:Int):gAt b g=gAt c g:=by unfold gAt;rw[h.g]
def SameB.has {b c:ak}(h:SameB b c)(g:Int):zch b g=zch c g:=by unfold zch;rw[h.g,h.o]
def back_eq {h:ad}{m:Int}{b c:ak}(hg:b.ac=c.ac)(a:b.ai=c.ai):zdd h m b=zdd h m c:=by unfold zdd zu3;rw[hg,a]
def zpO {b c:ak}(a:SameB b c)(h:ad)(m g:Int)(k:Bool)(x:ah):zdd h m (chg b g k x)=zdd h m (chg c g k x):=by unfold chg;rw[a.has];cases (cond (zch c g) k false);{exact back_eq a.g a.p};{exact back_eq (by simp only[cT,zeK,a.g]) a.p}
def zlU {b c:ak}(a:SameB b c)(g:Int)(k:Bool):zcl b g k=zcl c g k:=by unfold zcl;rw[a.has]
def zjE {h:ad}{m:Int}(b:zc0 h m=true)(d:zcc (zc5<|ix h.aa m mZ)=true):SameB (zc5<|ix h.aa m mZ) (zK h m):=by obtain⟨c,a⟩:=zcJ.1 b;refine⟨?_,?_,d.trans (zFN c a).symm⟩<;>unfold zK zc5<;>rw [a]<;>rfl
def z8t:zl3 zNX 8=true:=by decide
def zn6 {h:ad}{m:Int}(b:zc0 h m=true):zcc (zc5<|ix h.aa m mZ)=true:=by obtain⟨c,a⟩:=zcJ.1 b;have:=zFN c a;unfold zK at this;rw[a,cT] at this;unfold zcc at this ⊢;simp only[zc5,z8t] at *;simp_all
def zfm {x:Mon}(h:zfH x):SmB (zc5 x):=⟨show SmM zNX from ⟨by decide,by decide⟩,h.2.2.2.1,h.2.2.2.2.1⟩
def zid (h:ad)(m:Int)(b:ak):ad:=bif zc0 h m then zdd h m b else h
def zg7 (h:ad)(m:Int)(ok:Bool):Bool:=bif zc0 h m then ok else false
@[simp] abbrev zmJ (h:ad)(m:Int)(g p:Int)(s:k0):ad:=zid h m (zez (zK h m) g p s)
@[simp] abbrev zmK (h:ad)(m:Int)(g p:Int)(s:k0):Bool:=zg7 h m (zfA (zK h m) g p s)
@[simp] abbrev zi8 (h:ad)(m:Int)(g v:Int):ad:=zid h m (zdl (zK h m) g v)
@[simp] abbrev zi9 (h:ad)(m:Int)(g v:Int):Bool:=zg7 h m (zea (zK h m) g v)
@[simp] abbrev zjc (h:ad)(m:Int)(g:Int):ad:=zid h m (zdn (zK h m) g)
@[simp] abbrev zjd (h:ad)(m:Int)(g:Int):Bool:=zg7 h m (zec (zK h m) g)
@[simp] abbrev zja (h:ad)(m:Int)(g n:Int):ad:=zid h m (zdm (zK h m) g n)
@[simp] abbrev zjb (h:ad)(m:Int)(g n:Int):Bool:=zg7 h m (zeb (zK h m) g n)
@[simp] abbrev zmH (h:ad)(m:Int)(g:Int)(x:Ctl):ad:=zid h m (zey (zK h m) g x)
@[simp] abbrev zmI (h:ad)(m:Int)(g:Int)(x:Ctl):Bool:=zg7 h m (zfz (zK h m) g x)
@[simp] abbrev zlj (h:ad)(m:Int)(n:Int):ad:=zid h m (zfa (zK h m) n)
@[simp] abbrev zlk (h:ad)(m:Int)(n:Int):Bool:=zg7 h m (zgY (zK h m) n)
@[simp] abbrev zmE (h:ad)(m:Int):ad:=zid h m (ze9<|zK h m)
@[simp] abbrev zmF (h:ad)(m:Int):Int:=bif zc0 h m then zgF (zK h m) else -1
@[simp] abbrev zmG (h:ad)(m:Int):Bool:=zg7 h m (zgG<|zK h m)
@[simp] abbrev zki (h:ad)(m g p:Int):Bool:=zg7 h m (zcl (zK h m) g<|i0 p 4)
def z16 {b c:ak}(a:SameB b c)(n:Int):(zkV b n).ac=(zkV c n).ac/\(zkV b n).ai=(zkV c n).ai/\zf8 b n=zf8 c n:=by have e:zf8 b n=zf8 c n:=(by unfold zf8;rw[a.o]);unfold zkV;rw[e];cases zf8 c n;{exact⟨a.g,a.p,rfl⟩};{unfold zEd;rw[a.g];cases ieq (ln<|zen c.ac n) 0;{exact⟨by simp only[cT,cF],by simp only[cT,cF,a.p],rfl⟩};{exact⟨by simp only[cT,a.g],by simp only[cT,a.p],rfl⟩}}
def z2T {b c:ak}(a:SameB b c):(zno b).ac=(zno c).ac/\(zno b).ai=(zno c).ai/\ztA b=ztA c/\zm5 b=zm5 c:=by unfold zno ztA zm5;rw[a.o,a.p];cases zcc c;{exact⟨a.g,a.p,rfl,rfl⟩};{exact⟨a.g,rfl,rfl,rfl⟩}
def z2y {b:ak}{n:Int}(h:SmB b):SmB (zkV b n):=by unfold zkV;cases zf8 b n;{exact h};{unfold zEd;cases ieq (ln<|zen b.ac n) 0;{exact⟨h.1,(zDA _ zLi h.2.1).1,h.2.2⟩};{exact h}}
def z4O {b:ak}(h:SmB b):SmB (zno b):=by unfold zno;cases zcc b;{exact h};{exact h}
def ztg {H a:ad}{x y:Bool}(c:H=a)(d:x=y):some [AV.agg<|zbn H,AV.one<|.b x]=some [AV.agg<|zbn a,AV.one<|.b y]:=by rw[c,d]
def z7A {H a:ad}{n k:Int}{x y:Bool}(c:H=a)(d:n=k)(e:x=y):some [AV.agg<|zbn H,AV.one<|.i .i64 n,AV.one<|.b x]=some [AV.agg<|zbn a,AV.one<|.i .i64 k,AV.one<|.b y]:=by rw[c,d,e]
def zXz {b:ak}(g p:Int)(s:k0)(a:SmB b):SmB (zez b g p s):=zqA a (z4R _ _<|zkw _ a)
def z4K {b c:ak}(a:SameB b c)(h:ad)(m:Int)(g p:Int)(s:k0):zdd h m (zez b g p s)=zdd h m (zez c g p s)/\zfA b g p s=zfA c g p s:=by have e:=a.at g;simp only[zez,zfA,e];exact⟨zpO a _ _ _ _ _,zlU a _ _⟩
@[simp] abbrev zwM (h:ad)(m:Int)(g p:Int)(s:k0):Bool:=pc (zcR h)
def zAG:Run:=rF5 dH dI dI dI (dT .slot) λb c d e f=>(zwM b c d e f,[aH<|zmJ b c d e f,aB<|zmK b c d e f])
def zFu (N:Nat)(g:ad)(b d e:Int)(f:k0):OA:=
 let a:=zx g;let c:=ix a.aa b zi; (oN (zbh g)<|oN (zf3 a b)<|cond (nB<|zf2 a b) (some [aH a,aB false])<|oN (inb b<|ln a.aa)<|oN (zfc c)<|oN (zq2 (zbQ c) d e f)<|oN (zfb a b<|zez (zbQ c) d e f)<|some [aH<|zhF a b<|zez (zbQ c) d e f,aB<|zfA (zbQ c) d e f])
def zQQ (a:ad)(c d e:Int)(f:k0)(n:zwM a c d e f=true):∃N,zFu N a c d e f=some [aH<|zmJ a c d e f,aB<|zmK a c d e f]:=by
 have i:=(zU a).1 (zT.1 n);refine⟨0,?_⟩;have j:=znM (h:=a) (m:=c) (cB:=zq2 (zc5<|ix a.aa c mZ) d e f) (B:=zez (zc5<|ix a.aa c mZ) d e f) (o0:=λH=>[.agg<|zbn H,.one<|.b false]) (o1:=λH=>[.agg<|zbn H,.one<|.b<|zfA (zc5<|ix a.aa c mZ) d e f]) i
  (λg=>zY (zfm<|i.2.1.2 _<|zbF (zcJ.1 g).2 _)) (λg=>zXz _ _ _ (zfm<|i.2.1.2 _<|zbF (zcJ.1 g).2 _))
 refine(show zFu 0 a c d e f=_ from j).trans ?_;unfold zmJ zmK zid zg7;cases g:zc0 a c;{rfl};{obtain⟨k,l⟩:=z4K (zjE g<|zn6 g) a c d e f;simp only[cT];exact ztg k l}
def zJZ:vT 141 zAG:=kF5 zjB zJ zci zdk (zA []) zQQ
def zLD {b:ak}(g v:Int)(a:SmB b):SmB (zdl b g v):=zqA a (z4P _<|zkw _ a)
def zWD {b c:ak}(a:SameB b c)(h:ad)(m:Int)(g v:Int):zdd h m (zdl b g v)=zdd h m (zdl c g v)/\zea b g v=zea c g v:=by have e:=a.at g;simp only[zdl,zea,e];exact⟨zpO a _ _ _ _ _,zlU a _ _⟩
@[simp] abbrev zqq (h:ad)(m:Int)(g v:Int):Bool:=pc (zcR h)
def zum:Run:=rF4 dH dI dI dI λb c d e=>(zqq b c d e,[aH<|zi8 b c d e,aB<|zi9 b c d e])
def zxb (N:Nat)(f:ad)(b d e:Int):OA:=
 let a:=zx f;let c:=ix a.aa b zi; (oN (zbh f)<|oN (zf3 a b)<|cond (nB<|zf2 a b) (some [aH a,aB false])<|oN (inb b<|ln a.aa)<|oN (zfc c)<|oN (zmb (zbQ c) d e)<|oN (zfb a b<|zdl (zbQ c) d e)<|some [aH<|zhF a b<|zdl (zbQ c) d e,aB<|zea (zbQ c) d e])
def zHZ (a:ad)(c d e:Int)(l:zqq a c d e=true):∃N,zxb N a c d e=some [aH<|zi8 a c d e,aB<|zi9 a c d e]:=by
 have g:=(zU a).1 (zT.1 l);refine⟨0,?_⟩;have i:=znM (h:=a) (m:=c) (cB:=zmb (zc5<|ix a.aa c mZ) d e) (B:=zdl (zc5<|ix a.aa c mZ) d e) (o0:=λH=>[.agg<|zbn H,.one<|.b false]) (o1:=λH=>[.agg<|zbn H,.one<|.b<|zea (zc5<|ix a.aa c mZ) d e]) g
  (λf=>zY (zfm<|g.2.1.2 _<|zbF (zcJ.1 f).2 _)) (λf=>zLD _ _ (zfm<|g.2.1.2 _<|zbF (zcJ.1 f).2 _))
 refine(show zxb 0 a c d e=_ from i).trans ?_;unfold zi8 zi9 zid zg7;cases f:zc0 a c;{rfl};{obtain⟨j,k⟩:=zWD (zjE f<|zn6 f) a c d e;simp only[cT];exact ztg j k}
def zCz:vT 143 zum:=kF4 zjB zJ zci zdk (zA []) zHZ
def zLF {b:ak}(g:Int)(a:SmB b):SmB (zdn b g):=zqA a (z4Q<|zkw _ a)
def zWF {b c:ak}(a:SameB b c)(h:ad)(m:Int)(g:Int):zdd h m (zdn b g)=zdd h m (zdn c g)/\zec b g=zec c g:=by have e:=a.at g;simp only[zdn,zec,e];exact⟨zpO a _ _ _ _ _,zlU a _ _⟩
@[simp] abbrev zqs (h:ad)(m:Int)(g:Int):Bool:=pc (zcR h)
def zuo:Run:=rF3 dH dI dI λb c d=>(zqs b c d,[aH<|zjc b c d,aB<|zjd b c d])
def zxd (N:Nat)(e:ad)(b d:Int):OA:=
 let a:=zx e;let c:=ix a.aa b zi; (oN (zbh e)<|oN (zf3 a b)<|cond (nB<|zf2 a b) (some [aH a,aB false])<|oN (inb b<|ln a.aa)<|oN (zfc c)<|oN (zgi (zbQ c) d)<|oN (zfb a b<|zdn (zbQ c) d)<|some [aH<|zhF a b<|zdn (zbQ c) d,aB<|zec (zbQ c) d])
def zH1 (a:ad)(c d:Int)(k:zqs a c d=true):∃N,zxd N a c d=some [aH<|zjc a c d,aB<|zjd a c d]:=by
 have f:=(zU a).1 (zT.1 k);refine⟨0,?_⟩;have g:=znM (h:=a) (m:=c) (cB:=zgi (zc5<|ix a.aa c mZ) d) (B:=zdn (zc5<|ix a.aa c mZ) d) (o0:=λH=>[.agg<|zbn H,.one<|.b false]) (o1:=λH=>[.agg<|zbn H,.one<|.b<|zec (zc5<|ix a.aa c mZ) d]) f
  (λe=>zY (zfm<|f.2.1.2 _<|zbF (zcJ.1 e).2 _)) (λe=>zLF _ (zfm<|f.2.1.2 _<|zbF (zcJ.1 e).2 _))
 refine(show zxd 0 a c d=_ from g).trans ?_;unfold zjc zjd zid zg7;cases e:zc0 a c;{rfl};{obtain⟨i,j⟩:=zWF (zjE e<|zn6 e) a c d;simp only[cT];exact ztg i j}
def zCB:vT 144 zuo:=kF3 zjB zJ zci zdk (zA []) zH1
def zLE {b:ak}(g n:Int)(a:SmB b):SmB (zdm b g n):=zqA a (zkw (b:=b) _ a)
def zWE {b c:ak}(a:SameB b c)(h:ad)(m:Int)(g n:Int):zdd h m (zdm b g n)=zdd h m (zdm c g n)/\zeb b g n=zeb c g n:=by have e:=a.at g;simp only[zdm,zeb,e];exact⟨zpO a _ _ _ _ _,zlU a _ _⟩
@[simp] abbrev zqr (h:ad)(m:Int)(g n:Int):Bool:=pc (zcR h)
def zun:Run:=rF4 dH dI dI dI λb c d e=>(zqr b c d e,[aH<|zja b c d e,aB<|zjb b c d e])
def zxc (N:Nat)(f:ad)(b d e:Int):OA:=
 let a:=zx f;let c:=ix a.aa b zi; (oN (zbh f)<|oN (zf3 a b)<|cond (nB<|zf2 a b) (some [aH a,aB false])<|oN (inb b<|ln a.aa)<|oN (zfc c)<|oN (zmc (zbQ c) d e)<|oN (zfb a b<|zdm (zbQ c) d e)<|some [aH<|zhF a b<|zdm (zbQ c) d e,aB<|zeb (zbQ c) d e])
def zH0 (a:ad)(c d e:Int)(l:zqr a c d e=true):∃N,zxc N a c d e=some [aH<|zja a c d e,aB<|zjb a c d e]:=by
 have g:=(zU a).1 (zT.1 l);refine⟨0,?_⟩;have i:=znM (h:=a) (m:=c) (cB:=zmc (zc5<|ix a.aa c mZ) d e) (B:=zdm (zc5<|ix a.aa c mZ) d e) (o0:=λH=>[.agg<|zbn H,.one<|.b false]) (o1:=λH=>[.agg<|zbn H,.one<|.b<|zeb (zc5<|ix a.aa c mZ) d e]) g
  (λf=>zY (zfm<|g.2.1.2 _<|zbF (zcJ.1 f).2 _)) (λf=>zLE _ _ (zfm<|g.2.1.2 _<|zbF (zcJ.1 f).2 _))
 refine(show zxc 0 a c d e=_ from i).trans ?_;unfold zja zjb zid zg7;cases f:zc0 a c;{rfl};{obtain⟨j,k⟩:=zWE (zjE f<|zn6 f) a c d e;simp only[cT];exact ztg j k}
def zCA:vT 145 zun:=kF4 zjB zJ zci zdk (zA []) zH0
def zXy {b:ak}(g:Int)(x:Ctl)(a:SmB b):SmB (zey b g x):=zqA a (zkw (b:=b) _ a)
def z4J {b c:ak}(a:SameB b c)(h:ad)(m:Int)(g:Int)(x:Ctl):zdd h m (zey b g x)=zdd h m (zey c g x)/\zfz b g x=zfz c g x:=by have e:=a.at g;simp only[zey,zfz,e];exact⟨zpO a _ _ _ _ _,zlU a _ _⟩
@[simp] abbrev zwJ (h:ad)(m:Int)(g:Int)(x:Ctl):Bool:=pc (zcR h)
def zAD:Run:=rF4 dH dI dI dC λb c d e=>(zwJ b c d e,[aH<|zmH b c d e,aB<|zmI b c d e])
def zFr (N:Nat)(f:ad)(b d:Int)(e:Ctl):OA:=
 let a:=zx f;let c:=ix a.aa b zi; (oN (zbh f)<|oN (zf3 a b)<|cond (nB<|zf2 a b) (some [aH a,aB false])<|oN (inb b<|ln a.aa)<|oN (zfc c)<|oN (zq1 (zbQ c) d e)<|oN (zfb a b<|zey (zbQ c) d e)<|some [aH<|zhF a b<|zey (zbQ c) d e,aB<|zfz (zbQ c) d e])
def zQN (a:ad)(c d:Int)(e:Ctl)(l:zwJ a c d e=true):∃N,zFr N a c d e=some [aH<|zmH a c d e,aB<|zmI a c d e]:=by
 have g:=(zU a).1 (zT.1 l);refine⟨0,?_⟩;have i:=znM (h:=a) (m:=c) (cB:=zq1 (zc5<|ix a.aa c mZ) d e) (B:=zey (zc5<|ix a.aa c mZ) d e) (o0:=λH=>[.agg<|zbn H,.one<|.b false]) (o1:=λH=>[.agg<|zbn H,.one<|.b<|zfz (zc5<|ix a.aa c mZ) d e]) g
  (λf=>zY (zfm<|g.2.1.2 _<|zbF (zcJ.1 f).2 _)) (λf=>zXy _ _ (zfm<|g.2.1.2 _<|zbF (zcJ.1 f).2 _))
 refine(show zFr 0 a c d e=_ from i).trans ?_;unfold zmH zmI zid zg7;cases f:zc0 a c;{rfl};{obtain⟨j,k⟩:=z4J (zjE f<|zn6 f) a c d e;simp only[cT];exact ztg j k}
def zJW:vT 146 zAD:=kF4 zjB zJ zci zdk (zA []) zQN
def zUI {b:ak}(n:Int)(a:SmB b):SmB (zfa b n):=z2y a
def z2p {b c:ak}(f:SameB b c)(h:ad)(m n:Int):zdd h m (zfa b n)=zdd h m (zfa c n)/\zgY b n=zgY c n:=by obtain⟨a,d,e⟩:=z16 f n;exact⟨back_eq a d,e⟩
@[simp] abbrev zuA (h:ad)(m:Int)(n:Int):Bool:=pc (zcR h)
def zx1:Run:=rF3 dH dI dI λb c d=>(zuA b c d,[aH<|zlj b c d,aB<|zlk b c d])
def zBI (N:Nat)(e:ad)(b d:Int):OA:=
 let a:=zx e;let c:=ix a.aa b zi; (oN (zbh e)<|oN (zf3 a b)<|cond (nB<|zf2 a b) (some [aH a,aB false])<|oN (inb b<|ln a.aa)<|oN (zfc c)<|oN (zh4 (zbQ c) d)<|oN (zfb a b<|zfa (zbQ c) d)<|some [aH<|zhF a b<|zfa (zbQ c) d,aB<|zgY (zbQ c) d])
def zNE (a:ad)(c d:Int)(k:zuA a c d=true):∃N,zBI N a c d=some [aH<|zlj a c d,aB<|zlk a c d]:=by
 have f:=(zU a).1 (zT.1 k);refine⟨0,?_⟩;have g:=znM (h:=a) (m:=c) (cB:=zh4 (zc5<|ix a.aa c mZ) d) (B:=zfa (zc5<|ix a.aa c mZ) d) (o0:=λH=>[.agg<|zbn H,.one<|.b false]) (o1:=λH=>[.agg<|zbn H,.one<|.b<|zgY (zc5<|ix a.aa c mZ) d]) f
  (λe=>zY (zfm<|f.2.1.2 _<|zbF (zcJ.1 e).2 _)) (λe=>zUI _ (zfm<|f.2.1.2 _<|zbF (zcJ.1 e).2 _))
 refine(show zBI 0 a c d=_ from g).trans ?_;unfold zlj zlk zid zg7;cases e:zc0 a c;{rfl};{obtain⟨i,j⟩:=z2p (zjE e<|zn6 e) a c d;simp only[cT];exact ztg i j}
def zHs:vT 148 zx1:=kF3 zjB zJ zci zdk (zA []) zNE
def zXx {b:ak}(a:SmB b):SmB (ze9 b):=z4O a
def z4I {b c:ak}(g:SameB b c)(h:ad)(m:Int):zdd h m (ze9 b)=zdd h m (ze9 c)/\zgF b=zgF c/\zgG b=zgG c:=by obtain⟨a,d,e,f⟩:=z2T g;exact⟨back_eq a d,e,f⟩
def zAC:Run:=rF2 dH dI λb c=>(zek b c,[aH<|zmE b c,aI<|zmF b c,aB<|zmG b c])
def zFp (N:Nat)(d:ad)(b:Int):OA:=
 let a:=zx d;let c:=ix a.aa b zi; (oN (zbh d)<|oN (zf3 a b)<|cond (nB<|zf2 a b) (some [aH a,aI<|-1,aB false])<|oN (inb b<|ln a.aa)<|oN (zfc c)<|oN (zdN<|zbQ c)<|oN (zfb a b<|ze9<|zbQ c)<|some [aH<|zhF a b<|ze9<|zbQ c,aI<|zgF<|zbQ c,aB<|zgG<|zbQ c])
def zQL (a:ad)(c:Int)(l:zek a c=true):∃N,zFp N a c=some [aH<|zmE a c,aI<|zmF a c,aB<|zmG a c]:=by
 have e:=(zU a).1 (zT.1 l);refine⟨0,?_⟩;have f:=znM (h:=a) (m:=c) (cB:=zdN (zc5<|ix a.aa c mZ)) (B:=ze9 (zc5<|ix a.aa c mZ)) (o0:=λH=>[.agg<|zbn H,.one<|.i .i64<|-1,.one<|.b false]) (o1:=λH=>[.agg<|zbn H,.one<|.i .i64<|zgF<|zc5<|ix a.aa c mZ,.one<|.b<|zgG<|zc5<|ix a.aa c mZ]) e
  (λd=>zY (zfm<|e.2.1.2 _<|zbF (zcJ.1 d).2 _)) (λd=>zXx (zfm<|e.2.1.2 _<|zbF (zcJ.1 d).2 _))
 refine(show zFp 0 a c=_ from f).trans ?_;unfold zmE zmF zmG zid zg7;cases d:zc0 a c;{rfl};{obtain⟨g,j,k⟩:=z4I (zjE d<|zn6 d) a c;simp only[cT];exact z7A g j k}
def zJV:vT 149 zAC:=kF2 zjB zJ zci zdk (zA []) zQL
def z0w:zW:=[(141,zAG),(143,zum),(144,zuo),(145,zun),(146,zAD),(148,zx1),(149,zAC)]++z0v
def zva:zL z0w:=zh zJZ (zh zCz<|zh zCB<|zh zCA<|zh zJW<|zh zHs<|zh zJV zjB)
def zj8 (h:ad)(m t:Int):ad:=bif zcj h then (cond (i0 m<|ln h.aa) (cond (zl t 0 3) {h with aa:=up h.aa m {ix h.aa m mZ with aq:=t}} h) h) else h
def zzM (h:ad)(m t:Int):Bool:=bif zcj h then (cond (i0 m<|ln h.aa) (zl t 0 3) false) else false
@[simp] abbrev zuD (h:ad)(m t:Int):Bool:=pc (zcR h)
@[simp] abbrev zo4 (h:ad)(m t:Int):ad:=zj8 h m t
@[simp] abbrev zo5 (h:ad)(m t:Int):Bool:=zzM h m t
def zx4:Run:=rF3 dH dI dI λb c d=>(zuD b c d,[aH<|zo4 b c d,aB<|zo5 b c d])
def zBP (N:Nat)(d:ad)(b c:Int):OA:=
 let a:=zx d; (oN (zbh d)<|oN (zfX a)<|cond (nB<|zfW a) (some [aH a,aB false])<|oN (zQ b 0<|wsub .i64 (ln a.aa) 1)<|cond (nB<|zl b 0<|wsub .i64 (ln a.aa) 1) (some [aH a,aB false])<|oN (zQ c 0 3)<|cond (nB<|zl c 0 3) (some [aH a,aB false])<|oN (inb b<|ln a.aa)<|p0 (up a.aa b ({ (ix a.aa b zi) with aq:=c}:Mon)) λe=>some [aH ({a with aa:=e}:ad),aB true])
def zNL (a:ad)(b c:Int)(d:zuD a b c=true):∃N,zBP N a b c=some [aH<|zo4 a b c,aB<|zo5 a b c]:=by
 have g:=(zU a).1 (zT.1 d);refine⟨0,?_⟩;unfold zBP zo4 zo5 zj8 zzM oN nB;conv=>zeta
 refine j0 d (j0 rfl ?_);rw[show zfW (zx a)=zcj a from rfl];cases e:zcj a;{rfl};{refine zcs rfl (j0 rfl ?_);rw[show zl b 0 (wsub .i64 (ln (zx a).aa) 1)=i0 b (ln a.aa) from zOE e b];cases f:i0 b (ln a.aa);{rfl};{refine zcs rfl (j0 rfl ?_);rw[show zl c 0 3=zl c 0 3 from rfl];cases h:zl c 0 3;{rfl};{exact zcs rfl (j0 (zG f) rfl)}}}
def zHz:vT 330 zx4:=kF3 zva zJ zci zdk (zA []) zNL
def zkF {h:ad}{m p:Int}:(zcH h m p=true)↔zcj h=true/\i0 m (ln h.aa)=true/\i0 p 8=true:=by unfold zcH;cases zcj h<;>cases i0 m (ln h.aa)<;>simp
def zkU (h:ad)(m p:Int):Bool:=ieq (ix (ix h.aa m mZ).ae p sZ).af (-1)
def zp6 (h:ad)(m p:Int):ad:=bif zcH h m p then (cond (zkU h m p) h<|zdK h m p) else h
def zCZ (h:ad)(m p:Int):Bool:=bif zcH h m p then !zkU h m p else false
def zt8 (h:ad)(m p:Int):ad:=bif zcH h m p then (cond (zkU h m p) (fetched h m p) h) else h
def zH7 (h:ad)(m p:Int):Bool:=bif zcH h m p then zkU h m p else false
@[simp] abbrev zq7 (h:ad)(m p:Int):ad:=zp6 h m p
@[simp] abbrev zq8 (h:ad)(m p:Int):Bool:=zCZ h m p
@[simp] abbrev zs5 (h:ad)(m p:Int):ad:=zt8 h m p
@[simp] abbrev zs6 (h:ad)(m p:Int):Bool:=zH7 h m p
def zK5 {h:ad}(f:SmH h)(c:zcj h=true){m p:Int}(d:i0 m (ln h.aa)=true)(e:i0 p 8=true) :
 (cond (ieq (ix (ix h.aa m mZ).ae p sZ).af<|-1) (ieq (ix (ix h.aa m mZ).ae p sZ).aj 0) false)=zkU h m p:=by
 have a:=(zsU (zhx c _<|zbF d mZ) e).no;unfold zdh at a;unfold zkU;rw[<- a];cases b:ieq (ix (ix h.aa m mZ).ae p sZ).af (-1)<;>simp [z0,b]
def zPR {h:ad}(d:SmH h)(a:zcj h=true){m p:Int}(b:i0 m (ln h.aa)=true)(c:i0 p 8=true):inb p (ln (ix h.aa m mZ).ae)=true :=
 zG (by rw[ln,((zfM d a).1.2 _ (zbF b mZ)).1];exact c)
def zAK:Run:=rF3 dH dI dI λb c d=>(ziB b c d,[aH<|zq7 b c d,aB<|zq8 b c d])
def zFy (N:Nat)(e:ad)(c b:Int):OA:=
 let a:=zx e;let d:=(ix a.aa c zi).ae; (oN (zbh e)<|oN (zn2 a c b)<|cond (nB<|zgb a c b) (some [aH a,aB false])<|oN (inb c<|ln a.aa)<|oN (inb b<|ln d)<|oN zb3<|cond (cond (ieq (ix d b zbe).af zbo.af) (ieq (ix d b zbe).aj zbo.aj) false) (some [aH a,aB false])<|oN (zj7 a c b)<|some [aH<|znG a c b,aB true])
def zQV (a:ad)(b c:Int)(h:ziB a b c=true):∃N,zFy N a b c=some [aH<|zq7 a b c,aB<|zq8 a b c]:=by
 have g:=(zU a).1 (zT.1 h);refine⟨0,?_⟩;unfold zFy zq7 zq8 zp6 zCZ oN nB;conv=>zeta
 refine j0 h (j0 rfl ?_);rw[show zgb (zx a) b c=zcH a b c from rfl];cases i:zcH a b c;{rfl};{obtain⟨e,d,f⟩:=zkF.1 i;refine zcs rfl (j0 (zG d)<|j0 (zPR g e d f) (j0 rfl ?_));rw[show (cond (ieq (ix (ix (zx a).aa b zi).ae c zbe).af zbo.af) (ieq (ix (ix (zx a).aa b zi).ae c zbe).aj zbo.aj) false)=zkU a b c from zK5 g e d f];cases j:zkU a b c;{exact zcs rfl (j0 (zY ⟨(zfM g e).1,d,f⟩) rfl)};{rfl}}
def zJ3:vT 327 zAK:=kF3 zva zJ zci zdk (zA []) zQV
def zDf:Run:=rF3 dH dI dI λb c d=>(ziB b c d,[aH<|zs5 b c d,aB<|zs6 b c d])
def zIY (N:Nat)(e:ad)(c b:Int):OA:=
 let a:=zx e;let d:=(ix a.aa c zi).ae; (oN (zbh e)<|oN (zn2 a c b)<|cond (nB<|zgb a c b) (some [aH a,aB false])<|oN (inb c<|ln a.aa)<|oN (inb b<|ln d)<|oN zb3<|cond (nB<|cond (ieq (ix d b zbe).af zbo.af) (ieq (ix d b zbe).aj zbo.aj) false) (some [aH a,aB false])<|oN (zlI a c b)<|some [aH<|zmq a c b,aB true])
def zTx (a:ad)(b c:Int)(h:ziB a b c=true):∃N,zIY N a b c=some [aH<|zs5 a b c,aB<|zs6 a b c]:=by
 have g:=(zU a).1 (zT.1 h);refine⟨0,?_⟩;unfold zIY zs5 zs6 zt8 zH7 oN nB;conv=>zeta
 refine j0 h (j0 rfl ?_);rw[show zgb (zx a) b c=zcH a b c from rfl];cases i:zcH a b c;{rfl};{obtain⟨e,d,f⟩:=zkF.1 i;refine zcs rfl (j0 (zG d)<|j0 (zPR g e d f) (j0 rfl ?_));rw[show (cond (ieq (ix (ix (zx a).aa b zi).ae c zbe).af zbo.af) (ieq (ix (ix (zx a).aa b zi).ae c zbe).aj zbo.aj) false)=zkU a b c from zK5 g e d f];cases j:zkU a b c;{rfl};{exact zcs rfl (j0 (zY ⟨zfM g e,d,f⟩) rfl)}}
def zMS:vT 328 zDf:=kF3 zva zJ zci zdk (zA []) zTx
def z0x:zW:=[(330,zx4),(327,zAK),(328,zDf)]++z0w
def zPj:zL z0x:=zh zHz (zh zJ3<|zh zMS zva)
def zZN {x:Mon}{b:ak}(h:zfH x)(a:zk2 b.ac):zfH (zu3 x b):=⟨h.1,h.2.1,h.2.2.1,a,h.2.2.2.2⟩
def zIs {h:ad}{m:Int}{b:ak}(a:SmH h)(d:i0 m (ln h.aa)=true)(c:zk2 b.ac):SmH (zdd h m b):=
 ⟨a.1,zjF a.2.1<|zZN (a.2.1.2 _<|zbF d _) c,a.2.2⟩
def zSc {h:ad}{m:Int}(b:ak)(a:i0 m (ln h.aa)=true):i0 m (ln (zdd h m b).aa)=true:=by show i0 m (ln<|up h.aa m _)=true;rw[ln,zhp];exact a
def z7q {h:ad}{m:Int}(b:ak)(c:i0 m (ln h.aa)=true):ix (zdd h m b).aa m mZ=zu3 (ix h.aa m mZ) b:=by obtain⟨k,rfl,a⟩:=zdW (n:=h.aa.length) c;exact zd8 a _ _
def zCk (h:ad)(m g p:Int):ad:=⟨h.ag,up h.aa m {ix h.aa m mZ with am:=up (ix h.aa m mZ).am g (zbX (ix (ix h.aa m mZ).am g kZ) p)},zcS h.ao (zfh m g) p,zcS h.an (zfh m g) p⟩
def z07 (H:ad)(m g p:Int)(o:ad->Ans):OA:=
 bif inb m (ln H.aa) then (bif inb m (ln H.aa) then (bif inb g (ln (ix H.aa m mZ).am) then (bif zds (ix (ix H.aa m mZ).am g kZ) p then (bif inb g (ln (ix H.aa m mZ).am) then (p0 (up H.aa m {ix H.aa m mZ with am:=up (ix H.aa m mZ).am g (zbX (ix (ix H.aa m mZ).am g kZ) p)}) λx=>
  (cond (zlA m g) (cond (zhj H.ao (zfh m g) p) (cond (zlA m g) (cond (zhj H.an (zfh m g) p) (some<|o ⟨H.ag,x,zcS H.ao (zfh m g) p,zcS H.an (zfh m g) p⟩) none) none) none) none)) else none) else none) else none) else none) else none
def z08 {H:ad}{m g p:Int}{o:ad->Ans}(b:SmH H)(a:i0 m (ln H.aa)=true)(hg:i0 g (ln (ix H.aa m mZ).am)=true):z07 H m g p o=some (o<|zCk H m g p):=by have c:=b.2.1.2 _ (zbF a mZ);unfold z07;exact j0 (zG a) (j0 (zG a)<|j0 (zG hg)<|j0 (zY<|c.2.2.2.2.2.2 _<|zbF hg _)<|j0 (zG hg)<|shr (j0 rfl (j0 (zY b.2.2.1) (j0 rfl (j0 (zY b.2.2.2) rfl)))))
def zle (h:ad)(m g p:Int):ad:=bif zc0 h m then (cond (zcl (zK h m) g<|i0 p 4) (zCk (zdd h m<|chg (zK h m) g (i0 p 4)<|zd4 (gAt (zK h m) g) p) m g p) h) else h
@[simp] abbrev zst (h:ad)(m g p:Int):Bool:=pc (zcR h)
@[simp] abbrev znf (h:ad)(m g p:Int):ad:=zle h m g p
def zWG {h:ad}{m:Int}(a:i0 m (ln h.aa)=true):(zK h m).ac=(ix h.aa m mZ).ac:=by unfold zK;rw[a];rfl
def zPx {h:ad}{m g:Int}{k:Bool}(i:SmH h)(e:zc0 h m=true)(b:ak)(a:zcl (zK h m) g k=true):i0 g (ln (ix (zdd h m b).aa m mZ).am)=true:=by obtain⟨f,c⟩:=zcJ.1 e;rw[z7q b c];show i0 g (ln (ix h.aa m mZ).am)=true;rw[ln,((zfM i f).1.2 _ (zbF c mZ)).2.2.2,<- zWG c];unfold zcl at a;cases d:zch (zK h m) g;{rw [d]at a;cases a};{exact(zdM.1 d).2}
def zvR:Run:=rF4 dH dI dI dI λb c d e=>(zst b c d e,[aH<|znf b c d e,aB<|zki b c d e])
def zAb (N:Nat)(i:ad)(a b c:Int):OA:=
 let h:=ztq a b;let e:=zx i;let g:=ix e.aa a zi;let d:=zhF e a<|zff (zbQ g) b c;let f:=ix d.aa a zi;let j:=ix f.am b zhq; (oN (zbh i)<|oN (zf3 e a)<|cond (nB<|zf2 e a) (some [aH e,aB false])<|oN (inb a<|ln e.aa)<|oN (zfc g)<|oN (zss (zbQ g) b c)<|cond (nB<|zim (zbQ g) b c) (some [aH e,aB false])<|oN (zfb e a<|zff (zbQ g) b c)<|oN (inb a<|ln d.aa)<|oN (inb a<|ln d.aa)<|oN (inb b<|ln f.am)<|oN (zds j c)<|oN (inb b<|ln f.am)<|p0 (up d.aa a ({f with am:=(up f.am b<|zhk j c)}:Mon)) λk=>oN (zlA a b)<|oN (zhj d.ao h c)<|oN (zlA a b)<|oN (zhj d.an h c)<|some [aH (⟨d.ag,k,zmP d.ao h c,zmP d.an h c⟩:ad),aB true])
def zKW (a:ad)(c d e:Int)(j:zb5 big [aH a,aI c,aI d,aI e])(q:zst a c d e=true):∃N,zAb N a c d e=some [aH<|znf a c d e,aB<|zki a c d e]:=by
 have k:=(zU a).1 (zT.1 q);refine⟨0,?_⟩;unfold zAb znf zki zle zg7 oN nB;conv=>zeta
 refine j0 q (j0 rfl ?_);rw[show zf2 (zx a) c=zc0 a c from rfl];cases h:zc0 a c;{rfl};{obtain⟨v,f⟩:=zcJ.1 h;have r:=k.2.1.2 _ (zbF f mZ);have l:=zfm r;have i:=zjE h (zn6 h);have u:zcl (zc5<|ix a.aa c mZ) d (i0 e 4)=zcl (zK a c) d (i0 e 4):=zlU i _ _;have s:zdd a c (zff (zc5<|ix a.aa c mZ) d e)=zdd a c (chg (zK a c) d (i0 e 4)<|zd4 (gAt (zK a c) d) e):=(by rw[<- i.at];exact zpO i _ _ _ _ _);refine zcs rfl (j0 (zG f)<|j0 (zY r)<|j0 (zY l) ?_);rw[show zim (zbQ<|ix (zx a).aa c zi) d e=zcl (zK a c) d (i0 e 4) from u];cases t:zcl (zK a c) d (i0 e 4);{rfl};{have j:SmB (zff (zc5<|ix a.aa c mZ) d e):=zqA l (zLG _<|zkw _ l);refine zcs rfl (j0 (zY ⟨f,j.2.1⟩) ?_);have n:=z08 (H:=zdd a c (zff (zc5<|ix a.aa c mZ) d e)) (m:=c) (g:=d) (p:=e) (o:=λH=>[.agg<|zbn H,.one<|.b true]) (zIs k f j.2.1) (zSc _ f) (zPx k h _ t);refine(show _=_ from n).trans ?_;rw[s];rfl}}
def zEA:vT 142 zvR:=hF4 zPj zJ zci zdk (zA []) zKW
def z0y:zW:=[(142,zvR)]++z0x
def zPk:zL z0y:=zh zEA zPj
def zUk (h:ad)(m p c v:Int):ad:={C0 h m p 2 with ag:=zbO (C0 h m p 2).ag (ix (ix (C0 h m p 2).aa m mZ).ae p sZ).af c v}
def zfN (h:ad)(m p c v:Int):Bool:=bif zcH h m p then (cond (i0 c 4) (zl v 0 99) false) else false
def znv (h:ad)(m p c v:Int):ad:=bif zfN h m p c v then zUk h m p c v else h
@[simp] abbrev zuz (h:ad)(m p c v:Int):Bool:=pc (zcR h)
@[simp] abbrev zoX (h:ad)(m p c v:Int):ad:=znv h m p c v
@[simp] abbrev zoY (h:ad)(m p c v:Int):Bool:=zfN h m p c v
def z7c (H:ad)(m p c v:Int)(o:ad->Ans):OA:=
 bif pc (zR5 H m p 2) then (cond (inb m<|ln (C0 H m p 2).aa) (cond (inb p<|ln (ix (C0 H m p 2).aa m mZ).ae) (cond (pc<|SmM (C0 H m p 2).ag) (some<|o<|zUk H m p c v) none) none) none) else none
def z4A {h:ad}{m p c v:Int}{o:ad->Ans}(j:SmH h)(i:zcH h m p=true):z7c h m p c v o=some (o<|zUk h m p c v):=by obtain⟨g,b,a⟩:=zkF.1 i;have f:=zfM j g;obtain⟨d,e⟩:=zuJ (n:=2) f b a;unfold z7c;refine j0 (zY ⟨f,b,a,.inr (.inl rfl),zsU (zhx g _<|zbF b mZ) a⟩) (j0 (zG e)<|j0 (zG ?_) (j0 (zY d.1.1) rfl));rw[ln,(d.2 _<|zbF e mZ).1];exact a
def zx0:Run:=rF5 dH dI dI dI dI λb c d e f=>(zuz b c d e f,[aH<|zoX b c d e f,aB<|zoY b c d e f])
def zBH (N:Nat)(g:ad)(b c:Int)(e f:Int):OA:=
 let a:=zx g;let d:=ziH a b c 2;let h:=(ix d.aa b zi).ae;let i:=(ix h c zbe).af; (oN (zbh g)<|oN (zn2 a b c)<|cond (nB<|zgb a b c) (some [aH a,aB false])<|oN (zQ e 0 3)<|cond (nB<|zl e 0 3) (some [aH a,aB false])<|oN (zQ f 0 99)<|cond (nB<|zl f 0 99) (some [aH a,aB false])<|oN (zkM a b c 2)<|oN (inb b<|ln d.aa)<|oN (inb c<|ln h)<|oN (zlB d.ag i e f)<|some [aH ({d with ag:=(zjZ d.ag i e f)}:ad),aB true])
def zND (d:ad)(f g:Int)(a e:Int)(i:zuz d f g a e=true):∃N,zBH N d f g a e=some [aH<|zoX d f g a e,aB<|zoY d f g a e]:=by
 have k:=(zU d).1 (zT.1 i);refine⟨0,?_⟩;unfold zBH zoX zoY znv zfN oN nB;conv=>zeta
 refine j0 i (j0 rfl ?_);rw[show zgb (zx d) f g=zcH d f g from rfl];cases j:zcH d f g;{rfl};{refine zcs rfl (j0 rfl ?_);rw[show zl a 0 3=i0 a 4 from zbac a];cases l:i0 a 4;{rfl};{refine zcs rfl (j0 rfl ?_);rw[show zl e 0 99=zl e 0 99 from rfl];cases m:zl e 0 99;{rfl};{have h:=z4A (c:=a) (v:=e) (o:=λH=>[.agg<|zbn H,.one<|.b true]) k j;exact zcs rfl (show _=_ from h)}}}
def zHr:vT 147 zx0:=kF5 zPk zJ zci zdk (zA []) zND
def z0z:zW:=[(147,zx0)]++z0y
def z0A:zL z0z:=zh zHr zPk
def z0B:zW:=z0z
def zCc:zL z0B:=z0A
def z1C (h:ad)(b:List ar)(m g c a:Int)(e:Bool):(lookOf h b m g c a e).2.2=zca h m g c a:=by cases d:zca h m g c a;{rw [znS d]};{rw [zTR d];unfold ziw zix;generalize zik b m g c a=x;cases x;{generalize zfv _ m g c a=y;cases y<;>rfl};{rfl}}
def z8q {h:ad}{m g c a:Int}(b:List ar)(i:Bool)(f:SmH h)(d:zca h m g c a=true):SmM (lookOf h b m g c a i).1.ag:=by have hg:zb1 h m g=true:=(by unfold zca at d;cases e:zb1 h m g;{rw [e]at d;cases d};{rfl});exact(zxx f hg).shape.1.1
def zCI (h:ad)(m g a n:Int):ad×Int×Bool:=lookOf h h.an m g (zbi a) n true
def zhw (h:ad)(m g a v:Int):Bool:=bif zl a 0 15 then (cond (zl v 0 99) (zca h m g (zbi a) 2) false) else false
def zp1 (h:ad)(m g a v:Int):ad:=bif zhw h m g a v then { (zCI h m g a 2).1 with ag:=zbO (zCI h m g a 2).1.ag (zCI h m g a 2).2.1 (zdi a) v} else h
def zgB (h:ad)(m g a:Int):Bool:=bif zl a 0 15 then zca h m g (zbi a) 1 else false
def znw (h:ad)(m g a:Int):ad:=bif zgB h m g a then (zCI h m g a 1).1 else h
def zrM (h:ad)(m g a:Int):Int:=bif zgB h m g a then cellAt (zCI h m g a 1).1.ag (zCI h m g a 1).2.1 (zdi a) else 0
@[simp] abbrev zwK (h:ad)(m g a v:Int):Bool:=pc (zcR h)
@[simp] abbrev zq4 (h:ad)(m g a v:Int):ad:=zp1 h m g a v
@[simp] abbrev zq5 (h:ad)(m g a v:Int):Bool:=zhw h m g a v
@[simp] abbrev zuB (h:ad)(m g a:Int):Bool:=pc (zcR h)
@[simp] abbrev zoZ (h:ad)(m g a:Int):ad:=znw h m g a
@[simp] abbrev zo0 (h:ad)(m g a:Int):Int:=zrM h m g a
@[simp] abbrev zo1 (h:ad)(m g a:Int):Bool:=zgB h m g a
def zAE:Run:=rF5 dH dI dI dI dI λb c d e f=>(zwK b c d e f,[aH<|zq4 b c d e f,aB<|zq5 b c d e f])
def zFs (N:Nat)(g:ad)(c d:Int)(a e:Int):OA:=
 let b:=zx g;let h:=zkO b b.an c d (zc1 a) 2 true;let f:=zfF b b.an c d (zc1 a) 2 true; (oN (zbh g)<|oN (zQ a 0 15)<|cond (nB<|zl a 0 15) (some [aH b,aB false])<|oN (zQ e 0 99)<|cond (nB<|zl e 0 99) (some [aH b,aB false])<|oN (zdq a)<|oN (zkP b b.an c d (zc1 a) 2 true)<|cond (nB<|zhE b b.an c d (zc1 a) 2 true) (some [aH f,aB false])<|oN (zdq a)<|oN (zlB f.ag h (zeG a) e)<|some [aH ({f with ag:=(zjZ f.ag h (zeG a) e)}:ad),aB true])
def zQO (a:ad)(c d:Int)(b e:Int)(f:zwK a c d b e=true):∃N,zFs N a c d b e=some [aH<|zq4 a c d b e,aB<|zq5 a c d b e]:=by
 have h:=(zU a).1 (zT.1 f);refine⟨0,?_⟩;unfold zFs zq4 zq5 zp1 zhw oN nB;conv=>zeta
 refine j0 f (j0 rfl ?_);rw[show zl b 0 15=zl b 0 15 from rfl];cases i:zl b 0 15;{rfl};{refine zcs rfl (j0 rfl ?_);rw[show zl e 0 99=zl e 0 99 from rfl];cases j:zl e 0 99;{rfl};{refine zcs rfl (j0 rfl (j0 f ?_));rw[show zhE (zx a) (zx a).an c d (zc1 b) 2 true=zca a c d (zbi b) 2 from z1C _ _ _ _ _ _ _];cases g:zca a c d (zbi b) 2;{rw [show zfF (zx a) (zx a).an c d (zc1 b) 2 true=a from congrArg Prod.fst (znS g)];rfl};{exact zcs rfl (j0 rfl (j0 (zY<|z8q a.an true h g) rfl))}}}
def zJX:vT 150 zAE:=kF5 zCc zJ zci zdk (zA []) zQO
def zx2:Run:=rF4 dH dI dI dI λb c d e=>(zuB b c d e,[aH<|zoZ b c d e,aI<|zo0 b c d e,aB<|zo1 b c d e])
def zBJ (N:Nat)(f:ad)(c d a:Int):OA:=
 let b:=zx f;let g:=zkO b b.an c d (zc1 a) 1 true;let e:=zfF b b.an c d (zc1 a) 1 true; (oN (zbh f)<|oN (zQ a 0 15)<|cond (nB<|zl a 0 15) (some [aH b,aI 0,aB false])<|oN (zdq a)<|oN (zkP b b.an c d (zc1 a) 1 true)<|cond (nB<|zhE b b.an c d (zc1 a) 1 true) (some [aH e,aI 0,aB false])<|oN (zdq a)<|oN (ziE e.ag g<|zeG a)<|some [aH e,aI<|znB e.ag g<|zeG a,aB true])
def zNF (a:ad)(c d b:Int)(e:zuB a c d b=true):∃N,zBJ N a c d b=some [aH<|zoZ a c d b,aI<|zo0 a c d b,aB<|zo1 a c d b]:=by
 have h:=(zU a).1 (zT.1 e);refine⟨0,?_⟩;unfold zBJ zoZ zo0 zo1 znw zrM zgB oN nB;conv=>zeta
 refine j0 e (j0 rfl ?_);rw[show zl b 0 15=zl b 0 15 from rfl];cases g:zl b 0 15;{rfl};{refine zcs rfl (j0 rfl (j0 e ?_));rw[show zhE (zx a) (zx a).an c d (zc1 b) 1 true=zca a c d (zbi b) 1 from z1C _ _ _ _ _ _ _];cases f:zca a c d (zbi b) 1;{rw [show zfF (zx a) (zx a).an c d (zc1 b) 1 true=a from congrArg Prod.fst (znS f)];rfl};{exact zcs rfl (j0 rfl (j0 rfl rfl))}}
def zHt:vT 151 zx2:=kF4 zCc zJ zci zdk (zA []) zNF
def z0C:zW:=[(150,zAE),(151,zx2)]++z0B
def z0D:zL z0C:=zh zJX (zh zHt zCc)
def z0E:zW:=[(196,zqk),(197,zl8)]++z0C
def zPl:zL z0E:=zh ztY (zh znu z0D)
def zkC:az:=⟨rp 4 false,zlL⟩
@[simp] abbrev zwO (n:Int):Bool:=ieq n 4
@[simp] abbrev zv3 (n:Int):az:=zkC
def zAI:Run:=rF1 dI λb=>(zwO b,[aT .kept<|zv3 b])
def zVu (N:Nat)(b:Int):OA:=
 let a:=ln<|zhu b; (oN (zjq b)<|oN (cond (few a) (ieq a a) false)<|some [aT .kept (⟨rp a false,zhu b⟩:az)])
def zQS (a:Int)(b:zwO a=true):∃N,zVu N a=some [aT .kept<|zv3 a]:=by refine⟨0,?_⟩;have h:a=4:=qF b;subst h;change _=_;kernel_rfl
def zJ1:vT 198 zAI:=kF1 zPl zJ zci zdk (zA []) zQS
def z0F:zW:=[(198,zAI)]++z0E
def zPm:zL z0F:=zh zJ1 zPl
def zuK:List k0:=List.replicate 8 ⟨-1,0⟩
def zho (a:List (List Ins)):Mon:=⟨zuK,zNX,rp 8 false,(a.take 2).map zfj,[],0,0,(a.take 2).map λ_=>zkC,0⟩
def zK1 {d a b q:Type}(m:Nat)(f:d->a)(g:d->b)(K:List a×List b->Option q):∀(l:List d) (i:Nat) (u:List a×List b),u.1.length+l.length<=2147483648->u.2.length+l.length<=2147483648->
 goL (λ(i:Nat) x (u:List a×List b) k=>bif ilt (i:Int) (m:Int) then (cond (few<|ln<|ap u.1 [f x]) (cond (few<|ln<|ap u.2 [g x]) (k (ap u.1 [f x],ap u.2 [g x])) none) none) else K u) K l i u=K (u.1++(l.take<|m-i).map f,u.2++(l.take<|m-i).map g)
 |[],i,u,_,_=>by simp[goL]
 |x::l,i,u,n,p=>by simp only[qX]at n p;have e:few (ln<|ap u.1 [f x])=true:=zhn (by simp[ap];omega);have j:few (ln<|ap u.2 [g x])=true:=zhn (by simp[ap];omega);by_cases h:i<m;{have c:ilt (i:Int) (m:Int)=true:=qM (by omega);simp only[goL,c,e,j,cT];rw[zK1 m f g K l (i+1) _ (by simp[ap];omega) (by simp[ap];omega)];rw[show m-i=m-(i+1)+1 by omega];simp[ap]};{have c:ilt (i:Int) (m:Int)=false:=qT (by omega);simp only[goL,c,cF];rw[show m-i=0 by omega];simp}
def z1J (u:List ah×List az):OA:=some [AV.agg<|Ty.cells .mon (⟨zuK,zNX,rp 8 false,u.1,[],0,0,u.2,0⟩:Mon)]
@[simp] abbrev zs3 (a:List (List Ins)):Bool:=pc (z9h a)
@[simp] abbrev zIm (a:List (List Ins)):Mon:=zho a
def zDd:Run:=rF1 (dS<|.sl .ins) λb=>(zs3 b,[aT .mon<|zIm b])
def zIV (N:Nat)(k:lP):OA:=
 (oN (zjq 8)<|oN (zo2 8)<|oN (cond (few 8) (ieq 8 8) false)<|iter (σ:=(Int×Int×Int×Int×Int×Int×Int×lP×lS×lM×lB×lG×LI×lK×lS×lM×lB×lG×LI×lK×Unit)) N (λl a=>let k:=a.2.2.2.2.2.2.2.2.2;let m:=k.2.2.2.2.2;let j:=m.1;let i:=m.2.1;let h:=m.2.2.1;let g:=m.2.2.2.1;let f:=m.2.2.2.2.1;let b:=a.2.2.2.2.2.2.2.1;let c:=m.2.2.2.2.2.1;let e:=ap g [zcr<|ix b a.1 []];let d:=aT .mon (⟨j,i,h,g,f,a.2.2.2.2.1,a.2.2.2.2.2.1,c,a.2.2.2.2.2.2.1⟩:Mon); (cond (ilt a.1<|ln b) (cond (ilt a.1 2) (oN (inb a.1<|ln b)<|oN (zjn<|ix b a.1 [])<|oN (few<|ln e)<|oN (zwO 4)<|oN (few<|ln<|ap c [zv3 4])<|l (zM .i64 a.1 1,a.2.1,a.2.2.1,a.2.2.2.1,a.2.2.2.2.1,a.2.2.2.2.2.1,a.2.2.2.2.2.2.1,b,a.2.2.2.2.2.2.2.2.1,k.1,k.2.1,k.2.2.1,k.2.2.2.1,k.2.2.2.2.1,j,i,h,e,f,ap c [zv3 4],()))<|some [d])<|some [d])) (0,0,0,0,0,0,0,k,[],[],[],[],[],[],zhu 8,zjX 8,rp 8 false,[],[],[],()))
def zU8:=zA [(70,0,{n:=36,tm:=[(0,.sl 0 []),(2,.lp 0 0),(3,.lp 1 0),(4,ti)],lo:=[(0,[.sl 1 [],.sl 2 [],.sl 3 [],.sl 4 [],.sl 5 [],ti,ti,.sl 6 [],ti]),(1,[.sl 7 [],.sl 8 [],.sl 9 [],.sl 10 [],.sl 11 [],ti,ti,.sl 12 [],ti])],ro:=[(0,.sl .ins,false),(1,.slot,true),(2,.sl .int,true),(3,.bool,true),(4,.guest,true),(5,.int,true),(6,.kept,true),(7,.slot,true),(8,.sl .int,true),(9,.bool,true),(10,.guest,true),(11,.int,true),(12,.kept,true)]})]
def zTu (a:List lI)(f:zs3 a=true):∃N,zIV N a=some [aT .mon<|zIm a]:=by
 have e:=zT.1 f;have c:=zcO e.1;refine zcI λN d=>?_;unfold zIV oN;conv=>zeta
 refine j0 rfl (j0 rfl (j0 rfl ?_));refine(zbJ a (λi (t:lG×lK)=>((i:Int),0,0,0,0,0,0,a,[],[],[],[],[],[],zhu 8,zjX 8,rp 8 false,t.1,[],t.2,())) _ (λi (x:List Ins) (u:List ah×List az) h=>bif ilt (i:Int) ((2:Nat):Int) then (cond (few<|ln<|ap u.1 [zfj x]) (cond (few<|ln<|ap u.2 [zkC]) (h (ap u.1 [zfj x],ap u.2 [zkC])) none) none) else z1J u) (λ(t:lG×lK)=>some [.agg<|Ty.cells .mon (⟨zhu 8,zjX 8,rp 8 false,t.1,[],0,0,t.2,0⟩:Mon)]) (λi b t rec=>?_) (λt rec=>?_) _ ([],[])<|d c.1).trans ?_;{simp only [zbK b,zbc b,zbr b,zbx b c.1,cT];have g:zjn a[i]=true:=zY (e.2 _<|jM b);simp only[g,cT];rfl};{simp only [zbw,cF]};exact zK1 2 zfj (λ_=>zkC) z1J a 0 ([],[]) (by simpa using c.2) (by simpa using c.2)
def zMP:vT 70 zDd:=kF1 zPm zJ zci zdk zU8 zTu
def z0G:zW:=[(70,zDd)]++z0F
def zPn:zL z0G:=zh zMP zPm
def zYX:List LI:=List.replicate 12 [0,0,0,0]
def zf7 (a:List (List<|List Ins)):ad:=⟨zYX,(a.take 3).map zho,[],[]⟩
def zJf (a:List (List<|List Ins)):Prop:=a.length<=1048576/\∀p∈a,z9h p
@[simp] abbrev zwL (a:List (List<|List Ins)):Bool:=pc (zJf a)
@[simp] abbrev zhA (a:List (List<|List Ins)):ad:=zf7 a
def zXa (t:List Mon):OA:=some [AV.agg<|zbn ⟨zYX,t,[],[]⟩]
def zAF:Run:=rF1 (dS<|.sl<|.sl .ins) λb=>(zwL b,[aH<|zhA b])
def zFt (N:Nat)(d:lQ):OA:=
 (oN (zo2 12)<|iter (σ:=(Int×lQ×lM×lN×lE×lE×lM×lN×lE×lE×Unit)) N (λe a=>let d:=a.2.2.2.2.2.2;let c:=ap d.2.1 [zIm<|ix a.2.1 a.1 []];let b:=aH (⟨d.1,d.2.1,d.2.2.1,d.2.2.2.1⟩:ad); (cond (ilt a.1<|ln a.2.1) (cond (ilt a.1 3) (oN (inb a.1<|ln a.2.1)<|oN (zs3<|ix a.2.1 a.1 [])<|oN (few<|ln c)<|e (zM .i64 a.1 1,a.2.1,a.2.2.1,a.2.2.2.1,a.2.2.2.2.1,a.2.2.2.2.2.1,d.1,c,d.2.2.1,d.2.2.2.1,()))<|some [b])<|some [b])) (0,d,[],[],[],[],zjX 12,[],[],[],()))
def zRv:=zA [(62,0,{n:=28,tm:=[(0,.sl 0 []),(2,.lp 0 0),(3,.lp 1 0),(4,ti)],lo:=[(0,[.sl 1 [],.sl 2 [],.sl 3 [],.sl 4 []]),(1,[.sl 5 [],.sl 6 [],.sl 7 [],.sl 8 []])],ro:=[(0,.sl<|.sl .ins,false),(1,.sl .int,true),(2,.mon,true),(3,.entry,true),(4,.entry,true),(5,.sl .int,true),(6,.mon,true),(7,.entry,true),(8,.entry,true)]})]
def zQP (a:List lP)(f:zwL a=true):∃N,zFt N a=some [aH<|zhA a]:=by
 have e:=zT.1 f;have d:=zcO e.1;refine zcI λN c=>?_;unfold zFt oN;conv=>zeta
 refine j0 rfl ?_;refine(zbJ a (λi (t:lN)=>((i:Int),a,[],[],[],[],zjX 12,t,[],[],())) _ (λi (x:List lI) (t:List Mon) h=>bif ilt (i:Int) ((3:Nat):Int) then (cond (few<|ln<|ap t [zho x]) (h<|ap t [zho x]) none) else zXa t) (λ(t:lN)=>some [.agg<|zbn (⟨zjX 12,t,[],[]⟩:ad)]) (λi b t rec=>?_) (λt rec=>?_) _ ([])<|c d.1).trans ?_;{simp only [zbK b,zbc b,zbr b,zbx b d.1,cT];have g:zs3 a[i]=true:=zY (e.2 _<|jM b);simp only[g,cT];rfl};{simp only [zbw,cF]};exact zPK 3 zho zXa a 0 [] (by simpa using d.2)
def zJY:vT 62 zAF:=kF1 zPn zJ zci zdk zRv zQP
def z0H:zW:=[(62,zAF)]++z0G
def zPo:zL z0H:=zh zJY zPn
def zi7:Nat->Nat->az->az
 | 0,_,k=>k
 |n+1,i,k=>zi7 n (i+1) (zbX k (i:Int))
def zjL (k:az):az:=zi7 k.ay.length 0 k
def zYv (k:az)(p:Int):(zbX k p).ay.length=k.ay.length:=by unfold zbX;cases zdJ k p;{rfl};{exact zhp _ _ _}
def zwX:∀(n i:Nat) (k:az),SmK k->SmK (zi7 n i k)
 | 0,_,_,h=>h
 |n+1,i,k,h=>zwX n (i+1) _ (zpy h)
@[simp] abbrev zwI (k:az):az:=zjL k
def zvQ:Run:=rF1 (dT .kept) λb=>(ze6 b,[aT .kept<|zwI b])
def zAa (N:Nat)(c:az):OA:=
 (oN (zgN c)<|iter (σ:=(Int×lB×lS×lB×lS×Unit)) N (λd a=>let b:=(⟨a.2.1,a.2.2.1⟩:az); (cond (ilt a.1<|ln a.2.1) (oN (zds b a.1)<|d (zM .i64 a.1 1,(zhk b a.1).ay,(zhk b a.1).aC,a.2.2.2.1,a.2.2.2.2.1,()))<|some [aT .kept b])) (0,(zdD c).ay,(zdD c).aC,[],[],()))
def zL4:=zA [(178,0,{n:=17,tm:=[(1,.lp 0 0),(2,.lp 1 0),(3,ti)],lo:=[(0,[.sl 0 [],.sl 1 []]),(1,[.sl 2 [],.sl 3 []])],ro:=[(0,.bool,true),(1,.slot,true),(2,.bool,true),(3,.slot,true)]})]
def zKV (a:az)(g:ze6 a=true):∃N,zAa N a=some [aT .kept<|zwI a]:=by
 have d:=zT.1 g;have f:=zcO d.1;refine zcI λN c=>?_;unfold zAa oN;conv=>zeta
 refine j0 (zbH<|(zxf _).2 d) ?_;refine(zD5 a.ay.length (λi (k:az)=>((i:Int),k.ay,k.aC,[],[],())) _ (λi k=>SmK k/\k.ay.length=a.ay.length) (λi k=>some [AV.agg<|Ty.cells .kept<|zi7 (a.ay.length-i) i k]) (λi k rec e b h=>?_) (λk rec b=>?_) N 0 a ⟨d,rfl⟩ (kA _)<|c f.1).trans rfl;{refine j0 (zbK (by rw[b.2];exact e)) (j0 (zY b.1) ?_);have q:=h (zbX k (i:Int)) ⟨zpy b.1,by rw[zYv];exact b.2⟩;rw[show a.ay.length-i=a.ay.length-(i+1)+1 by omega];rw[zbx e f.1];exact q};{refine zcs (by show ilt (a.ay.length:Int) (ln k.ay)=false;rw[ln,b.2];exact qT (by omega)) ?_;rw[uE];rfl}
def zEz:vT 178 zvQ:=kF1 zPo zJ zci zdk zL4 zKV
def z0I:zW:=[(178,zvQ)]++z0H
def zPp:zL z0I:=zh zEz zPo
def zu5:Nat->Nat->List az->List az
 | 0,_,l=>l
 |n+1,j,l=>zu5 n (j+1) (up l (j:Int)<|zjL<|ix l (j:Int) kZ)
def zu6 (x:Mon)(n j:Nat):Mon:={x with am:=zu5 n j x.am}
def zof:Nat->Nat->List Mon->List Mon
 | 0,_,t=>t
 |n+1,i,t=>zof n (i+1) (up t (i:Int)<|zu6 (ix t (i:Int) mZ) (ix t (i:Int) mZ).am.length 0)
def cold (h:ad):ad:=⟨h.ag,zof h.aa.length 0 h.aa,[],[]⟩
def zLJ:∀(n j:Nat) (l:List az),j+n<=l.length->zBX l->zBX (zu5 n j l)
 | 0,_,_,_,h=>h
 |n+1,j,l,b,h=>by have a:j<l.length:=(by omega);refine zLJ n (j+1) _ (by rw[zhp];omega) (zyk h<|zwX _ _ _ ?_);rw[zbr a];exact h.2 _ (jM a)
def zLL {x:Mon}(h:zfH x){n j:Nat}(a:j+n<=x.am.length):zfH (zu6 x n j):=⟨h.1,h.2.1,h.2.2.1,h.2.2.2.1,h.2.2.2.2.1,zLJ n j _ a h.2.2.2.2.2⟩
@[simp] abbrev zur (h:ad):ad:=cold h
def zzA:Run:=rF1 dH λb=>(zbh b,[aH<|zur b])
def zRZ (N:Nat)(d:ad):OA:=
 (oN (zbh d)<|iter (σ:=(Int×lM×lN×lE×lE×lM×lN×lE×lE×Unit)) N (λg b=>cond (ilt b.1<|ln b.2.2.1) (iter (σ:=(Int×Int×lM×lN×lE×lE×lM×lN×lE×lE×Unit)) N (λh a=>let b:=a.2.2.2.2.2;let e:=inb a.1<|ln a.2.2.2.1;let c:=ix a.2.2.2.1 a.1 zi;let f:=ix c.am a.2.1 zhq; (oN e<|cond (ilt a.2.1<|ln c.am) (oN e<|oN e<|oN (inb a.2.1<|ln c.am)<|oN (ze6 f)<|oN (inb a.2.1<|ln c.am)<|p0 (up a.2.2.2.1 a.1 ({c with am:=(up c.am a.2.1<|zwI f)}:Mon)) λi=>h (a.1,zM .i64 a.2.1 1,a.2.2.1,i,a.2.2.2.2.1,b.1,b.2.1,b.2.2.1,b.2.2.2.1,b.2.2.2.2.1,()))<|g (zM .i64 a.1 1,a.2.2.1,a.2.2.2.1,a.2.2.2.2.1,b.1,b.2.1,b.2.2.1,b.2.2.2.1,b.2.2.2.2.1,()))) (b.1,0,b.2.1,b.2.2.1,b.2.2.2.1,b.2.2.2.2.1,b.2.2.2.2.2.1,b.2.2.2.2.2.2.1,b.2.2.2.2.2.2.2.1,b.2.2.2.2.2.2.2.2.1,()))<|some [aH (⟨b.2.1,b.2.2.1,[],[]⟩:ad)]) (0,(zx d).ag,(zx d).aa,(zx d).ao,(zx d).an,[],[],[],[],()))
def zZU:=zA [(58,0,{n:=48,tm:=[(1,.lp 0 0),(2,.lp 1 0),(3,ti)],lo:=[(0,[.sl 0 [],.sl 1 [],.sl 2 [],.sl 3 []]),(1,[.sl 4 [],.sl 5 [],.sl 6 [],.sl 7 []])],ro:=[(0,.sl .int,true),(1,.mon,true),(2,.entry,true),(3,.entry,true),(4,.sl .int,true),(5,.mon,true),(6,.entry,true),(7,.entry,true)]}),(58,2,{n:=48,tm:=[(1,.lp 0 0),(2,.lp 1 0),(3,ti),(4,ti)],lo:=[(0,[.sl 0 [],.sl 1 [],.sl 2 [],.sl 3 []]),(1,[.sl 4 [],.sl 5 [],.sl 6 [],.sl 7 []])],ro:=[(0,.sl .int,true),(1,.mon,true),(2,.entry,true),(3,.entry,true),(4,.sl .int,true),(5,.mon,true),(6,.entry,true),(7,.entry,true)]})]
def zYU (a:ad)(m:zbh a=true):∃N,zRZ N a=some [aH<|zur a]:=by
 have v:=(zU a).1 (zT.1 m);have s:=zcO v.2.1.1;refine zcI λN f=>?_;unfold zRZ oN;conv=>zeta
 refine j0 m ?_;refine(zD5 a.aa.length (λi (t:List Mon)=>((i:Int),a.ag,t,a.ao,a.an,[],[],[],[],())) _ (λi t=>zrx t/\t.length=a.aa.length) (λi t=>some [AV.agg<|zbn ⟨a.ag,zof (a.aa.length-i) i t,[],[]⟩]) (λi t rec n e x=>?_) (λt rec e=>?_) N 0 a.aa ⟨v.2.1,rfl⟩ (kA _)<|f s.1).trans rfl
 .have hit:i<t.length:=(by rw[e.2];exact n);have l:zfH (ix t (i:Int) mZ):=by rw[zbr hit];exact e.1.2 _ (jM hit)
  have r:=zcO l.2.2.2.2.2.1;refine j0 (zbK hit) ?_;refine(zD5 (ix t (i:Int) mZ).am.length (λj (u:List Mon)=>((i:Int),(j:Int),a.ag,u,a.ao,a.an,[],[],[],[],()))
   _ (λj u=>u.length=t.length/\zfH (ix u (i:Int) mZ)/\(ix u (i:Int) mZ).am.length=(ix t (i:Int) mZ).am.length)
   (λj u=>rec (((i+1:Nat):Int),a.ag,up u (i:Int)<|zu6 (ix u (i:Int) mZ) ((ix t (i:Int) mZ).am.length-j) j,a.ao,a.an,[],[],[],[],()))
   (λj u h p c k=>?_) (λu h c=>?_) N 0 t ⟨rfl,l,rfl⟩ (kA _) (f r.1)).trans ?_
  .have b:i<u.length:=(by rw[c.1];exact hit);have d:j<(ix u (i:Int) mZ).am.length:=(by rw[c.2.2];exact p);have g:SmK (ix (ix u (i:Int) mZ).am (j:Int) kZ):=by rw[zbr d];exact c.2.1.2.2.2.2.2.2 _ (jM d)
   refine j0 (zbc b) (j0 (zbK d)<|j0 (zbc b)<|j0 (zbc b)<|j0 (zbc d)<|j0 (zY g)<|j0 (zbc d)<|shr ?_);have w:zfH {ix u (i:Int) mZ with am:=up (ix u (i:Int) mZ).am (j:Int) (zjL<|ix (ix u (i:Int) mZ).am (j:Int) kZ)} :=
    ⟨c.2.1.1,c.2.1.2.1,c.2.1.2.2.1,c.2.1.2.2.2.1,c.2.1.2.2.2.2.1,zyk c.2.1.2.2.2.2.2<|zwX _ _ _ g⟩
   have q:=k (up u (i:Int) {ix u (i:Int) mZ with am:=up (ix u (i:Int) mZ).am (j:Int) (zjL<|ix (ix u (i:Int) mZ).am (j:Int) kZ)}) ⟨by rw[zhp];exact c.1,by rw[zd8 b];exact w,by rw[zd8 b];simp only[zhp];exact c.2.2⟩;rw[zbx p r.1];refine q.trans ?_;rw[zd8 b,zwc,show (ix t (i:Int) mZ).am.length-j=(ix t (i:Int) mZ).am.length-(j+1)+1 by omega];rfl
  {have b:i<u.length:=(by rw[c.1];exact hit);refine j0 (zbc b) (zcs (by show ilt ((ix t (i:Int) mZ).am.length:Int) (ln (ix u (i:Int) mZ).am)=false;rw[ln,c.2.2];exact qT (by omega)) ?_);rw[zbx n s.1,uE];show rec (_,a.ag,u,_)=rec (_,a.ag,up u (i:Int)<|ix u (i:Int) mZ,_);rw[zOz b]};{have q:=x (up t (i:Int)<|zu6 (ix t (i:Int) mZ) (ix t (i:Int) mZ).am.length 0) ⟨zjF e.1<|zLL l (by omega),by rw[zhp];exact e.2⟩;refine q.trans ?_;rw[show a.aa.length-i=a.aa.length-(i+1)+1 by omega];rfl}
 {refine zcs (by show ilt (a.aa.length:Int) (ln t)=false;rw[ln,e.2];exact qT (by omega)) ?_;rw[uE];rfl}
def zCv:vT 58 zzA:=kF1 zPp zJ zci zdk zZU zYU
def z0J:zW:=[(58,zzA)]++z0I
def z0K:zL z0J:=zh zCv zPp
def z0L:zW:=z0J
def zPq:zL z0L:=z0K
def zA9:∀(n i:Nat) (t:List Mon),i+n<=t.length->zrx t->zrx (zof n i t)
 | 0,_,_,_,h=>h
 |n+1,i,t,b,h=>by have a:i<t.length:=(by omega);refine zA9 n (i+1) _ (by rw[zhp];omega) (zjF h<|zLL ?_ (by omega));rw[zbr a];exact h.2 _ (jM a)
def zIt {h:ad}(a:SmH h):SmH (cold h):=⟨a.1,zA9 _ _ _ (by omega) a.2.1,by simp[cold],by simp[cold]⟩
def znK {h:ad}{m:Int}{b:ak}(c:SmH h)(d:zc0 h m=true->SmB b):SmH (zid h m b):=by unfold zid;cases a:zc0 h m;{exact c};{exact zIs c (zcJ.1 a).2 (d a).2.1}
def z2A {h:ad}{m g p:Int}(c:SmH h):SmH (zle h m g p):=by unfold zle;cases e:zc0 h m;{exact c};{cases l:zcl (zK h m) g (i0 p 4);{exact c};{have d:=(zcJ.1 e).2;have f:=zUJ c d;have k:SmB (chg (zK h m) g (i0 p 4)<|zd4 (gAt (zK h m) g) p):=zqA f (zLG _<|zkw _ f);have b:=zIs c d k.2.1;have i:=zSc (chg (zK h m) g (i0 p 4)<|zd4 (gAt (zK h m) g) p) d;have j:=zPx c e (chg (zK h m) g (i0 p 4)<|zd4 (gAt (zK h m) g) p) l;have a:=b.2.1.2 _ (zbF i mZ);simp only[cT];exact⟨b.1,zjF b.2.1 ⟨a.1,a.2.1,a.2.2.1,a.2.2.2.1,a.2.2.2.2.1,zyk a.2.2.2.2.2<|zpy<|a.2.2.2.2.2.2 _<|zbF j _⟩,qS (zyY _ _ _) b.2.2.1,qS (zyY _ _ _) b.2.2.2⟩}}
def z4S {h:ad}{m p c v:Int}(e:SmH h):SmH (znv h m p c v):=by unfold znv;cases a:zfN h m p c v;{exact e};{have f:zcH h m p=true:=(by unfold zfN at a;cases b:zcH h m p;{rw [b]at a;cases a};{rfl});obtain⟨g,i,b⟩:=zkF.1 f;have d:=(zuJ (n:=2) (zfM e g) i b).1.1;exact⟨zzP d.1,d.2⟩}
def zTQ {h:ad}{m g c a:Int}(b:List ar)(i:Bool)(f:SmH h)(d:zca h m g c a=true):SmH (lookOf h b m g c a i).1:=by have hg:zb1 h m g=true:=(by unfold zca at d;cases e:zb1 h m g;{rw [e]at d;cases d};{rfl});exact(zxx f hg).shape.1
def z8T {h:ad}{m g a v:Int}(e:SmH h):SmH (zp1 h m g a v):=by unfold zp1;cases b:zhw h m g a v;{exact e};{have f:zca h m g (zbi a) 2=true:=(by unfold zhw at b;cases c:zl a 0 15;{rw [c]at b;cases b};{cases d:zl v 0 99;{rw [c,d]at b;cases b};{rw [c,d]at b;exact b}});have c:=zTQ h.an true e f;exact⟨zzP c.1,c.2⟩}
def z4T {h:ad}{m g a:Int}(d:SmH h):SmH (znw h m g a):=by unfold znw;cases b:zgB h m g a;{exact d};{have e:zca h m g (zbi a) 1=true:=(by unfold zgB at b;cases c:zl a 0 15;{rw [c]at b;cases b};{rw [c]at b;exact b});exact zTQ h.an true d e}
def z8U {h:ad}{m p:Int}(a:SmH h):SmH (zp6 h m p):=by unfold zp6;cases b:zcH h m p;{exact a};{obtain⟨c,d,e⟩:=zkF.1 b;cases zkU h m p;{exact(zLB (zfM a c).1 d).1};{exact a}}
def z97 {h:ad}{m p:Int}(a:SmH h):SmH (zt8 h m p):=by unfold zt8;cases b:zcH h m p;{exact a};{obtain⟨c,d,e⟩:=zkF.1 b;cases zkU h m p;{exact a};{exact(zkv (zfM a c) d e).1.1}}
def z2E {h:ad}{m t:Int}(a:SmH h):SmH (zj8 h m t):=by unfold zj8;cases zcj h;{exact a};{cases c:i0 m (ln h.aa);{exact a};{cases zl t 0 3;{exact a};{have b:zfH (ix h.aa m mZ):=a.2.1.2 _ (zbF c mZ);exact⟨a.1,zjF a.2.1 ⟨b.1,b.2.1,b.2.2.1,b.2.2.2.1,b.2.2.2.2.1,b.2.2.2.2.2⟩,a.2.2⟩}}}
def zt1 (h:ad)(a:GAct):ad:=bif ieq a.Kind 1 then (zcw h a.M a.G).1 else (cond (ieq a.Kind 2) (zmJ h a.M a.G a.X ⟨a.Y,a.Z⟩)<|cond (ieq a.Kind 3) (zle h a.M a.G a.X)<|cond (ieq a.Kind 4) (zi8 h a.M a.G a.X)<|cond (ieq a.Kind 5) (zjc h a.M a.G)<|cond (ieq a.Kind 6) (zja h a.M a.G a.X)<|cond (ieq a.Kind 7) (zmH h a.M a.G ⟨a.X,a.Y,ieq a.Z 1⟩)<|cond (ieq a.Kind 8) (znv h a.M a.X a.Y a.Z)<|cond (ieq a.Kind 9) (zlj h a.M a.X)<|cond (ieq a.Kind 10) (zmE h a.M)<|cond (ieq a.Kind 11) (zp1 h a.M a.G a.X a.Y)<|znw h a.M a.G a.X)
def zCG (h:ad)(a:GAct):aF:=bif ieq a.Kind 1 then ⟨(zcw h a.M a.G).2,0⟩ else (cond (ieq a.Kind 2) ⟨zmK h a.M a.G a.X ⟨a.Y,a.Z⟩,0⟩<|cond (ieq a.Kind 3) ⟨zki h a.M a.G a.X,0⟩<|cond (ieq a.Kind 4) ⟨zi9 h a.M a.G a.X,0⟩<|cond (ieq a.Kind 5) ⟨zjd h a.M a.G,0⟩<|cond (ieq a.Kind 6) ⟨zjb h a.M a.G a.X,0⟩<|cond (ieq a.Kind 7) ⟨zmI h a.M a.G ⟨a.X,a.Y,ieq a.Z 1⟩,0⟩<|cond (ieq a.Kind 8) ⟨zfN h a.M a.X a.Y a.Z,0⟩<|cond (ieq a.Kind 9) ⟨zlk h a.M a.X,0⟩<|cond (ieq a.Kind 10) ⟨zmG h a.M,zmF h a.M⟩<|cond (ieq a.Kind 11) ⟨zhw h a.M a.G a.X a.Y,0⟩<|⟨zgB h a.M a.G a.X,zrM h a.M a.G a.X⟩)
def zmL (h:ad)(a:GAct):ad:=bif ieq a.Kind 13 then zp6 h a.M a.X else (cond (ieq a.Kind 14) (zt8 h a.M a.X)<|cond (ieq a.Kind 15) (ztP h a.M a.X)<|cond (ieq a.Kind 16) (zj8 h a.M a.X)<|cold h)
def zK9 (h:ad)(a:GAct):aF:=bif ieq a.Kind 13 then ⟨zCZ h a.M a.X,0⟩ else (cond (ieq a.Kind 14) ⟨zH7 h a.M a.X,0⟩<|cond (ieq a.Kind 15) ⟨zcH h a.M a.X,0⟩<|cond (ieq a.Kind 16) ⟨zzM h a.M a.X,0⟩<|⟨true,0⟩)
def zeU (h:ad)(a:GAct):ad:=bif zl a.Kind 1 17 then (cond (zl a.Kind 13 17) (zmL h a)<|zt1 h a) else h
def zjP (h:ad)(a:GAct):aF:=bif zl a.Kind 1 17 then (cond (zl a.Kind 13 17) (zK9 h a)<|zCG h a) else ⟨false,0⟩
def z2D {h:ad}{a:GAct}(b:SmH h):SmH (zmL h a):=by unfold zmL;cases ieq a.Kind 13;{cases ieq a.Kind 14;{cases ieq a.Kind 15;{cases ieq a.Kind 16;{exact zIt b};{exact z2E b}};{exact z2B b}};{exact z97 b}};{exact z8U b}
def z2C {h:ad}{a:GAct}(c:SmH h):SmH (zt1 h a):=by have d:zc0 h a.M=true->SmB (zK h a.M):=λb=>zUJ c (zcJ.1 b).2;unfold zt1;cases ieq a.Kind 1;{cases ieq a.Kind 2;{cases ieq a.Kind 3;{cases ieq a.Kind 4;{cases ieq a.Kind 5;{cases ieq a.Kind 6;{cases ieq a.Kind 7;{cases ieq a.Kind 8;{cases ieq a.Kind 9;{cases ieq a.Kind 10;{cases ieq a.Kind 11;{exact z4T c};{exact z8T c}};{exact znK c (λb=>zXx (d b))}};{exact znK c (λb=>zUI _ (d b))}};{exact z4S c}};{exact znK c (λb=>zXy _ _ (d b))}};{exact znK c (λb=>zLE _ _ (d b))}};{exact znK c (λb=>zLF _ (d b))}};{exact znK c (λb=>zLD _ _ (d b))}};{exact z2A c}};{exact znK c (λb=>zXz _ _ _ (d b))}};{exact(z2q a.M a.G c).sm}
def zXC {h:ad}{a:GAct}(b:SmH h):SmH (zeU h a):=by unfold zeU;cases zl a.Kind 1 17;{exact b};{cases zl a.Kind 13 17;{exact z2C b};{exact z2D b}}
@[simp] abbrev zh9 (h:ad)(a:GAct):Bool:=pc (zcR h)
@[simp] abbrev zlJ (h:ad)(a:GAct):ad:=zmL h a
@[simp] abbrev zjx (h:ad)(a:GAct):aF:=zK9 h a
def zx9:Run:=rF2 dH (dT .act) λb c=>(zh9 b c,[aH<|zlJ b c,aT .told<|zjx b c])
def zBW (N:Nat)(c:ad)(a:GAct):OA:=
 (cond (ieq a.Kind 13) (oN (ziB c a.M a.X)<|some [aH<|zq7 c a.M a.X,.agg [.b<|zq8 c a.M a.X,.i .i64 0]])<|cond (ieq a.Kind 14) (oN (ziB c a.M a.X)<|some [aH<|zs5 c a.M a.X,.agg [.b<|zs6 c a.M a.X,.i .i64 0]])<|cond (ieq a.Kind 15) (oN (ziB c a.M a.X)<|some [aH<|zvU c a.M a.X,.agg [.b<|zgb c a.M a.X,.i .i64 0]])<|cond (ieq a.Kind 16) (oN (zuD c a.M a.X)<|some [aH<|zo4 c a.M a.X,.agg [.b<|zo5 c a.M a.X,.i .i64 0]])<|oN (zbh c)<|some [aH<|zur c,.agg [.b true,.i .i64 0]])
def zNS (a:ad)(b:GAct)(c:zh9 a b=true):∃N,zBW N a b=some [aH<|zlJ a b,aT .told<|zjx a b]:=by have d:=zT.1 c;refine⟨0,?_⟩;unfold zBW oN;refine br (λ_=>mu ?_) (λ_=>br (λ_=>mu ?_) λ_=>br (λ_=>mu ?_) λ_=>br (λ_=>mu ?_) λ_=>mu ?_);all_goals first|rfl|(simp only [*,zlJ,zjx,zmL,zK9,cT,cF]<;>rfl)|simp_all[Ty.cells,zlJ,zjx,zmL,zK9]
def zHL:vT 140 zx9:=kF2 zPq zJ zci zdk (zA []) zNS
def z0M:zW:=[(140,zx9),(42,zGc),(40,zAH),(38,zGd)]++z0L
def zPr:zL z0M:=zh zHL (zh zQj<|zh zJ0<|zh zQk zPq)
@[simp] abbrev zmQ (h:ad)(a:GAct):ad:=zeU h a
@[simp] abbrev zmR (h:ad)(a:GAct):aF:=zjP h a
def zsm:Run:=rF2 dH (dT .act) λb c=>(zh9 b c,[aH<|zmQ b c,aT .told<|zmR b c])
def zFq (N:Nat)(c:ad)(a:GAct):OA:=
 let d:=(⟨a.Y,a.Z⟩:k0); (oN (znX a)<|cond (nB<|zya a) (oN (zbh c)<|some [aH<|zx c,.agg [.b false,.i .i64 0]])<|oN (zwN a.Kind)<|cond (zrW a.Kind) (oN (zh9 c a)<|some [aH<|zlJ c a,.agg [.b (zjx c a).Ok,.i .i64 (zjx c a).N]])<|cond (ieq a.Kind 1) (oN (zdf c a.M a.G)<|some [aH<|zcM c a.M a.G,.agg [.b<|zcN c a.M a.G,.i .i64 0]])<|cond (ieq a.Kind 2) (oN (zwM c a.M a.G a.X d)<|some [aH<|zmJ c a.M a.G a.X d,.agg [.b<|zmK c a.M a.G a.X d,.i .i64 0]])<|cond (ieq a.Kind 3) (oN (zst c a.M a.G a.X)<|some [aH<|znf c a.M a.G a.X,.agg [.b<|zki c a.M a.G a.X,.i .i64 0]])<|cond (ieq a.Kind 4) (oN (zqq c a.M a.G a.X)<|some [aH<|zi8 c a.M a.G a.X,.agg [.b<|zi9 c a.M a.G a.X,.i .i64 0]])<|cond (ieq a.Kind 5) (oN (zqs c a.M a.G)<|some [aH<|zjc c a.M a.G,.agg [.b<|zjd c a.M a.G,.i .i64 0]])<|cond (ieq a.Kind 6) (oN (zqr c a.M a.G a.X)<|some [aH<|zja c a.M a.G a.X,.agg [.b<|zjb c a.M a.G a.X,.i .i64 0]])<|cond (ieq a.Kind 7) (oN (znX a)<|oN (zwJ c a.M a.G<|zqm a)<|some [aH<|zmH c a.M a.G<|zqm a,.agg [.b<|zmI c a.M a.G<|zqm a,.i .i64 0]])<|cond (ieq a.Kind 8) (oN (zuz c a.M a.X a.Y a.Z)<|some [aH<|zoX c a.M a.X a.Y a.Z,.agg [.b<|zoY c a.M a.X a.Y a.Z,.i .i64 0]])<|cond (ieq a.Kind 9) (oN (zuA c a.M a.X)<|some [aH<|zlj c a.M a.X,.agg [.b<|zlk c a.M a.X,.i .i64 0]])<|cond (ieq a.Kind 10) (oN (zek c a.M)<|some [aH<|zmE c a.M,.agg [.b<|zmG c a.M,.i .i64<|zmF c a.M]])<|cond (ieq a.Kind 11) (oN (zwK c a.M a.G a.X a.Y)<|some [aH<|zq4 c a.M a.G a.X a.Y,.agg [.b<|zq5 c a.M a.G a.X a.Y,.i .i64 0]])<|oN (zuB c a.M a.G a.X)<|some [aH<|zoZ c a.M a.G a.X,.agg [.b<|zo1 c a.M a.G a.X,.i .i64<|zo0 c a.M a.G a.X]])
def zQM (a:ad)(b:GAct)(c:zh9 a b=true):∃N,zFq N a b=some [aH<|zmQ a b,aT .told<|zmR a b]:=by
 have d:=zT.1 c;refine⟨0,?_⟩;unfold zFq oN nB;conv=>zeta
 refine j0 rfl (brN (λ_=>mu ?_) λ_=>j0 rfl (br (λ_=>mu ?_) λ_=>br (λ_=>mu ?_) λ_=>br (λ_=>mu ?_) λ_=>br (λ_=>mu ?_) λ_=>br (λ_=>mu ?_) λ_=>br (λ_=>mu ?_) λ_=>br (λ_=>mu ?_) λ_=>br (λ_=>j0 rfl (mu ?_)) λ_=>br (λ_=>mu ?_) λ_=>br (λ_=>mu ?_) λ_=>br (λ_=>mu ?_) λ_=>br (λ_=>mu ?_) λ_=>mu ?_));all_goals first|rfl|(simp only [*,zmQ,zmR,zeU,zjP,zt1,zCG,cT,cF]<;>rfl)|simp_all[Ty.cells,zmQ,zmR,zeU,zjP,zt1,zCG]
def zvq:vT 31 zsm:=kF2 zPr zJ zci zdk (zA []) zQM
def z0N:zW:=[(31,zsm)]++z0M
def zPs:zL z0N:=zh zvq zPr
end
end Go.Proofs.YtapgkefgcbapcaaGreat.E
