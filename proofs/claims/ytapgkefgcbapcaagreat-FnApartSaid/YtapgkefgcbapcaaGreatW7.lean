/- What is proved here: a part of the proof of the claim. -/
import Derived.Test.YtapgkefgcbapcaaGreatW6
import Derived.Shelf.Sort.Plain
import Derived.Shelf.Slices.CompactI
import Derived.Shelf.Slices.In.SortNone
import Derived.Ground.Names2Prog
import Derived.Test.YtapgkefgcbapcaaGreatProg
import Derived.Lib.RowBridge
import Derived.Maps.OwnOps
import Derived.Maps.Views
namespace Go.Proofs.YtapgkefgcbapcaaGreat.E
open Go
set_option linter.defProp false
set_option linter.constructorNameAsVariable false
set_option linter.unusedVariables false
set_option maxRecDepth 100000
set_option linter.unusedSimpArgs false
set_option linter.unusedSectionVars false
noncomputable section
structure MonS (x:Mon):Prop where
 sm:zfZ x
 g1:1<=x.ad.length
 g2:x.ad.length<=2
 t2:x.ai.length<=2
 o8:x.ae.length<=8
 pg:∀s∈x.ae,I64 s.af
 tk:∀k∈x.ai,k.aw.length<=k.au.length
structure AnyH (h:ac):Prop where
 mem:SmM h.ag
 n1:1<=h.aa.length
 n3:h.aa.length<=3
 mons:∀x∈h.aa,MonS x
 b1:h.am.length<=1048576
 b2:h.ak.length<=1048576
def AnyH.sm {h:ac}(k:AnyH h):SmH h:=⟨k.mem,⟨qU k.n3 (by decide),λx a=>(k.mons x a).sm⟩,k.b1,k.b2⟩
def z4l {h:ac}(S:Safe h)(sm:SmH h):AnyH h :=
 ⟨sm.1,S.ok.n1,S.ok.n3,λx a=>by
  have k:=S.ok.mons x a;refine⟨sm.2.1.2 x a,k.g1,k.g2,by rw[k.gt];exact k.g2,by rw[k.o8];exact qS 8,λs b=>?_,λy c=>?_⟩
  .rcases k.sl s b with rfl|⟨h1,h2,_⟩
   .exact⟨by decide,by decide⟩
   .exact⟨by omega,by omega⟩
  .obtain⟨m,hm,rfl⟩:=zrA a mZ;obtain⟨g,hg,rfl⟩:=zrA c kZ;have:=S.rt.t m hm g (by have e:(ix h.aa m mZ).ai.length=(ix h.aa m mZ).ad.length:=k.gt;unfold ln at hg ⊢;rw[<- e];exact hg)
   rw[this.l1,this.l2];exact qS _,sm.2.2.1,sm.2.2.2⟩
def zwH {h:ac}(k:AnyH h)(i:Int){x:Mon}(b:MonS x):AnyH {h with aa:=up h.aa i x} :=
 ⟨k.mem,by rw[zh3];exact k.n1,by rw[zh3];exact k.n3,λy a=>by
  rcases qZ a with a|rfl
  .exact k.mons y a
  .exact b,k.b1,k.b2⟩
def z9W {g:ah}(h:GuS g):SmG g:=⟨qU h.1 (by decide),qU h.2.1 (by decide),qU h.2.2.1 (by decide),qU h.2.2.2 (by decide)⟩
def z4x {l:List ah}(h:zme l)(i:Int){g:ah}(hg:SmG g):zme (up l i g):=
 ⟨by rw[zh3];exact h.1,λy a=>by
  rcases qZ a with a|rfl
  .exact h.2 y a
  .exact hg⟩
def z8K {l:List LI}(h:SmM l)(i:Int){g:LI}(hg:g.length<=1048576):SmM (up l i g):=
 ⟨by rw[zh3];exact h.1,λy a=>by
  rcases qZ a with a|rfl
  .exact h.2 y a
  .exact hg⟩
def zx2 (N:Nat)(c:Cur)  : OA :=
 let j:=zhe c;let r:=({ (ziD c) with b:=c.b}:Cur);let f:=j.aa;let k:=zn r<|ln f;let m:=inb k<|ln f;let g:=ix f k zh;let q:=({ (zf r<|ln f) with b:=c.b}:Cur);let e:=zf q 24;let l:=zn q 24;let a:=({e with b:=c.b}:Cur);let n:=zba a [-1,1000000000,1000000001];let p:=({ (zf a 8) with b:=c.b}:Cur); (oN (zfq c)<|oN (zx r<|ln f)<|oN (zx q 24)<|cond (ieq l 0) (oN (zfK a 8 12)<|oN m<|p0 (up f k ({g with ae:=(ze1 a 8 12)}:Mon)) λd=>some [.agg [.s .u8 c.b,.i .i64 (zgO a 8 12).i,.i .i64 (zgO a 8 12).h],aH ({j with aa:=d}:ac)])<|cond (ieq l 1) (oN m<|oN (zx a 8)<|oN (zll p)<|oN (inb (zn a 8)<|ln g.Out)<|p0 (up f k ({g with Out:=(up g.Out (zn a 8)<|zsN p)}:Mon)) λd=>some [.agg [.s .u8 c.b,.i .i64 (zlm p).i,.i .i64 (zlm p).h],aH ({j with aa:=d}:ac)])<|cond (ieq l 2) (oN m<|oN (zpj a)<|oN (inb 0<|ln g.ad)<|p0 (up f k ({g with ad:=(up g.ad 0<|zy6 a)}:Mon)) λd=>some [.agg [.s .u8 c.b,.i .i64 (zpk a).i,.i .i64 (zpk a).h],aH ({j with aa:=d}:ac)])<|cond (ieq l 3) (oN m<|p0 (up f k ({g with ai:=[]}:Mon)) λd=>some [.agg [.s .u8 c.b,.i .i64 e.i,.i .i64 e.h],aH ({j with aa:=d}:ac)])<|cond (ieq l 4) (oN (zgW a)<|some [.agg [.s .u8 c.b,.i .i64 (zkf a).i,.i .i64 (zkf a).h],aH ({j with am:=(zky a)}:ac)])<|cond (ieq l 5) (oN (zln a)<|oN m<|p0 (up f k ({g with ar:=(zsO a)}:Mon)) λd=>some [.agg [.s .u8 c.b,.i .i64 (zlo a).i,.i .i64 (zlo a).h],aH ({j with aa:=d}:ac)])<|cond (ieq l 6) (oN (zbu a [-1,1000000000,1000000001])<|oN m<|p0 (up f k ({g with Own:=(zbp a [-1,1000000000,1000000001])}:Mon)) λd=>some [.agg [.s .u8 c.b,.i .i64 n.i,.i .i64 n.h],aH ({j with aa:=d}:ac)])<|cond (ieq l 7) (oN (zo9 a)<|some [.agg [.s .u8 c.b,.i .i64 (zie a).i,.i .i64 (zie a).h],aH ({j with ag:=(zqg a)}:ac)])<|some [.agg [.s .u8 c.b,.i .i64 e.i,.i .i64 e.h],aH j])
def zq9 (c:Cur)(s:Cur)(a:ac):Prop:=(∃N,zx2 N c=some (AV.agg (zbU s)::[aH a]))/\(s.b=c.b/\0<=s.i)/\(AnyH a)
def zgr (c:Cur)  : Bool:=wC (zq9 c)
def zpn (c:Cur)  : Cur:=wS (zq9 c)
def zgX (c:Cur)  : ac:=wV (zq9 c)
def zsP {c:Cur}(h:zgr c=true):zq9 c (zpn c) (zgX c):=wG h
def zKB (c:Cur)  : 0<=(zpn c).i:=wP λh=>h.2.1.2
def zY8 (c:Cur)(h:∃N,Ends (wE (λa=>aH a) c.b λa=>AnyH a)<|zx2 N c):zgr c=true:=wI (λ_ _ h=>h) h
def zzJ:zdS:=rP0 λc=>(zgr c,zpn c,[aH<|zgX c])
def zMl:zbQ Tryz.prog 105 [false,true,true] zzJ:=hP0 zuG zZ zTs zu (zy []) (λ_ h=>(zsP h).1)
def zwW {c:Cur}(h:zbh c):zgr c=true:=by
 refine zY8 c ⟨0,?_⟩;unfold zx2 oN;conv=>zeta
 obtain⟨S,sm⟩:=zS0 (zwl<|zJJ h).2.2;have A:=z4l S sm;have q:∀{s:Cur},0<=s.i->zbh {s with b:=c.b}:=λy=>zbL h y;have w:zbh {ziD c with b:=c.b}:=q (zVR _);have l:0<ln (zhe c).aa:=by have:=A.n1;unfold ln;omega
 have a:=zuC w l (kN _);have u:=zbD a zh;generalize B:zhe c=H at *;generalize zn {ziD c with b:=c.b} (ln H.aa)=m at *;have M:=A.mons _ u;have x:=S.ok.mons _ u;generalize C:ix H.aa m zh=X at *;obtain⟨p,e,f,j,k,t⟩:=M.sm;have d:∀{n},zbh {zf {zf {ziD c with b:=c.b} n with b:=c.b} 24 with b:=c.b}:=λ{n}=>q (zG _ _);refine zA (zJJ h) (zA (zbF w _) (zA (zbF (q<|zG _ _) 24)
  (zbC (λ_=>zA (zn0 d (by omega) (by omega) _) (zA a<|zlE<|zbJ aH (v:={H with aa:=up H.aa m {X with ae:=ze1 _ _ _}}) (zo4 _ _ _)<|zwH A m ?_))
  (λ_=>zbC (λ_=>zA a (zA (zbF d 8)<|zA (zWq<|q<|zG _ _)<|zA (zuC d (by omega) ?_)<|zlE<|zbJ aH (v:={H with aa:=up H.aa m {X with Out:=up X.Out _ (zsN _)}}) (zTL _)<|zwH A m ?_))
  (λ_=>zbC (λ_=>zA a (zA (zIq d)<|zA ?_<|zlE<|zbJ aH (v:={H with aa:=up H.aa m {X with ad:=up X.ad 0 (zy6 _)}}) (zY5 _)<|zwH A m ?_))
  (λ_=>zbC (λ_=>zA a (zlE<|zbJ aH (v:={H with aa:=up H.aa m {X with ai:=[]}}) (zG _ _)<|zwH A m ?_))
  (λ_=>zbC (λ_=>zA (zFX d) (zbJ aH (v:={H with am:=zky _}) (zQq _) ⟨A.mem,A.n1,A.n3,A.mons,qU (zAl<|zFX d).2.2 (by decide),A.b2⟩))
  (λ_=>zbC (λ_=>zA (z8R d) (zA a<|zlE<|zbJ aH (v:={H with aa:=up H.aa m {X with ar:=zsO _}}) (zTQ _)<|zwH A m ?_))
  (λ_=>zbC (λ_=>zA (zfh d (by simp)) (zA a<|zlE<|zbJ aH (v:={H with aa:=up H.aa m {X with Own:=zbp _ _}}) (zb1 _ _)<|zwH A m ?_))
  (λ_=>zbC (λ_=>zA (zSj d) (zbJ aH (v:={H with ag:=zqg _}) (zYS _) ⟨?_,A.n1,A.n3,A.mons,A.b1,A.b2⟩))
  (λ_=>zbJ aH (v:=H) (zG _ _) A)))))))))))
 {have g:=(zo3<|zn0 (d (n:=ln H.aa)) (n:=8) (by omega) (by omega) 12).2.2 (by omega) (by omega);refine⟨⟨?_,e,f,j,k,t⟩,M.g1,M.g2,M.t2,?_,g.2 (by omega) (by omega),M.tk⟩;{have:=g.1;unfold ln at this;exact qU (m:=8) (by exact Int.ofNat_le.1 this) (by decide)};{have:=g.1;unfold ln at this;exact Int.ofNat_le.1 this}};{unfold ln;rw[x.u8];decide};{exact⟨⟨p,z8K e _<|qU (zCy<|zWq<|q<|zG _ _).2.2 (by decide),f,j,k,t⟩,M.g1,M.g2,M.t2,M.o8,M.pg,M.tk⟩};{exact qL (by have:=M.g1;unfold ln;omega)};{exact⟨⟨p,e,f,z4x j 0<|z9W (zKz<|zIq d).2.2,k,t⟩,by rw[zh3];exact M.g1,by rw[zh3];exact M.g2,M.t2,M.o8,M.pg,M.tk⟩};{exact⟨⟨p,e,f,j,k,⟨by simp,by simp⟩⟩,M.g1,M.g2,by simp,M.o8,M.pg,by simp⟩};{exact⟨⟨p,e,f,j,k,t⟩,M.g1,M.g2,M.t2,M.o8,M.pg,M.tk⟩};{exact⟨⟨p,e,f,j,k,t⟩,M.g1,M.g2,M.t2,M.o8,M.pg,M.tk⟩};{have g:=(zKw<|zSj<|d (n:=ln H.aa)).2.2;exact⟨qU g.1 (by decide),λr z=>qU (g.2 r z) (by decide)⟩}
def z6F:zc0:=[(105,[false,true,true],zzJ)]++z6E
def z4c:zb5 z6F:=zcu zTs (by
 intro x a;simp only[qG,qO,or_false]at a;rcases a with rfl
 .exact zMl)
def zA5 (N:Nat)(c:Cur)  : OA :=
 let a:=zba c [0,0,0,1,1,2,-1,9223372036854775807]; (oN (zbu c [0,0,0,1,1,2,-1,9223372036854775807])<|some [.agg [.s .u8 c.b,.i .i64 a.i,.i .i64 a.h],aI<|zbp c [0,0,0,1,1,2,-1,9223372036854775807]])
def zsQ (c:Cur)(s:Cur)(a:Int):Prop:=(∃N,zA5 N c=some (AV.agg (zbU s)::[aI a]))/\(s.b=c.b/\0<=s.i)/\(True)
def zlq (c:Cur)  : Bool:=wC (zsQ c)
def zvz (c:Cur)  : Cur:=wS (zsQ c)
def zxL (c:Cur)  : Int:=wV (zsQ c)
def z1C {c:Cur}(h:zlq c=true):zsQ c (zvz c) (zxL c):=wG h
def z1D (c:Cur)(h:∃N,Ends (wE (λa=>aI a) c.b λa=>True)<|zA5 N c):zlq c=true:=wI (λ_ _ h=>h) h
def ztS:zdS:=rP0 λc=>(zlq c,zvz c,[aI<|zxL c])
def zzy:zbQ Tryz.prog 199 [false,true,true] ztS:=hP0 zuG zZ ztN zu (zy []) (λ_ h=>(z1C h).1)
def at_t {c:Cur}(h:zbh c):zlq c=true:=by
 refine z1D c ⟨0,?_⟩;unfold zA5 oN;conv=>zeta
 exact zA (zfh h (by simp)) (zbJ aI (zb1 _ _) trivial)
def zbas:zc0:=[(199,[false,true,true],ztS)]++zYK
def z4a:zb5 zbas:=zcu ztN (by
 intro x a;simp only[qG,qO,or_false]at a;rcases a with rfl
 .exact zzy)
def zXs (N:Nat)(c:Cur)  : OA :=
 let a:=znt c;let e:=({ (zgs c) with b:=c.b}:Cur);let f:=zn e 10;let d:=({ (zf e 10) with b:=c.b}:Cur);let g:=zba d [-1,4,8,16,100,9223372036854775807]; (oN (zij c)<|oN (zx e 10)<|cond (ieq f 0) (oN (zx d 20)<|some [.agg [.s .u8 c.b,.i .i64 (zf d 20).i,.i .i64 (zf d 20).h],.agg [.i .i64<|wsub .i64 (zn d 20) 1,.i .i64 a.M,.i .i64 a.G,.i .i64 a.X,.i .i64 a.Y,.i .i64 a.Z]])<|cond (ieq f 1) (oN (zlq d)<|some [.agg [.s .u8 c.b,.i .i64 (zvz d).i,.i .i64 (zvz d).h],.agg [.i .i64 a.Kind,.i .i64<|zxL d,.i .i64 a.G,.i .i64 a.X,.i .i64 a.Y,.i .i64 a.Z]])<|cond (ieq f 2) (oN (zbu d [-1,4,8,16,100,9223372036854775807])<|some [.agg [.s .u8 c.b,.i .i64 g.i,.i .i64 g.h],.agg [.i .i64 a.Kind,.i .i64 a.M,.i .i64 a.G,.i .i64<|zbp d [-1,4,8,16,100,9223372036854775807],.i .i64 a.Y,.i .i64 a.Z]])<|cond (ieq f 3) (oN (zbu d [-1,0,1,4])<|some [.agg [.s .u8 c.b,.i .i64 (zba d [-1,0,1,4]).i,.i .i64 (zba d [-1,0,1,4]).h],.agg [.i .i64 a.Kind,.i .i64 a.M,.i .i64 a.G,.i .i64 a.X,.i .i64 a.Y,.i .i64<|zbp d [-1,0,1,4]]])<|some [.agg [.s .u8 c.b,.i .i64 (zf e 10).i,.i .i64 (zf e 10).h],.agg [.i .i64 a.Kind,.i .i64 a.M,.i .i64 a.G,.i .i64 a.X,.i .i64 a.Y,.i .i64 a.Z]])
def zrb (c:Cur)(s:Cur)(a:GAct):Prop:=(∃N,zXs N c=some (AV.agg (zbU s)::[aT .act a]))/\(s.b=c.b/\0<=s.i)/\(True)
def zKC (c:Cur)  : Bool:=wC (zrb c)
def zKD (c:Cur)  : Cur:=wS (zrb c)
def zTV (c:Cur)  : GAct:=wV (zrb c)
def zZc {c:Cur}(h:zKC c=true):zrb c (zKD c) (zTV c):=wG h
def zzL:zdS:=rP0 λc=>(zKC c,zKD c,[aT .act<|zTV c])
def zMq:zbQ Tryz.prog 123 [false,true,true] zzL:=hP0 zuG zZ z4a zu (zy []) (λ_ h=>(zZc h).1)
def zbat:zc0:=[(199,[false,true,true],ztS),(123,[false,true,true],zzL)]++z6F
def zyP:zb5 zbat:=zcu z4c (by
 intro x a;simp only[qG,qO,or_false]at a;rcases a with rfl|rfl
 .exact zzy
 .exact zMq)
def z5A:zbf:=[(31,zr5)]++zZV
def zRz:zN z5A:=zi zuW zuG
def zBi {a:LI}(h:a.length<=big){G:Ans->Prop}{N:Nat}(l:a.length<N){g:Int}{R:Int->OA}{d:Type}(S:Int->Int->d){F:(d->OA)->d->OA}(k:∀rec i t,F rec (S i t)=bif ilt i (ln a) then (cond (ilt i 4000) (cond (inb i<|ln a) (rec<|S (zK .i64 i 1)<|wand .i64 (zK .i64 (zK .i64 (zkJ .i64 t 131)<|wcv .i64<|ix a i 0) 7) 1073741823) none)<|R t) else R t)(e:∀t,zbh ⟨a,0,t⟩->Ends G (R t)):Ends G (r0 N F<|S 0 g):=by refine ziO (λn s=>∃(i:Nat) (t:Int),s=S (i:Int) t/\i+n=a.length) ?_ N a.length _ ⟨0,g,rfl,by omega⟩ l;rintro n s rec ⟨i,t,rfl,p⟩ b;rw[k];have f:zbh ⟨a,0,t⟩:=⟨kN 0,h⟩;refine zbC (λj=>zbC (λm=>?_) λ_=>e t f) (λ_=>e t f);have c:(i:Int)<ln a:=qD j;unfold ln at c;rw[zV (show i<a.length by omega) h];exact zA (qL ⟨by omega,by unfold ln;omega⟩) (b (n-1) _ (by omega) ⟨i+1,_,rfl,by omega⟩)
def z4g {b:LI}(h:b.length<=big){s:Cur}(a:0<=s.i):zbh {s with b:=b}:=⟨a,h⟩
def zmO (N:Nat)(f:LI):OA:=
 (r0 (σ:=(Int×Int×LI×lM×lN×lE×lE×Unit)) N (λg a=>let c:=a.2.2.1;let d:=(⟨c,0,a.1⟩:Cur);let e:=({ (zpn d) with b:=c}:Cur); (cond (ilt a.2.1<|ln c) (cond (ilt a.2.1 4000) (oN (inb a.2.1<|ln c)<|g (wand .i64 (zK .i64 (zK .i64 (zkJ .i64 a.1 131)<|wcv .i64<|ix c a.2.1 0) 7) 1073741823,zK .i64 a.2.1 1,c,a.2.2.2.1,a.2.2.2.2.1,a.2.2.2.2.2.1,a.2.2.2.2.2.2.1,()))<|oN (zgr d)<|oN (zlq e)<|some [aH<|zgX d,aI<|zxL e])<|oN (zgr d)<|oN (zlq e)<|some [aH<|zgX d,aI<|zxL e])) (zK .i64 94701<|ln f,0,f,[],[],[],[],()))
def zqb (b:LI)(a:ac)(c:Int):Prop:=(∃N,zmO N b=some [aH a,aI c])/\(AnyH a)
def zhS (a:LI):Bool:=uC (T:=ac×Int) (λr=>zqb a r.1 r.2)
def zAa (a:LI):ac×Int:=uV (λr=>zqb a r.1 r.2)
def zmW (a:LI):ac:=(zAa a).1
def zmX (a:LI):Int:=(zAa a).2
def zz9 {a:LI}(h:zhS a=true):zqb a (zmW a) (zmX a):=uG h
def zQk (d:LI)(h:∃N,Ends (λa=>∃b c,a=[aH b,aI c]/\(AnyH b))<|zmO N d):zhS d=true:=by obtain⟨N,a,e,b,c,rfl,h⟩:=h;exact zbn ⟨(b,c),⟨N,e⟩,h⟩
def zvf:Run:=rF1 (dS .u8) λb=>(zhS b,[aH<|zmW b,aI<|zmX b])
def zJT (a:LI)(b:zhS a=true):∃N,zmO N a=some [aH<|zmW a,aI<|zmX a]:=by exact(zz9 b).1
def zDB:vU 71 zvf:=kF1 zRz zZ zyP zu zqo zJT
def zWR {a:LI}(h:a.length<=big):zhS a=true:=by
 refine zQk a (zcd λN b=>?_);unfold zmO oN;conv=>zeta
 refine zBi h (b h) ((λi t=>(t,(i:Int),a,[],[],[],[],())):Int->Int->_) (λrec i t=>by dsimp only) (λt c=>?_);exact zA (zwW c) (zA (at_t<|z4g h<|zKB _) ⟨_,rfl,_,_,rfl,(zsP<|zwW c).2.2⟩)
def z5B:zbf:=[(71,zvf)]++z5A
def z3c:zN z5B:=zi zDB zRz
def z5C:zbf:=z5B
def z3d:zN z5C:=z3c
def z5D:zbf:=z5C
def zyh:zN z5D:=z3d
def zjq (N:Nat)(c:LI):OA:=
 (r0 (σ:=(Int×Int×LI×lM×lN×lE×lE×Unit)) N (λd a=>let b:=(⟨a.2.2.1,0,a.1⟩:Cur); (cond (ilt a.2.1<|ln a.2.2.1) (cond (ilt a.2.1 4000) (oN (inb a.2.1<|ln a.2.2.1)<|d (wand .i64 (zK .i64 (zK .i64 (zkJ .i64 a.1 131)<|wcv .i64<|ix a.2.2.1 a.2.1 0) 7) 1073741823,zK .i64 a.2.1 1,a.2.2.1,a.2.2.2.1,a.2.2.2.2.1,a.2.2.2.2.2.1,a.2.2.2.2.2.2.1,()))<|oN (zgr b)<|some [aH<|zgX b])<|oN (zgr b)<|some [aH<|zgX b])) (zK .i64 94701<|ln c,0,c,[],[],[],[],()))
def zmk (b:LI)(a:ac):Prop:=(∃N,zjq N b=some [aH a])/\(AnyH a)
def zf7 (a:LI):Bool:=uC (T:=ac) (λr=>zmk a r)
def zHu (a:LI):ac:=uV (λr=>zmk a r)
def zi5 (a:LI):ac:=(zHu a)
def ztZ {a:LI}(h:zf7 a=true):zmk a (zi5 a):=uG h
def zHt (c:LI)(h:∃N,Ends (λa=>∃b,a=[aH b]/\(AnyH b))<|zjq N c):zf7 c=true:=by obtain⟨N,a,e,b,rfl,h⟩:=h;exact zbn ⟨b,⟨N,e⟩,h⟩
def zrG:Run:=rF1 (dS .u8) λb=>(zf7 b,[aH<|zi5 b])
def zBT (a:LI)(b:zf7 a=true):∃N,zjq N a=some [aH<|zi5 a]:=by exact(ztZ b).1
def zyy:vU 84 zrG:=kF1 zyh zZ zyP zu zqo zBT
def zwN {a:LI}(h:a.length<=big):zf7 a=true:=by
 refine zHt a (zcd λN b=>?_);unfold zjq oN;conv=>zeta
 refine zBi h (b h) ((λi t=>(t,(i:Int),a,[],[],[],[],())):Int->Int->_) (λrec i t=>by dsimp only) (λt c=>?_);exact zA (zwW c) ⟨_,rfl,_,rfl,(zsP<|zwW c).2.2⟩
def zmP (N:Nat)(a:LI):OA:=
 (oN (zhS a)<|some [aH<|zmW a,aI<|zmX a])
def zqc (b:LI)(a:ac)(c:Int):Prop:=(∃N,zmP N b=some [aH a,aI c])/\(AnyH a)
def zhT (a:LI):Bool:=uC (T:=ac×Int) (λr=>zqc a r.1 r.2)
def zAc (a:LI):ac×Int:=uV (λr=>zqc a r.1 r.2)
def zj6 (a:LI):ac:=(zAc a).1
def zj7 (a:LI):Int:=(zAc a).2
def zAb {a:LI}(h:zhT a=true):zqc a (zj6 a) (zj7 a):=uG h
def zQl (d:LI)(h:∃N,Ends (λa=>∃b c,a=[aH b,aI c]/\(AnyH b))<|zmP N d):zhT d=true:=by obtain⟨N,a,e,b,c,rfl,h⟩:=h;exact zbn ⟨(b,c),⟨N,e⟩,h⟩
def zvg:Run:=rF1 (dS .u8) λb=>(zhT b,[aH<|zj6 b,aI<|zj7 b])
def zJU (a:LI)(b:zhT a=true):∃N,zmP N a=some [aH<|zj6 a,aI<|zj7 a]:=by exact(zAb b).1
def zDC:vU 86 zvg:=kF1 zyh zZ zyP zu (zy []) zJU
def zEW {a:LI}(h:a.length<=big):zhT a=true:=by refine zQl a ⟨0,?_⟩;unfold zmP oN;exact zA (zWR h) ⟨_,rfl,_,_,rfl,(zz9<|zWR h).2⟩
def z5E:zbf:=[(84,zrG),(86,zvg)]++z5D
def z3e:zN z5E:=zi zyy (zi zDC zyh)
def zg2 (N:Nat)(h:LI):OA:=
 (r0 (σ:=(Int×Int×LI×lE×lM×lN×lE×lE×Unit)) N (λi a=>let h:=a.2.2.2.2;let c:=a.2.2.1;let d:=(⟨c,0,a.1⟩:Cur);let g:=aH<|zgX d;let e:=({ (zpn d) with b:=c}:Cur);let f:=({ (zO e 2) with b:=c}:Cur); (cond (ilt a.2.1<|ln c) (cond (ilt a.2.1 4000) (oN (inb a.2.1<|ln c)<|i (wand .i64 (zK .i64 (zK .i64 (zkJ .i64 a.1 131)<|wcv .i64<|ix c a.2.1 0) 7) 1073741823,zK .i64 a.2.1 1,c,a.2.2.2.1,h.1,h.2.1,h.2.2.1,h.2.2.2.1,()))<|oN (zgr d)<|oN (zcJ e 2)<|cond (zcX e 2) (some [g,aS .entry (zgX d).am])<|oN (zgW f)<|some [g,aS .entry<|zky f])<|oN (zgr d)<|oN (zcJ e 2)<|cond (zcX e 2) (some [g,aS .entry (zgX d).am])<|oN (zgW f)<|some [g,aS .entry<|zky f])) (zK .i64 94701<|ln h,0,h,[],[],[],[],[],()))
def zwv:=zy [(100,0,{n:=32,tm:=[(0,.sl 0 []),(3,ti),(4,ti)],lo:=[(0,[.sl 2 [],.sl 3 [],.sl 4 [],.sl 5 []])],ro:=[(0,.u8,false),(1,.entry,true),(2,.sl .int,true),(3,.mon,true),(4,.entry,true),(5,.entry,true)],sk:=[(0,2,0,.lp 0 0),(0,3,0,.sl 1 [])]})]
def zi3 (b:LI)(a:ac)(c:List aq):Prop:=(∃N,zg2 N b=some [aH a,aS .entry c])/\(AnyH a)
def zeF (a:LI):Bool:=uC (T:=ac×List aq) (λr=>zi3 a r.1 r.2)
def zoO (a:LI):ac×List aq:=uV (λr=>zi3 a r.1 r.2)
def zd2 (a:LI):ac:=(zoO a).1
def zd3 (a:LI):List aq:=(zoO a).2
def zyX {a:LI}(h:zeF a=true):zi3 a (zd2 a) (zd3 a):=uG h
def zyY (d:LI)(h:∃N,Ends (λa=>∃b c,a=[aH b,aS .entry c]/\(AnyH b))<|zg2 N d):zeF d=true:=by obtain⟨N,a,e,b,c,rfl,h⟩:=h;exact zbn ⟨(b,c),⟨N,e⟩,h⟩
def zmy:Run:=rF1 (dS .u8) λb=>(zeF b,[aH<|zd2 b,aS .entry<|zd3 b])
def zv1 (a:LI)(b:zeF a=true):∃N,zg2 N a=some [aH<|zd2 a,aS .entry<|zd3 a]:=by exact(zyX b).1
def zty:vU 85 zmy:=kF1 zyh zZ zyP zu zwv zv1
def zBr {a:LI}(h:a.length<=big):zeF a=true:=by
 refine zyY a (zcd λN b=>?_);unfold zg2 oN;conv=>zeta
 refine zBi h (b h) ((λi t=>(t,(i:Int),a,[],[],[],[],[],())):Int->Int->_) (λrec i t=>by dsimp only) (λt c=>?_);have g:=(zsP<|zwW c).2.2;exact zA (zwW c) (zA (zh8 (z4g h<|zKB _) 2)<|zbC (λ_=>⟨_,rfl,zgX ⟨a,0,t⟩,(zgX ⟨a,0,t⟩).am,rfl,g⟩) λ_=>zA (zFX<|z4g h<|zcj _ _) ⟨_,rfl,zgX ⟨a,0,t⟩,_,rfl,g⟩)
def z5F:zbf:=[(85,zmy)]++z5E
def zRA:zN z5F:=zi zty z3e
end
end Go.Proofs.YtapgkefgcbapcaaGreat.E
namespace Go.Proofs
open Go Go.Shelf
def Tryz.laysSort_ren:Go.Shelf.Ren:=⟨fun|189=>387|125=>455|257=>454|128=>481|129=>482|294=>472|295=>473|296=>474|297=>475|298=>476|299=>477|216=>478|300=>479|301=>480|328=>483|329=>484|330=>485|331=>486|332=>487|215=>488|343=>489|n=>n,fun|28=>32|3=>3|46=>268|0=>0|51=>300|53=>303|4=>4|183=>308|182=>307|131=>153|5=>5|9=>9|218=>315|222=>319|228=>321|229=>290|n=>n,fun|n=>n⟩
theorem Tryz.laysSort:Go.Proofs.Lays.n189 Tryz.prog Tryz.laysSort_ren:={
 mixed:=by kernel_rfl
 f125:=Tryz.func455.trans (congrArg some (by kernel_rfl))
 f128:=Tryz.func481.trans (congrArg some (by kernel_rfl))
 f129:=Tryz.func482.trans (congrArg some (by kernel_rfl))
 f189:=Tryz.func387.trans (congrArg some (by kernel_rfl))
 f215:=Tryz.func488.trans (congrArg some (by kernel_rfl))
 f216:=Tryz.func478.trans (congrArg some (by kernel_rfl))
 f257:=Tryz.func454.trans (congrArg some (by kernel_rfl))
 f294:=Tryz.func472.trans (congrArg some (by kernel_rfl))
 f295:=Tryz.func473.trans (congrArg some (by kernel_rfl))
 f296:=Tryz.func474.trans (congrArg some (by kernel_rfl))
 f297:=Tryz.func475.trans (congrArg some (by kernel_rfl))
 f298:=Tryz.func476.trans (congrArg some (by kernel_rfl))
 f299:=Tryz.func477.trans (congrArg some (by kernel_rfl))
 f300:=Tryz.func479.trans (congrArg some (by kernel_rfl))
 f301:=Tryz.func480.trans (congrArg some (by kernel_rfl))
 f328:=Tryz.func483.trans (congrArg some (by kernel_rfl))
 f329:=Tryz.func484.trans (congrArg some (by kernel_rfl))
 f330:=Tryz.func485.trans (congrArg some (by kernel_rfl))
 f331:=Tryz.func486.trans (congrArg some (by kernel_rfl))
 f332:=Tryz.func487.trans (congrArg some (by kernel_rfl))
 f343:=Tryz.func489.trans (congrArg some (by kernel_rfl))
 t0:=Tryz.underlying0
 a0:=Tryz.isAgg0
 z0:=Tryz.sizeOf0
 v0:=Tryz.zeroValue0
 t3:=Tryz.underlying3
 a3:=Tryz.isAgg3
 z3:=Tryz.sizeOf3
 v3:=Tryz.zeroValue3
 t4:=Tryz.underlying4
 a4:=Tryz.isAgg4
 z4:=Tryz.sizeOf4
 v4:=Tryz.zeroValue4
 t5:=Tryz.underlying5
 a5:=Tryz.isAgg5
 z5:=Tryz.sizeOf5
 v5:=Tryz.zeroValue5
 t9:=Tryz.underlying9
 a9:=Tryz.isAgg9
 z9:=Tryz.sizeOf9
 v9:=Tryz.zeroValue9
 t28:=Tryz.underlying32
 a28:=Tryz.isAgg32
 z28:=Tryz.sizeOf32
 v28:=Tryz.zeroValue32
 t46:=Tryz.underlying268
 a46:=Tryz.isAgg268
 z46:=Tryz.sizeOf268
 v46:=Tryz.zeroValue268
 t51:=Tryz.underlying300
 a51:=Tryz.isAgg300
 z51:=Tryz.sizeOf300
 v51:=Tryz.zeroValue300
 t53:=Tryz.underlying303
 a53:=Tryz.isAgg303
 z53:=Tryz.sizeOf303
 v53:=Tryz.zeroValue303
 t131:=Tryz.underlying153
 a131:=Tryz.isAgg153
 z131:=Tryz.sizeOf153
 v131:=Tryz.zeroValue153
 t182:=Tryz.underlying307
 a182:=Tryz.isAgg307
 z182:=Tryz.sizeOf307
 v182:=Tryz.zeroValue307
 t183:=Tryz.underlying308
 a183:=Tryz.isAgg308
 z183:=Tryz.sizeOf308
 v183:=Tryz.zeroValue308
 t218:=Tryz.underlying315
 a218:=Tryz.isAgg315
 z218:=Tryz.sizeOf315
 v218:=Tryz.zeroValue315
 t222:=Tryz.underlying319
 a222:=Tryz.isAgg319
 z222:=Tryz.sizeOf319
 v222:=Tryz.zeroValue319
 t228:=Tryz.underlying321
 a228:=Tryz.isAgg321
 z228:=Tryz.sizeOf321
 v228:=Tryz.zeroValue321
 t229:=Tryz.underlying290
 a229:=Tryz.isAgg290
 z229:=Tryz.sizeOf290
 v229:=Tryz.zeroValue290}
def Tryz.laysCompact_ren:Go.Shelf.Ren:=⟨fun|20=>388|n=>n,fun|22=>32|3=>3|4=>4|0=>0|n=>n,fun|n=>n⟩
theorem Tryz.laysCompact:Go.Proofs.Lays2.n20 Tryz.prog Tryz.laysCompact_ren:={
 mixed:=by kernel_rfl
 f20:=Tryz.func388.trans (congrArg some (by kernel_rfl))
 t0:=Tryz.underlying0
 a0:=Tryz.isAgg0
 z0:=Tryz.sizeOf0
 v0:=Tryz.zeroValue0
 t3:=Tryz.underlying3
 a3:=Tryz.isAgg3
 z3:=Tryz.sizeOf3
 v3:=Tryz.zeroValue3
 t4:=Tryz.underlying4
 a4:=Tryz.isAgg4
 z4:=Tryz.sizeOf4
 v4:=Tryz.zeroValue4
 t22:=Tryz.underlying32
 a22:=Tryz.isAgg32
 z22:=Tryz.sizeOf32
 v22:=Tryz.zeroValue32
 i3:=by kernel_rfl}
end Go.Proofs
namespace Go.Proofs.YtapgkefgcbapcaaGreat.E
open Go
set_option linter.defProp false
set_option linter.constructorNameAsVariable false
set_option linter.unusedVariables false
set_option maxRecDepth 100000
set_option linter.unusedSimpArgs false
set_option linter.unusedSectionVars false
noncomputable section
section
open Go Go.Sort Go.Proofs
def zZq (blk a b:Nat)(d:LI)(w:World)(g:Go.Sort.Holds (Value.int .i64) w blk a d.toArray)(c:blk<w.heap.size)(f:d.length<4611686018427387904) :
 Calls Tryz.prog 387 #[.slice (some ⟨blk,a,none⟩) d.length b] w λe i =>
  e = .returned (.tuple #[])/\∃n h,i=grow (putRow (Value.int .i64) (Sort.ahead w n) blk a (d.mergeSort λx y=>decide (x<=y)).toArray) h :=
 Any.slices_Sort_int Tryz.laysSort blk a b d w g c f
def z1X (p:Option Addr)(a:Nat)(w:World):Calls Tryz.prog 387 #[.slice p 0 a] w λe b=>e = .returned (.tuple #[])/\b=w :=
 Any.slices_Sort_int_none Tryz.laysSort p a w
def zPj (blk a b:Nat)(c:LI)(w:World)(g:Go.Sort.Holds (Value.int .i64) w blk a c.toArray)(f:c.length<=9223372036854775807)(d:c.length<=b) :
 Calls Tryz.prog 388 #[.slice (some ⟨blk,a,none⟩) c.length b] w λe h=>e = .returned (.slice (some ⟨blk,a,none⟩) (Lib.compact c).length b)/\∃q,h=putRow (Value.int .i64) (Sort.ahead w q) blk a (Lib.compact c++List.replicate (c.length-(Lib.compact c).length) 0).toArray :=
 Any.slices_Compact_int Tryz.laysCompact blk a b c w g f d
def zRq (a:Option Addr)(b:Nat)(w:World):Calls Tryz.prog 388 #[.slice a 0 b] w λe c=>e = .returned (.slice a 0 b)/\c=w :=
 Any.slices_Compact_int_empty Tryz.laysCompact a b w
def zfv (a:LI):LI:=Lib.compact (a.mergeSort λx y=>decide (x<=y))
def zBc (a:LI):(zfv a).length<=a.length:=by have:=Lib.compact_length_le (a.mergeSort λx y=>decide (x<=y));simpa [zfv] using this
def zV5 {blk a b n:Nat}{d:LI}{w:World}(h:d.length=n)(g:Go.Sort.Holds (Value.int .i64) w blk a d.toArray)(c:blk<w.heap.size)(f:n<4611686018427387904) :
 Calls Tryz.prog 387 #[.slice (some ⟨blk,a,none⟩) n b] w λe j =>
  e = .returned (.tuple #[])/\∃n i,j=grow (putRow (Value.int .i64) (Sort.ahead w n) blk a (d.mergeSort λx y=>decide (x<=y)).toArray) i:=by
 subst h;exact zZq blk a b d w g c f
def zLo {blk a b n:Nat}{c:LI}{w:World}(h:c.length=n)(g:Go.Sort.Holds (Value.int .i64) w blk a c.toArray)(f:n<=9223372036854775807)(d:n<=b) :
 Calls Tryz.prog 388 #[.slice (some ⟨blk,a,none⟩) n b] w λe i=>e = .returned (.slice (some ⟨blk,a,none⟩) (Lib.compact c).length b)/\∃q,i=putRow (Value.int .i64) (Sort.ahead w q) blk a (Lib.compact c++List.replicate (n-(Lib.compact c).length) 0).toArray:=by
 subst h;exact zPj blk a b c w g f d
def heap_put {w:World}{g off n:Nat}{os:Array Obj}{a:LV}{e:TypeId}{b:Nat×Nat}(d:Array Int)(c:w.heap[g]?=some (.cells a e b)) :
 (grow (putRow (Value.int .i64) (Sort.ahead w n) g off d) os).heap[g]?=some (.cells (Sort.putCells (Value.int .i64) off d a) e b):=by
 have hg:g<w.heap.size:=(qK.1 c).1;rw[heap_grow_old _ _ (by simpa using hg)]
 simp[putRow,mapBlock,Sort.ahead,uL,c,onCells]
def z0G {w:World}{g off n:Nat}{a:LV}{e:TypeId}{b:Nat×Nat}(d:Array Int)(c:w.heap[g]?=some (.cells a e b)) :
 (putRow (Value.int .i64) (Sort.ahead w n) g off d).heap[g]?=some (.cells (Sort.putCells (Value.int .i64) off d a) e b):=by
 simp[putRow,mapBlock,Sort.ahead,uL,c,onCells]
def size_put {a:LV}{off:Nat}(d:Array Int):(Sort.putCells (Value.int .i64) off d a).size=a.size:=by simp[Sort.putCells]
def zOe:zfv []=[]:=by simp[zfv,Lib.compact,Lib.compactUpTo]
def zWl {a:LV}{off:Nat}(d:LI)(j:Nat)(x:Int)(b:d[j]?=some x)(h:off+d.length<=a.size):(Sort.putCells (Value.int .i64) off d.toArray a)[off+j]?=some (.int .i64 x):=by have f:j<d.length:=(qA.1 b).1;have e:d[j]=x:=(qA.1 b).2;have c:off+j<a.size:=(by omega);simp[Sort.putCells,c,show off<=off+j by omega,show off+j<off+d.length by omega,f,e]
def zR5 {w:World}{g c:Nat}{a:LV}{e:TypeId}{d:LI}(f:w.heap[g]?=some (.cells a e (0,0)))(i:∀(j:Nat) (x:Int),d[j]?=some x->a[c+j]?=some (.int .i64 x)):Go.Sort.Holds (Value.int .i64) w g c d.toArray:=by intro j h;have b:j<d.length:=(by simpa using h);refine⟨?_,by simp[World.frozen?,f]⟩;have:=i j d[j] (by simp[b]);simp[World.cell?,f,this,b]
def z2u {b off c n:Nat}{a:LI}{w:World}{d:LV}{e:TypeId}(t:a.length=n)(i:w.heap[b]?=some (.cells d e (0,0)))(u:∀(j:Nat) (x:Int),a[j]?=some x->d[off+j]?=some (.int .i64 x))(s:off+n<=d.size)(m:n<4611686018427387904)(g:n<=c) :
 Calls Tryz.prog 232 #[.slice (some ⟨b,off,none⟩) n c] w λr p=>r = .returned (.slice (some ⟨b,off,none⟩) (zfv a).length c)/\
  ∃k os q,p=putRow (Value.int .i64) (Sort.ahead (grow (putRow (Value.int .i64) (Sort.ahead w k) b off (a.mergeSort λx y=>decide (x<=y)).toArray) os) q) b off (zfv a++List.replicate (n-(zfv a).length) 0).toArray:=by
 have v:=zR5 i u;have f:b<w.heap.size:=(qK.1 i).1;have h:(a.mergeSort λx y=>decide (x<=y)).length=n:=by simpa using t
 have l:∀k os,Go.Sort.Holds (Value.int .i64) (grow (putRow (Value.int .i64) (Sort.ahead w k) b off (a.mergeSort λx y=>decide (x<=y)).toArray) os) b off (a.mergeSort λx y=>decide (x<=y)).toArray:=λk os=>
  zR5 (heap_put _ i) (λj x z=>zWl _ j x z (by rw[h];exact s))
 clear u i s
 go_enter Tryz.func232,Tryz.ntmps232
 go_wp2_with (first
  |(go_at_call 387;refine(zV5 t v f m).mono ?_;rintro r p ⟨rfl,k,os,rfl⟩)
  |(go_at_call 388;refine(zLo h (l _ _) (by omega) g).mono ?_;rintro r p ⟨rfl,q,rfl⟩))
 go_ret
 exact⟨rfl,_,_,_,rfl⟩
def zZE (p:Option Addr)(a:Nat)(w:World):Calls Tryz.prog 232 #[.slice p 0 a] w λr b=>r = .returned (.slice p 0 a)/\b=w:=by
 go_enter Tryz.func232,Tryz.ntmps232
 go_wp2_with (first
  |(go_at_call 387;refine(z1X _ _ _).mono ?_;rintro r b ⟨rfl,rfl⟩)
  |(go_at_call 388;refine(zRq _ _ _).mono ?_;rintro r b ⟨rfl,rfl⟩))
 go_ret;exact⟨rfl,rfl⟩
end
section
open Go Go.Sort Go.Proofs
def z3z {w:World}{g off n:Nat}{os:Array Obj}(d:Array Int){x:Nat}(b:x<w.heap.size)(a:x≠g):(grow (putRow (Value.int .i64) (Sort.ahead w n) g off d) os).heap[x]?=w.heap[x]?:=by rw[heap_grow_old _ _ (by simpa using b)];have:g≠x:=λe=>a e.symm;simp[putRow,mapBlock,Sort.ahead,uL,this]
def z0F {w:World}{g off n:Nat}(d:Array Int){x:Nat}(a:x≠g):(putRow (Value.int .i64) (Sort.ahead w n) g off d).heap[x]?=w.heap[x]?:=by have:g≠x:=λe=>a e.symm;simp[putRow,mapBlock,Sort.ahead,uL,this]
def z6W {w:World}{u:Value}{l:LI}{K:zU}(X:Rep true w u (.s .int l) K)(hK:∀x,K x->x<w.heap.size) :
 Calls Tryz.prog 232 #[u] w λr g=>∃v,r = .returned v/\Rep true g v (.s .int<|zfv l) K/\g.os=w.os/\g.tape=w.tape/\g.output=w.output/\w.heap.size<=g.heap.size/\
  ∀b,b<w.heap.size->¬ K b->g.heap[b]?=w.heap[b]?:=by
 cases X with
 |nil t=>refine(zZE none 0 w).mono ?_;rintro r g ⟨rfl,rfl⟩;exact⟨_,rfl,by rw[zOe];exact .nil _ _,rfl,rfl,rfl,qS _,λ_ _ _=>rfl⟩
 |void t a S ho=>cases ho
 |sl t l b f G F e fz V K' S R I B A C Q W T hv Y=>have hz:=I rfl;subst hz;have d:Ty.int.wi=1:=rfl;have N:∀(j:Nat) (x:Int),l[j]?=some x->F[f+j]?=some (.int .i64 x):=(by intro j x p;have J:j<l.length:=(qA.1 p).1;have E:=hv j 0 J (by rw[d];decide);have H:=(Y j x p 0 (.i .i64 x) rfl).int_inv;rw[d,kT,j3,H]at E;exact E);rw[d,kT]at C;have z:l.length<4611686018427387904:=(by unfold big at B;omega);refine(z2u rfl R N (by omega) z A).mono ?_;rintro r g ⟨rfl,k,P,q,rfl⟩;have Z:=zBc l;have a0:(l.mergeSort λx y=>decide (x<=y)).length=l.length:=(by simp);have E:=heap_put (off:=f) (n:=k) (os:=P) (l.mergeSort λx y=>decide (x<=y)).toArray R;have H:=z0G (off:=f) (n:=q) (zfv l++List.replicate (l.length-(zfv l).length) 0).toArray E;refine⟨_,rfl,?_,rfl,rfl,rfl,?_,λx p M=>?_⟩;{refine .sl .int (zfv l) b f G _ e (0,0) (λi _=>.int .i64 ((zfv l).getD i 0)) (λ_ _ _=>False) K H (λ_=>rfl) (by omega) (by omega) ?_ Q (λ_ _ _ _ _ h=>h.elim) (λ_ _ _ _ _ _ _ _ _ _ h=>h.elim) ?_ ?_;{rw [d,kT];rw[size_put,size_put];exact C};{intro i j U J;have L:j=0:=(by rw[d]at J;omega);subst L;rw[d,kT,j3];refine zWl _ i _ ?_ ?_;{rw [qT U];simp[List.getD,U]};{rw [size_put,jL,List.length_replicate];omega}};{intro i x p j c m;have O:(zfv l).getD i 0=x:=(by simp[List.getD,p]);cases j with|zero=>simp only[Ty.cells,qH,qC]at m;subst m;rw[O];exact .i _ _ _|succ j=>simp[Ty.cells]at m}};{have:(putRow (Value.int .i64) (Sort.ahead (grow (putRow (Value.int .i64) (Sort.ahead w k) b f (l.mergeSort λx y=>decide (x<=y)).toArray) P) q) b f (zfv l++List.replicate (l.length-(zfv l).length) 0).toArray).heap.size=w.heap.size+P.size:=(by simp[putRow,mapBlock,grow,Sort.ahead]);omega};{have D:x≠b:=λe=>M (e ▸ Q);rw[z0F _ D,z3z _ p D]}
def zhQ (_:LI):Bool:=true
abbrev zko (l:LI):LI:=zfv l
def zon:LW
 |[.one<|.s .int b]=>some (zhQ b,[.one<|.s .int<|zko b])
 |_=>none
def zDx:zdT Tryz.prog 232 [true] none zon:=by
 refine zdT.of (by simp) λI z=>⟨zhJ (by kernel_rfl),?_⟩;intro w K k g Q d L H f J M a;unfold zon at a;split at a
 .rename_i a0;cases a;have E:g.length=1:=d
  match g,E with
  |[u],_=>have y:Rep true w u (.s .int a0) (K 0):=H 0 _ u rfl rfl;refine(z6W y λx d=>f 0 x (by simp[zq,AV.cvs]) d).mono ?_;rintro r R ⟨v,rfl,l,m,n,p,q,t⟩;refine⟨m,n,p,q,λb A F=>t b A (F 0 (by simp[zq,AV.cvs]) rfl),[v],λ_=>K 0,⟨rfl,?_⟩,rfl,?_,?_,?_⟩;{intro i c x B d;cases i with|zero=>simp only[qH,qC]at d;subst d;have:c = .s .int (zfv a0):=(by simpa [zq,AV.cvs] using B.symm);subst this;exact l|succ i=>simp at d};{intro i x _ e;have:=f 0 x (by simp[zq,AV.cvs]) e;exact⟨by omega,.inl ⟨0,by simp[zq,AV.cvs],rfl,e⟩⟩};{intro i j x C D G;simp[zq,AV.cvs]at C D;omega};{intro N O P h;cases h}
 {cases a}
end
def zhy:LI->Int->LI
 |[],n=>[n]
 |x::l,n=>if x<n then x::zhy l n else if x=n then x::l else n::x::l
def zjr (l:LI):Prop:=l.Pairwise (· < ·)
def zHb:∀(l:LI) (n x:Int),x∈zhy l n↔x=n\/x∈l
 |[],n,x=>by simp[zhy]
 |y::l,n,x=>by unfold zhy;split;{have:=zHb l n x;simp only[qG,this];constructor;{rintro (h|h|h)<;>simp [h]};{rintro (h|h|h)<;>simp [h]}};{split;{rename_i h;subst h;simp only[qG];constructor;{exact λh=>.inr h};{rintro (h|h);{exact .inl h};{exact h}}};{simp only [qG]}}
def zXl:∀(l:LI) (n:Int),zjr l->zjr (zhy l n)
 |[],n,_=>by simp[zhy,zjr]
 |y::l,n,h=>by have b:=kV.1 h;unfold zhy;split;{rename_i c;refine kV.2 ⟨λz a=>?_,zXl l n b.2⟩;rcases (zHb l n z).1 a with rfl|a;{exact c};{exact b.1 z a}};{split;{exact h};{rename_i d e;refine kV.2 ⟨λz a=>?_,h⟩;rcases qG.1 a with rfl|a;{omega};{have:=b.1 z a;omega}}}
def z2e:∀(l m:LI),zjr l->zjr m->(∀x,x∈l↔x∈m)->l=m
 |[],[],_,_,_=>rfl
 |[],y::m,_,_,h=>by have:=(h y).2 (by simp);cases this
 |x::l,[],_,_,h=>by have:=(h x).1 (by simp);cases this
 |x::l,y::m,f,g,h=>by
  have c:=kV.1 f;have d:=kV.1 g;have e:x=y:=by have a:x∈y::m:=(h x).1 (by simp);have b:y∈x::l:=(h y).2 (by simp);rcases qG.1 a with a|a;{exact a};{rcases qG.1 b with b|b;{exact b.symm};{have:=d.1 x a;have:=c.1 y b;omega}}
  subst e;have i:=z2e l m c.2 d.2 (λz=>by
   constructor
   .intro hz;rcases qG.1 ((h z).1 (by simp[hz])) with a|a
    .have:=c.1 z hz;omega
    .exact a
   .intro hz;rcases qG.1 ((h z).2 (by simp[hz])) with a|a
    .have:=d.1 z hz;omega
    .exact a)
  rw[i]
def zhz (l:LI)(a:LI):LI:=a.foldl zhy l
def zPb:∀(a l:LI),zjr l->zjr (zhz l a)
 |[],_,h=>h
 |x::a,l,h=>zPb a (zhy l x) (zXl l x h)
def zyJ:∀(a l:LI) (x:Int),x∈zhz l a↔x∈l\/x∈a
 |[],l,x=>by simp[zhz]
 |y::a,l,x=>by have:=zyJ a (zhy l y) x;unfold zhz at this ⊢;rw[kY,this,zHb,qG];constructor;{rintro ((h|h)|h)<;>simp [h]};{rintro (h|h|h)<;>simp [h]}
def zKR {d:LI}(h:d.Pairwise (·<=·)){i j:Nat}(a:i<=j)(b:j<d.length):d[i]<=d[j]:=by by_cases e:i=j;{subst e;exact kN _};{exact List.pairwise_iff_getElem.1 h i j (by omega) b (by omega)}
def zjy {d:LI}{i:Nat}(h:i<d.length):d.toArray[i]! = d[i]:=by simp[h]
def zZx {d:LI}(h:d.Pairwise (·<=·)):zjr (Lib.compact d):=by unfold zjr Lib.compact Lib.compactUpTo;refine List.pairwise_map.2 (List.Pairwise.imp_of_mem ?_<|List.Pairwise.filter _ List.pairwise_lt_range);intro a b p k j;have f:=uD.1 k;have c:b<d.length:=kD.1 f.1;have i:=f.2;have g:a<d.length:=(by omega);rw[zjy g,zjy c];have l:d[a]<=d[b-1]:=zKR h (by omega) (by omega);have m:d[b-1]<=d[b]:=zKR h (by omega) c;have n:d[b-1]≠d[b]:=(by intro e;have:Lib.keeps d.toArray b=false:=Lib.keeps_neg (by omega) (by rw[zjy c,zjy (by omega)];exact e.symm);rw[this]at i;cases i);omega
def mem_compact {d:LI}(x:Int):x∈Lib.compact d↔x∈d:=by
 unfold Lib.compact Lib.compactUpTo;simp only[jF,uD,kD];constructor;{rintro⟨j,⟨a,-⟩,rfl⟩;rw[zjy a];exact jB a}
 .intro hx;obtain ⟨j,a,rfl⟩:=vE.1 hx;have b:∀(j:Nat) (a:j<d.length),∃i,(i<d.length/\Lib.keeps d.toArray i=true)/\d.toArray[i]! = d[j]:=by
   intro j
   induction j with
   |zero=>exact fun a=>⟨0,⟨a,Lib.keeps_lt_one _ 0 (by decide)⟩,zjy a⟩
   |succ j g=>intro a;by_cases e:d[j+1]=d[j];{obtain⟨i,c,f⟩:=g (by omega);exact⟨i,c,f.trans e.symm⟩};{exact⟨j+1,⟨a,Lib.keeps_pos (by rw[zjy a,zjy (by omega)];exact e)⟩,zjy a⟩}
  exact b j a
def zyQ (d:LI):zhz [] d=zfv d:=by have e:(d.mergeSort λx y=>decide (x<=y)).Pairwise (·<=·):=(by have:=List.pairwise_mergeSort (le:=λx y:Int=>decide (x<=y)) (λa b c f g=>by simp at *;omega) (λa b=>by simp;omega) d;exact this.imp (λh=>by simpa using h));refine z2e _ _ (zPb d [] List.Pairwise.nil) (zZx e) (λx=>?_);rw[zyJ,zfv,mem_compact,List.mem_mergeSort];simp
def zHp:∀(l:LI) (n:Int),(zhy l n).length<=l.length+1
 |[],n=>by simp[zhy]
 |x::l,n=>by have:=zHp l n;unfold zhy;split;{simp;omega};{split<;>simp}
def zNf:Nat:=1073741824
def zmn {a:Type}{l:List a}(h:l.length<=2147483648):few (ln l)=true:=zgZ h
def z1o {l:LI}{i:Nat}{n:Int}(a:i<l.length)(b:¬ l[i]<n):l.take i++zhy (l.drop i) n=if l[i]=n then l else l.take i++[n]++l.drop i:=by rw[jO a];unfold zhy;rw[if_neg b];split;{rw [<- jO a,vB]};{simp}
def zik (l:LI)(_:Int):Bool:=pc (l.length<=zNf)
abbrev zqi (l:LI)(n:Int):LI:=zhy l n
def ztY:LW
 |[.one<|.s .int b,.one<|.i .i64 c]=>some (zik b c,[aS .int<|zqi b c])
 |_=>none
def zx5 (N:Nat)(m:LI)(n:Int):OA:=
 (r0 (σ:=(Int×Int×LI×Unit)) N (λp e=>let d:=e.2.2.1;let a:=e.2.1;let c:=ln d;let h:=inr 0 a c;let g:=inr a c c;let k:=ap []<|tk d a;let i:=few<|ln k;let f:=few<|ln<|ap k [e.1];let l:=ap (ap k [e.1])<|dp d a;let b:=aS .int l;let j:=few<|ln l; (cond (ilt a c) (oN (inb a c)<|cond (ilt (ix d a 0) e.1) (p (e.1,zK .i64 a 1,d,()))<|cond (ilt a c) (oN (inb a c)<|cond (ieq (ix d a 0) e.1) (some [aS .int d])<|oN h<|oN i<|oN f<|oN g<|oN j<|some [b])<|oN h<|oN i<|oN f<|oN g<|oN j<|some [b])<|cond (ilt a c) (oN (inb a c)<|cond (ieq (ix d a 0) e.1) (some [aS .int d])<|oN h<|oN i<|oN f<|oN g<|oN j<|some [b])<|oN h<|oN i<|oN f<|oN g<|oN j<|some [b])) (n,0,m,()))
def zUD:=zy [(234,0,{n:=47,tm:=[(0,.sl 0 []),(1,ti),(5,ti)],lo:=[],ro:=[(0,.int,true)]})]
def zVy (N:Nat)(a:LI)(b:Int):zQM (cQ zLq zoh zHg zNp) zUD N 12 234 [true,false] [aS .int a,aI b]=zx5 N a b:=by kernel_rfl
def zSY (a:LI)(b:Int)(w:zbY big [aS .int a,aI b])(r:zik a b=true):∃N,zx5 N a b=some [aS .int<|zqi a b]:=by
 have x:a.length<=1073741824:=zS.1 r;have u:a.length<=big:=(by rw[zhP];omega);refine zcd λN j=>?_;unfold zx5 oN;conv=>zeta
 have d:∀i,i<=a.length->few (ln<|ap []<|tk a (i:Int))=true/\few (ln<|ap (ap []<|tk a (i:Int)) [b])=true/\few (ln<|ap (ap (ap []<|tk a (i:Int)) [b])<|dp a (i:Int))=true/\ap (ap (ap []<|tk a (i:Int)) [b]) (dp a (i:Int))=a.take i++[b]++a.drop i:=(by intro i c;have e:(i:Int).toNat=i:=(by omega);refine⟨zmn ?_,zmn ?_,zmn ?_,?_⟩<;>simp [ap,tk,dp,e]<;>omega);refine(zpR a.length (λi (_:Unit)=>(b,(i:Int),a,())) _ (λ_ _=>True) (λi _=>some [AV.one<|.s .int<|a.take i++zhy (a.drop i) b]) (λi t rec c _ v=>?_) (λt rec _=>?_) _ 0 () trivial (jU _)<|j (by omega)).trans ?_;{obtain⟨k,l,g,h⟩:=d i (Nat.le_of_lt c);have m:inr 0 (i:Int) (ln a)=true:=qL (by simp only[ln];omega);have n:inr (i:Int) (ln a) (ln a)=true:=qL (by simp only[ln];omega);rw[h] at g;simp only[zbx c,zY c,zbi c,cT,zV c u,k,l,g,h,m,n];cases p:ilt a[i] b;{have f:=jT p;rw[z1o c f];cases q:ieq a[i] b;{rw [if_neg<|jT q];rfl};{rw [if_pos<|qD q];rfl}};{have f:=qD p;simp only[cT];refine(v () trivial).trans ?_;rw[jO c,List.take_succ_eq_append_getElem c];show _=some [AV.one<|.s .int<|a.take i++zhy (a[i]::a.drop (i+1)) b];rw[zhy,if_pos f,j6,List.singleton_append]}};{obtain⟨k,l,g,h⟩:=d a.length (qS _);have m:inr 0 ((a.length:Nat):Int) (ln a)=true:=qL (by simp only[ln];omega);have n:inr ((a.length:Nat):Int) (ln a) (ln a)=true:=qL (by simp only[ln];omega);rw[h] at g;simp only[zbq,cF,cT,k,l,g,h,m,n];simp[zhy]};{simp}
def zMr:zdT Tryz.prog 234 [true,false] none ztY:=by refine zwX (zf3 zeB zD zB zu) (zhJ (by kernel_rfl)) (by kernel_rfl) ?_;intro a g f e h;have c:=zhq e;unfold ztY at h;split at h;{obtain⟨d,rfl⟩:=zef h;obtain⟨N,b⟩:=zSY _ _ (by exact c) d;exact⟨_,N,12,(zVy N _ _ ).trans b⟩};{cases h}
def tctA:zfu:=[(232,[true],none,zon),(234,[true,false],none,ztY)]++zNp
def zDr:zen tctA:=zny zu (by
 intro x a;simp only[qG,qO,or_false]at a;rcases a with rfl|rfl
 .exact zDx
 .exact zMr)
def z9s:zbf:=[(73,zv7),(154,zCg),(233,zCh),(231,zCf),(227,zi1),(223,zi1),(121,zmz)]++zLq
def zuI:zN z9s:=zi zzw (zi zE7<|zi zE8<|zi zE6<|zi zw1<|zi zwY<|zi zzx zeB)
def picks {a:Type}(f:Nat->a->Option Int):List a->Nat->LI
 |[],_=>[]
 |x::l,i=>match f i x with
  |some n=>n::picks f l (i+1)
  |none=>picks f l (i+1)
def znI {a:Type}(f:Nat->a->Option Int):∀(l:List a) (i:Nat),(picks f l i).length<=l.length
 |[],_=>qS _
 |x::l,i=>by have:=znI f l (i+1);unfold picks;split<;>simp<;>omega
def zHq {b:Type}(o:Option Int)(t:LI)(a:LI->Option b):Option b:=match o with
 |some n=>bif zik t n then a (zhy t n) else none
 |none=>a t
def zFV {b:Type}(o:Option Int)(t:LI)(a:LI->Option b):Option b:=match o with
 |some n=>bif few (ln<|ap t [n]) then a (ap t [n]) else none
 |none=>a t
def zwT {a d:Type}(f:Nat->a->Option Int)(K:LI->Option d):∀(l:List a) (i:Nat) (t:LI),t.length+l.length<=zNf->
 goL (λi x t c=>zHq (f i x) t c) K l i t=K (zhz t<|picks f l i)
 |[],_,_,_=>rfl
 |x::l,i,t,h=>by simp only[qY]at h;simp only[goL,zHq,picks];cases f i x with|none=>exact zwT f K l (i+1) t (by omega)|some n=>have b:zik t n=true:=zbn (by omega);have:=zHp t n;simp only[b,cT];exact zwT f K l (i+1) (zhy t n) (by omega)
def zwS {a c:Type}(f:Nat->a->Option Int)(K:LI->Option c):∀(l:List a) (i:Nat) (t:LI),t.length+l.length<=2147483648->
 goL (λi x t b=>zFV (f i x) t b) K l i t=K (t++picks f l i)
 |[],_,_,_=>by simp[goL,picks]
 |x::l,i,t,h=>by simp only[qY]at h;simp only[goL,zFV,picks];cases f i x with|none=>exact zwS f K l (i+1) t (by omega)|some n=>simp only[zmn (show (ap t [n]).length<=2147483648 by simp[ap];omega),cT];refine(zwS f K l (i+1) (ap t [n]) (by simp[ap];omega)).trans ?_;simp[ap]
def zyR:∀(a t:LI),(zhz t a).length<=t.length+a.length
 |[],_=>qS _
 |x::a,t=>by have:=zyR a (zhy t x);have:=zHp t x;simp only[zhz,kY,qY] at *;omega
def zkL (s:k0):Option Int:=bif ine s.af (-1) then some s.af else none
def ze4 (h:ac)(m:Int):LI:=zfv (picks (λ_ s=>zkL s) (zbl h m).ae 0)
def zNa {h:ac}(a:zcv h)(m:Int):(zbl h m).ae.length<=1048576:=(z3W a m).len
def zB5 {h:ac}(a:zcv h)(m:Int):(ze4 h m).length<=1048576:=qU (zBc _) (qU (znI _ _ 0)<|zNa a m)
def zg6 (h:ac)(m:Int):LI:=ze4 h m
def zlR:Run:=rF2 dH dI λb c=>(zgF b c,[aS .int<|zg6 b c])
def zAV (N:Nat)(f:ac)(g:Int):OA:=
 let b:=zbl f g; (oN (zgF f g)<|r0 (σ:=(Int×Int×Int×Int×LI×lS×lM×lB×lG×LI×lK×Unit)) N (λh a=>let b:=a.2.2.2.2.2.2;let d:=a.2.2.2.2.1;let c:=a.2.2.2.2.2.1;let e:=(ix c a.1 zQ).af; (cond (ilt a.1<|ln c) (oN (inb a.1<|ln c)<|cond (ine e<|-1) (oN (inb a.1<|ln c)<|oN (zik d e)<|h (zK .i64 a.1 1,a.2.1,a.2.2.1,a.2.2.2.1,zqi d e,c,b.1,b.2.1,b.2.2.1,b.2.2.2.1,b.2.2.2.2.1,()))<|h (zK .i64 a.1 1,a.2.1,a.2.2.1,a.2.2.2.1,d,c,b.1,b.2.1,b.2.2.1,b.2.2.2.1,b.2.2.2.2.1,()))<|oN (few<|ln<|ap [] d)<|some [aS .int<|ap [] d])) (0,b.an,b.ar,b.Own,[],b.ae,b.Out,b.av,b.ad,b.Outs,b.ai,()))
def zNy:=zy [(98,0,{n:=41,tm:=[(5,.sl 0 []),(6,.lp 0 0),(8,ti)],lo:=[(0,[.sl 1 [],.sl 2 [],.sl 3 [],.sl 4 [],.sl 5 [],ti,ti,.sl 6 [],ti])],ro:=[(0,.int,true),(1,.slot,true),(2,.sl .int,true),(3,.bool,true),(4,.guest,true),(5,.int,true),(6,.kept,true)]})]
def zMP (b:ac)(a:Int)(g:zgF b a=true):∃N,zAV N b a=some [aS .int<|zg6 b a]:=by
 have f:=zS.1 g;have h:=zNa f a;have c:=(zcY (n:=(zbl b a).ae.length) h).1;refine zcd λN e=>?_;unfold zAV oN;conv=>zeta
 rw[show zgF b a=true from zbn f,cT];refine(zbg ((zbl b a).ae) (λi (t:LI)=>((i:Int),(zbl b a).an,(zbl b a).ar,(zbl b a).Own,t,(zbl b a).ae,(zbl b a).Out,(zbl b a).av,(zbl b a).ad,(zbl b a).Outs,(zbl b a).ai,())) _ (λ_ (x:k0) (t:LI) j=>zHq (zkL x) t j) (λ(t:LI)=>cond (few<|ln<|ap [] t) (some [.one<|.s .int<|ap [] t]) none) (λi d t rec=>?_) (λt rec=>?_) _ ([])<|e c).trans ?_;{simp only [zbx d,zY d,zbi d,zV d c,cT];unfold zkL;cases ine (zbl b a).ae[i].af (-1)<;>rfl};{simp only [zbq,cF]};rw[zwT (λ_ s=>zkL s) _ _ 0 [] (by simp[zNf];omega),zyQ,ze9];rw[zmn (qU (zB5 f a) (by decide):(zfv<|picks (λ_ s=>zkL s) (zbl b a).ae 0).length<=2147483648)];rfl
def zGC:vU 98 zlR:=kF2 zuI zD zB zDr zNy zMP
def zAE (N:Nat)(b:ac)(c:Int):OA:=
 (oN (zb0 c<|ln b.aa)<|cond (nB<|zfj c<|ln b.aa) (some [aS .int []])<|oN (inb c<|ln b.aa)<|r0 (σ:=(Int×Int×Int×LI×lN×Unit)) N (λf a=>let d:=a.2.2.2.1;let g:=(ix a.2.2.2.2.1 a.1 zh).ae;let e:=(ix g a.2.2.1 zQ).af; (cond (ilt a.2.2.1 a.2.1) (oN (inb a.2.2.1<|ln g)<|cond (ine e<|-1) (oN (few<|ln<|ap d [e])<|f (a.1,a.2.1,zK .i64 a.2.2.1 1,ap d [e],a.2.2.2.2.1,()))<|f (a.1,a.2.1,zK .i64 a.2.2.1 1,d,a.2.2.2.2.1,()))<|oN (zhQ d)<|some [aS .int<|zko d])) (c,ln (ix b.aa c zh).ae,0,[],b.aa,()))
def zNt:=zy [(97,0,{n:=37,tm:=[(5,.sl 0 []),(20,.sl 1 [0]),(21,ti),(22,ti)],lo:=[],ro:=[(0,.int,true),(1,.mon,false)]})]
def zMy (b:ac)(a:Int)(j:zgF b a=true):∃N,zAE N b a=some [aS .int<|zg6 b a]:=by
 have k:=zS.1 j;have h:=zNa k a;have c:=(zcY (n:=(zbl b a).ae.length) h).1;refine zcd λN f=>?_;unfold zAE zg6 ze4 zfj oN nB;conv=>zeta
 cases g:i0 a (ln b.aa);{simp only [zb0,cT,Bool.not_false,zbl,g,cF];rw[show zh.ae=[] from rfl,picks,zOe]};{have e:zbl b a=ix b.aa a zh:=(by unfold zbl;rw[g];rfl);rw[e]at h c ⊢;refine(show _=_ from rfl:_=(cond (inb a<|ln b.aa) _ none)).trans ?_;rw[zF g,cT];refine(zbg ((ix b.aa a zh).ae) (λi (t:LI)=>(a,ln (ix b.aa a zh).ae,(i:Int),t,b.aa,())) _ (λ_ (x:k0) (t:LI) l=>zFV (zkL x) t l) (λ(t:LI)=>cond (zhQ t) (some [.one<|.s .int<|zko t]) none) (λi d t rec=>?_) (λt rec=>?_) _ ([])<|f c).trans ?_;{simp only [zbx d,zY d,zbi d,zV d c,cT];unfold zkL;cases ine (ix b.aa a zh).ae[i].af (-1)<;>rfl};{simp only [zbq,cF]};rw[zwS (λ_ s=>zkL s) _ _ 0 [] (by simp;omega)];rfl}
def zGm:vU 97 zlR:=kF2 zuI zD zB zDr zNt zMy
def znb (k:ax)(j:Nat):Option Int:=bif zgy k (j:Int) then zkL (zeo k (j:Int)) else none
def zxo (k:ax):LI:=picks (λj (_:k0)=>znb k j) k.au 0
def zhA:List ax->LI
 |[]=>[]
 |k::l=>zxo k++zhA l
def zjg:List ax->Nat
 |[]=>0
 |k::l=>k.au.length+zjg l
def zsF:∀l:List ax,(zhA l).length<=zjg l
 |[]=>qS _
 |k::l=>by have a:=zsF l;have b:=znI (λj (_:k0)=>znb k j) k.au 0;simp only[zhA,zjg,jL];unfold zxo;omega
def zKl (t a b:LI):zhz t (a++b)=zhz (zhz t a) b:=List.foldl_append
def zIW {d:Type}(K:LI->Option d):∀(l:List ax) (i:Nat) (t:LI),t.length+zjg l<=zNf->
 goL (λ_ (x:ax) t c=>goL (λj (_:k0) u a=>zHq (znb x j) u a) c x.au 0 t) K l i t=K (zhz t<|zhA l)
 |[],_,_,_=>rfl
 |k::l,i,t,h=>by simp only[zjg]at h;simp only[goL,zhA];have b:=zyR (zxo k) t;have e:=znI (λj (_:k0)=>znb k j) k.au 0;unfold zxo at b;rw[zwT (λj (_:k0)=>znb k j) _ k.au 0 t (by omega),zKl];exact zIW K l (i+1) _ (by omega)
def zIV {c:Type}(K:LI->Option c):∀(l:List ax) (i:Nat) (t:LI),t.length+zjg l<=2147483648->
 goL (λ_ (x:ax) t b=>goL (λj (_:k0) u a=>zFV (znb x j) u a) b x.au 0 t) K l i t=K (t++zhA l)
 |[],_,_,_=>by simp[goL,zhA]
 |k::l,i,t,h=>by simp only[zjg]at h;simp only[goL,zhA];have d:=znI (λj (_:k0)=>znb k j) k.au 0;rw[zwS (λj (_:k0)=>znb k j) _ k.au 0 t (by omega),<- j6];exact zIV K l (i+1) _ (by simp only[jL];omega)
def zzb (m:Int)(e:aq):Option Int:=bif ieq (zb2 e.Tag) m then some e.ac else none
def zCc (h:ac)(m:Int):LI:=picks (λ_ e=>zzb m e) (h.am++h.ak) 0
def zfi (h:ac)(m:Int):LI:=bif i0 m (ln h.aa) then zfv (zhA (ix h.aa m zh).ai++zCc h m) else []
def zCS (h:ac)(m:Int):Prop:=zcv h/\(i0 m (ln h.aa)=true->zjg (ix h.aa m zh).ai<=16777216)
def zO0 {h:ac}{m:Int}(a:zCS h m):(zfi h m).length<=33554432:=by unfold zfi;cases f:i0 m (ln h.aa);{simp};{have g:=a.2 f;have b:=zBc (zhA (ix h.aa m zh).ai++zCc h m);have i:=zsF (ix h.aa m zh).ai;have j:=znI (λ_ e=>zzb m e) (h.am++h.ak) 0;have c:=a.1.buf.len;have d:=a.1.iob.len;unfold sm at c d;unfold zCc at b ⊢;simp only[jL] at *;simp only[cT];omega}
def znO (h:ac)(m:Int):Bool:=pc (zCS h m)
def zkv (h:ac)(m:Int):LI:=zfi h m
def z1t (h:ac)(m:Int)(a:i0 m (ln h.aa)=true):zfi h m=zhz (zhz []<|zhA (ix h.aa m zh).ai) (zCc h m):=by unfold zfi;rw[a,cT,<- zyQ,zKl]
def zWL {h:ac}(e:zcv h){m:Int}(c:i0 m (ln h.aa)=true):∀x∈(ix h.aa m zh).ai,x.aw.length<=1048576/\x.au.length<=1048576:=by intro x b;have d:=e.mons.inv.2 _ (zbD c zh);have a:CVB sm (.s .kept (ix h.aa m zh).ai):=d _ (by simp[Ty.cells]);exact⟨(a.inv.2 x b (.s .bool x.aw) (by simp[Ty.cells])).len,(a.inv.2 x b (.s .slot x.au) (by simp[Ty.cells])).len⟩
def zqP:Run:=rF2 dH dI λb c=>(znO b c,[aS .int<|zkv b c])
def zN2 (N:Nat)(g:ac)(s:Int):OA:=
 let f:=zbl g s; (oN (zgF g s)<|cond (nB<|znM g s) (some [aS .int []])<|r0 (σ:=(Int×Int×Int×Int×Int×LI×lM×lN×lE×lE×lS×lM×lB×lG×LI×lK×Unit)) N (λB b=>let r:=b.2.2.2.2.2.2.2.2.2.2.2.2.2.2.2.1;let k:=b.2.2.2.2.2.2.2.2.1;let A:=ap (ap [] k) b.2.2.2.2.2.2.2.2.2.1; (cond (ilt b.2.1<|ln r) (r0 (σ:=(Int×Int×Int×Int×Int×Int×LI×lM×lN×lE×lE×lS×lM×lB×lG×LI×lK×Unit)) N (λq a=>let b:=a.2.2.2.2.2;let d:=b.2.2.2.2.2;let m:=b.2.2.1;let l:=b.2.2.2.1;let j:=b.2.2.2.2.1;let e:=b.2.1;let c:=a.2.2.1;let i:=d.1;let h:=d.2.1;let y:=d.2.2.1;let x:=d.2.2.2.1;let w:=d.2.2.2.2.1;let v:=d.2.2.2.2.2.1;let p:=d.2.2.2.2.2.2.1;let t:=ix p a.2.1 zdi;let n:=(zhn t c).af;let z:=q (a.1,a.2.1,zK .i64 c 1,a.2.2.2.1,a.2.2.2.2.1,b.1,e,m,l,j,i,h,y,x,w,v,p,()); (oN (inb a.2.1<|ln p)<|cond (ilt c<|ln t.au) (oN (inb a.2.1<|ln p)<|oN (zdc t c)<|cond (zi2 t c) (cond (ine n<|-1) (oN (zik e n)<|q (a.1,a.2.1,zK .i64 c 1,a.2.2.2.1,a.2.2.2.2.1,b.1,zqi e n,m,l,j,i,h,y,x,w,v,p,())) z) z)<|B (a.1,zK .i64 a.2.1 1,a.2.2.2.1,a.2.2.2.2.1,b.1,e,m,l,j,i,h,y,x,w,v,p,()))) (b.1,b.2.1,0,b.2.2.1,b.2.2.2.1,b.2.2.2.2.1,b.2.2.2.2.2.1,b.2.2.2.2.2.2.1,b.2.2.2.2.2.2.2.1,k,b.2.2.2.2.2.2.2.2.2.1,b.2.2.2.2.2.2.2.2.2.2.1,b.2.2.2.2.2.2.2.2.2.2.2.1,b.2.2.2.2.2.2.2.2.2.2.2.2.1,b.2.2.2.2.2.2.2.2.2.2.2.2.2.1,b.2.2.2.2.2.2.2.2.2.2.2.2.2.2.1,r,()))<|oN (few<|ln<|ap [] k)<|oN (few<|ln A)<|r0 (σ:=(Int×Int×LI×lE×Unit)) N (λq a=>let d:=a.2.2.2.1;let u:=ix d a.2.1 zdl; (cond (ilt a.2.1<|ln d) (oN (inb a.2.1<|ln d)<|oN (zbZ u.Tag)<|cond (ieq (zga u.Tag) a.1) (oN (inb a.2.1<|ln d)<|oN (zik a.2.2.1 u.ac)<|q (a.1,zK .i64 a.2.1 1,zqi a.2.2.1 u.ac,d,()))<|q (a.1,zK .i64 a.2.1 1,a.2.2.1,d,()))<|oN (few<|ln<|ap [] a.2.2.1)<|some [aS .int<|ap [] a.2.2.1])) (b.1,0,b.2.2.2.2.2.1,A,()))) (s,0,f.an,f.ar,f.Own,[],g.ag,g.aa,g.am,g.ak,f.ae,f.Out,f.av,f.ad,f.Outs,f.ai,()))
def zWb:=zy [(96,0,{n:=93,tm:=[(1,ti),(2,.lp 0 0),(5,.sl 0 []),(6,.lp 1 0),(8,ti)],lo:=[(0,[.sl 1 [],.sl 2 [],.sl 3 [],.sl 4 []]),(1,[.sl 5 [],.sl 6 [],.sl 7 [],.sl 8 [],.sl 9 [],ti,ti,.sl 10 [],ti])],ro:=[(0,.int,true),(1,.sl .int,false),(2,.mon,false),(3,.entry,false),(4,.entry,false),(5,.slot,true),(6,.sl .int,true),(7,.bool,true),(8,.guest,true),(9,.int,true),(10,.kept,true)]}),(96,2,{n:=93,tm:=[(1,ti),(2,.lp 0 0),(5,.sl 0 []),(6,.lp 1 0),(8,ti),(9,ti)],lo:=[(0,[.sl 1 [],.sl 2 [],.sl 3 [],.sl 4 []]),(1,[.sl 5 [],.sl 6 [],.sl 7 [],.sl 8 [],.sl 9 [],ti,ti,.sl 10 [],ti])],ro:=[(0,.int,true),(1,.sl .int,false),(2,.mon,false),(3,.entry,false),(4,.entry,false),(5,.slot,true),(6,.sl .int,true),(7,.bool,true),(8,.guest,true),(9,.int,true),(10,.kept,true)]}),(96,4,{n:=93,tm:=[(1,ti),(5,.sl 0 []),(12,.sl 1 []),(13,ti)],lo:=[],ro:=[(0,.int,true),(1,.entry,true)]})]
def zVq (a:ac)(b:Int)(J:znO a b=true):∃N,zN2 N a b=some [aS .int<|zkv a b]:=by
 have A:=zS.1 J;have w:=A.1;have k:=zO0 A;refine zcd λN l=>?_;unfold zN2 zkv oN nB;conv=>zeta
 refine j0 (zbn w) ?_;cases m:i0 b (ln a.aa);{unfold zfi znM;rw[m];rfl};have e:zbl a b=ix a.aa b zh:=(by unfold zbl;rw[m];rfl);have D:=zWL w m;have K:=w.mons.inv.2 _ (zbD m zh);have I:CVB sm (.s .kept (ix a.aa b zh).ai):=K _ (by simp[Ty.cells]);have h:=(zcY I.len).1;have B:=A.2 m;have G:=w.buf.len;have H:=w.iob.len;unfold sm at G H;rw[z1t a b m]at k ⊢;rw[<- e]at D h B k ⊢;have M:=zsF (zbl a b).ai;have E:=zyR (zhA (zbl a b).ai) [];refine zek (by rw[show znM a b=true from m];rfl) ?_;refine(zbg ((zbl a b).ai) (λi (t:LI)=>(b,(i:Int),(zbl a b).an,(zbl a b).ar,(zbl a b).Own,t,a.ag,a.aa,a.am,a.ak,(zbl a b).ae,(zbl a b).Out,(zbl a b).av,(zbl a b).ad,(zbl a b).Outs,(zbl a b).ai,())) _ (λ_ (x:ax) (t:LI) C=>goL (λj (_:k0) u d=>zHq (znb x j) u d) C x.au 0 t) (λ(t:LI)=>cond (few<|ln<|ap [] a.am) (cond (few<|ln<|ap (ap [] a.am) a.ak) (r0 (σ:=(Int×Int×LI×lE×Unit)) N (λF c=>cond (ilt c.2.1<|ln c.2.2.2.1) (cond (inb c.2.1<|ln c.2.2.2.1) (cond (zbZ (ix c.2.2.2.1 c.2.1 zdl).Tag) (cond (ieq (zga (ix c.2.2.2.1 c.2.1 zdl).Tag) c.1) (cond (inb c.2.1<|ln c.2.2.2.1) (cond (zik c.2.2.1 (ix c.2.2.2.1 c.2.1 zdl).ac) (F (c.1,zK .i64 c.2.1 1,zqi c.2.2.1 (ix c.2.2.2.1 c.2.1 zdl).ac,c.2.2.2.1,())) none) none)<|F (c.1,zK .i64 c.2.1 1,c.2.2.1,c.2.2.2.1,())) none) none)<|cond (few<|ln<|ap [] c.2.2.1) (some [.one<|.s .int<|ap [] c.2.2.1]) none) (b,0,t,ap (ap [] a.am) a.ak,())) none) none) (λi g t rec=>?_) (λt rec=>?_) _ ([])<|l h).trans ?_;{simp only [zbx g,zY g,zbi g,zV g h,cT];obtain⟨z,r⟩:=D _ (jB g);have v:=(zcY (n:=(zbl a b).ai[i].au.length) r).1;refine zbg (zbl a b).ai[i].au (λj (u:LI)=>(b,(i:Int),(j:Int),(zbl a b).an,(zbl a b).ar,(zbl a b).Own,u,a.ag,a.aa,a.am,a.ak,(zbl a b).ae,(zbl a b).Out,(zbl a b).av,(zbl a b).ad,(zbl a b).Outs,(zbl a b).ai,())) _ (λj (_:k0) u d=>zHq (znb (zbl a b).ai[i] j) u d) _ (λj p u f=>?_) (λu f=>?_) _ t (l v);{simp only [zY g,zbi g,zbx p,cT,zV p v,show zdc (zbl a b).ai[i] (j:Int)=true from zbn ⟨z,r⟩,zhn,zi2];unfold znb zkL;cases zgy (zbl a b).ai[i] (j:Int);{rfl};{cases ine (zeo (zbl a b).ai[i] (j:Int)).af (-1)<;>rfl}};{simp only [zY g,zbi g,zbq,cT,cF,zV g h]}};{simp only [zbq,cF]};rw[zIW _ _ 0 [] (by unfold zNf;simp;omega)];refine j0 (zmn (by rw[ze9];omega)) (j0 (zmn (by rw[ze9];simp only[ap,jL];omega)) ?_);have q:(ap (ap [] a.am) a.ak).length<=big:=(by rw[zhP,ze9];simp only[ap,jL];omega);obtain⟨t,L⟩:∃t,t=zhz [] (zhA (zbl a b).ai):=⟨_,rfl⟩;rw[<- L]at E k ⊢;refine(zbg (ap (ap [] a.am) a.ak) (λj (u:LI)=>(b,(j:Int),u,ap (ap [] a.am) a.ak,())) _ (λ_ (y:aq) (u:LI) C=>zHq (zzb b y) u C) (λ(u:LI)=>cond (few<|ln<|ap [] u) (some [.one<|.s .int<|ap [] u]) none) (λj p u f=>?_) (λu f=>?_) _ (t)<|l q).trans ?_;{simp only [zbx p,zY p,zbi p,zV p q,cT];unfold zzb;simp only[zbZ,zga,cT];cases ieq (zb2 (ap (ap [] a.am) a.ak)[j].Tag) b<;>rfl};{simp only [zbq,cF]};rw[zwT (λ_ y=>zzb b y) _ _ 0 _ (by unfold zNf;rw[ze9];simp only[ap,jL];simp at E;omega)];refine j0 (zmn ?_) rfl;rw[ze9];exact qU k (by decide)
def zPD:vU 96 zqP:=kF2 zuI zD zB zDr zWb zVq
def zNP (N:Nat)(f:ac)(m:Int):OA:=
 (oN (zb0 m<|ln f.aa)<|cond (nB<|zfj m<|ln f.aa) (some [aS .int []])<|oN (inb m<|ln f.aa)<|r0 (σ:=(Int×Int×Int×Int×LI×lN×lM×lE×lE×Unit)) N (λA b=>let i:=b.2.2.2.2.2.2.2.1;let c:=b.2.2.2.1;let q:=(ix b.2.2.2.2.2.1 b.2.1 zh).ai;let v:=ap (ap [] i) b.2.2.2.2.2.2.2.2.1; (cond (ilt c b.2.2.1) (oN (inb c<|ln q)<|r0 (σ:=(Int×Int×Int×Int×Int×Int×Int×Int×Int×Int×LI×lN×lM×lE×lE×Unit)) N (λp a=>let b:=a.2.2.2.2.2.2.2;let c:=b.2.2.2.2;let l:=a.2.2.2.2.2.2.1;let j:=b.1;let h:=b.2.1;let g:=b.2.2.1;let y:=c.2.1;let x:=c.2.2.1;let w:=c.2.2.2.1;let t:=b.2.2.2.1;let n:=a.2.2.2.2.2.1;let r:=c.1;let z:=p (a.1,a.2.1,a.2.2.1,a.2.2.2.1,a.2.2.2.2.1,zK .i64 n 1,l,j,h,g,t,r,y,x,w,());let u:=({ (ix (ix r l zh).ai j zdi) with au:=(ix (ix r h zh).ai g zdi).au}:ax);let k:=(zhn u n).af; (cond (ilt n a.2.2.2.2.1) (oN (zDb u n)<|cond (zi2 u n) (cond (ine k<|-1) (oN (few<|ln<|ap t [k])<|p (a.1,a.2.1,a.2.2.1,a.2.2.2.1,a.2.2.2.2.1,zK .i64 n 1,l,j,h,g,ap t [k],r,y,x,w,())) z) z)<|A (a.1,a.2.1,a.2.2.1,zK .i64 a.2.2.2.1 1,t,r,y,x,w,()))) (b.1,b.2.1,b.2.2.1,c,ln (ix q c zdi).au,0,b.2.1,c,b.2.1,c,b.2.2.2.2.1,b.2.2.2.2.2.1,b.2.2.2.2.2.2.1,i,b.2.2.2.2.2.2.2.2.1,()))<|oN (few<|ln<|ap [] i)<|oN (few<|ln v)<|r0 (σ:=(Int×Int×Int×LI×lE×Unit)) N (λp a=>let e:=a.2.2.2.2.1;let d:=a.2.2.2.1;let s:=ix e a.2.2.1 zdl; (cond (ilt a.2.2.1 a.2.1) (oN (inb a.2.2.1<|ln e)<|oN (zbZ s.Tag)<|cond (ieq (zga s.Tag) a.1) (oN (few<|ln<|ap d [s.ac])<|p (a.1,a.2.1,zK .i64 a.2.2.1 1,ap d [s.ac],e,()))<|p (a.1,a.2.1,zK .i64 a.2.2.1 1,d,e,()))<|oN (zhQ d)<|some [aS .int<|zko d])) (b.1,ln v,0,b.2.2.2.2.1,v,()))) (m,m,ln (ix f.aa m zh).ai,0,[],f.aa,f.ag,f.am,f.ak,()))
def zV8:=zy [(95,0,{n:=81,tm:=[(1,ti),(2,.lp 0 0),(5,.sl 0 []),(25,.sl 1 [7]),(26,ti),(27,ti)],lo:=[(0,[.sl 2 [],.sl 1 [],.sl 3 [],.sl 4 []])],ro:=[(0,.int,true),(1,.mon,false),(2,.sl .int,false),(3,.entry,false),(4,.entry,false)]}),(95,2,{n:=81,tm:=[(1,ti),(2,.lp 0 0),(5,.sl 0 []),(7,.lp 1 0),(25,.sl 1 [7]),(26,ti),(27,ti),(33,ti),(34,ti)],lo:=[(0,[.sl 2 [],.sl 1 [],.sl 3 [],.sl 4 []]),(1,[.sl 1 [7,0],.sl 1 [7,1]])],ro:=[(0,.int,true),(1,.mon,false),(2,.sl .int,false),(3,.entry,false),(4,.entry,false)]}),(95,4,{n:=81,tm:=[(1,ti),(5,.sl 0 []),(62,.sl 1 []),(63,ti),(64,ti)],lo:=[],ro:=[(0,.int,true),(1,.entry,true)]})]
def zVe (a:ac)(b:Int)(F:znO a b=true):∃N,zNP N a b=some [aS .int<|zkv a b]:=by
 have w:=zS.1 F;have q:=w.1;refine zcd λN k=>?_;unfold zNP zkv zfi oN nB;conv=>zeta
 refine j0 rfl ?_;rw[show zfj b (ln a.aa)=i0 b (ln a.aa) from rfl];cases l:i0 b (ln a.aa);{rfl};have D:=zWL q l;have H:=q.mons.inv.2 _ (zbD l zh);have E:CVB sm (.s .kept (ix a.aa b zh).ai):=H _ (by simp[Ty.cells]);have g:=(zcY E.len).1;have I:=w.2 l;have B:=q.buf.len;have C:=q.iob.len;unfold sm at B C;have J:=zsF (ix a.aa b zh).ai;refine zek rfl (j0 (zF l) ?_);refine(zbg ((ix a.aa b zh).ai) (λi (t:LI)=>(b,b,ln (ix a.aa b zh).ai,(i:Int),t,a.aa,a.ag,a.am,a.ak,())) _ (λ_ (x:ax) (t:LI) v=>goL (λj (_:k0) u d=>zFV (znb x j) u d) v x.au 0 t) (λ(t:LI)=>cond (few<|ln<|ap [] a.am) (cond (few<|ln<|ap (ap [] a.am) a.ak) (r0 (σ:=(Int×Int×Int×LI×lE×Unit)) N (λA c=>cond (ilt c.2.2.1 c.2.1) (cond (inb c.2.2.1<|ln c.2.2.2.2.1) (cond (zbZ (ix c.2.2.2.2.1 c.2.2.1 zdl).Tag) (cond (ieq (zga (ix c.2.2.2.2.1 c.2.2.1 zdl).Tag) c.1) (cond (few<|ln<|ap c.2.2.2.1 [(ix c.2.2.2.2.1 c.2.2.1 zdl).ac]) (A (c.1,c.2.1,zK .i64 c.2.2.1 1,ap c.2.2.2.1 [(ix c.2.2.2.2.1 c.2.2.1 zdl).ac],c.2.2.2.2.1,())) none)<|A (c.1,c.2.1,zK .i64 c.2.2.1 1,c.2.2.2.1,c.2.2.2.2.1,())) none) none)<|cond (zhQ c.2.2.2.1) (some [.one<|.s .int<|zko c.2.2.2.1]) none) (b,ln<|ap (ap [] a.am) a.ak,0,t,ap (ap [] a.am) a.ak,())) none) none) (λi e t rec=>?_) (λt rec=>?_) _ ([])<|k g).trans ?_;{simp only [zbx e,zY e,zbi e,zV e g,cT];obtain⟨G,r⟩:=D _ (jB e);have p:=(zcY (n:=(ix a.aa b zh).ai[i].au.length) r).1;refine(zbg (((ix a.aa b zh).ai)[i].au) (λj (u:LI)=>(b,b,ln (ix a.aa b zh).ai,(i:Int),ln ((ix a.aa b zh).ai)[i].au,(j:Int),b,(i:Int),b,(i:Int),u,a.aa,a.ag,a.am,a.ak,())) _ (λj (_:k0) (u:LI) d=>zFV (znb (ix a.aa b zh).ai[i] j) u d) (λ(u:LI)=>rec (b,b,ln (ix a.aa b zh).ai,((i+1:Nat):Int),u,a.aa,a.ag,a.am,a.ak,())) (λj h u f=>?_) (λu f=>?_) _ (t)<|k p).trans ?_;{simp only [zbx h,zY h,zbi h,zV h p,cT,zY e,zbi e,zV e g,zF l];simp only[zDb,zhn,zi2,cT];unfold znb zkL;cases zgy (ix a.aa b zh).ai[i] (j:Int);{rfl};{cases ine (zeo (ix a.aa b zh).ai[i] (j:Int)).af (-1)<;>rfl}};{simp only [zbq,cF,zY e,zbi e,zV e g,zF l]};rfl};{simp only [zbq,cF]};rw[zIV _ _ 0 [] (by simp;omega)];refine j0 (zmn (by rw[ze9];omega)) (j0 (zmn (by rw[ze9];simp only[ap,jL];omega)) ?_);have m:(ap (ap [] a.am) a.ak).length<=big:=(by rw[zhP,ze9];simp only[ap,jL];omega);obtain⟨t,z⟩:∃t,t=[]++zhA (ix a.aa b zh).ai:=⟨_,rfl⟩;rw[<- z];refine(zbg (ap (ap [] a.am) a.ak) (λj (u:LI)=>(b,ln<|ap (ap [] a.am) a.ak,(j:Int),u,ap (ap [] a.am) a.ak,())) _ (λ_ (y:aq) (u:LI) v=>zFV (zzb b y) u v) (λ(u:LI)=>cond (zhQ u) (some [.one<|.s .int<|zko u]) none) (λj h u f=>?_) (λu f=>?_) _ (t)<|k m).trans ?_;{simp only [zbx h,zY h,zbi h,zV h m,cT];unfold zzb;simp only[zbZ,zga,cT];cases ieq (zb2 (ap (ap [] a.am) a.ak)[j].Tag) b<;>rfl};{simp only [zbq,cF]};subst z;rw[zwS (λ_ y=>zzb b y) _ _ 0 _ (by rw[ze9];simp only[ap,jL,uB];omega)];rfl
def zPq:vU 95 zqP:=kF2 zuI zD zB zDr zV8 zVe
section
open Go Go.RowKit Go.Maps
def zB9 {H:Type}{P:Program}{e:TypeId}(a:P.underlying e=some .bool){v:Value}{z:DataW H×List MemPlace}(h:plainElem P e v=some z):∃x,v = .bool x/\z=(.lit<|.bool x,[]):=by unfold plainElem at h;rw[a]at h;cases v<;>simp at h;exact⟨_,rfl,h.symm⟩
def zVw {H:Type}{P:Program}(w:World){j:Array Oper}{d:List Oper}{o:Oper}{a:Act}{Q:Exit->Act->World->Prop}(hg:o.guard=none)(m x:Operand)(t:TypeId)(p:o.op=Op.lookup t m x false)(k e:TypeId)(K:Keyed P k)(z:P.underlying t=some (.map k e))(r:P.underlying e=some .bool)(C:(zeroValue e).run P w = .ok (.bool false) w)(b n:Nat)(D:DataW H)(y:a.eval m = .map (some b))(g:w.ownsMap P k (plainElem P e) b n D)(i:Value)(s:Lit)(B:a.eval x=i)(f:keyOf P k i=some s)(u:∀c:Bool,D.atKey s (.lit<|.bool false) = .lit (.bool c)->wpList P j Q d (a.put o.dst<|.bool c) w) :
 wpList P j Q (o::d) a w:=by
 refine wpList_plain hg λE l=>?_;obtain⟨v,F,h,A⟩:=g.lookup K z C (plainElem_bool r false) f;obtain⟨c,rfl,q⟩:=zB9 r A;simp only[jS]at q;unfold Oper.wp;simp[execOp,p,y,B,h,Result.andThen];exact l _ _ (u c q.1)
def mapOf:LI->DataW Unit
 |[]=>.map []
 |p::u=>(mapOf u).put (.int .i64 p) (.lit<|.bool true)
def zS4:∀u,IsMap (mapOf u)
 |[]=>isMap_empty
 |p::u=>(zS4 u).put _ _
def zHa (p:Int):∀u,(mapOf u).atKey (.int .i64 p) (.lit<|.bool false) = .lit (.bool<|u.contains p)
 |[]=>rfl
 |q::u=>by by_cases h:p=q;{subst h;rw[mapOf,atKey_put_same (zS4 u) (by exact True.intro)];simp};{rw [mapOf,atKey_put_other (by intro e;cases e;exact h rfl),zHa p u];simp[h]}
def zWM:Keyed Tryz.prog 3:=int_keyed Tryz.underlying3
def z4O (w:World):(zeroValue 4).run Tryz.prog w = .ok (.bool false) w:=by kernel_rfl
def wf64 (p:Int):Prop:=(Lit.int .i64 p).wf=true
def apS:List (Int×Int)->LI->Option LI
 |[],u=>some u
 |s::l,u=>if s.1 = -1 then apS l u else if u.contains s.1 then none else apS l (s.1::u)
def apM:List (List<|Int×Int)->LI->Bool
 |[],_=>true
 |m::l,u=>match apS m u with
  |none=>false
  |some a=>apM l a
def zLi {l:List (Int×Int)}{j:Nat}{p r:Int}(h:l[j]?=some (p,r))(u:LI):apS (l.drop j) u=if p = -1 then apS (l.drop<|j+1) u else if u.contains p then none else apS (l.drop<|j+1) (p::u):=by obtain⟨b,a⟩:=qA.1 h;rw[jO b,a];rfl
def z6V {l:List (List<|Int×Int)}{k:Nat}{m:List (Int×Int)}(h:l[k]?=some m)(u:LI):apM (l.drop k) u=match apS m u with|none=>false|some c=>apM (l.drop<|k+1) c:=by obtain⟨b,a⟩:=qA.1 h;rw[jO b,a];rfl
structure SlotsAt (w:World) (B:Nat) (a:Option Addr) (l:List (Int×Int)):Prop where
 at1:∀j p r,l[j]?=some (p,r)->∃b off,a=some ⟨b,off,none⟩/\b<B/\w.cell? ⟨b,off+j*2,none⟩=some (.int .i64 p)/\w.cell? ⟨b,off+j*2+1,none⟩=some (.int .i64 r)/\wf64 p
structure MonsAt (w:World) (B:Nat) (a:Option Addr) (l:List (List (Int×Int))):Prop where
 at1:∀i m,l[i]?=some m->∃b off a2 cap p1 n1 q1 p2 n2 q2 p3 n3 q3 p4 n4 q4 x5 x6 p7 n7 q7 x8,a=some ⟨b,off,none⟩/\b<B/\w.cell? ⟨b,off+i*9,none⟩=some (.slice a2 m.length cap)/\SlotsAt w B a2 m/\m.length<=1048576/\
  w.cell? ⟨b,off+i*9+1,none⟩=some (.slice p1 n1 q1)/\w.cell? ⟨b,off+i*9+2,none⟩=some (.slice p2 n2 q2)/\w.cell? ⟨b,off+i*9+3,none⟩=some (.slice p3 n3 q3)/\w.cell? ⟨b,off+i*9+4,none⟩=some (.slice p4 n4 q4)/\
  w.cell? ⟨b,off+i*9+5,none⟩=some (.int .i64 x5)/\w.cell? ⟨b,off+i*9+6,none⟩=some (.int .i64 x6)/\w.cell? ⟨b,off+i*9+7,none⟩=some (.slice p7 n7 q7)/\w.cell? ⟨b,off+i*9+8,none⟩=some (.int .i64 x8)
def z8u (m x y:Value)(a:Option Addr)(B:Nat)(L:List (List<|Int×Int))(w:World)(hL:L.length<=1048576)(s:MonsAt w w.heap.size a L) :
 Calls Tryz.prog 89 #[.agg #[m,.slice a L.length B,x,y]] w λe w'=>e = .returned (.bool<|apM L [])/\Below w.heap.size w w':=by
 have a1:=@run_makeMap Tryz.prog
 go_enter Tryz.func89,Tryz.ntmps89
 go_wp2
 go_loopw [12] (λi wr=>∃(k:Nat) (u:LI),k<=L.length/\i = .int .i64 k/\apM (L.drop k) u=apM L []/\wr.ownsMap Tryz.prog 3 (plainElem Tryz.prog 4) (w.heap.size+1) (k*1048576) (mapOf u)/\Below w.heap.size w wr/\w.heap.size+2<=wr.heap.size) (λi _=>L.length-(intOf i).toNat)
 case atStart=>exact⟨0,[],jU _,rfl,rfl,by
  have h:=World.ownsMap_made (H:=Unit) (w.alloc<|Obj.cells #[m,Value.slice a L.length B,x,y] 28) Tryz.prog 3 (plainElem Tryz.prog 4);rw[show (w.alloc<|Obj.cells #[m,Value.slice a L.length B,x,y] 28).heap.size=w.heap.size+1 from by simp]at h
  rw[Nat.zero_mul];exact h,((Below.refl _ _).alloc (qS _) _).alloc (by simp) _,by simp⟩
 case round=>
  obtain⟨k,u,hk,rfl,A,G,E,a3⟩:=hrel
  by_cases a0:k<L.length
  .obtain⟨t,hmm2⟩:∃t,L[k]?=some t:=⟨_,qB (by omega)⟩
   obtain⟨b,a4,a2,S,p1,n1,q1,p2,n2,q2,p3,n3,q3,p4,n4,q4,x5,x6,p7,n7,q7,x8,rfl,hb,T,O,M,W,X,Y,Z,e5,e6,e7,e8⟩:=s.at1 k t hmm2;obtain⟨U,D⟩:∃n,n=t.length:=⟨_,rfl⟩;rw[<- D] at T M;rw[<- E.cell (by exact hb)] at T W X Y Z e5 e6 e7 e8
   go_wp2
   go_loopw [19] (λj R=>∃(q:Nat) (v:LI),q<=t.length/\j = .int .i64 q/\(match apS (t.drop q) v with|none=>false|some u'=>apM (L.drop<|k+1) u')=apM L []/\R.ownsMap Tryz.prog 3 (plainElem Tryz.prog 4) (w.heap.size+1) (k*1048576+q) (mapOf v)/\Below w.heap.size w R/\w.heap.size+2<=R.heap.size) (λj _=>t.length-(intOf j).toNat)
   case atStart=>exact⟨0,u,jU _,rfl,by rw[vH,<- z6V hmm2];exact A,(G.alloc _).mono (k8 _ _),E.alloc (by omega) _,by simp;omega⟩
   case round=>
    obtain⟨q,v,hq,rfl,d,f,g,I⟩:=hrel
    by_cases N:q<t.length
    .obtain⟨⟨p,r⟩,hpr⟩:∃Q,t[q]?=some Q:=⟨_,qB N⟩;obtain⟨b2,V,rfl,J,f0,f1,P⟩:=O.at1 q p r hpr;rw[<- g.cell (by exact J)] at f0 f1
     have z:keyOf Tryz.prog 3 (.int .i64 p)=some (.int .i64 p):=keyOf_int_mk Tryz.underlying3 P
     go_wp2_with (first
      |(at_lookup;refine zVw _ rfl _ _ 185 rfl 3 4 zWM Tryz.underlying185 Tryz.underlying4 (z4O _) (w.heap.size+1) _ _ rfl (f.alloc _) _ _ rfl z ?_;intro c s)
      |(at_mapUpdate;refine wpList_mapUpdate_own _ rfl _ _ _ 185 rfl 3 4 zWM Tryz.underlying185 _ (w.heap.size+1) _ _ rfl (f.alloc _) (by unfold maxLen;omega) _ _ _ rfl rfl z _ [] (plainElem_bool Tryz.underlying4 true) ?_;intro w1 F l)
      |go_in)
     .have h:p = -1:=by simpa using ‹(p == -1)=true›
      have e:=zLi hpr v;rw[if_pos h] at e;refine⟨⟨q+1,v,by omega,by go_num,by rw[<- e];exact d,(f.alloc _).mono (by omega),g.alloc (by omega) _,by simp;omega⟩,by simp[intOf];omega⟩
     .have h:p≠-1:=by simpa using ‹(p == -1)=false›
      have K:c=true:=by assumption
      subst K;rw[zHa]at s;have C:v.contains p=true:=by simpa using s
      have e:=zLi hpr v;rw[if_neg h,if_pos C] at e;rw[e]at d
      go_ret
      exact⟨by rw[<- d];rfl,g.alloc (by omega) _⟩
     .have h:p≠-1:=by simpa using ‹(p == -1)=false›
      have K:c=false:=by assumption
      subst K;rw[zHa]at s;have C:v.contains p=false:=by simpa using s
      have e:=zLi hpr v;rw[if_neg h,if_neg (by rw[C];simp)] at e
      have s1:=l.size;simp at s1
      go_roundw
      case rel=>
       exact⟨q+1,p::v,by omega,by go_num,by rw[<- e];exact d,by simpa [kR,mapOf] using F,(g.alloc (by omega) _).grown l (by simp;omega) (λj hj=>by cases hj;omega),by omega⟩
      case measure=>simp[intOf];omega
    .have hqe:q=t.length:=by omega
     subst hqe
     go_wp2
     rw[uO]at d;exact⟨⟨k+1,v,by omega,by go_num,d,f.mono (by omega),g,I⟩,by simp[intOf];omega⟩
  .have hke:k=L.length:=by omega
   subst hke
   go_wp2
   go_ret
   exact⟨by rw[<- A,uO];rfl,E⟩
def pairs (l:List k0):List (Int×Int):=l.map λs=>(s.af,s.aj)
def zQ8 (h:ac):Prop:=∀m∈h.aa,∀s∈m.ae,wf64 s.af
def zZl {w:World}{B:Nat}{v:Value}{l:List k0}{S:zU}(h:Rep false w v (.s .slot l) S)(G:∀x,S x->x<B)(n:∀s∈l,wf64 s.af):∃a c,v = .slice a (pairs l).length c/\SlotsAt w B a (pairs l):=by
 cases h with
 |nil=>exact⟨none,0,rfl,⟨λj p r h=>by simp[pairs]at h⟩⟩
 |void _ a _ M=>exact⟨some a,0,rfl,⟨λj p r h=>by simp[pairs]at h⟩⟩
 |sl _ _ b k c F e L V K _ u H C z I m D A E y=>refine⟨some ⟨b,k,none⟩,c,by simp[pairs],⟨λj p r d=>?_⟩⟩;unfold pairs at d;rw[qQ]at d;cases f:l[j]? with|none=>rw[f]at d;cases d|some s=>rw[f]at d;cases d;have g:j<l.length:=(qA.1 f).1;have J:Ty.wi .slot=2:=rfl;have q:=E j 0 g (by decide);have t:=E j 1 g (by decide);rw[(y j s f 0 (.i .i64 s.af) rfl).int_inv] at q;rw[(y j s f 1 (.i .i64 s.aj) rfl).int_inv] at t;exact⟨b,k,rfl,G b m,by rw[G0 u];exact q,by rw[G0 u];exact t,n s<|qI f⟩
def zrF {w:World}{v:Value}{t:Ty}{l:List t.den}{S:zU}(h:Rep false w v (.s t l) S):∃p n q,v = .slice p n q:=by obtain⟨⟨a,b,c,_⟩,_⟩:=h.len;exact⟨a,_,b,c⟩
def z05 {w:World}{v:Value}{l:List Mon}{S:zU}(h:Rep false w v (.s .mon l) S)(B:∀x,S x->x<w.heap.size)(A:∀m∈l,∀s∈m.ae,wf64 s.af)(z:∀m∈l,m.ae.length<=1048576) :
 ∃a g,v = .slice a (l.map λm=>pairs m.ae).length g/\MonsAt w w.heap.size a (l.map λm=>pairs m.ae):=by
 cases h with
 |nil=>exact⟨none,0,rfl,⟨λj m h=>by simp at h⟩⟩
 |void _ a _ ho=>exact⟨some a,0,rfl,⟨λj m h=>by simp at h⟩⟩
 |sl _ _ b k g H e fz V K _ U W E C Y t r D Z f=>refine⟨some ⟨b,k,none⟩,g,by simp,⟨λi mm p=>?_⟩⟩;rw[qQ]at p;cases d:l[i]? with|none=>rw[d]at p;cases p|some m=>rw[d]at p;cases p;have q:i<l.length:=(qA.1 d).1;have T:∀j,j<9->∀x,K i j x->x<w.heap.size:=λj u x X=>B x (r i j x q u X).1;have c:∀j,j<9->w.cell? ⟨b,k+i*9+j,none⟩=some (V i j):=λj u=>(by rw[G0 U];exact Z i j q u);have F:=qI d;obtain⟨G,n,I,y⟩:=zZl (f i m d 0 (.s .slot m.ae) rfl) (T 0 (by decide)) (A m F);obtain⟨p1,n1,q1,J⟩:=zrF (f i m d 1 (.s (.sl .int) m.Out) rfl);obtain⟨p2,n2,q2,L⟩:=zrF (f i m d 2 (.s .bool m.av) rfl);obtain⟨p3,n3,q3,M⟩:=zrF (f i m d 3 (.s .guest m.ad) rfl);obtain⟨p4,n4,q4,N⟩:=zrF (f i m d 4 (.s .int m.Outs) rfl);have O:=(f i m d 5 (.i .i64 m.an) rfl).int_inv;have P:=(f i m d 6 (.i .i64 m.ar) rfl).int_inv;obtain⟨p7,n7,q7,Q⟩:=zrF (f i m d 7 (.s .kept m.ai) rfl);have R:=(f i m d 8 (.i .i64 m.Own) rfl).int_inv;refine⟨b,k,G,n,p1,n1,q1,p2,n2,q2,p3,n3,q3,p4,n4,q4,m.an,m.ar,p7,n7,q7,m.Own,rfl,B b t,?_,y,by simpa [pairs] using z m F,?_,?_,?_,?_,?_,?_,?_,?_⟩;{rw [<- I];exact c 0 (by decide)};{rw [<- J];exact c 1 (by decide)};{rw [<- L];exact c 2 (by decide)};{rw [<- M];exact c 3 (by decide)};{rw [<- N];exact c 4 (by decide)};{rw [<- O];exact c 5 (by decide)};{rw [<- P];exact c 6 (by decide)};{rw [<- Q];exact c 7 (by decide)};{rw [<- R];exact c 8 (by decide)}
def zlM (h:ac):Bool:=apM (h.aa.map λm=>pairs m.ae) []
@[simp] abbrev zpP (h:ac):Bool:=pc (zcv h/\zQ8 h)
@[simp] abbrev ztE (h:ac):Bool:=zlM h
def zjI:LW
 |[.agg [.s (.sl .int) m,.s .mon l,.s .entry b,.s .entry c]]=>some (zpP ⟨m,l,b,c⟩,[.one<|.b<|ztE ⟨m,l,b,c⟩])
 |_=>none
def zrp:vU 89 zjI:=by
 refine⟨zhJ (by kernel_rfl),?_⟩;intro w A z I f d;unfold zjI at d;split at d
 .rename_i m l b c;simp only[qC,jS]at d;obtain⟨k,rfl⟩:=d;obtain⟨q,t⟩:=zS.1 k;have D:z.length=4:=f.1
  match z,D with
  |[E,y,F,G],_=>
   have B:Rep false w y (.s .mon l) (λb=>b<w.heap.size):=f.2 1 _ y rfl rfl;have e:=q.mons;obtain⟨a,n,rfl,p⟩:=z05 B (λx u=>u) t (λm v=>by
    obtain⟨i,H⟩:=qV.1 v;exact(e.inv.2 m v (.s .slot m.ae) (by simp[Ty.cells])).len)
   refine(z8u E F G a n _ w (by have:=e.len;unfold sm at this;simpa using this) p).mono ?_;rintro r J ⟨rfl,g⟩;refine⟨⟨g.os,g.tape,g.output,g.size,λb C=>g.block b C⟩,[.bool _],λ_ _=>False,⟨rfl,λi c x k u=>?_⟩,rfl,⟨λi x _ h=>h.elim,λi j c x _ _ _ h=>h.elim⟩⟩;cases i with|zero=>cases k;cases u;exact .b _ _|succ i=>simp[zq,AV.cvs]at k
 {cases d}
end
def spS:List k0->LI->Option LI
 |[],u=>some u
 |s::l,u=>bif ieq s.af (-1) then spS l u else (cond (u.any λz=>ieq z s.af) none<|spS l<|ap u [s.af])
def spM:List Mon->LI->Bool
 |[],_=>true
 |m::l,u=>match spS m.ae u with
  |none=>false
  |some v=>spM l v
def zks:List Mon->Nat
 |[]=>0
 |m::l=>m.ae.length+zks l
def zWG {x y:Int}:(ieq x y=true)↔x=y:=by simp[ieq]
def z6U (u:LI)(p:Int):u.any (λz=>ieq z p)=u.reverse.contains p:=by cases h:u.any (λz=>ieq z p);{have:¬ u.reverse.contains p=true:=λa=>(by rw[kI]at h;have c:p∈u:=(by simpa using a);exact h p c (by simp[ieq]));cases a:u.reverse.contains p;{rfl};{exact absurd a this}};{obtain⟨z,b,e⟩:=kS.1 h;rw[zWG.1 e]at b;simpa using b}
def zT8:∀(l:List k0) (u:LI),apS (pairs l) u.reverse=(spS l u).map List.reverse
 |[],u=>rfl
 |s::l,u=>by
  show (if s.af = -1 then apS (pairs l) u.reverse else if u.reverse.contains s.af then none else apS (pairs l) (s.af::u.reverse))=_;unfold spS;rw[z6U];by_cases h:s.af = -1;{rw [if_pos h,zWG.2 h,cT];exact zT8 l u};{rw [if_neg h,show ieq s.af (-1)=false from by simp[ieq,h],cF];cases a:u.reverse.contains s.af;{have:=zT8 l (ap u [s.af]);rw[show (ap u [s.af]).reverse=s.af::u.reverse from by simp[ap]] at this;simpa using this};{rfl}}
def z1Y:∀(l:List Mon) (u:LI),apM (l.map λ(m:Mon)=>pairs m.ae) u.reverse=spM l u
 |[],u=>rfl
 |m::l,u=>by
  show (match apS (pairs m.ae) u.reverse with|none=>false|some v=>apM (l.map λ(m:Mon)=>pairs m.ae) v)=_;rw[zT8];unfold spM;cases spS m.ae u with|none=>rfl|some v=>exact z1Y l v
def zRc (h:ac):zlM h=spM h.aa []:=z1Y h.aa []
def z9Z {l:List k0}{j:Nat}(a:j<l.length)(u:LI):spS (l.drop j) u=bif ieq l[j].af (-1) then spS (l.drop<|j+1) u else (cond (u.any λz=>ieq z l[j].af) none<|spS (l.drop<|j+1)<|ap u [l[j].af]):=by rw[jO a];rfl
def zYG {l:List Mon}{i:Nat}(a:i<l.length):zks (l.drop i)=l[i].ae.length+zks (l.drop<|i+1):=by rw[jO a];rfl
def resP (x:Option LI)(l:List Mon):OA:=some [AV.one<|.b (match x with|none=>false|some v=>spM l v)]
def zQ0 (h:ac):Prop:=zcv h/\zks h.aa<=16777216
@[simp] abbrev zlY (h:ac):Bool:=pc (zQ0 h)
@[simp] abbrev zoW (h:ac):Bool:=zlM h
def znm:Run:=rF1 dH λb=>(zlY b,[aB<|zoW b])
def zwG (N:Nat)(f:ac):OA:=
 (r0 (σ:=(Int×LI×lM×lN×lE×lE×Unit)) N (λk c=>cond (ilt c.1<|ln c.2.2.2.1) (r0 (σ:=(Int×Int×LI×lM×lN×lE×lE×Unit)) N (λi a=>let c:=a.2.2.2.2;let h:=c.2.2.1;let d:=c.1;let g:=(ix d a.1 zh).ae;let j:=(ix g a.2.1 zQ).af; (oN (inb a.1<|ln d)<|cond (ilt a.2.1<|ln g) (oN (inb a.1<|ln d)<|oN (inb a.2.1<|ln g)<|cond (ieq j<|-1) (i (a.1,zK .i64 a.2.1 1,a.2.2.1,a.2.2.2.1,d,c.2.1,h,()))<|r0 (σ:=(Int×Int×Int×Int×LI×lM×lN×lE×lE×Unit)) N (λl b=>let a:=b.2.2.2.2.2;let e:=b.2.2.2.2.1; (cond (ilt b.2.2.2.1<|ln e) (oN (inb b.2.2.2.1<|ln e)<|cond (ieq (ix e b.2.2.2.1 0) b.2.2.1) oF<|l (b.1,b.2.1,b.2.2.1,zK .i64 b.2.2.2.1 1,e,a.1,a.2.1,a.2.2.1,a.2.2.2.1,()))<|oN (few<|ln<|ap e [b.2.2.1])<|i (b.1,zK .i64 b.2.1 1,ap e [b.2.2.1],a.1,a.2.1,a.2.2.1,a.2.2.2.1,()))) (a.1,a.2.1,j,0,a.2.2.1,a.2.2.2.1,d,c.2.1,h,()))<|k (zK .i64 a.1 1,a.2.2.1,a.2.2.2.1,d,c.2.1,h,()))) (c.1,0,c.2.1,c.2.2.1,c.2.2.2.1,c.2.2.2.2.1,c.2.2.2.2.2.1,())) oT) (0,[],f.ag,f.aa,f.am,f.ak,()))
def zHF:=zy [(90,0,{n:=55,tm:=[(1,.lp 0 0),(3,.sl 0 []),(4,ti)],lo:=[(0,[.sl 1 [],.sl 2 [],.sl 3 [],.sl 4 []])],ro:=[(0,.int,true),(1,.sl .int,false),(2,.mon,false),(3,.entry,false),(4,.entry,false)]}),(90,2,{n:=55,tm:=[(1,.lp 0 0),(3,.sl 0 []),(4,ti),(5,ti)],lo:=[(0,[.sl 1 [],.sl 2 [],.sl 3 [],.sl 4 []])],ro:=[(0,.int,true),(1,.sl .int,false),(2,.mon,false),(3,.entry,false),(4,.entry,false)]}),(90,4,{n:=55,tm:=[(1,.lp 0 0),(3,.sl 0 []),(4,ti),(5,ti),(6,ti),(7,ti)],lo:=[(0,[.sl 1 [],.sl 2 [],.sl 3 [],.sl 4 []])],ro:=[(0,.int,true),(1,.sl .int,false),(2,.mon,false),(3,.entry,false),(4,.entry,false)]})]
def zG6 (a:ac)(x:zlY a=true):∃N,zwG N a=some [aB<|zoW a]:=by
 obtain⟨r,y⟩:=zS.1 x;have q:=zcY r.mons.len;refine zcd λN f=>?_;unfold zwG oN;conv=>zeta
 show _=some [AV.one<|.b<|zlM a];rw[zRc];refine(zpR a.aa.length (λi (t:LI)=>((i:Int),t,a.ag,a.aa,a.am,a.ak,())) _ (λi t=>t.length+zks (a.aa.drop i)<=16777216) (λi t=>some [AV.one<|.b<|spM (a.aa.drop i) t]) (λi t rec c m A=>?_) (λt rec m=>?_) N 0 [] (by simpa using y) (jU _)<|f q.1).trans (by simp);{have C:a.aa[i].ae.length<=1048576:=(r.mons.inv.2 _ (jB c) (.s .slot _) (by simp[Ty.cells])).len;have h:a.aa[i].ae.length<=big:=(by rw[zhP];omega);rw[zYG c]at m;simp only[zbx c,cT];refine(zpR a.aa[i].ae.length (λj (u:LI)=>((i:Int),(j:Int),u,a.ag,a.aa,a.am,a.ak,())) _ (λj u=>u.length+(a.aa[i].ae.length-j)+zks (a.aa.drop<|i+1)<=16777216) (λj u=>resP (spS (a.aa[i].ae.drop j) u) (a.aa.drop<|i+1)) (λj u e g p k=>?_) (λu e p=>?_) N 0 t (by omega) (jU _)<|f h).trans ?_;{simp only [zY c,zbi c,zbx g,zY g,zbi g,cT];rw[z9Z g];have w:=zV g h;cases D:ieq a.aa[i].ae[j].af (-1);{simp only [cF];have v:u.length<=big:=(by rw[zhP];omega);refine(zbg u (λn (_:Unit)=>((i:Int),(j:Int),a.aa[i].ae[j].af,(n:Int),u,a.ag,a.aa,a.am,a.ak,())) _ (λ_ z (_:Unit) B=>bif ieq z a.aa[i].ae[j].af then oF else B ()) (λ_=>e ((i:Int),((j+1:Nat):Int),ap u [a.aa[i].ae[j].af],a.ag,a.aa,a.am,a.ak,())) (λn d _ l=>?_) (λ_ l=>?_) N ()<|f v).trans ?_;{simp only [zbx d,zY d,zbi d,zV d v,cT]};{simp only [zbq,cF,w];rw[zgZ (by simp[ap];omega),cT]};{rw [zRZ λz=>ieq z a.aa[i].ae[j].af,k _ (by simp[ap];omega)];cases u.any (λz=>ieq z a.aa[i].ae[j].af)<;>rfl}};{simp only [cT,w];exact k u (by omega)}};{simp only [zY c,zbi c,zbq,cT,cF,zV c q.1,uO];exact A u (by simpa using p)};{rw [jO c];rfl}};{simp only [zbq,cF,uO];rfl}
def zru:vU 90 znm:=kF1 zeB zZ zB zu zHF zG6
def zbad:zbf:=[(90,znm),(89,zjI),(92,zee),(91,zee),(94,zdV),(93,zdV)]++zXK
def zRG:zN zbad:=zi zru (zi zrp<|zi zkF<|zi zkE<|zi zjC<|zi zjB zyi)
def zE9:∀(l:List Mon) (u:List Bool),zht l u=true->∀x∈l,zd1 x=true
 |[],_,_,x,a=>by cases a
 |m::l,u,h,x,a=>by
  unfold zht at h;cases b:zd1 m;{rw [b]at h;cases h}
  .rw [b]at h;simp only[cT]at h;cases c:zgJ m.ae u with
   |none=>rw[c]at h;cases h
   |some d =>rw[c]at h;rcases qG.1 a with rfl|a;{exact b};{exact zE9 l d h x a}
def zFa {h:ac}(a:zbT h=true):∀x∈h.aa,zd1 x=true:=by unfold zbT at a;simp only[zc1]at a;exact zE9 _ _ a.2.2.2.2
def z4s {t:List k0}{n:Int}(h:zcT t n 12=true):∀s∈t,-1<=s.af/\s.af<12:=by intro s c;unfold zcT at h;simp only[zc1]at h;have a:=qM.1 h.1 s c;unfold zdO at a;cases b:zcx s C0;{rw [b]at a;simp only[cF,zc1]at a;have:=zfO.1 a.2.1;rw[show wsub .i64 12 1=11 from rfl] at this;omega};{unfold zcx at b;rw[qE]at b;have:s.af = -1:=qD b.1;omega}
def zOS:∀l:List Mon,(∀x∈l,zd1 x=true)->zks l=8*l.length
 |[],_=>rfl
 |m::l,h=>by have c:=znT (ziu<|h m (by simp));have a:=zOS l (λx b=>h x (by simp[b]));simp only[zks,qY,a,ln] at *;omega
def zOd {h:ac}(b:zcv h)(a:zbT h=true):zQ0 h:=by refine⟨b,?_⟩;rw[zOS _<|zFa a];have:=zJI a;omega
def zOX {h:ac}(c:zbT h=true):zQ8 h:=by intro m d s e;have:=z4s (ziu<|zFa c m d) s e;unfold wf64 Lit.wf;simp only[qE,decide_eq_true_iff];have a:IntKind.i64.min = -9223372036854775808:=rfl;have b:IntKind.i64.max=9223372036854775807:=rfl;rw[a,b];omega
def znu (h:ac):Bool:=bif zbT h then (cond (zlM h) (cond (zkD h) (cond (ziP h h.am) (ziP h h.ak) false) false) false) else false
@[simp] abbrev zgk (h:ac):Bool:=znu h
def zlT:Run:=rF1 dH λb=>(zby b,[aB<|zgk b])
def zAY (N:Nat)(a:ac):OA:=
 (oN (zei a)<|cond (zeg a) (oN (zlY a)<|cond (zoW a) (oN (zfI a)<|cond (zdx a) (oN (zd4 a a.am)<|cond (zcP a a.am) (oN (zd4 a a.ak)<|some [aB<|zcP a a.ak]) oF) oF) oF) oF)
def zMS (a:ac)(b:zby a=true):∃N,zAY N a=some [aB<|zgk a]:=by have c:=zS.1 b;have d:zbT a=true->zQ0 a:=zOd c;have e:zbT a=true->zQ8 a:=zOX;refine⟨0,?_⟩;unfold zAY oN;refine j0 rfl (br (λ_=>mu (br (λ_=>j0 rfl (br (λ_=>j0 rfl (br (λ_=>j0 rfl ?_) λ_=>?_)) λ_=>?_)) λ_=>?_)) λ_=>?_);all_goals first|rfl|(simp only [*,zgk,znu,zdx,zcP,cT,cF]<;>rfl)|simp_all[Ty.cells,zgk,znu,zdx,zcP]
def zGF:vU 88 zlT:=kF1 zRG zD zB zu (zy []) zMS
def zAF (N:Nat)(a:ac):OA:=
 (oN (zei a)<|cond (zeg a) (oN (zpP a)<|cond (ztE a) (oN (zfI a)<|cond (zdx a) (oN (zd4 a a.am)<|cond (zcP a a.am) (oN (zd4 a a.ak)<|some [aB<|zcP a a.ak]) oF) oF) oF) oF)
def zMz (a:ac)(b:zby a=true):∃N,zAF N a=some [aB<|zgk a]:=by have c:=zS.1 b;have d:zbT a=true->zQ0 a:=zOd c;have e:zbT a=true->zQ8 a:=zOX;refine⟨0,?_⟩;unfold zAF oN;refine j0 rfl (br (λ_=>mu (br (λ_=>j0 rfl (br (λ_=>j0 rfl (br (λ_=>j0 rfl ?_) λ_=>?_)) λ_=>?_)) λ_=>?_)) λ_=>?_);all_goals first|rfl|(simp only [*,zgk,znu,zdx,zcP,cT,cF]<;>rfl)|simp_all[Ty.cells,zgk,znu,zdx,zcP]
def zGo:vU 87 zlT:=kF1 zRG zD zB zu (zy []) zMz
def zog (x y:LI):Bool:=pc (x=y)
def zof (_ _:LI):Bool:=true
def zxs:Run:=rF2 (dS .int) (dS .int) λb c=>(zog b c,[aB<|zof b c])
def zAK (N:Nat)(b c:LI):OA:=
 (cond (ine (ln b)<|ln c) oF<|r0 (σ:=(Int×LI×LI×Unit)) N (λd a=>cond (ilt a.1<|ln a.2.1) (oN (inb a.1<|ln a.2.1)<|oN (inb a.1<|ln a.2.2.1)<|cond (ine (ix a.2.1 a.1 0)<|ix a.2.2.1 a.1 0) oF<|d (zK .i64 a.1 1,a.2.1,a.2.2.1,())) oT) (0,b,c,()))
def zNu:=zy [(50,0,{n:=26,tm:=[(0,.sl 0 []),(1,.sl 1 []),(5,ti)],lo:=[],ro:=[(0,.int,false),(1,.int,false)]})]
def zMD (a b:LI)(d:zbY big [aS .int a,aS .int b])(e:zog a b=true):∃N,zAK N a b=some [aB<|zof a b]:=by have:=zS.1 e;subst this;have f:=len0 d;refine⟨a.length+1,?_⟩;unfold zAK oN;rw[zSf];refine z7N a zbaF _ _ f (λi c rec=>?_) (λrec=>?_) (uP _);{simp only [zbx c,zY c,zbi c,pc_T,zSf,ztF,zOf,cT,cF,uA,Bool.not_false]};{simp only [zbq,cF,zof]}
def zGt:vU 50 zxs:=hF2 zeB zZ zB zu zNu zMD
def zFL (a:List k0)(b:List ax):∀(l:List ah) (i:Nat),(∀k (d:k<l.length),((i+k:Nat):Int)<ln b->zh2 (ix b ((i+k:Nat):Int) kZ) l[k].ay a=true)->zqn a b l i=true
 |[],_,_=>rfl
 |g::l,i,h=>by
  unfold zqn;cases f:ilt (i:Int) (ln b) with
  |false=>rfl
  |true=>
   have e:=h 0 (by simp) (by simpa using qD f);rw[cond_true,show zh2 (ix b (i:Int) zdi) g.ay a=true from e,cond_true];exact zFL a b l (i+1) λk d c=>by have:=h (k+1) (by simpa using d) (by rw[show i+(k+1)=i+1+k by omega];exact c);rw[show i+(k+1)=i+1+k by omega] at this;exact this
def z15 {h:ac}(S:Safe h):zkD h=true:=by unfold zkD;rw[qM];intro x d;obtain⟨m,c,e⟩:=zrA d mZ;have T:=S.rt.t m c;rw[e] at T;refine zFL _ _ _ 0 λk a b=>z8b.2 ?_;have hg:i0 ((0+k:Nat):Int) (ln x.ad)=true:=zC.2 ⟨by omega,by unfold ln;omega⟩;have:=T _ hg;rw[show ix x.ad ((0+k:Nat):Int) gZ=x.ad[k] by rw[show ((0+k:Nat):Int)=(k:Int) by omega];exact zj2 a gZ] at this;exact this
def cU (u:LI)(q:Int):Nat:=u.countP λz=>ieq z q
def zT9:∀(l:List k0) (u:LI),(∀s∈l,SOk s)->(∀q,0<=q->(l.countP λs=>ieq s.af q)+cU u q<=1)->∃v,spS l u=some v/\∀q,0<=q->cU v q=(l.countP λs=>ieq s.af q)+cU u q
 |[],u,_,_=>⟨u,rfl,λq _=>by simp⟩
 |s::l,u,j,g=>by
  have i:∀x∈l,SOk x:=λx n=>j x (qW _ n);unfold spS;by_cases e:s.af = -1;{rw [zbt.2 e,cond_true];obtain⟨v,d,f⟩:=zT9 l u i λq a=>(by have:=g q a;rw[zjt,if_neg (by omega)] at this;exact this);exact⟨v,d,λq a=>by rw[f q a,zjt,if_neg (by omega)];rfl⟩}
  .have hp:=(j s q0).pos e;rw[zbV.2 e,cond_false];have k:=g s.af hp.1;rw[zjt,if_pos rfl]at k;have m:u.any (λz=>ieq z s.af)=false:=by rw[<- vT,kS];rintro⟨z,p,h⟩;have:0<cU u s.af:=vG.2 ⟨z,p,h⟩;omega
   rw[m,cond_false];have b:∀q,cU (ap u [s.af]) q=cU u q+if s.af=q then 1 else 0:=λq=>by
    unfold cU ap;rw[List.countP_append,u5,List.countP_nil]
    by_cases c:s.af=q
    .rw [if_pos c,if_pos<|zbt.2 c]
    .rw [if_neg c,if_neg (by rw[zbt];exact c)]
   obtain⟨v,d,f⟩:=zT9 l (ap u [s.af]) i λq a=>(by have:=g q a;rw[zjt] at this;rw[b];omega);exact⟨v,d,λq a=>by rw[f q a,b,zjt];omega⟩
def z1Z:∀(l:List Mon) (u:LI),(∀x∈l,∀s∈x.ae,SOk s)->(∀q,0<=q->zeK l q+cU u q<=1)->spM l u=true
 |[],_,_,_=>rfl
 |x::l,u,d,c=>by have a:∀q,zeK (x::l) q=(x.ae.countP λs=>ieq s.af q)+zeK l q:=λq=>rfl;obtain⟨v,e,f⟩:=zT9 x.ae u (d x q0) λq b=>(by have:=c q b;rw[a] at this;omega);unfold spM;rw[e];exact z1Z l v (λy g=>d y (qW _ g)) λq b=>by have:=c q b;rw[a] at this;rw[f q b];omega
def z2r {h:ac}(H:HOk h):zlM h=true:=by rw[zRc];refine z1Z _ _ (λx b=>(H.mons x b).sl) λq a=>?_;have:=H.uq q a;simpa [cU] using this
def z1F {h:ac}(S:Safe h):znu h=true:=by unfold znu;rw[ziS.2 S.ok,cond_true,z2r S.ok,cond_true,z15 S,cond_true,show ziP h h.am=true from qM.2 S.rt.e1,cond_true];exact qM.2 S.rt.e2
structure Clear (h:ac) (m p:Int):Prop where
 d:ix (ix h.aa m mZ).av p false=false
 s:(ix (ix h.aa m mZ).ae p sZ).af≠-1->(ix (ix h.aa m mZ).ae p sZ).aj=1/\(∀e∈h.am,e.ac≠(ix (ix h.aa m mZ).ae p sZ).af)/\(∀e∈h.ak,e.ac≠(ix (ix h.aa m mZ).ae p sZ).af)/\
  ∀g i,i0 g (ln (ix h.aa m mZ).ad)=true->i0 i (ln (ix (ix h.aa m mZ).ad g gZ).ay)=true->(ix (ix (ix h.aa m mZ).ad g gZ).ay i sZ).af=p->ix (ix (ix h.aa m mZ).ai g kZ).aw i false=false
def Bl (b:List aq):Prop:=∀e∈b,e.ac≠-1
structure Bf (h:ac):Prop where
 b:Bl h.am
 io:Bl h.ak
def zRi {b c:List aq}(k:Bl b)(s:∀e∈c,e∈b):Bl c:=λe a=>k e (s e a)
def zeQ {h r:ac}(k:Bf h)(a:r.am=h.am)(c:r.ak=h.ak):Bf r:=⟨by rw[a];exact k.b,by rw[c];exact k.io⟩
def zIz {b:List aq}(k:Bl b)(p:Int):Bl (flushed b p):=zRi k λe a=>(uD.1 a).1
def zBg {b:List aq}(k:Bl b)(t p:Int):Bl (zcA b t p):=zRi k λe a=>(uD.1 a).1
def zZP {b:List aq}(k:Bl b){e:aq}(d:e.ac≠-1):Bl (zni b e):=by
 have c:Bl (ap (zcA b e.Tag e.af) [e]):=λx a=>by unfold ap at a;rcases jH.1 a with a|a;{exact zBg k _ _ x a};{rw [qF.1 a];exact d}
 unfold zni;cases igt (ln<|ap (zcA b e.Tag e.af) [e]) 6 with
 |true=>exact zRi c λx a=>kG a
 |false=>exact c
def zsu {h:ac}(k:Bf h)(m p:Int)(s:k0):Bf (zcc h m p s):=by unfold zcc;cases ine (ix (ix h.aa m zh).ae p zQ).af (-1) with|true=>exact⟨zIz k.b _,zIz k.io _⟩|false=>exact⟨k.b,k.io⟩
def zWn {h:ac}(k:Bf h)(m p:Int):Bf (zdH h m p):=zsu (h:=zeO h m p) (zeQ k rfl rfl) m p C0
def z2x {h:ac}(k:Bf h)(m p:Int):Bf (zoc h m p):=by unfold zoc;cases zcs h m p with|false=>exact k|true=>rw[cond_true];(cases zcx (ix (ix h.aa m zh).ae p zQ) C0 with|true=>exact zeQ k rfl rfl|false=>exact zsu (h:=znV h m p) (zeQ k rfl rfl) m p _)
def zZN {h:ac}(k:Bf h):Bf (zcV h):=by unfold zcV;cases ieq (ln<|zcg h) 0 with|true=>exact zWn k _ _|false=>exact k
def zIv {h:ac}(k:Bf h)(m p:Int):Bf (fetched h m p):=zsu (h:=landing (zcV h) m p (ix (zcg<|zcV h) 0 0)) (zeQ (zZN k) rfl rfl) m p _
def zRh {h:ac}(k:Bf h)(m p n:Int):Bf (zh7 h m p n):=by unfold zh7;cases ieq (wand .i64 n 2) 0 with|true=>exact k|false=>show Bf (opened (zbH h m p) m p);unfold opened;(cases ieq (wand .i64 (ix (ix (zbH h m p).aa m mZ).ae p sZ).aj 2) 0 with|true=>exact zsu (h:=zbH h m p) (zeQ k rfl rfl) m p _|false=>exact zeQ k rfl rfl)
def zOg {h:ac}(k:Bf h)(m p n:Int):Bf (D0 h m p n):=by unfold D0;cases ieq (ix (ix h.aa m mZ).ae p sZ).af (-1) with|true=>exact zRh (zIv k m p) m p n|false=>exact zRh k m p n
def zZM {h:ac}(k:Bf h){m g a:Int}{d:Bool}(c:(zeo (zcC h m g) a).af≠-1):Bf (zqI h m g a d):=by unfold zqI;cases d with|true=>exact⟨k.b,zZP k.io (e:=zC1 h m g a) c⟩|false=>exact⟨zZP k.b (e:=zC1 h m g a) c,k.io⟩
def z6Z {h:ac}(k:Bf h)(m g a:Int):Bf (zdQ h m g a):=zeQ k rfl rfl
def z2y {h:ac}(k:Bf h){b:List aq}{m g c a q:Int}{f:Bool}(d:(zgL h b m g c a q f).2.1≠-1):Bf (zgL h b m g c a q f).1:=by unfold zgL at d ⊢;cases i:zhj b m g c a with|true=>exact k|false=>rw[i,cond_false]at d;rw[cond_false];(cases e:zeY h m g c a with|true=>rw[e,cond_true]at d;rw[cond_true];exact zZM (z6Z (zOg k m q a) m g c) d|false=>rw[e,cond_false]at d;rw[cond_false];exact zZM k d)
def zLk {h:ac}(S:Safe h)(k:Bf h)(m g c a:Int)(i:Bool){b:List aq}(j:∀e∈b,zb3 h e=true):Bf (lookOf h b m g c a i).1:=by cases d:zca h m g c a with|false=>unfold lookOf;rw[d];exact k|true=>have f:=(zB2 S i d j).1.ne;unfold lookOf at f ⊢;rw[d,cond_true]at f ⊢;refine z2y ?_ f;(cases ieq a 2 with|true=>exact zeQ k rfl rfl|false=>exact k)
def zLl {h:ac}(k:Bf h)(m g:Int)(x:ah):Bf (zkH h m g x):=zeQ k rfl rfl
def zXA {L:ac×Int×Bool}(k:Bf L.1)(m g:Int)(x:ah)(w:Bool):Bf (zhI L m g x w):=by unfold zhI;cases L.2.2 with|false=>exact zeQ k rfl rfl|true=>(cases w with|true=>exact zeQ k rfl rfl|false=>exact zeQ k rfl rfl)
def z7d {h:ac}(k:Bf h)(m g:Int)(x:ah)(w:Int):Bf (zre h m g x w):=by have a:Bf (zfk h m x w):=(by unfold zfk;cases (cond (ine w 6) (ieq (zv3 (ix h.aa m mZ).ar x.Ctl.ar<|zui w) 2) false) with|false=>exact k|true=>show Bf (owned h m);unfold owned;(cases ilt (ix h.aa m mZ).Own 1000000000 with|true=>exact zeQ k rfl rfl|false=>exact k));unfold zre zgt;refine zLl ?_ m g _;cases (cond (zjZ x.Ctl.ar w) (ieq w 5) false) with|false=>exact a|true=>show Bf (zk7 (zfk h m x w) m _);unfold zk7;(cases ilt (ln (ix (zfk h m x w).aa m mZ).Outs) 40 with|true=>exact zeQ a rfl rfl|false=>exact a)
def z7c {h:ac}(S:Safe h)(k:Bf h)(m g:Int):Bf (zco h m g).1:=by unfold zco;cases zbX h m g with|false=>exact k|true=>rw[cond_true];unfold zKT;(cases ieq (zbc<|gOf h m g) 0 with|true=>exact k|false=>rw[cond_false];(cases ieq (zbc<|gOf h m g) 1 with|true=>exact zLl k m g _|false=>rw[cond_false];(cases ieq (zbc<|gOf h m g) 2 with|true=>exact zLl k m g _|false=>rw[cond_false];(cases (cond (ieq (zbc<|gOf h m g) 3) true<|ieq (zbc<|gOf h m g) 4) with|true=>exact zXA (zLk S k _ _ _ _ _ S.rt.e1) m g _ _|false=>exact z7d k m g _ _))))
def zpF {h:ac}(k:Bf h)(m:Int)(b:ao):Bf (zgM h m b):=by unfold zgM;cases zcQ h m with|true=>exact zeQ k rfl rfl|false=>exact k
def z2w {h:ac}(k:Bf h)(m g p:Int):Bf (zh0 h m g p):=by unfold zh0;cases zcQ h m with|false=>exact k|true=>rw[cond_true];(cases zck (zL h m) g (i0 p 4) with|false=>exact k|true=>exact⟨zBg k.b _ _,zBg k.io _ _⟩)
def z7a {h:ac}(k:Bf h)(m p c v:Int):Bf (zjD h m p c v):=by unfold zjD;cases zeZ h m p c v with|false=>exact k|true=>exact zeQ (zOg k m p 2) rfl rfl
def z9b {h:ac}(S:Safe h)(k:Bf h)(m g a v:Int):Bf (zlH h m g a v):=by unfold zlH;cases zgx h m g a v with|false=>exact k|true=>exact zeQ (zLk S k m g (zbm a) 2 true S.rt.e2) rfl rfl
def z7b {h:ac}(S:Safe h)(k:Bf h)(m g a:Int):Bf (zjE h m g a):=by unfold zjE;cases zfA h m g a with|false=>exact k|true=>exact zLk S k m g (zbm a) 1 true S.rt.e2
def zXz {h:ac}(k:Bf h)(m p:Int):Bf (zlL h m p):=by unfold zlL;cases zcs h m p with|false=>exact k|true=>(cases ziJ h m p with|true=>exact k|false=>exact zWn k m p)
def zZL {h:ac}(k:Bf h)(m p:Int):Bf (zok h m p):=by unfold zok;cases zcs h m p with|false=>exact k|true=>(cases ziJ h m p with|true=>exact zIv k m p|false=>exact k)
def z2z {h:ac}(k:Bf h)(m t:Int):Bf (zhH h m t):=by unfold zhH;cases zbT h with|false=>exact k|true=>(cases i0 m (ln h.aa) with|false=>exact k|true=>(cases zk t 0 3 with|true=>exact zeQ k rfl rfl|false=>exact k))
def z6Y (h:ac):Bf (cold h):=⟨λe a=>(by cases a),λe a=>(by cases a)⟩
def z9a {h:ac}(S:Safe h)(k:Bf h)(a:GAct):Bf (zeh h a):=by unfold zeh;cases zk a.Kind 1 17 with|false=>exact k|true=>rw[cond_true];(cases zk a.Kind 13 17 with|true=>rw[cond_true];unfold zk8;(cases ieq a.Kind 13 with|true=>exact zXz k _ _|false=>(cases ieq a.Kind 14 with|true=>exact zZL k _ _|false=>(cases ieq a.Kind 15 with|true=>exact z2x k _ _|false=>(cases ieq a.Kind 16 with|true=>exact z2z k _ _|false=>exact z6Y h))))|false=>rw[cond_false];unfold zry;(cases ieq a.Kind 1 with|true=>exact z7c S k _ _|false=>(cases ieq a.Kind 2 with|true=>exact zpF k _ _|false=>(cases ieq a.Kind 3 with|true=>exact z2w k _ _ _|false=>(cases ieq a.Kind 4 with|true=>exact zpF k _ _|false=>(cases ieq a.Kind 5 with|true=>exact zpF k _ _|false=>(cases ieq a.Kind 6 with|true=>exact zpF k _ _|false=>(cases ieq a.Kind 7 with|true=>exact zpF k _ _|false=>(cases ieq a.Kind 8 with|true=>exact z7a k _ _ _ _|false=>(cases ieq a.Kind 9 with|true=>exact zpF k _ _|false=>(cases ieq a.Kind 10 with|true=>exact zpF k _ _|false=>(cases ieq a.Kind 11 with|true=>exact z9b S k _ _ _ _|false=>exact z7b S k _ _ _))))))))))))
def zZO:∀(l:List GAct) (u:ac×List aE),Safe u.1->Bf u.1->Bf (zyV l u).1
 |[],u,_,k=>k
 |a::l,u,S,k=>zZO l (zeh u.1 a,ap u.2 [ziI u.1 a]) (zQ9 S a).1 (z9a S k a)
def zWP {l:LI}{x:Int}:x∈zfv l↔x∈l:=by rw[<- zyQ,zyJ];simp
def zu1 {g:Type}{f:Nat->g->Option Int}{q:Int}:∀{l:List g} {i:Nat},q∈picks f l i↔∃k:Nat,∃a:k<l.length,f (i+k) l[k]=some q
 |[],i=>by simp[picks]
 |x::l,i=>by
  have d:=@zu1 g f q l (i+1);unfold picks;constructor
  .intro h;cases c:f i x with
   |none=>rw[c]at h;obtain⟨k,a,e⟩:=d.1 h;exact⟨k+1,by simp;omega,by rw[show i+(k+1)=i+1+k by omega];exact e⟩
   |some n=>rw[c]at h;rcases qG.1 h with rfl|h;{exact⟨0,by simp,c⟩};{obtain⟨k,a,e⟩:=d.1 h;exact⟨k+1,by simp;omega,by rw[show i+(k+1)=i+1+k by omega];exact e⟩}
  .rintro⟨k,a,e⟩;have b:∀k:Nat,∀a:k+1<(x::l).length,f (i+(k+1)) (x::l)[k+1]=some q->q∈picks f l (i+1):=λk a e=>d.2 ⟨k,by simpa using a,by rw[show i+1+k=i+(k+1) by omega];exact e⟩
   cases c:f i x with
   |none=>
    cases k with
    |zero=>rw[show f (i+0) (x::l)[0]=f i x from rfl,c] at e;cases e
    |succ k=>exact b k a e
   |some n=>
    cases k with
    |zero=>rw[show f (i+0) (x::l)[0]=f i x from rfl,c] at e;cases e;exact q0
    |succ k=>exact qW _ (b k a e)
def z8m {h:ac}{m:Int}(a:i0 m (ln h.aa)=true):zbl h m=ix h.aa m mZ:=by show (cond (i0 m<|ln h.aa) _ _)=_;rw[a];rfl
def z8s {h:ac}{m:Int}(g:i0 m (ln h.aa)=true){q:Int}:q∈ze4 h m↔q≠-1/\∃k,i0 k (ln (ix h.aa m mZ).ae)=true/\(ix (ix h.aa m mZ).ae k sZ).af=q:=by unfold ze4;rw[zWP,z8m g,zu1];constructor;{rintro⟨k,a,e⟩;unfold zkL at e;by_cases b:(ix h.aa m mZ).ae[k].af = -1;{rw [show ine (ix h.aa m mZ).ae[k].af (-1)=false by simp[ine,b]] at e;cases e};{rw [zpQ.2 b] at e;have c:(ix h.aa m mZ).ae[k].af=q:=Option.some.inj e;refine⟨c ▸ b,(k:Int),zC.2 ⟨by omega,by unfold ln;omega⟩,?_⟩;rw[zj2 a];exact c}};{rintro⟨i,k,a,e⟩;obtain⟨j,f,rfl,d⟩:=zuY a sZ;refine⟨j,f,?_⟩;rw[d] at e;unfold zkL;rw[zpQ.2<|e ▸ i,<- e];rfl}
def zV2 {o:List k0}{p:Int}(h:(zbv o p).af≠-1):i0 p (ln o)=true/\zbv o p=ix o p sZ:=by unfold zbv at h ⊢;cases a:i0 p (ln o) with|false=>rw[a]at h;exact absurd rfl h|true=>exact⟨rfl,rfl⟩
def zRs {s:k0}{o:List k0}(h:(zbj s o).af≠-1):(zbj s o).af=(zbv o s.af).af:=by unfold zbj at h ⊢;cases a:ieq s.af (-1) with|true=>rw[a]at h;exact absurd rfl h|false=>rw[a]at h;rw[cond_false]at h ⊢;(cases b:ieq (zbv o s.af).af (-1) with|true=>rw[b]at h;exact absurd rfl h|false=>rw[b]at h;rw[cond_false]at h ⊢;(cases c:ieq (zd0 s.aj (zbv o s.af).aj) 0 with|true=>rw[c]at h;exact absurd rfl h|false=>rfl))
def zES {h:ac}{m:Int}(f:i0 m (ln h.aa)=true){s:k0}{q:Int}(e:(zbj s (ix h.aa m mZ).ae).af=q)(b:q≠-1):q∈ze4 h m:=by have a:=zRs (e ▸ b);rw[e]at a;obtain⟨c,d⟩:=zV2 (o:=(ix h.aa m mZ).ae) (p:=s.af) (a ▸ b);exact(z8s f).2 ⟨b,s.af,c,by rw[<- d];exact a.symm⟩
def z1u {h:ac}(S:Safe h)(B:Bf h){m:Int}(v:i0 m (ln h.aa)=true):∀q∈zfi h m,q∈ze4 h m:=by
 intro q c;unfold zfi at c;rw[v,cond_true,zWP]at c;rcases jH.1 c with c|c
 .have key:∀l:List ax,q∈zhA l->∃k∈l,q∈zxo k:=by
   intro l
   induction l with
   |nil=>intro f;cases f
   |cons k l I=>intro f;rcases jH.1 f with f|f;{exact⟨k,q0,f⟩};{obtain⟨J,E,F⟩:=I f;exact⟨J,qW _ E,F⟩}
  obtain⟨k,G,c⟩:=key _ c;obtain⟨g,hg,e⟩:=zrA G kZ;have M:=S.ok.mon v;have x:i0 g (ln (ix h.aa m mZ).ad)=true:=(by have:(ix h.aa m mZ).ai.length=(ix h.aa m mZ).ad.length:=M.gt;unfold ln at hg ⊢;rw[<- this];exact hg);have K:=S.rt.t m v g x;rw[e] at K;unfold zxo at c;obtain⟨j,C,a⟩:=zu1.1 c;rw[j4] at a;unfold znb at a;cases p:zgy k (j:Int) with|false=>rw[p] at a;cases a|true=>rw[p,cond_true] at a;unfold zeo at a;rw[p,cond_true] at a;unfold zkL at a;by_cases r:(ix k.au (j:Int) zQ).af = -1;{rw [show ine (ix k.au (j:Int) zQ).af (-1)=false by simp[ine,r]] at a;cases a};{rw [zpQ.2 r] at a;have s:(ix k.au (j:Int) sZ).af=q:=Option.some.inj a;have H:i0 (j:Int) (ln (ix (ix h.aa m mZ).ad g gZ).ay)=true:=zC.2 ⟨by omega,by have:=K.l2;unfold ln;omega⟩;have w:=K.at' (j:Int) H;unfold zgy at p;have y:ix k.aw (j:Int) false=true:=(by cases f:zds k (j:Int) with|false=>rw[f]at p;cases p|true=>rw[f]at p;exact p);rw[y,cond_true] at w;rw[w] at s;exact zES v s (by rw[<- s,<- w];exact r)}
 .unfold zCc at c;obtain⟨j,C,a⟩:=zu1.1 c;have n:(h.am++h.ak)[j]∈h.am++h.ak:=jB C;generalize (h.am++h.ak)[j]=d at a n;unfold zzb at a;cases A:ieq (zb2 d.Tag) m with
  |false=>rw[A] at a;cases a
  |true=>rw[A] at a;have s:d.ac=q:=Option.some.inj a;have D:zb2 d.Tag=m:=zbt.1 A;have i:zb3 h d=true/\d.ac≠-1:=(by rcases jH.1 n with i|i;{exact⟨S.rt.e1 d i,B.b d i⟩};{exact⟨S.rt.e2 d i,B.io d i⟩});obtain⟨_,_,u⟩:=zfb.1 i.1;rw[D]at u;rcases znC.1 u with z|⟨r,_⟩;{exact absurd (congrArg k0.af z) i.2};{have r:d.ac=(zbj _ (ix h.aa m mZ).ae).af:=r;exact zES v (r.symm.trans s) (by rw[<- s];exact i.2)}
def z3G {h:ac}(L:zx6 h):Bf h:=by obtain⟨d,l,c,b,rfl⟩:=L;unfold ztD;exact zZO _ _ (zJH b) ⟨λe a=>(by cases a),λe a=>(by cases a)⟩
def zKI:∀l:List ax,(∀k∈l,k.au.length=4)->zjg l=4*l.length
 |[],_=>rfl
 |k::l,h=>by have:=zKI l λx b=>h x (qW _ b);have a:=h k q0;simp only[zjg,qY,this,a];omega
def zbam {h:ac}(S:Safe h){m g:Int}(a:i0 m (ln h.aa)=true)(hg:i0 g (ln (ix h.aa m mZ).ad)=true):(ix (ix h.aa m mZ).ad g gZ).ay.length=4:=by have:=(zmN.1 (S.ok.guest a hg).l).2;unfold ln at this;omega
def zTA {h:ac}(S:Safe h)(f:zcv h)(m:Int):zCS h m:=by refine⟨f,λb=>?_⟩;have M:=S.ok.mon b;have:zjg (ix h.aa m zh).ai=4*(ix h.aa m zh).ai.length:=zKI _ λk d=>(by obtain⟨g,hg,e⟩:=zrA d kZ;have a:i0 g (ln (ix h.aa m mZ).ad)=true:=(by unfold ln at hg ⊢;rw[<- M.gt];exact hg);have K:=S.rt.t m b g a;rw[e] at K;rw[K.l2];exact zbam S b a);have i:=M.g2;have c:=M.gt;have j:(ix h.aa m zh).ai.length=(ix h.aa m mZ).ad.length:=c;omega
def zS5 {d b:Type}{f:d->b}{l:List d}{x:b}{c:List b}(h:l.map f=x::c):∃a r,l=a::r/\f a=x/\r.map f=c:=by cases l with|nil=>cases h|cons a r=>simp only[jG,List.cons.injEq]at h;exact⟨a,r,rfl,h.1,h.2⟩
def z9V {a:AV}{b:CTy}(h:some a.sh=some (false,[b])):∃c,a = .one c/\c.ty=b:=by cases a with|one c=>simp only[AV.sh,qC,jS,List.cons.injEq,and_true,true_and]at h;exact⟨c,rfl,h⟩|agg l=>simp[AV.sh]at h
def sh_s {a:AV}{t:Ty}(h:some a.sh=some (false,[.s t])):∃l:List t.den,a = .one (.s t l):=by obtain⟨c,rfl,b⟩:=z9V h;obtain⟨l,rfl⟩:=zlC b;exact⟨l,rfl⟩
section
open Go Go.ChangeShapes Go.WideShapes Go.ChangeAt
abbrev zMw (_:LI):Bool:=true
abbrev zJN (l:LI):Bool:=igt (ln l) 1048576
def zO2:Run:=rF1 (dS .u8) λb=>(zMw b,[aB<|zJN b])
def zWh (N:Nat)(a:LI):OA:=
 (some [aB<|igt (ln a) 1048576])
def z0R (a:LI)(b:zMw a=true):∃N,zWh N a=some [aB<|zJN a]:=by refine⟨0,?_⟩;unfold zWh;first|rfl|(simp only [*,zJN,cT,cF]<;>rfl)|simp_all[Ty.cells,zJN]
def zU9:vU 9 zO2:=kF1 zRA zZ zB zu (zy []) z0R
def z5l:zbf:=[(9,zO2),(10,zp3),(87,zlT),(88,zlT),(89,zjI),(90,znm),(91,zee),(92,zee),(93,zdV),(94,zdV),(95,zqP),(96,zqP),(97,zlR),(98,zlR),(50,zxs)]++z5F
def z2V:zN z5l:=zi zU9 (zi ztz<|zi zGo<|zi zGF<|zi zrp<|zi zru<|zi zkE<|zi zkF<|zi zjB<|zi zjC<|zi zPq<|zi zPD<|zi zGm<|zi zGC<|zi zGt zRA)
def zDh (x:Bool):(cond (zmg x x) false true)=false:=by rw[zOf];rfl
def z8Z {h:ac}(A:AnyH h):zQ0 h:=by have k:∀l:List Mon,(∀x∈l,x.ae.length<=8)->zks l<=8*l.length:=(by intro l;induction l with|nil=>intro _;exact qS _|cons m l c=>intro b;have d:=b m (by simp);have e:=c λx a=>b x (by simp[a]);simp only[zks,qY];omega);have:=k h.aa λx a=>(A.mons x a).o8;have:=A.n3;exact⟨(zbd _).2 A.sm,by omega⟩
def z81 {h:ac}(A:AnyH h):zQ8 h:=by intro m a s b;have:=(A.mons m a).pg s b;unfold wf64 Lit.wf;simp only[qE,decide_eq_true_iff];exact this
def zOa {h:ac}(A:AnyH h)(m:Int):zCS h m:=by refine⟨(zbd _).2 A.sm,λb=>?_⟩;have M:=A.mons _ (zbD (zF b) zh);have k:∀l:List ax,(∀x∈l,x.au.length<=1048576)->zjg l<=1048576*l.length:=(by intro l;induction l with|nil=>intro _;exact qS _|cons x l e=>intro a;have f:=a x (by simp);have g:=e λy d=>a y (by simp[d]);simp only[zjg,qY];omega);have:=k _ λx c=>(M.sm.2.2.2.2.2.2 x c).2;have:=M.t2;omega
def zqq (N:Nat)(a:LI):OA:=
 let g:=zj7 a;let f:=zj6 a;let e:=zi5 a; (oN (zMw a)<|cond (zJN a) oT<|oN (zf7 a)<|oN (zeF a)<|oN (zhT a)<|oN (zby e)<|oN (zby e)<|cond (nB<|zmg (zgk e)<|zgk e) oF<|oN (zpP e)<|oN (zlY e)<|cond (nB<|zmg (ztE e)<|zoW e) oF<|oN (zfI e)<|oN (zfI e)<|cond (nB<|zmg (zdx e)<|zdx e) oF<|oN (zd4 (zd2 a)<|zd3 a)<|oN (zd4 (zd2 a)<|zd3 a)<|cond (nB<|zmg (zcP (zd2 a)<|zd3 a)<|zcP (zd2 a)<|zd3 a) oF<|oN (znO f g)<|oN (znO f g)<|oN (zog (zkv f g)<|zkv f g)<|cond (nB<|zof (zkv f g)<|zkv f g) oF<|oN (zgF f g)<|oN (zgF f g)<|oN (zog (zg6 f g)<|zg6 f g)<|cond (nB<|zof (zg6 f g)<|zg6 f g) oF<|oN (zi4 a)<|r0 (σ:=(Int×lM×lN×lE×lE×Unit)) N (λr c=>let i:=(⟨c.2.1,c.2.2.1,c.2.2.2.1,c.2.2.2.2.1⟩:ac); (cond (ilt c.1<|ln c.2.2.1) (oN (zgF i c.1)<|oN (znO i c.1)<|r0 (σ:=(Int×Int×LI×LI×lM×lN×lE×lE×Unit)) N (λs d=>cond (ilt d.2.1<|ln d.2.2.2.1) (r0 (σ:=(Int×Int×Bool×Int×LI×LI×lM×lN×lE×lE×Unit)) N (λq b=>let a:=b.2.2.2.2;let h:=a.2.2.1;let p:=a.2.2.2.1;let l:=b.2.2.2.1;let n:=a.2.2.2.2.1;let m:=a.2.2.2.2.2.1;let k:=a.2.1;let j:=a.1; (cond (ilt l<|ln j) (cond b.2.2.1 (q (b.1,b.2.1,true,zK .i64 l 1,j,k,h,p,n,m,()))<|oN (inb l<|ln j)<|oN (inb b.2.1<|ln k)<|q (b.1,b.2.1,ieq (ix j l 0)<|ix k b.2.1 0,zK .i64 l 1,j,k,h,p,n,m,()))<|cond (nB b.2.2.1) oF<|s (b.1,zK .i64 b.2.1 1,j,k,h,p,n,m,()))) (d.1,d.2.1,false,0,d.2.2.1,d.2.2.2.1,d.2.2.2.2.1,d.2.2.2.2.2.1,d.2.2.2.2.2.2.1,d.2.2.2.2.2.2.2.1,()))<|r (zK .i64 d.1 1,d.2.2.2.2.1,d.2.2.2.2.2.1,d.2.2.2.2.2.2.1,d.2.2.2.2.2.2.2.1,())) (c.1,0,zg6 i c.1,zkv i c.1,c.2.1,c.2.2.1,c.2.2.2.1,c.2.2.2.2.1,()))<|oN (zby i)<|some [aB<|zgk i])) (0,(zia a).ag,(zia a).aa,(zia a).am,(zia a).ak,()))
def zAn:=zy [(8,0,{n:=120,tm:=[(8,.lp 0 0),(9,ti)],lo:=[(0,[.sl 0 [],.sl 1 [],.sl 2 [],.sl 3 []])],ro:=[(0,.sl .int,true),(1,.mon,true),(2,.entry,true),(3,.entry,true)]}),(8,2,{n:=120,tm:=[(8,.lp 0 0),(9,ti),(10,.sl 0 []),(11,.sl 1 []),(12,ti)],lo:=[(0,[.sl 2 [],.sl 3 [],.sl 4 [],.sl 5 []])],ro:=[(0,.int,true),(1,.int,true),(2,.sl .int,true),(3,.mon,true),(4,.entry,true),(5,.entry,true)]}),(8,4,{n:=120,tm:=[(8,.lp 0 0),(9,ti),(10,.sl 0 []),(11,.sl 1 []),(12,ti),(13,.b),(14,ti)],lo:=[(0,[.sl 2 [],.sl 3 [],.sl 4 [],.sl 5 []])],ro:=[(0,.int,true),(1,.int,true),(2,.sl .int,true),(3,.mon,true),(4,.entry,true),(5,.entry,true)]})]
def zS9 (N:Nat)(a:LI):evalFn (cQ z5l z3O zHg zNp) zAn N 12 8 [aS .u8 a]=zqq N a:=by kernel_rfl
def zLu (N:Nat)(m:LI)(f:m.length<=big)(hN:40000000<N):Ends (λa=>a=[.one<|.b true]) (zqq N m):=by
 unfold zqq oN nB;conv=>zeta
 have A:=(ztZ<|zwN f).2;have C:=(zAb<|zEW f).2;have L:=(zCv<|zIJ f).2;obtain⟨S,Q⟩:=zS0 L;have M:=z3G L;refine zA rfl (zbC (λ_=>zwO rfl) λ_=>zA (zwN f) (zA (zBr f)<|zA (zEW f) ?_));generalize zi5 m=Z at A;generalize zj6 m=h3 at C;generalize zj7 m=R;have B:=(zbd _).2 A.sm;have O:=(zbd _).2 C.sm;refine zA (zbn B) (zA (zbn B)<|zpK (zDh _)<|zA (zbn ⟨B,z81 A⟩)<|zA (zbn<|z8Z A)<|zpK (zDh _) (zA rfl (zA rfl (zpK (zDh _) (zA rfl (zA rfl (zpK (zDh _)<|zA (zbn<|zOa C R)<|zA (zbn<|zOa C R)<|zA (zbn rfl) (zpK rfl (zA (zbn O)<|zA (zbn O)<|zA (zbn rfl) (zpK rfl (zA (zIJ f) ?_)))))))))));generalize zia m=h at S Q M;have q:zcv h:=(zbd h).2 Q;have X:=S.ok.n3;refine ziO (λn s=>∃i:Nat,s=((i:Int),h.ag,h.aa,h.am,h.ak,())/\i+n=h.aa.length) ?_ N h.aa.length _ ⟨0,rfl,by omega⟩ (by omega);rintro n s rec ⟨i,rfl,hi⟩ y;dsimp only;refine zbC (λI=>?_) (λ_=>zA (zbn q) ⟨_,rfl,congrArg (λb=>[AV.one<|.b b])<|z1F S⟩);have e:(i:Int)<ln h.aa:=qD I;have W:i0 (i:Int) (ln h.aa)=true:=zC.2 ⟨by omega,e⟩;unfold ln at e;have ro:=z1u S M W;have rl:=zO0 (zTA S q i);have ol:=zB5 q i;refine zA (zbn q) (zA (zbn<|zTA S q i) ?_);refine ziO (λn s=>∃j:Nat,s=((i:Int),(j:Int),ze4 h i,zfi h i,h.ag,h.aa,h.am,h.ak,())/\j+n=(zfi h i).length) ?_ N (zfi h i).length _ ⟨0,rfl,by omega⟩ (by omega);rintro Y s T ⟨j,rfl,hj⟩ l;dsimp only;refine zbC (λw=>?_) (λ_=>?_);{have u:(j:Int)<ln (zfi h i):=qD w;have D:inb (j:Int) (ln<|zfi h i)=true:=zF (zC.2 ⟨by omega,u⟩);unfold ln at u;have v:j<(zfi h i).length:=(by omega);have x:(zfi h i)[j]∈ze4 h i:=ro _ (jB v);obtain⟨J,G,U⟩:=vE.1 x;refine ziO (λn s=>∃(k:Nat) (b:Bool),s=((i:Int),(j:Int),b,(k:Int),ze4 h i,zfi h i,h.ag,h.aa,h.am,h.ak,())/\k+n=(ze4 h i).length/\(J<k->b=true)) ?_ N (ze4 h i).length _ ⟨0,false,rfl,by omega,λh=>by omega⟩ (by omega);rintro z s K ⟨k,b,rfl,hk,P⟩ c;dsimp only;refine zbC (λg=>?_) (λF=>?_);{have d:(k:Int)<ln (ze4 h i):=qD g;have E:inb (k:Int) (ln<|ze4 h i)=true:=zF (zC.2 ⟨by omega,d⟩);unfold ln at d;have p:zK .i64 (k:Int) 1=((k+1:Nat):Int):=(by rw[zmd (by omega) (by omega)];omega);refine zbC (λt=>c (z-1) _ (by omega) ⟨k+1,true,by rw[p],by omega,λ_=>rfl⟩) (λr=>zA E (zA D<|c (z-1) _ (by omega) ⟨k+1,_,by rw[p],by omega,λV=>?_⟩));have H:k=J:=(by rcases uT J k with h|h;{rw [P h]at r;cases r};{omega});subst H;rw[zbi G,zbi v,U];exact ztF _};{have d:¬ (k:Int)<ln (ze4 h i):=jT F;unfold ln at d;have t:=P (by omega);subst t;have p:zK .i64 (j:Int) 1=((j+1:Nat):Int):=(by rw[zmd (by omega) (by omega)];omega);exact zpK rfl (l (Y-1) _ (by omega) ⟨j+1,by rw[p],by omega⟩)}};{have p:zK .i64 (i:Int) 1=((i+1:Nat):Int):=(by rw[zmd (by omega) (by omega)];omega);exact y (n-1) _ (by omega) ⟨i+1,by rw[p],by omega⟩}
def zPh (d:LI)(i:∀c∈zq [aS .u8 d],CVOk c):∃N,zqq N d=some [.one<|.b true]:=by have f:zbY big [aS .u8 d]:=λc g=>CVB.of_ok (i c g);have h:=len0 f;obtain⟨N,e⟩:∃N:Nat,40000000<N:=⟨_,uP _⟩;exact⟨N,z7L (G:=λa=>a=[.one<|.b true])<|zLu N d h e⟩
def zKF:Tryz.f8.params.toList.map (zcH Tryz.prog 4)=[some (false,[.s .u8])]:=by kernel_rfl
def zDu:zWe 8 Tryz.f8.params.toList:=by refine zUS z2V zZ zB zu (zhJ (by kernel_rfl)) ?_;intro c hg;obtain⟨a,e⟩:=hg;rw[zKF]at a;obtain⟨h,g,rfl,d,a⟩:=zS5 a;cases List.map_eq_nil_iff.1 a;obtain⟨b,rfl⟩:=sh_s d;obtain⟨N,f⟩:=zPh b e;exact⟨zAn,N,12,(zS9 N b).trans f⟩
def zNl (H:Type)(a:List (DataW H))(h:a.length=Tryz.f8.params.toList.length):Rows.fnApartSpec.fn H a={results:=[.lit<|.bool true],args:=a}:=by
 have b:a.length=1:=h.trans (by kernel_rfl)
 match a,b with
 |[d],_=>rfl
set_option maxRecDepth 100000 in
def zG9 (g:Os)(a:g.Started)(H:Type)(enc:TypeId×Value->H) :
 ReturnsInHanded {} Tryz.checked g 8 .any (Rows.fnApartSpec.pre6 enc Tryz.prog Tryz.f8 Rows.fnApartRow.domain false) (Rows.fnApartSpec.post enc Tryz.prog Tryz.f8 false true false false):=by
 refine returnsInHanded_of_change_shaped (C:=Tryz.checked) own a (by kernel_rfl) Tryz.func8
  (ChangeSpec.witness6 (enc:=enc) (C:=Tryz.checked) false ⟨#[],#[.slice none 0 0],[]⟩ 8 (by kernel_rfl) (by kernel_rfl) (by kernel_rfl) (by kernel_rfl)) ?_
 intro W d c h i b e j _ f _ _;exact zJO (P:=Tryz.prog) z2D z3E rfl zNl (by kernel_rfl) (B:=4) (by kernel_rfl) (by kernel_rfl) zDu W d c h i b e j f
end
end
end Go.Proofs.YtapgkefgcbapcaaGreat.E
