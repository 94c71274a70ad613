/- What is proved here: a part of the proof that the statement of this claim holds (several texts of wip/, laid together). -/
import Derived.Test.YthdlghbibaoabaaGreatV6
namespace Go.Proofs.YthdlghbibaoabaaGreat.E
open Go
set_option linter.unusedVariables false
set_option maxRecDepth 100000
set_option linter.unusedSimpArgs false
set_option linter.unusedSectionVars false
noncomputable section
theorem zBR:∀(l:List Slot) (n:Int),0<=n->n+l.length<=1000000->mapped l n=n+(l.countP fun s=>ine s.Page (-1))
 |[],n,_,_=>by simp[mapped]
 |s::l,n,h0,h1=>by rw[mapped];simp only[qV]at h1;have hw:zK .i64 n 1=n+1:=zDM (by omega) (by omega);rw[kG];cases hs:ine s.Page (-1) with|true=>rw[cond_true,hw,zBR l (n+1) (by omega) (by omega)];simp;omega|false=>rw[cond_false,zBR l n h0 (by omega)];simp
theorem zBD {α:Type}(P:α->Bool):∀(l:List α) (i:Nat),(idxs P l i).length=l.countP P
 |[],i=>rfl
 |x::l,i=>by rw[idxs,kG];cases P x with|true=>rw[cond_true,qV,zBD P l];simp|false=>rw[cond_false,zBD P l];simp
def zgR (f:Nat->Nat):Nat->Nat
 | 0=>0
 |n+1=>zgR f n+f n
theorem zHK (f g:Nat->Nat):∀n,zgR (fun q=>f q+g q) n=zgR f n+zgR g n
 | 0=>rfl
 |n+1=>by simp only[zgR,zHK f g n];omega
theorem zKR {f g:Nat->Nat}:∀n,(∀q,q<n->f q=g q)->zgR f n=zgR g n
 | 0,_=>rfl
 |n+1,h=>by simp only[zgR,zKR n (fun q hq=>h q (by omega)),h n (by omega)]
theorem zCZ:∀n,zgR (fun _=>0) n=0
 | 0=>rfl
 |n+1=>by simp only[zgR,zCZ n]
theorem zTX (p:Int):∀n:Nat,zgR (fun q=>if p=(q:Int) then 1 else 0) n=if 0<=p/\p<n then 1 else 0
 | 0=>by rw[if_neg (by omega)];rfl
 |n+1=>by simp only[zgR,zTX p n];by_cases h1:p=n;{rw [if_neg (by omega),if_pos h1,if_pos (by omega)]};{rw [if_neg h1];by_cases h2:0<=p/\p<n;{rw [if_pos h2,if_pos (by omega)]};{rw [if_neg h2,if_neg (by omega)]}}
theorem zKS:∀(o:List Slot),(∀s∈o,SOk s)->zgR (fun q=>o.countP fun s=>ieq s.Page (q:Int)) 12=o.countP fun s=>ine s.Page (-1)
 |[],_=>zCZ 12
 |s::o,h=>by
  have ih:=zKS o fun x hx=>h x (qW _ hx);have e:(fun q:Nat=>(s::o).countP fun s=>ieq s.Page (q:Int))=fun q:Nat=>(o.countP fun s=>ieq s.Page (q:Int))+if s.Page=(q:Int) then 1 else 0:=funext fun q=>zsr o s _
  rw[e,zHK,ih,zTX,kG];congr 1;have hs:=h s jC;by_cases hp:s.Page = -1;{rw [if_neg (by omega),hp];rfl};{have:=hs.pos hp;rw[if_pos (by omega),if_pos (zoz.2 hp)]}
def zxH (l:List Mon):Nat:=(l.map fun x=>x.Outer.countP fun s=>ine s.Page (-1)).sum
theorem zTW:∀(l:List Mon),(∀x∈l,∀s∈x.Outer,SOk s)->zgR (fun q=>zdH l (q:Int)) 12=zxH l
 |[],_=>zCZ 12
 |x::l,h=>by have ih:=zTW l fun y hy=>h y (qW _ hy);have e:(fun q:Nat=>zdH (x::l) (q:Int))=fun q:Nat=>(x.Outer.countP fun s=>ieq s.Page (q:Int))+zdH l (q:Int):=rfl;rw[e,zHK,ih,zKS _ (h x jC)];rfl
theorem zOm (P:Nat->Bool):∀n i,(zqM P n i).length+zgR (fun q=>if P (i+q) then 0 else 1) n=n
 | 0,i=>rfl
 |n+1,i=>by
  have ih:=zOm P n (i+1);have e:zgR (fun q=>if P (i+q) then 0 else 1) (n+1)=(if P i then 0 else 1)+zgR (fun q=>if P (i+1+q) then 0 else 1) n:=by
   clear ih
   induction n with
   |zero=>simp[zgR]
   |succ n ih=>
    rw[zgR,ih];conv=>rhs;rw[zgR]
    rw[show i+(n+1)=i+1+n by omega];omega
  rw[e,zqM];cases hp:P i with|true=>rw[cond_true,qV];simp;omega|false=>rw[cond_false];simp;omega
theorem z2K {h:Host}(H:HOk h):(zb3 h).length+zxH h.Mons=12:=by
 have h1:=zOm (fun i=>ilt (zbx h (i:Int)).1 0) h.Memory.length 0;rw[H.m12]at h1;have h2:zgR (fun q=>if ilt (zbx h ((0+q:Nat):Int)).1 0=true then 0 else 1) 12=zgR (fun q=>zdH h.Mons (q:Int)) 12:=by
  refine zKR 12 fun q _=>?_;have h3:=zyF (h:=h) (q:=(q:Int)) (by omega)
  have h4:=H.uq (q:Int) (by omega)
  rw[jU]
  by_cases hc:(zbx h (q:Int)).1<0
  .rw [if_pos (show ilt (zbx h (q:Int)).1 0=true from qL hc),h3.1 hc]
  .rw [if_neg (by rw[ilt,q9];exact hc)]
   have:zdH h.Mons (q:Int)≠0:=fun e=>hc (h3.2 e);omega
 rw[h2,zTW _ (fun x hx=>(H.mons x hx).sl)]at h1;unfold zb3;rw[H.m12];exact h1
theorem zG9 {h:Host}(H:HOk h){m:Int}(hm:hasB m (ln h.Mons)=true):zgK h m=((ix h.Mons m mZ).Outer.countP fun s=>ine s.Page (-1)):=by have e:zgK h m=mapped (ix h.Mons m mZ).Outer 0:=(by unfold zgK;rw[hm];rfl);rw[e,zBR _ _ (by omega) (by have:=(H.mon hm).o8;omega)];omega
theorem z2P {h:Host}(H:HOk h){m:Int}(hm:hasB m (ln h.Mons)=true):0<=zgK h m/\zgK h m<=8:=by rw[zG9 H hm];have:=List.countP_le_length (p:=fun s:Slot=>ine s.Page (-1)) (l:=(ix h.Mons m mZ).Outer);have:=(H.mon hm).o8;omega
theorem z3e {h:Host}{m:Int}(hm:hasB m (ln h.Mons)=true):zhD h m=ix h.Mons m mZ:=by unfold zhD;rw[hm];rfl
theorem z0P {h:Host}(H:HOk h){m:Int}(hm:hasB m (ln h.Mons)=true):((outOf h m).length:Int)+zgK h m=8:=by rw[zG9 H hm];unfold outOf;rw[zBD,z3e hm];have h8:=(H.mon hm).o8;have:∀o:List Slot,(o.countP fun s=>ieq s.Page (-1))+(o.countP fun s=>ine s.Page (-1))=o.length:=(by intro o;induction o with|nil=>rfl|cons s o ih=>rw[kG,kG,qV];by_cases hs:s.Page = -1;{rw [if_pos (zbl.2 hs),if_neg (by rw[zoz];exact fun h=>h hs)];omega};{rw [if_neg (by rw[zbl];exact hs),if_pos (zoz.2 hs)];omega});have:=this (ix h.Mons m mZ).Outer;rw[h8] at this;omega
theorem z1h (h:Host):(zdm h).length=h.Mons.length:=by simp[zdm]
theorem z1i {h:Host}(H:HOk h):(zdm h).sum=(zxH h.Mons:Int):=by have:zdm h=h.Mons.map fun x=>((x.Outer.countP fun s=>ine s.Page (-1):Nat):Int):=(by unfold zdm;refine vK (by simp) fun k h1 h2=>?_;have hk:k<h.Mons.length:=(by simpa using h2);simp only[List.getElem_map,List.getElem_range'];have hm:hasB ((0+1*k:Nat):Int) (ln h.Mons)=true:=zB.2 ⟨by omega,by unfold ln;omega⟩;rw[zG9 H hm,show ((0+1*k:Nat):Int)=(k:Int) by omega,zjR hk]);rw[this];unfold zxH;generalize h.Mons=l;induction l with|nil=>rfl|cons x l ih=>rw[jB,kQ,ih,jB,kQ];omega
theorem zWY:∀(l:List GAct) (u:Host×List Told),SmH u.1->SmH (zB2 l u).1
 |[],u,h=>h
 |a::l,u,h=>zWY l (zd1 u.1 a,ap u.2 [zij u.1 a]) (zWW h)
theorem zSM {h:Host}(L:zC9 h):Safe h/\SmH h:=by obtain⟨ps,l,hS,hp,rfl⟩:=L;refine⟨?_,zWY _ _ (zWX hS)⟩;unfold zym;rw[zWN];exact(zZ2 _ (zXY hp)).1
def zZz:zZ:=zZx
theorem zBf:zL zZz:=zZy
structure MonS (x:Mon):Prop where
 sm:ze8 x
 g1:1<=x.Guests.length
 g2:x.Guests.length<=2
 t2:x.Tables.length<=2
 o8:x.Outer.length<=8
 pg:∀s∈x.Outer,I64 s.Page
structure AnyH (h:Host):Prop where
 mem:SmM h.Memory
 n1:1<=h.Mons.length
 n3:h.Mons.length<=3
 mons:∀x∈h.Mons,MonS x
 b1:h.Buffer.length<=1048576
 b2:h.IoBuffer.length<=1048576
theorem AnyH.sm {h:Host}(k:AnyH h):SmH h:=⟨k.mem,⟨qT k.n3 (by decide),fun x hx=>(k.mons x hx).sm⟩,k.b1,k.b2⟩
theorem z3x {h:Host}(S:Safe h)(sm:SmH h):AnyH h :=
 ⟨sm.1,S.ok.n1,S.ok.n3,fun x hx=>by
  have k:=S.ok.mons x hx;refine⟨sm.2.1.2 x hx,k.g1,k.g2,by rw[k.gt];exact k.g2,by rw[k.o8];exact qY 8,fun s hs=>?_⟩
  rcases k.sl s hs with rfl|⟨h1,h2,_⟩
  .exact⟨by decide,by decide⟩
  .exact⟨by omega,by omega⟩,sm.2.2.1,sm.2.2.2⟩
theorem zww {h:Host}(k:AnyH h)(i:Int){x:Mon}(hx:MonS x):AnyH {h with Mons:=up h.Mons i x} :=
 ⟨k.mem,by rw[zg8];exact k.n1,by rw[zg8];exact k.n3,fun y hy=>by
  rcases qZ hy with hy|rfl
  .exact k.mons y hy
  .exact hx,k.b1,k.b2⟩
theorem z8Q {g:Guest}(h:GuS g):SmG g:=⟨qT h.1 (by decide),qT h.2.1 (by decide),qT h.2.2.1 (by decide),qT h.2.2.2 (by decide)⟩
theorem z3I {l:List Guest}(h:zk7 l)(i:Int){g:Guest}(hg:SmG g):zk7 (up l i g):=
 ⟨by rw[zg8];exact h.1,fun y hy=>by
  rcases qZ hy with hy|rfl
  .exact h.2 y hy
  .exact hg⟩
theorem z7J {l:List (List Int)}(h:SmM l)(i:Int){g:List Int}(hg:g.length<=1048576):SmM (up l i g):=
 ⟨by rw[zg8];exact h.1,fun y hy=>by
  rcases qZ hy with hy|rfl
  .exact h.2 y hy
  .exact hg⟩
def zxS (N:Nat)(c:Cur)  : OA :=
 let y9:=(zgh c);let y8:=({ (zhy c) with b:=c.b}:Cur);let y4:=y9.Mons;let y1:=(zl y8 (ln y4));let y6:=(inb y1 (ln y4));let y3:=(ix y4 y1 zh);let y0:=({ (zf y8 (ln y4)) with b:=c.b}:Cur);let y11:=(zf y0 24);let y7:=(zl y0 24);let y2:=({y11 with b:=c.b}:Cur);let y10:=(zX y2 [(-1),1000000000,1000000001]);let y5:=({ (zf y2 8) with b:=c.b}:Cur); (oN (zeB c) (oN (zo y8 (ln y4)) (oN (zo y0 24) (cond (ieq y7 0) (oN (zeX y2 8 12) (oN y6 (share (up y4 y1 ({y3 with Outer:=(zef y2 8 12)}:Mon)) (fun x2=>(some [(.agg [(.s .u8 c.b),(.i .i64 (zfQ y2 8 12).i),(.i .i64 (zfQ y2 8 12).h)]),(aH ({y9 with Mons:=x2}:Host))]))))) (cond (ieq y7 1) (oN y6 (oN (zo y2 8) (oN (zkb y5) (oN (inb (zl y2 8) (ln y3.Out)) (share (up y4 y1 ({y3 with Out:=(up y3.Out (zl y2 8) (zrU y5))}:Mon)) (fun x2=>(some [(.agg [(.s .u8 c.b),(.i .i64 (zkc y5).i),(.i .i64 (zkc y5).h)]),(aH ({y9 with Mons:=x2}:Host))]))))))) (cond (ieq y7 2) (oN y6 (oN (zn1 y2) (oN (inb 0 (ln y3.Guests)) (share (up y4 y1 ({y3 with Guests:=(up y3.Guests 0 (zy2 y2))}:Mon)) (fun x2=>(some [(.agg [(.s .u8 c.b),(.i .i64 (zn2 y2).i),(.i .i64 (zn2 y2).h)]),(aH ({y9 with Mons:=x2}:Host))])))))) (cond (ieq y7 3) (oN y6 (share (up y4 y1 ({y3 with Tables:=[]}:Mon)) (fun x2=>(some [(.agg [(.s .u8 c.b),(.i .i64 y11.i),(.i .i64 y11.h)]),(aH ({y9 with Mons:=x2}:Host))])))) (cond (ieq y7 4) (oN (ziW y2) (some [(.agg [(.s .u8 c.b),(.i .i64 (ziX y2).i),(.i .i64 (ziX y2).h)]),(aH ({y9 with Buffer:=(zpV y2)}:Host))])) (cond (ieq y7 5) (oN (zkd y2) (oN y6 (share (up y4 y1 ({y3 with Traps:=(zrW y2)}:Mon)) (fun x2=>(some [(.agg [(.s .u8 c.b),(.i .i64 (zke y2).i),(.i .i64 (zke y2).h)]),(aH ({y9 with Mons:=x2}:Host))]))))) (cond (ieq y7 6) (oN (zbp y2 [(-1),1000000000,1000000001]) (oN y6 (share (up y4 y1 ({y3 with Own:=(zbi y2 [(-1),1000000000,1000000001])}:Mon)) (fun x2=>(some [(.agg [(.s .u8 c.b),(.i .i64 y10.i),(.i .i64 y10.h)]),(aH ({y9 with Mons:=x2}:Host))]))))) (cond (ieq y7 7) (oN (znQ y2) (some [(.agg [(.s .u8 c.b),(.i .i64 (zhg y2).i),(.i .i64 (zhg y2).h)]),(aH ({y9 with Memory:=(zo1 y2)}:Host))])) (some [(.agg [(.s .u8 c.b),(.i .i64 y11.i),(.i .i64 y11.h)]),(aH y9)]))))))))))))
def zp3 (c:Cur)(s:Cur)(v0:Host):Prop:=(∃N,zxS N c=some (AV.agg (zbT s)::[aH v0]))/\(s.b=c.b/\0<=s.i)/\(AnyH v0)
def zk4 (c:Cur)  : Bool:=wC (zp3 c)
def zrY (c:Cur)  : Cur:=wS (zp3 c)
def zy3 (c:Cur)  : Host:=wV (zp3 c)
theorem zKE {c:Cur}(h:zk4 c=true):zp3 c (zrY c) (zy3 c):=wG h
theorem zYS (c:Cur)  : 0<=(zrY c).i:=wP fun h=>h.2.1.2
theorem zYR (c:Cur)(h:∃N,Ends (wE (fun v0=>aH v0) c.b fun v0=>AnyH v0) (zxS N c)):zk4 c=true:=wI (fun _ _ h=>h) h
def zzK:zdo:=rP0 fun c=>(zk4 c,zrY c,[aH (zy3 c)])
theorem zMc:zbM Tryz.prog 82 [false,true,true] zzK:=hP0 zBf zV zTg zx (zy []) (fun _ h=>(zKE h).1)
theorem z0j {c:Cur}(h:zbd c):zk4 c=true:=by
 refine zYR c ⟨0,?_⟩;unfold zxS oN;conv=>zeta
 obtain⟨S,sm⟩:=zSM (zwb (zJG h)).2.2;have A:=z3x S sm;have q:∀{s:Cur},0<=s.i->zbd {s with b:=c.b}:=fun h0=>zbH h h0;have k1:zbd {zhy c with b:=c.b}:=q (zVO _);have hpos:0<ln (zgh c).Mons:=by have:=A.n1;unfold ln;omega
 have hin:=ztO k1 hpos (kL _);have hm:=zbC hin zh;generalize hH:zgh c=H at *;generalize zl {zhy c with b:=c.b} (ln H.Mons)=m at *;have M:=A.mons _ hm;have MO:=S.ok.mons _ hm;generalize hX:ix H.Mons m zh=X at *;obtain⟨s1,s2,s3,s4,s5,s6⟩:=M.sm;have k3:∀{n},zbd {zf {zf {zhy c with b:=c.b} n with b:=c.b} 24 with b:=c.b}:=fun {n}=>q (zA _ _);refine zq (zJG h) (zq (zbs k1 _) (zq (zbs (q (zA _ _)) 24)
  (zby (fun _=>zq (zmM k3 (by omega) (by omega) _) (zq hin (zkv (zbG aH (v:={H with Mons:=up H.Mons m {X with Outer:=zef _ _ _}}) (znL _ _ _) (zww A m ?_)))))
  (fun _=>zby (fun _=>zq hin (zq (zbs k3 8) (zq (zWf (q (zA _ _))) (zq (ztO k3 (by omega) ?_) (zkv (zbG aH (v:={H with Mons:=up H.Mons m {X with Out:=up X.Out _ (zrU _)}}) (zTw _) (zww A m ?_)))))))
  (fun _=>zby (fun _=>zq hin (zq (zIv k3) (zq ?_ (zkv (zbG aH (v:={H with Mons:=up H.Mons m {X with Guests:=up X.Guests 0 (zy2 _)}}) (zYO _) (zww A m ?_))))))
  (fun _=>zby (fun _=>zq hin (zkv (zbG aH (v:={H with Mons:=up H.Mons m {X with Tables:=[]}}) (zA _ _) (zww A m ?_))))
  (fun _=>zby (fun _=>zq (zQ6 k3) (zbG aH (v:={H with Buffer:=zpV _}) (zQb _) ⟨A.mem,A.n1,A.n3,A.mons,qT (zAn (zQ6 k3)).2.2 (by decide),A.b2⟩))
  (fun _=>zby (fun _=>zq (z7Q k3) (zq hin (zkv (zbG aH (v:={H with Mons:=up H.Mons m {X with Traps:=zrW _}}) (zTB _) (zww A m ?_)))))
  (fun _=>zby (fun _=>zq (zet k3 (by simp)) (zq hin (zkv (zbG aH (v:={H with Mons:=up H.Mons m {X with Own:=zbi _ _}}) (zbX _ _) (zww A m ?_)))))
  (fun _=>zby (fun _=>zq (zR4 k3) (zbG aH (v:={H with Memory:=zo1 _}) (zYB _) ⟨?_,A.n1,A.n3,A.mons,A.b1,A.b2⟩))
  (fun _=>zbG aH (v:=H) (zA _ _) A)))))))))))
 {have g:=(znK (zmM (k3 (n:=ln H.Mons)) (n:=8) (by omega) (by omega) 12)).2.2 (by omega) (by omega);refine⟨⟨?_,s2,s3,s4,s5,s6⟩,M.g1,M.g2,M.t2,?_,g.2 (by omega) (by omega)⟩;{have:=g.1;unfold ln at this;exact qT (m:=8) (by exact Int.ofNat_le.1 this) (by decide)};{have:=g.1;unfold ln at this;exact Int.ofNat_le.1 this}};{unfold ln;rw[MO.u8];decide};{exact⟨⟨s1,z7J s2 _ (qT (zCP (zWf (q (zA _ _)))).2.2 (by decide)),s3,s4,s5,s6⟩,M.g1,M.g2,M.t2,M.o8,M.pg⟩};{exact qL (by have:=M.g1;unfold ln;omega)};{exact⟨⟨s1,s2,s3,z3I s4 0 (z8Q (zKC (zIv k3)).2.2),s5,s6⟩,by rw[zg8];exact M.g1,by rw[zg8];exact M.g2,M.t2,M.o8,M.pg⟩};{exact⟨⟨s1,s2,s3,s4,s5,⟨by simp,by simp⟩⟩,M.g1,M.g2,by simp,M.o8,M.pg⟩};{exact⟨⟨s1,s2,s3,s4,s5,s6⟩,M.g1,M.g2,M.t2,M.o8,M.pg⟩};{exact⟨⟨s1,s2,s3,s4,s5,s6⟩,M.g1,M.g2,M.t2,M.o8,M.pg⟩};{have g:=(zKA (zR4 (k3 (n:=ln H.Mons)))).2.2;exact⟨qT g.1 (by decide),fun r hr=>qT (g.2 r hr) (by decide)⟩}
def z5Q:zcQ:=[(82,([false,true,true],zzK))]++z5P
theorem z3n:zb1 z5Q:=zco zTg (by
 intro x hx;simp only[qF,qP,or_false]at hx;rcases hx with rfl
 .exact zMc)
def zA0 (N:Nat)(c:Cur)  : OA :=
 let y0:=(zX c [0,0,0,1,1,2,(-1),9223372036854775807]); (oN (zbp c [0,0,0,1,1,2,(-1),9223372036854775807]) (some [(.agg [(.s .u8 c.b),(.i .i64 y0.i),(.i .i64 y0.h)]),(aI (zbi c [0,0,0,1,1,2,(-1),9223372036854775807]))]))
def zrZ (c:Cur)(s:Cur)(v0:Int):Prop:=(∃N,zA0 N c=some (AV.agg (zbT s)::[aI v0]))/\(s.b=c.b/\0<=s.i)/\(True)
def zmC (c:Cur)  : Bool:=wC (zrZ c)
def zOO (c:Cur)  : Cur:=wS (zrZ c)
def zDH (c:Cur)  : Int:=wV (zrZ c)
theorem z1a {c:Cur}(h:zmC c=true):zrZ c (zOO c) (zDH c):=wG h
theorem z1b (c:Cur)(h:∃N,Ends (wE (fun v0=>aI v0) c.b fun v0=>True) (zA0 N c)):zmC c=true:=wI (fun _ _ h=>h) h
def zBZ:zdo:=rP0 fun c=>(zmC c,zOO c,[aI (zDH c)])
theorem zPj:zbM Tryz.prog 95 [false,true,true] zBZ:=hP0 zBf zV zyI zx (zy []) (fun _ h=>(z1a h).1)
theorem z9D {c:Cur}(h:zbd c):zmC c=true:=by
 refine z1b c ⟨0,?_⟩;unfold zA0 oN;conv=>zeta
 exact zq (zet h (by simp)) (zbG aI (zbX _ _) trivial)
def z9o:zcQ:=[(95,([false,true,true],zBZ))]++z5Q
theorem zHw:zb1 z9o:=zco z3n (by
 intro x hx;simp only[qF,qP,or_false]at hx;rcases hx with rfl
 .exact zPj)
def z4L:zZ:=[(92,zqX)]++zZz
theorem zRk:zL z4L:=zi zua zBf
theorem zN1 {a0:List Int}(h:a0.length<=big){G:Ans->Prop}{N:Nat}(hN:a0.length<N){t0:Int}{R:Int->OA}{σ:Type}(S:Int->Int->σ){F:(σ->OA)->σ->OA}(hF:∀rec i t,F rec (S i t)=bif ilt i (ln a0) then (cond (ilt i 4000) (cond (inb i (ln a0)) (rec (S (zK .i64 i 1) (wand .i64 (zK .i64 (zK .i64 (zkm .i64 t 131) (wcv .i64 (ix a0 i 0))) 7) 1073741823))) none) (R t)) else R t)(hR:∀t,zbd ⟨a0,0,t⟩->Ends G (R t)):Ends G (iter N F (S 0 t0)):=by refine zjJ (fun n s=>∃(i:Nat) (t:Int),s=S (i:Int) t/\i+n=a0.length) ?_ N a0.length _ ⟨0,t0,rfl,by omega⟩ hN;rintro n s rec ⟨i,t,rfl,hi⟩ hrec;rw[hF];have hc:zbd ⟨a0,0,t⟩:=⟨kL 0,h⟩;refine zby (fun h1=>zby (fun h2=>?_) (fun _=>hR t hc)) (fun _=>hR t hc);have hlt:(i:Int)<ln a0:=qE h1;unfold ln at hlt;rw[zbk (show i<a0.length by omega) h];exact zq (qL ⟨by omega,by unfold ln;omega⟩) (hrec (n-1) _ (by omega) ⟨i+1,_,rfl,by omega⟩)
theorem z3r {b:List Int}(h:b.length<=big){s:Cur}(h0:0<=s.i):zbd {s with b:=b}:=⟨h0,h⟩
def zlC (N:Nat)(a0:List Int):OA:=
 (iter (σ:=(Int×(Int×((List Int)×(lM×(lN×(lE×(lE×Unit)))))))) N (fun r2 s3=>let y2:=s3.2.2.1;let y1:=(⟨y2,0,s3.1⟩:Cur);let y0:=({ (zrY y1) with b:=y2}:Cur); (cond (ilt s3.2.1 (ln y2)) (cond (ilt s3.2.1 4000) (oN (inb s3.2.1 (ln y2)) (r2 ((wand .i64 (zK .i64 (zK .i64 (zkm .i64 s3.1 131) (wcv .i64 (ix y2 s3.2.1 0))) 7) 1073741823),((zK .i64 s3.2.1 1),(y2,(s3.2.2.2.1,(s3.2.2.2.2.1,(s3.2.2.2.2.2.1,(s3.2.2.2.2.2.2.1,()))))))))) (oN (zk4 y1) (oN (zmC y0) (some [(aH (zy3 y1)),(aI (zDH y0))])))) (oN (zk4 y1) (oN (zmC y0) (some [(aH (zy3 y1)),(aI (zDH y0))]))))) ((zK .i64 94701 (ln a0)),(0,(a0,([],([],([],([],()))))))))
def zK3:FuncId->Nat->Option Tmpl:=zy [(52,0,{n:=32,tm:=[(0,.sl 0 []),(3,ti),(4,ti)],lo:=[(0,[.sl 1 [],.sl 2 [],.sl 3 [],.sl 4 []])],ro:=[(0,.u8,false),(1,(.sl .int),true),(2,.mon,true),(3,.entry,true),(4,.entry,true)],sk:=[(0,2,0,.lp 0 0)]})]
def zoV (a0:List Int)(v0:Host)(v1:Int):Prop:=(∃N,zlC N a0=some [aH v0,aI v1])/\(AnyH v0)
def zgW (a0:List Int):Bool:=uC (T:=Host×Int) (fun r=>zoV a0 r.1 r.2)
def zAe (a0:List Int):Host×Int:=uV (fun r=>zoV a0 r.1 r.2)
def zlJ (a0:List Int):Host:=(zAe a0).1
def zlK (a0:List Int):Int:=(zAe a0).2
theorem zAd {a0:List Int}(h:zgW a0=true):zoV a0 (zlJ a0) (zlK a0):=uG h
theorem zP4 (a0:List Int)(h:∃N,Ends (fun a=>∃v0 v1,a=[aH v0,aI v1]/\(AnyH v0)) (zlC N a0)):zgW a0=true:=by obtain⟨N,a,e,v0,v1,rfl,h⟩:=h;exact zbf ⟨(v0,v1),⟨N,e⟩,h⟩
def zuD:Run:=rF1 (dS .u8) fun b=>(zgW b,[aH (zlJ b),aI (zlK b)])
theorem zJU (a0:List Int)(hc:zgW a0=true):∃N,zlC N a0=some [aH (zlJ a0),aI (zlK a0)]:=by exact(zAd hc).1
theorem zDT:vL 51 zuD:=kF1 zRk zV zHw zx zK3 zJU
theorem zWC {a0:List Int}(h:a0.length<=big):zgW a0=true:=by
 refine zP4 a0 (zcG fun N hNN=>?_);unfold zlC oN;conv=>zeta
 refine zN1 h (hNN h) ((fun i t=>(t,(i:Int),a0,[],[],[],[],())):Int->Int->_) (fun rec i t=>by dsimp only) (fun t hc=>?_);exact zq (z0j hc) (zq (z9D (z3r h (zYS _))) ⟨_,rfl,_,_,rfl,(zKE (z0j hc)).2.2⟩)
def z4M:zZ:=[(51,zuD)]++z4L
theorem zGm:zL z4M:=zi zDT zRk
def zlB (N:Nat)(a0:List Int):OA:=
 (oN (zgW a0) (some [(aH (zlJ a0)),(aI (zlK a0))]))
def zoU (a0:List Int)(v0:Host)(v1:Int):Prop:=(∃N,zlB N a0=some [aH v0,aI v1])/\(AnyH v0)
def zgV (a0:List Int):Bool:=uC (T:=Host×Int) (fun r=>zoU a0 r.1 r.2)
def zAc (a0:List Int):Host×Int:=uV (fun r=>zoU a0 r.1 r.2)
def ziO (a0:List Int):Host:=(zAc a0).1
def zlI (a0:List Int):Int:=(zAc a0).2
theorem zAb {a0:List Int}(h:zgV a0=true):zoU a0 (ziO a0) (zlI a0):=uG h
theorem zP3 (a0:List Int)(h:∃N,Ends (fun a=>∃v0 v1,a=[aH v0,aI v1]/\(AnyH v0)) (zlB N a0)):zgV a0=true:=by obtain⟨N,a,e,v0,v1,rfl,h⟩:=h;exact zbf ⟨(v0,v1),⟨N,e⟩,h⟩
def zuC:Run:=rF1 (dS .u8) fun b=>(zgV b,[aH (ziO b),aI (zlI b)])
theorem zJT (a0:List Int)(hc:zgV a0=true):∃N,zlB N a0=some [aH (ziO a0),aI (zlI a0)]:=by exact(zAb hc).1
theorem zDS:vL 8 zuC:=kF1 zGm zV zHw zx (zy []) zJT
theorem zFe {a0:List Int}(h:a0.length<=big):zgV a0=true:=by refine zP3 a0 ⟨0,?_⟩;unfold zlB oN;exact zq (zWC h) ⟨_,rfl,_,_,rfl,(zAd (zWC h)).2⟩
def zlD (N:Nat)(a0:List Int):OA:=
 (iter (σ:=(Int×(Int×((List Int)×(lA×Unit))))) N (fun r2 s3=>let y3:=s3.2.2.1;let y2:=(⟨y3,0,s3.1⟩:Cur);let y0:=({ (zjo y2 20) with b:=y3}:Cur);let y1:=({ (zf y0 3) with b:=y3}:Cur); (cond (ilt s3.2.1 (ln y3)) (cond (ilt s3.2.1 4000) (oN (inb s3.2.1 (ln y3)) (r2 ((wand .i64 (zK .i64 (zK .i64 (zkm .i64 s3.1 131) (wcv .i64 (ix y3 s3.2.1 0))) 7) 1073741823),((zK .i64 s3.2.1 1),(y3,(s3.2.2.2.1,())))))) (oN (zhz y2 20) (oN (zo y0 3) (oN (zo y1 3) (some [(aS .act (zkg y2 20)),(aI (zl y0 3)),(aI (zl y1 3))]))))) (oN (zhz y2 20) (oN (zo y0 3) (oN (zo y1 3) (some [(aS .act (zkg y2 20)),(aI (zl y0 3)),(aI (zl y1 3))])))))) ((zK .i64 94701 (ln a0)),(0,(a0,([],())))))
def zK4:FuncId->Nat->Option Tmpl:=zy [(52,0,{n:=32,tm:=[(0,.sl 0 []),(3,ti),(4,ti)],lo:=[],ro:=[(0,.u8,false),(1,.act,true)],sk:=[(0,2,0,.sl 1 [])]})]
def zoW (a0:List Int)(v0:List GAct)(v1:Int)(v2:Int):Prop:=(∃N,zlD N a0=some [aS .act v0,aI v1,aI v2])/\(v0.length<=1048576)
def zgX (a0:List Int):Bool:=uC (T:=List GAct×Int×Int) (fun r=>zoW a0 r.1 r.2.1 r.2.2)
def zq7 (a0:List Int):List GAct×Int×Int:=uV (fun r=>zoW a0 r.1 r.2.1 r.2.2)
def zfW (a0:List Int):List GAct:=(zq7 a0).1
def zfX (a0:List Int):Int:=(zq7 a0).2.1
def zfY (a0:List Int):Int:=(zq7 a0).2.2
theorem zP5 {a0:List Int}(h:zgX a0=true):zoW a0 (zfW a0) (zfX a0) (zfY a0):=uG h
theorem zP6 (a0:List Int)(h:∃N,Ends (fun a=>∃v0 v1 v2,a=[aS .act v0,aI v1,aI v2]/\(v0.length<=1048576)) (zlD N a0)):zgX a0=true:=by obtain⟨N,a,e,v0,v1,v2,rfl,h⟩:=h;exact zbf ⟨(v0,v1,v2),⟨N,e⟩,h⟩
def zuE:Run:=rF1 (dS .u8) fun b=>(zgX b,[aS .act (zfW b),aI (zfX b),aI (zfY b)])
theorem zJV (a0:List Int)(hc:zgX a0=true):∃N,zlD N a0=some [aS .act (zfW a0),aI (zfX a0),aI (zfY a0)]:=by exact(zP5 hc).1
theorem zDU:vL 9 zuE:=kF1 zGm zV zHw zx zK4 zJV
theorem zUL {a0:List Int}(h:a0.length<=big):zgX a0=true:=by
 refine zP6 a0 (zcG fun N hNN=>?_);unfold zlD oN;conv=>zeta
 refine zN1 h (hNN h) ((fun i t=>(t,(i:Int),a0,[],())):Int->Int->_) (fun rec i t=>by dsimp only) (fun t hc=>?_);have k:=zQW hc (m:=20) (by omega) (by omega);have g:=(zwc k).2.2;exact zq k (zq (zbs (z3r h (zFS _ _)) _) (zq (zbs (z3r h (zA _ _)) _) ⟨_,rfl,_,_,_,rfl,by unfold ln at g;omega⟩))
def z4N:zZ:=z4M
theorem z2r:zL z4N:=zGm
def z4O:zZ:=[(8,zuC),(9,zuE)]++z4N
theorem zRl:zL z4O:=zi zDS (zi zDU z2r)
def zgA (x y:List Int):Bool:=pc (x=y)
def zin (_ _:List Int):Bool:=true
def zxa:Run:=rF2 (dS .int) (dS .int) fun b c=>(zgA b c,[aB (zin b c)])
def zAI (N:Nat)(a0 a1:List Int):OA:=
 (cond (ine (ln a0) (ln a1)) oF (iter (σ:=(Int×((List Int)×((List Int)×Unit)))) N (fun r3 s4=>(cond (ilt s4.1 (ln s4.2.1)) (oN (inb s4.1 (ln s4.2.1)) (oN (inb s4.1 (ln s4.2.2.1)) (cond (ine (ix s4.2.1 s4.1 0) (ix s4.2.2.1 s4.1 0)) oF (r3 ((zK .i64 s4.1 1),(s4.2.1,(s4.2.2.1,()))))))) oT)) (0,(a0,(a1,())))))
def zNi:FuncId->Nat->Option Tmpl:=zy [(12,0,{n:=26,tm:=[(0,.sl 0 []),(1,.sl 1 []),(5,ti)],lo:=[],ro:=[(0,.int,false),(1,.int,false)]})]
theorem zMp (a0 a1:List Int)(hb:zcP big [aS .int a0,aS .int a1])(hc:zgA a0 a1=true):∃N,zAI N a0 a1=some [aB (zin a0 a1)]:=by have:=zQ.1 hc;subst this;have hl:=(len0 hb);refine⟨a0.length+1,?_⟩;unfold zAI oN;rw[zyt];refine z6P a0 z9z _ _ hl (fun i hi rec=>?_) (fun rec=>?_) (kH _);{simp only [zbS hi,zbq hi,zbA hi,z9N,zyt,zys,zZt,cT,cF,u1,Bool.not_false]};{simp only [zbJ,cF,zin]}
theorem zGE:vL 12 zxa:=hF2 zeo zV zG zx zNi zMp
theorem zSS {α β:Type}{f:α->β}{l:List α}{x:β}{xs:List β}(h:l.map f=x::xs):∃a r,l=a::r/\f a=x/\r.map f=xs:=by cases l with|nil=>cases h|cons a r=>simp only[jB,List.cons.injEq]at h;exact⟨a,r,rfl,h.1,h.2⟩
theorem z8P {a:AV}{ct:CTy}(h:some a.sh=some (false,[ct])):∃c,a = .one c/\c.ty=ct:=by cases a with|one c=>simp only[AV.sh,qC,jO,List.cons.injEq,and_true,true_and]at h;exact⟨c,rfl,h⟩|agg l=>simp[AV.sh]at h
theorem z9P {a:AV}{t:Ty}(h:some a.sh=some (false,[.s t])):∃l:List t.den,a = .one (.s t l):=by obtain⟨c,rfl,hc⟩:=z8P h;obtain⟨l,rfl⟩:=zkt hc;exact⟨l,rfl⟩
section
open Go Go.ChangeShapes Go.WideShapes Go.ChangeAt
abbrev zMk (_:List Int):Bool:=true
abbrev zJL (l:List Int):Bool:=igt (ln l) 1048576
def zOI:Run:=rF1 (dS .u8) fun b=>(zMk b,[aB (zJL b)])
def zV8 (N:Nat)(a0:List Int):OA:=
 (some [(aB (igt (ln a0) 1048576))])
theorem z0t (a0:List Int)(hc:zMk a0=true):∃N,zV8 N a0=some [aB (zJL a0)]:=by refine⟨0,?_⟩;unfold zV8;first|rfl|(simp only [*,zJL,cT,cF]<;>rfl)|simp_all[Ty.cells,zJL]
theorem zUV:vL 7 zOI:=kF1 zRl zV zG zx (zy []) z0t
def z4w:zZ:=[(7,zOI),(12,zxa),(10,zvQ),(11,zvS),(13,zvR),(14,zvT),(15,zqQ),(16,zqW),(17,zm9),(18,zne),(19,zqR),(20,zqZ),(21,zFw),(22,zFI),(24,zs5)]++z4O
theorem z2i:zL z4w:=zi zUV (zi zGE (zi zzw (zi zzA (zi zzx (zi zzB (zi zt3 (zi zt9 (zi zrk (zi zrn (zi zt4 (zi zuf (zi zO1 (zi zPe (zi zwI zRl))))))))))))))
def zkn (N:Nat)(a0:List Int):OA:=
 let y6:=(⟨1,0,0,0,0,0⟩:GAct);let y3:=(zkK a0);let y2:=(zlI a0);let y1:=(ziO a0); (oN (zMk a0) (cond (zJL a0) oT (oN (zgV a0) (oN (zgX a0) (oN (zql y1 y2) (oN (zmz y1 y2) (cond (ine (zr8 y1 y2) (zsc y1 y2)) oF (oN (zuh y1 y2) (oN (zCM y1 y2) (oN (zgA (zox y1 y2) (zDF y1 y2)) (cond (nB (zin (zox y1 y2) (zDF y1 y2))) oF (oN (zvI y1 y2) (oN (zvV y1 y2) (oN (zgA (zug y1 y2) (zuM y1 y2)) (cond (nB (zin (zug y1 y2) (zuM y1 y2))) oF (oN (zqI y1 y2) (oN (zq9 y1 y2) (oN (zgA (zlf y1 y2) (zpB y1 y2)) (cond (nB (zin (zlf y1 y2) (zpB y1 y2))) oF (oN (zpm y1) (oN (zv6 y1) (oN (zgA (zg7 y1) (zvf y1)) (cond (nB (zin (zg7 y1) (zvf y1))) oF (oN (zui (zfW a0) (zfX a0) (zfY a0)) (oN (zCO (zfW a0) (zfX a0) (zfY a0)) (cond (ine (zDs (zfW a0) (zfX a0) (zfY a0)) (zM7 (zfW a0) (zfX a0) (zfY a0))) oF (oN (zhQ a0) (oN (zpm y3) (iter (σ:=(Int×(Int×((List Int)×(lM×(lN×(lE×(lE×Unit)))))))) N (fun r2 s3=>let y5:=s3.2.1;let y4:=s3.2.2.1;let y0:=(⟨s3.2.2.2.1,s3.2.2.2.2.1,s3.2.2.2.2.2.1,s3.2.2.2.2.2.2.1⟩:Host); (cond (ilt y5 (ln y4)) (oN (inb y5 (ln y4)) (oN (inb y5 (ln y4)) (oN (zuh y0 y5) (cond (ine (zK .i64 (ix y4 y5 0) (ln (zox y0 y5))) 8) oF (r2 ((zK .i64 s3.1 (ix y4 y5 0)),((zK .i64 y5 1),(y4,(s3.2.2.2.1,(s3.2.2.2.2.1,(s3.2.2.2.2.2.1,(s3.2.2.2.2.2.2.1,())))))))))))) (cond (ile s3.1 12) (oN (ziu y0) (cond (ieq (zK .i64 s3.1 (ln (zek y0))) 12) (oN (zui [y6] 0 0) (some [(aB (ieq (zDs [y6] 0 0) 1))])) oF)) oF))) (0,(0,((zg7 y3),(y3.Memory,(y3.Mons,(y3.Buffer,(y3.IoBuffer,()))))))))))))))))))))))))))))))))))))
def ztx:FuncId->Nat->Option Tmpl:=zy [(3,0,{n:=123,tm:=[(8,.lp 0 0),(9,ti),(10,.sl 0 []),(11,ti)],lo:=[(0,[.sl 1 [],.sl 2 [],.sl 3 [],.sl 4 []])],ro:=[(0,.int,true),(1,(.sl .int),true),(2,.mon,true),(3,.entry,true),(4,.entry,true)]})]
theorem zKa (N:Nat)(a0:List Int):evalFn (cQ z4w z3b zM1 zZb) ztx N 12 3 [aS .u8 a0]=zkn N a0:=by kernel_rfl
theorem z3S (l:List Int)(i:Nat)(h:i<l.length):(l.take (i+1)).sum=(l.take i).sum+l[i]:=by rw[List.take_succ_eq_append_getElem h,List.sum_append];simp
theorem z3T {l:List Int}(h:∀x∈l,0<=x/\x<=8):∀i,0<=(l.take i).sum/\(l.take i).sum<=8*l.length:=by intro i;have:∀(l:List Int),(∀x∈l,0<=x/\x<=8)->0<=l.sum/\l.sum<=8*l.length:=(by intro l;induction l with|nil=>intro _;simp|cons x l ih=>intro h;have h1:=h x (by simp);have h2:=ih (fun y hy=>h y (by simp[hy]));simp only[kQ,qV];omega);have k:=this (l.take i) (fun x hx=>h x (jR hx));have:(l.take i).length<=l.length:=(by simp;omega);omega
theorem zDN (N:Nat)(a0:List Int)(hl:a0.length<=big)(hN:80<N):Ends (fun a=>a=[.one (.b true)]) (zkn N a0):=by
 unfold zkn oN nB;conv=>zeta
 have A:=(zAb (zFe hl)).2;obtain⟨S,hs⟩:=zSM (zCF (zIM hl)).2;have hA:zb2 (ziO a0):=(zbb _).2 A.sm;have hH:zb2 (zkK a0):=(zbb _).2 hs;have same:∀(l:List Int),zgA l l=true:=fun l=>zbf rfl;refine zq rfl (zby (fun _=>zsy rfl) (fun _=>zq (zFe hl) (zq (zUL hl) (zq rfl (zq (zbf hA) (zor (zyt _) (zq (zbf hA) (zq (zbf hA) (zq (same _) (zor rfl (zq (zbf hA) (zq (zbf hA) (zq (same _) (zor rfl
  (zq (zbf hA) (zq (zbf hA) (zq (same _) (zor rfl (zq (zbf hA) (zq (zbf hA) (zq (same _) (zor rfl (zq rfl (zq rfl (zor (zyt _) (zq (zIM hl) (zq (zbf hH) ?_)))))))))))))))))))))))))))
 generalize zkK a0=h at *;have hM:=S.ok.n3;have hel:∀x∈zdm h,0<=x/\x<=8:=(by intro x hx;unfold zdm at hx;obtain⟨i,hi,rfl⟩:=jE.1 hx;have hi2:i<h.Mons.length:=(by simpa using hi);exact z2P S.ok (zB.2 (by unfold ln;omega)));have hlen:=z1h h;have hsum:=z1i S.ok;have hfree:=z2K S.ok;refine zjJ (fun n s=>∃(i:Nat),s=(((zdm h).take i).sum,(i:Int),zg7 h,h.Memory,h.Mons,h.Buffer,h.IoBuffer,())/\i+n=h.Mons.length) ?_ N h.Mons.length _ ⟨0,rfl,by omega⟩ (by omega);rintro n s rec ⟨i,rfl,hi⟩ hrec;dsimp only;have hb:=z3T hel i;rw[hlen]at hb;refine zby (fun h1=>?_) (fun h1=>?_);{have hlt:(i:Int)<ln (zdm h):=qE h1;have hi2:i<(zdm h).length:=(by unfold ln at hlt;omega);have hi3:i<h.Mons.length:=(by omega);have hbi:hasB (i:Int) (ln h.Mons)=true:=zB.2 (by unfold ln;omega);have hix:ix (zdm h) (i:Int) 0=(zdm h)[i]:=(by unfold ix;simp[List.getD,qB hi2]);have hval:(zdm h)[i]=zgK h (i:Int):=(by simp[zdm]);have hxx:=hel _ (jL hi2);have ho:=z0P S.ok hbi;have hw:zK .i64 ((zdm h).take i).sum (zdm h)[i]=((zdm h).take (i+1)).sum:=(by rw[z3S _ _ hi2,zjq (by omega) (by omega)]);have hin:inb (i:Int) (ln (zg7 h))=true:=qL ⟨by omega,hlt⟩;refine zq hin (zq hin (zq (zbf hH) (zor ?_ ?_)));{rw [show ix (zg7 h) (i:Int) 0=(zdm h)[i] from hix,show zox h (i:Int)=outOf h (i:Int) from rfl];unfold ln;rw[zjq (by omega) (by omega)];unfold ine;rw[hval];simp;omega};{refine hrec (n-1) _ (by omega) ⟨i+1,?_,by omega⟩;rw[show ix (zg7 h) (i:Int) 0=(zdm h)[i] from hix,hw,zjq (by omega) (by omega)];rfl}};{have hge:¬ (i:Int)<ln (zdm h):=jS h1;have hie:i=(zdm h).length:=(by unfold ln at hge;omega);subst hie;rw[vE,hsum];have hf:zil h=true:=zbf hs.1.1;refine zq (qL (by omega)) (zq (zbf hs.1.1) (zq ?_ (zq rfl (zsy rfl))));show ieq (zK .i64 (zxH h.Mons:Int) ((zb3 h).length:Int)) 12=true;rw[zjq (by omega) (by omega)];exact zbl.2 (by omega)}
theorem zGa (a0:List Int)(ho:∀c∈zu [aS .u8 a0],CVOk c):∃N,zkn N a0=some [.one (.b true)]:=by have hb:zcP big [aS .u8 a0]:=fun c hc=>CVB.of_ok (ho c hc);have hl:=(len0 hb);exact⟨81,z6N (G:=fun a=>a=[.one (.b true)]) (zDN 81 a0 hl (by decide))⟩
theorem zCT:Tryz.f3.params.toList.map (zcv Tryz.prog 4)=[some (false,[.s .u8])]:=by kernel_rfl
theorem zxV:zV6 3 Tryz.f3.params.toList:=by refine zUB z2i zV zG zx (zie (by kernel_rfl)) ?_;intro avs hg;obtain⟨h1,h2⟩:=hg;rw[zCT]at h1;obtain⟨v0,r0,rfl,e0,h1⟩:=zSS h1;cases List.map_eq_nil_iff.1 h1;obtain⟨a0,rfl⟩:=z9P e0;obtain⟨N,hN⟩:=zGa a0 h2;exact⟨ztx,N,12,(zKa N a0).trans hN⟩
theorem zEx (H:Type)(ds:List (DataW H))(h:ds.length=Tryz.f3.params.toList.length):Rows.fnAccountsSpec.fn H ds={results:=[.lit (.bool true)],args:=ds}:=by
 have hl:ds.length=1:=h.trans (by kernel_rfl)
 match ds,hl with
 |[d],_=>rfl
set_option maxRecDepth 100000 in
theorem zAD (os:Os)(started:os.Started)(H:Type)(enc:TypeId×Value->H) :
 ReturnsInHanded {} Tryz.checked os 3 .any (Rows.fnAccountsSpec.pre6 enc Tryz.prog Tryz.f3 Rows.fnAccountsRow.domain false) (Rows.fnAccountsSpec.post enc Tryz.prog Tryz.f3 false true false false):=by
 refine returnsInHanded_of_change_shaped (C:=Tryz.checked) own started (by kernel_rfl) Tryz.func3
  (ChangeSpec.witness6 (enc:=enc) (C:=Tryz.checked) false ⟨#[],#[.slice none 0 0],[]⟩ 8 (by kernel_rfl) (by kernel_rfl) (by kernel_rfl) (by kernel_rfl)) ?_
 intro W base args ds gs before hval hW _ hsz _ _;exact zJM (P:=Tryz.prog) z1V z2S rfl zEx (by kernel_rfl) (B:=4) (by kernel_rfl) (by kernel_rfl) zxV W base args ds gs before hval hW hsz
end
end
end Go.Proofs.YthdlghbibaoabaaGreat.E
