/- What is proved here: a part of the proof that the statement of this claim holds (several texts of wip/, laid together). -/
import Derived.Test.YthdlghbibaoabaaGreatW4
namespace Go.Proofs.YthdlghbibaoabaaGreat.E
open Go
set_option linter.unusedVariables false
set_option maxRecDepth 100000
set_option linter.unusedSimpArgs false
set_option linter.unusedSectionVars false
noncomputable section
def cz (l:List Slot):Nat:=l.countP fun s=>ieq s.Page 0
def zH:List Mon->Nat
 |[]=>0
 |m::l=>cz m.Outer+zH l
def bit (u:List Bool):Nat:=bif ix u 0 false then 1 else 0
theorem zxY (s:Slot)(l:List Slot):cz (s::l)=cz l+bif ieq s.Page 0 then 1 else 0:=by unfold cz;rw[vG];cases ieq s.Page 0<;>rfl
theorem zbbN {u:List Bool}{p:Int}(c:0<=p)(a:p.toNat<u.length)(x:Bool):ix (up u p x) 0 false=bif ieq p 0 then x else ix u 0 false:=by unfold ix up;cases h:ieq p 0;{have:p≠0:=(by simpa [ieq] using h);have b:p.toNat≠0:=(by omega);simp[List.getD,q9,b]};{have:p=0:=(by simpa [ieq] using h);subst this;have a:0<u.length:=a;simp[List.getD,q9,a]}
theorem zE3:∀(l:List Slot) (u b:List Bool),(∀s∈l,s.Page<12)->u.length=12->zgk l u=some b->cz l+bit u=bit b
 |[],u,b,_,_,h=>by cases h;simp[cz]
 |s::l,u,b,i,k,h=>by
  simp only[zgk]at h;rw[zxY];cases c:ilt s.Page 0;{have c:=jW c;rw[show ilt s.Page 0=false from qL (by omega)]at h;simp only[cF]at h;cases d:ix u s.Page false;{rw [d]at h;simp only[cF]at h;have g:s.Page.toNat<u.length:=(by have:=i s (by simp);omega);have a:=zE3 l _ b (fun t j=>i t (by simp[j])) (by simpa using k) h;have e:bit (up u s.Page true)=bif ieq s.Page 0 then 1 else bit u:=(by unfold bit;rw[zbbN (by omega) g];cases ieq s.Page 0<;>rfl);rw[e] at a;cases f:ieq s.Page 0;{rw [f] at a;simp only[cF] at a ⊢;omega};{have n:s.Page=0:=(by simpa [ieq] using f);rw[n]at d;have:bit u=0:=(by unfold bit;rw[d];rfl);rw[f] at a;simp only[cT] at a ⊢;omega}};{rw [d]at h;cases h}};{have m:=qE c;rw[c]at h;simp only[cT]at h;have a:=zE3 l u b (fun t j=>i t (by simp[j])) k h;have:ieq s.Page 0=false:=(by simp[ieq];omega);rw[this];simpa using a}
theorem zUU:∀(l:List Mon) (u:List Bool),u.length=12->zim l u=true->zH l+bit u<=1
 |[],u,_,_=>by unfold zH bit;cases ix u 0 false<;>simp
 |m::l,u,c,h=>by simp only[zim]at h;cases b:zdP m;{rw [b]at h;cases h};{rw [b]at h;simp only[cT]at h;cases a:zgk m.Outer u with|none=>rw[a]at h;cases h|some d =>rw[a]at h;have e:=zE3 _ _ _ (zFD (zl6 b)) c a;have f:=zUU l d ((zpi _ _ _ a).trans c) h;simp only[zH];omega}
theorem z3i:∀(l:List Slot) (b:Nat) (s:Slot),l[b]?=some s->s.Page=0->cz (l.set b noSlot)+1=cz l
 |[],b,s,h,_=>by simp at h
 |t::l,0,s,h,a=>by simp only[qH,qC]at h;subst h;rw[List.set_cons_zero,zxY,zxY];have:ieq t.Page 0=true:=(by simp[ieq,a]);rw[this];rfl
 |t::l,b+1,s,h,a=>by rw[List.set_cons_succ,zxY,zxY];have:=z3i l b s (by simpa using h) a;omega
theorem zXw:∀(l:List Mon) (a:Nat) (x y:Mon),l[a]?=some x->zH (l.set a y)+cz x.Outer=zH l+cz y.Outer
 |[],a,x,y,h=>by simp at h
 |m::l,0,x,y,h=>by simp only[qH,qC]at h;subst h;rw[List.set_cons_zero];simp only[zH];omega
 |m::l,a+1,x,y,h=>by rw[List.set_cons_succ];have:=zXw l a x y (by simpa using h);simp only[zH];omega
theorem z0K {l:List Slot}(h:cz l=0):znS l 0=none:=by unfold znS;rw[List.findIdx?_eq_none_iff];intro s a;have:=(vA.1 h) s a;simpa using this
theorem zMK:∀(l:List Mon) (i:Nat),zH l=0->zhF 0 l i=(-1,-1)
 |[],_,_=>rfl
 |m::l,i,h=>by simp only[zH]at h;simp only[zhF];rw[z0K (by omega)];exact zMK l (i+1) (by omega)
theorem z0L {l:List Slot}{k:Nat}(h:znS l 0=some k):∃s,l[k]?=some s/\s.Page=0:=by unfold znS at h;rw[uY]at h;obtain⟨a,b,_⟩:=h;exact⟨l[k],qB a,by simpa [ieq] using b⟩
theorem zHx:∀(l:List Mon) (i:Nat),zhF 0 l i=(-1,-1)\/∃a b x s,zhF 0 l i=(((i+a:Nat):Int),((b:Nat):Int))/\l[a]?=some x/\x.Outer[b]?=some s/\s.Page=0
 |[],_=>.inl rfl
 |m::l,i=>by
  simp only[zhF];cases h:znS m.Outer 0 with
  |none=>rcases zHx l (i+1) with c|⟨a,b,x,s,c,d,f,g⟩;{exact .inl c};{refine .inr ⟨a+1,b,x,s,?_,by simpa using d,f,g⟩;have e:i+1+a=i+(a+1):=(by omega);rw[c,e]}
  |some k=>obtain⟨s,c,d⟩:=z0L h;exact .inr ⟨0,k,m,s,rfl,rfl,c,d⟩
def Fit (h:Host):Prop:=Shape h/\0<h.Memory.length/\zH h.Mons<=1
theorem zHq {h:Host}(c:0<h.Memory.length)(b:ilt (zbF h 0).1 0=true):inb 0 (ln (zb4 h))=true:=by unfold zb4;obtain⟨n,a⟩:∃n,h.Memory.length=n+1:=⟨h.Memory.length-1,by omega⟩;rw[a];simp only[zxb];rw[show ilt (zbF h ((0:Nat):Int)).1 0=true from b];exact qJ (by simp only[cT,ln,qY];omega)
theorem z0Q {h:Host}(b:0<h.Memory.length)(a:ieq (ln (zb4 h)) 0=true):ilt (zbF h 0).1 0=false:=by cases c:ilt (zbF h 0).1 0;{rfl};{have d:=qE (zHq b c);have e:ln (zb4 h)=0:=(by simpa [ieq] using a);omega}
def zc5 (h:Host):Host:=bif ieq (ln (zb4 h)) 0 then zdl h (zbF h 0).1 (zbF h 0).2 else h
structure Room (h r:Host):Prop where
 shape:Shape r
 free:inb 0 (ln (zb4 r))=true
 len:r.Mons.length=h.Mons.length
 outer:∀m,(ix r.Mons m mZ).Outer.length=8\/True
theorem z4h {h:Host}(i:Fit h)(f:ieq (ln (zb4 h)) 0=true):∃(a b:Nat) (x:Mon) (s:Slot),zbF h 0=((a:Int),(b:Int))/\h.Mons[a]?=some x/\x.Outer[b]?=some s/\s.Page=0:=by have d:=z0Q i.2.1 f;have e:zbF h 0=zhF 0 h.Mons 0:=rfl;rcases zHx h.Mons 0 with c|⟨a,b,x,s,c,g⟩;{rw [e,c]at d;cases d};{exact⟨a,b,x,s,by rw[e,c,j4],g⟩}
theorem zFv {h:Host}(d:Fit h)(e:ieq (ln (zb4 h)) 0=true):hasB (zbF h 0).1 (ln h.Mons)=true/\hasB (zbF h 0).2 8=true:=by obtain⟨a,b,x,s,f,c,g,j⟩:=z4h d e;rw[f];have k:=(qA.1 c).1;have l:=(qA.1 g).1;have i:=d.1.2 x (qI c);refine⟨qJ (by simp only[ln];omega),qJ ?_⟩;have:=i.1;show 0<=(b:Int)/\(b:Int)<8;omega
theorem room {h:Host}(d:Fit h):Room h (zc5 h):=by unfold zc5;cases g:ieq (ln (zb4 h)) 0;{refine⟨d.1,qJ ?_,rfl,fun _=>.inr trivial⟩;have:ln (zb4 h)≠0:=(by simpa [ieq] using g);show 0<=(0:Int)/\(0:Int)<ln (zb4 h);simp only[ln] at *;omega};{obtain⟨n,u⟩:=zFv d g;obtain⟨a,b,x,s,r,i,k,t⟩:=z4h d g;simp only[cT];rw[r]at n u ⊢;have m:=(qA.1 i).1;have B:=(qA.1 k).1;have j:ix h.Mons (a:Int) mZ=x:=(by rw[zbj m];exact(qA.1 i).2);have c:=(zfS (zet h (a:Int) (b:Int)) (a:Int) (b:Int) noSlot).1;have q:ix (zet h (a:Int) (b:Int)).Mons (a:Int) mZ={x with Out:=up x.Out (b:Int) (zcp h.Memory (ix x.Outer (b:Int) sZ).Page)}:=(by unfold zet;rw[zdq m,j]);obtain⟨y,l,v⟩:∃y,(zdl h (a:Int) (b:Int)).Mons=h.Mons.set a y/\y.Outer=x.Outer.set b noSlot:=(by unfold zdl;rw[c,q];unfold zet;rw[zrp];exact⟨_,by simp[up];rfl,by simp[up]⟩);have w:zH (zdl h (a:Int) (b:Int)).Mons=0:=(by have p:=zXw h.Mons a x y i;have z:=z3i x.Outer b s k t;have A:=d.2.2;rw[l];rw[v] at p;omega);have f:(zdl h (a:Int) (b:Int)).Memory=h.Memory:=(zfS (zet h (a:Int) (b:Int)) (a:Int) (b:Int) noSlot).2;refine⟨zNb d.1 n,zHq (by rw[f];exact d.2.1) ?_,by rw[l];simp,fun _=>.inr trivial⟩;have e:zbF (zdl h (a:Int) (b:Int)) 0=zhF 0 (zdl h (a:Int) (b:Int)).Mons 0:=rfl;rw[e,zMK _ _ w];rfl}
theorem zWT {m:List (List Int)}{p:Int}{c:List Int}(h:SmM m)(a:c.length<=1048576):SmM (zg5 m p c):=by unfold zg5;cases hasB p (ln m);{exact h};{cases zcl c;{exact h};{exact zNj h a}}
def landing (r:Host)(m p to:Int):Host:={r with Memory:=zg5 r.Memory to (ix (ix r.Mons m mZ).Out p []),Mons:=up r.Mons m {ix r.Mons m mZ with Out:=up (ix r.Mons m mZ).Out p []}}
def zeF (r:Host)(m p to:Int):Host:=zb8 (landing r m p to) m p ⟨to,3⟩
def fetched (h:Host)(m p:Int):Host:=zeF (zc5 h) m p (ix (zb4 (zc5 h)) 0 0)
theorem zWV {r:Host}{m p:Int}(e:Shape r)(c:hasB m (ln r.Mons)=true)(d:hasB p 8=true):(ix (ix r.Mons m mZ).Out p []).length<=1048576:=by obtain⟨a,b⟩:=zcy e c;exact a.2.1.2 _ (zbD (zdu b.2.1 d) _)
theorem zsF {r:Host}{m p to:Int}(a:Shape r)(d:hasB m (ln r.Mons)=true)(e:hasB p 8=true):Shape (landing r m p to):=by obtain⟨b,c⟩:=zcy a d;exact zRG (h:={r with Mons:=up r.Mons m {ix r.Mons m mZ with Out:=up (ix r.Mons m mZ).Out p []}}) (zib (x:={ix r.Mons m mZ with Out:=up (ix r.Mons m mZ).Out p []}) a ⟨b.1,zNj b.2.1 (by simp),b.2.2⟩ ⟨c.1,by simpa using c.2.1,c.2.2⟩) (zWT a.1.1 (zWV a d e))
theorem zTa {r:Host}{m p to:Int}(c:Shape r)(a:hasB m (ln r.Mons)=true)(b:hasB p 8=true):Shape (zeF r m p to):=zsG (zel a) (zsF c a b)
theorem zpU {h:Host}(a:Fit h){m:Int}(b:hasB m (ln h.Mons)=true):hasB m (ln (zc5 h).Mons)=true:=by rw[ln,(room a).len];exact b
theorem zjM {h:Host}{m p:Int}(a:Fit h)(b:hasB m (ln h.Mons)=true)(c:hasB p 8=true):Shape (fetched h m p)/\hasB m (ln (fetched h m p).Mons)=true :=
 ⟨zTa (room a).shape (zpU a b) c,zHr (zel (zpU a b))⟩
@[simp] abbrev zwN (h:Host)(m p:Int):Bool:=pc (Fit h/\hasB m (ln h.Mons)=true/\hasB p 8=true)
@[simp] abbrev zzd (h:Host)(m p:Int):Host:=fetched h m p
def zxl:List AV->Option (Bool×List AV)
 |[.agg [.s (.sl .int) b,.s .mon c,.s .entry d,.s .entry e],.one (.i .i64 f),.one (.i .i64 g)]=>some ((zwN (⟨b,c,d,e⟩:Host) f g),[aH (zzd (⟨b,c,d,e⟩:Host) f g)])
 |_=>none
def zC4 (N:Nat)(a0:Host)(b a:Int):OA:=
 let g:=(ix (zee a0) 0 0);let e:=(ix a0.Mons b zh);let c:=(zAN a0 (zfb a0 0) (zf6 a0 0));let f:=(ix (zee c) 0 0);let d:=(ix c.Mons b zh); (oN (zjd a0) (cond (ieq (ln (zee a0)) 0) (oN (zhK a0 0) (oN (ztn a0 (zfb a0 0) (zf6 a0 0)) (oN (zjd c) (oN (inb 0 (ln (zee c))) (oN (inb b (ln c.Mons)) (oN (inb a (ln d.Out)) (oN (zkQ c.Memory f (ix d.Out a [])) (oN (inb b (ln c.Mons)) (oN (inb a (ln d.Out)) (share (up c.Mons b ({d with Out:=(up d.Out a [])}:Mon)) (fun h=>let i:=({c with Memory:=(zji c.Memory f (ix d.Out a [])),Mons:=h}:Host); (oN (zeY i b a (⟨f,3⟩:Slot)) (some [(aH (zgA i b a (⟨f,3⟩:Slot)))]))))))))))))) (oN (zjd a0) (oN (inb 0 (ln (zee a0))) (oN (inb b (ln a0.Mons)) (oN (inb a (ln e.Out)) (oN (zkQ a0.Memory g (ix e.Out a [])) (oN (inb b (ln a0.Mons)) (oN (inb a (ln e.Out)) (share (up a0.Mons b ({e with Out:=(up e.Out a [])}:Mon)) (fun h=>let j:=({a0 with Memory:=(zji a0.Memory g (ix e.Out a [])),Mons:=h}:Host); (oN (zeY j b a (⟨g,3⟩:Slot)) (some [(aH (zgA j b a (⟨g,3⟩:Slot)))])))))))))))))
theorem z1k (N:Nat)(a0:Host)(a b:Int):zFh (cQ zqr zpL z1r z2g) (zq []) N 12 77 [true,true,true,true,false,false] 1 1 [[0],[1],[2],[4],[7]] .mon [aH a0,aI a,aI b]=zC4 N a0 a b:=by kernel_rfl
theorem zYi (a0:Host)(b c:Int)(y:zb6 big [aH a0,aI b,aI c])(t:zwN a0 b c=true):∃N,zC4 N a0 b c=some [aH (zzd a0 b c)]:=by
 obtain⟨g,u,h⟩:=zL.1 t;have d:∀r,Shape r->inb 0 (ln (zb4 r))=true->hasB b (ln r.Mons)=true->(cond (zjd r) (cond (inb 0 (ln (zee r))) (cond (inb b (ln r.Mons)) (cond (inb c (ln (ix r.Mons b zh).Out)) (cond (zkQ r.Memory (ix (zee r) 0 0) (ix (ix r.Mons b zh).Out c [])) (cond (inb b (ln r.Mons)) (cond (inb c (ln (ix r.Mons b zh).Out)) (share (up r.Mons b ({ (ix r.Mons b zh) with Out:=(up (ix r.Mons b zh).Out c [])}:Mon)) (fun q=>(cond (zeY ({r with Memory:=(zji r.Memory (ix (zee r) 0 0) (ix (ix r.Mons b zh).Out c [])),Mons:=q}:Host) b c (⟨(ix (zee r) 0 0),3⟩:Slot)) (some [(AV.agg (zbl (zgA ({r with Memory:=(zji r.Memory (ix (zee r) 0 0) (ix (ix r.Mons b zh).Out c [])),Mons:=q}:Host) b c (⟨(ix (zee r) 0 0),3⟩:Slot))))]) none))) none) none) none) none) none) none) none)=some [AV.agg (zbl (zeF r b c (ix (zb4 r) 0 0)))]:=(by intro r i e a;obtain⟨x,j⟩:=zcy i a;have s:=zsF (to:=ix (zb4 r) 0 0) i a h;obtain⟨k,rfl,p⟩:=zds (n:=r.Mons.length) a;refine must (zbC i.1.1.1) (must e (must (zJ a) (must (zJ (zdu j.2.1 h)) (must (zbC ⟨i.1.1,zWV i a h⟩) (must (zJ a) (must (zJ (zdu j.2.1 h)) (shr (must (zbC ⟨(zV _).2 s.1,zel a,?_,?_⟩) rfl))))))));{simp only [zdq p];exact zdu j.1 h};{simp only [zdq p];exact kX j.2.2.2});have f:=room g;have a:=zpU g u;refine⟨0,?_⟩;unfold zC4 zzd fetched oN;conv=>zeta
 refine must (zbC g.1.1.1.1) ?_;cases m:ieq (ln (zee a0)) 0;{have l:zc5 a0=a0:=(by unfold zc5;rw[show ieq (ln (zb4 a0)) 0=false from m];rfl);rw[l]at f a ⊢;exact d a0 f.shape f.free a};{obtain⟨v,w⟩:=zFv g m;have l:zc5 a0=zdl a0 (zbF a0 0).1 (zbF a0 0).2:=(by unfold zc5;rw[show ieq (ln (zb4 a0)) 0=true from m];rfl);rw[l]at f a ⊢;exact must rfl (must rfl (must (zbC ⟨g.1,v,w⟩) (d _ f.shape f.free a)))}
theorem zSd:zdR Tryz.prog 77 [true,true,true,true,false,false] (some (1,1,[[0],[1],[2],[4],[7]])) zxl:=by refine zk9 (kt:=.mon) (zf2 zhU zB zPM zPZ) (ziZ (by kernel_rfl)) (by kernel_rfl) ?_;intro a g f e h;have c:=zih e;unfold zxl at h;split at h;{obtain⟨d,rfl⟩:=zdW h;obtain⟨N,b⟩:=zYi _ _ _ (by exact c) d;exact⟨⟨_,rfl⟩,rfl,_,N,12,(z1k N _ _ _ ).trans b⟩};{cases h}
@[simp] abbrev zsd (h:Host):Bool:=pc (Shape h/\hasB (zbF h 0).1 (ln h.Mons)=true/\hasB (zbF h 0).2 8=true)
@[simp] abbrev zse (h:Host):Host:=zdl h (zbF h 0).1 (zbF h 0).2
def zmX:List CV->List AV->Option (Bool×List CV×List AV)
 |[.s (.sl .int) b,.s .mon c,.s .entry d,.s .entry e],[]=>some ((zsd (⟨b,c,d,e⟩:Host)),zbl (zse (⟨b,c,d,e⟩:Host)),[])
 |_,_=>none
def zr2 (N:Nat)(c:Host)  : OA :=
 (oN (zhw c 0) (oN (zAb c (ze6 c 0) (zf3 c 0)) (some [(aH (zAc c (ze6 c 0) (zf3 c 0)))])))
theorem zPG (N:Nat)(c:Host)  : znQ (cQ zqr zpL z1r z2g) (zq []) N 12 127 [true,true,true,true] (zbl c) []=zr2 N c:=by kernel_rfl
theorem zMg (c:Host)(d:zb6 big (.agg (zbl c)::[]))(a:zsd c=true):∃N,zr2 N c=some (.agg (zbl (zse c))::[]):=by have b:=zL.1 a;refine⟨0,?_⟩;unfold zr2 oN;exact must rfl (must (zbC b) rfl)
theorem zFN:zbN Tryz.prog 127 [true,true,true,true] zmX:=by refine zgJ (zf2 zhU zB zPM zPZ) (ziZ (by kernel_rfl)) ?_;intro g a b j i f h;have d:=zkj f;unfold zmX at h;split at h;{obtain⟨e,rfl,rfl⟩:=zmt h;obtain⟨N,c⟩:=zMg _ (by exact d) e;exact⟨rfl,_,N,12,(zPG N _ ).trans c⟩};{cases h}
def z6J:zcU:=[(127,([true,true,true,true],zmX))]++z1r
theorem zZG:zb2 z6J:=zcu zPM (by
 intro x a;simp only[qG,qO,or_false]at a;rcases a with rfl
 .exact zFN)
def zW4:zfs:=[(77,([true,true,true,true,false,false],(some (1,1,[[0],[1],[2],[4],[7]])),zxl))]++z2g
theorem zFG:zea zW4:=zqg zPZ (by
 intro x a;simp only[qG,qO,or_false]at a;rcases a with rfl
 .exact zSd)
@[simp] abbrev zvJ (h:Host)(m p:Int):Bool:=pc (Fit h/\hasB m (ln h.Mons)=true/\hasB p 8=true)
@[simp] abbrev zrI (h:Host)(m p:Int):Host:=fetched h m p
theorem z0k {r:Host}{m p to:Int}(d:Shape r)(b:hasB m (ln r.Mons)=true):zAe {landing r m p to with Mons:=up (landing r m p to).Mons m {ix (landing r m p to).Mons m mZ with Outer:=up (ix (landing r m p to).Mons m mZ).Outer p ⟨to,3⟩}} m p (ix (ix (landing r m p to).Mons m mZ).Outer p sZ)=zeF r m p to:=by obtain⟨e,c⟩:=zcy d b;obtain⟨k,rfl,a⟩:=zds (n:=r.Mons.length) b;refine zAQ (h:=landing r (k:Int) p to) (by simpa [landing] using a) ?_;unfold landing;simp only[zdq a];exact c.2.2.2
theorem zYW {r:Host}{m p to:Int}(f:Shape r)(b:hasB m (ln r.Mons)=true)(e:hasB p 8=true):Shape {landing r m p to with Mons:=up (landing r m p to).Mons m {ix (landing r m p to).Mons m mZ with Outer:=up (ix (landing r m p to).Mons m mZ).Outer p ⟨to,3⟩}}:=by have a:=zsF (to:=to) f b e;obtain⟨c,d⟩:=zcy a (zel b);exact zib a ⟨by simpa using c.1,c.2⟩ ⟨by simpa using d.1,d.2⟩
def zui:List CV->List AV->Option (Bool×List CV×List AV)
 |[.s (.sl .int) b,.s .mon c,.s .entry d,.s .entry e],[.one (.i .i64 f),.one (.i .i64 g)]=>some ((zvJ (⟨b,c,d,e⟩:Host) f g),zbl (zrI (⟨b,c,d,e⟩:Host) f g),[])
 |_,_=>none
def zCC (N:Nat)(c:Host)(a0 a:Int):OA:=
 let l:=(ix (zdT c) 0 0);let b:=(zse c);let k:=(ix (zdT b) 0 0);let e:=(ix c.Mons a0 zh);let d:=(ix b.Mons a0 zh); (oN (zfF c) (cond (ieq (ln (zdT c)) 0) (oN (zsd c) (oN (inb a0 (ln b.Mons)) (oN (zfF b) (oN (inb 0 (ln (zdT b))) (oN (inb a (ln d.Out)) (oN (zku b.Memory k (ix d.Out a [])) (oN (inb a (ln d.Out)) (share (up b.Mons a0 ({d with Out:=(up d.Out a [])}:Mon)) (fun f=>let h:=(ix f a0 zh);let p:=(ix h.Outer a zQ); (oN (inb a (ln h.Outer)) (oN (inb a (ln h.Outer)) (share (up f a0 ({h with Outer:=(up h.Outer a (⟨k,3⟩:Slot))}:Mon)) (fun j=>let m:=({b with Memory:=(zi5 b.Memory k (ix d.Out a [])),Mons:=j}:Host); (oN (zd4 m a0 a p) (some [(aH (zd5 m a0 a p))]))))))))))))))) (oN (inb a0 (ln c.Mons)) (oN (zfF c) (oN (inb 0 (ln (zdT c))) (oN (inb a (ln e.Out)) (oN (zku c.Memory l (ix e.Out a [])) (oN (inb a (ln e.Out)) (share (up c.Mons a0 ({e with Out:=(up e.Out a [])}:Mon)) (fun f=>let i:=(ix f a0 zh);let g:=(ix i.Outer a zQ); (oN (inb a (ln i.Outer)) (oN (inb a (ln i.Outer)) (share (up f a0 ({i with Outer:=(up i.Outer a (⟨l,3⟩:Slot))}:Mon)) (fun j=>let n:=({c with Memory:=(zi5 c.Memory l (ix e.Out a [])),Mons:=j}:Host); (oN (zd4 n a0 a g) (some [(aH (zd5 n a0 a g))]))))))))))))))))
theorem z1j (N:Nat)(c:Host)(a0 a:Int):znQ (cQ zqr zpL z6J zW4) (zq []) N 12 71 [true,true,true,true] (zbl c) [aI a0,aI a]=zCC N c a0 a:=by kernel_rfl
theorem zX3 (c:Host)(a0 b:Int)(E:zb6 big (.agg (zbl c)::[aI a0,aI b]))(v:zvJ c a0 b=true):∃N,zCC N c a0 b=some (.agg (zbl (zrI c a0 b))::[]):=by
 obtain⟨i,A,j⟩:=zL.1 v;have d:∀r,Shape r->inb 0 (ln (zb4 r))=true->hasB a0 (ln r.Mons)=true->(cond (inb a0 (ln r.Mons)) (cond (zfF r) (cond (inb 0 (ln (zdT r))) (cond (inb b (ln (ix r.Mons a0 zh).Out)) (cond (zku r.Memory (ix (zdT r) 0 0) (ix (ix r.Mons a0 zh).Out b [])) (cond (inb b (ln (ix r.Mons a0 zh).Out)) (share (up r.Mons a0 ({ (ix r.Mons a0 zh) with Out:=(up (ix r.Mons a0 zh).Out b [])}:Mon)) (fun f=>(cond (inb b (ln (ix f a0 zh).Outer)) (cond (inb b (ln (ix f a0 zh).Outer)) (share (up f a0 ({ (ix f a0 zh) with Outer:=(up (ix f a0 zh).Outer b (⟨(ix (zdT r) 0 0),3⟩:Slot))}:Mon)) (fun t=>(cond (zd4 ({r with Memory:=(zi5 r.Memory (ix (zdT r) 0 0) (ix (ix r.Mons a0 zh).Out b [])),Mons:=t}:Host) a0 b (ix (ix f a0 zh).Outer b zQ)) (some [(AV.agg (zbl (zd5 ({r with Memory:=(zi5 r.Memory (ix (zdT r) 0 0) (ix (ix r.Mons a0 zh).Out b [])),Mons:=t}:Host) a0 b (ix (ix f a0 zh).Outer b zQ))))]) none))) none) none))) none) none) none) none) none) none)=some [AV.agg (zbl (zeF r a0 b (ix (zb4 r) 0 0)))]:=(by intro r h e a;obtain⟨D,m⟩:=zcy h a;have u:=zYW (to:=ix (zb4 r) 0 0) h a j;have hE:=z0k (p:=b) (to:=ix (zb4 r) 0 0) h a;obtain⟨k,rfl,z⟩:=zds (n:=r.Mons.length) a;have w:∀(x y:Mon),hasB (k:Int) (ln (up (up r.Mons (k:Int) x) (k:Int) y))=true:=fun x y=>(by simpa [ln] using a);have s:inb b (ln (ix (up r.Mons (k:Int) {ix r.Mons (k:Int) mZ with Out:=up (ix r.Mons (k:Int) mZ).Out b []}) (k:Int) mZ).Outer)=true:=(by rw[zdq z];exact zJ (zdu m.1 j));refine must (zJ a) (must (zbC h.1.1.1) (must e (must (zJ (zdu m.2.1 j)) (must (zbC ⟨h.1.1,zWV h a j⟩) (must (zJ (zdu m.2.1 j)) (shr (must s (must s (shr (must (zbC ⟨u,w _ _⟩) ?_))))))))));exact congrArg (fun x=>some [AV.agg (zbl x)]) hE);have g:=room i;have a:=zpU i A;refine⟨0,?_⟩;unfold zCC zrI fetched oN;conv=>zeta
 refine must (zbC i.1.1.1.1) ?_;cases q:ieq (ln (zdT c)) 0;{have l:zc5 c=c:=(by unfold zc5;rw[show ieq (ln (zb4 c)) 0=false from q];rfl);rw[l]at g a ⊢;exact d c g.shape g.free a};{obtain⟨B,C⟩:=zFv i q;have l:zc5 c=zdl c (zbF c 0).1 (zbF c 0).2:=(by unfold zc5;rw[show ieq (ln (zb4 c)) 0=true from q];rfl);rw[l]at g a ⊢;exact must rfl (must (zbC ⟨i.1,B,C⟩) (d _ g.shape g.free a))}
theorem zRY:zbN Tryz.prog 71 [true,true,true,true] zui:=by refine zgJ (zf2 zhU zB zZG zFG) (ziZ (by kernel_rfl)) ?_;intro g a b j i f h;have d:=zkj f;unfold zui at h;split at h;{obtain⟨e,rfl,rfl⟩:=zmt h;obtain⟨N,c⟩:=zX3 _ _ _ (by exact d) e;exact⟨rfl,_,N,12,(z1j N _ _ _ ).trans c⟩};{cases h}
def z1s:zcU:=[(71,([true,true,true,true],zui))]++z6J
theorem zPN:zb2 z1s:=zcu zZG (by
 intro x a;simp only[qG,qO,or_false]at a;rcases a with rfl
 .exact zRY)
def zbI (h:Host)(m p:Int):Host:={h with Mons:=up h.Mons m {ix h.Mons m mZ with Dirty:=up (ix h.Mons m mZ).Dirty p true}}
def opened (h:Host)(m p:Int):Host:=bif ieq (wand .i64 (ix (ix h.Mons m mZ).Outer p sZ).Rights 2) 0 then zb8 h m p ⟨(ix (ix h.Mons m mZ).Outer p sZ).Page,3⟩ else h
def zi7 (h:Host)(m p n:Int):Host:=bif ieq (wand .i64 n 2) 0 then h else opened (zbI h m p) m p
def mended (h:Host)(m p n:Int):Host:=bif ieq (ix (ix h.Mons m mZ).Outer p sZ).Page (-1) then zi7 (fetched h m p) m p n else zi7 h m p n
theorem zbai {r:Int}(a:0<=r)(b:r<=3):enough r 2 = !ieq (wand .i64 r 2) 0:=by have:r=0\/r=1\/r=2\/r=3:=(by omega);rcases this with rfl|rfl|rfl|rfl<;>rfl
structure SlotFit (s:Slot):Prop where
 no:zcV s noSlot=ieq s.Page (-1)
 lo:0<=s.Rights
 hi:s.Rights<=3
theorem z15 {s:Slot}{n:Int}(h:zdw s n=true):SlotFit s:=by refine⟨zRI h,?_,?_⟩<;>unfold zdw at h<;>cases a:zcV s noSlot;{rw [a]at h;simp only[cF,zc8]at h;have:=(zfC.1 h.2.2).1;omega};{unfold zcV at a;rw[qD]at a;have:s.Rights=0:=qE a.2;omega};{rw [a]at h;simp only[cF,zc8]at h;have:=(zfC.1 h.2.2).2;omega};{unfold zcV at a;rw[qD]at a;have:s.Rights=0:=qE a.2;omega}
theorem zmM {h:Host}{m p:Int}(c:Shape h)(d:hasB m (ln h.Mons)=true):Shape (zbI h m p):=by obtain⟨a,b⟩:=zcy c d;exact zib c ⟨a.1,a.2.1,by simpa using a.2.2.1,a.2.2.2⟩ ⟨b.1,b.2.1,by simpa using b.2.2.1,b.2.2.2⟩
theorem zWL {h:Host}{m p:Int}(b:Shape h)(a:hasB m (ln h.Mons)=true):Shape (opened h m p)/\hasB m (ln (opened h m p).Mons)=true:=by unfold opened;cases ieq (wand .i64 (ix (ix h.Mons m mZ).Outer p sZ).Rights 2) 0;{exact⟨b,a⟩};{exact⟨zsG a b,zHr a⟩}
theorem zH2 {h:Host}{m p n:Int}(b:Shape h)(a:hasB m (ln h.Mons)=true):Shape (zi7 h m p n)/\hasB m (ln (zi7 h m p n).Mons)=true:=by unfold zi7;cases ieq (wand .i64 n 2) 0;{exact zWL (zmM b a) (zel a)};{exact⟨b,a⟩}
theorem zuY {h:Host}{m p n:Int}(a:Fit h)(b:hasB m (ln h.Mons)=true)(e:hasB p 8=true):Shape (mended h m p n)/\hasB m (ln (mended h m p n).Mons)=true:=by unfold mended;cases ieq (ix (ix h.Mons m mZ).Outer p sZ).Page (-1);{exact zH2 a.1 b};{obtain⟨c,d⟩:=zjM a b e;exact zH2 c d}
theorem zUA {h:Host}{m p:Int}(c:Fit h)(g:hasB m (ln h.Mons)=true)(j:hasB p 8=true):(ix (ix (fetched h m p).Mons m mZ).Outer p sZ).Rights=3:=by have f:=room c;have a:=zpU c g;obtain⟨r,e⟩:=zcy f.shape a;obtain⟨k,rfl,d⟩:=zds (n:=(zc5 h).Mons.length) a;obtain⟨q,rfl,l⟩:=zds (n:=8) j;unfold fetched zeF;rw[(zfS _ _ _ _).1];have b:k<(landing (zc5 h) (k:Int) (q:Int) (ix (zb4 (zc5 h)) 0 0)).Mons.length:=(by simpa [landing] using d);rw[zdq b];have i:q<(ix (landing (zc5 h) (k:Int) (q:Int) (ix (zb4 (zc5 h)) 0 0)).Mons (k:Int) mZ).Outer.length:=(by unfold landing;rw[zdq d];show q<(ix (zc5 h).Mons (k:Int) mZ).Outer.length;rw[e.1];exact l);show (ix (up (ix (landing (zc5 h) (k:Int) (q:Int) (ix (zb4 (zc5 h)) 0 0)).Mons (k:Int) mZ).Outer (q:Int) ⟨_,3⟩) (q:Int) sZ).Rights=3;rw[zdq i]
def zTP (h:Host)(m p n:Int):Prop:=Fit h/\hasB m (ln h.Mons)=true/\hasB p 8=true/\(n=1\/n=2)/\SlotFit (ix (ix h.Mons m mZ).Outer p sZ)
@[simp] abbrev zmq (h:Host)(m p n:Int):Bool:=pc (zTP h m p n)
@[simp] abbrev znz (h:Host)(m p n:Int):Host:=mended h m p n
def zss:List AV->Option (Bool×List AV)
 |[.agg [.s (.sl .int) b,.s .mon c,.s .entry d,.s .entry e],.one (.i .i64 f),.one (.i .i64 g),.one (.i .i64 h)]=>some ((zmq (⟨b,c,d,e⟩:Host) f g h),[aH (znz (⟨b,c,d,e⟩:Host) f g h)])
 |_=>none
def zw2 (N:Nat)(a0:Host)(a b k:Int):OA:=
 let g:=(zzd a0 a b);let j:=(ix g.Mons a zh);let d:=(ix a0.Mons a zh);let n:=(ix d.Outer b zQ); (oN (inb a (ln a0.Mons)) (oN (inb b (ln d.Outer)) (oN zcv (cond (cond (ieq n.Page zbu.Page) (ieq n.Rights zbu.Rights) false) (oN (zwN a0 a b) (cond (ieq (wand .i64 k 2) 0) (some [(aH g)]) (oN (inb a (ln g.Mons)) (oN (inb b (ln j.Dirty)) (share (up g.Mons a ({j with Dirty:=(up j.Dirty b true)}:Mon)) (fun c=>let p:=(ix c a zh).Outer;let h:=({g with Mons:=c}:Host);let l:=(ix p b zQ);let q:=({l with Rights:=3}:Slot); (oN (inb a (ln c)) (oN (inb b (ln p)) (cond (ieq (wand .i64 l.Rights 2) 0) (oN (zeY h a b q) (some [(aH (zgA h a b q))])) (some [(aH h)])))))))))) (cond (ieq (wand .i64 k 2) 0) (some [(aH a0)]) (oN (inb a (ln a0.Mons)) (oN (inb b (ln d.Dirty)) (share (up a0.Mons a ({d with Dirty:=(up d.Dirty b true)}:Mon)) (fun c=>let e:=(ix c a zh).Outer;let i:=({a0 with Mons:=c}:Host);let m:=(ix e b zQ);let f:=({m with Rights:=3}:Slot); (oN (inb a (ln c)) (oN (inb b (ln e)) (cond (ieq (wand .i64 m.Rights 2) 0) (oN (zeY i a b f) (some [(aH (zgA i a b f))])) (some [(aH i)])))))))))))))
theorem zV2 (N:Nat)(a0:Host)(a b c:Int):zFh (cQ zqr zpL z1s zW4) (zq []) N 12 250 [true,true,true,true,false,false,false] 1 1 [[0],[1],[2],[4],[7]] .mon [aH a0,aI a,aI b,aI c]=zw2 N a0 a b c:=by kernel_rfl
theorem zSU (a0:Host)(b a g:Int)(B:zb6 big [aH a0,aI b,aI a,aI g])(y:zmq a0 b a g=true):∃N,zw2 N a0 b a g=some [aH (znz a0 b a g)]:=by
 obtain⟨j,i,h,C,z⟩:=zL.1 y;obtain⟨A,u⟩:=zcy j.1 i;have d:∀r,Shape r->hasB b (ln r.Mons)=true->(cond (ieq (wand .i64 g 2) 0) (some [(AV.agg (zbl r))]) (cond (inb b (ln r.Mons)) (cond (inb a (ln (ix r.Mons b zh).Dirty)) (share (up r.Mons b ({ (ix r.Mons b zh) with Dirty:=(up (ix r.Mons b zh).Dirty a true)}:Mon)) (fun f=>(cond (inb b (ln f)) (cond (inb a (ln (ix f b zh).Outer)) (cond (ieq (wand .i64 (ix (ix f b zh).Outer a zQ).Rights 2) 0) (cond (zeY ({r with Mons:=f}:Host) b a ({ (ix (ix f b zh).Outer a zQ) with Rights:=3}:Slot)) (some [(AV.agg (zbl (zgA ({r with Mons:=f}:Host) b a ({ (ix (ix f b zh).Outer a zQ) with Rights:=3}:Slot))))]) none) (some [(AV.agg (zbl ({r with Mons:=f}:Host)))])) none) none))) none) none))=some [AV.agg (zbl (zi7 r b a g))]:=(by intro r t c;obtain⟨D,l⟩:=zcy t c;have x:=zmM (p:=a) t c;unfold zi7;cases v:ieq (wand .i64 g 2) 0;{obtain⟨k,rfl,s⟩:=zds (n:=r.Mons.length) c;have m:ix (zbI r (k:Int) a).Mons (k:Int) mZ={ix r.Mons (k:Int) mZ with Dirty:=up (ix r.Mons (k:Int) mZ).Dirty a true}:=zdq s _ _;refine zdh rfl (must (zJ c) (must (zJ (zdu l.2.2.1 h)) (shr (must (zJ (zel c)) (must ?_ ?_)))));{rw [zdq s];exact zJ (zdu l.1 h)};{unfold opened;show (cond (ieq (wand .i64 (ix (ix (zbI r (k:Int) a).Mons (k:Int) mZ).Outer a sZ).Rights 2) 0) _ _)=_;cases q:ieq (wand .i64 (ix (ix (zbI r (k:Int) a).Mons (k:Int) mZ).Outer a sZ).Rights 2) 0;{rfl};{refine must rfl (must (zbC ⟨(zV _).2 x.1,zel c,?_,?_⟩) rfl);{show hasB a (ln (ix (zbI r (k:Int) a).Mons (k:Int) mZ).Outer)=true;rw[m];exact zdu l.1 h};{show (ix (zbI r (k:Int) a).Mons (k:Int) mZ).Tables.length<=(ix (zbI r (k:Int) a).Mons (k:Int) mZ).Guests.length;rw[m];exact kX l.2.2.2}}}};{rfl});refine⟨0,?_⟩;unfold zw2 znz mended oN;conv=>zeta
 refine must (zJ i) (must (zJ (zdu u.1 h)) (must rfl ?_));have e:(cond (ieq (ix (ix a0.Mons b mZ).Outer a sZ).Page zbu.Page) (ieq (ix (ix a0.Mons b mZ).Outer a sZ).Rights zbu.Rights) false)=ieq (ix (ix a0.Mons b mZ).Outer a sZ).Page (-1):=(by rw[<- z.no];unfold zcV zbu;cases ieq (ix (ix a0.Mons b mZ).Outer a sZ).Page noSlot.Page<;>rfl);rw[e];cases v:ieq (ix (ix a0.Mons b mZ).Outer a sZ).Page (-1);{exact d a0 j.1 i};{obtain⟨q,w⟩:=zjM (p:=a) j i h;exact must rfl (must (zbC ⟨j,i,h⟩) (d _ q w))}
theorem zL0:zdR Tryz.prog 250 [true,true,true,true,false,false,false] (some (1,1,[[0],[1],[2],[4],[7]])) zss:=by refine zk9 (kt:=.mon) (zf2 zhU zB zPN zFG) (ziZ (by kernel_rfl)) (by kernel_rfl) ?_;intro a g f e h;have c:=zih e;unfold zss at h;split at h;{obtain⟨d,rfl⟩:=zdW h;obtain⟨N,b⟩:=zSU _ _ _ _ (by exact c) d;exact⟨⟨_,rfl⟩,rfl,_,N,12,(zV2 N _ _ _ _ ).trans b⟩};{cases h}
@[simp] abbrev zUV (h:Host)(m p n:Int):Bool:=pc (zTP h m p n)
@[simp] abbrev zJh (h:Host)(m p n:Int):Host:=mended h m p n
def zxe:List CV->List AV->Option (Bool×List CV×List AV)
 |[.s (.sl .int) b,.s .mon c,.s .entry d,.s .entry e],[.one (.i .i64 f),.one (.i .i64 g),.one (.i .i64 h)]=>some ((zUV (⟨b,c,d,e⟩:Host) f g h),zbl (zJh (⟨b,c,d,e⟩:Host) f g h),[])
 |_,_=>none
def zId (N:Nat)(c:Host)(a0 a j:Int):OA:=
 let d:=(zrI c a0 a);let l:=(ix d.Mons a0 zh);let g:=(ix c.Mons a0 zh); (oN (inb a0 (ln c.Mons)) (oN (inb a (ln g.Outer)) (cond (ieq (ix g.Outer a zQ).Page (-1)) (oN (zvJ c a0 a) (oN (zeq j 2) (cond (nB (ze5 j 2)) (some [(aH d)]) (oN (inb a0 (ln d.Mons)) (oN (inb a (ln l.Dirty)) (share (up d.Mons a0 ({l with Dirty:=(up l.Dirty a true)}:Mon)) (fun b=>let h:=(ix b a0 zh);let e:=(ix h.Outer a zQ); (oN (inb a (ln h.Outer)) (oN (zeq e.Rights 2) (cond (nB (ze5 e.Rights 2)) (oN (inb a (ln h.Outer)) (share (up b a0 ({h with Outer:=(up h.Outer a ({e with Rights:=3}:Slot))}:Mon)) (fun k=>let m:=({d with Mons:=k}:Host); (oN (zd4 m a0 a e) (some [(aH (zd5 m a0 a e))]))))) (some [(aH ({d with Mons:=b}:Host))]))))))))))) (oN (zeq j 2) (cond (nB (ze5 j 2)) (some [(aH c)]) (oN (inb a0 (ln c.Mons)) (oN (inb a (ln g.Dirty)) (share (up c.Mons a0 ({g with Dirty:=(up g.Dirty a true)}:Mon)) (fun b=>let i:=(ix b a0 zh);let f:=(ix i.Outer a zQ); (oN (inb a (ln i.Outer)) (oN (zeq f.Rights 2) (cond (nB (ze5 f.Rights 2)) (oN (inb a (ln i.Outer)) (share (up b a0 ({i with Outer:=(up i.Outer a ({f with Rights:=3}:Slot))}:Mon)) (fun k=>let n:=({c with Mons:=k}:Host); (oN (zd4 n a0 a f) (some [(aH (zd5 n a0 a f))]))))) (some [(aH ({c with Mons:=b}:Host))])))))))))))))
theorem z4a (N:Nat)(c:Host)(a0 a b:Int):znQ (cQ zqr zpL z1s zW4) (zq []) N 12 265 [true,true,true,true] (zbl c) [aI a0,aI a,aI b]=zId N c a0 a b:=by kernel_rfl
theorem z1b (c:Host)(a0 a e:Int)(Q:zb6 big (.agg (zbl c)::[aI a0,aI a,aI e]))(L:zUV c a0 a e=true):∃N,zId N c a0 a e=some (.agg (zbl (zJh c a0 a e))::[]):=by
 obtain⟨j,g,i,O,B⟩:=zL.1 L;obtain⟨P,H⟩:=zcy j.1 g;have G:enough e 2 = !ieq (wand .i64 e 2) 0:=(by rcases O with rfl|rfl<;>rfl);have f:∀r,Shape r->hasB a0 (ln r.Mons)=true->enough (ix (ix r.Mons a0 mZ).Outer a sZ).Rights 2=(!ieq (wand .i64 (ix (ix r.Mons a0 mZ).Outer a sZ).Rights 2) 0)->(cond (zeq e 2) (cond (cond (ze5 e 2) false true) (some [(AV.agg (zbl r))]) (cond (inb a0 (ln r.Mons)) (cond (inb a (ln (ix r.Mons a0 zh).Dirty)) (share (up r.Mons a0 ({ (ix r.Mons a0 zh) with Dirty:=(up (ix r.Mons a0 zh).Dirty a true)}:Mon)) (fun d=>(cond (inb a (ln (ix d a0 zh).Outer)) (cond (zeq (ix (ix d a0 zh).Outer a zQ).Rights 2) (cond (cond (ze5 (ix (ix d a0 zh).Outer a zQ).Rights 2) false true) (cond (inb a (ln (ix d a0 zh).Outer)) (share (up d a0 ({ (ix d a0 zh) with Outer:=(up (ix d a0 zh).Outer a ({ (ix (ix d a0 zh).Outer a zQ) with Rights:=3}:Slot))}:Mon)) (fun E=>(cond (zd4 ({r with Mons:=E}:Host) a0 a (ix (ix d a0 zh).Outer a zQ)) (some [(AV.agg (zbl (zd5 ({r with Mons:=E}:Host) a0 a (ix (ix d a0 zh).Outer a zQ))))]) none))) none) (some [(AV.agg (zbl ({r with Mons:=d}:Host)))])) none) none))) none) none)) none)=some [AV.agg (zbl (zi7 r a0 a e))]:=(by intro r A b m;obtain⟨R,t⟩:=zcy A b;have v:=zmM (p:=a) A b;unfold zi7;simp only[zeq,ze5,G,cT];cases I:ieq (wand .i64 e 2) 0;{obtain⟨k,rfl,z⟩:=zds (n:=r.Mons.length) b;have l:ix (zbI r (k:Int) a).Mons (k:Int) mZ={ix r.Mons (k:Int) mZ with Dirty:=up (ix r.Mons (k:Int) mZ).Dirty a true}:=zdq z _ _;have q:k<(zbI r (k:Int) a).Mons.length:=(by simpa [zbI] using z);have w:inb a (ln (ix (zbI r (k:Int) a).Mons (k:Int) mZ).Outer)=true:=(by rw[l];exact zJ (zdu t.1 i));refine zdh rfl (must (zJ b) (must (zJ (zdu t.2.2.1 i)) (shr (must w ?_))));unfold opened;show (cond (cond (enough (ix (ix (zbI r (k:Int) a).Mons (k:Int) mZ).Outer a sZ).Rights 2) false true) _ _)=_;have F:(cond (enough (ix (ix (zbI r (k:Int) a).Mons (k:Int) mZ).Outer a sZ).Rights 2) false true)=ieq (wand .i64 (ix (ix (zbI r (k:Int) a).Mons (k:Int) mZ).Outer a sZ).Rights 2) 0:=(by rw[l];show (cond (enough (ix (ix r.Mons (k:Int) mZ).Outer a sZ).Rights 2) false true)=ieq (wand .i64 (ix (ix r.Mons (k:Int) mZ).Outer a sZ).Rights 2) 0;rw[m];cases ieq (wand .i64 (ix (ix r.Mons (k:Int) mZ).Outer a sZ).Rights 2) 0<;>rfl);rw[F];cases u:ieq (wand .i64 (ix (ix (zbI r (k:Int) a).Mons (k:Int) mZ).Outer a sZ).Rights 2) 0;{rfl};{have K:Shape {zbI r (k:Int) a with Mons:=up (zbI r (k:Int) a).Mons (k:Int) {ix (zbI r (k:Int) a).Mons (k:Int) mZ with Outer:=up (ix (zbI r (k:Int) a).Mons (k:Int) mZ).Outer a ⟨(ix (ix (zbI r (k:Int) a).Mons (k:Int) mZ).Outer a sZ).Page,3⟩}}:=(by obtain⟨C,D⟩:=zcy v (zel b);exact zib v ⟨by simpa using C.1,C.2⟩ ⟨by simpa using D.1,D.2⟩);have M:∀(x y:Mon),hasB (k:Int) (ln (up (up r.Mons (k:Int) x) (k:Int) y))=true:=fun x y=>(by simpa [ln] using b);refine must rfl (must w (shr (must (zbC ⟨K,M _ _⟩) ?_)));exact congrArg (fun x=>some [AV.agg (zbl x)]) (zAQ (h:=zbI r (k:Int) a) (p:=a) (s:=⟨(ix (ix (zbI r (k:Int) a).Mons (k:Int) mZ).Outer a sZ).Page,3⟩) q (by rw[l];exact t.2.2.2))}};{rfl});refine⟨0,?_⟩;unfold zId zJh mended oN nB;conv=>zeta
 refine must (zJ g) (must (zJ (zdu H.1 i)) ?_);cases I:ieq (ix (ix c.Mons a0 mZ).Outer a sZ).Page (-1);{exact f c j.1 g (zbai B.lo B.hi)};{obtain⟨u,J⟩:=zjM (p:=a) j g i;exact must rfl (must (zbC ⟨j,g,i⟩) (f _ u J (by rw[zUA j g i];rfl)))}
theorem zUP:zbN Tryz.prog 265 [true,true,true,true] zxe:=by refine zgJ (zf2 zhU zB zPN zFG) (ziZ (by kernel_rfl)) ?_;intro g a b j i f h;have d:=zkj f;unfold zxe at h;split at h;{obtain⟨e,rfl,rfl⟩:=zmt h;obtain⟨N,c⟩:=z1b _ _ _ _ (by exact d) e;exact⟨rfl,_,N,12,(z4a N _ _ _ _ ).trans c⟩};{cases h}
def z1t:zcU:=[(265,([true,true,true,true],zxe))]++z1s
theorem zcf:zb2 z1t:=zcu zPN (by
 intro x a;simp only[qG,qO,or_false]at a;rcases a with rfl
 .exact zUP)
def z2h:zfs:=[(250,([true,true,true,true,false,false,false],(some (1,1,[[0],[1],[2],[4],[7]])),zss))]++zW4
theorem zP0:zea z2h:=zqg zFG (by
 intro x a;simp only[qG,qO,or_false]at a;rcases a with rfl
 .exact zL0)
theorem z0Y {h:Host}(b:zbX h=true):h.Memory.length=12:=by unfold zbX at b;simp only[zc8]at b;have a:=b.1;unfold zha at a;simp only[zc8]at a;have:ln h.Memory=12:=qE a.2;simp only[ln] at this;omega
theorem zgt {h:Host}(a:zbX h=true):∀x∈h.Mons,zdP x=true:=by unfold zbX at a;simp only[zc8]at a;exact zz1 _ _ a.2.2.2.2
theorem zJA {x:Mon}(a:zdP x=true):ShM x:=by have e:=zr1 (zl6 a);unfold zdP at a;simp only[zc8]at a;have b:ln x.Tables=ln x.Guests:=qE a.2.1;have c:ln x.Out=8:=qE a.2.2.2.1;have d:ln x.Dirty=8:=qE a.2.2.2.2.1;simp only[ln] at *;exact⟨by omega,by omega,by omega,by omega⟩
theorem zd3 {h:Host}(b:SmH h)(a:zbX h=true):Fit h:=by refine⟨⟨b,fun x c=>zJA (zgt a x c)⟩,by rw[z0Y a];decide,?_⟩;unfold zbX at a;simp only[zc8]at a;have:=zUU _ _ rfl a.2.2.2.2;omega
theorem zs4 {x:Mon}(b:zdP x=true){p:Int}(c:hasB p 8=true):SlotFit (ix x.Outer p sZ):=by have a:=zl6 b;unfold zcS at a;simp only[zc8]at a;exact z15 (qM.1 a.1 _ (zbD (zdu (zJA b).1 c) _))
theorem zXP {h:Host}{m p:Int}(a:Fit h)(c:hasB m (ln h.Mons)=true):Fit (zbI h m p):=by refine⟨zmM a.1 c,a.2.1,?_⟩;obtain⟨k,rfl,b⟩:=zds (n:=h.Mons.length) c;have:=zXw h.Mons k (ix h.Mons (k:Int) mZ) {ix h.Mons (k:Int) mZ with Dirty:=up (ix h.Mons (k:Int) mZ).Dirty p true} (by rw[zbj b];exact qB b);have d:=a.2.2;unfold zbI;simp only[up,kD];dsimp only at this;simp only[up] at this;omega
abbrev gZ:Guest:=Ty.dflt .guest
def zbW (h:Host)(m g:Int):Bool:=bif zbX h then (cond (hasB m (ln h.Mons)) (hasB g (ln (ix h.Mons m mZ).Guests)) false) else false
@[simp] abbrev zgC (h:Host)(m g:Int):Bool:=pc (zci h)
@[simp] abbrev ziK (h:Host)(m g:Int):Bool:=zbW h m g
def zHT:Run:=rF3 dH dI dI fun b c d=>(zgC b c d,[aB (ziK b c d)])
def zQH (N:Nat)(a0:Host)(a b:Int):OA:=
 let c:=(wsub .i64 (ln (ix a0.Mons a zh).Guests) 1); (oN (zew a0) (cond (zeD a0) (oN (zN a 0 (wsub .i64 (ln a0.Mons) 1)) (cond (zT a 0 (wsub .i64 (ln a0.Mons) 1)) (oN (inb a (ln a0.Mons)) (oN (zN b 0 c) (some [(aB (zT b 0 c))]))) oF)) oF))
theorem zYk (a0:Host)(a b:Int)(e:zgC a0 a b=true):∃N,zQH N a0 a b=some [aB (ziK a0 a b)]:=by
 have d:=(zV a0).1 (zL.1 e);refine⟨0,?_⟩;unfold zQH ziK zbW oN;conv=>zeta
 refine must rfl ?_;rw[show zeD a0=zbX a0 from rfl];cases f:zbX a0;{rfl};{rw [show zT a 0 (wsub .i64 (ln a0.Mons) 1)=hasB a (ln a0.Mons) from zqh d.2.1.1 a];refine must rfl (must rfl ?_);cases c:hasB a (ln a0.Mons);{rfl};{have hg:(ix a0.Mons a mZ).Guests.length<=1048576:=(d.2.1.2 _ (zbD c _)).2.2.2.1.1;rw[show zT b 0 (wsub .i64 (ln (ix a0.Mons a zh).Guests) 1)=hasB b (ln (ix a0.Mons a mZ).Guests) from zqh hg b];exact must rfl (must (zJ c) (must rfl rfl))}}
theorem zSf:vM 233 zHT:=kF3 zhU zB zcf zP0 (zq []) zYk
def zct (h:Host)(m:Int):Nat->Nat->List (List Int)
 | 0,_=>[]
 |n+1,i=>zcB h m (i:Int)::zct h m n (i+1)
theorem zAs (h:Host)(m:Int):∀(n i:Nat),(zct h m n i).length=n
 | 0,_=>rfl
 |n+1,i=>by simp[zct,zAs h m n]
def zG (h:Host)(m:Int):Bare:=bif hasB m (ln h.Mons) then ⟨zct h m 8 0,(ix h.Mons m mZ).Guests,(ix h.Mons m mZ).Outs,(ix h.Mons m mZ).Pending⟩ else ⟨[],[],[],0⟩
theorem zRc {b:Type}(h:Host)(m:Int)(K:List (List Int)->Option b):∀(n i:Nat) (a:List (List Int)),a.length+n<=2147483648->
 goN (fun i a κ=>bif few (ln (ap a [zcB h m (i:Int)])) then κ (ap a [zcB h m (i:Int)]) else none) K n i a=K (a++zct h m n i)
 | 0,_,a,_=>by simp[goN,zct]
 |n+1,i,a,c=>by simp only[goN,zct];rw[zgi (by simp[ap];omega),cT,zRc h m K n (i+1) _ (by simp[ap];omega)];simp[ap]
def z8B:zW:=[(233,zHT)]++zqr
theorem z5T:zK z8B:=zi zSf zhU
theorem zYt:zcl zAW=true:=by decide
theorem zZb {p:Nat->Bool}:∀{n i q:Nat},znG p n i=true->i<=q->q<i+n->p q=true
 | 0,i,q,_,a,b=>by omega
 |n+1,i,q,h,a,b=>by simp only[znG,qD]at h;by_cases c:i=q;{subst c;exact h.1};{exact zZb h.2 (by omega) (by omega)}
theorem z4l {h:Host}{m:Int}(e:zbX h=true)(l:hasB m (ln h.Mons)=true){p:Int}(j:hasB p 8=true):zcl (zcB h m p)=true:=by have i:=zgt e _ (zbD l mZ);have s:=zJA i;have f:h.Memory.all zcl=true:=(by unfold zbX at e;simp only[zc8]at e;have b:=e.1;unfold zha at b;simp only[zc8]at b;exact b.1);unfold zcB;rw[l,j];simp only[cT];have t:zbz (ix h.Mons m mZ).Outer p=ix (ix h.Mons m mZ).Outer p sZ:=(by unfold zbz;rw[zdu s.1 j];rfl);rw[t];have d:∀(g:List (List Int)) (q:Int),(hasB q (ln g)=true->zcl (ix g q [])=true)->zcl (zcp g q)=true:=(by intro g q k;unfold zcp;cases b:hasB q (ln g);{exact zYt};{exact k b});cases c:ine (ix (ix h.Mons m mZ).Outer p sZ).Page (-1);{refine d _ _ (fun k=>?_);obtain⟨q,rfl,u⟩:=zds (n:=8) j;have a:fits (ix h.Mons m mZ) q=true:=(by unfold zdP at i;simp only[zc8]at i;exact zZb i.2.2.2.2.2.2.2.2.2.2 (by omega) (by omega));unfold fits zlh at a;have r:zcV (ix (ix h.Mons m mZ).Outer (q:Int) sZ) noSlot=true:=(by rw[(zs4 (zgt e _ (zbD l mZ)) j).no];rw[znn]at c;cases b:ieq (ix (ix h.Mons m mZ).Outer (q:Int) sZ).Page (-1);{rw [b]at c;cases c};{rfl});rw[r]at a;exact a};{exact d _ _ (fun k=>qM.1 f _ (zbD k _))}
theorem zRu {h:Host}{m:Int}(a:zbX h=true)(b:hasB m (ln h.Mons)=true):∀(n i:Nat),i+n<=8->(zct h m n i).all zcl=true
 | 0,_,_=>rfl
 |n+1,i,c=>by simp only[zct,kW,qD];exact⟨z4l a b (qJ (by omega)),zRu a b n (i+1) (by omega)⟩
theorem zHf {h:Host}{m:Int}(c:zbX h=true)(b:hasB m (ln h.Mons)=true):zca (zG h m)=true:=by have a:=zgt c _ (zbD b mZ);unfold zdP at a;simp only[zc8]at a;unfold zG zca zha;rw[b];simp only[cT,a.2.2.2.2.2.2.2.2.2.1,zRu c b 8 0 (by decide),ln,zAs];simp only[ln]at a;rw[a.1,a.2.2.2.2.2.1,a.2.2.2.2.2.2.1];rfl
def zmu:zW:=z8B
theorem zhV:zK zmu:=z5T
def zdS (l:List Mon):List (List Guest):=l.map fun x=>x.Guests
theorem zz0 {l:List Mon}{m:Int}{x:Mon}(b:hasB m (ln l)=true)(c:x.Guests=(ix l m mZ).Guests):zdS (up l m x)=zdS l:=by obtain⟨k,rfl,a⟩:=zds (n:=l.length) b;unfold zdS up;rw[List.map_set,kD,c,zbj a];have:=@u2 _ (l.map fun x=>x.Guests) k (by simpa using a);simpa using this
theorem zLl {l b:List Mon}(h:zdS b=zdS l)(m:Int):(ix b m mZ).Guests=(ix l m mZ).Guests:=by unfold zdS at h;have a:(b.map fun x=>x.Guests)[m.toNat]?=(l.map fun x=>x.Guests)[m.toNat]?:=(by rw[h]);rw[qP,qP]at a;unfold ix;simp only[j8];cases c:b[m.toNat]? <;> cases d:l[m.toNat]? <;> rw [c,d]at a<;>simp at a ⊢;exact a
theorem zzZ {h:Host}{m p:Int}{s:Slot}(a:hasB m (ln h.Mons)=true):zdS (zb8 h m p s).Mons=zdS h.Mons:=by rw[(zfS h m p s).1];exact zz0 a rfl
theorem zbap {h:Host}{m p:Int}(a:hasB m (ln h.Mons)=true):zdS (zdl h m p).Mons=zdS h.Mons:=(zzZ (h:=zet h m p) (zel a)).trans (zz0 a rfl)
theorem zbao {h:Host}(b:Fit h):zdS (zc5 h).Mons=zdS h.Mons:=by unfold zc5;cases a:ieq (ln (zb4 h)) 0;{rfl};{exact zbap (zFv b a).1}
theorem z0V {h:Host}{m p:Int}(a:Fit h)(c:hasB m (ln h.Mons)=true):zdS (fetched h m p).Mons=zdS h.Mons:=by have b:=zpU a c;exact((zzZ (h:=landing (zc5 h) m p (ix (zb4 (zc5 h)) 0 0)) (zel b)).trans (zz0 b rfl)).trans (zbao a)
theorem zUM {h:Host}{m p n:Int}(b:hasB m (ln h.Mons)=true):zdS (zi7 h m p n).Mons=zdS h.Mons:=by have a:zdS (zbI h m p).Mons=zdS h.Mons:=zz0 b rfl;unfold zi7;cases ieq (wand .i64 n 2) 0;{unfold opened;cases ieq (wand .i64 (ix (ix (zbI h m p).Mons m mZ).Outer p sZ).Rights 2) 0;{exact a};{exact(zzZ (h:=zbI h m p) (zel b)).trans a}};{rfl}
theorem z3B {h:Host}{m p n:Int}(b:Fit h)(a:hasB m (ln h.Mons)=true)(c:hasB p 8=true):zdS (mended h m p n).Mons=zdS h.Mons:=by unfold mended;cases ieq (ix (ix h.Mons m mZ).Outer p sZ).Page (-1);{exact zUM a};{exact(zUM (zjM b a c).2).trans (z0V b a)}
theorem zbbJ {l a:List Mon}(h:zdS a=zdS l):a.length=l.length:=by have:=congrArg List.length h;simpa [zdS] using this
abbrev kZ:Kept:=Ty.dflt .kept
theorem zbcB {x:Guest}(f:zde x=true){p n:Int}(d:zfi x.Live p n=true):hasB (zcC x.Live p n) 8=true:=by have g:zcS x.Live 4 8=true:=(by unfold zde at f;simp only[qD]at f;exact f.2.2.2.2.1);unfold zcC;rw[d];simp only[cT];unfold zfi at d;cases a:ieq (zbz x.Live p).Page (-1);{unfold zbz at a ⊢;cases e:hasB p (ln x.Live);{rw [e]at a;cases a};{rw [e]at a;simp only[cT]at a ⊢;unfold zcS at g;simp only[zc8]at g;have c:=qM.1 g.1 _ (zbD e sZ);unfold zdw at c;cases b:zcV (ix x.Live p sZ) noSlot;{rw [b]at c;simp only[cF,zc8]at c;have:=zfC.1 c.2.1;rw[show wsub .i64 8 1=7 from rfl] at this;show hasB (ix x.Live p sZ).Page 8=true;exact qJ (by omega)};{unfold zcV at b;rw[qD]at b;have:(ix x.Live p sZ).Page = -1:=qE b.1;rw[show ieq (ix x.Live p zQ).Page (-1)=true from qJ this]at a;cases a}}};{rw [a]at d;cases d}
def zcO (h:Host)(m g:Int):List Slot:=(ix (ix h.Mons m mZ).Guests g gZ).Live
def zcx (h:Host)(m g:Int):Kept:=ix (ix h.Mons m mZ).Tables g kZ
def zrz (b:List Entry)(m g page:Int):Option Entry:=zFi b (zez m g) page
def zhk (b:List Entry)(m g page need:Int):Bool:=bif (zrz b m g page).isSome then enough ((zrz b m g page).getD ⟨0,0,0,0⟩).Rights need else false
def zeM (h:Host)(m g page need:Int):Bool:=bif zkx (zcx h m g) page then (cond (ieq (ze1 (zcx h m g) page).Page (-1)) true (!enough (ze1 (zcx h m g) page).Rights need)) else true
def zdE (h:Host)(m g page:Int):Host:={h with Mons:=up h.Mons m {ix h.Mons m mZ with Tables:=up (ix h.Mons m mZ).Tables g (filled (zcx h m g) (zcO h m g) (ix h.Mons m mZ).Outer page)}}
def zTu (h:Host)(m g page:Int):Entry:=⟨zez m g,page,(ze1 (zcx h m g) page).Page,(ze1 (zcx h m g) page).Rights⟩
def zvW (h:Host)(m g page:Int)(io:Bool):Host:=bif io then {h with IoBuffer:=zpQ h.IoBuffer (zTu h m g page)} else {h with Buffer:=zpQ h.Buffer (zTu h m g page)}
def zhD (h:Host)(m g page:Int)(io:Bool):Host×Int×Bool:=(zvW h m g page io,(ze1 (zcx h m g) page).Page,true)
def zhC (h:Host)(b:List Entry)(m g page need q:Int)(io:Bool):Host×Int×Bool :=
 bif zhk b m g page need then (h,((zrz b m g page).getD ⟨0,0,0,0⟩).Host,true)
 else (cond (zeM h m g page need) (zhD (zdE (mended h m q need) m g page) m g page io) (zhD h m g page io))
def zjy (need:Int):Bool:=bif ieq need 1 then true else ieq need 2
def zb7 (h:Host)(m g page need:Int):Bool:=bif zbW h m g then (cond (zjy need) (zfi (zcO h m g) page need) false) else false
def lookOf (h:Host)(b:List Entry)(m g page need:Int)(io:Bool):Host×Int×Bool :=
 bif zb7 h m g page need then zhC (cond (ieq need 2) (zbI h m (zcC (zcO h m g) page need)) h) b m g page need (zcC (zcO h m g) page need) io else (h,-1,false)
structure Kp (h r:Host):Prop where
 shape:Shape r
 gs:zdS r.Mons=zdS h.Mons
theorem Kp.has {h r:Host}(k:Kp h r){m:Int}(a:hasB m (ln h.Mons)=true):hasB m (ln r.Mons)=true:=by rw[ln,zbbJ k.gs];exact a
theorem z1Y {h:Host}{m g page:Int}(c:Shape h)(d:hasB m (ln h.Mons)=true)(hg:hasB g (ln (ix h.Mons m mZ).Guests)=true):Shape (zdE h m g page):=by obtain⟨a,b⟩:=zcy c d;have e:hasB g (ln (ix h.Mons m mZ).Tables)=true:=(by rw[ln,b.2.2.2];exact hg);exact zib c ⟨a.1,a.2.1,a.2.2.1,a.2.2.2.1,a.2.2.2.2.1,zzf a.2.2.2.2.2 (z19 (a.2.2.2.2.2.2 _ (zbD e _)))⟩ ⟨b.1,b.2.1,b.2.2.1,by simpa using b.2.2.2⟩
theorem z3K {h r:Host}{m g page:Int}{io:Bool}(k:Kp h r):Kp h (zvW r m g page io):=by obtain⟨⟨a,b,c,d⟩,e⟩:=k.shape;unfold zvW;cases io;{exact⟨⟨⟨a,b,(zAu _ c).1,d⟩,e⟩,k.gs⟩};{exact⟨⟨⟨a,b,c,(zAu _ d).1⟩,e⟩,k.gs⟩}
structure LookAt (h:Host) (m g q need:Int):Prop where
 fit:Fit h
 hm:hasB m (ln h.Mons)=true
 hg:hasB g (ln (ix h.Mons m mZ).Guests)=true
 hq:hasB q 8=true
 hn:need=1\/need=2
 hs:SlotFit (ix (ix h.Mons m mZ).Outer q sZ)
theorem LookAt.mend {h:Host}{m g q need:Int}(A:LookAt h m g q need):zTP h m q need:=⟨A.fit,A.hm,A.hq,A.hn,A.hs⟩
theorem LookAt.kp {h:Host}{m g q need:Int}(A:LookAt h m g q need):Kp h (mended h m q need):=⟨(zuY A.fit A.hm A.hq).1,z3B A.fit A.hm A.hq⟩
theorem LookAt.fill {h:Host}{m g q need:Int}(A:LookAt h m g q need)(page:Int):Kp h (zdE (mended h m q need) m g page):=by have k:=A.kp;have hg:hasB g (ln (ix (mended h m q need).Mons m mZ).Guests)=true:=(by rw[zLl k.gs];exact A.hg);have e:zdS (zdE (mended h m q need) m g page).Mons=zdS (mended h m q need).Mons:=zz0 (k.has A.hm) rfl;exact⟨z1Y k.shape (k.has A.hm) hg,e.trans k.gs⟩
theorem zU1 {h:Host}{b:List Entry}{m g page need q:Int}{io:Bool}(A:LookAt h m g q need):Kp h (zhC h b m g page need q io).1:=by unfold zhC;cases zhk b m g page need;{cases zeM h m g page need;{exact z3K ⟨A.fit.1,rfl⟩};{exact z3K (A.fill page)}};{exact⟨A.fit.1,rfl⟩}
theorem zdr {h:Host}{m g:Int}(a:zbW h m g=true):zbX h=true/\hasB m (ln h.Mons)=true/\hasB g (ln (ix h.Mons m mZ).Guests)=true:=by unfold zbW at a;simp only[zc8]at a;exact a
theorem z0W {h:Host}{m g:Int}(e:zbW h m g=true):zde (ix (ix h.Mons m mZ).Guests g gZ)=true:=by obtain⟨b,c,d⟩:=zdr e;have a:=zgt b _ (zbD c mZ);unfold zdP at a;simp only[zc8]at a;exact qM.1 a.2.2.2.2.2.2.2.2.2.1 _ (zbD d _)
theorem zMC {n:Int}(h:zjy n=true):n=1\/n=2:=by unfold zjy at h;cases a:ieq n 1;{rw [a]at h;exact .inr (qE h)};{exact .inl (qE a)}
theorem zRg {h:Host}{m g page need:Int}(r:SmH h)(c:zb7 h m g page need=true) :
 LookAt h m g (zcC (zcO h m g) page need) need/\LookAt (zbI h m (zcC (zcO h m g) page need)) m g (zcC (zcO h m g) page need) need:=by
 unfold zb7 at c;simp only[zc8]at c;obtain⟨j,l,q⟩:=c;obtain⟨f,a,i⟩:=zdr j;have d:hasB (zcC (zcO h m g) page need) 8=true:=zbcB (z0W j) q;have b:=zs4 (zgt f _ (zbD a mZ)) d;have p:=zd3 r f;refine⟨⟨p,a,i,d,zMC l,b⟩,⟨zXP p a,zel a,?_,d,zMC l,?_⟩⟩
 .have e:zdS (zbI h m (zcC (zcO h m g) page need)).Mons=zdS h.Mons:=zz0 a rfl;rw[zLl e];exact i
 .obtain⟨k,rfl,hk⟩:=zds (n:=h.Mons.length) a;unfold zbI;rw[zdq hk];exact b
theorem zyi {h:Host}{b:List Entry}{m g page need:Int}{io:Bool}(a:SmH h)(f:zbW h m g=true):Kp h (lookOf h b m g page need io).1:=by have d:=zd3 a (zdr f).1;unfold lookOf;cases c:zb7 h m g page need;{exact⟨d.1,rfl⟩};{obtain⟨A,B⟩:=zRg a c;simp only[cT];cases ieq need 2;{exact zU1 A};{have k:=zU1 (b:=b) (page:=page) (io:=io) B;have e:zdS (zbI h m (zcC (zcO h m g) page need)).Mons=zdS h.Mons:=zz0 A.hm rfl;exact⟨k.shape,k.gs.trans e⟩}}
def zPP (x:Host×Int×Bool):List AV:=[.agg (zbl x.1),.one (.i .i64 x.2.1),.one (.b x.2.2)]
theorem znp {h:Host}{b:List Entry}{m g page need:Int}{io:Bool}(a:zb7 h m g page need=false):lookOf h b m g page need io=(h,-1,false):=by unfold lookOf;rw[a];rfl
theorem zDW {h:Host}{m g page need:Int}(a:zbW h m g=false):zb7 h m g page need=false:=by unfold zb7;rw[a];rfl
theorem zbaq {h:Host}{m g:Int}(a:zbX h=false):zbW h m g=false:=by unfold zbW;rw[a];rfl
theorem zbar {h:Host}{m g:Int}(a:hasB m (ln h.Mons)=false):zbW h m g=false:=by unfold zbW;rw[a];cases zbX h<;>rfl
theorem zbas {h:Host}{m g:Int}(a:hasB g (ln (ix h.Mons m mZ).Guests)=false):zbW h m g=false:=by unfold zbW;rw[a];cases zbX h<;>cases hasB m (ln h.Mons)<;>rfl
theorem zbat {h:Host}{m g:Int}(a:zbX h=true)(b:hasB m (ln h.Mons)=true)(c:hasB g (ln (ix h.Mons m mZ).Guests)=true):zbW h m g=true:=by unfold zbW;rw[a,b,c];rfl
structure LookF (r:Host) (m g:Int):Prop where
 hm:hasB m (ln r.Mons)=true
 hg:hasB g (ln (ix r.Mons m mZ).Guests)=true
 ht:hasB g (ln (ix r.Mons m mZ).Tables)=true
 hk:SmK (zcx r m g)
 hb:r.Buffer.length<=1048576
 hi:r.IoBuffer.length<=1048576
theorem zFs {h r:Host}{m g:Int}(k:Kp h r)(b:hasB m (ln h.Mons)=true)(hg:hasB g (ln (ix h.Mons m mZ).Guests)=true):LookF r m g:=by obtain⟨d,e⟩:=zcy k.shape (k.has b);have a:hasB g (ln (ix r.Mons m mZ).Guests)=true:=(by rw[zLl k.gs];exact hg);have c:hasB g (ln (ix r.Mons m mZ).Tables)=true:=(by rw[ln,e.2.2.2];exact a);exact⟨k.has b,a,c,d.2.2.2.2.2.2 _ (zbD c _),k.shape.1.2.2.1,k.shape.1.2.2.2⟩
@[simp] abbrev zj8 (h:Host)(b:List Entry)(m g page need:Int)(io:Bool):Bool:=pc (zci h)
@[simp] abbrev zeZ (h:Host)(b:List Entry)(m g page need:Int)(io:Bool):Host:=(lookOf h b m g page need io).1
@[simp] abbrev zj7 (h:Host)(b:List Entry)(m g page need:Int)(io:Bool):Int:=(lookOf h b m g page need io).2.1
@[simp] abbrev zgB (h:Host)(b:List Entry)(m g page need:Int)(io:Bool):Bool:=(lookOf h b m g page need io).2.2
def zsu:List AV->Option (Bool×List AV)
 |[.agg [.s (.sl .int) c,.s .mon d,.s .entry e,.s .entry f],.one (.s .entry g),.one (.i .i64 h),.one (.i .i64 j),.one (.i .i64 k),.one (.i .i64 l),.one (.b m)]=>some ((zj8 (⟨c,d,e,f⟩:Host) g h j k l m),[aH (zeZ (⟨c,d,e,f⟩:Host) g h j k l m),aI (zj7 (⟨c,d,e,f⟩:Host) g h j k l m),aB (zgB (⟨c,d,e,f⟩:Host) g h j k l m)])
 |_=>none
abbrev zRP (b:lM)(c:lN)(d:lE)(e:lE)(a:Int)(g:Int)(f:Int):Mon :=
 (ix (znz (⟨b,c,d,e⟩:Host) a g f).Mons a zh)
abbrev zRQ (a0:Host)(a b:Int)(c d:Int):Int :=
 (zjE (ix (ix a0.Mons a zh).Guests b zC).Live c d)
def zNM (N:Nat)(a:Int)(b:lM)(c:lN)(d:lE)(e:lE):OA:=
 (some [(aH (⟨b,c,d,e⟩:Host)),(aI a),(aB true)])
def zpu (N:Nat)(l:Int)(m:Bool)(n:Int)(c:Int)(d:Int)(k:lM)(e:lN)(a:lE)(b:lE)(f:lM)(g:lN)(h:lE)(i:lE):OA:=
 let q:=(⟨n,l,c,d⟩:Entry); (share (fun (j:(Int×(Int×(lM×(lN×(lE×(lE×(lM×(lN×(lE×(lE×Unit)))))))))))=>(zNM N j.1 j.2.2.1 j.2.2.2.1 j.2.2.2.2.1 j.2.2.2.2.2.1)) (fun p=>(cond m (oN (zkO b q) (p (c,(d,(k,(e,(a,((zlA b q),(f,(g,(h,(i,())))))))))))) (oN (zkO a q) (p (c,(d,(k,(e,((zlA a q),(b,(f,(g,(h,(i,())))))))))))))))
def zr6 (N:Nat)(d:lM)(e:lN)(f:lE)(g:lE)(b:Int)(i:Int)(h:Int)(a:Int)(c:Int)(y:((Int×(Bool×(Int×(Int×(Int×(Int×(Int×(Int×(Int×(lM×(lN×(lE×(lE×(lM×(lN×(lE×(lE×Unit))))))))))))))))))->OA)(r:Bool)(s:Int)(t:Int)(u:Int)(v:Int)(k:Int)(l:lM)(m:lN)(n:lE)(p:lE):OA:=
 let D:=(⟨d,e,f,g⟩:Host);let w:=(znz D b i h);let x:=(inb b (ln w.Mons));let j:=(zRP d e f g b i h);let C:=(ix j.Tables a zep);let A:=(ix j.Guests a zC).Live; (oN (zmq D b i h) (oN x (oN x (oN (inb a (ln j.Tables)) (oN x (oN (inb a (ln j.Guests)) (oN x (oN (zJQ C A j.Outer c) (oN (inb a (ln j.Tables)) (share (up w.Mons b ({j with Tables:=(up j.Tables a (zM1 C A j.Outer c))}:Mon)) (fun q=>let B:=(ix q b zh).Tables;let z:=(ix B a zep); (oN (inb b (ln q)) (oN (inb a (ln B)) (oN (zFA z c) (y (c,(r,(s,(t,(u,(v,(k,((zty z c).Page,((zty z c).Rights,(w.Memory,(q,(w.Buffer,(w.IoBuffer,(l,(m,(n,(p,()))))))))))))))))))))))))))))))))
def zk0 (N:Nat)(d:Int)(e:Int)(c:Int)(n:Int)(p:Bool)(v:Int)(q:Int)(r:Int)(s:Int)(t:Int)(f:Int)(g:lM)(b:lN)(h:lE)(i:lE)(j:lM)(k:lN)(l:lE)(m:lE):OA:=
 let z:=(ix b d zh).Tables;let x:=(ix z e zep);let w:=(zty x c); (oN (inb d (ln b)) (oN (inb e (ln z)) (oN (zFA x c) (share (fun (a:(Int×(Bool×(Int×(Int×(Int×(Int×(Int×(Int×(Int×(lM×(lN×(lE×(lE×(lM×(lN×(lE×(lE×Unit))))))))))))))))))=>(zpu N a.1 a.2.1 a.2.2.1 a.2.2.2.2.2.2.2.1 a.2.2.2.2.2.2.2.2.1 a.2.2.2.2.2.2.2.2.2.1 a.2.2.2.2.2.2.2.2.2.2.1 a.2.2.2.2.2.2.2.2.2.2.2.1 a.2.2.2.2.2.2.2.2.2.2.2.2.1 a.2.2.2.2.2.2.2.2.2.2.2.2.2.1 a.2.2.2.2.2.2.2.2.2.2.2.2.2.2.1 a.2.2.2.2.2.2.2.2.2.2.2.2.2.2.2.1 a.2.2.2.2.2.2.2.2.2.2.2.2.2.2.2.2.1)) (fun u=>let y:=(zr6 N g b h i d v n e c u p q r s t f j k l m); (cond (nB (zFz x c)) y (cond (ieq w.Page (-1)) y (oN (zgn w.Rights n) (cond (nB (zgZ w.Rights n)) y (u (c,(p,(q,(r,(s,(t,(f,(w.Page,(w.Rights,(g,(b,(h,(i,(j,(k,(l,(m,())))))))))))))))))))))))))))
def zr7 (N:Nat)(f:Int)(a0:Host)(g d e:Int)(k:lE)(m:Bool):OA:=
 let h:=(ztA f g);let j:=(zRQ a0 f g d e);let l:=(ix a0.Mons f zh);let r:=(ix l.Guests g zC).Live;let c:=(zmA k h d);let i:=c.Rights; (oN (inb f (ln a0.Mons)) (oN (inb g (ln l.Guests)) (oN (zsB r d e) (cond (nB (zjF r d e)) (some [(aH a0),(aI (-1)),(aB false)]) (oN (zkP f g) (cond (ieq e 2) (oN (inb f (ln a0.Mons)) (oN (inb j (ln l.Dirty)) (share (up a0.Mons f ({l with Dirty:=(up l.Dirty j true)}:Mon)) (fun n=>(oN (zmB k h d) (share (fun (b:(Int×(Int×(Int×(Int×(Bool×(Int×(Int×(Int×(Int×(Int×(Int×(lM×(lN×(lE×(lE×(lM×(lN×(lE×(lE×Unit))))))))))))))))))))=>(zk0 N b.1 b.2.1 b.2.2.1 b.2.2.2.1 b.2.2.2.2.1 b.2.2.2.2.2.1 b.2.2.2.2.2.2.1 b.2.2.2.2.2.2.2.1 b.2.2.2.2.2.2.2.2.1 b.2.2.2.2.2.2.2.2.2.1 b.2.2.2.2.2.2.2.2.2.2.1 b.2.2.2.2.2.2.2.2.2.2.2.1 b.2.2.2.2.2.2.2.2.2.2.2.2.1 b.2.2.2.2.2.2.2.2.2.2.2.2.2.1 b.2.2.2.2.2.2.2.2.2.2.2.2.2.2.1 b.2.2.2.2.2.2.2.2.2.2.2.2.2.2.2.1 b.2.2.2.2.2.2.2.2.2.2.2.2.2.2.2.2.1 b.2.2.2.2.2.2.2.2.2.2.2.2.2.2.2.2.2.1 b.2.2.2.2.2.2.2.2.2.2.2.2.2.2.2.2.2.2.1)) (fun q=>(cond (zjB k h d) (oN (zgn i e) (cond (zgZ i e) (some [(aH ({a0 with Mons:=n}:Host)),(aI c.Host),(aB true)]) (q (f,(g,(d,(e,(m,(j,(h,(c.Tag,(c.Page,(c.Host,(i,(a0.Memory,(n,(a0.Buffer,(a0.IoBuffer,([],([],([],([],())))))))))))))))))))))) (q (f,(g,(d,(e,(m,(j,(h,(c.Tag,(c.Page,(c.Host,(i,(a0.Memory,(n,(a0.Buffer,(a0.IoBuffer,([],([],([],([],())))))))))))))))))))))))))))) (oN (zmB k h d) (share (fun (a:(Int×(Int×(Int×(Int×(Bool×(Int×(Int×(Int×(Int×(Int×(Int×(lM×(lN×(lE×(lE×(lM×(lN×(lE×(lE×Unit))))))))))))))))))))=>(zk0 N a.1 a.2.1 a.2.2.1 a.2.2.2.1 a.2.2.2.2.1 a.2.2.2.2.2.1 a.2.2.2.2.2.2.1 a.2.2.2.2.2.2.2.1 a.2.2.2.2.2.2.2.2.1 a.2.2.2.2.2.2.2.2.2.1 a.2.2.2.2.2.2.2.2.2.2.1 a.2.2.2.2.2.2.2.2.2.2.2.1 a.2.2.2.2.2.2.2.2.2.2.2.2.1 a.2.2.2.2.2.2.2.2.2.2.2.2.2.1 a.2.2.2.2.2.2.2.2.2.2.2.2.2.2.1 a.2.2.2.2.2.2.2.2.2.2.2.2.2.2.2.1 a.2.2.2.2.2.2.2.2.2.2.2.2.2.2.2.2.1 a.2.2.2.2.2.2.2.2.2.2.2.2.2.2.2.2.2.1 a.2.2.2.2.2.2.2.2.2.2.2.2.2.2.2.2.2.2.1)) (fun p=>(cond (zjB k h d) (oN (zgn i e) (cond (zgZ i e) (some [(aH a0),(aI c.Host),(aB true)]) (p (f,(g,(d,(e,(m,(j,(h,(c.Tag,(c.Page,(c.Host,(i,(a0.Memory,(a0.Mons,(a0.Buffer,(a0.IoBuffer,([],([],([],([],())))))))))))))))))))))) (p (f,(g,(d,(e,(m,(j,(h,(c.Tag,(c.Page,(c.Host,(i,(a0.Memory,(a0.Mons,(a0.Buffer,(a0.IoBuffer,([],([],([],([],()))))))))))))))))))))))))))))))
def zql (N:Nat)(a0:Host)(f:lE)(a b:Int)(g c:Int)(h:Bool):OA:=
 let e:=(zr7 N a a0 b g c f h);let d:=(wsub .i64 (ln (ix a0.Mons a zh).Guests) 1); (oN (zew a0) (cond (nB (zeD a0)) (some [(aH a0),(aI (-1)),(aB false)]) (oN (zN a 0 (wsub .i64 (ln a0.Mons) 1)) (cond (nB (zT a 0 (wsub .i64 (ln a0.Mons) 1))) (some [(aH a0),(aI (-1)),(aB false)]) (oN (inb a (ln a0.Mons)) (oN (zN b 0 d) (cond (nB (zT b 0 d)) (some [(aH a0),(aI (-1)),(aB false)]) (cond (ine c 1) (cond (ine c 2) (some [(aH a0),(aI (-1)),(aB false)]) e) e))))))))
def zsI:FuncId->Nat->Option Tmpl:=zq [(254,999999,{n:=0,tm:=[],lo:=[],ro:=[]}),(254,1007023,{n:=210,tm:=[(2,ti),(3,ti),(4,ti),(5,ti),(6,.b),(7,.lp 0 0),(14,.lp 1 0),(17,ti),(19,ti),(20,.lp 2 0)],lo:=[(0,[.sl 0 [],.sl 1 [],.sl 2 [],.sl 3 []]),(1,[.sl 4 [],.sl 5 [],.sl 6 [],.sl 7 []]),(2,[ti,ti,ti,ti])],ro:=[(0,(.sl .int),true),(1,.mon,true),(2,.entry,true),(3,.entry,true),(4,(.sl .int),true),(5,.mon,true),(6,.entry,true),(7,.entry,true)],kr:=1}),(254,1009011,{n:=210,tm:=[(4,ti),(6,.b),(7,.lp 0 0),(14,.lp 1 0),(19,ti),(20,.lp 2 0),(22,.lp 3 0)],lo:=[(0,[.sl 0 [],.sl 1 [],.sl 2 [],.sl 3 []]),(1,[.sl 4 [],.sl 5 [],.sl 6 [],.sl 7 []]),(2,[ti,ti,ti,ti]),(3,[ti,ti])],ro:=[(0,(.sl .int),true),(1,.mon,true),(2,.entry,true),(3,.entry,true),(4,(.sl .int),true),(5,.mon,true),(6,.entry,true),(7,.entry,true)],kr:=1}),(254,1005003,{n:=210,tm:=[(7,.lp 0 0),(14,.lp 1 0),(22,.lp 2 0)],lo:=[(0,[.sl 0 [],.sl 1 [],.sl 2 [],.sl 3 []]),(1,[.sl 4 [],.sl 5 [],.sl 6 [],.sl 7 []]),(2,[ti,ti])],ro:=[(0,(.sl .int),true),(1,.mon,true),(2,.entry,true),(3,.entry,true),(4,(.sl .int),true),(5,.mon,true),(6,.entry,true),(7,.entry,true)],kr:=1})]
theorem zPH (N:Nat)(a0:Host)(a b:Int)(c d:Int)(e:Bool):zTv (cQ zmu zpL z1t z2h) zsI N 12 254 [true,true,true,true,false,false,false,false,false,false] [(4,2)] 1 1 [[0],[1],[2],[4],[7]] .mon [aH a0,aS .entry a0.Buffer,aI a,aI b,aI c,aI d,aB e]=zql N a0 a0.Buffer a b c d e:=by kernel_rfl
theorem zPI (N:Nat)(a0:Host)(a b:Int)(c d:Int)(e:Bool):zTv (cQ zmu zpL z1t z2h) zsI N 12 254 [true,true,true,true,false,false,false,false,false,false] [(4,3)] 1 1 [[0],[1],[2],[4],[7]] .mon [aH a0,aS .entry a0.IoBuffer,aI a,aI b,aI c,aI d,aB e]=zql N a0 a0.IoBuffer a b c d e:=by kernel_rfl
theorem zFj {N:Nat}{r:Host}{m g page:Int}{io:Bool}{z1 z2 z3 z4}(a:r.Buffer.length<=1048576)(b:r.IoBuffer.length<=1048576) :
 zpu N page io (zez m g) (ze1 (zcx r m g) page).Page (ze1 (zcx r m g) page).Rights r.Memory r.Mons r.Buffer r.IoBuffer z1 z2 z3 z4=some (zPP (zhD r m g page io)):=by
 unfold zpu oN
 conv=>zeta
 refine shr ?_;cases io
 .exact zdh rfl (must (zbC a) rfl)
 .exact must rfl (must (zbC b) rfl)
theorem zUB {N:Nat}{r:Host}{m g page need q:Int}{io:Bool}{R:OA}{r11}{u6 u7 u8 u9 u10 z1 z2 z3 z4}(A:LookAt r m g q need)(a:r11 (page,(io,(u6,(u7,(u8,(u9,(u10,((ze1 (zcx (zdE (mended r m q need) m g page) m g) page).Page,((ze1 (zcx (zdE (mended r m q need) m g page) m g) page).Rights,((zdE (mended r m q need) m g page).Memory,((zdE (mended r m q need) m g page).Mons,((zdE (mended r m q need) m g page).Buffer,((zdE (mended r m q need) m g page).IoBuffer,(z1,(z2,(z3,(z4,())))))))))))))))))=R) :
 zr6 N r.Memory r.Mons r.Buffer r.IoBuffer m q need g page r11 io u6 u7 u8 u9 u10 z1 z2 z3 z4=R:=by
 have M:=zFs A.kp A.hm A.hg;have F:=zFs (A.fill page) A.hm A.hg;unfold zr6 oN
 conv=>zeta
 exact must (zbC A.mend) (must (zJ M.hm) (must (zJ M.hm) (must (zJ M.ht) (must (zJ M.hm) (must (zJ M.hg) (must (zJ M.hm) (must (zbC M.hk) (must (zJ M.ht) (shr (must (zJ F.hm) (must (zJ F.ht) (must (zbC F.hk) a))))))))))))
theorem zba3 {r:Host}{m g page need:Int}(h:zkx (zcx r m g) page=false):zeM r m g page need=true:=by unfold zeM;rw[h];rfl
theorem zba4 {r:Host}{m g page need:Int}(h:ieq (ze1 (zcx r m g) page).Page (-1)=true):zeM r m g page need=true:=by unfold zeM;rw[h];cases zkx (zcx r m g) page<;>rfl
theorem zba5 {r:Host}{m g page need:Int}(h:enough (ze1 (zcx r m g) page).Rights need=false):zeM r m g page need=true:=by unfold zeM;rw[h];cases zkx (zcx r m g) page<;>cases ieq (ze1 (zcx r m g) page).Page (-1)<;>rfl
theorem zba6 {r:Host}{m g page need:Int}(a:zkx (zcx r m g) page=true)(b:ieq (ze1 (zcx r m g) page).Page (-1)=false)(c:enough (ze1 (zcx r m g) page).Rights need=true):zeM r m g page need=false:=by unfold zeM;rw[a,b,c];rfl
theorem zPv {r:Host}{m g page need q:Int}{io:Bool}(h:zeM r m g page need=true):(cond (zeM r m g page need) (zhD (zdE (mended r m q need) m g page) m g page io) (zhD r m g page io))=zhD (zdE (mended r m q need) m g page) m g page io:=by rw[h];rfl
theorem zbax {r:Host}{m g page need q:Int}{io:Bool}(h:zeM r m g page need=false):(cond (zeM r m g page need) (zhD (zdE (mended r m q need) m g page) m g page io) (zhD r m g page io))=zhD r m g page io:=by rw[h];rfl
theorem zFk {N:Nat}{r:Host}{m g page need q:Int}{io:Bool}{u7 u8 u9 u10 z1 z2 z3 z4}(A:LookAt r m g q need) :
 zk0 N m g page need io q (zez m g) u7 u8 u9 u10 r.Memory r.Mons r.Buffer r.IoBuffer z1 z2 z3 z4=some (zPP (cond (zeM r m g page need) (zhD (zdE (mended r m q need) m g page) m g page io) (zhD r m g page io))):=by
 have M:=zFs ⟨A.fit.1,rfl⟩ A.hm A.hg;have F:=zFs (A.fill page) A.hm A.hg;unfold zk0 oN nB
 conv=>zeta
 refine must (zJ M.hm) (must (zJ M.ht) (must (zbC M.hk) (shr (brN (fun a=>?_) (fun a=>br (fun b=>?_) (fun b=>must rfl (brN (fun c=>?_) (fun c=>?_))))))))
 .rw [zPv (zba3 a)];exact zUB A (zFj (r:=zdE (mended r m q need) m g page) (m:=m) (g:=g) F.hb F.hi)
 .rw [zPv (zba4 b)];exact zUB A (zFj (r:=zdE (mended r m q need) m g page) (m:=m) (g:=g) F.hb F.hi)
 .rw [zPv (zba5 c)];exact zUB A (zFj (r:=zdE (mended r m q need) m g page) (m:=m) (g:=g) F.hb F.hi)
 .rw [zbax (zba6 a b c)];exact zFj (r:=r) (m:=m) (g:=g) M.hb M.hi
theorem zZn {b:List Entry}{m g page need:Int}(h:(zrz b m g page).isSome=false):zhk b m g page need=false:=by unfold zhk;rw[h];rfl
theorem zFn {b:List Entry}{m g page need:Int}{x:Bool}(a:(zrz b m g page).isSome=true)(h:enough ((zrz b m g page).getD ⟨0,0,0,0⟩).Rights need=x):zhk b m g page need=x:=by unfold zhk;rw[a,h];rfl
theorem zFr {r:Host}{b:List Entry}{m g page need q:Int}{io:Bool}(h:zhk b m g page need=false):zhC r b m g page need q io=bif zeM r m g page need then zhD (zdE (mended r m q need) m g page) m g page io else zhD r m g page io:=by unfold zhC;rw[h];rfl
theorem zZA {r:Host}{b:List Entry}{m g page need q:Int}{io:Bool}(h:zhk b m g page need=true):zhC r b m g page need q io=(r,((zrz b m g page).getD ⟨0,0,0,0⟩).Host,true):=by unfold zhC;rw[h];rfl
theorem zVS {h:Host}{b:List Entry}{m g page need:Int}{io:Bool}(a:zb7 h m g page need=true):lookOf h b m g page need io=zhC (cond (ieq need 2) (zbI h m (zcC (zcO h m g) page need)) h) b m g page need (zcC (zcO h m g) page need) io:=by unfold lookOf;rw[a];rfl
theorem z3n {N:Nat}{r:Host}{b:List Entry}{m g page need:Int}{io:Bool}(k:SmH r)(hg:zbW r m g=true)(h:zjy need=true) :
 zr7 N m r g page need b io=some (zPP (lookOf r b m g page need io)):=by
 obtain⟨l,d,i⟩:=zdr hg;unfold zr7 oN nB
 conv=>zeta
 refine must (zJ d) (must (zJ i) (must rfl (brN (fun f=>?_) (fun f=>must rfl ?_))))
 .have:zb7 r m g page need=false:=by
   unfold zb7;rw[hg,h,show zfi (zcO r m g) page need=false from f];rfl
  rw[znp this];rfl
 .have hl:zb7 r m g page need=true:=by
   unfold zb7;rw[hg,h,show zfi (zcO r m g) page need=true from f];rfl
  obtain⟨A,B⟩:=zRg k hl;rw[zVS hl];have j:hasB (zcC (zcO r m g) page need) (ln (ix r.Mons m mZ).Dirty)=true:=zdu (zcy A.fit.1 d).2.2.2.1 A.hq;refine br (fun e=>?_) (fun e=>?_)
  .rw [e]
   show _=some (zPP (zhC (zbI r m (zcC (zcO r m g) page need)) b m g page need (zcC (zcO r m g) page need) io))
   refine must (zJ d) (must (zJ j) (shr (must rfl (shr (br (fun a=>must rfl (br (fun c=>?_) (fun c=>?_))) (fun a=>?_))))))
   .rw [zZA (zFn a c)];rfl
   .rw [zFr (zFn a c)];exact zFk (r:=zbI r m (zcC (zcO r m g) page need)) B
   .rw [zFr (zZn a)];exact zFk (r:=zbI r m (zcC (zcO r m g) page need)) B
  .rw [e]
   show _=some (zPP (zhC r b m g page need (zcC (zcO r m g) page need) io))
   refine must rfl (shr (br (fun a=>must rfl (br (fun c=>?_) (fun c=>?_))) (fun a=>?_)))
   .rw [zZA (zFn a c)];rfl
   .rw [zFr (zFn a c)];exact zFk A
   .rw [zFr (zZn a)];exact zFk A
theorem zSX (a0:Host)(e:List Entry)(a b:Int)(d c:Int)(f:Bool)(s:zb6 big [aH a0,aS .entry e,aI a,aI b,aI d,aI c,aB f])(q:zj8 a0 e a b d c f=true):∃N,zql N a0 e a b d c f=some [aH (zeZ a0 e a b d c f),aI (zj7 a0 e a b d c f),aB (zgB a0 e a b d c f)]:=by
 have i:=(zV a0).1 (zL.1 q);refine⟨0,?_⟩;show _=some (zPP (lookOf a0 e a b d c f));unfold zql oN nB;conv=>zeta
 refine must rfl (brN (fun j=>?_) (fun j=>must rfl ?_));{rw [znp (zDW (zbaq j))];rfl};rw[show zT a 0 (wsub .i64 (ln a0.Mons) 1)=hasB a (ln a0.Mons) from zqh i.2.1.1 a];refine brN (fun g=>?_) (fun g=>must (zJ g) (must rfl ?_));{rw [znp (zDW (zbar g))];rfl};have r:(ix a0.Mons a mZ).Guests.length<=1048576:=(i.2.1.2 _ (zbD g _)).2.2.2.1.1;rw[show zT b 0 (wsub .i64 (ln (ix a0.Mons a zh).Guests) 1)=hasB b (ln (ix a0.Mons a mZ).Guests) from zqh r b];refine brN (fun k=>?_) (fun k=>?_);{rw [znp (zDW (zbas k))];rfl};have hg:=zbat j g k;have m:∀{n:Int},zjy n=false->zb7 a0 a b d n=false:=fun {n} h=>(by unfold zb7;rw[hg,h];rfl);rw[znn,znn];cases l:ieq c 1;{cases p:ieq c 2;{have:zjy c=false:=(by unfold zjy;rw[l,p];rfl);rw[znp (m this)];rfl};{exact z3n i hg (by unfold zjy;rw[l,p];rfl)}};{exact z3n i hg (by unfold zjy;rw[l];rfl)}
theorem zL3:zdR Tryz.prog 254 [true,true,true,true,false,false,false,false,false,false] (some (1,1,[[0],[1],[2],[4],[7]])) zsu:=by refine zN2 (kt:=.mon) (zf2 zhV zB zcf zP0) (ziZ (by kernel_rfl)) ?_;intro p s x f i w v h;have t:=zih v;have g:p=[(4,2)]\/p=[(4,3)]:=(by rw[show zhs 254=[[(4,2)],[(4,3)]] from by kernel_rfl]at f;simpa using f);unfold zsu at h;split at h;{rename_i a b c d r j k l m n;obtain⟨u,rfl⟩:=zdW h;obtain⟨N,q⟩:=zSX (⟨a,b,c,d⟩:Host) r j k l m n t u;refine⟨⟨_,rfl⟩,rfl,zsI,N,12,?_⟩;rcases g with rfl|rfl;{have e:=i 4 2 (by simp);simp only[zA,j7,AV.cvs] at e;cases e;exact(zPH N (⟨a,b,c,d⟩:Host) j k l m n).trans q};{have e:=i 4 3 (by simp);simp only[zA,j7,AV.cvs] at e;cases e;exact(zPI N (⟨a,b,c,d⟩:Host) j k l m n).trans q}};{cases h}
def z7r:zfs:=[(254,([true,true,true,true,false,false,false,false,false,false],(some (1,1,[[0],[1],[2],[4],[7]])),zsu))]++z2h
theorem ziN:zea z7r:=zqg zP0 (by
 intro x a;simp only[qG,qO,or_false]at a;rcases a with rfl
 .exact zL3)
def gOf (h:Host)(m g:Int):Guest:=ix (ix h.Mons m mZ).Guests g gZ
def zkJ (h:Host)(m g:Int)(x:Guest):Host:={h with Mons:=up h.Mons m {ix h.Mons m mZ with Guests:=up (ix h.Mons m mZ).Guests g x}}
def zmy (h:Host)(m g:Int)(x:Guest)(w:Bool):Host×Int×Bool:=lookOf h h.Buffer m g (zbi (address x)) (zcc w) false
def zjt (L:Host×Int×Bool)(m g:Int)(x:Guest)(w:Bool):Host :=
 bif L.2.2 then (cond w (zkJ {L.1 with Memory:=zbK L.1.Memory L.2.1 (zdc (address x)) x.A} m g (zcb x)) (zkJ L.1 m g (loaded x (cellAt L.1.Memory L.2.1 (zdc (address x))))))
 else zkJ L.1 m g (stopped x (zrx (zbi (address x)) w))
def owned (h:Host)(m:Int):Host:=bif ilt (ix h.Mons m mZ).Own 1000000000 then {h with Mons:=up h.Mons m {ix h.Mons m mZ with Own:=zM .i64 (ix h.Mons m mZ).Own 1}} else h
def zoa (h:Host)(m n:Int):Host:=bif ilt (ln (ix h.Mons m mZ).Outs) 40 then {h with Mons:=up h.Mons m {ix h.Mons m mZ with Outs:=ap (ix h.Mons m mZ).Outs [n]}} else h
def zf9 (h:Host)(m:Int)(x:Guest)(w:Int):Host:=bif (cond (ine w 6) (ieq (zAp (ix h.Mons m mZ).Traps x.Ctl.Traps (zzk w)) 2) false) then owned h m else h
def zf8 (h:Host)(m:Int)(x:Guest)(w:Int):Host:=bif (cond (zkf x.Ctl.Traps w) (ieq w 5) false) then zoa h m (zcs x.Prog x.Pc).X else h
def zwS (h:Host)(m g:Int)(x:Guest)(w:Int):Host:=zkJ (zf8 (zf9 h m x w) m x w) m g (zju x x.Ctl.Traps w)
def zWX (h:Host)(m g:Int)(x:Guest)(w:Int):Host×Bool :=
 bif ieq w 0 then (h,false) else (bif ieq w 1 then (zkJ h m g (interrupted x),true) else (bif ieq w 2 then (zkJ h m g (plainly x),true) else
  (cond (cond (ieq w 3) true (ieq w 4)) (zjt (zmy h m g x (ieq w 4)) m g x (ieq w 4),true) (zwS h m g x w,true))))
def zbE (h:Host)(m g:Int):Host×Bool:=bif zbW h m g then zWX h m g (gOf h m g) (zbc (gOf h m g)) else (h,false)
def zfv (x:Host×Bool):List AV:=[.agg (zbl x.1),.one (.b x.2)]
theorem zpg {h:Host}{m g:Int}(b:SmH h)(a:hasB m (ln h.Mons)=true)(hg:hasB g (ln (ix h.Mons m mZ).Guests)=true):SmG (gOf h m g):=(b.2.1.2 _ (zbD a _)).2.2.2.1.2 _ (zbD hg _)
theorem z1Z {h:Host}{m g:Int}{x:Guest}(c:Shape h)(d:hasB m (ln h.Mons)=true)(e:SmG x):Shape (zkJ h m g x):=by obtain⟨a,b⟩:=zcy c d;exact zib c ⟨a.1,a.2.1,a.2.2.1,zFE a.2.2.2.1 e,a.2.2.2.2⟩ ⟨b.1,b.2.1,b.2.2.1,by simpa using b.2.2.2⟩
theorem zMA {h:Host}{m:Int}(b:hasB m (ln h.Mons)=true)(x:Mon):ix (up h.Mons m x) m mZ=x:=by obtain⟨k,rfl,a⟩:=zds (n:=h.Mons.length) b;exact zdq a _ _
@[simp] abbrev zem (h:Host)(m g:Int):Bool:=pc (zci h)
@[simp] abbrev zEK (h:Host)(m g:Int):Host:=(zbE h m g).1
@[simp] abbrev zEL (h:Host)(m g:Int):Bool:=(zbE h m g).2
theorem z8S {a:Type}{l:List a}{x:a}(h:ilt (ln l) 40=true):few (ln (ap l [x]))=true:=by have:=qE h;simp only[ln] at this;exact zgi (by simp[ap];omega)
theorem zZ1 {h:Host}{m:Int}{x:Guest}{w:Int}(a:(cond (zkf x.Ctl.Traps w) (ieq w 5) false)=false):zf8 h m x w=h:=by unfold zf8;rw[a];rfl
theorem zRL {h:Host}{m:Int}{x:Guest}{w:Int}(a:ilt (ln (ix h.Mons m mZ).Outs) 40=false):zf8 h m x w=h:=by unfold zf8 zoa;rw[a];cases (cond (zkf x.Ctl.Traps w) (ieq w 5) false)<;>rfl
theorem zW5 {h:Host}{m:Int}{x:Guest}{w:Int}(a:zkf x.Ctl.Traps w=true)(b:ieq w 5=true)(c:ilt (ln (ix h.Mons m mZ).Outs) 40=true):zf8 h m x w={h with Mons:=up h.Mons m {ix h.Mons m mZ with Outs:=ap (ix h.Mons m mZ).Outs [(zcs x.Prog x.Pc).X]}}:=by unfold zf8 zoa;rw[a,b,c];rfl
theorem z4X {h:Host}{m:Int}{x:Guest}{w:Int}(a:zkf x.Ctl.Traps w=false):zf8 h m x w=h:=zZ1 (by rw[a];rfl)
theorem zNr {h:Host}{m:Int}{x:Guest}{w:Int}(a:ieq w 5=false):zf8 h m x w=h:=zZ1 (by rw[a];cases zkf x.Ctl.Traps w<;>rfl)
theorem z3D (a:Int):(cond (ieq a a) true false)=true:=by rw[zcI];rfl
theorem zlK {h:Host}{m g:Int}(a:zbW h m g=false):zbE h m g=(h,false):=by unfold zbE;rw[a];rfl
theorem zjr {h:Host}{m g:Int}(a:zbW h m g=true):zbE h m g=zWX h m g (gOf h m g) (zbc (gOf h m g)):=by unfold zbE;rw[a];rfl
theorem zlN {a b:Bool}(h:(cond a b false)=true):a=true/\b=true:=by cases a;{cases h};{exact⟨rfl,h⟩}
theorem zid {a b:Bool}(c:a=true)(d:b=true):(cond a b false)=true:=by rw[c];exact d
theorem zZ4 {h:Host}{m:Int}{x:Guest}{w:Int}(b:ine w 6=true)(a:ieq (zAp (ix h.Mons m mZ).Traps x.Ctl.Traps (zzk w)) 2=true)(c:ilt (ix h.Mons m mZ).Own 1000000000=true):zf9 h m x w={h with Mons:=up h.Mons m {ix h.Mons m mZ with Own:=zM .i64 (ix h.Mons m mZ).Own 1}}:=by unfold zf9 owned;rw[b,a,c];rfl
theorem zZ2 {h:Host}{m:Int}{x:Guest}{w:Int}(a:ieq (zAp (ix h.Mons m mZ).Traps x.Ctl.Traps (zzk w)) 2=false):zf9 h m x w=h:=by unfold zf9;rw[a];cases ine w 6<;>rfl
theorem zZ3 {h:Host}{m:Int}{x:Guest}{w:Int}(a:ilt (ix h.Mons m mZ).Own 1000000000=false):zf9 h m x w=h:=by unfold zf9 owned;rw[a];cases (cond (ine w 6) (ieq (zAp (ix h.Mons m mZ).Traps x.Ctl.Traps (zzk w)) 2) false)<;>rfl
theorem zba8 {h:Host}{m:Int}{x:Guest}:zf9 h m x 6=h:=rfl
theorem zne {h a:Host}{m g:Int}{x:Guest}{w:Int}(e:zf9 h m x w=a):zwS h m g x w=zkJ (zf8 a m x w) m g (zju x x.Ctl.Traps w):=by unfold zwS;rw[e]
theorem z7t (x:Guest):ieq (zbc x) 0=true\/ieq (zbc x) 1=true\/ieq (zbc x) 2=true\/ieq (zbc x) 3=true\/ieq (zbc x) 4=true\/ieq (zbc x) 5=true\/ieq (zbc x) 6=true\/ieq (zbc x) 7=true:=by cases a:ieq (zbc x) 0;{cases b:ieq (zbc x) 1;{cases c:ieq (zbc x) 2;{cases d:ieq (zbc x) 3;{cases e:ieq (zbc x) 4;{cases f:ieq (zbc x) 5;{cases g:ieq (zbc x) 6;{exact .inr (.inr (.inr (.inr (.inr (.inr (.inr (zbcC x a b c d e f g)))))))};{exact .inr (.inr (.inr (.inr (.inr (.inr (.inl rfl))))))}};{exact .inr (.inr (.inr (.inr (.inr (.inl rfl)))))}};{exact .inr (.inr (.inr (.inr (.inl rfl))))}};{exact .inr (.inr (.inr (.inl rfl)))}};{exact .inr (.inr (.inl rfl))}};{exact .inr (.inl rfl)}};{exact .inl rfl}
abbrev zB5 (x:Guest):Bool:=bif zex x then ieq (zbc x) 0 else false
def zoi:List AV->Option (Bool×List AV)
 |[.agg [.s .ins c,.i .i64 d,.i .i64 e,.s .slot f,.s .slot g,.i .i64 h,.i .i64 j,.b k,.i .i64 l,.i .i64 m,.i .i64 n,.b o,.i .i64 p,.b q,.s .int r]]=>some ((zB5 (⟨c,d,e,f,g,⟨h,j,k⟩,l,⟨m,n,o,p⟩,q,r⟩:Guest)),[.one (.i .i64 0)])
 |_=>none
theorem zF3:vM 234 zoi:=by refine⟨zck.1,fun w b g j a h=>?_⟩;unfold zoi at h;split at h;{obtain⟨f,rfl⟩:=zdW h;obtain⟨d,e⟩:=zlN f;exact zck.2 w _ g _ a (congr (congrArg (fun c v=>some (c,[AV.one (CV.i .i64 v)])) d) (qE e))};{cases h}
def z9Y:zW:=[(234,zoi)]++zmu
theorem z0u:zK z9Y:=zi zF3 zhV
@[simp] abbrev zwm (h:Host)(m g:Int):Bool:=bif zem h m g then ieq (zbc (gOf h m g)) 0 else false
@[simp] abbrev zwk (h:Host)(m g:Int):Host:=(zbE h m g).1
@[simp] abbrev zwl (h:Host)(m g:Int):Bool:=(zbE h m g).2
def zGs:Run:=rF3 dH dI dI fun b c d=>(zwm b c d,[aH (zwk b c d),aB (zwl b c d)])
def zu7 (N:Nat)(a0:Host)(b c:Int):OA:=
 let a:=(zo a0);let d:=(ix a.Mons b zh).Guests; (oN (zbP a0) (oN (zgC a b c) (cond (nB (ziK a b c)) (some [(aH a),(aB false)]) (oN (inb b (ln a.Mons)) (oN (inb c (ln d)) (oN (zB5 (ix d c zC)) (some [(aH a),(aB false)])))))))
abbrev zB6 (x:Guest):Bool:=bif zex x then ieq (zbc x) 1 else false
def zoj:List AV->Option (Bool×List AV)
 |[.agg [.s .ins c,.i .i64 d,.i .i64 e,.s .slot f,.s .slot g,.i .i64 h,.i .i64 j,.b k,.i .i64 l,.i .i64 m,.i .i64 n,.b o,.i .i64 p,.b q,.s .int r]]=>some ((zB6 (⟨c,d,e,f,g,⟨h,j,k⟩,l,⟨m,n,o,p⟩,q,r⟩:Guest)),[.one (.i .i64 1)])
 |_=>none
theorem zF4:vM 234 zoj:=by refine⟨zck.1,fun w b g j a h=>?_⟩;unfold zoj at h;split at h;{obtain⟨f,rfl⟩:=zdW h;obtain⟨d,e⟩:=zlN f;exact zck.2 w _ g _ a (congr (congrArg (fun c v=>some (c,[AV.one (CV.i .i64 v)])) d) (qE e))};{cases h}
def z9Z:zW:=[(234,zoj)]++zmu
theorem z0v:zK z9Z:=zi zF4 zhV
@[simp] abbrev zwp (h:Host)(m g:Int):Bool:=bif zem h m g then ieq (zbc (gOf h m g)) 1 else false
@[simp] abbrev zwn (h:Host)(m g:Int):Host:=(zbE h m g).1
@[simp] abbrev zwo (h:Host)(m g:Int):Bool:=(zbE h m g).2
def zGt:Run:=rF3 dH dI dI fun b c d=>(zwp b c d,[aH (zwn b c d),aB (zwo b c d)])
def zu8 (N:Nat)(a0:Host)(b c:Int):OA:=
 let a:=(zo a0);let d:=(ix a.Mons b zh);let e:=(ix d.Guests c zC); (oN (zbP a0) (oN (zgC a b c) (cond (nB (ziK a b c)) (some [(aH a),(aB false)]) (oN (inb b (ln a.Mons)) (oN (inb c (ln d.Guests)) (oN (zB6 e) (oN (inb b (ln a.Mons)) (oN (zoE e) (oN (inb c (ln d.Guests)) (share (up a.Mons b ({d with Guests:=(up d.Guests c (zjC e))}:Mon)) (fun f=>(some [(aH ({a with Mons:=f}:Host)),(aB true)]))))))))))))
abbrev zB7 (x:Guest):Bool:=bif zex x then ieq (zbc x) 2 else false
def zok:List AV->Option (Bool×List AV)
 |[.agg [.s .ins c,.i .i64 d,.i .i64 e,.s .slot f,.s .slot g,.i .i64 h,.i .i64 j,.b k,.i .i64 l,.i .i64 m,.i .i64 n,.b o,.i .i64 p,.b q,.s .int r]]=>some ((zB7 (⟨c,d,e,f,g,⟨h,j,k⟩,l,⟨m,n,o,p⟩,q,r⟩:Guest)),[.one (.i .i64 2)])
 |_=>none
theorem zF5:vM 234 zok:=by refine⟨zck.1,fun w b g j a h=>?_⟩;unfold zok at h;split at h;{obtain⟨f,rfl⟩:=zdW h;obtain⟨d,e⟩:=zlN f;exact zck.2 w _ g _ a (congr (congrArg (fun c v=>some (c,[AV.one (CV.i .i64 v)])) d) (qE e))};{cases h}
def z90:zW:=[(234,zok)]++zmu
theorem z0w:zK z90:=zi zF5 zhV
@[simp] abbrev zwt (h:Host)(m g:Int):Bool:=bif zem h m g then ieq (zbc (gOf h m g)) 2 else false
@[simp] abbrev zwq (h:Host)(m g:Int):Host:=(zbE h m g).1
@[simp] abbrev zwr (h:Host)(m g:Int):Bool:=(zbE h m g).2
def zGu:Run:=rF3 dH dI dI fun b c d=>(zwt b c d,[aH (zwq b c d),aB (zwr b c d)])
def zu9 (N:Nat)(a0:Host)(b c:Int):OA:=
 let a:=(zo a0);let d:=(ix a.Mons b zh);let e:=(ix d.Guests c zC); (oN (zbP a0) (oN (zgC a b c) (cond (nB (ziK a b c)) (some [(aH a),(aB false)]) (oN (inb b (ln a.Mons)) (oN (inb c (ln d.Guests)) (oN (zB7 e) (oN (inb b (ln a.Mons)) (oN (zxt e) (oN (inb c (ln d.Guests)) (share (up a.Mons b ({d with Guests:=(up d.Guests c (zrV e))}:Mon)) (fun f=>(some [(aH ({a with Mons:=f}:Host)),(aB true)]))))))))))))
abbrev zB8 (x:Guest):Bool:=bif zex x then ieq (zbc x) 3 else false
def zol:List AV->Option (Bool×List AV)
 |[.agg [.s .ins c,.i .i64 d,.i .i64 e,.s .slot f,.s .slot g,.i .i64 h,.i .i64 j,.b k,.i .i64 l,.i .i64 m,.i .i64 n,.b o,.i .i64 p,.b q,.s .int r]]=>some ((zB8 (⟨c,d,e,f,g,⟨h,j,k⟩,l,⟨m,n,o,p⟩,q,r⟩:Guest)),[.one (.i .i64 3)])
 |_=>none
theorem zF6:vM 234 zol:=by refine⟨zck.1,fun w b g j a h=>?_⟩;unfold zol at h;split at h;{obtain⟨f,rfl⟩:=zdW h;obtain⟨d,e⟩:=zlN f;exact zck.2 w _ g _ a (congr (congrArg (fun c v=>some (c,[AV.one (CV.i .i64 v)])) d) (qE e))};{cases h}
def z92:zW:=[(234,zol)]++zmu
theorem z0x:zK z92:=zi zF6 zhV
@[simp] abbrev zww (h:Host)(m g:Int):Bool:=bif zem h m g then ieq (zbc (gOf h m g)) 3 else false
@[simp] abbrev zwu (h:Host)(m g:Int):Host:=(zbE h m g).1
@[simp] abbrev zwv (h:Host)(m g:Int):Bool:=(zbE h m g).2
def zGv:Run:=rF3 dH dI dI fun b c d=>(zww b c d,[aH (zwu b c d),aB (zwv b c d)])
def zva (N:Nat)(a0:Host)(a b:Int):OA:=
 let c:=(zo a0);let m:=(ix c.Mons a zh).Guests;let h:=(ix m b zC);let f:=(ziQ h);let g:=(zcQ f);let l:=(zj7 c c.Buffer a b g (zfa false) false);let d:=(zeZ c c.Buffer a b g (zfa false) false);let e:=(ix d.Mons a zh);let j:=(ix e.Guests b zC);let i:=({h with Prog:=j.Prog,Written:=j.Written,Live:=j.Live,Seen:=j.Seen}:Guest); (oN (zbP a0) (oN (zgC c a b) (cond (nB (ziK c a b)) (some [(aH c),(aB false)]) (oN (inb a (ln c.Mons)) (oN (inb b (ln m)) (oN (zB8 h) (oN (zqI h) (oN (zfW f) (oN (ztc false) (oN (zj8 c c.Buffer a b g (zfa false) false) (cond (nB (zgB c c.Buffer a b g (zfa false) false)) (oN (inb a (ln d.Mons)) (oN (zfW f) (oN (zjA g false) (oN (zd0 i (zeU g false)) (oN (inb b (ln e.Guests)) (share (up d.Mons a ({e with Guests:=(up e.Guests b (zdB i (zeU g false)))}:Mon)) (fun k=>(some [(aH ({d with Mons:=k}:Host)),(aB true)])))))))) (oN (inb a (ln d.Mons)) (oN (ziy f) (oN (zta d.Memory l (zd6 f)) (oN (zAz i (zm1 d.Memory l (zd6 f))) (oN (inb b (ln e.Guests)) (share (up d.Mons a ({e with Guests:=(up e.Guests b (zuM i (zm1 d.Memory l (zd6 f))))}:Mon)) (fun k=>(some [(aH ({d with Mons:=k}:Host)),(aB true)])))))))))))))))))))
abbrev zB9 (x:Guest):Bool:=bif zex x then ieq (zbc x) 4 else false
def zom:List AV->Option (Bool×List AV)
 |[.agg [.s .ins c,.i .i64 d,.i .i64 e,.s .slot f,.s .slot g,.i .i64 h,.i .i64 j,.b k,.i .i64 l,.i .i64 m,.i .i64 n,.b o,.i .i64 p,.b q,.s .int r]]=>some ((zB9 (⟨c,d,e,f,g,⟨h,j,k⟩,l,⟨m,n,o,p⟩,q,r⟩:Guest)),[.one (.i .i64 4)])
 |_=>none
theorem zF7:vM 234 zom:=by refine⟨zck.1,fun w b g j a h=>?_⟩;unfold zom at h;split at h;{obtain⟨f,rfl⟩:=zdW h;obtain⟨d,e⟩:=zlN f;exact zck.2 w _ g _ a (congr (congrArg (fun c v=>some (c,[AV.one (CV.i .i64 v)])) d) (qE e))};{cases h}
def z94:zW:=[(234,zom)]++zmu
theorem z0y:zK z94:=zi zF7 zhV
@[simp] abbrev zwz (h:Host)(m g:Int):Bool:=bif zem h m g then ieq (zbc (gOf h m g)) 4 else false
@[simp] abbrev zwx (h:Host)(m g:Int):Host:=(zbE h m g).1
@[simp] abbrev zwy (h:Host)(m g:Int):Bool:=(zbE h m g).2
def zGw:Run:=rF3 dH dI dI fun b c d=>(zwz b c d,[aH (zwx b c d),aB (zwy b c d)])
def zvb (N:Nat)(a0:Host)(a b:Int):OA:=
 let c:=(zo a0);let m:=(ix c.Mons a zh).Guests;let g:=(ix m b zC);let h:=(ziQ g);let f:=(zcQ h);let l:=(zj7 c c.Buffer a b f (zfa true) false);let d:=(zeZ c c.Buffer a b f (zfa true) false);let e:=(ix d.Mons a zh);let j:=(ix e.Guests b zC);let i:=({g with Prog:=j.Prog,Written:=j.Written,Live:=j.Live,Seen:=j.Seen}:Guest); (oN (zbP a0) (oN (zgC c a b) (cond (nB (ziK c a b)) (some [(aH c),(aB false)]) (oN (inb a (ln c.Mons)) (oN (inb b (ln m)) (oN (zB9 g) (oN (zqI g) (oN (zfW h) (oN (ztc true) (oN (zj8 c c.Buffer a b f (zfa true) false) (cond (nB (zgB c c.Buffer a b f (zfa true) false)) (oN (inb a (ln d.Mons)) (oN (zfW h) (oN (zjA f true) (oN (zd0 i (zeU f true)) (oN (inb b (ln e.Guests)) (share (up d.Mons a ({e with Guests:=(up e.Guests b (zdB i (zeU f true)))}:Mon)) (fun k=>(some [(aH ({d with Mons:=k}:Host)),(aB true)])))))))) (oN (ziy h) (oN (ziE d.Memory l (zd6 h) g.A) (oN (inb a (ln d.Mons)) (oN (zAE i) (oN (inb b (ln e.Guests)) (share (up d.Mons a ({e with Guests:=(up e.Guests b (zuQ i))}:Mon)) (fun k=>(some [(aH ({d with Memory:=(zjh d.Memory l (zd6 h) g.A),Mons:=k}:Host)),(aB true)])))))))))))))))))))
abbrev zCa (x:Guest):Bool:=bif zex x then ieq (zbc x) 5 else false
def zon:List AV->Option (Bool×List AV)
 |[.agg [.s .ins c,.i .i64 d,.i .i64 e,.s .slot f,.s .slot g,.i .i64 h,.i .i64 j,.b k,.i .i64 l,.i .i64 m,.i .i64 n,.b o,.i .i64 p,.b q,.s .int r]]=>some ((zCa (⟨c,d,e,f,g,⟨h,j,k⟩,l,⟨m,n,o,p⟩,q,r⟩:Guest)),[.one (.i .i64 5)])
 |_=>none
theorem zF8:vM 234 zon:=by refine⟨zck.1,fun w b g j a h=>?_⟩;unfold zon at h;split at h;{obtain⟨f,rfl⟩:=zdW h;obtain⟨d,e⟩:=zlN f;exact zck.2 w _ g _ a (congr (congrArg (fun c v=>some (c,[AV.one (CV.i .i64 v)])) d) (qE e))};{cases h}
def z95:zW:=[(234,zon)]++zmu
theorem z0z:zK z95:=zi zF8 zhV
@[simp] abbrev zwC (h:Host)(m g:Int):Bool:=bif zem h m g then ieq (zbc (gOf h m g)) 5 else false
@[simp] abbrev zwA (h:Host)(m g:Int):Host:=(zbE h m g).1
@[simp] abbrev zwB (h:Host)(m g:Int):Bool:=(zbE h m g).2
def zGx:Run:=rF3 dH dI dI fun b c d=>(zwC b c d,[aH (zwA b c d),aB (zwB b c d)])
def zvc (N:Nat)(a0:Host)(a e:Int):OA:=
 let d:=(zo a0);let f:=(inb a (ln d.Mons));let g:=(ix d.Mons a zh);let j:=(inb e (ln g.Guests));let c:=(ix g.Guests e zC);let w:=(ap g.Outs [(zfz c.Prog c.Pc).X]);let s:=(up d.Mons a ({g with Outs:=w}:Mon));let h:=c.Ctl.Traps;let v:=(up d.Mons a ({g with Guests:=(up g.Guests e (zch c h 5))}:Mon)); (oN (zbP a0) (oN (zgC d a e) (cond (nB (ziK d a e)) (some [(aH d),(aB false)]) (oN f (oN j (oN (zCa c) (oN f (oN (zq1 g.Traps h 1) (cond (ieq (znv g.Traps h 1) 2) (oN f (cond (ilt g.Own 1000000000) (oN f (oN f (share (up d.Mons a ({g with Own:=(zM .i64 g.Own 1)}:Mon)) (fun b=>let k:=(inb a (ln b));let l:=(ix b a zh);let q:=(ix l.Guests e zC);let t:=(ap l.Outs [(zfz q.Prog c.Pc).X]);let u:=({c with Prog:=q.Prog,Written:=q.Written,Live:=q.Live,Seen:=q.Seen}:Guest);let r:=(up b a ({l with Guests:=(up l.Guests e (zch u h 5))}:Mon)); (oN (zdM u h 5) (cond (zdk u h 5) (oN k (cond (ilt (ln l.Outs) 40) (oN k (oN (zfp q.Prog c.Pc) (oN (few (ln t)) (oN k (oN (cond (ieq a a) true false) (share (up b a ({l with Outs:=t}:Mon)) (fun i=>let m:=(ix i a zh); (oN (inb a (ln i)) (oN (inb e (ln m.Guests)) (share (up i a ({m with Guests:=(up m.Guests e (zch u h 5))}:Mon)) (fun x=>(some [(aH ({d with Mons:=x}:Host)),(aB true)])))))))))))) (oN k (oN (inb e (ln l.Guests)) (share r (fun i=>(some [(aH ({d with Mons:=i}:Host)),(aB true)]))))))) (oN k (oN (inb e (ln l.Guests)) (share r (fun i=>(some [(aH ({d with Mons:=i}:Host)),(aB true)]))))))))))) (oN (zdM c h 5) (cond (zdk c h 5) (oN f (cond (ilt (ln g.Outs) 40) (oN f (oN (zfp c.Prog c.Pc) (oN (few (ln w)) (oN f (oN (cond (ieq a a) true false) (share s (fun b=>let n:=(ix b a zh); (oN (inb a (ln b)) (oN (inb e (ln n.Guests)) (share (up b a ({n with Guests:=(up n.Guests e (zch c h 5))}:Mon)) (fun i=>(some [(aH ({d with Mons:=i}:Host)),(aB true)])))))))))))) (oN f (oN j (share v (fun b=>(some [(aH ({d with Mons:=b}:Host)),(aB true)]))))))) (oN f (oN j (share v (fun b=>(some [(aH ({d with Mons:=b}:Host)),(aB true)]))))))))) (oN (zdM c h 5) (cond (zdk c h 5) (oN f (cond (ilt (ln g.Outs) 40) (oN f (oN (zfp c.Prog c.Pc) (oN (few (ln w)) (oN f (oN (cond (ieq a a) true false) (share s (fun b=>let p:=(ix b a zh); (oN (inb a (ln b)) (oN (inb e (ln p.Guests)) (share (up b a ({p with Guests:=(up p.Guests e (zch c h 5))}:Mon)) (fun i=>(some [(aH ({d with Mons:=i}:Host)),(aB true)])))))))))))) (oN f (oN j (share v (fun b=>(some [(aH ({d with Mons:=b}:Host)),(aB true)]))))))) (oN f (oN j (share v (fun b=>(some [(aH ({d with Mons:=b}:Host)),(aB true)]))))))))))))))))
abbrev zCb (x:Guest):Bool:=bif zex x then ieq (zbc x) 6 else false
def zoo:List AV->Option (Bool×List AV)
 |[.agg [.s .ins c,.i .i64 d,.i .i64 e,.s .slot f,.s .slot g,.i .i64 h,.i .i64 j,.b k,.i .i64 l,.i .i64 m,.i .i64 n,.b o,.i .i64 p,.b q,.s .int r]]=>some ((zCb (⟨c,d,e,f,g,⟨h,j,k⟩,l,⟨m,n,o,p⟩,q,r⟩:Guest)),[.one (.i .i64 6)])
 |_=>none
theorem zF9:vM 234 zoo:=by refine⟨zck.1,fun w b g j a h=>?_⟩;unfold zoo at h;split at h;{obtain⟨f,rfl⟩:=zdW h;obtain⟨d,e⟩:=zlN f;exact zck.2 w _ g _ a (congr (congrArg (fun c v=>some (c,[AV.one (CV.i .i64 v)])) d) (qE e))};{cases h}
def z96:zW:=[(234,zoo)]++zmu
theorem z0A:zK z96:=zi zF9 zhV
@[simp] abbrev zwF (h:Host)(m g:Int):Bool:=bif zem h m g then ieq (zbc (gOf h m g)) 6 else false
@[simp] abbrev zwD (h:Host)(m g:Int):Host:=(zbE h m g).1
@[simp] abbrev zwE (h:Host)(m g:Int):Bool:=(zbE h m g).2
def zGy:Run:=rF3 dH dI dI fun b c d=>(zwF b c d,[aH (zwD b c d),aB (zwE b c d)])
def zvd (N:Nat)(a0:Host)(c d:Int):OA:=
 let a:=(zo a0);let g:=(inb c (ln a.Mons));let e:=(ix a.Mons c zh);let h:=(inb d (ln e.Guests));let b:=(ix e.Guests d zC);let i:=(up a.Mons c ({e with Guests:=(up e.Guests d (zch b b.Ctl.Traps 6))}:Mon)); (oN (zbP a0) (oN (zgC a c d) (cond (nB (ziK a c d)) (some [(aH a),(aB false)]) (oN g (oN h (oN (zCb b) (oN (zdM b b.Ctl.Traps 6) (cond (zdk b b.Ctl.Traps 6) (oN g (oN h (share i (fun f=>(some [(aH ({a with Mons:=f}:Host)),(aB true)]))))) (oN g (oN h (share i (fun f=>(some [(aH ({a with Mons:=f}:Host)),(aB true)])))))))))))))
abbrev zCc (x:Guest):Bool:=bif zex x then ieq (zbc x) 7 else false
def zop:List AV->Option (Bool×List AV)
 |[.agg [.s .ins c,.i .i64 d,.i .i64 e,.s .slot f,.s .slot g,.i .i64 h,.i .i64 j,.b k,.i .i64 l,.i .i64 m,.i .i64 n,.b o,.i .i64 p,.b q,.s .int r]]=>some ((zCc (⟨c,d,e,f,g,⟨h,j,k⟩,l,⟨m,n,o,p⟩,q,r⟩:Guest)),[.one (.i .i64 7)])
 |_=>none
theorem zGa:vM 234 zop:=by refine⟨zck.1,fun w b g j a h=>?_⟩;unfold zop at h;split at h;{obtain⟨f,rfl⟩:=zdW h;obtain⟨d,e⟩:=zlN f;exact zck.2 w _ g _ a (congr (congrArg (fun c v=>some (c,[AV.one (CV.i .i64 v)])) d) (qE e))};{cases h}
def z97:zW:=[(234,zop)]++zmu
theorem z0B:zK z97:=zi zGa zhV
@[simp] abbrev zwI (h:Host)(m g:Int):Bool:=bif zem h m g then ieq (zbc (gOf h m g)) 7 else false
@[simp] abbrev zwG (h:Host)(m g:Int):Host:=(zbE h m g).1
@[simp] abbrev zwH (h:Host)(m g:Int):Bool:=(zbE h m g).2
def zGz:Run:=rF3 dH dI dI fun b c d=>(zwI b c d,[aH (zwG b c d),aB (zwH b c d)])
def zve (N:Nat)(a0:Host)(c e:Int):OA:=
 let a:=(zo a0);let g:=(inb c (ln a.Mons));let f:=(ix a.Mons c zh);let k:=(inb e (ln f.Guests));let h:=(ix f.Guests e zC);let d:=h.Ctl.Traps;let l:=(up a.Mons c ({f with Guests:=(up f.Guests e (zch h d 7))}:Mon)); (oN (zbP a0) (oN (zgC a c e) (cond (nB (ziK a c e)) (some [(aH a),(aB false)]) (oN g (oN k (oN (zCc h) (oN g (oN (zq1 f.Traps d 2) (cond (ieq (znv f.Traps d 2) 2) (oN g (cond (ilt f.Own 1000000000) (oN g (oN g (share (up a.Mons c ({f with Own:=(zM .i64 f.Own 1)}:Mon)) (fun b=>let j:=(ix b c zh);let m:=(ix j.Guests e zC);let p:=({h with Prog:=m.Prog,Written:=m.Written,Live:=m.Live,Seen:=m.Seen}:Guest);let i:=(up b c ({j with Guests:=(up j.Guests e (zch p d 7))}:Mon)); (oN (zdM p d 7) (cond (zdk p d 7) (oN (inb c (ln b)) (oN (inb e (ln j.Guests)) (share i (fun n=>(some [(aH ({a with Mons:=n}:Host)),(aB true)]))))) (oN (inb c (ln b)) (oN (inb e (ln j.Guests)) (share i (fun n=>(some [(aH ({a with Mons:=n}:Host)),(aB true)]))))))))))) (oN (zdM h d 7) (cond (zdk h d 7) (oN g (oN k (share l (fun b=>(some [(aH ({a with Mons:=b}:Host)),(aB true)]))))) (oN g (oN k (share l (fun b=>(some [(aH ({a with Mons:=b}:Host)),(aB true)]))))))))) (oN (zdM h d 7) (cond (zdk h d 7) (oN g (oN k (share l (fun b=>(some [(aH ({a with Mons:=b}:Host)),(aB true)]))))) (oN g (oN k (share l (fun b=>(some [(aH ({a with Mons:=b}:Host)),(aB true)]))))))))))))))))
theorem zGi (a0:Host)(a b:Int)(d:zwm a0 a b=true):∃N,zu7 N a0 a b=some [aH (zwk a0 a b),aB (zwl a0 a b)]:=by
 obtain⟨d,h⟩:=zlN d;have e:=(zV a0).1 (zL.1 d);refine⟨0,?_⟩;show _=some (zfv (zbE a0 a b));unfold zu7 oN nB;conv=>zeta
 refine must (zbC ((zV _).2 e)) (must (zbC ((zV _).2 e)) (brN (fun c=>?_) (fun c=>?_)));{rw [zlK c];rfl};obtain⟨j,f,g⟩:=zdr c;have k:=zpg e f g;have i:zbc (gOf a0 a b)=0:=qE h;rw[zjr c,i];refine must (zJ f) (must (zJ g) (must (zid rfl h) ?_));rfl
theorem zpm:vM 156 zGs:=kF3 z0u zB zcf ziN (zq []) zGi
theorem zGj (a0:Host)(a b:Int)(f:zwp a0 a b=true):∃N,zu8 N a0 a b=some [aH (zwn a0 a b),aB (zwo a0 a b)]:=by
 obtain⟨f,h⟩:=zlN f;have g:=(zV a0).1 (zL.1 f);refine⟨0,?_⟩;show _=some (zfv (zbE a0 a b));unfold zu8 oN nB;conv=>zeta
 refine must (zbC ((zV _).2 g)) (must (zbC ((zV _).2 g)) (brN (fun c=>?_) (fun c=>?_)));{rw [zlK c];rfl};obtain⟨k,d,e⟩:=zdr c;have j:=zpg g d e;have i:zbc (gOf a0 a b)=1:=qE h;rw[zjr c,i];refine must (zJ d) (must (zJ e) (must (zid rfl h) ?_));show _=some (zfv (zkJ a0 a b (interrupted (gOf a0 a b)),true));exact must (zJ d) (must (zbC j) (must (zJ e) rfl))
theorem zCj:vM 156 zGt:=kF3 z0v zB zcf ziN (zq []) zGj
theorem zGk (a0:Host)(a b:Int)(f:zwt a0 a b=true):∃N,zu9 N a0 a b=some [aH (zwq a0 a b),aB (zwr a0 a b)]:=by
 obtain⟨f,h⟩:=zlN f;have g:=(zV a0).1 (zL.1 f);refine⟨0,?_⟩;show _=some (zfv (zbE a0 a b));unfold zu9 oN nB;conv=>zeta
 refine must (zbC ((zV _).2 g)) (must (zbC ((zV _).2 g)) (brN (fun c=>?_) (fun c=>?_)));{rw [zlK c];rfl};obtain⟨k,d,e⟩:=zdr c;have j:=zpg g d e;have i:zbc (gOf a0 a b)=2:=qE h;rw[zjr c,i];refine must (zJ d) (must (zJ e) (must (zid rfl h) ?_));show _=some (zfv (zkJ a0 a b (plainly (gOf a0 a b)),true));exact must (zJ d) (must (zbC j) (must (zJ e) rfl))
theorem zCk:vM 156 zGu:=kF3 z0w zB zcf ziN (zq []) zGk
theorem zGl (a0:Host)(a c:Int)(i:zww a0 a c=true):∃N,zva N a0 a c=some [aH (zwu a0 a c),aB (zwv a0 a c)]:=by
 obtain⟨i,j⟩:=zlN i;have e:=(zV a0).1 (zL.1 i);refine⟨0,?_⟩;show _=some (zfv (zbE a0 a c));unfold zva oN nB;conv=>zeta
 refine must (zbC ((zV _).2 e)) (must (zbC ((zV _).2 e)) (brN (fun d=>?_) (fun d=>?_)));{rw [zlK d];rfl};obtain⟨q,f,g⟩:=zdr d;have m:=zpg e f g;have p:zbc (gOf a0 a c)=3:=qE j;rw[zjr d,p];refine must (zJ f) (must (zJ g) (must (zid rfl j) ?_));show _=some (zfv (zjt (zmy a0 a c (gOf a0 a c) false) a c (gOf a0 a c) false,true));have k:=zyi (b:=a0.Buffer) (page:=zbi (address (gOf a0 a c))) (need:=zcc false) (io:=false) e d;have F:=zFs k f g;have n:(ix (ix (zeZ (zo a0) (zo a0).Buffer a c (zcQ (ziQ (ix (ix (zo a0).Mons a zh).Guests c zC))) (zfa false) false).Mons a zh).Guests c zC)=(ix (ix (zo a0).Mons a zh).Guests c zC):=congrArg (fun l=>ix l c gZ) (zLl k.gs a);rw[n];unfold zjt;refine must rfl (must rfl (must rfl (must (zbC ((zV _).2 e)) (brN (fun h=>?_) (fun h=>?_)))));{rw [show (zmy a0 a c (gOf a0 a c) false).2.2=false from h];exact must (zJ F.hm) (must rfl (must rfl (must (zbC m) (must (zJ F.hg) rfl))))};{rw [show (zmy a0 a c (gOf a0 a c) false).2.2=true from h];exact must (zJ F.hm) (must rfl (must rfl (must (zbC m) (must (zJ F.hg) rfl))))}
theorem zCl:vM 156 zGv:=kF3 z0x zB zcf ziN (zq []) zGl
theorem zGm (a0:Host)(a c:Int)(i:zwz a0 a c=true):∃N,zvb N a0 a c=some [aH (zwx a0 a c),aB (zwy a0 a c)]:=by
 obtain⟨i,j⟩:=zlN i;have e:=(zV a0).1 (zL.1 i);refine⟨0,?_⟩;show _=some (zfv (zbE a0 a c));unfold zvb oN nB;conv=>zeta
 refine must (zbC ((zV _).2 e)) (must (zbC ((zV _).2 e)) (brN (fun d=>?_) (fun d=>?_)));{rw [zlK d];rfl};obtain⟨q,f,g⟩:=zdr d;have m:=zpg e f g;have p:zbc (gOf a0 a c)=4:=qE j;rw[zjr d,p];refine must (zJ f) (must (zJ g) (must (zid rfl j) ?_));show _=some (zfv (zjt (zmy a0 a c (gOf a0 a c) true) a c (gOf a0 a c) true,true));have k:=zyi (b:=a0.Buffer) (page:=zbi (address (gOf a0 a c))) (need:=zcc true) (io:=false) e d;have F:=zFs k f g;have n:(ix (ix (zeZ (zo a0) (zo a0).Buffer a c (zcQ (ziQ (ix (ix (zo a0).Mons a zh).Guests c zC))) (zfa true) false).Mons a zh).Guests c zC)=(ix (ix (zo a0).Mons a zh).Guests c zC):=congrArg (fun l=>ix l c gZ) (zLl k.gs a);rw[n];unfold zjt;refine must rfl (must rfl (must rfl (must (zbC ((zV _).2 e)) (brN (fun h=>?_) (fun h=>?_)))));{rw [show (zmy a0 a c (gOf a0 a c) true).2.2=false from h];exact must (zJ F.hm) (must rfl (must rfl (must (zbC m) (must (zJ F.hg) rfl))))};{rw [show (zmy a0 a c (gOf a0 a c) true).2.2=true from h];exact must rfl (must (zbC k.shape.1.1) (must (zJ F.hm) (must (zbC m) (must (zJ F.hg) rfl))))}
theorem zCm:vM 156 zGw:=kF3 z0y zB zcf ziN (zq []) zGm
theorem z8T {a0:Host}{a c:Int}(j:SmG (gOf a0 a c))(e:hasB a (ln a0.Mons)=true)(g:hasB c (ln (ix a0.Mons a mZ).Guests)=true) :
 (cond (zdM (ix (ix (zo a0).Mons a zh).Guests c zC) (ix (ix (zo a0).Mons a zh).Guests c zC).Ctl.Traps 5) (cond (zdk (ix (ix (zo a0).Mons a zh).Guests c zC) (ix (ix (zo a0).Mons a zh).Guests c zC).Ctl.Traps 5) (cond (inb a (ln (zo a0).Mons)) (cond (ilt (ln (ix (zo a0).Mons a zh).Outs) 40) (cond (inb a (ln (zo a0).Mons)) (cond (zfp (ix (ix (zo a0).Mons a zh).Guests c zC).Prog (ix (ix (zo a0).Mons a zh).Guests c zC).Pc) (cond (few (ln (ap (ix (zo a0).Mons a zh).Outs [(zfz (ix (ix (zo a0).Mons a zh).Guests c zC).Prog (ix (ix (zo a0).Mons a zh).Guests c zC).Pc).X]))) (cond (inb a (ln (zo a0).Mons)) (cond (cond (ieq a a) true false) (share (up (zo a0).Mons a ({ (ix (zo a0).Mons a zh) with Outs:=(ap (ix (zo a0).Mons a zh).Outs [(zfz (ix (ix (zo a0).Mons a zh).Guests c zC).Prog (ix (ix (zo a0).Mons a zh).Guests c zC).Pc).X])}:Mon)) (fun d=>(cond (inb a (ln d)) (cond (inb c (ln (ix d a zh).Guests)) (share (up d a ({ (ix d a zh) with Guests:=(up (ix d a zh).Guests c (zch (ix (ix (zo a0).Mons a zh).Guests c zC) (ix (ix (zo a0).Mons a zh).Guests c zC).Ctl.Traps 5))}:Mon)) (fun k=>(some [(.agg (zbl ({ (zo a0) with Mons:=k}:Host))),(.one (.b true))]))) none) none))) none) none) none) none) none) (cond (inb a (ln (zo a0).Mons)) (cond (inb c (ln (ix (zo a0).Mons a zh).Guests)) (share (up (zo a0).Mons a ({ (ix (zo a0).Mons a zh) with Guests:=(up (ix (zo a0).Mons a zh).Guests c (zch (ix (ix (zo a0).Mons a zh).Guests c zC) (ix (ix (zo a0).Mons a zh).Guests c zC).Ctl.Traps 5))}:Mon)) (fun d=>(some [(.agg (zbl ({ (zo a0) with Mons:=d}:Host))),(.one (.b true))]))) none) none)) none) (cond (inb a (ln (zo a0).Mons)) (cond (inb c (ln (ix (zo a0).Mons a zh).Guests)) (share (up (zo a0).Mons a ({ (ix (zo a0).Mons a zh) with Guests:=(up (ix (zo a0).Mons a zh).Guests c (zch (ix (ix (zo a0).Mons a zh).Guests c zC) (ix (ix (zo a0).Mons a zh).Guests c zC).Ctl.Traps 5))}:Mon)) (fun d=>(some [(.agg (zbl ({ (zo a0) with Mons:=d}:Host))),(.one (.b true))]))) none) none)) none)=some (zfv (zkJ (zf8 a0 a (gOf a0 a c) 5) a c (zju (gOf a0 a c) (gOf a0 a c).Ctl.Traps 5),true)):=by
 refine must (zbC j) (br (fun i=>must (zJ e) (br (fun f=>?_) (fun f=>?_))) (fun i=>?_))
 .rw [zW5 (h:=a0) (m:=a) (x:=gOf a0 a c) (w:=5) i rfl f];refine must (zJ e) (must rfl (must (z8S f) (must (zJ e) (must (z3D _) (shr (must (zJ (zel e)) (must ?_ rfl)))))));rw[zMA e];exact zJ g
 .rw [zRL (h:=a0) (m:=a) (x:=gOf a0 a c) (w:=5) f];exact must (zJ e) (must (zJ g) rfl)
 .rw [z4X (h:=a0) (m:=a) (x:=gOf a0 a c) (w:=5) i];exact must (zJ e) (must (zJ g) rfl)
theorem zbci {a0:Host}{d:List Mon}{a c:Int}(l:SmG (gOf a0 a c))(g:hasB a (ln d)=true)(j:hasB c (ln (ix d a mZ).Guests)=true)(e:(ix (ix d a zh).Guests c zC)=gOf a0 a c) :
 (cond (zdM ({ (ix (ix (zo a0).Mons a zh).Guests c zC) with Prog:=(ix (ix d a zh).Guests c zC).Prog,Written:=(ix (ix d a zh).Guests c zC).Written,Live:=(ix (ix d a zh).Guests c zC).Live,Seen:=(ix (ix d a zh).Guests c zC).Seen}:Guest) (ix (ix (zo a0).Mons a zh).Guests c zC).Ctl.Traps 5) (cond (zdk ({ (ix (ix (zo a0).Mons a zh).Guests c zC) with Prog:=(ix (ix d a zh).Guests c zC).Prog,Written:=(ix (ix d a zh).Guests c zC).Written,Live:=(ix (ix d a zh).Guests c zC).Live,Seen:=(ix (ix d a zh).Guests c zC).Seen}:Guest) (ix (ix (zo a0).Mons a zh).Guests c zC).Ctl.Traps 5) (cond (inb a (ln d)) (cond (ilt (ln (ix d a zh).Outs) 40) (cond (inb a (ln d)) (cond (zfp (ix (ix d a zh).Guests c zC).Prog (ix (ix (zo a0).Mons a zh).Guests c zC).Pc) (cond (few (ln (ap (ix d a zh).Outs [(zfz (ix (ix d a zh).Guests c zC).Prog (ix (ix (zo a0).Mons a zh).Guests c zC).Pc).X]))) (cond (inb a (ln d)) (cond (cond (ieq a a) true false) (share (up d a ({ (ix d a zh) with Outs:=(ap (ix d a zh).Outs [(zfz (ix (ix d a zh).Guests c zC).Prog (ix (ix (zo a0).Mons a zh).Guests c zC).Pc).X])}:Mon)) (fun f=>(cond (inb a (ln f)) (cond (inb c (ln (ix f a zh).Guests)) (share (up f a ({ (ix f a zh) with Guests:=(up (ix f a zh).Guests c (zch ({ (ix (ix (zo a0).Mons a zh).Guests c zC) with Prog:=(ix (ix d a zh).Guests c zC).Prog,Written:=(ix (ix d a zh).Guests c zC).Written,Live:=(ix (ix d a zh).Guests c zC).Live,Seen:=(ix (ix d a zh).Guests c zC).Seen}:Guest) (ix (ix (zo a0).Mons a zh).Guests c zC).Ctl.Traps 5))}:Mon)) (fun n=>(some [(.agg (zbl ({ (zo a0) with Mons:=n}:Host))),(.one (.b true))]))) none) none))) none) none) none) none) none) (cond (inb a (ln d)) (cond (inb c (ln (ix d a zh).Guests)) (share (up d a ({ (ix d a zh) with Guests:=(up (ix d a zh).Guests c (zch ({ (ix (ix (zo a0).Mons a zh).Guests c zC) with Prog:=(ix (ix d a zh).Guests c zC).Prog,Written:=(ix (ix d a zh).Guests c zC).Written,Live:=(ix (ix d a zh).Guests c zC).Live,Seen:=(ix (ix d a zh).Guests c zC).Seen}:Guest) (ix (ix (zo a0).Mons a zh).Guests c zC).Ctl.Traps 5))}:Mon)) (fun f=>(some [(.agg (zbl ({ (zo a0) with Mons:=f}:Host))),(.one (.b true))]))) none) none)) none) (cond (inb a (ln d)) (cond (inb c (ln (ix d a zh).Guests)) (share (up d a ({ (ix d a zh) with Guests:=(up (ix d a zh).Guests c (zch ({ (ix (ix (zo a0).Mons a zh).Guests c zC) with Prog:=(ix (ix d a zh).Guests c zC).Prog,Written:=(ix (ix d a zh).Guests c zC).Written,Live:=(ix (ix d a zh).Guests c zC).Live,Seen:=(ix (ix d a zh).Guests c zC).Seen}:Guest) (ix (ix (zo a0).Mons a zh).Guests c zC).Ctl.Traps 5))}:Mon)) (fun f=>(some [(.agg (zbl ({ (zo a0) with Mons:=f}:Host))),(.one (.b true))]))) none) none)) none)=some (zfv (zkJ (zf8 {a0 with Mons:=d} a (gOf a0 a c) 5) a c (zju (gOf a0 a c) (gOf a0 a c).Ctl.Traps 5),true)):=by
 rw[e];refine must (zbC l) (br (fun k=>must (zJ g) (br (fun i=>?_) (fun i=>?_))) (fun k=>?_))
 .rw [zW5 (h:={a0 with Mons:=d}) (m:=a) (x:=gOf a0 a c) (w:=5) k rfl i];refine must (zJ g) (must rfl (must (z8S i) (must (zJ g) (must (z3D _) (shr (must (zJ (zel (h:={a0 with Mons:=d}) g)) (must ?_ rfl)))))));rw[zMA (h:={a0 with Mons:=d}) g];exact zJ j
 .rw [zRL (h:={a0 with Mons:=d}) (m:=a) (x:=gOf a0 a c) (w:=5) i];exact must (zJ g) (must (zJ j) rfl)
 .rw [z4X (h:={a0 with Mons:=d}) (m:=a) (x:=gOf a0 a c) (w:=5) k];exact must (zJ g) (must (zJ j) rfl)
theorem zGn (a0:Host)(a b:Int)(i:zwC a0 a b=true):∃N,zvc N a0 a b=some [aH (zwA a0 a b),aB (zwB a0 a b)]:=by
 obtain⟨i,n⟩:=zlN i;have j:=(zV a0).1 (zL.1 i);refine⟨0,?_⟩;show _=some (zfv (zbE a0 a b));unfold zvc oN nB;conv=>zeta
 refine must (zbC ((zV _).2 j)) (must (zbC ((zV _).2 j)) (brN (fun e=>?_) (fun e=>?_)));{rw [zlK e];rfl};obtain⟨q,c,d⟩:=zdr e;have k:=zpg j c d;have p:zbc (gOf a0 a b)=5:=qE n;rw[zjr e,p];refine must (zJ c) (must (zJ d) (must (zid rfl n) ?_));show _=some (zfv (zwS a0 a b (gOf a0 a b) 5,true));refine must (zJ c) (must rfl (br (fun f=>must (zJ c) (br (fun g=>must (zJ c) (must (zJ c) (shr ?_))) (fun g=>?_))) (fun f=>?_)));{rw [zne (zZ4 (h:=a0) (m:=a) (x:=gOf a0 a b) (w:=5) rfl f g)];have l:=zMA c {ix a0.Mons a mZ with Own:=zM .i64 (ix a0.Mons a mZ).Own 1};refine zbci k (zel c) ?_ ?_;{show hasB b (ln (ix (up a0.Mons a _) a mZ).Guests)=true;rw[l];exact d};{show ix (ix (up a0.Mons a _) a mZ).Guests b gZ=_;rw[l];rfl}};{rw [zne (zZ3 (h:=a0) (m:=a) (x:=gOf a0 a b) (w:=5) g)];exact z8T k c d};{rw [zne (zZ2 (h:=a0) (m:=a) (x:=gOf a0 a b) (w:=5) f)];exact z8T k c d}
theorem zCn:vM 156 zGx:=kF3 z0z zB zcf ziN (zq []) zGn
theorem zGo (a0:Host)(a b:Int)(f:zwF a0 a b=true):∃N,zvd N a0 a b=some [aH (zwD a0 a b),aB (zwE a0 a b)]:=by
 obtain⟨f,i⟩:=zlN f;have g:=(zV a0).1 (zL.1 f);refine⟨0,?_⟩;show _=some (zfv (zbE a0 a b));unfold zvd oN nB;conv=>zeta
 refine must (zbC ((zV _).2 g)) (must (zbC ((zV _).2 g)) (brN (fun e=>?_) (fun e=>?_)));{rw [zlK e];rfl};obtain⟨n,c,d⟩:=zdr e;have l:=zpg g c d;have k:zbc (gOf a0 a b)=6:=qE i;rw[zjr e,k];refine must (zJ c) (must (zJ d) (must (zid rfl i) ?_));show _=some (zfv (zwS a0 a b (gOf a0 a b) 6,true));rw[zne (zba8 (h:=a0) (m:=a) (x:=gOf a0 a b)),zNr (w:=6) rfl];exact must (zbC l) (br (fun j=>must (zJ c) (must (zJ d) rfl)) (fun j=>must (zJ c) (must (zJ d) rfl)))
theorem zCo:vM 156 zGy:=kF3 z0A zB zcf ziN (zq []) zGo
theorem z8U {a0:Host}{a c:Int}(h:SmG (gOf a0 a c))(e:hasB a (ln a0.Mons)=true)(f:hasB c (ln (ix a0.Mons a mZ).Guests)=true) :
 (cond (zdM (ix (ix (zo a0).Mons a zh).Guests c zC) (ix (ix (zo a0).Mons a zh).Guests c zC).Ctl.Traps 7) (cond (zdk (ix (ix (zo a0).Mons a zh).Guests c zC) (ix (ix (zo a0).Mons a zh).Guests c zC).Ctl.Traps 7) (cond (inb a (ln (zo a0).Mons)) (cond (inb c (ln (ix (zo a0).Mons a zh).Guests)) (share (up (zo a0).Mons a ({ (ix (zo a0).Mons a zh) with Guests:=(up (ix (zo a0).Mons a zh).Guests c (zch (ix (ix (zo a0).Mons a zh).Guests c zC) (ix (ix (zo a0).Mons a zh).Guests c zC).Ctl.Traps 7))}:Mon)) (fun d=>(some [(.agg (zbl ({ (zo a0) with Mons:=d}:Host))),(.one (.b true))]))) none) none) (cond (inb a (ln (zo a0).Mons)) (cond (inb c (ln (ix (zo a0).Mons a zh).Guests)) (share (up (zo a0).Mons a ({ (ix (zo a0).Mons a zh) with Guests:=(up (ix (zo a0).Mons a zh).Guests c (zch (ix (ix (zo a0).Mons a zh).Guests c zC) (ix (ix (zo a0).Mons a zh).Guests c zC).Ctl.Traps 7))}:Mon)) (fun d=>(some [(.agg (zbl ({ (zo a0) with Mons:=d}:Host))),(.one (.b true))]))) none) none)) none)=some (zfv (zkJ a0 a c (zju (gOf a0 a c) (gOf a0 a c).Ctl.Traps 7),true)):=
 must (zbC h) (br (fun g=>must (zJ e) (must (zJ f) rfl)) (fun g=>must (zJ e) (must (zJ f) rfl)))
theorem zbcj {a0:Host}{d:List Mon}{a c:Int}(j:SmG (gOf a0 a c))(g:hasB a (ln d)=true)(h:hasB c (ln (ix d a mZ).Guests)=true)(e:(ix (ix d a zh).Guests c zC)=gOf a0 a c) :
 (cond (zdM ({ (ix (ix (zo a0).Mons a zh).Guests c zC) with Prog:=(ix (ix d a zh).Guests c zC).Prog,Written:=(ix (ix d a zh).Guests c zC).Written,Live:=(ix (ix d a zh).Guests c zC).Live,Seen:=(ix (ix d a zh).Guests c zC).Seen}:Guest) (ix (ix (zo a0).Mons a zh).Guests c zC).Ctl.Traps 7) (cond (zdk ({ (ix (ix (zo a0).Mons a zh).Guests c zC) with Prog:=(ix (ix d a zh).Guests c zC).Prog,Written:=(ix (ix d a zh).Guests c zC).Written,Live:=(ix (ix d a zh).Guests c zC).Live,Seen:=(ix (ix d a zh).Guests c zC).Seen}:Guest) (ix (ix (zo a0).Mons a zh).Guests c zC).Ctl.Traps 7) (cond (inb a (ln d)) (cond (inb c (ln (ix d a zh).Guests)) (share (up d a ({ (ix d a zh) with Guests:=(up (ix d a zh).Guests c (zch ({ (ix (ix (zo a0).Mons a zh).Guests c zC) with Prog:=(ix (ix d a zh).Guests c zC).Prog,Written:=(ix (ix d a zh).Guests c zC).Written,Live:=(ix (ix d a zh).Guests c zC).Live,Seen:=(ix (ix d a zh).Guests c zC).Seen}:Guest) (ix (ix (zo a0).Mons a zh).Guests c zC).Ctl.Traps 7))}:Mon)) (fun f=>(some [(.agg (zbl ({ (zo a0) with Mons:=f}:Host))),(.one (.b true))]))) none) none) (cond (inb a (ln d)) (cond (inb c (ln (ix d a zh).Guests)) (share (up d a ({ (ix d a zh) with Guests:=(up (ix d a zh).Guests c (zch ({ (ix (ix (zo a0).Mons a zh).Guests c zC) with Prog:=(ix (ix d a zh).Guests c zC).Prog,Written:=(ix (ix d a zh).Guests c zC).Written,Live:=(ix (ix d a zh).Guests c zC).Live,Seen:=(ix (ix d a zh).Guests c zC).Seen}:Guest) (ix (ix (zo a0).Mons a zh).Guests c zC).Ctl.Traps 7))}:Mon)) (fun f=>(some [(.agg (zbl ({ (zo a0) with Mons:=f}:Host))),(.one (.b true))]))) none) none)) none)=some (zfv (zkJ {a0 with Mons:=d} a c (zju (gOf a0 a c) (gOf a0 a c).Ctl.Traps 7),true)):=by
 rw[e];exact must (zbC j) (br (fun i=>must (zJ g) (must (zJ h) rfl)) (fun i=>must (zJ g) (must (zJ h) rfl)))
theorem zGp (a0:Host)(a b:Int)(i:zwI a0 a b=true):∃N,zve N a0 a b=some [aH (zwG a0 a b),aB (zwH a0 a b)]:=by
 obtain⟨i,n⟩:=zlN i;have j:=(zV a0).1 (zL.1 i);refine⟨0,?_⟩;show _=some (zfv (zbE a0 a b));unfold zve oN nB;conv=>zeta
 refine must (zbC ((zV _).2 j)) (must (zbC ((zV _).2 j)) (brN (fun e=>?_) (fun e=>?_)));{rw [zlK e];rfl};obtain⟨q,c,d⟩:=zdr e;have k:=zpg j c d;have p:zbc (gOf a0 a b)=7:=qE n;rw[zjr e,p];refine must (zJ c) (must (zJ d) (must (zid rfl n) ?_));show _=some (zfv (zwS a0 a b (gOf a0 a b) 7,true));refine must (zJ c) (must rfl (br (fun f=>must (zJ c) (br (fun g=>must (zJ c) (must (zJ c) (shr ?_))) (fun g=>?_))) (fun f=>?_)));{rw [zne (zZ4 (h:=a0) (m:=a) (x:=gOf a0 a b) (w:=7) rfl f g),zNr (w:=7) rfl];have l:=zMA c {ix a0.Mons a mZ with Own:=zM .i64 (ix a0.Mons a mZ).Own 1};refine zbcj k (zel c) ?_ ?_;{show hasB b (ln (ix (up a0.Mons a _) a mZ).Guests)=true;rw[l];exact d};{show ix (ix (up a0.Mons a _) a mZ).Guests b gZ=_;rw[l];rfl}};{rw [zne (zZ3 (h:=a0) (m:=a) (x:=gOf a0 a b) (w:=7) g),zNr (w:=7) rfl];exact z8U k c d};{rw [zne (zZ2 (h:=a0) (m:=a) (x:=gOf a0 a b) (w:=7) f),zNr (w:=7) rfl];exact z8U k c d}
theorem zCp:vM 156 zGz:=kF3 z0B zB zcf ziN (zq []) zGp
def zpY:List AV->Option (Bool×List AV)
 |[.agg [.s (.sl .int) b,.s .mon c,.s .entry d,.s .entry e],.one (.i .i64 f),.one (.i .i64 g)]=>some ((zem (⟨b,c,d,e⟩:Host) f g),[aH (zEK (⟨b,c,d,e⟩:Host) f g),aB (zEL (⟨b,c,d,e⟩:Host) f g)])
 |_=>none
theorem zIX:vM 156 zpY:=by refine⟨zpm.1,fun w m l n g h=>?_⟩;unfold zpY at h;split at h;{rename_i a b d f i j;obtain⟨k,rfl⟩:=zdW h;rcases z7t (gOf (⟨a,b,d,f⟩:Host) i j) with e|e|e|e|e|e|e|e;{exact zpm.2 w _ l _ g (congrArg (fun c=>some (c,zfv (zbE (⟨a,b,d,f⟩:Host) i j))) (zid k e))};{exact zCj.2 w _ l _ g (congrArg (fun c=>some (c,zfv (zbE (⟨a,b,d,f⟩:Host) i j))) (zid k e))};{exact zCk.2 w _ l _ g (congrArg (fun c=>some (c,zfv (zbE (⟨a,b,d,f⟩:Host) i j))) (zid k e))};{exact zCl.2 w _ l _ g (congrArg (fun c=>some (c,zfv (zbE (⟨a,b,d,f⟩:Host) i j))) (zid k e))};{exact zCm.2 w _ l _ g (congrArg (fun c=>some (c,zfv (zbE (⟨a,b,d,f⟩:Host) i j))) (zid k e))};{exact zCn.2 w _ l _ g (congrArg (fun c=>some (c,zfv (zbE (⟨a,b,d,f⟩:Host) i j))) (zid k e))};{exact zCo.2 w _ l _ g (congrArg (fun c=>some (c,zfv (zbE (⟨a,b,d,f⟩:Host) i j))) (zid k e))};{exact zCp.2 w _ l _ g (congrArg (fun c=>some (c,zfv (zbE (⟨a,b,d,f⟩:Host) i j))) (zid k e))}};{cases h}
def z8C:zW:=[(156,zpY)]++zmu
theorem z5U:zK z8C:=zi zIX zhV
def z8D:zW:=z8C
theorem z5V:zK z8D:=z5U
def brought (n a b:Int):Int:=bif ilt n a then a else (cond (ilt b a) a (zOP n b))
@[simp] abbrev zqN (_ _ _:Int):Bool:=true
@[simp] abbrev zrO (n a b:Int):Int:=brought n a b
def zsm:Run:=rF3 dI dI dI fun b c d=>(zqN b c d,[aI (zrO b c d)])
def zGN (N:Nat)(a0 a b:Int):OA:=
 (cond (ilt b a) (some [(aI a)]) (cond (ilt a0 a) (some [(aI a)]) (cond (igt a0 b) (some [(aI b)]) (some [(aI a0)]))))
theorem zSt (a0 a b:Int)(f:zqN a0 a b=true):∃N,zGN N a0 a b=some [aI (zrO a0 a b)]:=by refine⟨0,?_⟩;unfold zGN;unfold zrO brought zOP;cases c:ilt b a<;>cases d:ilt a0 a<;>cases e:igt a0 b<;>simp [igt] at * <;> omega
theorem zvB:vM 143 zsm:=kF3 ztQ zB zy zn (zq []) zSt
structure RI (a:List Bare) (i:Nat) (l:List Bare):Prop where
 len:l.length=a.length
 sm:z0e l
 eq:∀k,i<=k->l[k]?=a[k]?
theorem RI.up {a l:List Bare}{i:Nat}(h:RI a i l)(x:Bare)(b:SmB x):RI a (i+1) (up l (i:Int) x):=
 ⟨by rw[zf0];exact h.len,zba0 h.sm b,fun k c=>by rw[zbbI (by omega)];exact h.eq k (by omega)⟩
structure RJ (l:List Bare) (i:Nat) (l':List Bare):Prop where
 len:l'.length=l.length
 sm:SmB (ix l' (i:Int) zNL)
 up:∀x,E.up l' (i:Int) x=E.up l (i:Int) x
theorem RJ.next {l a:List Bare}{i:Nat}(h:RJ l i a)(b:i<l.length)(x:Bare)(c:SmB x):RJ l i (E.up a (i:Int) x):=
 ⟨by rw[zf0];exact h.len,by rw[zdq (by rw[h.len];exact b)];exact c,fun y=>by rw[zrp];exact h.up y⟩
def z3a:zW:=z8D
theorem z3b:zK z3a:=z5V
theorem zWP {h:Host}{m:Int}(g:SmH h)(f:hasB m (ln h.Mons)=true):SmB (zG h m):=by
 have b:=g.2.1.2 _ (zbD f mZ);have e:∀(d:List (List Int)) (q:Int),SmM d->(zcp d q).length<=1048576:=fun d q h=>zWS h;have c:∀p:Int,(zcB h m p).length<=1048576:=by intro p;unfold zcB;cases hasB m (ln h.Mons);{exact(by decide:zAW.length<=1048576)};{cases hasB p 8;{exact(by decide:zAW.length<=1048576)};{simp only [cT];cases ine (zbz (ix h.Mons m zh).Outer p).Page (-1);{exact e _ _ b.2.1};{exact e _ _ g.1}}}
 have j:∀(n i:Nat),∀x∈zct h m n i,x.length<=1048576:=by
  intro n
  induction n with
  |zero=>intro i x a;cases a
  |succ n k=>intro i x a;rcases qG.1 a with rfl|a;{exact c _};{exact k (i+1) x a}
 unfold zG;rw[f];exact⟨⟨by show (zct h m 8 0).length<=1048576;rw[zAs];decide,j 8 0⟩,b.2.2.2.1,b.2.2.2.2.1⟩
def z8E:zW:=z3a
theorem z5W:zK z8E:=z3b
def z8F:zW:=[(143,zsm)]++z8E
theorem z5X:zK z8F:=zi zvB z5W
def cnt (l:List Mon):List Nat:=l.map fun x=>x.Guests.length
theorem zbbm {l a:List Mon}(h:zdS a=zdS l):cnt a=cnt l:=by have e:∀l:List Mon,cnt l=(zdS l).map List.length:=fun l=>(by simp[cnt,zdS]);rw[e,e,h]
theorem zT4 {l:List Mon}{m:Int}{x:Mon}(b:hasB m (ln l)=true)(c:x.Guests.length=(ix l m mZ).Guests.length):cnt (up l m x)=cnt l:=by obtain⟨k,rfl,a⟩:=zds (n:=l.length) b;unfold cnt up;rw[List.map_set,kD,c,zbj a];have:=@u2 _ (l.map fun x=>x.Guests.length) k (by simpa using a);simpa using this
theorem z9P {l a:List Mon}(h:cnt a=cnt l):a.length=l.length:=by have:=congrArg List.length h;simpa [cnt] using this
theorem zbbn {l b:List Mon}(h:cnt b=cnt l)(m:Int):(ix b m mZ).Guests.length=(ix l m mZ).Guests.length:=by have a:(cnt b)[m.toNat]?=(cnt l)[m.toNat]?:=(by rw[h]);unfold cnt at a;rw[qP,qP]at a;unfold ix;simp only[j8];cases c:b[m.toNat]? <;> cases d:l[m.toNat]? <;> rw [c,d]at a<;>simp at a ⊢;exact a
theorem zbaG (h:Host)(m p:Int):(zdl h m p).Memory=h.Memory:=(zfS (zet h m p) m p noSlot).2
theorem zbaF (h:Host):(zc5 h).Memory=h.Memory:=by unfold zc5;cases ieq (ln (zb4 h)) 0;{rfl};{exact zbaG _ _ _}
theorem zbaE (m:List (List Int))(p:Int)(c:List Int):(zg5 m p c).length=m.length:=by unfold zg5;cases hasB p (ln m);{rfl};{cases zcl c;{rfl};{simp}}
theorem zbaC (m:List (List Int))(p c v:Int):(zbK m p c v).length=m.length:=by unfold zbK;cases zhE m p c;{rfl};{cases win v 0 99;{rfl};{simp}}
theorem z1i (h:Host)(m p:Int):(fetched h m p).Memory.length=h.Memory.length:=by unfold fetched zeF;rw[(zfS _ _ _ _).2];unfold landing;rw[zbaE,zbaF]
theorem zVY (h:Host)(m p n:Int):(zi7 h m p n).Memory=h.Memory:=by unfold zi7;cases ieq (wand .i64 n 2) 0;{unfold opened;cases ieq (wand .i64 (ix (ix (zbI h m p).Mons m mZ).Outer p sZ).Rights 2) 0;{rfl};{exact(zfS _ _ _ _).2}};{rfl}
theorem z3W (h:Host)(m p n:Int):(mended h m p n).Memory.length=h.Memory.length:=by unfold mended;cases ieq (ix (ix h.Mons m mZ).Outer p sZ).Page (-1);{exact congrArg List.length (zVY _ _ _ _)};{exact(congrArg List.length (zVY _ _ _ _)).trans (z1i _ _ _)}
theorem z3X (h:Host)(m g p:Int)(io:Bool):(zvW h m g p io).Memory=h.Memory:=by cases io<;>rfl
theorem z6C (h:Host)(b:List Entry)(m g page need q:Int)(io:Bool):(zhC h b m g page need q io).1.Memory.length=h.Memory.length:=by unfold zhC;cases zhk b m g page need;{cases zeM h m g page need;{exact congrArg List.length (z3X _ _ _ _ _)};{exact(congrArg List.length (z3X _ _ _ _ _)).trans (z3W h m q need)}};{rfl}
theorem zbaD (h:Host)(b:List Entry)(m g page need:Int)(io:Bool):(lookOf h b m g page need io).1.Memory.length=h.Memory.length:=by unfold lookOf;cases zb7 h m g page need;{rfl};{simp only [cT];rw[z6C];cases ieq need 2<;>rfl}
structure Keep (h r:Host):Prop where
 shape:Shape r
 cnt:cnt r.Mons=cnt h.Mons
 mem:r.Memory.length=h.Memory.length
theorem Keep.has {h r:Host}(k:Keep h r){m:Int}(a:hasB m (ln h.Mons)=true):hasB m (ln r.Mons)=true:=by rw[ln,z9P k.cnt];exact a
theorem Keep.hg {h r:Host}(k:Keep h r){m g:Int}(hg:hasB g (ln (ix h.Mons m mZ).Guests)=true):hasB g (ln (ix r.Mons m mZ).Guests)=true:=by rw[ln,zbbn k.cnt];exact hg
theorem Keep.trans {a b c:Host}(h:Keep a b)(k:Keep b c):Keep a c:=⟨k.shape,k.cnt.trans h.cnt,k.mem.trans h.mem⟩
theorem Keep.rfl' {h:Host}(a:Shape h):Keep h h:=⟨a,rfl,rfl⟩
theorem zno {h:Host}{m g:Int}{x:Guest}(b:Shape h)(a:hasB m (ln h.Mons)=true)(c:SmG x):Keep h (zkJ h m g x):=⟨z1Z b a c,zT4 a (by simp),rfl⟩
theorem zDP {h:Host}{b:List Entry}{m g page need:Int}{io:Bool}(c:SmH h)(a:zbW h m g=true):Keep h (lookOf h b m g page need io).1:=by have k:=zyi (b:=b) (page:=page) (need:=need) (io:=io) c a;exact⟨k.shape,zbbm k.gs,zbaD _ _ _ _ _ _ _⟩
theorem z3H {h:Host}{p c v:Int}(a:Shape h):Keep h {h with Memory:=zbK h.Memory p c v}:=⟨zRG a (zAS a.1.1),rfl,zbaC _ _ _ _⟩
theorem z04 {h:Host}{m:Int}(a:Shape h)(b:hasB m (ln h.Mons)=true):Keep h (owned h m):=by obtain⟨c,d⟩:=zcy a b;unfold owned;cases ilt (ix h.Mons m mZ).Own 1000000000;{exact Keep.rfl' a};{exact⟨zib a c d,zT4 b rfl,rfl⟩}
theorem z03 {h:Host}{m n:Int}(b:Shape h)(c:hasB m (ln h.Mons)=true):Keep h (zoa h m n):=by obtain⟨a,d⟩:=zcy b c;unfold zoa;cases e:ilt (ln (ix h.Mons m mZ).Outs) 40;{exact Keep.rfl' b};{have f:=qE e;simp only[ln]at f;refine⟨zib b ⟨a.1,a.2.1,a.2.2.1,a.2.2.2.1,?_,a.2.2.2.2.2⟩ d,zT4 c rfl,rfl⟩;simp[ap];omega}
theorem z3J {h:Host}{m g:Int}{x:Guest}{w:Int}(d:Shape h)(b:hasB m (ln h.Mons)=true)(e:SmG x):Keep h (zwS h m g x w):=by have a:Keep h (zf9 h m x w):=(by unfold zf9;cases (cond (ine w 6) (ieq (zAp (ix h.Mons m mZ).Traps x.Ctl.Traps (zzk w)) 2) false);{exact Keep.rfl' d};{exact z04 d b});have f:Keep (zf9 h m x w) (zf8 (zf9 h m x w) m x w):=(by unfold zf8;cases (cond (zkf x.Ctl.Traps w) (ieq w 5) false);{exact Keep.rfl' a.shape};{exact z03 a.shape (a.has b)});have c:=a.trans f;exact c.trans (zno c.shape (c.has b) (zEV _ _ e))
theorem z3I {h:Host}{m g:Int}(f:SmH h)(e:zbW h m g=true):Keep h (zbE h m g).1:=by obtain⟨l,a,n⟩:=zdr e;have d:=zpg f a n;have i:=(zd3 f l).1;rw[zjr e];unfold zWX;cases ieq (zbc (gOf h m g)) 0;{cases ieq (zbc (gOf h m g)) 1;{cases ieq (zbc (gOf h m g)) 2;{cases (cond (ieq (zbc (gOf h m g)) 3) true (ieq (zbc (gOf h m g)) 4));{exact z3J i a d};{have k:=zDP (b:=h.Buffer) (page:=zbi (address (gOf h m g))) (need:=zcc (ieq (zbc (gOf h m g)) 4)) (io:=false) f e;show Keep h (zjt (zmy h m g (gOf h m g) (ieq (zbc (gOf h m g)) 4)) m g (gOf h m g) (ieq (zbc (gOf h m g)) 4));unfold zjt;cases (zmy h m g (gOf h m g) (ieq (zbc (gOf h m g)) 4)).2.2;{exact k.trans (zno k.shape (k.has a) d)};{cases ieq (zbc (gOf h m g)) 4;{have k:=zDP (b:=h.Buffer) (page:=zbi (address (gOf h m g))) (need:=zcc false) (io:=false) f e;exact k.trans (zno k.shape (k.has a) (zNh _ d))};{have k:=zDP (b:=h.Buffer) (page:=zbi (address (gOf h m g))) (need:=zcc true) (io:=false) f e;have q:=z3H (p:=(zmy h m g (gOf h m g) true).2.1) (c:=zdc (address (gOf h m g))) (v:=(gOf h m g).A) k.shape;have j:=k.trans q;exact j.trans (zno j.shape (j.has a) (zkZ d))}}}};{exact zno i a (zH3 d)}};{exact zno i a (zZU d)}};{exact Keep.rfl' i}
structure Same (h r:Host):Prop where
 sm:SmH r
 cnt:cnt r.Mons=cnt h.Mons
 mem:r.Memory.length=h.Memory.length
 st:r=h\/Shape r
theorem Same.rfl' {h:Host}(a:SmH h):Same h h:=⟨a,rfl,rfl,.inl rfl⟩
theorem Same.trans {a b c:Host}(h:Same a b)(k:Same b c):Same a c:=⟨k.sm,k.cnt.trans h.cnt,k.mem.trans h.mem,by
 rcases k.st with e|e
 .rw [e];exact h.st
 .exact .inr e⟩
theorem z4F {h:Host}(m g:Int)(b:SmH h):Same h (zbE h m g).1:=by cases a:zbW h m g;{rw [zlK a];exact Same.rfl' b};{have k:=z3I b a;exact⟨k.shape.1,k.cnt,k.mem,.inr k.shape⟩}
def z8G:zW:=[(143,zsm)]++z0t
theorem ztS:zK z8G:=zi zvB ztQ
theorem zTZ {a b:Bool}(h:(a=true)↔(b=true)):a=b:=by cases a<;>cases b<;>simp_all
@[simp] theorem zbb6 (x:Int):win x 0 3=hasB x 4:=zTZ (by rw[zfC];unfold hasB;rw[decide_eq_true_iff];omega)
@[simp] theorem z5d (x:Int):win x 0 7=hasB x 8:=zTZ (by rw[zfC];unfold hasB;rw[decide_eq_true_iff];omega)
def zdY (t:List Slot)(p:Int)(s:Slot):List Slot:=bif hasB p (ln t) then up t p s else t
@[simp] theorem zbb7 (t:List Slot)(p:Int)(s:Slot):(zdY t p s).length=t.length:=by unfold zdY;cases hasB p (ln t)<;>simp
@[simp] abbrev zoN (t:List Slot)(p:Int)(s:Slot):Bool:=pc (t.length<=1048576)
@[simp] abbrev zlC (t:List Slot)(p:Int)(s:Slot):List Slot:=zdY t p s
def zy4:Run:=rF3 (dS .slot) dI (dT .slot) fun b c d=>(zoN b c d,[aS .slot (zlC b c d)])
def zC2 (N:Nat)(a0:lS)(a:Int)(b:Slot):OA:=
 (oN (few (ln (ap [] a0))) (oN (zN a 0 (wsub .i64 (ln a0) 1)) (cond (zT a 0 (wsub .i64 (ln a0) 1)) (oN (inb a (ln (ap [] a0))) (share (up (ap [] a0) a b) (fun c=>(some [(aS .slot c)])))) (some [(aS .slot (ap [] a0))]))))
theorem zPr (a0:List Slot)(a:Int)(b:Slot)(c:zoN a0 a b=true):∃N,zC2 N a0 a b=some [aS .slot (zlC a0 a b)]:=by have d:=zL.1 c;refine⟨0,?_⟩;unfold zC2 oN;refine mu (must rfl (br (fun _=>mu (shr ?_)) (fun _=>?_)));all_goals first|rfl|(simp only [*,zlC,zdY,cT,cF]<;>rfl)|simp_all[Ty.cells,zlC,zdY]
theorem zI8:vM 300 zy4:=kF3 ztS zB zy zn (zq []) zPr
def zfU (p n:Int):Bool:=bif zc3 p then win n 0 7 else false
def zs7 (p n:Int):Int:=bif zfU p n then wor .i64 p (zpj .i64 1 n) else p
theorem cv7 {n:Int}(h:hasB n 8=true):wcv .u64 n=n/\ile 0 n=true:=by have:=qE h;exact⟨zZ8 (by omega) (by omega),qJ (by omega)⟩
@[simp] abbrev zj0 (p n:Int):Bool:=true
@[simp] abbrev zgx (p n:Int):Int:=zs7 p n
@[simp] abbrev zmh (p n:Int):Bool:=zfU p n
def zBS:Run:=rF2 dI dI fun b c=>(zj0 b c,[aI (zgx b c),aB (zmh b c)])
def zG1 (N:Nat)(a0 a:Int):OA:=
 (oN (zfe a0) (cond (nB (zfd a0)) (some [(aI a0),(aB false)]) (oN (zN a 0 7) (cond (nB (zT a 0 7)) (some [(aI a0),(aB false)]) (oN (ile 0 (wcv .u64 a)) (some [(aI (wor .i64 a0 (zpj .i64 1 (wcv .u64 a)))),(aB true)]))))))
theorem zSI (a0 a:Int)(b:zj0 a0 a=true):∃N,zG1 N a0 a=some [aI (zgx a0 a),aB (zmh a0 a)]:=by have c:=@cv7 a;refine⟨0,?_⟩;unfold zG1 oN nB;refine must rfl (brN (fun _=>?_) (fun _=>must rfl (brN (fun _=>?_) (fun _=>mu ?_))));all_goals first|rfl|(simp only [*,zgx,zmh,zs7,zfU,cT,cF]<;>rfl)|simp_all[Ty.cells,zgx,zmh,zs7,zfU]
theorem zLG:vM 302 zBS:=kF2 ztS zB zy zn (zq []) zSI
def posts (c:Ctl)(n:Int):Bool:=bif zg7 c then (cond (win n 0 7) (ieq (wand .i64 (zE5 .i64 c.Post n) 1) 1) false) else false
@[simp] abbrev zEO (c:Ctl)(n:Int):Bool:=true
@[simp] abbrev zza (c:Ctl)(n:Int):Bool:=posts c n
def zHO:Run:=rF2 dC dI fun b c=>(zEO b c,[aB (zza b c)])
def zQC (N:Nat)(a0:Ctl)(a:Int):OA:=
 (oN (zrP a0) (cond (zp4 a0) (oN (zN a 0 7) (cond (zT a 0 7) (oN (ile 0 (wcv .u64 a)) (some [(aB (ieq (wand .i64 (zE5 .i64 a0.Post (wcv .u64 a)) 1) 1))])) oF)) oF))
theorem zYe (a0:Ctl)(a:Int)(b:zEO a0 a=true):∃N,zQC N a0 a=some [aB (zza a0 a)]:=by have c:=@cv7 a;refine⟨0,?_⟩;unfold zQC oN;refine must rfl (br (fun _=>must rfl (br (fun _=>mu ?_) (fun _=>?_))) (fun _=>?_));all_goals first|rfl|(simp only [*,zza,posts,cT,cF]<;>rfl)|simp_all[Ty.cells,zza,posts]
theorem zR7:vM 323 zHO:=kF2 ztS zB zy zn (zq []) zYe
def zce (b:Bare)(g:Int):Bool:=bif zca b then hasB g (ln b.Guests) else false
theorem zdx {b:Bare}{g:Int}:(zce b g=true)↔zca b=true/\hasB g (ln b.Guests)=true:=by unfold zce;cases zca b<;>simp
@[simp] abbrev ziR (b:Bare)(g:Int):Bool:=pc (SmB b)
@[simp] abbrev zj5 (b:Bare)(g:Int):Bool:=zce b g
def zHR:Run:=rF2 (dT .bare) dI fun b c=>(ziR b c,[aB (zj5 b c)])
def zQF (N:Nat)(a0:Bare)(a:Int):OA:=
 (oN (zor a0) (cond (zeC a0) (oN (zN a 0 (wsub .i64 (ln a0.Guests) 1)) (some [(aB (zT a 0 (wsub .i64 (ln a0.Guests) 1)))])) oF))
theorem zYh (a0:Bare)(a:Int)(b:ziR a0 a=true):∃N,zQF N a0 a=some [aB (zj5 a0 a)]:=by have c:=zL.1 b;have d:a0.Guests.length<=1048576:=c.2.1.1;refine⟨0,?_⟩;unfold zQF oN;refine must rfl (br (fun _=>must rfl ?_) (fun _=>?_));all_goals first|rfl|(simp only [*,zj5,zce,cT,cF]<;>rfl)|simp_all[Ty.cells,zj5,zce]
theorem zSb:vM 299 zHR:=kF2 ztS zB zy zn (zq []) zYh
def z8H:zW:=[(300,zy4),(302,zBS),(323,zHO),(299,zHR)]++z8G
theorem zko:zK z8H:=zi zI8 (zi zLG (zi zR7 (zi zSb ztS)))
theorem z7s {b:Type}{l:List b}{i:Int}{d:b}(h:hasB i (ln l)=true):up l i (ix l i d)=l:=by obtain⟨k,rfl,a⟩:=zds (n:=l.length) h;unfold up;rw[zbj a,kD];exact u2 a
theorem ztW {b:Bare}{g:Int}(h:hasB g (ln b.Guests)=true):gAt b g=ix b.Guests g zC:=by unfold gAt;rw[h];rfl
theorem z4H {b:Bare}{g:Int}(h:hasB g (ln b.Guests)=true):zd7 b g (gAt b g)=b:=by unfold zd7;rw[ztW h,z7s h]
def chg (b:Bare)(g:Int)(c:Bool)(x:Guest):Bare:=bif (cond (zce b g) c false) then zd7 b g x else b
def zbZ (b:Bare)(g:Int)(c:Bool):Bool:=bif zce b g then c else false
def zsE (p:Int)(s:Slot):Bool:=bif hasB p 4 then zdw s 8 else false
def zAP (x:Guest)(p:Int)(s:Slot):Guest:={x with Written:=zdY x.Written p s}
def zdI (x:Guest)(p:Int):Guest:={x with Live:=zdY x.Live p (zbz x.Written p)}
def zkD:GExit:=⟨0,0,false,0⟩
def zr9 (x:Guest)(v:Int):Bool:=bif win v 0 99 then (cond (ieq x.Exit.Kind 2) true (ieq x.Exit.Kind 3)) else false
def zw6 (x:Guest)(v:Int):Guest:=zcb (stopped (cond (ieq x.Exit.Kind 2) {x with A:=v} x) zkD)
def zxg (x:Guest):Bool:=bif ieq x.Exit.Kind 1 then true else ieq x.Exit.Kind 4
def zxh (x:Guest):Guest:=bif ieq x.Exit.Kind 1 then stopped x zkD else held (stopped x zkD)
def zmV (x:Guest)(n:Int):Guest:={x with Pending:=zs7 x.Pending n}
def zIn (x:Guest)(c:Ctl):Guest:={x with Ctl:=c}
theorem zbaw {x:Guest}{n:Int}(h:zfU x.Pending n=false):zmV x n=x:=by unfold zmV zs7;rw[h];rfl
theorem z7f {x:Guest}(p:Int)(s:Slot)(h:SmG x):SmG (zAP x p s):=⟨h.1,by simpa [zAP] using h.2.1,h.2.2.1,h.2.2.2⟩
theorem zNg {x:Guest}(p:Int)(h:SmG x):SmG (zdI x p):=⟨h.1,h.2.1,by simpa [zdI] using h.2.2.1,h.2.2.2⟩
theorem z7d {x:Guest}(v:Int)(h:SmG x):SmG (zw6 x v):=by unfold zw6;cases ieq x.Exit.Kind 2<;>exact zkZ h
theorem z7e {x:Guest}(h:SmG x):SmG (zxh x):=by unfold zxh;cases ieq x.Exit.Kind 1;{exact zWQ (g:=stopped x zkD) h};{exact h}
theorem zqf {b:Bare}{g:Int}{c:Bool}{x:Guest}(h:SmB b)(a:SmG x):SmB (chg b g c x):=by unfold chg;cases (cond (zce b g) c false);{exact h};{exact znb h a}
@[simp] abbrev zqM (b:Bare)(g p:Int)(s:Slot):Bool:=pc (SmB b)
@[simp] abbrev zh3 (b:Bare)(g p:Int)(s:Slot):Bare:=chg b g (zsE p s) (zAP (gAt b g) p s)
@[simp] abbrev zjY (b:Bare)(g p:Int)(s:Slot):Bool:=zbZ b g (zsE p s)
def zsl:Run:=rF4 (dT .bare) dI dI (dT .slot) fun b c d e=>(zqM b c d e,[aT .bare (zh3 b c d e),aB (zjY b c d e)])
def zGM (N:Nat)(a0:Bare)(b c:Int)(d:Slot):OA:=
 let a:=(zcr a0);let e:=(ix a.Guests b zC); (oN (zeX a0) (oN (ziR a b) (cond (nB (zj5 a b)) (some [(aT .bare a),(aB false)]) (oN (zN c 0 3) (cond (nB (zT c 0 3)) (some [(aT .bare a),(aB false)]) (oN (ztg d 8) (cond (nB (zp8 d 8)) (some [(aT .bare a),(aB false)]) (oN (inb b (ln a.Guests)) (oN (zoN e.Written c d) (oN (inb b (ln a.Guests)) (share (up a.Guests b ({e with Written:=(zlC e.Written c d)}:Guest)) (fun f=>(some [(aT .bare ({a with Guests:=f}:Bare)),(aB true)])))))))))))))
theorem zSs (a0:Bare)(a b:Int)(c:Slot)(d:zqM a0 a b c=true):∃N,zGM N a0 a b c=some [aT .bare (zh3 a0 a b c),aB (zjY a0 a b c)]:=by
 have e:=zL.1 d;have f:=zjN a e;have j:zce a0 a=true->hasB a (ln a0.Guests)=true:=fun h=>(zdx.1 h).2;have g:zce a0 a=true->gAt a0 a=ix a0.Guests a zC:=fun h=>ztW (zdx.1 h).2;have i:=f.2.1;refine⟨0,?_⟩;unfold zGM oN nB;conv=>zeta
 refine mu (mu (brN (fun _=>?_) (fun _=>must rfl (brN (fun _=>?_) (fun _=>must rfl (brN (fun _=>?_) (fun _=>mu (mu (mu (shr ?_))))))))));all_goals first|rfl|(simp only [*,zh3,zjY,chg,zbZ,zsE,zAP,zd7,cT,cF]<;>rfl)|simp_all[Ty.cells,zh3,zjY,chg,zbZ,zsE,zAP,zd7]
theorem zvA:vM 240 zsl:=kF4 zko zB zy zn (zq []) zSs
@[simp] abbrev zsx (b:Bare)(g p:Int):Bool:=pc (SmB b)
@[simp] abbrev zev (b:Bare)(g p:Int):Bare:=chg b g (hasB p 4) (zdI (gAt b g) p)
@[simp] abbrev zhn (b:Bare)(g p:Int):Bool:=zbZ b g (hasB p 4)
def zog:Run:=rF3 (dT .bare) dI dI fun b c d=>(zsx b c d,[aT .bare (zev b c d),aB (zhn b c d)])
def zA8 (N:Nat)(a0:Bare)(d b:Int):OA:=
 let a:=(zcr a0);let e:=(inb d (ln a.Guests));let c:=(ix a.Guests d zC); (oN (zeX a0) (oN (ziR a d) (cond (nB (zj5 a d)) (some [(aT .bare a),(aB false)]) (oN (zN b 0 3) (cond (nB (zT b 0 3)) (some [(aT .bare a),(aB false)]) (oN e (oN e (oN (zjg c.Written b) (oN (zoN c.Live b (zg0 c.Written b)) (oN e (share (up a.Guests d ({c with Live:=(zlC c.Live b (zg0 c.Written b))}:Guest)) (fun f=>(some [(aT .bare ({a with Guests:=f}:Bare)),(aB true)])))))))))))))
theorem zMn (a0:Bare)(a b:Int)(c:zsx a0 a b=true):∃N,zA8 N a0 a b=some [aT .bare (zev a0 a b),aB (zhn a0 a b)]:=by
 have d:=zL.1 c;have e:=zjN a d;have i:zce a0 a=true->hasB a (ln a0.Guests)=true:=fun h=>(zdx.1 h).2;have f:zce a0 a=true->gAt a0 a=ix a0.Guests a zC:=fun h=>ztW (zdx.1 h).2;have g:=e.2.2.1;refine⟨0,?_⟩;unfold zA8 oN nB;conv=>zeta
 refine mu (mu (brN (fun _=>?_) (fun _=>must rfl (brN (fun _=>?_) (fun _=>mu (mu (must rfl (mu (mu (shr ?_))))))))));all_goals first|rfl|(simp only [*,zev,zhn,chg,zbZ,zdI,zd7,cT,cF]<;>rfl)|simp_all[Ty.cells,zev,zhn,chg,zbZ,zdI,zd7]
theorem zsK:vM 243 zog:=kF3 zko zB zy zn (zq []) zMn
@[simp] abbrev zlm (b:Bare)(g v:Int):Bool:=pc (SmB b)
@[simp] abbrev zfw (b:Bare)(g v:Int):Bare:=chg b g (zr9 (gAt b g) v) (zw6 (gAt b g) v)
@[simp] abbrev zgO (b:Bare)(g v:Int):Bool:=zbZ b g (zr9 (gAt b g) v)
def zmY:Run:=rF3 (dT .bare) dI dI fun b c d=>(zlm b c d,[aT .bare (zfw b c d),aB (zgO b c d)])
def zxL (N:Nat)(a0:Bare)(b e:Int):OA:=
 let a:=(zcr a0);let h:=(inb b (ln a.Guests));let d:=(⟨0,0,false,0⟩:GExit);let c:=(ix a.Guests b zC);let g:=({c with A:=e}:Guest); (oN (zeX a0) (oN (ziR a b) (cond (nB (zj5 a b)) (some [(aT .bare a),(aB false)]) (oN (zN e 0 99) (cond (nB (zT e 0 99)) (some [(aT .bare a),(aB false)]) (oN h (cond (ieq c.Exit.Kind 2) (oN (zd0 g d) (oN (zdV (zdB g d)) (oN h (share (up a.Guests b (zf5 (zdB g d))) (fun f=>(some [(aT .bare ({a with Guests:=f}:Bare)),(aB true)])))))) (cond (ieq c.Exit.Kind 3) (oN (zd0 c d) (oN (zdV (zdB c d)) (oN h (share (up a.Guests b (zf5 (zdB c d))) (fun f=>(some [(aT .bare ({a with Guests:=f}:Bare)),(aB true)])))))) (some [(aT .bare a),(aB false)])))))))))
theorem zJp (a0:Bare)(a b:Int)(c:zlm a0 a b=true):∃N,zxL N a0 a b=some [aT .bare (zfw a0 a b),aB (zgO a0 a b)]:=by
 have d:=zL.1 c;have e:=zjN a d;have i:zce a0 a=true->hasB a (ln a0.Guests)=true:=fun h=>(zdx.1 h).2;have f:zce a0 a=true->gAt a0 a=ix a0.Guests a zC:=fun h=>ztW (zdx.1 h).2;have g:_/\_/\_/\_:=e;refine⟨0,?_⟩;unfold zxL oN nB;conv=>zeta
 refine mu (mu (brN (fun _=>?_) (fun _=>must rfl (brN (fun _=>?_) (fun _=>mu (br (fun _=>mu (mu (mu (shr ?_)))) (fun _=>br (fun _=>mu (mu (mu (shr ?_)))) (fun _=>?_))))))));all_goals first|rfl|(simp only [*,zfw,zgO,chg,zbZ,zr9,zw6,zkD,zd7,SmG,stopped,cT,cF]<;>rfl)|simp_all[Ty.cells,zfw,zgO,chg,zbZ,zr9,zw6,zkD,zd7,SmG,stopped]
theorem zrC:vM 246 zmY:=kF3 zko zB zy zn (zq []) zJp
@[simp] abbrev zlo (b:Bare)(g:Int):Bool:=pc (SmB b)
@[simp] abbrev zfy (b:Bare)(g:Int):Bare:=chg b g (zxg (gAt b g)) (zxh (gAt b g))
@[simp] abbrev zgQ (b:Bare)(g:Int):Bool:=zbZ b g (zxg (gAt b g))
def zm0:Run:=rF2 (dT .bare) dI fun b c=>(zlo b c,[aT .bare (zfy b c),aB (zgQ b c)])
def zxN (N:Nat)(a0:Bare)(c:Int):OA:=
 let a:=(zcr a0);let f:=(inb c (ln a.Guests));let d:=(⟨0,0,false,0⟩:GExit);let b:=(ix a.Guests c zC); (oN (zeX a0) (oN (ziR a c) (cond (nB (zj5 a c)) (some [(aT .bare a),(aB false)]) (oN f (cond (ieq b.Exit.Kind 1) (oN (zd0 b d) (oN f (share (up a.Guests c (zdB b d)) (fun e=>(some [(aT .bare ({a with Guests:=e}:Bare)),(aB true)]))))) (cond (ieq b.Exit.Kind 4) (oN (zd0 b d) (oN (zm3 (zdB b d)) (oN f (share (up a.Guests c (zy8 (zdB b d))) (fun e=>(some [(aT .bare ({a with Guests:=e}:Bare)),(aB true)])))))) (some [(aT .bare a),(aB false)])))))))
theorem zJr (a0:Bare)(a:Int)(b:zlo a0 a=true):∃N,zxN N a0 a=some [aT .bare (zfy a0 a),aB (zgQ a0 a)]:=by
 have c:=zL.1 b;have d:=zjN a c;have g:zce a0 a=true->hasB a (ln a0.Guests)=true:=fun h=>(zdx.1 h).2;have e:zce a0 a=true->gAt a0 a=ix a0.Guests a zC:=fun h=>ztW (zdx.1 h).2;have f:_/\_/\_/\_:=d;refine⟨0,?_⟩;unfold zxN oN nB;conv=>zeta
 refine mu (mu (brN (fun _=>?_) (fun _=>mu (br (fun _=>mu (mu (shr ?_))) (fun _=>br (fun _=>mu (mu (mu (shr ?_)))) (fun _=>?_))))));all_goals first|rfl|(simp only [*,zfy,zgQ,chg,zbZ,zxg,zxh,zkD,zd7,SmG,stopped,cT,cF]<;>rfl)|simp_all[Ty.cells,zfy,zgQ,chg,zbZ,zxg,zxh,zkD,zd7,SmG,stopped]
theorem zrE:vM 247 zm0:=kF2 zko zB zy zn (zq []) zJr
theorem zbbj {b:Bare}{g:Int}{c:Bool}{x:Guest}(h:zce b g=false):chg b g c x=b:=by unfold chg;rw[h];rfl
theorem z9N {b:Bare}{g n:Int}(h:zce b g=true):chg b g (zfU (gAt b g).Pending n) (zmV (gAt b g) n)=zd7 b g (zmV (gAt b g) n):=by unfold chg;rw[h];cases a:zfU (gAt b g).Pending n;{rw [zbaw a,z4H (zdx.1 h).2];rfl};{rfl}
@[simp] abbrev zln (b:Bare)(g n:Int):Bool:=pc (SmB b)
@[simp] abbrev zfx (b:Bare)(g n:Int):Bare:=chg b g (zfU (gAt b g).Pending n) (zmV (gAt b g) n)
@[simp] abbrev zgP (b:Bare)(g n:Int):Bool:=zbZ b g (zfU (gAt b g).Pending n)
def zmZ:Run:=rF3 (dT .bare) dI dI fun b c d=>(zln b c d,[aT .bare (zfx b c d),aB (zgP b c d)])
def zxM (N:Nat)(a0:Bare)(b d:Int):OA:=
 let a:=(zcr a0);let c:=(ix a.Guests b zC); (oN (zeX a0) (oN (ziR a b) (cond (nB (zj5 a b)) (some [(aT .bare a),(aB false)]) (oN (inb b (ln a.Guests)) (oN (zj0 c.Pending d) (oN (inb b (ln a.Guests)) (share (up a.Guests b ({c with Pending:=(zgx c.Pending d)}:Guest)) (fun e=>(some [(aT .bare ({a with Guests:=e}:Bare)),(aB (zmh c.Pending d))])))))))))
theorem zJq (a0:Bare)(a b:Int)(c:zln a0 a b=true):∃N,zxM N a0 a b=some [aT .bare (zfx a0 a b),aB (zgP a0 a b)]:=by
 have g:=zL.1 c;have i:zce a0 a=true->hasB a (ln a0.Guests)=true:=fun h=>(zdx.1 h).2;have e:zce a0 a=true->gAt a0 a=ix a0.Guests a zC:=fun h=>ztW (zdx.1 h).2;have f:=@z9N a0 a b;have d:=@zbbj a0 a (zfU (gAt a0 a).Pending b) (zmV (gAt a0 a) b);refine⟨0,?_⟩;unfold zxM oN nB;conv=>zeta
 refine mu (mu (brN (fun _=>?_) (fun _=>mu (must rfl (mu (shr ?_))))));all_goals first|rfl|(simp only [*,zfx,zgP,zbZ,zd7,zmV,cT,cF]<;>rfl)|simp_all[Ty.cells,zfx,zgP,zbZ,zd7,zmV]
theorem zrD:vM 248 zmZ:=kF3 zko zB zy zn (zq []) zJq
@[simp] abbrev zqL (b:Bare)(g:Int)(c:Ctl):Bool:=pc (SmB b)
@[simp] abbrev zh2 (b:Bare)(g:Int)(c:Ctl):Bare:=chg b g (zg7 c) (zIn (gAt b g) c)
@[simp] abbrev zjX (b:Bare)(g:Int)(c:Ctl):Bool:=zbZ b g (zg7 c)
def zsk:Run:=rF3 (dT .bare) dI dC fun b c d=>(zqL b c d,[aT .bare (zh2 b c d),aB (zjX b c d)])
def zGL (N:Nat)(a0:Bare)(b:Int)(c:Ctl):OA:=
 let a:=(zcr a0); (oN (zeX a0) (oN (ziR a b) (cond (nB (zj5 a b)) (some [(aT .bare a),(aB false)]) (oN (zrP c) (cond (nB (zp4 c)) (some [(aT .bare a),(aB false)]) (oN (inb b (ln a.Guests)) (share (up a.Guests b ({ (ix a.Guests b zC) with Ctl:=c}:Guest)) (fun d=>(some [(aT .bare ({a with Guests:=d}:Bare)),(aB true)])))))))))
theorem zSr (a0:Bare)(a:Int)(b:Ctl)(c:zqL a0 a b=true):∃N,zGL N a0 a b=some [aT .bare (zh2 a0 a b),aB (zjX a0 a b)]:=by
 have e:=zL.1 c;have f:zce a0 a=true->hasB a (ln a0.Guests)=true:=fun h=>(zdx.1 h).2;have d:zce a0 a=true->gAt a0 a=ix a0.Guests a zC:=fun h=>ztW (zdx.1 h).2;refine⟨0,?_⟩;unfold zGL oN nB;conv=>zeta
 refine mu (mu (brN (fun _=>?_) (fun _=>must rfl (brN (fun _=>?_) (fun _=>mu (shr ?_))))));all_goals first|rfl|(simp only [*,zh2,zjX,chg,zbZ,zIn,zd7,cT,cF]<;>rfl)|simp_all[Ty.cells,zh2,zjX,chg,zbZ,zIn,zd7]
theorem zvz:vM 249 zsk:=kF3 zko zB zy zn (zq []) zSr
def z9t (p c v:Int):Bool:=bif hasB p 8 then (cond (hasB c 4) (win v 0 99) false) else false
def zyq (b:Bare)(p c v:Int):Bool:=bif zca b then z9t p c v else false
def zTy (b:Bare)(p c v:Int):Bare:=bif zyq b p c v then {b with Memory:=zbK b.Memory p c v} else b
def zlM (b:Bare):Bare:=bif zca b then {b with Pending:=zjR b.Pending} else b
def zr8 (b:Bare):Int:=bif zca b then zua b.Pending else -1
def zk1 (b:Bare):Bool:=bif zca b then !ilt (zdK b.Pending) 0 else false
def znP (b:Bare)(g a n:Int):Bool:=bif zce b g then (cond (win a 0 15) (zfi (gAt b g).Live (zbi a) n) false) else false
def zFe (b:Bare)(g a n:Int):Int:=zcC (gAt b g).Live (zbi a) n
def zzQ (b:Bare)(g a v:Int):Bool:=bif znP b g a 2 then win v 0 99 else false
def z0G (b:Bare)(g a v:Int):Bare:=bif zzQ b g a v then {b with Memory:=zbK b.Memory (zFe b g a 2) (zdc a) v} else b
def zTC (b:Bare)(g a:Int):Int:=bif znP b g a 1 then cellAt b.Memory (zFe b g a 1) (zdc a) else 0
@[simp] abbrev zqK (b:Bare):Bool:=pc (SmB b)
@[simp] abbrev zh1 (b:Bare):Bare:=zlM b
@[simp] abbrev zjV (b:Bare):Int:=zr8 b
@[simp] abbrev zjW (b:Bare):Bool:=zk1 b
def zsj:Run:=rF1 (dT .bare) fun b=>(zqK b,[aT .bare (zh1 b),aI (zjV b),aB (zjW b)])
def zGK (N:Nat)(a0:Bare):OA:=
 let a:=(zcr a0); (oN (zeX a0) (oN (zor a) (cond (nB (zeC a)) (some [(aT .bare a),(aI (-1)),(aB false)]) (oN (zq4 a.Pending) (some [(aT .bare ({a with Pending:=(zj2 a.Pending)}:Bare)),(aI (zj3 a.Pending)),(aB (zmk a.Pending))])))))
theorem zSq (a0:Bare)(a:zqK a0=true):∃N,zGK N a0=some [aT .bare (zh1 a0),aI (zjV a0),aB (zjW a0)]:=by
 have b:=zL.1 a;refine⟨0,?_⟩;unfold zGK oN nB;conv=>zeta
 refine mu (must rfl (brN (fun _=>?_) (fun _=>must rfl ?_)));all_goals first|rfl|(simp only [*,zh1,zjV,zjW,zlM,zr8,zk1,zjR,zua,cT,cF]<;>rfl)|simp_all[Ty.cells,zh1,zjV,zjW,zlM,zr8,zk1,zjR,zua]
theorem zvy:vM 253 zsj:=kF1 zko zB zy zn (zq []) zSq
def z8I:zW:=z8H
theorem zUk:zK z8I:=zko
def zdU (l:List Guest)(n:Int):List Int:=idxs (fun (x:Guest)=>posts x.Ctl n) l 0
theorem zUX {d:Type}(p:d->Bool):∀(l:List d) (i:Nat),∀k∈idxs p l i,(i:Int)<=k/\k<(i:Int)+l.length
 |[],_,k,a=>by cases a
 |x::l,i,k,a=>by have c:=zUX p l (i+1);simp only[qY];unfold idxs at a;cases b:p x;{rw [b]at a;have:=c k a;omega};{rw [b]at a;rcases qG.1 a with rfl|a;{omega};{have:=c k a;omega}}
@[simp] abbrev zuN (b:Bare)(n:Int):Bool:=pc (SmB b)
@[simp] abbrev zlz (b:Bare)(n:Int):List Int:=zdU b.Guests n
def zyV:Run:=rF2 (dT .bare) dI fun b c=>(zuN b c,[aS .int (zlz b c)])
def zCT (N:Nat)(a0:Bare)(e:Int):OA:=
 (iter (σ:=(Int×(Int×(Int×((List Int)×(lM×(lG×((List Int)×Unit)))))))) N (fun c a=>let b:=a.2.2.2.2.2.1;let d:=(ix b a.2.1 zC).Ctl; (cond (ilt a.2.1 (ln b)) (oN (inb a.2.1 (ln b)) (oN (zEO d a.1) (cond (zza d a.1) (oN (few (ln (ap a.2.2.2.1 [a.2.1]))) (c (a.1,((zM .i64 a.2.1 1),(a.2.2.1,((ap a.2.2.2.1 [a.2.1]),(a.2.2.2.2.1,(b,(a.2.2.2.2.2.2.1,()))))))))) (c (a.1,((zM .i64 a.2.1 1),(a.2.2.1,(a.2.2.2.1,(a.2.2.2.2.1,(b,(a.2.2.2.2.2.2.1,()))))))))))) (some [(aS .int a.2.2.2.1)]))) (e,(0,(a0.Pending,([],(a0.Memory,(a0.Guests,(a0.Outs,()))))))))
def zQa:FuncId->Nat->Option Tmpl:=zq [(305,0,{n:=28,tm:=[(1,ti),(2,.lp 0 0),(5,.sl 0 []),(6,ti)],lo:=[(0,[.sl 1 [],.sl 2 [],.sl 3 [],ti])],ro:=[(0,.int,true),(1,(.sl .int),false),(2,.guest,false),(3,.int,false)]})]
theorem zPg (a0:Bare)(a:Int)(f:zuN a0 a=true):∃N,zCT N a0 a=some [aS .int (zlz a0 a)]:=by
 have g:=zL.1 f;have d:=zcF g.2.1.1;refine zcq fun N c=>?_;unfold zCT oN;conv=>zeta
 refine(zbm a0.Guests (fun i (t:(List Int))=>(a,(i:Int),a0.Pending,t,a0.Memory,a0.Guests,a0.Outs,())) _ (fun i (x:Guest) (t:List Int) e=>bif posts x.Ctl a then (cond (few (ln (ap t [(i:Int)]))) (e (ap t [(i:Int)])) none) else e t) (fun (t:(List Int))=>(some [(.one (.s .int t))])) (fun i b t rec=>?_) (fun t rec=>?_) _ ([]) (c d.1)).trans ?_;{simp only [zbs b,zbe b,zbj b,zbh b d.1,cT]};{simp only [zbn,cF]};exact ztY (fun (x:Guest)=>posts x.Ctl a) _ a0.Guests 0 [] (by simpa using d.2)
theorem zIZ:vM 305 zyV:=kF2 zUk zB zy zn zQa zPg
def z8J:zW:=[(305,zyV)]++z8I
theorem zUl:zK z8J:=zi zIZ zUk
def zFx (n:Int)(l:List Guest)(k:Int):List Guest:=up l k (zmV (ix l k zC) n)
def zlj (n:Int)(ks:List Int)(l:List Guest):List Guest:=ks.foldl (zFx n) l
theorem zD1 (n:Int)(l:List Guest)(k:Int):(zFx n l k).length=l.length:=zf0 _ _ _
theorem z18 {n:Int}{l:List Guest}{k:Int}(a:hasB k (ln l)=true)(h:zkh l):zkh (zFx n l k):=zFE h (z4O h a _)
theorem zEW {n:Int}:∀(ks:List Int) {l:List Guest},(∀k∈ks,hasB k (ln l)=true)->zkh l->zkh (zlj n ks l)/\(zlj n ks l).length=l.length
 |[],_,_,h=>⟨h,rfl⟩
 |k::ks,l,a,h=>by have d:=z18 (n:=n) (a k (by simp)) h;obtain⟨b,c⟩:=zEW (n:=n) ks (l:=zFx n l k) (fun j e=>by rw[ln,zD1];exact a j (by simp[e])) d;exact⟨b,c.trans (zD1 _ _ _)⟩
theorem zUJ {c:Type}(n:Int)(K:List Guest->Option c):∀(ks:List Int) (i:Nat) (l:List Guest),(∀k∈ks,hasB k (ln l)=true)->
 goL (fun _ k (t:List Guest) κ=>bif inb k (ln t) then (cond (inb k (ln t)) (κ (up t k (zmV (ix t k zC) n))) none) else none) K ks i l=K (zlj n ks l)
 |[],_,_,_=>rfl
 |k::ks,i,l,h=>by have b:inb k (ln l)=true:=h k (by simp);simp only[goL,b,cT];exact zUJ n K ks (i+1) (zFx n l k) (fun j a=>by rw[ln,zD1];exact h j (by simp[a]))
def zFy (b:Bare)(n:Int):Bare:=bif ieq (ln (zdU b.Guests n)) 0 then {b with Pending:=zs7 b.Pending n} else {b with Guests:=zlj n (zdU b.Guests n) b.Guests}
def zeK (b:Bare)(n:Int):Bool:=bif zca b then hasB n 8 else false
def zja (b:Bare)(n:Int):Bare:=bif zeK b n then zFy b n else b
theorem zMQ {b:Bare}{n:Int}:∀k∈zdU b.Guests n,hasB k (ln b.Guests)=true:=fun k a=>by have:=zUX _ _ _ k a;exact qJ (by simp only[ln];omega)
theorem z1v {b:Bare}{n:Int}(h:ieq (ln (zdU b.Guests n)) 0=true):zlj n (zdU b.Guests n) b.Guests=b.Guests:=by have a:((zdU b.Guests n).length:Int)=0:=qE h;have:zdU b.Guests n=[]:=uS.1 (by omega);rw[this];rfl
theorem z1u {b:Bare}{n:Int}:(cond (ieq (ln (zdU b.Guests n)) 0) (some [AV.agg (Ty.cells .bare ⟨b.Memory,zlj n (zdU b.Guests n) b.Guests,b.Outs,zs7 b.Pending n⟩),AV.one (.b true)]) (some [AV.agg (Ty.cells .bare ⟨b.Memory,zlj n (zdU b.Guests n) b.Guests,b.Outs,b.Pending⟩),AV.one (.b true)]))=some [AV.agg (Ty.cells .bare (zFy b n)),AV.one (.b true)]:=by unfold zFy;cases h:ieq (ln (zdU b.Guests n)) 0;{rfl};{simp only [cT,z1v h]}
@[simp] abbrev zos (b:Bare)(n:Int):Bool:=pc (SmB b)
@[simp] abbrev ziz (b:Bare)(n:Int):Bare:=zja b n
@[simp] abbrev zkL (b:Bare)(n:Int):Bool:=zeK b n
def zpW:Run:=rF2 (dT .bare) dI fun b c=>(zos b c,[aT .bare (ziz b c),aB (zkL b c)])
def zCK (N:Nat)(a0:Bare)(e:Int):OA:=
 let b:=(zcr a0); (oN (zeX a0) (oN (zor b) (cond (nB (zeC b)) (some [(aT .bare b),(aB false)]) (oN (zN e 0 7) (cond (nB (zT e 0 7)) (some [(aT .bare b),(aB false)]) (oN (zuN b e) (iter (σ:=(Int×(Int×(Int×(Int×((List Int)×(lM×(lG×((List Int)×(lM×(lG×((List Int)×Unit)))))))))))) N (fun i a=>let h:=a.2.2.2.2.2.2.2.1;let d:=a.2.2.2.2.1;let c:=a.2.2.2.2.2.2.1;let f:=(ix d a.2.1 0);let g:=(ix c f zC); (cond (ilt a.2.1 (ln d)) (oN (inb a.2.1 (ln d)) (oN (inb a.2.1 (ln d)) (oN (inb f (ln c)) (oN (zj0 g.Pending a.1) (oN (inb f (ln c)) (i (a.1,((zM .i64 a.2.1 1),(a.2.2.1,(a.2.2.2.1,(d,(a.2.2.2.2.2.1,((up c f ({g with Pending:=(zgx g.Pending a.1)}:Guest)),(h,(a.2.2.2.2.2.2.2.2.1,(a.2.2.2.2.2.2.2.2.2.1,(a.2.2.2.2.2.2.2.2.2.2.1,()))))))))))))))))) (cond (ieq (ln d) 0) (oN (zj0 a.2.2.1 a.1) (some [(aT .bare (⟨a.2.2.2.2.2.1,c,h,(zgx a.2.2.1 a.1)⟩:Bare)),(aB true)])) (some [(aT .bare (⟨a.2.2.2.2.2.1,c,h,a.2.2.1⟩:Bare)),(aB true)])))) (e,(0,(b.Pending,(0,((zlz b e),(b.Memory,(b.Guests,(b.Outs,([],([],([],()))))))))))))))))))
def zP6:FuncId->Nat->Option Tmpl:=zq [(252,0,{n:=62,tm:=[(1,ti),(2,.lp 0 0),(4,.lp 1 0),(6,.sl 0 []),(7,ti)],lo:=[(0,[.sl 1 [],.sl 2 [],.sl 3 [],ti]),(1,[.sl 4 [],.sl 5 [],.sl 6 [],ti])],ro:=[(0,.int,true),(1,(.sl .int),true),(2,.guest,true),(3,.int,true),(4,(.sl .int),true),(5,.guest,true),(6,.int,true)]})]
theorem zO7 (a0:Bare)(a:Int)(j:zos a0 a=true):∃N,zCK N a0 a=some [aT .bare (ziz a0 a),aB (zkL a0 a)]:=by
 have g:=zL.1 j;have h:(zdU a0.Guests a).length<=big:=qU (zAd _ _ _) (zcF g.2.1.1).1;refine zcq fun N f=>?_;unfold zCK ziz zkL zja zeK oN nB;conv=>zeta
 refine must (zbg g) (must rfl (brN (fun d=>?_) (fun d=>must rfl (brN (fun c=>?_) (fun c=>must (zbg g) ?_)))));{simp only [show zca a0=false from d,cF]};{simp only [show zca a0=true from d,show hasB a 8=false from by first|exact c|exact(z5d a).symm.trans c,cT,cF]};simp only[show zca a0=true from d,show hasB a 8=true from by first|exact c|exact(z5d a).symm.trans c,cT];refine(zbm (zlz (zcr a0) a) (fun i (t:lG)=>(a,(i:Int),(zcr a0).Pending,0,(zlz (zcr a0) a),(zcr a0).Memory,t,(zcr a0).Outs,[],[],[],())) _ (fun _ k (t:List Guest) l=>bif inb k (ln t) then (cond (inb k (ln t)) (l (up t k (zmV (ix t k zC) a))) none) else none) (fun (t:lG)=>(cond (ieq (ln (zlz (zcr a0) a)) 0) (cond (zj0 (zcr a0).Pending a) (some [(.agg (Ty.cells .bare (⟨(zcr a0).Memory,t,(zcr a0).Outs,(zgx (zcr a0).Pending a)⟩:Bare))),(.one (.b true))]) none) (some [(.agg (Ty.cells .bare (⟨(zcr a0).Memory,t,(zcr a0).Outs,(zcr a0).Pending⟩:Bare))),(.one (.b true))]))) (fun i e t rec=>?_) (fun t rec=>?_) _ ((zcr a0).Guests) (f h)).trans ?_;{simp only [zbs e,zbe e,zbj e,zbh e h,cT];rfl};{simp only [zbn,cF];rfl};exact(zUJ a _ _ 0 _ zMQ).trans z1u
theorem zt0:vM 252 zpW:=kF2 zUl zB zy zn zP6 zO7
def z2y:zW:=[(240,zsl),(243,zog),(246,zmY),(247,zm0),(248,zmZ),(249,zsk),(253,zsj),(252,zpW)]++z8J
theorem zDg:zK z2y:=zi zvA (zi zsK (zi zrC (zi zrE (zi zrD (zi zvz (zi zvy (zi zt0 zUl)))))))
theorem z4V {n:Int}(h:(ieq n 4||ieq n 8)=true):n=4\/n=8:=by rcases kF _ _ ▸ h with h|h;{exact .inl (qE h)};{exact .inr (qE h)}
theorem z3U {n:Int}(h:(ieq n 8||ieq n 12)=true):n=8\/n=12:=by rcases kF _ _ ▸ h with h|h;{exact .inl (qE h)};{exact .inr (qE h)}
@[simp] abbrev ziD (n:Int):Bool:=ieq n 4||ieq n 8
@[simp] abbrev zgp (n:Int):List Slot:=List.replicate n.toNat ⟨-1,0⟩
def zp0:Run:=rF1 dI fun b=>(ziD b,[aS .slot (zgp b)])
def zTN (N:Nat)(a0:Int):OA:=
 (oN (zqN a0 0 24) (iter (σ:=(Int×(lS×Unit))) N (fun b a=>(cond (igt a.1 0) (oN zcv (oN (few (ln (ap a.2.1 [zbu]))) (b ((wsub .i64 a.1 1),((ap a.2.1 [zbu]),()))))) (some [(aS .slot a.2.1)]))) ((zrO a0 0 24),([],()))))
def zQc:FuncId->Nat->Option Tmpl:=zq [(144,0,{n:=17,tm:=[(3,.sl 0 []),(4,ti)],lo:=[],ro:=[(0,.slot,true)]})]
theorem zPn (a0:Int)(a:ziD a0=true):∃N,zTN N a0=some [aS .slot (zgp a0)]:=by refine⟨30,?_⟩;have h:a0=4\/a0=8:=z4V a;rcases h with rfl|rfl<;>(change _=_;kernel_rfl)
theorem zt3:vM 144 zp0:=kF1 zDg zB zy zn zQc zPn
@[simp] abbrev zoF (n:Int):Bool:=ieq n 8||ieq n 12
@[simp] abbrev zje (n:Int):List (List Int):=List.replicate n.toNat [0,0,0,0]
def zuz:Run:=rF1 dI fun b=>(zoF b,[aS (.sl .int) (zje b)])
def z0b (N:Nat)(a0:Int):OA:=
 (oN (zqN a0 0 24) (iter (σ:=(Int×(lM×Unit))) N (fun b a=>(cond (igt a.1 0) (oN (cond (few 4) (ieq 4 4) false) (oN (few (ln (ap a.2.1 [(rp 4 0)]))) (b ((wsub .i64 a.1 1),((ap a.2.1 [(rp 4 0)]),()))))) (some [(aS (.sl .int) a.2.1)]))) ((zrO a0 0 24),([],()))))
def zXe:FuncId->Nat->Option Tmpl:=zq [(84,0,{n:=17,tm:=[(3,.sl 0 []),(4,ti)],lo:=[],ro:=[(0,(.sl .int),true)]})]
theorem zVt (a0:Int)(a:zoF a0=true):∃N,z0b N a0=some [aS (.sl .int) (zje a0)]:=by refine⟨30,?_⟩;have h:a0=8\/a0=12:=z3U a;rcases h with rfl|rfl<;>(change _=_;kernel_rfl)
theorem zx8:vM 84 zuz:=kF1 zDg zB zy zn zXe zVt
def z2z:zW:=[(144,zp0),(84,zuz)]++z2y
theorem zQS:zK z2z:=zi zt3 (zi zx8 zDg)
def zkY:List Slot:=List.replicate 4 ⟨-1,0⟩
def zeA (p:List Ins):Guest:=⟨p,0,0,zkY,zkY,⟨0,0,false⟩,0,⟨0,0,false,0⟩,false,[]⟩
@[simp] abbrev ziA (p:List Ins):Bool:=pc (p.length<=1048576)
@[simp] abbrev zcn (p:List Ins):Guest:=zeA p
def zll:Run:=rF1 (dS .ins) fun b=>(ziA b,[aT .guest (zcn b)])
def zCN (N:Nat)(a0:lI):OA:=
 (oN (few (ln (ap [] a0))) (oN (ziD 4) (oN (ziD 4) (some [(aT .guest (⟨(ap [] a0),0,0,(zgp 4),(zgp 4),⟨0,0,false⟩,0,⟨0,0,false,0⟩,false,[]⟩:Guest))]))))
theorem zPa (a0:List Ins)(a:ziA a0=true):∃N,zCN N a0=some [aT .guest (zcn a0)]:=by have b:=zL.1 a;refine⟨0,?_⟩;unfold zCN oN;refine mu (must rfl (must rfl ?_));first|rfl|(simp only [*,zcn,zeA,zkY,cT,cF]<;>rfl)|simp_all[Ty.cells,zcn,zeA,zkY]
theorem zmR:vM 145 zll:=kF1 zQS zB zy zn (zq []) zPa
def zbbv:zW:=[(145,zll)]++z2z
theorem zDh:zK zbbv:=zi zmR zQS
def zPE:List (List Int):=List.replicate 8 [0,0,0,0]
def SmPs (a:List (List Ins)):Prop:=a.length<=1048576/\∀p∈a,p.length<=1048576
theorem zRl {d c j:Type}(m:Nat)(f:d->c)(K:List c->Option j):∀(l:List d) (i:Nat) (a:List c),a.length+l.length<=2147483648->
 goL (fun (i:Nat) x a k=>bif ilt (i:Int) (m:Int) then (cond (few (ln (ap a [f x]))) (k (ap a [f x])) none) else K a) K l i a=K (a++(l.take (m-i)).map f)
 |[],i,a,_=>by simp[goL]
 |x::l,i,a,g=>by simp only[qY]at g;have e:few (ln (ap a [f x]))=true:=zgi (by simp[ap];omega);by_cases h:i<m;{have b:ilt (i:Int) (m:Int)=true:=qJ (by omega);simp only[goL,b,e,cT];rw[zRl m f K l (i+1) (ap a [f x]) (by simp[ap];omega)];rw[show m-i=m-(i+1)+1 by omega];simp[ap]};{have b:ilt (i:Int) (m:Int)=false:=qL (by omega);simp only[goL,b,cF];rw[show m-i=0 by omega];simp}
@[simp] abbrev zEH (a:GAct):Bool:=true
@[simp] abbrev zy7 (a:GAct):Bool:=win a.Kind 1 17
def zHG:Run:=rF1 (dT .act) fun b=>(zEH b,[aB (zy7 b)])
def zQs (N:Nat)(a0:GAct):OA:=
 (oN (zN a0.Kind 1 17) (some [(aB (zT a0.Kind 1 17))]))
theorem zX4 (a0:GAct)(a:zEH a0=true):∃N,zQs N a0=some [aB (zy7 a0)]:=by refine⟨0,?_⟩;unfold zQs oN;refine must rfl ?_;first|rfl|(simp only [*,zy7,cT,cF]<;>rfl)|simp_all[Ty.cells,zy7]
theorem zRZ:vM 153 zHG:=kF1 zDh zB zy zn (zq []) zX4
@[simp] abbrev zxr (k:Int):Bool:=true
@[simp] abbrev zrR (k:Int):Bool:=win k 13 17
def zBO:Run:=rF1 dI fun b=>(zxr b,[aB (zrR b)])
def zGW (N:Nat)(a0:Int):OA:=
 (oN (zN a0 13 17) (some [(aB (zT a0 13 17))]))
theorem zSC (a0:Int)(a:zxr a0=true):∃N,zGW N a0=some [aB (zrR a0)]:=by refine⟨0,?_⟩;unfold zGW oN;refine must rfl ?_;first|rfl|(simp only [*,zrR,cT,cF]<;>rfl)|simp_all[Ty.cells,zrR]
theorem zLC:vM 154 zBO:=kF1 zDh zB zy zn (zq []) zSC
@[simp] abbrev zEI (a:GAct):Bool:=true
@[simp] abbrev zp3 (a:GAct):Ctl:=⟨a.X,a.Y,ieq a.Z 1⟩
def zHH:Run:=rF1 (dT .act) fun b=>(zEI b,[.agg (znM (zp3 b))])
def zQt (N:Nat)(a0:GAct):OA:=
 (some [(.agg [(.i .i64 a0.X),(.i .i64 a0.Y),(.b (ieq a0.Z 1))])])
theorem zX5 (a0:GAct)(a:zEI a0=true):∃N,zQt N a0=some [.agg (znM (zp3 a0))]:=by refine⟨0,?_⟩;unfold zQt;first|rfl|(simp only [*,zp3,cT,cF]<;>rfl)|simp_all[Ty.cells,zp3]
theorem zR0:vM 163 zHH:=kF1 zDh zB zy zn (zq []) zX5
def zUg:zW:=[(240,zsl),(243,zog),(246,zmY),(247,zm0),(248,zmZ),(249,zsk),(253,zsj),(252,zpW),(84,zuz)]++z8F
theorem zDj:zK zUg:=zi zvA (zi zsK (zi zrC (zi zrE (zi zrD (zi zvz (zi zvy (zi zt0 (zi zx8 z5X))))))))
def zcW (x:Mon):Bare:=⟨zPE,x.Guests,x.Outs,x.Pending⟩
def zvj (x:Mon)(b:Bare):Mon:={x with Guests:=b.Guests,Pending:=b.Pending}
def zc6 (h:Host)(m:Int)(b:Bare):Host:={h with Mons:=up h.Mons m (zvj (ix h.Mons m mZ) b)}
@[simp] abbrev zeo (x:Mon):Bool:=pc (zeP x)
@[simp] abbrev zbL (x:Mon):Bare:=zcW x
def zB4:Run:=rF1 (dT .mon) fun b=>(zeo b,[aT .bare (zbL b)])
def zHd (N:Nat)(a0:Mon):OA:=
 (oN (zoF 8) (oN (zfr a0.Guests) (oN (few (ln (ap [] a0.Outs))) (some [(aT .bare (⟨(zje 8),(zfO a0.Guests),(ap [] a0.Outs),a0.Pending⟩:Bare))]))))
theorem zSZ (a0:Mon)(b:zeo a0=true):∃N,zHd N a0=some [aT .bare (zbL a0)]:=by have a:=zL.1 b;refine⟨0,?_⟩;unfold zHd oN;exact must rfl (must (zbg ((zvo _).2 a.2.2.2.1)) (must (znj a.2.2.2.2.1) rfl))
theorem zL5:vM 241 zB4:=kF1 zDj zB zcf ziN (zq []) zSZ
@[simp] abbrev zen (h:Host)(m:Int)(b:Bare):Bool:=pc (hasB m (ln h.Mons)=true/\zkh b.Guests)
@[simp] abbrev zgD (h:Host)(m:Int)(b:Bare):Host:=zc6 h m b
theorem zbb5 {l:List Mon}{m:Int}(a:hasB m (ln l)=true)(b:Bare):inb m (ln (up l m {ix l m mZ with Guests:=b.Guests}))=true/\
 up (up l m {ix l m mZ with Guests:=b.Guests}) m {ix (up l m {ix l m mZ with Guests:=b.Guests}) m mZ with Pending:=b.Pending}=up l m (zvj (ix l m mZ) b):=by
 obtain⟨k,rfl,c⟩:=zds (n:=l.length) a;refine⟨zJ (by rw[ln,zf0];exact a),?_⟩
 rw[zrp,zdq c];rfl
def zsv:List AV->Option (Bool×List AV)
 |[.agg [.s (.sl .int) b,.s .mon c,.s .entry d,.s .entry e],.one (.i .i64 f),.agg [.s (.sl .int) g,.s .guest h,.s .int j,.i .i64 k]]=>some ((zen (⟨b,c,d,e⟩:Host) f (⟨g,h,j,k⟩:Bare)),[aH (zgD (⟨b,c,d,e⟩:Host) f (⟨g,h,j,k⟩:Bare))])
 |_=>none
def zw4 (N:Nat)(a0:Host)(a:Int)(b:Bare):OA:=
 (oN (zfr b.Guests) (oN (inb a (ln a0.Mons)) (share (up a0.Mons a ({ (ix a0.Mons a zh) with Guests:=(zfO b.Guests)}:Mon)) (fun c=>(oN (inb a (ln c)) (share (up c a ({ (ix c a zh) with Pending:=b.Pending}:Mon)) (fun d=>(some [(aH ({a0 with Mons:=d}:Host))]))))))))
theorem zV4 (N:Nat)(a0:Host)(a:Int)(b:Bare):z0I (cQ zUg zpL z1t z7r) (zq []) N 12 242 [true,true,true,true,false,false,false,false,false] [aH a0,aI a,aT .bare b]=zw4 N a0 a b:=by kernel_rfl
theorem zSY (a0:Host)(b:Int)(a:Bare)(h:zb6 big [aH a0,aI b,aT .bare a])(g:zen a0 b a=true):∃N,zw4 N a0 b a=some [aH (zgD a0 b a)]:=by obtain⟨c,hg⟩:=zL.1 g;obtain⟨d,f⟩:=zbb5 c a;refine⟨0,?_⟩;unfold zw4 oN;refine must (zbg ((zvo _).2 hg)) (must (zJ c) (shr (must d (shr ?_))));have e:zfO a.Guests=a.Guests:=rfl;rw[e];show some [AV.agg (zbl {a0 with Mons:=_})]=some [AV.agg (zbl {a0 with Mons:=_})];rw[show zh=mZ from rfl,f]
theorem zL4:zdR Tryz.prog 242 [true,true,true,true,false,false,false,false,false] none zsv:=by refine zN3 (zf2 zDj zB zcf ziN) (ziZ (by kernel_rfl)) (by kernel_rfl) ?_;intro a g f e h;have c:=zih e;unfold zsv at h;split at h;{obtain⟨d,rfl⟩:=zdW h;obtain⟨N,b⟩:=zSY _ _ _ (by exact c) d;exact⟨_,N,12,(zV4 N _ _ _ ).trans b⟩};{cases h}
def z2E:zW:=[(241,zB4)]++zUg
theorem ziO:zK z2E:=zi zL5 zDj
def zbcz:zfs:=[(242,([true,true,true,true,false,false,false,false,false],none,zsv))]++z7r
theorem zcZ:zea zbcz:=zqg ziN (by
 intro x a;simp only[qG,qO,or_false]at a;rcases a with rfl
 .exact zL4)
def z9A (h:Host)(m:Int)(cB:Bool)(B:Bare)(o0 o1:Host->Ans):OA:=
 bif zbP h then (cond (zfh h m) (cond (cond (zfg h m) false true) (some (o0 h)) (cond (inb m (ln h.Mons)) (cond (zeo (ix h.Mons m mZ)) (cond cB (cond (zen h m B) (some (o1 (zc6 h m B))) none) none) none) none)) none) else none
theorem zcA {h:Host}{m:Int}:(zcJ h m=true)↔zbX h=true/\hasB m (ln h.Mons)=true:=by unfold zcJ;cases zbX h<;>simp
theorem znf {h:Host}{m:Int}{cB:Bool}{B:Bare}{o0 o1:Host->Ans}(c:SmH h)(e:zcJ h m=true->cB=true)(d:zcJ h m=true->SmB B):z9A h m cB B o0 o1=some (cond (zcJ h m) (o1 (zc6 h m B)) (o0 h)):=by unfold z9A;refine must (zbg ((zV h).2 c)) (must rfl ?_);rw[show zfg h m=zcJ h m from rfl];cases a:zcJ h m;{rfl};{have b:=(zcA.1 a).2;exact zdh rfl (must (zJ b) (must (zbg (c.2.1.2 _ (zbD b _))) (must (e a) (must (zbg ⟨b,(d a).2.1⟩) rfl))))}
structure SameB (b c:Bare):Prop where
 g:b.Guests=c.Guests
 p:b.Pending=c.Pending
 o:zca b=zca c
theorem SameB.at {b c:Bare}(h:SameB b c)(g:Int):gAt b g=gAt c g:=by unfold gAt;rw[h.g]
theorem SameB.has {b c:Bare}(h:SameB b c)(g:Int):zce b g=zce c g:=by unfold zce;rw[h.g,h.o]
theorem back_eq {h:Host}{m:Int}{b c:Bare}(hg:b.Guests=c.Guests)(a:b.Pending=c.Pending):zc6 h m b=zc6 h m c:=by unfold zc6 zvj;rw[hg,a]
theorem zpv {b c:Bare}(a:SameB b c)(h:Host)(m g:Int)(k:Bool)(x:Guest):zc6 h m (chg b g k x)=zc6 h m (chg c g k x):=by unfold chg;rw[a.has];cases (cond (zce c g) k false);{exact back_eq a.g a.p};{exact back_eq (by simp only[cT,zd7,a.g]) a.p}
theorem zk4 {b c:Bare}(a:SameB b c)(g:Int)(k:Bool):zbZ b g k=zbZ c g k:=by unfold zbZ;rw[a.has]
theorem ziS {h:Host}{m:Int}(b:zcJ h m=true)(d:zca (zcW (ix h.Mons m mZ))=true):SameB (zcW (ix h.Mons m mZ)) (zG h m):=by obtain⟨c,a⟩:=zcA.1 b;refine⟨?_,?_,d.trans (zHf c a).symm⟩<;>unfold zG zcW<;>rw [a]<;>rfl
theorem zbaB:zha zPE 8=true:=by decide
theorem znD {h:Host}{m:Int}(b:zcJ h m=true):zca (zcW (ix h.Mons m mZ))=true:=by obtain⟨c,a⟩:=zcA.1 b;have:=zHf c a;unfold zG at this;rw[a,cT] at this;unfold zca at this ⊢;simp only[zcW,zbaB] at *;simp_all
theorem zeE {x:Mon}(h:zeP x):SmB (zcW x):=⟨show SmM zPE from ⟨by decide,by decide⟩,h.2.2.2.1,h.2.2.2.2.1⟩
def zeu (h:Host)(m:Int)(b:Bare):Host:=bif zcJ h m then zc6 h m b else h
def zdQ (h:Host)(m:Int)(ok:Bool):Bool:=bif zcJ h m then ok else false
@[simp] abbrev zjU (b:Bare)(g p:Int)(s:Slot):Bare:=chg b g (zsE p s) (zAP (gAt b g) p s)
@[simp] abbrev zl5 (b:Bare)(g p:Int)(s:Slot):Bool:=zbZ b g (zsE p s)
@[simp] abbrev zgK (b:Bare)(g v:Int):Bare:=chg b g (zr9 (gAt b g) v) (zw6 (gAt b g) v)
@[simp] abbrev zis (b:Bare)(g v:Int):Bool:=zbZ b g (zr9 (gAt b g) v)
@[simp] abbrev zgM (b:Bare)(g:Int):Bare:=chg b g (zxg (gAt b g)) (zxh (gAt b g))
@[simp] abbrev ziu (b:Bare)(g:Int):Bool:=zbZ b g (zxg (gAt b g))
@[simp] abbrev zgL (b:Bare)(g n:Int):Bare:=chg b g (zfU (gAt b g).Pending n) (zmV (gAt b g) n)
@[simp] abbrev zit (b:Bare)(g n:Int):Bool:=zbZ b g (zfU (gAt b g).Pending n)
@[simp] abbrev zjT (b:Bare)(g:Int)(c:Ctl):Bare:=chg b g (zg7 c) (zIn (gAt b g) c)
@[simp] abbrev zl4 (b:Bare)(g:Int)(c:Ctl):Bool:=zbZ b g (zg7 c)
@[simp] abbrev zl3 (b:Bare):Bare:=zlM b
@[simp] abbrev zqD (b:Bare):Int:=zr8 b
@[simp] abbrev zqE (b:Bare):Bool:=zk1 b
@[simp] abbrev zkB (b:Bare)(n:Int):Bare:=zja b n
@[simp] abbrev zn8 (b:Bare)(n:Int):Bool:=zeK b n
@[simp] abbrev zYq (h:Host)(m:Int)(g p:Int)(s:Slot):Host:=zeu h m (zjU (zG h m) g p s)
@[simp] abbrev zYr (h:Host)(m:Int)(g p:Int)(s:Slot):Bool:=zdQ h m (zl5 (zG h m) g p s)
@[simp] abbrev zPw (h:Host)(m:Int)(g v:Int):Host:=zeu h m (zgK (zG h m) g v)
@[simp] abbrev zPx (h:Host)(m:Int)(g v:Int):Bool:=zdQ h m (zis (zG h m) g v)
@[simp] abbrev zPA (h:Host)(m:Int)(g:Int):Host:=zeu h m (zgM (zG h m) g)
@[simp] abbrev zPB (h:Host)(m:Int)(g:Int):Bool:=zdQ h m (ziu (zG h m) g)
@[simp] abbrev zPy (h:Host)(m:Int)(g n:Int):Host:=zeu h m (zgL (zG h m) g n)
@[simp] abbrev zPz (h:Host)(m:Int)(g n:Int):Bool:=zdQ h m (zit (zG h m) g n)
@[simp] abbrev zYo (h:Host)(m:Int)(g:Int)(x:Ctl):Host:=zeu h m (zjT (zG h m) g x)
@[simp] abbrev zYp (h:Host)(m:Int)(g:Int)(x:Ctl):Bool:=zdQ h m (zl4 (zG h m) g x)
@[simp] abbrev zVT (h:Host)(m:Int)(n:Int):Host:=zeu h m (zkB (zG h m) n)
@[simp] abbrev zVU (h:Host)(m:Int)(n:Int):Bool:=zdQ h m (zn8 (zG h m) n)
@[simp] abbrev zYl (h:Host)(m:Int):Host:=zeu h m (zl3 (zG h m))
@[simp] abbrev zYm (h:Host)(m:Int):Int:=bif zcJ h m then zqD (zG h m) else -1
@[simp] abbrev zYn (h:Host)(m:Int):Bool:=zdQ h m (zqE (zG h m))
@[simp] abbrev zS0 (h:Host)(m g p:Int):Bool:=zdQ h m (zbZ (zG h m) g (hasB p 4))
theorem z4o {b c:Bare}(a:SameB b c)(n:Int):(zja b n).Guests=(zja c n).Guests/\(zja b n).Pending=(zja c n).Pending/\zeK b n=zeK c n:=by have e:zeK b n=zeK c n:=(by unfold zeK;rw[a.o]);unfold zja;rw[e];cases zeK c n;{exact⟨a.g,a.p,rfl⟩};{unfold zFy;rw[a.g];cases ieq (ln (zdU c.Guests n)) 0;{exact⟨by simp only[cT,cF],by simp only[cT,cF,a.p],rfl⟩};{exact⟨by simp only[cT,a.g],by simp only[cT,a.p],rfl⟩}}
theorem z5g {b c:Bare}(a:SameB b c):(zlM b).Guests=(zlM c).Guests/\(zlM b).Pending=(zlM c).Pending/\zr8 b=zr8 c/\zk1 b=zk1 c:=by unfold zlM zr8 zk1;rw[a.o,a.p];cases zca c;{exact⟨a.g,a.p,rfl,rfl⟩};{exact⟨a.g,rfl,rfl,rfl⟩}
theorem z4N {b:Bare}{n:Int}(h:SmB b):SmB (zja b n):=by unfold zja;cases zeK b n;{exact h};{unfold zFy;cases ieq (ln (zdU b.Guests n)) 0;{exact⟨h.1,(zEW _ zMQ h.2.1).1,h.2.2⟩};{exact h}}
theorem z7c {b:Bare}(h:SmB b):SmB (zlM b):=by unfold zlM;cases zca b;{exact h};{exact h}
theorem ztq {H a:Host}{x y:Bool}(c:H=a)(d:x=y):some [AV.agg (zbl H),AV.one (.b x)]=some [AV.agg (zbl a),AV.one (.b y)]:=by rw[c,d]
theorem z9Q {H a:Host}{n k:Int}{x y:Bool}(c:H=a)(d:n=k)(e:x=y):some [AV.agg (zbl H),AV.one (.i .i64 n),AV.one (.b x)]=some [AV.agg (zbl a),AV.one (.i .i64 k),AV.one (.b y)]:=by rw[c,d,e]
theorem zZS {b:Bare}(g p:Int)(s:Slot)(a:SmB b):SmB (zjU b g p s):=zqf a (z7f _ _ (zjN _ a))
theorem z6Y {b c:Bare}(a:SameB b c)(h:Host)(m:Int)(g p:Int)(s:Slot):zc6 h m (zjU b g p s)=zc6 h m (zjU c g p s)/\zl5 b g p s=zl5 c g p s:=by have e:=a.at g;simp only[zjU,zl5,e];exact⟨zpv a _ _ _ _ _,zk4 a _ _⟩
@[simp] abbrev zxq (h:Host)(m:Int)(g p:Int)(s:Slot):Bool:=pc (zci h)
@[simp] abbrev zqY (h:Host)(m:Int)(g p:Int)(s:Slot):Host:=zeu h m (zjU (zG h m) g p s)
@[simp] abbrev zqZ (h:Host)(m:Int)(g p:Int)(s:Slot):Bool:=zdQ h m (zl5 (zG h m) g p s)
def zBN:Run:=rF5 dH dI dI dI (dT .slot) fun b c d e f=>(zxq b c d e f,[aH (zqY b c d e f),aB (zqZ b c d e f)])
def zGV (N:Nat)(a0:Host)(b d e:Int)(f:Slot):OA:=
 let a:=(zo a0);let c:=(ix a.Mons b zh); (oN (zbP a0) (oN (zfh a b) (cond (nB (zfg a b)) (some [(aH a),(aB false)]) (oN (inb b (ln a.Mons)) (oN (zeo c) (oN (zqM (zbL c) d e f) (oN (zen a b (zh3 (zbL c) d e f)) (some [(aH (zgD a b (zh3 (zbL c) d e f))),(aB (zjY (zbL c) d e f))]))))))))
theorem zSB (a0:Host)(a c d:Int)(e:Slot)(l:zxq a0 a c d e=true):∃N,zGV N a0 a c d e=some [aH (zqY a0 a c d e),aB (zqZ a0 a c d e)]:=by
 have g:=(zV a0).1 (zL.1 l);refine⟨0,?_⟩;have i:=znf (h:=a0) (m:=a) (cB:=zqM (zcW (ix a0.Mons a mZ)) c d e) (B:=zh3 (zcW (ix a0.Mons a mZ)) c d e) (o0:=fun H=>[.agg (zbl H),.one (.b false)]) (o1:=fun H=>[.agg (zbl H),.one (.b (zjY (zcW (ix a0.Mons a mZ)) c d e))]) g
  (fun f=>zbg (zeE (g.2.1.2 _ (zbD (zcA.1 f).2 _)))) (fun f=>zZS _ _ _ (zeE (g.2.1.2 _ (zbD (zcA.1 f).2 _))))
 refine(show zGV 0 a0 a c d e=_ from i).trans ?_;unfold zqY zqZ zeu zdQ;cases f:zcJ a0 a;{rfl};{obtain⟨j,k⟩:=z6Y (ziS f (znD f)) a0 a c d e;simp only[cT];exact ztq j k}
theorem zLB:vM 157 zBN:=kF5 ziO zB zcf zcZ (zq []) zSB
theorem zNd {b:Bare}(g v:Int)(a:SmB b):SmB (zgK b g v):=zqf a (z7d _ (zjN _ a))
theorem zYS {b c:Bare}(a:SameB b c)(h:Host)(m:Int)(g v:Int):zc6 h m (zgK b g v)=zc6 h m (zgK c g v)/\zis b g v=zis c g v:=by have e:=a.at g;simp only[zgK,zis,e];exact⟨zpv a _ _ _ _ _,zk4 a _ _⟩
@[simp] abbrev zp5 (h:Host)(m:Int)(g v:Int):Bool:=pc (zci h)
@[simp] abbrev zlr (h:Host)(m:Int)(g v:Int):Host:=zeu h m (zgK (zG h m) g v)
@[simp] abbrev zls (h:Host)(m:Int)(g v:Int):Bool:=zdQ h m (zis (zG h m) g v)
def zuv:Run:=rF4 dH dI dI dI fun b c d e=>(zp5 b c d e,[aH (zlr b c d e),aB (zls b c d e)])
def zxQ (N:Nat)(a0:Host)(b d e:Int):OA:=
 let a:=(zo a0);let c:=(ix a.Mons b zh); (oN (zbP a0) (oN (zfh a b) (cond (nB (zfg a b)) (some [(aH a),(aB false)]) (oN (inb b (ln a.Mons)) (oN (zeo c) (oN (zlm (zbL c) d e) (oN (zen a b (zfw (zbL c) d e)) (some [(aH (zgD a b (zfw (zbL c) d e))),(aB (zgO (zbL c) d e))]))))))))
theorem zJu (a0:Host)(a c d:Int)(k:zp5 a0 a c d=true):∃N,zxQ N a0 a c d=some [aH (zlr a0 a c d),aB (zls a0 a c d)]:=by
 have f:=(zV a0).1 (zL.1 k);refine⟨0,?_⟩;have g:=znf (h:=a0) (m:=a) (cB:=zlm (zcW (ix a0.Mons a mZ)) c d) (B:=zfw (zcW (ix a0.Mons a mZ)) c d) (o0:=fun H=>[.agg (zbl H),.one (.b false)]) (o1:=fun H=>[.agg (zbl H),.one (.b (zgO (zcW (ix a0.Mons a mZ)) c d))]) f
  (fun e=>zbg (zeE (f.2.1.2 _ (zbD (zcA.1 e).2 _)))) (fun e=>zNd _ _ (zeE (f.2.1.2 _ (zbD (zcA.1 e).2 _))))
 refine(show zxQ 0 a0 a c d=_ from g).trans ?_;unfold zlr zls zeu zdQ;cases e:zcJ a0 a;{rfl};{obtain⟨i,j⟩:=zYS (ziS e (znD e)) a0 a c d;simp only[cT];exact ztq i j}
theorem zDC:vM 159 zuv:=kF4 ziO zB zcf zcZ (zq []) zJu
theorem zNf {b:Bare}(g:Int)(a:SmB b):SmB (zgM b g):=zqf a (z7e (zjN _ a))
theorem zYU {b c:Bare}(a:SameB b c)(h:Host)(m:Int)(g:Int):zc6 h m (zgM b g)=zc6 h m (zgM c g)/\ziu b g=ziu c g:=by have e:=a.at g;simp only[zgM,ziu,e];exact⟨zpv a _ _ _ _ _,zk4 a _ _⟩
@[simp] abbrev zp7 (h:Host)(m:Int)(g:Int):Bool:=pc (zci h)
@[simp] abbrev zlv (h:Host)(m:Int)(g:Int):Host:=zeu h m (zgM (zG h m) g)
@[simp] abbrev zlw (h:Host)(m:Int)(g:Int):Bool:=zdQ h m (ziu (zG h m) g)
def zuy:Run:=rF3 dH dI dI fun b c d=>(zp7 b c d,[aH (zlv b c d),aB (zlw b c d)])
def zxS (N:Nat)(a0:Host)(b d:Int):OA:=
 let a:=(zo a0);let c:=(ix a.Mons b zh); (oN (zbP a0) (oN (zfh a b) (cond (nB (zfg a b)) (some [(aH a),(aB false)]) (oN (inb b (ln a.Mons)) (oN (zeo c) (oN (zlo (zbL c) d) (oN (zen a b (zfy (zbL c) d)) (some [(aH (zgD a b (zfy (zbL c) d))),(aB (zgQ (zbL c) d))]))))))))
theorem zJw (a0:Host)(a c:Int)(j:zp7 a0 a c=true):∃N,zxS N a0 a c=some [aH (zlv a0 a c),aB (zlw a0 a c)]:=by
 have e:=(zV a0).1 (zL.1 j);refine⟨0,?_⟩;have f:=znf (h:=a0) (m:=a) (cB:=zlo (zcW (ix a0.Mons a mZ)) c) (B:=zfy (zcW (ix a0.Mons a mZ)) c) (o0:=fun H=>[.agg (zbl H),.one (.b false)]) (o1:=fun H=>[.agg (zbl H),.one (.b (zgQ (zcW (ix a0.Mons a mZ)) c))]) e
  (fun d=>zbg (zeE (e.2.1.2 _ (zbD (zcA.1 d).2 _)))) (fun d=>zNf _ (zeE (e.2.1.2 _ (zbD (zcA.1 d).2 _))))
 refine(show zxS 0 a0 a c=_ from f).trans ?_;unfold zlv zlw zeu zdQ;cases d:zcJ a0 a;{rfl};{obtain⟨g,i⟩:=zYU (ziS d (znD d)) a0 a c;simp only[cT];exact ztq g i}
theorem zDE:vM 160 zuy:=kF3 ziO zB zcf zcZ (zq []) zJw
theorem zNe {b:Bare}(g n:Int)(a:SmB b):SmB (zgL b g n):=zqf a (zjN (b:=b) _ a)
theorem zYT {b c:Bare}(a:SameB b c)(h:Host)(m:Int)(g n:Int):zc6 h m (zgL b g n)=zc6 h m (zgL c g n)/\zit b g n=zit c g n:=by have e:=a.at g;simp only[zgL,zit,e];exact⟨zpv a _ _ _ _ _,zk4 a _ _⟩
@[simp] abbrev zp6 (h:Host)(m:Int)(g n:Int):Bool:=pc (zci h)
@[simp] abbrev zlt (h:Host)(m:Int)(g n:Int):Host:=zeu h m (zgL (zG h m) g n)
@[simp] abbrev zlu (h:Host)(m:Int)(g n:Int):Bool:=zdQ h m (zit (zG h m) g n)
def zuw:Run:=rF4 dH dI dI dI fun b c d e=>(zp6 b c d e,[aH (zlt b c d e),aB (zlu b c d e)])
def zxR (N:Nat)(a0:Host)(b d e:Int):OA:=
 let a:=(zo a0);let c:=(ix a.Mons b zh); (oN (zbP a0) (oN (zfh a b) (cond (nB (zfg a b)) (some [(aH a),(aB false)]) (oN (inb b (ln a.Mons)) (oN (zeo c) (oN (zln (zbL c) d e) (oN (zen a b (zfx (zbL c) d e)) (some [(aH (zgD a b (zfx (zbL c) d e))),(aB (zgP (zbL c) d e))]))))))))
theorem zJv (a0:Host)(a c d:Int)(k:zp6 a0 a c d=true):∃N,zxR N a0 a c d=some [aH (zlt a0 a c d),aB (zlu a0 a c d)]:=by
 have f:=(zV a0).1 (zL.1 k);refine⟨0,?_⟩;have g:=znf (h:=a0) (m:=a) (cB:=zln (zcW (ix a0.Mons a mZ)) c d) (B:=zfx (zcW (ix a0.Mons a mZ)) c d) (o0:=fun H=>[.agg (zbl H),.one (.b false)]) (o1:=fun H=>[.agg (zbl H),.one (.b (zgP (zcW (ix a0.Mons a mZ)) c d))]) f
  (fun e=>zbg (zeE (f.2.1.2 _ (zbD (zcA.1 e).2 _)))) (fun e=>zNe _ _ (zeE (f.2.1.2 _ (zbD (zcA.1 e).2 _))))
 refine(show zxR 0 a0 a c d=_ from g).trans ?_;unfold zlt zlu zeu zdQ;cases e:zcJ a0 a;{rfl};{obtain⟨i,j⟩:=zYT (ziS e (znD e)) a0 a c d;simp only[cT];exact ztq i j}
theorem zDD:vM 161 zuw:=kF4 ziO zB zcf zcZ (zq []) zJv
theorem zZR {b:Bare}(g:Int)(x:Ctl)(a:SmB b):SmB (zjT b g x):=zqf a (zjN (b:=b) _ a)
theorem z6X {b c:Bare}(a:SameB b c)(h:Host)(m:Int)(g:Int)(x:Ctl):zc6 h m (zjT b g x)=zc6 h m (zjT c g x)/\zl4 b g x=zl4 c g x:=by have e:=a.at g;simp only[zjT,zl4,e];exact⟨zpv a _ _ _ _ _,zk4 a _ _⟩
@[simp] abbrev zxo (h:Host)(m:Int)(g:Int)(x:Ctl):Bool:=pc (zci h)
@[simp] abbrev zqT (h:Host)(m:Int)(g:Int)(x:Ctl):Host:=zeu h m (zjT (zG h m) g x)
@[simp] abbrev zqU (h:Host)(m:Int)(g:Int)(x:Ctl):Bool:=zdQ h m (zl4 (zG h m) g x)
def zBL:Run:=rF4 dH dI dI dC fun b c d e=>(zxo b c d e,[aH (zqT b c d e),aB (zqU b c d e)])
def zGS (N:Nat)(a0:Host)(b d:Int)(e:Ctl):OA:=
 let a:=(zo a0);let c:=(ix a.Mons b zh); (oN (zbP a0) (oN (zfh a b) (cond (nB (zfg a b)) (some [(aH a),(aB false)]) (oN (inb b (ln a.Mons)) (oN (zeo c) (oN (zqL (zbL c) d e) (oN (zen a b (zh2 (zbL c) d e)) (some [(aH (zgD a b (zh2 (zbL c) d e))),(aB (zjX (zbL c) d e))]))))))))
theorem zSy (a0:Host)(a c:Int)(d:Ctl)(k:zxo a0 a c d=true):∃N,zGS N a0 a c d=some [aH (zqT a0 a c d),aB (zqU a0 a c d)]:=by
 have f:=(zV a0).1 (zL.1 k);refine⟨0,?_⟩;have g:=znf (h:=a0) (m:=a) (cB:=zqL (zcW (ix a0.Mons a mZ)) c d) (B:=zh2 (zcW (ix a0.Mons a mZ)) c d) (o0:=fun H=>[.agg (zbl H),.one (.b false)]) (o1:=fun H=>[.agg (zbl H),.one (.b (zjX (zcW (ix a0.Mons a mZ)) c d))]) f
  (fun e=>zbg (zeE (f.2.1.2 _ (zbD (zcA.1 e).2 _)))) (fun e=>zZR _ _ (zeE (f.2.1.2 _ (zbD (zcA.1 e).2 _))))
 refine(show zGS 0 a0 a c d=_ from g).trans ?_;unfold zqT zqU zeu zdQ;cases e:zcJ a0 a;{rfl};{obtain⟨i,j⟩:=z6X (ziS e (znD e)) a0 a c d;simp only[cT];exact ztq i j}
theorem zLz:vM 162 zBL:=kF4 ziO zB zcf zcZ (zq []) zSy
theorem zWO {b:Bare}(n:Int)(a:SmB b):SmB (zkB b n):=z4N a
theorem z4E {b c:Bare}(f:SameB b c)(h:Host)(m n:Int):zc6 h m (zkB b n)=zc6 h m (zkB c n)/\zn8 b n=zn8 c n:=by obtain⟨a,d,e⟩:=z4o f n;exact⟨back_eq a d,e⟩
@[simp] abbrev zuJ (h:Host)(m:Int)(n:Int):Bool:=pc (zci h)
@[simp] abbrev zoz (h:Host)(m:Int)(n:Int):Host:=zeu h m (zkB (zG h m) n)
@[simp] abbrev zoA (h:Host)(m:Int)(n:Int):Bool:=zdQ h m (zn8 (zG h m) n)
def zyS:Run:=rF3 dH dI dI fun b c d=>(zuJ b c d,[aH (zoz b c d),aB (zoA b c d)])
def zCQ (N:Nat)(a0:Host)(b d:Int):OA:=
 let a:=(zo a0);let c:=(ix a.Mons b zh); (oN (zbP a0) (oN (zfh a b) (cond (nB (zfg a b)) (some [(aH a),(aB false)]) (oN (inb b (ln a.Mons)) (oN (zeo c) (oN (zos (zbL c) d) (oN (zen a b (ziz (zbL c) d)) (some [(aH (zgD a b (ziz (zbL c) d))),(aB (zkL (zbL c) d))]))))))))
theorem zPd (a0:Host)(a c:Int)(j:zuJ a0 a c=true):∃N,zCQ N a0 a c=some [aH (zoz a0 a c),aB (zoA a0 a c)]:=by
 have e:=(zV a0).1 (zL.1 j);refine⟨0,?_⟩;have f:=znf (h:=a0) (m:=a) (cB:=zos (zcW (ix a0.Mons a mZ)) c) (B:=ziz (zcW (ix a0.Mons a mZ)) c) (o0:=fun H=>[.agg (zbl H),.one (.b false)]) (o1:=fun H=>[.agg (zbl H),.one (.b (zkL (zcW (ix a0.Mons a mZ)) c))]) e
  (fun d=>zbg (zeE (e.2.1.2 _ (zbD (zcA.1 d).2 _)))) (fun d=>zWO _ (zeE (e.2.1.2 _ (zbD (zcA.1 d).2 _))))
 refine(show zCQ 0 a0 a c=_ from f).trans ?_;unfold zoz zoA zeu zdQ;cases d:zcJ a0 a;{rfl};{obtain⟨g,i⟩:=z4E (ziS d (znD d)) a0 a c;simp only[cT];exact ztq g i}
theorem zIV:vM 165 zyS:=kF3 ziO zB zcf zcZ (zq []) zPd
theorem zZQ {b:Bare}(a:SmB b):SmB (zl3 b):=z7c a
theorem z6W {b c:Bare}(g:SameB b c)(h:Host)(m:Int):zc6 h m (zl3 b)=zc6 h m (zl3 c)/\zqD b=zqD c/\zqE b=zqE c:=by obtain⟨a,d,e,f⟩:=z5g g;exact⟨back_eq a d,e,f⟩
@[simp] abbrev zxn (h:Host)(m:Int):Bool:=pc (zci h)
@[simp] abbrev zqP (h:Host)(m:Int):Host:=zeu h m (zl3 (zG h m))
@[simp] abbrev zqQ (h:Host)(m:Int):Int:=bif zcJ h m then zqD (zG h m) else -1
@[simp] abbrev zqR (h:Host)(m:Int):Bool:=zdQ h m (zqE (zG h m))
def zBK:Run:=rF2 dH dI fun b c=>(zxn b c,[aH (zqP b c),aI (zqQ b c),aB (zqR b c)])
def zGQ (N:Nat)(a0:Host)(b:Int):OA:=
 let a:=(zo a0);let c:=(ix a.Mons b zh); (oN (zbP a0) (oN (zfh a b) (cond (nB (zfg a b)) (some [(aH a),(aI (-1)),(aB false)]) (oN (inb b (ln a.Mons)) (oN (zeo c) (oN (zqK (zbL c)) (oN (zen a b (zh1 (zbL c))) (some [(aH (zgD a b (zh1 (zbL c)))),(aI (zjV (zbL c))),(aB (zjW (zbL c)))]))))))))
theorem zSw (a0:Host)(a:Int)(k:zxn a0 a=true):∃N,zGQ N a0 a=some [aH (zqP a0 a),aI (zqQ a0 a),aB (zqR a0 a)]:=by
 have d:=(zV a0).1 (zL.1 k);refine⟨0,?_⟩;have e:=znf (h:=a0) (m:=a) (cB:=zqK (zcW (ix a0.Mons a mZ))) (B:=zh1 (zcW (ix a0.Mons a mZ))) (o0:=fun H=>[.agg (zbl H),.one (.i .i64 (-1)),.one (.b false)]) (o1:=fun H=>[.agg (zbl H),.one (.i .i64 (zjV (zcW (ix a0.Mons a mZ)))),.one (.b (zjW (zcW (ix a0.Mons a mZ))))]) d
  (fun c=>zbg (zeE (d.2.1.2 _ (zbD (zcA.1 c).2 _)))) (fun c=>zZQ (zeE (d.2.1.2 _ (zbD (zcA.1 c).2 _))))
 refine(show zGQ 0 a0 a=_ from e).trans ?_;unfold zqP zqQ zqR zeu zdQ;cases c:zcJ a0 a;{rfl};{obtain⟨f,g,j⟩:=z6W (ziS c (znD c)) a0 a;simp only[cT];exact z9Q f g j}
theorem zLy:vM 166 zBK:=kF2 ziO zB zcf zcZ (zq []) zSw
def z2F:zW:=[(157,zBN),(159,zuv),(160,zuy),(161,zuw),(162,zBL),(165,zyS),(166,zBK)]++z2E
theorem zni:zK z2F:=zi zLB (zi zDC (zi zDE (zi zDD (zi zLz (zi zIV (zi zLy ziO))))))
def zjo (h:Host)(m t:Int):Host:=bif zbX h then (cond (hasB m (ln h.Mons)) (cond (win t 0 3) {h with Mons:=up h.Mons m {ix h.Mons m mZ with Traps:=t}} h) h) else h
def zAO (h:Host)(m t:Int):Bool:=bif zbX h then (cond (hasB m (ln h.Mons)) (win t 0 3) false) else false
@[simp] abbrev zuP (h:Host)(m t:Int):Bool:=pc (zci h)
@[simp] abbrev zoK (h:Host)(m t:Int):Host:=zjo h m t
@[simp] abbrev zoL (h:Host)(m t:Int):Bool:=zAO h m t
def zy0:Run:=rF3 dH dI dI fun b c d=>(zuP b c d,[aH (zoK b c d),aB (zoL b c d)])
def zCY (N:Nat)(a0:Host)(b c:Int):OA:=
 let a:=(zo a0); (oN (zbP a0) (oN (zew a) (cond (nB (zeD a)) (some [(aH a),(aB false)]) (oN (zN b 0 (wsub .i64 (ln a.Mons) 1)) (cond (nB (zT b 0 (wsub .i64 (ln a.Mons) 1))) (some [(aH a),(aB false)]) (oN (zN c 0 3) (cond (nB (zT c 0 3)) (some [(aH a),(aB false)]) (oN (inb b (ln a.Mons)) (share (up a.Mons b ({ (ix a.Mons b zh) with Traps:=c}:Mon)) (fun d=>(some [(aH ({a with Mons:=d}:Host)),(aB true)])))))))))))
theorem zPm (a0:Host)(a b:Int)(c:zuP a0 a b=true):∃N,zCY N a0 a b=some [aH (zoK a0 a b),aB (zoL a0 a b)]:=by
 have f:=(zV a0).1 (zL.1 c);refine⟨0,?_⟩;unfold zCY zoK zoL zjo zAO oN nB;conv=>zeta
 refine must c (must rfl ?_);rw[show zeD (zo a0)=zbX a0 from rfl];cases d:zbX a0;{rfl};{refine zdh rfl (must rfl ?_);rw[show zT a 0 (wsub .i64 (ln (zo a0).Mons) 1)=hasB a (ln a0.Mons) from zQm d a];cases e:hasB a (ln a0.Mons);{rfl};{refine zdh rfl (must rfl ?_);rw[show zT b 0 3=win b 0 3 from rfl];cases g:win b 0 3;{rfl};{exact zdh rfl (must (zJ e) rfl)}}}
theorem zI4:vM 231 zy0:=kF3 zni zB zcf zcZ (zq []) zPm
theorem zgw {h:Host}{m p:Int}:(zbU h m p=true)↔zbX h=true/\hasB m (ln h.Mons)=true/\hasB p 8=true:=by unfold zbU;cases zbX h<;>cases hasB m (ln h.Mons)<;>simp
def zhb (h:Host)(m p:Int):Bool:=ieq (ix (ix h.Mons m mZ).Outer p sZ).Page (-1)
def zli (h:Host)(m p:Int):Host:=bif zbU h m p then (cond (zhb h m p) h (zdl h m p)) else h
def znr (h:Host)(m p:Int):Bool:=bif zbU h m p then !zhb h m p else false
def zix (h:Host)(m p:Int):Host:=bif zbU h m p then (cond (zhb h m p) (fetched h m p) h) else h
def zpO (h:Host)(m p:Int):Bool:=bif zbU h m p then zhb h m p else false
@[simp] abbrev zq2 (h:Host)(m p:Int):Bool:=pc (zci h)
@[simp] abbrev zjZ (h:Host)(m p:Int):Host:=zli h m p
@[simp] abbrev zmg (h:Host)(m p:Int):Bool:=znr h m p
@[simp] abbrev ztd (h:Host)(m p:Int):Bool:=pc (zci h)
@[simp] abbrev zly (h:Host)(m p:Int):Host:=zix h m p
@[simp] abbrev zoG (h:Host)(m p:Int):Bool:=zpO h m p
@[simp] abbrev zqz (h:Host)(m p:Int):Bool:=pc (zci h)
@[simp] abbrev zqy (h:Host)(m p:Int):Host:=zli h m p
@[simp] abbrev zhX (h:Host)(m p:Int):Bool:=znr h m p
@[simp] abbrev zsW (h:Host)(m p:Int):Bool:=pc (zci h)
@[simp] abbrev zhx (h:Host)(m p:Int):Host:=zix h m p
@[simp] abbrev zi4 (h:Host)(m p:Int):Bool:=zpO h m p
theorem zME {h:Host}(f:SmH h)(c:zbX h=true){m p:Int}(d:hasB m (ln h.Mons)=true)(e:hasB p 8=true) :
 (cond (ieq (ix (ix h.Mons m mZ).Outer p sZ).Page (-1)) (ieq (ix (ix h.Mons m mZ).Outer p sZ).Rights 0) false)=zhb h m p:=by
 have a:=(zs4 (zgt c _ (zbD d mZ)) e).no;unfold zcV at a;unfold zhb;rw[<- a];cases b:ieq (ix (ix h.Mons m mZ).Outer p sZ).Page (-1)<;>simp [noSlot,b]
theorem zvM {h:Host}(d:SmH h)(a:zbX h=true){m p:Int}(b:hasB m (ln h.Mons)=true)(c:hasB p 8=true):inb p (ln (ix h.Mons m mZ).Outer)=true :=
 zJ (by rw[ln,((zd3 d a).1.2 _ (zbD b mZ)).1];exact c)
def zsq:Run:=rF3 dH dI dI fun b c d=>(zq2 b c d,[aH (zjZ b c d),aB (zmg b c d)])
def zGZ (N:Nat)(a0:Host)(c b:Int):OA:=
 let a:=(zo a0);let d:=(ix a.Mons c zh).Outer; (oN (zbP a0) (oN (zny a c b) (cond (nB (zhp a c b)) (some [(aH a),(aB false)]) (oN (inb c (ln a.Mons)) (oN (inb b (ln d)) (oN zcv (cond (cond (ieq (ix d b zQ).Page zbu.Page) (ieq (ix d b zQ).Rights zbu.Rights) false) (some [(aH a),(aB false)]) (oN (ztn a c b) (some [(aH (zAN a c b)),(aB true)])))))))))
theorem zSG (a0:Host)(a b:Int)(g:zq2 a0 a b=true):∃N,zGZ N a0 a b=some [aH (zjZ a0 a b),aB (zmg a0 a b)]:=by
 have f:=(zV a0).1 (zL.1 g);refine⟨0,?_⟩;unfold zGZ zjZ zmg zli znr oN nB;conv=>zeta
 refine must g (must rfl ?_);rw[show zhp (zo a0) a b=zbU a0 a b from rfl];cases h:zbU a0 a b;{rfl};{obtain⟨d,c,e⟩:=zgw.1 h;refine zdh rfl (must (zJ c) (must (zvM f d c e) (must rfl ?_)));rw[show (cond (ieq (ix (ix (zo a0).Mons a zh).Outer b zQ).Page zbu.Page) (ieq (ix (ix (zo a0).Mons a zh).Outer b zQ).Rights zbu.Rights) false)=zhb a0 a b from zME f d c e];cases i:zhb a0 a b;{exact zdh rfl (must (zbg ⟨(zd3 f d).1,c,e⟩) rfl)};{rfl}}
theorem zvF:vM 29 zsq:=kF3 zni zB zcf zcZ (zq []) zSG
def zsi:Run:=rF3 dH dI dI fun b c d=>(zqz b c d,[aH (zqy b c d),aB (zhX b c d)])
def zGD (N:Nat)(a0:Host)(a b:Int):OA:=
 let c:=(ix a0.Mons a zh).Outer; (oN (zkw a0) (oN (zlZ a0 a b) (cond (nB (zhA a0 a b)) (some [(aH (zer a0)),(aB false)]) (oN (inb a (ln a0.Mons)) (oN (inb b (ln c)) (cond (ieq (ix c b zQ).Page (-1)) (some [(aH (zer a0)),(aB false)]) (oN (zAb (zer a0) a b) (some [(aH (zAc (zer a0) a b)),(aB true)]))))))))
theorem zSj (a0:Host)(a b:Int)(d:zqz a0 a b=true):∃N,zGD N a0 a b=some [aH (zqy a0 a b),aB (zhX a0 a b)]:=by
 have g:=(zV a0).1 (zL.1 d);refine⟨0,?_⟩;unfold zGD zqy zhX zli znr oN nB;conv=>zeta
 refine must d (must rfl ?_);rw[show zhA a0 a b=zbU a0 a b from rfl];cases h:zbU a0 a b;{rfl};{obtain⟨e,c,f⟩:=zgw.1 h;refine zdh rfl (must (zJ c) (must (zvM g e c f) ?_));rw[show ieq (ix (ix a0.Mons a zh).Outer b zQ).Page (-1)=zhb a0 a b from rfl];cases i:zhb a0 a b;{exact zdh rfl (must (zbg ⟨(zd3 g e).1,c,f⟩) rfl)};{rfl}}
theorem zvx:vM 26 zsi:=kF3 zni zB zcf zcZ (zq []) zSj
def zuB:Run:=rF3 dH dI dI fun b c d=>(ztd b c d,[aH (zly b c d),aB (zoG b c d)])
def zKw (N:Nat)(a0:Host)(c b:Int):OA:=
 let a:=(zo a0);let d:=(ix a.Mons c zh).Outer; (oN (zbP a0) (oN (zny a c b) (cond (nB (zhp a c b)) (some [(aH a),(aB false)]) (oN (inb c (ln a.Mons)) (oN (inb b (ln d)) (oN zcv (cond (nB (cond (ieq (ix d b zQ).Page zbu.Page) (ieq (ix d b zQ).Rights zbu.Rights) false)) (some [(aH a),(aB false)]) (oN (zwN a c b) (some [(aH (zzd a c b)),(aB true)])))))))))
theorem zVy (a0:Host)(a b:Int)(g:ztd a0 a b=true):∃N,zKw N a0 a b=some [aH (zly a0 a b),aB (zoG a0 a b)]:=by
 have f:=(zV a0).1 (zL.1 g);refine⟨0,?_⟩;unfold zKw zly zoG zix zpO oN nB;conv=>zeta
 refine must g (must rfl ?_);rw[show zhp (zo a0) a b=zbU a0 a b from rfl];cases h:zbU a0 a b;{rfl};{obtain⟨d,c,e⟩:=zgw.1 h;refine zdh rfl (must (zJ c) (must (zvM f d c e) (must rfl ?_)));rw[show (cond (ieq (ix (ix (zo a0).Mons a zh).Outer b zQ).Page zbu.Page) (ieq (ix (ix (zo a0).Mons a zh).Outer b zQ).Rights zbu.Rights) false)=zhb a0 a b from zME f d c e];cases i:zhb a0 a b;{rfl};{exact zdh rfl (must (zbg ⟨zd3 f d,c,e⟩) rfl)}}
theorem zya:vM 30 zuB:=kF3 zni zB zcf zcZ (zq []) zVy
def zuo:Run:=rF3 dH dI dI fun b c d=>(zsW b c d,[aH (zhx b c d),aB (zi4 b c d)])
def zKd (N:Nat)(a0:Host)(a b:Int):OA:=
 let c:=(ix a0.Mons a zh).Outer; (oN (zkw a0) (oN (zlZ a0 a b) (cond (nB (zhA a0 a b)) (some [(aH (zer a0)),(aB false)]) (oN (inb a (ln a0.Mons)) (oN (inb b (ln c)) (cond (ine (ix c b zQ).Page (-1)) (some [(aH (zer a0)),(aB false)]) (oN (zvJ (zer a0) a b) (some [(aH (zrI (zer a0) a b)),(aB true)]))))))))
theorem zVc (a0:Host)(a b:Int)(d:zsW a0 a b=true):∃N,zKd N a0 a b=some [aH (zhx a0 a b),aB (zi4 a0 a b)]:=by
 have g:=(zV a0).1 (zL.1 d);refine⟨0,?_⟩;unfold zKd zhx zi4 zix zpO oN nB;conv=>zeta
 refine must d (must rfl ?_);rw[show zhA a0 a b=zbU a0 a b from rfl];cases h:zbU a0 a b;{rfl};{obtain⟨e,c,f⟩:=zgw.1 h;refine zdh rfl (must (zJ c) (must (zvM g e c f) ?_));rw[show ine (ix (ix a0.Mons a zh).Outer b zQ).Page (-1) = !zhb a0 a b from znn _ _];cases i:zhb a0 a b;{rfl};{exact zdh rfl (must (zbg ⟨zd3 g e,c,f⟩) rfl)}}
theorem zx5:vM 27 zuo:=kF3 zni zB zcf zcZ (zq []) zVc
def z2G:zW:=[(231,zy0),(29,zsq),(26,zsi),(30,zuB),(27,zuo)]++z2F
theorem zQT:zK z2G:=zi zI4 (zi zvF (zi zvx (zi zya (zi zx5 zni))))
theorem z2a {x:Mon}{b:Bare}(h:zeP x)(a:zkh b.Guests):zeP (zvj x b):=⟨h.1,h.2.1,h.2.2.1,a,h.2.2.2.2⟩
theorem zJV {h:Host}{m:Int}{b:Bare}(a:SmH h)(d:hasB m (ln h.Mons)=true)(c:zkh b.Guests):SmH (zc6 h m b):=
 ⟨a.1,ziT a.2.1 (z2a (a.2.1.2 _ (zbD d _)) c),a.2.2⟩
theorem zTX {h:Host}{m:Int}(b:Bare)(a:hasB m (ln h.Mons)=true):hasB m (ln (zc6 h m b).Mons)=true:=by show hasB m (ln (up h.Mons m _))=true;rw[ln,zf0];exact a
theorem z9H {h:Host}{m:Int}(b:Bare)(c:hasB m (ln h.Mons)=true):ix (zc6 h m b).Mons m mZ=zvj (ix h.Mons m mZ) b:=by obtain⟨k,rfl,a⟩:=zds (n:=h.Mons.length) c;exact zdq a _ _
def zDq (h:Host)(m g p:Int):Host:=⟨h.Memory,up h.Mons m {ix h.Mons m mZ with Tables:=up (ix h.Mons m mZ).Tables g (zbR (ix (ix h.Mons m mZ).Tables g kZ) p)},zcD h.Buffer (zez m g) p,zcD h.IoBuffer (zez m g) p⟩
def z3o (H:Host)(m g p:Int)(o:Host->Ans):OA:=
 bif inb m (ln H.Mons) then (bif inb m (ln H.Mons) then (bif inb g (ln (ix H.Mons m mZ).Tables) then (bif zlq (ix (ix H.Mons m mZ).Tables g kZ) p then (bif inb g (ln (ix H.Mons m mZ).Tables) then (share (up H.Mons m {ix H.Mons m mZ with Tables:=up (ix H.Mons m mZ).Tables g (zbR (ix (ix H.Mons m mZ).Tables g kZ) p)}) fun x=>
  (cond (zkP m g) (cond (zgg H.Buffer (zez m g) p) (cond (zkP m g) (cond (zgg H.IoBuffer (zez m g) p) (some (o ⟨H.Memory,x,zcD H.Buffer (zez m g) p,zcD H.IoBuffer (zez m g) p⟩)) none) none) none) none)) else none) else none) else none) else none) else none
theorem z3p {H:Host}{m g p:Int}{o:Host->Ans}(b:SmH H)(a:hasB m (ln H.Mons)=true)(hg:hasB g (ln (ix H.Mons m mZ).Tables)=true):z3o H m g p o=some (o (zDq H m g p)):=by have c:=b.2.1.2 _ (zbD a mZ);unfold z3o;exact must (zJ a) (must (zJ a) (must (zJ hg) (must (zbg (c.2.2.2.2.2.2 _ (zbD hg _))) (must (zJ hg) (shr (must rfl (must (zbg b.2.2.1) (must rfl (must (zbg b.2.2.2) rfl)))))))))
def zks (h:Host)(m g p:Int):Host:=bif zcJ h m then (cond (zbZ (zG h m) g (hasB p 4)) (zDq (zc6 h m (chg (zG h m) g (hasB p 4) (zdI (gAt (zG h m) g) p))) m g p) h) else h
@[simp] abbrev zsA (h:Host)(m g p:Int):Bool:=pc (zci h)
@[simp] abbrev zmC (h:Host)(m g p:Int):Host:=zks h m g p
@[simp] abbrev zmD (h:Host)(m g p:Int):Bool:=zdQ h m (zbZ (zG h m) g (hasB p 4))
theorem zYV {h:Host}{m:Int}(a:hasB m (ln h.Mons)=true):(zG h m).Guests=(ix h.Mons m mZ).Guests:=by unfold zG;rw[a];rfl
theorem zQ7 {h:Host}{m g:Int}{k:Bool}(i:SmH h)(e:zcJ h m=true)(b:Bare)(a:zbZ (zG h m) g k=true):hasB g (ln (ix (zc6 h m b).Mons m mZ).Tables)=true:=by obtain⟨f,c⟩:=zcA.1 e;rw[z9H b c];show hasB g (ln (ix h.Mons m mZ).Tables)=true;rw[ln,((zd3 i f).1.2 _ (zbD c mZ)).2.2.2,<- zYV c];unfold zbZ at a;cases d:zce (zG h m) g;{rw [d]at a;cases a};{exact(zdx.1 d).2}
def zwd:Run:=rF4 dH dI dI dI fun b c d e=>(zsA b c d e,[aH (zmC b c d e),aB (zmD b c d e)])
def zBf (N:Nat)(a0:Host)(a b c:Int):OA:=
 let h:=(ztA a b);let e:=(zo a0);let g:=(ix e.Mons a zh);let d:=(zgD e a (zev (zbL g) b c));let f:=(ix d.Mons a zh);let i:=(ix f.Tables b zep); (oN (zbP a0) (oN (zfh e a) (cond (nB (zfg e a)) (some [(aH e),(aB false)]) (oN (inb a (ln e.Mons)) (oN (zeo g) (oN (zsx (zbL g) b c) (cond (nB (zhn (zbL g) b c)) (some [(aH e),(aB false)]) (oN (zen e a (zev (zbL g) b c)) (oN (inb a (ln d.Mons)) (oN (inb a (ln d.Mons)) (oN (inb b (ln f.Tables)) (oN (zlq i c) (oN (inb b (ln f.Tables)) (share (up d.Mons a ({f with Tables:=(up f.Tables b (zkM i c))}:Mon)) (fun j=>(oN (zkP a b) (oN (zgg d.Buffer h c) (oN (zkP a b) (oN (zgg d.IoBuffer h c) (some [(aH (⟨d.Memory,j,(zmc d.Buffer h c),(zmc d.IoBuffer h c)⟩:Host)),(aB true)]))))))))))))))))))))
theorem zMu (a0:Host)(a c d:Int)(i:zb6 big [aH a0,aI a,aI c,aI d])(n:zsA a0 a c d=true):∃N,zBf N a0 a c d=some [aH (zmC a0 a c d),aB (zmD a0 a c d)]:=by
 have j:=(zV a0).1 (zL.1 n);refine⟨0,?_⟩;unfold zBf zmC zmD zks zdQ oN nB;conv=>zeta
 refine must n (must rfl ?_);rw[show zfg (zo a0) a=zcJ a0 a from rfl];cases f:zcJ a0 a;{rfl};{obtain⟨u,e⟩:=zcA.1 f;have q:=j.2.1.2 _ (zbD e mZ);have k:=zeE q;have h:=ziS f (znD f);have t:zbZ (zcW (ix a0.Mons a mZ)) c (hasB d 4)=zbZ (zG a0 a) c (hasB d 4):=zk4 h _ _;have r:zc6 a0 a (zev (zcW (ix a0.Mons a mZ)) c d)=zc6 a0 a (chg (zG a0 a) c (hasB d 4) (zdI (gAt (zG a0 a) c) d)):=(by rw[<- h.at];exact zpv h _ _ _ _ _);refine zdh rfl (must (zJ e) (must (zbg q) (must (zbg k) ?_)));rw[show zhn (zbL (ix (zo a0).Mons a zh)) c d=zbZ (zG a0 a) c (hasB d 4) from t];cases s:zbZ (zG a0 a) c (hasB d 4);{rfl};{have i:SmB (zev (zcW (ix a0.Mons a mZ)) c d):=zqf k (zNg _ (zjN _ k));refine zdh rfl (must (zbg ⟨e,i.2.1⟩) ?_);have l:=z3p (H:=zc6 a0 a (zev (zcW (ix a0.Mons a mZ)) c d)) (m:=a) (g:=c) (p:=d) (o:=fun H=>[.agg (zbl H),.one (.b true)]) (zJV j e i.2.1) (zTX _ e) (zQ7 j f _ s);refine(show _=_ from l).trans ?_;rw[r];rfl}}
theorem zFZ:vM 158 zwd:=hF4 zQT zB zcf zcZ (zq []) zMu
def z2H:zW:=[(158,zwd)]++z2G
theorem zQU:zK z2H:=zi zFZ zQT
def zWp (h:Host)(m p c v:Int):Host:={mended h m p 2 with Memory:=zbK (mended h m p 2).Memory (ix (ix (mended h m p 2).Mons m mZ).Outer p sZ).Page c v}
def ze4 (h:Host)(m p c v:Int):Bool:=bif zbU h m p then (cond (hasB c 4) (win v 0 99) false) else false
def zmS (h:Host)(m p c v:Int):Host:=bif ze4 h m p c v then zWp h m p c v else h
@[simp] abbrev zuI (h:Host)(m p c v:Int):Bool:=pc (zci h)
@[simp] abbrev zox (h:Host)(m p c v:Int):Host:=zmS h m p c v
@[simp] abbrev zoy (h:Host)(m p c v:Int):Bool:=ze4 h m p c v
def z9u (H:Host)(m p c v:Int)(o:Host->Ans):OA:=
 bif zmq H m p 2 then (cond (inb m (ln (mended H m p 2).Mons)) (cond (inb p (ln (ix (mended H m p 2).Mons m mZ).Outer)) (cond (ziE (mended H m p 2).Memory (ix (ix (mended H m p 2).Mons m mZ).Outer p sZ).Page c v) (some (o (zWp H m p c v))) none) none) none) else none
theorem z6M {h:Host}{m p c v:Int}{o:Host->Ans}(j:SmH h)(i:zbU h m p=true):z9u h m p c v o=some (o (zWp h m p c v)):=by obtain⟨g,b,a⟩:=zgw.1 i;have f:=zd3 j g;obtain⟨d,e⟩:=zuY (n:=2) f b a;unfold z9u;refine must (zbg ⟨f,b,a,.inr rfl,zs4 (zgt g _ (zbD b mZ)) a⟩) (must (zJ e) (must (zJ ?_) (must (zbg d.1.1) rfl)));rw[ln,(d.2 _ (zbD e mZ)).1];exact a
def zyR:Run:=rF5 dH dI dI dI dI fun b c d e f=>(zuI b c d e f,[aH (zox b c d e f),aB (zoy b c d e f)])
def zCP (N:Nat)(a0:Host)(b c:Int)(e f:Int):OA:=
 let a:=(zo a0);let d:=(znz a b c 2);let g:=(ix d.Mons b zh).Outer;let h:=(ix g c zQ).Page; (oN (zbP a0) (oN (zny a b c) (cond (nB (zhp a b c)) (some [(aH a),(aB false)]) (oN (zN e 0 3) (cond (nB (zT e 0 3)) (some [(aH a),(aB false)]) (oN (zN f 0 99) (cond (nB (zT f 0 99)) (some [(aH a),(aB false)]) (oN (zmq a b c 2) (oN (inb b (ln d.Mons)) (oN (inb c (ln g)) (oN (ziE d.Memory h e f) (some [(aH ({d with Memory:=(zjh d.Memory h e f)}:Host)),(aB true)]))))))))))))
theorem zPc (a0:Host)(e f:Int)(a d:Int)(h:zuI a0 e f a d=true):∃N,zCP N a0 e f a d=some [aH (zox a0 e f a d),aB (zoy a0 e f a d)]:=by
 have j:=(zV a0).1 (zL.1 h);refine⟨0,?_⟩;unfold zCP zox zoy zmS ze4 oN nB;conv=>zeta
 refine must h (must rfl ?_);rw[show zhp (zo a0) e f=zbU a0 e f from rfl];cases i:zbU a0 e f;{rfl};{refine zdh rfl (must rfl ?_);rw[show zT a 0 3=hasB a 4 from zbb6 a];cases k:hasB a 4;{rfl};{refine zdh rfl (must rfl ?_);rw[show zT d 0 99=win d 0 99 from rfl];cases l:win d 0 99;{rfl};{have g:=z6M (c:=a) (v:=d) (o:=fun H=>[.agg (zbl H),.one (.b true)]) j i;exact zdh rfl (show _=_ from g)}}}
theorem zIU:vM 164 zyR:=kF5 zQU zB zcf zcZ (zq []) zPc
def z2I:zW:=[(164,zyR)]++z2H
theorem z2J:zK z2I:=zi zIU zQU
def z2K:zW:=z2I
theorem zDk:zK z2K:=z2J
theorem z3R (h:Host)(b:List Entry)(m g page need:Int)(io:Bool):(lookOf h b m g page need io).2.2=zb7 h m g page need:=by cases a:zb7 h m g page need;{rw [znp a]};{rw [zVS a];unfold zhC zhD;generalize zhk b m g page need=x;cases x;{generalize zeM _ m g page need=y;cases y<;>rfl};{rfl}}
theorem zbay {h:Host}{m g page need:Int}(b:List Entry)(io:Bool)(d:SmH h)(a:zb7 h m g page need=true):SmM (lookOf h b m g page need io).1.Memory:=by have hg:zbW h m g=true:=(by unfold zb7 at a;cases c:zbW h m g;{rw [c]at a;cases a};{rfl});exact(zyi d hg).shape.1.1
def zDO (h:Host)(m g a n:Int):Host×Int×Bool:=lookOf h h.IoBuffer m g (zbi a) n true
def zgs (h:Host)(m g a v:Int):Bool:=bif win a 0 15 then (cond (win v 0 99) (zb7 h m g (zbi a) 2) false) else false
def zpG (h:Host)(m g a v:Int):Host:=bif zgs h m g a v then { (zDO h m g a 2).1 with Memory:=zbK (zDO h m g a 2).1.Memory (zDO h m g a 2).2.1 (zdc a) v} else h
def zfE (h:Host)(m g a:Int):Bool:=bif win a 0 15 then zb7 h m g (zbi a) 1 else false
def zmT (h:Host)(m g a:Int):Host:=bif zfE h m g a then (zDO h m g a 1).1 else h
def zrG (h:Host)(m g a:Int):Int:=bif zfE h m g a then cellAt (zDO h m g a 1).1.Memory (zDO h m g a 1).2.1 (zdc a) else 0
@[simp] abbrev zxp (h:Host)(m g a v:Int):Bool:=pc (zci h)
@[simp] abbrev zqV (h:Host)(m g a v:Int):Host:=zpG h m g a v
@[simp] abbrev zqW (h:Host)(m g a v:Int):Bool:=zgs h m g a v
@[simp] abbrev zuK (h:Host)(m g a:Int):Bool:=pc (zci h)
@[simp] abbrev zoB (h:Host)(m g a:Int):Host:=zmT h m g a
@[simp] abbrev zoC (h:Host)(m g a:Int):Int:=zrG h m g a
@[simp] abbrev zoD (h:Host)(m g a:Int):Bool:=zfE h m g a
def zBM:Run:=rF5 dH dI dI dI dI fun b c d e f=>(zxp b c d e f,[aH (zqV b c d e f),aB (zqW b c d e f)])
def zGT (N:Nat)(a0:Host)(c d:Int)(a e:Int):OA:=
 let b:=(zo a0);let g:=(zj7 b b.IoBuffer c d (zcQ a) 2 true);let f:=(zeZ b b.IoBuffer c d (zcQ a) 2 true); (oN (zbP a0) (oN (zN a 0 15) (cond (nB (zT a 0 15)) (some [(aH b),(aB false)]) (oN (zN e 0 99) (cond (nB (zT e 0 99)) (some [(aH b),(aB false)]) (oN (zfW a) (oN (zj8 b b.IoBuffer c d (zcQ a) 2 true) (cond (nB (zgB b b.IoBuffer c d (zcQ a) 2 true)) (some [(aH f),(aB false)]) (oN (ziy a) (oN (ziE f.Memory g (zd6 a) e) (some [(aH ({f with Memory:=(zjh f.Memory g (zd6 a) e)}:Host)),(aB true)])))))))))))
theorem zSz (a0:Host)(b c:Int)(a d:Int)(e:zxp a0 b c a d=true):∃N,zGT N a0 b c a d=some [aH (zqV a0 b c a d),aB (zqW a0 b c a d)]:=by
 have g:=(zV a0).1 (zL.1 e);refine⟨0,?_⟩;unfold zGT zqV zqW zpG zgs oN nB;conv=>zeta
 refine must e (must rfl ?_);rw[show zT a 0 15=win a 0 15 from rfl];cases h:win a 0 15;{rfl};{refine zdh rfl (must rfl ?_);rw[show zT d 0 99=win d 0 99 from rfl];cases i:win d 0 99;{rfl};{refine zdh rfl (must rfl (must e ?_));rw[show zgB (zo a0) (zo a0).IoBuffer b c (zcQ a) 2 true=zb7 a0 b c (zbi a) 2 from z3R _ _ _ _ _ _ _];cases f:zb7 a0 b c (zbi a) 2;{rw [show zeZ (zo a0) (zo a0).IoBuffer b c (zcQ a) 2 true=a0 from congrArg Prod.fst (znp f)];rfl};{exact zdh rfl (must rfl (must (zbg (zbay a0.IoBuffer true g f)) rfl))}}}
theorem zLA:vM 167 zBM:=kF5 zDk zB zcf zcZ (zq []) zSz
def zyT:Run:=rF4 dH dI dI dI fun b c d e=>(zuK b c d e,[aH (zoB b c d e),aI (zoC b c d e),aB (zoD b c d e)])
def zCR (N:Nat)(a0:Host)(c d a:Int):OA:=
 let b:=(zo a0);let f:=(zj7 b b.IoBuffer c d (zcQ a) 1 true);let e:=(zeZ b b.IoBuffer c d (zcQ a) 1 true); (oN (zbP a0) (oN (zN a 0 15) (cond (nB (zT a 0 15)) (some [(aH b),(aI 0),(aB false)]) (oN (zfW a) (oN (zj8 b b.IoBuffer c d (zcQ a) 1 true) (cond (nB (zgB b b.IoBuffer c d (zcQ a) 1 true)) (some [(aH e),(aI 0),(aB false)]) (oN (ziy a) (oN (zta e.Memory f (zd6 a)) (some [(aH e),(aI (zm1 e.Memory f (zd6 a))),(aB true)])))))))))
theorem zPe (a0:Host)(b c a:Int)(d:zuK a0 b c a=true):∃N,zCR N a0 b c a=some [aH (zoB a0 b c a),aI (zoC a0 b c a),aB (zoD a0 b c a)]:=by
 have g:=(zV a0).1 (zL.1 d);refine⟨0,?_⟩;unfold zCR zoB zoC zoD zmT zrG zfE oN nB;conv=>zeta
 refine must d (must rfl ?_);rw[show zT a 0 15=win a 0 15 from rfl];cases f:win a 0 15;{rfl};{refine zdh rfl (must rfl (must d ?_));rw[show zgB (zo a0) (zo a0).IoBuffer b c (zcQ a) 1 true=zb7 a0 b c (zbi a) 1 from z3R _ _ _ _ _ _ _];cases e:zb7 a0 b c (zbi a) 1;{rw [show zeZ (zo a0) (zo a0).IoBuffer b c (zcQ a) 1 true=a0 from congrArg Prod.fst (znp e)];rfl};{exact zdh rfl (must rfl (must rfl rfl))}}
theorem zIW:vM 168 zyT:=kF4 zDk zB zcf zcZ (zq []) zPe
def z2L:zW:=[(167,zBM),(168,zyT)]++z2K
theorem z2M:zK z2L:=zi zLA (zi zIW zDk)
def z2N:zW:=[(144,zp0),(145,zll)]++z2L
theorem zQV:zK z2N:=zi zt3 (zi zmR z2M)
def zjS:Kept:=⟨rp 4 false,zkY⟩
@[simp] abbrev zxs (n:Int):Bool:=ieq n 4
@[simp] abbrev zwJ (n:Int):Kept:=zjS
def zBP:Run:=rF1 dI fun b=>(zxs b,[aT .kept (zwJ b)])
def zXy (N:Nat)(a0:Int):OA:=
 let a:=(ln (zgp a0)); (oN (ziD a0) (oN (cond (few a) (ieq a a) false) (some [(aT .kept (⟨(rp a false),(zgp a0)⟩:Kept))])))
theorem zSD (a0:Int)(a:zxs a0=true):∃N,zXy N a0=some [aT .kept (zwJ a0)]:=by refine⟨0,?_⟩;have h:a0=4:=qE a;subst h;change _=_;kernel_rfl
theorem zLD:vM 146 zBP:=kF1 zQV zB zcf zcZ (zq []) zSD
def z2O:zW:=[(146,zBP)]++z2N
theorem zQW:zK z2O:=zi zLD zQV
def zu0:List Slot:=List.replicate 8 ⟨-1,0⟩
def zgj (a:List (List Ins)):Mon:=⟨zu0,zPE,rp 8 false,(a.take 2).map zeA,[],0,0,(a.take 2).map (fun _=>zjS),0⟩
theorem zMz {d a b q:Type}(m:Nat)(f:d->a)(g:d->b)(K:List a×List b->Option q):∀(l:List d) (i:Nat) (u:List a×List b),u.1.length+l.length<=2147483648->u.2.length+l.length<=2147483648->
 goL (fun (i:Nat) x (u:List a×List b) k=>bif ilt (i:Int) (m:Int) then (cond (few (ln (ap u.1 [f x]))) (cond (few (ln (ap u.2 [g x]))) (k (ap u.1 [f x],ap u.2 [g x])) none) none) else K u) K l i u=K (u.1++(l.take (m-i)).map f,u.2++(l.take (m-i)).map g)
 |[],i,u,_,_=>by simp[goL]
 |x::l,i,u,n,p=>by simp only[qY]at n p;have e:few (ln (ap u.1 [f x]))=true:=zgi (by simp[ap];omega);have j:few (ln (ap u.2 [g x]))=true:=zgi (by simp[ap];omega);by_cases h:i<m;{have c:ilt (i:Int) (m:Int)=true:=qJ (by omega);simp only[goL,c,e,j,cT];rw[zMz m f g K l (i+1) _ (by simp[ap];omega) (by simp[ap];omega)];rw[show m-i=m-(i+1)+1 by omega];simp[ap]};{have c:ilt (i:Int) (m:Int)=false:=qL (by omega);simp only[goL,c,cF];rw[show m-i=0 by omega];simp}
def z3Y (u:List Guest×List Kept):OA:=some [AV.agg (Ty.cells .mon (⟨zu0,zPE,rp 8 false,u.1,[],0,0,u.2,0⟩:Mon))]
@[simp] abbrev ztb (a:List (List Ins)):Bool:=pc (SmPs a)
@[simp] abbrev zJR (a:List (List Ins)):Mon:=zgj a
def zEq:Run:=rF1 (dS (.sl .ins)) fun b=>(ztb b,[aT .mon (zJR b)])
def zKt (N:Nat)(a0:lP):OA:=
 (oN (ziD 8) (oN (zoF 8) (oN (cond (few 8) (ieq 8 8) false) (iter (σ:=(Int×(Int×(Int×(Int×(Int×(Int×(Int×(lP×(lS×(lM×(lB×(lG×((List Int)×(lK×(lS×(lM×(lB×(lG×((List Int)×(lK×Unit))))))))))))))))))))) N (fun k a=>let j:=a.2.2.2.2.2.2.2.2.2.2.2.2.2.2.1;let i:=a.2.2.2.2.2.2.2.2.2.2.2.2.2.2.2.1;let h:=a.2.2.2.2.2.2.2.2.2.2.2.2.2.2.2.2.1;let g:=a.2.2.2.2.2.2.2.2.2.2.2.2.2.2.2.2.2.1;let f:=a.2.2.2.2.2.2.2.2.2.2.2.2.2.2.2.2.2.2.1;let b:=a.2.2.2.2.2.2.2.1;let c:=a.2.2.2.2.2.2.2.2.2.2.2.2.2.2.2.2.2.2.2.1;let e:=(ap g [(zcn (ix b a.1 []))]);let d:=(aT .mon (⟨j,i,h,g,f,a.2.2.2.2.1,a.2.2.2.2.2.1,c,a.2.2.2.2.2.2.1⟩:Mon)); (cond (ilt a.1 (ln b)) (cond (ilt a.1 2) (oN (inb a.1 (ln b)) (oN (ziA (ix b a.1 [])) (oN (few (ln e)) (oN (zxs 4) (oN (few (ln (ap c [(zwJ 4)]))) (k ((zM .i64 a.1 1),(a.2.1,(a.2.2.1,(a.2.2.2.1,(a.2.2.2.2.1,(a.2.2.2.2.2.1,(a.2.2.2.2.2.2.1,(b,(a.2.2.2.2.2.2.2.2.1,(a.2.2.2.2.2.2.2.2.2.1,(a.2.2.2.2.2.2.2.2.2.2.1,(a.2.2.2.2.2.2.2.2.2.2.2.1,(a.2.2.2.2.2.2.2.2.2.2.2.2.1,(a.2.2.2.2.2.2.2.2.2.2.2.2.2.1,(j,(i,(h,(e,(f,((ap c [(zwJ 4)]),())))))))))))))))))))))))))) (some [d])) (some [d]))) (0,(0,(0,(0,(0,(0,(0,(a0,([],([],([],([],([],([],((zgp 8),((zje 8),((rp 8 false),([],([],([],()))))))))))))))))))))))))
def zXf:FuncId->Nat->Option Tmpl:=zq [(85,0,{n:=36,tm:=[(0,.sl 0 []),(2,.lp 0 0),(3,.lp 1 0),(4,ti)],lo:=[(0,[.sl 1 [],.sl 2 [],.sl 3 [],.sl 4 [],.sl 5 [],ti,ti,.sl 6 [],ti]),(1,[.sl 7 [],.sl 8 [],.sl 9 [],.sl 10 [],.sl 11 [],ti,ti,.sl 12 [],ti])],ro:=[(0,(.sl .ins),false),(1,.slot,true),(2,(.sl .int),true),(3,.bool,true),(4,.guest,true),(5,.int,true),(6,.kept,true),(7,.slot,true),(8,(.sl .int),true),(9,.bool,true),(10,.guest,true),(11,.int,true),(12,.kept,true)]})]
theorem zVu (a0:List lI)(e:ztb a0=true):∃N,zKt N a0=some [aT .mon (zJR a0)]:=by
 have d:=zL.1 e;have b:=zcF d.1;refine zcq fun N c=>?_;unfold zKt oN;conv=>zeta
 refine must rfl (must rfl (must rfl ?_));refine(zbm a0 (fun i (t:lG×lK)=>((i:Int),0,0,0,0,0,0,a0,[],[],[],[],[],[],(zgp 8),(zje 8),(rp 8 false),t.1,[],t.2,())) _ (fun i (x:List Ins) (u:List Guest×List Kept) g=>bif ilt (i:Int) ((2:Nat):Int) then (cond (few (ln (ap u.1 [zeA x]))) (cond (few (ln (ap u.2 [zjS]))) (g (ap u.1 [zeA x],ap u.2 [zjS])) none) none) else z3Y u) (fun (t:lG×lK)=>(some [(.agg (Ty.cells .mon (⟨(zgp 8),(zje 8),(rp 8 false),t.1,[],0,0,t.2,0⟩:Mon)))])) (fun i a t rec=>?_) (fun t rec=>?_) _ ([],[]) (c b.1)).trans ?_;{simp only [zbs a,zbe a,zbj a,zbh a b.1,cT];have f:ziA a0[i]=true:=zbg (d.2 _ (jG a));simp only[f,cT];rfl};{simp only [zbn,cF]};exact zMz 2 zeA (fun _=>zjS) z3Y a0 0 ([],[]) (by simpa using b.2) (by simpa using b.2)
theorem zOn:vM 85 zEq:=kF1 zQW zB zcf zcZ zXf zVu
def z2P:zW:=[(85,zEq)]++z2O
theorem zQX:zK z2P:=zi zOn zQW
def z1g:List (List Int):=List.replicate 12 [0,0,0,0]
def zfk (a:List (List (List Ins))):Host:=⟨z1g,(a.take 3).map zgj,[],[]⟩
def zE7 (a:List (List (List Ins))):Prop:=a.length<=1048576/\∀p∈a,SmPs p
@[simp] abbrev zqX (a:List (List (List Ins))):Bool:=pc (zE7 a)
@[simp] abbrev zdA (a:List (List (List Ins))):Host:=zfk a
def zZv (t:List Mon):OA:=some [AV.agg (zbl ⟨z1g,t,[],[]⟩)]
def zso:Run:=rF1 (dS (.sl (.sl .ins))) fun b=>(zqX b,[aH (zdA b)])
def zGU (N:Nat)(a0:lQ):OA:=
 (oN (zoF 12) (iter (σ:=(Int×(lQ×(lM×(lN×(lE×(lE×(lM×(lN×(lE×(lE×Unit))))))))))) N (fun d a=>let c:=(ap a.2.2.2.2.2.2.2.1 [(zJR (ix a.2.1 a.1 []))]);let b:=(aH (⟨a.2.2.2.2.2.2.1,a.2.2.2.2.2.2.2.1,a.2.2.2.2.2.2.2.2.1,a.2.2.2.2.2.2.2.2.2.1⟩:Host)); (cond (ilt a.1 (ln a.2.1)) (cond (ilt a.1 3) (oN (inb a.1 (ln a.2.1)) (oN (ztb (ix a.2.1 a.1 [])) (oN (few (ln c)) (d ((zM .i64 a.1 1),(a.2.1,(a.2.2.1,(a.2.2.2.1,(a.2.2.2.2.1,(a.2.2.2.2.2.1,(a.2.2.2.2.2.2.1,(c,(a.2.2.2.2.2.2.2.2.1,(a.2.2.2.2.2.2.2.2.2.1,())))))))))))))) (some [b])) (some [b]))) (0,(a0,([],([],([],([],((zje 12),([],([],([],()))))))))))))
def zTf:FuncId->Nat->Option Tmpl:=zq [(37,0,{n:=28,tm:=[(0,.sl 0 []),(2,.lp 0 0),(3,.lp 1 0),(4,ti)],lo:=[(0,[.sl 1 [],.sl 2 [],.sl 3 [],.sl 4 []]),(1,[.sl 5 [],.sl 6 [],.sl 7 [],.sl 8 []])],ro:=[(0,(.sl (.sl .ins)),false),(1,(.sl .int),true),(2,.mon,true),(3,.entry,true),(4,.entry,true),(5,(.sl .int),true),(6,.mon,true),(7,.entry,true),(8,.entry,true)]})]
theorem zSA (a0:List lP)(e:zqX a0=true):∃N,zGU N a0=some [aH (zdA a0)]:=by
 have d:=zL.1 e;have c:=zcF d.1;refine zcq fun N b=>?_;unfold zGU oN;conv=>zeta
 refine must rfl ?_;refine(zbm a0 (fun i (t:lN)=>((i:Int),a0,[],[],[],[],(zje 12),t,[],[],())) _ (fun i (x:List lI) (t:List Mon) g=>bif ilt (i:Int) ((3:Nat):Int) then (cond (few (ln (ap t [zgj x]))) (g (ap t [zgj x])) none) else zZv t) (fun (t:lN)=>(some [(.agg (zbl (⟨(zje 12),t,[],[]⟩:Host)))])) (fun i a t rec=>?_) (fun t rec=>?_) _ ([]) (b c.1)).trans ?_;{simp only [zbs a,zbe a,zbj a,zbh a c.1,cT];have f:ztb a0[i]=true:=zbg (d.2 _ (jG a));simp only[f,cT];rfl};{simp only [zbn,cF]};exact zRl 3 zgj zZv a0 0 [] (by simpa using c.2)
theorem zvD:vM 37 zso:=kF1 zQX zB zcf zcZ zTf zSA
def z2Q:zW:=[(37,zso)]++z2P
theorem zQY:zK z2Q:=zi zvD zQX
def zik:Nat->Nat->Kept->Kept
 | 0,_,k=>k
 |n+1,i,k=>zik n (i+1) (zbR k (i:Int))
def zi0 (k:Kept):Kept:=zik k.Known.length 0 k
theorem z0P (k:Kept)(p:Int):(zbR k p).Known.length=k.Known.length:=by unfold zbR;cases zdv k p;{rfl};{exact zf0 _ _ _}
theorem zxB:∀(n i:Nat) (k:Kept),SmK k->SmK (zik n i k)
 | 0,_,_,h=>h
 |n+1,i,k,h=>zxB n (i+1) _ (zph h)
@[simp] abbrev zsz (k:Kept):Bool:=pc (SmK k)
@[simp] abbrev zxm (k:Kept):Kept:=zi0 k
def zwc:Run:=rF1 (dT .kept) fun b=>(zsz b,[aT .kept (zxm b)])
def zBe (N:Nat)(a0:Kept):OA:=
 (oN (zfM a0) (iter (σ:=(Int×(lB×(lS×(lB×(lS×Unit)))))) N (fun c a=>let b:=(⟨a.2.1,a.2.2.1⟩:Kept); (cond (ilt a.1 (ln a.2.1)) (oN (zlq b a.1) (c ((zM .i64 a.1 1),((zkM b a.1).Known,((zkM b a.1).Slots,(a.2.2.2.1,(a.2.2.2.2.1,()))))))) (some [(aT .kept b)]))) (0,((zdp a0).Known,((zdp a0).Slots,([],([],())))))))
def zNC:FuncId->Nat->Option Tmpl:=zq [(286,0,{n:=17,tm:=[(1,.lp 0 0),(2,.lp 1 0),(3,ti)],lo:=[(0,[.sl 0 [],.sl 1 []]),(1,[.sl 2 [],.sl 3 []])],ro:=[(0,.bool,true),(1,.slot,true),(2,.bool,true),(3,.slot,true)]})]
theorem zMt (a0:Kept)(f:zsz a0=true):∃N,zBe N a0=some [aT .kept (zxm a0)]:=by
 have c:=zL.1 f;have e:=zcF c.1;refine zcq fun N b=>?_;unfold zBe oN;conv=>zeta
 refine must (zbC ((zxU _).2 c)) ?_;refine(zyh a0.Known.length (fun i (k:Kept)=>((i:Int),(k.Known,(k.Slots,([],([],())))))) _ (fun i k=>SmK k/\k.Known.length=a0.Known.length) (fun i k=>some [AV.agg (Ty.cells .kept (zik (a0.Known.length-i) i k))]) (fun i k rec d a g=>?_) (fun k rec a=>?_) N 0 a0 ⟨c,rfl⟩ (jX _) (b e.1)).trans rfl;{refine must (zbs (by rw[a.2];exact d)) (must (zbg a.1) ?_);have q:=g (zbR k (i:Int)) ⟨zph a.1,by rw[z0P];exact a.2⟩;rw[show a0.Known.length-i=a0.Known.length-(i+1)+1 by omega];rw[zbh d e.1];exact q};{refine zdh (by show ilt (a0.Known.length:Int) (ln k.Known)=false;rw[ln,a.2];exact qL (by omega)) ?_;rw[k6];rfl}
theorem zFY:vM 286 zwc:=kF1 zQY zB zcf zcZ zNC zMt
def z2R:zW:=[(286,zwc)]++z2Q
theorem zQZ:zK z2R:=zi zFY zQY
def zvl:Nat->Nat->List Kept->List Kept
 | 0,_,l=>l
 |n+1,j,l=>zvl n (j+1) (up l (j:Int) (zi0 (ix l (j:Int) kZ)))
def zvm (x:Mon)(n j:Nat):Mon:={x with Tables:=zvl n j x.Tables}
def znL:Nat->Nat->List Mon->List Mon
 | 0,_,t=>t
 |n+1,i,t=>znL n (i+1) (up t (i:Int) (zvm (ix t (i:Int) mZ) (ix t (i:Int) mZ).Tables.length 0))
def cold (h:Host):Host:=⟨h.Memory,znL h.Mons.length 0 h.Mons,[],[]⟩
theorem zNi:∀(n j:Nat) (l:List Kept),j+n<=l.length->zC6 l->zC6 (zvl n j l)
 | 0,_,_,_,h=>h
 |n+1,j,l,b,h=>by have a:j<l.length:=(by omega);refine zNi n (j+1) _ (by rw[zf0];omega) (zzf h (zxB _ _ _ ?_));rw[zbj a];exact h.2 _ (jG a)
theorem zNk {x:Mon}(h:zeP x){n j:Nat}(a:j+n<=x.Tables.length):zeP (zvm x n j):=⟨h.1,h.2.1,h.2.2.1,h.2.2.2.1,h.2.2.2.2.1,zNi n j _ a h.2.2.2.2.2⟩
@[simp] abbrev zJP (h:Host):Bool:=pc (zci h)
@[simp] abbrev zWu (h:Host):Host:=cold h
def zMX:Run:=rF1 dH fun b=>(zJP b,[aH (zWu b)])
def zTJ (N:Nat)(a0:Host):OA:=
 (oN (zbP a0) (iter (σ:=(Int×(lM×(lN×(lE×(lE×(lM×(lN×(lE×(lE×Unit)))))))))) N (fun f b=>(cond (ilt b.1 (ln b.2.2.1)) (iter (σ:=(Int×(Int×(lM×(lN×(lE×(lE×(lM×(lN×(lE×(lE×Unit))))))))))) N (fun g a=>let d:=(inb a.1 (ln a.2.2.2.1));let c:=(ix a.2.2.2.1 a.1 zh);let e:=(ix c.Tables a.2.1 zep); (oN d (cond (ilt a.2.1 (ln c.Tables)) (oN d (oN d (oN (inb a.2.1 (ln c.Tables)) (oN (zsz e) (oN (inb a.2.1 (ln c.Tables)) (share (up a.2.2.2.1 a.1 ({c with Tables:=(up c.Tables a.2.1 (zxm e))}:Mon)) (fun h=>(g (a.1,((zM .i64 a.2.1 1),(a.2.2.1,(h,(a.2.2.2.2.1,(a.2.2.2.2.2.1,(a.2.2.2.2.2.2.1,(a.2.2.2.2.2.2.2.1,(a.2.2.2.2.2.2.2.2.1,(a.2.2.2.2.2.2.2.2.2.1,())))))))))))))))))) (f ((zM .i64 a.1 1),(a.2.2.1,(a.2.2.2.1,(a.2.2.2.2.1,(a.2.2.2.2.2.1,(a.2.2.2.2.2.2.1,(a.2.2.2.2.2.2.2.1,(a.2.2.2.2.2.2.2.2.1,(a.2.2.2.2.2.2.2.2.2.1,()))))))))))))) (b.1,(0,(b.2.1,(b.2.2.1,(b.2.2.2.1,(b.2.2.2.2.1,(b.2.2.2.2.2.1,(b.2.2.2.2.2.2.1,(b.2.2.2.2.2.2.2.1,(b.2.2.2.2.2.2.2.2.1,()))))))))))) (some [(aH (⟨b.2.1,b.2.2.1,[],[]⟩:Host))]))) (0,((zo a0).Memory,((zo a0).Mons,((zo a0).Buffer,((zo a0).IoBuffer,([],([],([],([],())))))))))))
def z2i:FuncId->Nat->Option Tmpl:=zq [(232,0,{n:=48,tm:=[(1,.lp 0 0),(2,.lp 1 0),(3,ti)],lo:=[(0,[.sl 0 [],.sl 1 [],.sl 2 [],.sl 3 []]),(1,[.sl 4 [],.sl 5 [],.sl 6 [],.sl 7 []])],ro:=[(0,(.sl .int),true),(1,.mon,true),(2,.entry,true),(3,.entry,true),(4,(.sl .int),true),(5,.mon,true),(6,.entry,true),(7,.entry,true)]}),(232,2,{n:=48,tm:=[(1,.lp 0 0),(2,.lp 1 0),(3,ti),(4,ti)],lo:=[(0,[.sl 0 [],.sl 1 [],.sl 2 [],.sl 3 []]),(1,[.sl 4 [],.sl 5 [],.sl 6 [],.sl 7 []])],ro:=[(0,(.sl .int),true),(1,.mon,true),(2,.entry,true),(3,.entry,true),(4,(.sl .int),true),(5,.mon,true),(6,.entry,true),(7,.entry,true)]})]
theorem z1d (a0:Host)(l:zJP a0=true):∃N,zTJ N a0=some [aH (zWu a0)]:=by
 have s:=(zV a0).1 (zL.1 l);have r:=zcF s.2.1.1;refine zcq fun N e=>?_;unfold zTJ oN;conv=>zeta
 refine must l ?_;refine(zyh a0.Mons.length (fun i (t:List Mon)=>((i:Int),(a0.Memory,(t,(a0.Buffer,(a0.IoBuffer,([],([],([],([],())))))))))) _ (fun i t=>zrq t/\t.length=a0.Mons.length) (fun i t=>some [AV.agg (zbl ⟨a0.Memory,znL (a0.Mons.length-i) i t,[],[]⟩)]) (fun i t rec m d w=>?_) (fun t rec d=>?_) N 0 a0.Mons ⟨s.2.1,rfl⟩ (jX _) (e r.1)).trans rfl
 .have hit:i<t.length:=(by rw[d.2];exact m);have k:zeP (ix t (i:Int) mZ):=by rw[zbj hit];exact d.1.2 _ (jG hit)
  have p:=zcF k.2.2.2.2.2.1;refine must (zbs hit) ?_;refine(zyh (ix t (i:Int) mZ).Tables.length (fun j (u:List Mon)=>((i:Int),((j:Int),(a0.Memory,(u,(a0.Buffer,(a0.IoBuffer,([],([],([],([],())))))))))))
   _ (fun j u=>u.length=t.length/\zeP (ix u (i:Int) mZ)/\(ix u (i:Int) mZ).Tables.length=(ix t (i:Int) mZ).Tables.length)
   (fun j u=>rec (((i+1:Nat):Int),(a0.Memory,(up u (i:Int) (zvm (ix u (i:Int) mZ) ((ix t (i:Int) mZ).Tables.length-j) j),(a0.Buffer,(a0.IoBuffer,([],([],([],([],()))))))))))
   (fun j u g n b h=>?_) (fun u g b=>?_) N 0 t ⟨rfl,k,rfl⟩ (jX _) (e p.1)).trans ?_
  .have a:i<u.length:=(by rw[b.1];exact hit);have c:j<(ix u (i:Int) mZ).Tables.length:=(by rw[b.2.2];exact n);have f:SmK (ix (ix u (i:Int) mZ).Tables (j:Int) kZ):=by rw[zbj c];exact b.2.1.2.2.2.2.2.2 _ (jG c)
   refine must (zbe a) (must (zbs c) (must (zbe a) (must (zbe a) (must (zbe c) (must (zbg f) (must (zbe c) (shr ?_)))))));have v:zeP {ix u (i:Int) mZ with Tables:=up (ix u (i:Int) mZ).Tables (j:Int) (zi0 (ix (ix u (i:Int) mZ).Tables (j:Int) kZ))} :=
    ⟨b.2.1.1,b.2.1.2.1,b.2.1.2.2.1,b.2.1.2.2.2.1,b.2.1.2.2.2.2.1,zzf b.2.1.2.2.2.2.2 (zxB _ _ _ f)⟩
   have q:=h (up u (i:Int) {ix u (i:Int) mZ with Tables:=up (ix u (i:Int) mZ).Tables (j:Int) (zi0 (ix (ix u (i:Int) mZ).Tables (j:Int) kZ))}) ⟨by rw[zf0];exact b.1,by rw[zdq a];exact v,by rw[zdq a];simp only[zf0];exact b.2.2⟩;rw[zbh n p.1];refine q.trans ?_;rw[zdq a,zrp,show (ix t (i:Int) mZ).Tables.length-j=(ix t (i:Int) mZ).Tables.length-(j+1)+1 by omega];rfl
  {have a:i<u.length:=(by rw[b.1];exact hit);refine must (zbe a) (zdh (by show ilt ((ix t (i:Int) mZ).Tables.length:Int) (ln (ix u (i:Int) mZ).Tables)=false;rw[ln,b.2.2];exact qL (by omega)) ?_);rw[zbh m r.1,k6];show rec (_,(a0.Memory,(u,_)))=rec (_,(a0.Memory,(up u (i:Int) (ix u (i:Int) mZ),_)));rw[zQi a]};{have q:=w (up t (i:Int) (zvm (ix t (i:Int) mZ) (ix t (i:Int) mZ).Tables.length 0)) ⟨ziT d.1 (zNk k (by omega)),by rw[zf0];exact d.2⟩;refine q.trans ?_;rw[show a0.Mons.length-i=a0.Mons.length-(i+1)+1 by omega];rfl}
 {refine zdh (by show ilt (a0.Mons.length:Int) (ln t)=false;rw[ln,d.2];exact qL (by omega)) ?_;rw[k6];rfl}
theorem zUR:vM 232 zMX:=kF1 zQZ zB zcf zcZ z2i z1d
def z2S:zW:=[(232,zMX)]++z2R
theorem z2T:zK z2S:=zi zUR zQZ
def z2U:zW:=z2S
theorem zQ0:zK z2U:=z2T
theorem zCe:∀(n i:Nat) (t:List Mon),i+n<=t.length->zrq t->zrq (znL n i t)
 | 0,_,_,_,h=>h
 |n+1,i,t,b,h=>by have a:i<t.length:=(by omega);refine zCe n (i+1) _ (by rw[zf0];omega) (ziT h (zNk ?_ (by omega)));rw[zbj a];exact h.2 _ (jG a)
theorem z7h {h:Host}(a:SmH h):SmH (cold h):=⟨a.1,zCe _ _ _ (by omega) a.2.1,by simp[cold],by simp[cold]⟩
theorem znc {h:Host}{m:Int}{b:Bare}(c:SmH h)(d:zcJ h m=true->SmB b):SmH (zeu h m b):=by unfold zeu;cases a:zcJ h m;{exact c};{exact zJV c (zcA.1 a).2 (d a).2.1}
theorem z4P {h:Host}{m g p:Int}(c:SmH h):SmH (zks h m g p):=by unfold zks;cases e:zcJ h m;{exact c};{cases l:zbZ (zG h m) g (hasB p 4);{exact c};{have d:=(zcA.1 e).2;have f:=zWP c d;have k:SmB (chg (zG h m) g (hasB p 4) (zdI (gAt (zG h m) g) p)):=zqf f (zNg _ (zjN _ f));have b:=zJV c d k.2.1;have i:=zTX (chg (zG h m) g (hasB p 4) (zdI (gAt (zG h m) g) p)) d;have j:=zQ7 c e (chg (zG h m) g (hasB p 4) (zdI (gAt (zG h m) g) p)) l;have a:=b.2.1.2 _ (zbD i mZ);simp only[cT];exact⟨b.1,ziT b.2.1 ⟨a.1,a.2.1,a.2.2.1,a.2.2.2.1,a.2.2.2.2.1,zzf a.2.2.2.2.2 (zph (a.2.2.2.2.2.2 _ (zbD j _)))⟩,qU (zzR _ _ _) b.2.2.1,qU (zzR _ _ _) b.2.2.2⟩}}
theorem z7i {h:Host}{m p c v:Int}(e:SmH h):SmH (zmS h m p c v):=by unfold zmS;cases a:ze4 h m p c v;{exact e};{have f:zbU h m p=true:=(by unfold ze4 at a;cases b:zbU h m p;{rw [b]at a;cases a};{rfl});obtain⟨g,i,b⟩:=zgw.1 f;have d:=(zuY (n:=2) (zd3 e g) i b).1.1;exact⟨zAS d.1,d.2⟩}
theorem zVR {h:Host}{m g page need:Int}(b:List Entry)(io:Bool)(d:SmH h)(a:zb7 h m g page need=true):SmH (lookOf h b m g page need io).1:=by have hg:zbW h m g=true:=(by unfold zb7 at a;cases c:zbW h m g;{rw [c]at a;cases a};{rfl});exact(zyi d hg).shape.1
theorem zba1 {h:Host}{m g a v:Int}(e:SmH h):SmH (zpG h m g a v):=by unfold zpG;cases b:zgs h m g a v;{exact e};{have f:zb7 h m g (zbi a) 2=true:=(by unfold zgs at b;cases c:win a 0 15;{rw [c]at b;cases b};{cases d:win v 0 99;{rw [c,d]at b;cases b};{rw [c,d]at b;exact b}});have c:=zVR h.IoBuffer true e f;exact⟨zAS c.1,c.2⟩}
theorem z7j {h:Host}{m g a:Int}(d:SmH h):SmH (zmT h m g a):=by unfold zmT;cases b:zfE h m g a;{exact d};{have e:zb7 h m g (zbi a) 1=true:=(by unfold zfE at b;cases c:win a 0 15;{rw [c]at b;cases b};{rw [c]at b;exact b});exact zVR h.IoBuffer true d e}
theorem zZW {h:Host}{m p:Int}(a:SmH h):SmH (zli h m p):=by unfold zli;cases b:zbU h m p;{exact a};{obtain⟨c,d,e⟩:=zgw.1 b;cases zhb h m p;{exact(zNb (zd3 a c).1 d).1};{exact a}}
theorem zWR {h:Host}{m p:Int}(a:SmH h):SmH (zix h m p):=by unfold zix;cases b:zbU h m p;{exact a};{obtain⟨c,d,e⟩:=zgw.1 b;cases zhb h m p;{exact a};{exact(zjM (zd3 a c) d e).1.1}}
theorem z4S {h:Host}{m t:Int}(a:SmH h):SmH (zjo h m t):=by unfold zjo;cases zbX h;{exact a};{cases c:hasB m (ln h.Mons);{exact a};{cases win t 0 3;{exact a};{have b:zeP (ix h.Mons m mZ):=a.2.1.2 _ (zbD c mZ);exact⟨a.1,ziT a.2.1 ⟨b.1,b.2.1,b.2.2.1,b.2.2.2.1,b.2.2.2.2.1,b.2.2.2.2.2⟩,a.2.2⟩}}}
def zt9 (h:Host)(a:GAct):Host:=bif ieq a.Kind 1 then (zbE h a.M a.G).1 else (cond (ieq a.Kind 2) (zYq h a.M a.G a.X ⟨a.Y,a.Z⟩) (cond (ieq a.Kind 3) (zks h a.M a.G a.X) (cond (ieq a.Kind 4) (zPw h a.M a.G a.X) (cond (ieq a.Kind 5) (zPA h a.M a.G) (cond (ieq a.Kind 6) (zPy h a.M a.G a.X) (cond (ieq a.Kind 7) (zYo h a.M a.G ⟨a.X,a.Y,ieq a.Z 1⟩) (cond (ieq a.Kind 8) (zmS h a.M a.X a.Y a.Z) (cond (ieq a.Kind 9) (zVT h a.M a.X) (cond (ieq a.Kind 10) (zYl h a.M) (cond (ieq a.Kind 11) (zpG h a.M a.G a.X a.Y) (zmT h a.M a.G a.X)))))))))))
def zDM (h:Host)(a:GAct):Told:=bif ieq a.Kind 1 then ⟨(zbE h a.M a.G).2,0⟩ else (cond (ieq a.Kind 2) ⟨zYr h a.M a.G a.X ⟨a.Y,a.Z⟩,0⟩ (cond (ieq a.Kind 3) ⟨zS0 h a.M a.G a.X,0⟩ (cond (ieq a.Kind 4) ⟨zPx h a.M a.G a.X,0⟩ (cond (ieq a.Kind 5) ⟨zPB h a.M a.G,0⟩ (cond (ieq a.Kind 6) ⟨zPz h a.M a.G a.X,0⟩ (cond (ieq a.Kind 7) ⟨zYp h a.M a.G ⟨a.X,a.Y,ieq a.Z 1⟩,0⟩ (cond (ieq a.Kind 8) ⟨ze4 h a.M a.X a.Y a.Z,0⟩ (cond (ieq a.Kind 9) ⟨zVU h a.M a.X,0⟩ (cond (ieq a.Kind 10) ⟨zYn h a.M,zYm h a.M⟩ (cond (ieq a.Kind 11) ⟨zgs h a.M a.G a.X a.Y,0⟩ (⟨zfE h a.M a.G a.X,zrG h a.M a.G a.X⟩)))))))))))
def zl9 (h:Host)(a:GAct):Host:=bif ieq a.Kind 13 then zli h a.M a.X else (cond (ieq a.Kind 14) (zix h a.M a.X) (cond (ieq a.Kind 15) (znU h a.M a.X) (cond (ieq a.Kind 16) (zjo h a.M a.X) (cold h))))
def zMJ (h:Host)(a:GAct):Told:=bif ieq a.Kind 13 then ⟨znr h a.M a.X,0⟩ else (cond (ieq a.Kind 14) ⟨zpO h a.M a.X,0⟩ (cond (ieq a.Kind 15) ⟨zbU h a.M a.X,0⟩ (cond (ieq a.Kind 16) ⟨zAO h a.M a.X,0⟩ (⟨true,0⟩))))
def zeg (h:Host)(a:GAct):Host:=bif win a.Kind 1 17 then (cond (win a.Kind 13 17) (zl9 h a) (zt9 h a)) else h
def zi3 (h:Host)(a:GAct):Told:=bif win a.Kind 1 17 then (cond (win a.Kind 13 17) (zMJ h a) (zDM h a)) else ⟨false,0⟩
theorem z4R {h:Host}{a:GAct}(b:SmH h):SmH (zl9 h a):=by unfold zl9;cases ieq a.Kind 13;{cases ieq a.Kind 14;{cases ieq a.Kind 15;{cases ieq a.Kind 16;{exact z7h b};{exact z4S b}};{exact zRK b}};{exact zWR b}};{exact zZW b}
theorem z4Q {h:Host}{a:GAct}(c:SmH h):SmH (zt9 h a):=by have d:zcJ h a.M=true->SmB (zG h a.M):=fun b=>zWP c (zcA.1 b).2;unfold zt9;cases ieq a.Kind 1;{cases ieq a.Kind 2;{cases ieq a.Kind 3;{cases ieq a.Kind 4;{cases ieq a.Kind 5;{cases ieq a.Kind 6;{cases ieq a.Kind 7;{cases ieq a.Kind 8;{cases ieq a.Kind 9;{cases ieq a.Kind 10;{cases ieq a.Kind 11;{exact z7j c};{exact zba1 c}};{exact znc c (fun b=>zZQ (d b))}};{exact znc c (fun b=>zWO _ (d b))}};{exact z7i c}};{exact znc c (fun b=>zZR _ _ (d b))}};{exact znc c (fun b=>zNe _ _ (d b))}};{exact znc c (fun b=>zNf _ (d b))}};{exact znc c (fun b=>zNd _ _ (d b))}};{exact z4P c}};{exact znc c (fun b=>zZS _ _ _ (d b))}};{exact(z4F a.M a.G c).sm}
theorem zZV {h:Host}{a:GAct}(b:SmH h):SmH (zeg h a):=by unfold zeg;cases win a.Kind 1 17;{exact b};{cases win a.Kind 13 17;{exact z4Q b};{exact z4R b}}
@[simp] abbrev zuW (h:Host)(a:GAct):Bool:=pc (zci h)
@[simp] abbrev zkW (h:Host)(a:GAct):Host:=zl9 h a
@[simp] abbrev ziM (h:Host)(a:GAct):Told:=zMJ h a
def zy6:Run:=rF2 dH (dT .act) fun b c=>(zuW b c,[aH (zkW b c),aT .told (ziM b c)])
def zC5 (N:Nat)(a0:Host)(a:GAct):OA:=
 (cond (ieq a.Kind 13) (oN (zq2 a0 a.M a.X) (some [(aH (zjZ a0 a.M a.X)),(.agg [(.b (zmg a0 a.M a.X)),(.i .i64 0)])])) (cond (ieq a.Kind 14) (oN (ztd a0 a.M a.X) (some [(aH (zly a0 a.M a.X)),(.agg [(.b (zoG a0 a.M a.X)),(.i .i64 0)])])) (cond (ieq a.Kind 15) (oN (zwj a0 a.M a.X) (some [(aH (znu a0 a.M a.X)),(.agg [(.b (zrQ a0 a.M a.X)),(.i .i64 0)])])) (cond (ieq a.Kind 16) (oN (zuP a0 a.M a.X) (some [(aH (zoK a0 a.M a.X)),(.agg [(.b (zoL a0 a.M a.X)),(.i .i64 0)])])) (oN (zJP a0) (some [(aH (zWu a0)),(.agg [(.b true),(.i .i64 0)])]))))))
theorem zPt (a0:Host)(a:GAct)(b:zuW a0 a=true):∃N,zC5 N a0 a=some [aH (zkW a0 a),aT .told (ziM a0 a)]:=by have c:=zL.1 b;refine⟨0,?_⟩;unfold zC5 oN;refine br (fun _=>mu ?_) (fun _=>br (fun _=>mu ?_) (fun _=>br (fun _=>mu ?_) (fun _=>br (fun _=>mu ?_) (fun _=>mu ?_))));all_goals first|rfl|(simp only [*,zkW,ziM,zl9,zMJ,cT,cF]<;>rfl)|simp_all[Ty.cells,zkW,ziM,zl9,zMJ]
theorem zJg:vM 155 zy6:=kF2 zQ0 zB zcf zcZ (zq []) zPt
def z2V:zW:=[(155,zy6),(153,zHG),(154,zBO),(163,zHH)]++z2U
theorem zQ1:zK z2V:=zi zJg (zi zRZ (zi zLC (zi zR0 zQ0)))
@[simp] abbrev zqS (h:Host)(a:GAct):Bool:=pc (zci h)
@[simp] abbrev zme (h:Host)(a:GAct):Host:=zeg h a
@[simp] abbrev zmf (h:Host)(a:GAct):Told:=zi3 h a
def zsn:Run:=rF2 dH (dT .act) fun b c=>(zqS b c,[aH (zme b c),aT .told (zmf b c)])
def zGR (N:Nat)(a0:Host)(a:GAct):OA:=
 let c:=(⟨a.Y,a.Z⟩:Slot); (oN (zEH a) (cond (nB (zy7 a)) (oN (zbP a0) (some [(aH (zo a0)),(.agg [(.b false),(.i .i64 0)])])) (oN (zxr a.Kind) (cond (zrR a.Kind) (oN (zuW a0 a) (some [(aH (zkW a0 a)),(.agg [(.b (ziM a0 a).Ok),(.i .i64 (ziM a0 a).N)])])) (cond (ieq a.Kind 1) (oN (zem a0 a.M a.G) (some [(aH (zEK a0 a.M a.G)),(.agg [(.b (zEL a0 a.M a.G)),(.i .i64 0)])])) (cond (ieq a.Kind 2) (oN (zxq a0 a.M a.G a.X c) (some [(aH (zqY a0 a.M a.G a.X c)),(.agg [(.b (zqZ a0 a.M a.G a.X c)),(.i .i64 0)])])) (cond (ieq a.Kind 3) (oN (zsA a0 a.M a.G a.X) (some [(aH (zmC a0 a.M a.G a.X)),(.agg [(.b (zmD a0 a.M a.G a.X)),(.i .i64 0)])])) (cond (ieq a.Kind 4) (oN (zp5 a0 a.M a.G a.X) (some [(aH (zlr a0 a.M a.G a.X)),(.agg [(.b (zls a0 a.M a.G a.X)),(.i .i64 0)])])) (cond (ieq a.Kind 5) (oN (zp7 a0 a.M a.G) (some [(aH (zlv a0 a.M a.G)),(.agg [(.b (zlw a0 a.M a.G)),(.i .i64 0)])])) (cond (ieq a.Kind 6) (oN (zp6 a0 a.M a.G a.X) (some [(aH (zlt a0 a.M a.G a.X)),(.agg [(.b (zlu a0 a.M a.G a.X)),(.i .i64 0)])])) (cond (ieq a.Kind 7) (oN (zEI a) (oN (zxo a0 a.M a.G (zp3 a)) (some [(aH (zqT a0 a.M a.G (zp3 a))),(.agg [(.b (zqU a0 a.M a.G (zp3 a))),(.i .i64 0)])]))) (cond (ieq a.Kind 8) (oN (zuI a0 a.M a.X a.Y a.Z) (some [(aH (zox a0 a.M a.X a.Y a.Z)),(.agg [(.b (zoy a0 a.M a.X a.Y a.Z)),(.i .i64 0)])])) (cond (ieq a.Kind 9) (oN (zuJ a0 a.M a.X) (some [(aH (zoz a0 a.M a.X)),(.agg [(.b (zoA a0 a.M a.X)),(.i .i64 0)])])) (cond (ieq a.Kind 10) (oN (zxn a0 a.M) (some [(aH (zqP a0 a.M)),(.agg [(.b (zqR a0 a.M)),(.i .i64 (zqQ a0 a.M))])])) (cond (ieq a.Kind 11) (oN (zxp a0 a.M a.G a.X a.Y) (some [(aH (zqV a0 a.M a.G a.X a.Y)),(.agg [(.b (zqW a0 a.M a.G a.X a.Y)),(.i .i64 0)])])) (oN (zuK a0 a.M a.G a.X) (some [(aH (zoB a0 a.M a.G a.X)),(.agg [(.b (zoD a0 a.M a.G a.X)),(.i .i64 (zoC a0 a.M a.G a.X))])])))))))))))))))))
theorem zSx (a0:Host)(a:GAct)(b:zqS a0 a=true):∃N,zGR N a0 a=some [aH (zme a0 a),aT .told (zmf a0 a)]:=by
 have c:=zL.1 b;refine⟨0,?_⟩;unfold zGR oN nB;conv=>zeta
 refine must rfl (brN (fun _=>mu ?_) (fun _=>must rfl (br (fun _=>mu ?_) (fun _=>br (fun _=>mu ?_) (fun _=>br (fun _=>mu ?_) (fun _=>br (fun _=>mu ?_) (fun _=>br (fun _=>mu ?_) (fun _=>br (fun _=>mu ?_) (fun _=>br (fun _=>mu ?_) (fun _=>br (fun _=>must rfl (mu ?_)) (fun _=>br (fun _=>mu ?_) (fun _=>br (fun _=>mu ?_) (fun _=>br (fun _=>mu ?_) (fun _=>br (fun _=>mu ?_) (fun _=>mu ?_)))))))))))))));all_goals first|rfl|(simp only [*,zme,zmf,zeg,zi3,zt9,zDM,cT,cF]<;>rfl)|simp_all[Ty.cells,zme,zmf,zeg,zi3,zt9,zDM]
theorem zvC:vM 92 zsn:=kF2 zQ1 zB zcf zcZ (zq []) zSx
def z2W:zW:=[(92,zsn)]++z2V
theorem zQ2:zK z2W:=zi zvC zQ1
def zD6:List GAct->Host×List Told->Host×List Told
 |[],u=>u
 |a::l,u=>zD6 l (zeg u.1 a,ap u.2 [zi3 u.1 a])
def zz3 (a:List (List (List Ins)))(l:List GAct):Host×List Told:=zD6 (l.take 80) (zfk a,[])
abbrev HSt:Type:=(List Told)×(List (List Int))×(List Mon)×(List Entry)×(List Entry)
def hOf (t:HSt):Host:=⟨t.2.1,t.2.2.1,t.2.2.2.1,t.2.2.2.2⟩
def tOf (u:Host×List Told):HSt:=(u.2,u.1.Memory,u.1.Mons,u.1.Buffer,u.1.IoBuffer)
def zAl (t:HSt):OA:=some [AV.agg (zbl (hOf t)),AV.one (.s .told t.1)]
theorem zPU {e:List (List (List Ins))}(h:zE7 e):SmH (zfk e):=by refine⟨show SmM z1g from ⟨by decide,by decide⟩,⟨?_,?_⟩,by simp[zfk],by simp[zfk]⟩;{simp only [zfk,uL,vK];omega};{intro x d;simp only[zfk,jD]at d;obtain⟨p,f,rfl⟩:=d;have b:=h.2 p (jV f);refine⟨show zu0.length<=1048576 by decide,show SmM zPE from ⟨by decide,by decide⟩,show (rp 8 false).length<=1048576 by decide,⟨?_,?_⟩,by simp[zgj],⟨?_,?_⟩⟩;{simp only [zgj,uL,vK];omega};{intro y a;simp only[zgj,jD]at a;obtain⟨q,c,rfl⟩:=a;exact⟨b.2 q (jV c),show zkY.length<=1048576 by decide,show zkY.length<=1048576 by decide,by simp[zeA]⟩};{simp only [zgj,uL,vK];omega};{intro y a;simp only[zgj,jD]at a;obtain⟨q,c,rfl⟩:=a;exact⟨show (rp 4 false).length<=1048576 by decide,show zkY.length<=1048576 by decide⟩}}
theorem zHs {c:Host->GAct->Bool}(d:∀h a,SmH h->c h a=true)(m:Nat):∀(l:List GAct) (i:Nat) (u:Host×List Told),SmH u.1->u.2.length+l.length<=2147483648->
 goL (fun (i:Nat) x (t:HSt) κ=>bif ilt (i:Int) (m:Int) then (cond (c (hOf t) x) (cond (few (ln (ap t.1 [zi3 (hOf t) x]))) (κ (ap t.1 [zi3 (hOf t) x],(zeg (hOf t) x).Memory,(zeg (hOf t) x).Mons,(zeg (hOf t) x).Buffer,(zeg (hOf t) x).IoBuffer)) none) none) else zAl t) zAl l i (tOf u)=zAl (tOf (zD6 (l.take (m-i)) u))
 |[],i,u,_,_=>by simp[goL,zD6]
 |a::l,i,u,e,k=>by simp only[qY]at k;have g:few (ln (ap u.2 [zi3 u.1 a]))=true:=zgi (by simp[ap];omega);have j:hOf (tOf u)=u.1:=rfl;have f:(tOf u).1=u.2:=rfl;by_cases h:i<m;{have b:ilt (i:Int) (m:Int)=true:=qJ (by omega);simp only[goL,b,j,f,g,d _ _ e,cT];refine(zHs d m l (i+1) (zeg u.1 a,ap u.2 [zi3 u.1 a]) (zZV e) (by simp[ap];omega)).trans ?_;rw[show m-i=m-(i+1)+1 by omega];rfl};{have b:ilt (i:Int) (m:Int)=false:=qL (by omega);simp only[goL,b,cF];rw[show m-i=0 by omega];rfl}
@[simp] abbrev zuH (a:List (List (List Ins)))(l:List GAct):Bool:=pc (zE7 a/\l.length<=1048576)
@[simp] abbrev zuG (a:List (List (List Ins)))(l:List GAct):Host:=(zz3 a l).1
@[simp] abbrev zEJ (a:List (List (List Ins)))(l:List GAct):List Told:=(zz3 a l).2
def zyQ:Run:=rF2 (dS (.sl (.sl .ins))) (dS .act) fun b c=>(zuH b c,[aH (zuG b c),aS .told (zEJ b c)])
def zCO (N:Nat)(a0:lQ)(f:lA):OA:=
 (oN (zqX a0) (iter (σ:=(Int×(lA×(lT×(lM×(lN×(lE×(lE×(lM×(lN×(lE×(lE×Unit)))))))))))) N (fun g a=>let d:=(ix a.2.1 a.1 zbcE);let b:=(⟨a.2.2.2.2.2.2.2.1,a.2.2.2.2.2.2.2.2.1,a.2.2.2.2.2.2.2.2.2.1,a.2.2.2.2.2.2.2.2.2.2.1⟩:Host);let e:=(ap a.2.2.1 [(zmf b d)]);let c:=(zme b d); (cond (ilt a.1 (ln a.2.1)) (cond (ilt a.1 80) (oN (inb a.1 (ln a.2.1)) (oN (zqS b d) (oN (few (ln e)) (g ((zM .i64 a.1 1),(a.2.1,(e,(a.2.2.2.1,(a.2.2.2.2.1,(a.2.2.2.2.2.1,(a.2.2.2.2.2.2.1,(c.Memory,(c.Mons,(c.Buffer,(c.IoBuffer,()))))))))))))))) (some [(aH b),(aS .told a.2.2.1)])) (some [(aH b),(aS .told a.2.2.1)]))) (0,(f,([],([],([],([],([],((zdA a0).Memory,((zdA a0).Mons,((zdA a0).Buffer,((zdA a0).IoBuffer,())))))))))))))
def zP8:FuncId->Nat->Option Tmpl:=zq [(120,0,{n:=39,tm:=[(1,.sl 0 []),(4,.lp 0 0),(6,.lp 1 0),(7,.sl 1 []),(8,ti)],lo:=[(0,[.sl 2 [],.sl 3 [],.sl 4 [],.sl 5 []]),(1,[.sl 6 [],.sl 7 [],.sl 8 [],.sl 9 []])],ro:=[(0,.act,false),(1,.told,true),(2,(.sl .int),true),(3,.mon,true),(4,.entry,true),(5,.entry,true),(6,(.sl .int),true),(7,.mon,true),(8,.entry,true),(9,.entry,true)]})]
theorem zPb (a0:List lP)(b:List GAct)(j:zuH a0 b=true):∃N,zCO N a0 b=some [aH (zuG a0 b),aS .told (zEJ a0 b)]:=by
 obtain⟨g,f⟩:=zL.1 j;have e:=zcF f;refine zcq fun N d=>?_;unfold zCO oN;conv=>zeta
 refine must (zbg g) ?_;refine(zbm b (fun i (t:lT×lM×lN×lE×lE)=>((i:Int),b,t.1,[],[],[],[],t.2.1,t.2.2.1,t.2.2.2.1,t.2.2.2.2,())) _ (fun i (x:GAct) (t:HSt) l=>bif ilt (i:Int) ((80:Nat):Int) then (cond (zqS (hOf t) x) (cond (few (ln (ap t.1 [zi3 (hOf t) x]))) (l (ap t.1 [zi3 (hOf t) x],(zeg (hOf t) x).Memory,(zeg (hOf t) x).Mons,(zeg (hOf t) x).Buffer,(zeg (hOf t) x).IoBuffer)) none) none) else zAl t) (fun (t:lT×lM×lN×lE×lE)=>(some [(.agg (zbl (⟨t.2.1,t.2.2.1,t.2.2.2.1,t.2.2.2.2⟩:Host))),(.one (.s .told t.1))])) (fun i c t rec=>?_) (fun t rec=>?_) _ ([],(zdA a0).Memory,(zdA a0).Mons,(zdA a0).Buffer,(zdA a0).IoBuffer) (d e.1)).trans ?_;{simp only [zbs c,zbe c,zbj c,zbh c e.1,cT];rfl};{simp only [zbn,cF]};exact zHs (fun h a k=>zbg ((zV h).2 k)) 80 b 0 (zfk a0,[]) (zPU g) (by simpa using e.2)
theorem zIT:vM 120 zyQ:=kF2 zQ2 zB zcf zcZ zP8 zPb
def zUh:zW:=[(120,zyQ)]++z2W
theorem zHj:zK zUh:=zi zIT zQ2
def z0d (h:Host):Prop:=∃a l,zE7 a/\(1<=a.length/\∀p∈a,1<=p.length/\∀x∈p,zc4 x=true)/\h=(zz3 a l).1
theorem zJM {p:List Ins}(h:zc4 p=true):p.length<=12:=by unfold zc4 at h;cases a:p.all zdH with|false=>rw[a]at h;cases h|true=>rw[a,cT]at h;have b:=(zfC.1 h).2;unfold ln at b;omega
def zw1 (N:Nat)(c:Cur)  : OA :=
 let a:=({ (zlI c) with b:=c.b}:Cur); (oN (zpa c) (oN (zmr a 20) (oN (zuH (zuU c) (zrY a 20)) (some [(.agg [(.s .u8 c.b),(.i .i64 (zms a 20).i),(.i .i64 (zms a 20).h)]),(aH (zuG (zuU c) (zrY a 20)))]))))
def zpc (c:Cur)(s:Cur)(a:Host):Prop:=(∃N,zw1 N c=some (AV.agg (zbS s)::[aH a]))/\(s.b=c.b/\0<=s.i)/\(z0d a)
def zmp (c:Cur)  : Bool:=wC (zpc c)
def zia (c:Cur)  : Cur:=wS (zpc c)
def zrX (c:Cur)  : Host:=wV (zpc c)
theorem zHX {c:Cur}(h:zmp c=true):zpc c (zia c) (zrX c):=wG h
theorem zYM (c:Cur)  : 0<=(zia c).i:=wP fun h=>h.2.1.2
theorem zYL (c:Cur)(h:∃N,Ends (wE (fun a=>aH a) c.b fun a=>z0d a) (zw1 N c)):zmp c=true:=wI (fun _ _ h=>h) h
def zyz:zdy:=rP0 fun c=>(zmp c,zia c,[aH (zrX c)])
theorem zLZ:zbN Tryz.prog 66 [false,true,true] zyz:=hP0 zHj zU zWg zn (zq []) (fun _ h=>(zHX h).1)
theorem z3C {c:Cur}(h:zbd c):zmp c=true:=by
 refine zYL c ⟨0,?_⟩;have e:zbd {zlI c with b:=c.b}:=zbJ h (z1P _);have a:=(zM7 (z7y h)).2.2;have f:=(zHZ (z2p e (m:=20) (by omega) (by omega))).2.2;unfold zw1 oN;conv=>zeta
 have i:(zrY {zlI c with b:=c.b} 20).length<=65:=by unfold ln at f;omega
 have S:zE7 (zuU c):=⟨by omega,fun p d=>by
  have g:=a.2.2 p d;exact⟨by omega,fun x j=>by have:=zJM (g.2.2 x j);omega⟩⟩
 exact zu (z7y h) (zu (z2p e (by omega) (by omega)) (zu (zbg ⟨S,qU i (by decide)⟩) (zbH aH (zYP _ _) ⟨_,_,S,⟨a.1,fun p d=>⟨(a.2.2 p d).1,(a.2.2 p d).2.2⟩⟩,rfl⟩)))
def z9f:zcU:=[(66,([false,true,true],zyz))]++z9e
theorem zJF:zb2 z9f:=zcu zWg (by
 intro x a;simp only[qG,qO,or_false]at a;rcases a with rfl
 .exact zLZ)
def z2B:zW:=zUh
theorem z2C:zK z2B:=zHj
end
end Go.Proofs.YthdlghbibaoabaaGreat.E
