/- What is proved here: a part of the proof that the statement of this claim holds (several texts of wip/, laid together). -/
import Derived.Test.YthhbajmehldikaaGreatW4
namespace Go.Proofs.YthhbajmehldikaaGreat.E
open Go
set_option linter.constructorNameAsVariable false
set_option linter.unusedVariables false
set_option maxRecDepth 100000
set_option linter.unusedSimpArgs false
set_option linter.unusedSectionVars false
noncomputable section
theorem z7I {a c b:Type}(r:Option b):∀(l:List a) (i:Nat) (t:c),goL (fun _ _ _ _=>r) (fun _=>r) l i t=r
 |[],_,_=>rfl
 |_::_,_,_=>rfl
@[simp] abbrev zlb (h:Host)(p:Int):Bool:=true
@[simp] abbrev zgv (h:Host)(p:Int):Int:=(zbI h p).1
@[simp] abbrev zh9 (h:Host)(p:Int):Int:=(zbI h p).2
def zur:Run:=rF2 dH dI fun b c=>(zlb b c,[aI (zgv b c),aI (zh9 b c)])
def zwZ (N:Nat)(d:Host)(f:Int):OA:=
 (iter (σ:=(Int×(Int×(lM×(lN×(lE×(lE×Unit))))))) N (fun g b=>(cond (ilt b.2.1 (ln b.2.2.2.1)) (cond (ige b.1 0) (iter (σ:=(Int×(Int×(Int×(lM×(lN×(lE×(lE×Unit)))))))) N (fun h a=>let c:=a.2.2.2.2.1;let e:=(ix c a.2.1 zi).Outer; (oN (inb a.2.1 (ln c)) (cond (ilt a.2.2.1 (ln e)) (oN (inb a.2.1 (ln c)) (oN (inb a.2.2.1 (ln e)) (cond (ieq (ix e a.2.2.1 zV).Page a.1) (some [(aI a.2.1),(aI a.2.2.1)]) (h (a.1,(a.2.1,((zK .i64 a.2.2.1 1),(a.2.2.2.1,(c,(a.2.2.2.2.2.1,(a.2.2.2.2.2.2.1,()))))))))))) (g (a.1,((zK .i64 a.2.1 1),(a.2.2.2.1,(c,(a.2.2.2.2.2.1,(a.2.2.2.2.2.2.1,())))))))))) (b.1,(b.2.1,(0,(b.2.2.1,(b.2.2.2.1,(b.2.2.2.2.1,(b.2.2.2.2.2.1,())))))))) (some [(aI (-1)),(aI (-1))])) (some [(aI (-1)),(aI (-1))]))) (f,(0,(d.Memory,(d.Mons,(d.Buffer,(d.IoBuffer,())))))))
def zI6:FuncId->Nat->Option Tmpl:=zo [(280,0,{n:=44,tm:=[(1,ti),(2,.lp 0 0),(6,ti)],lo:=[(0,[.sl 0 [],.sl 1 [],.sl 2 [],.sl 3 []])],ro:=[(0,(.sl .int),false),(1,.mon,false),(2,.entry,false),(3,.entry,false)]}),(280,2,{n:=44,tm:=[(1,ti),(2,.lp 0 0),(6,ti),(7,ti)],lo:=[(0,[.sl 0 [],.sl 1 [],.sl 2 [],.sl 3 []])],ro:=[(0,(.sl .int),false),(1,.mon,false),(2,.entry,false),(3,.entry,false)]})]
theorem zIU (a:Host)(b:Int)(p:zce big [aH a,aI b])(r:zlb a b=true):∃N,zwZ N a b=some [aI (zgv a b),aI (zh9 a b)]:=by
 have m:CVB big (.s .mon a.Mons):=(zdd p).1 _ (by simp[AV.cvs,zbk]);have l:=m.len;refine zcd fun N e=>?_;unfold zwZ zgv zh9 zbI oN;conv=>zeta
 refine(zbl a.Mons (fun i (t:Unit)=>(b,(i:Int),a.Memory,a.Mons,a.Buffer,a.IoBuffer,())) _ (fun i (x:Mon) (_:Unit) q=>bif ige b 0 then goL (fun j (y:Slot) (_:Unit) c=>bif ieq y.Page b then some [AV.one (.i .i64 (i:Int)),AV.one (.i .i64 (j:Int))] else c ()) (fun _=>q ()) x.Outer 0 () else some [AV.one (.i .i64 (-1)),AV.one (.i .i64 (-1))]) (fun (t:Unit)=>(some [(.one (.i .i64 (-1))),(.one (.i .i64 (-1)))])) (fun i d t rec=>?_) (fun t rec=>?_) _ () (e l)).trans ?_;{simp only [zbA d,zbh d,zbo d,zbg d l,cT];cases h:ige b 0;{rfl};have n:a.Mons[i].Outer.length<=big:=(m.inv.2 _ (jL d) (.s .slot _) (by simp[Ty.cells])).len;simp only[cT];refine(zbl a.Mons[i].Outer (fun j (_:Unit)=>(b,((i:Int),((j:Int),(a.Memory,(a.Mons,(a.Buffer,(a.IoBuffer,())))))))) _ (fun j (y:Slot) (_:Unit) c=>bif ieq y.Page b then some [AV.one (.i .i64 (i:Int)),AV.one (.i .i64 (j:Int))] else c ()) (fun _=>rec (b,(((i+1:Nat):Int),(a.Memory,(a.Mons,(a.Buffer,(a.IoBuffer,()))))))) (fun j g u f=>?_) (fun u f=>?_) _ () (e n)).trans ?_;{simp only [zbA g,zbh g,zbo g,zbg g n,cT,zbh d,zbo d]};{simp only [zbq,cF,cT,zbh d,zbo d,zbg d l]};rfl};{simp only [zbq,cF]};cases h:ige b 0;{have k:ilt b 0=true:=(by have:=jT h;exact qJ (by omega));rw[k];exact z7I _ _ _ _};{have k:ilt b 0=false:=(by have:=qE h;exact qH (by omega));rw[k];exact zQ8 b (fun i j=>some [AV.one (.i .i64 i),AV.one (.i .i64 j)]) a.Mons 0}
theorem zEr:vN 280 zur:=hF2 zvu zx zy zdy zI6 zIU
def zbcl:zX:=[(224,zrm),(220,zAB),(280,zur),(313,zum)]++zbck
theorem zvv:zL zbcl:=zh zvJ (zh zLv (zh zEr (zh zEf zvu)))
def zcl (h:Host):List Int:=zy8 (fun i=>ilt (zbI h (i:Int)).1 0) h.Memory.length 0
@[simp] abbrev zmA (h:Host):Bool:=pc (h.Memory.length<=1048576)
@[simp] abbrev zfl (h:Host):List Int:=zcl h
def zGH:Run:=rF1 dH fun b=>(zmA b,[aS .int (zfl b)])
def zNu (N:Nat)(b:Host):OA:=
 (iter (σ:=(Int×((List Int)×(lM×(lN×(lE×(lE×Unit))))))) N (fun c a=>let d:=(⟨a.2.2.1,a.2.2.2.1,a.2.2.2.2.1,a.2.2.2.2.2.1⟩:Host); (cond (ilt a.1 (ln a.2.2.1)) (oN (zlb d a.1) (cond (ilt (zgv d a.1) 0) (oN (few (ln (ap a.2.1 [a.1]))) (c ((zK .i64 a.1 1),((ap a.2.1 [a.1]),(a.2.2.1,(a.2.2.2.1,(a.2.2.2.2.1,(a.2.2.2.2.2.1,())))))))) (c ((zK .i64 a.1 1),(a.2.1,(a.2.2.1,(a.2.2.2.1,(a.2.2.2.2.1,(a.2.2.2.2.2.1,()))))))))) (some [(aS .int a.2.1)]))) (0,([],(b.Memory,(b.Mons,(b.Buffer,(b.IoBuffer,())))))))
def z0w:FuncId->Nat->Option Tmpl:=zo [(279,0,{n:=28,tm:=[(1,.lp 0 0),(3,.sl 0 []),(4,ti)],lo:=[(0,[.sl 1 [],.sl 2 [],.sl 3 [],.sl 4 []])],ro:=[(0,.int,true),(1,(.sl .int),false),(2,.mon,false),(3,.entry,false),(4,.entry,false)]})]
theorem zYK (a:Host)(f:zmA a=true):∃N,zNu N a=some [aS .int (zfl a)]:=by
 have g:=zM.1 f;have e:=zcQ g;refine zcd fun N d=>?_;unfold zNu oN;conv=>zeta
 refine(zbl a.Memory (fun i (t:(List Int))=>((i:Int),t,a.Memory,a.Mons,a.Buffer,a.IoBuffer,())) _ (fun i (_:List Int) (t:List Int) b=>bif ilt (zbI a (i:Int)).1 0 then (cond (few (ln (ap t [(i:Int)]))) (b (ap t [(i:Int)])) none) else b t) (fun (t:(List Int))=>(some [(.one (.s .int t))])) (fun i c t rec=>?_) (fun t rec=>?_) _ ([]) (d e.1)).trans ?_;{simp only [zbA c,zbh c,zbo c,zbg c e.1,cT]};{simp only [zbq,cF]};rw[zzZ (fun i (t:List Int) b=>bif ilt (zbI a (i:Int)).1 0 then (cond (few (ln (ap t [(i:Int)]))) (b (ap t [(i:Int)])) none) else b t)];exact zBP (fun i=>ilt (zbI a (i:Int)).1 0) _ _ 0 [] (by simpa using e.2)
theorem zRB:vN 279 zGH:=kF1 zvv zx zy zdy z0w zYK
@[simp] abbrev zmi (h:Host):Bool:=pc (h.Memory.length<=1048576)
@[simp] abbrev zfO (h:Host):List Int:=zcl h
def zGm:Run:=rF1 dH fun b=>(zmi b,[aS .int (zfO b)])
def zNa (N:Nat)(b:Host):OA:=
 (iter (σ:=(Int×(Int×((List Int)×(lM×(lN×(lE×(lE×Unit)))))))) N (fun d a=>let c:=a.2.2.2.2.2.2.1;let e:=(⟨a.2.2.2.1,a.2.2.2.2.1,a.2.2.2.2.2.1,c⟩:Host); (cond (ilt a.2.1 a.1) (oN (zk0 e a.2.1) (cond (ilt (zgr e a.2.1) 0) (oN (few (ln (ap a.2.2.1 [a.2.1]))) (d (a.1,((zK .i64 a.2.1 1),((ap a.2.2.1 [a.2.1]),(a.2.2.2.1,(a.2.2.2.2.1,(a.2.2.2.2.2.1,(c,()))))))))) (d (a.1,((zK .i64 a.2.1 1),(a.2.2.1,(a.2.2.2.1,(a.2.2.2.2.1,(a.2.2.2.2.2.1,(c,())))))))))) (some [(aS .int a.2.2.1)]))) ((ln b.Memory),(0,([],(b.Memory,(b.Mons,(b.Buffer,(b.IoBuffer,()))))))))
def z0o:FuncId->Nat->Option Tmpl:=zo [(273,0,{n:=28,tm:=[(1,.lp 0 0),(3,.sl 0 []),(10,ti),(11,ti)],lo:=[(0,[.sl 1 [],.sl 2 [],.sl 3 [],.sl 4 []])],ro:=[(0,.int,true),(1,(.sl .int),false),(2,.mon,false),(3,.entry,false),(4,.entry,false)]})]
theorem zYp (a:Host)(f:zmi a=true):∃N,zNa N a=some [aS .int (zfO a)]:=by
 have g:=zM.1 f;have e:=zcQ g;refine zcd fun N d=>?_;unfold zNa oN;conv=>zeta
 refine(zbl a.Memory (fun i (t:(List Int))=>((ln a.Memory),(i:Int),t,a.Memory,a.Mons,a.Buffer,a.IoBuffer,())) _ (fun i (_:List Int) (t:List Int) b=>bif ilt (zbI a (i:Int)).1 0 then (cond (few (ln (ap t [(i:Int)]))) (b (ap t [(i:Int)])) none) else b t) (fun (t:(List Int))=>(some [(.one (.s .int t))])) (fun i c t rec=>?_) (fun t rec=>?_) _ ([]) (d e.1)).trans ?_;{simp only [zbA c,zbh c,zbo c,zbg c e.1,cT]};{simp only [zbq,cF]};rw[zzZ (fun i (t:List Int) b=>bif ilt (zbI a (i:Int)).1 0 then (cond (few (ln (ap t [(i:Int)]))) (b (ap t [(i:Int)])) none) else b t)];exact zBP (fun i=>ilt (zbI a (i:Int)).1 0) _ _ 0 [] (by simpa using e.2)
theorem zRg:vN 273 zGm:=kF1 zvv zx zy zdy z0o zYp
def zhy (m:List (List Int))(p:Int)(c:List Int):List (List Int):=bif hasB p (ln m) then (cond (zcr c) (up m p c) m) else m
@[simp] abbrev zlT (m:List (List Int))(p:Int)(c:List Int):Bool:=pc (SmM m/\c.length<=1048576)
@[simp] abbrev zjY (m:List (List Int))(p:Int)(c:List Int):List (List Int):=zhy m p c
def zAZ:Run:=rF3 (dS (.sl .int)) dI (dS .int) fun b c d=>(zlT b c d,[aS (.sl .int) (zjY b c d)])
def zE5 (N:Nat)(a:lM)(b:Int)(c:List Int):OA:=
 (oN (zf6 a) (oN (zN b 0 (wsub .i64 (ln a) 1)) (cond (zT b 0 (wsub .i64 (ln a) 1)) (oN (zf4 c) (cond (zfp c) (oN (few (ln (ap [] c))) (oN (inb b (ln (zeB a))) (share (up (zeB a) b (ap [] c)) (fun d=>(some [(aS (.sl .int) d)]))))) (some [(aS (.sl .int) (zeB a))]))) (some [(aS (.sl .int) (zeB a))]))))
theorem zSP (b:List (List Int))(a:Int)(c:List Int)(g:zlT b a c=true):∃N,zE5 N b a c=some [aS (.sl .int) (zjY b a c)]:=by obtain⟨e,d⟩:=zM.1 g;refine⟨0,?_⟩;unfold zE5 zjY zhy oN;refine must (zbz ((zqU _).2 e)) (must rfl ?_);rw[show zT a 0 (wsub .i64 (ln b) 1)=hasB a (ln b) from zrI e.1 a];cases f:hasB a (ln b);{rfl};{simp only [cT,zf4,zfp];cases h:zcr c;{rfl};{refine must rfl (must (zoL d) (must (zC f) ?_));rw[zm5];rfl}}
theorem zLU:vN 282 zAZ:=kF3 zvv zx zy zdy (zo []) zSP
@[simp] abbrev zly (m:List (List Int))(p:Int)(c:List Int):Bool:=pc (SmM m/\c.length<=1048576)
@[simp] abbrev zjE (m:List (List Int))(p:Int)(c:List Int):List (List Int):=zhy m p c
def zAE:Run:=rF3 (dS (.sl .int)) dI (dS .int) fun b c d=>(zly b c d,[aS (.sl .int) (zjE b c d)])
def zEE (N:Nat)(a:lM)(b:Int)(c:List Int):OA:=
 (oN (zf2 a) (oN (zcM b (ln a)) (cond (zdc b (ln a)) (oN (zh1 c) (cond (zgz c) (oN (zdJ c) (oN (inb b (ln (zdB a))) (share (up (zdB a) b (zdG c)) (fun d=>(some [(aS (.sl .int) d)]))))) (some [(aS (.sl .int) (zdB a))]))) (some [(aS (.sl .int) (zdB a))]))))
theorem zSn (a:List (List Int))(b:Int)(c:List Int)(f:zly a b c=true):∃N,zEE N a b c=some [aS (.sl .int) (zjE a b c)]:=by obtain⟨g,d⟩:=zM.1 f;refine⟨0,?_⟩;unfold zEE zjE zhy oN;refine must (zbz g) (must rfl ?_);rw[show zdc b (ln a)=hasB b (ln a) from rfl];cases e:hasB b (ln a);{rfl};{simp only [cT,zh1,zgz];cases h:zcr c;{rfl};{refine must rfl (must (zbz (qU d (by decide))) (must (zC e) rfl))}}
theorem zLy:vN 275 zAE:=kF3 zvv zx zy zdy (zo []) zSn
def zrQ:zX:=[(279,zGH),(273,zGm),(282,zAZ),(275,zAE)]++zbcl
theorem zhh:zL zrQ:=zh zRB (zh zRg (zh zLU (zh zLy zvv)))
abbrev mZ:Mon:=Ty.dflt .mon
abbrev sZ:Slot:=Ty.dflt .slot
def ShM (x:Mon):Prop:=x.Outer.length=8/\x.Out.length=8/\x.Dirty.length=8/\x.Tables.length=x.Guests.length
def Shape (h:Host):Prop:=SmH h/\∀x∈h.Mons,ShM x
theorem ziD {h:Host}{m:Int}{x:Mon}(a:Shape h)(c:zfd x)(d:ShM x):Shape {h with Mons:=up h.Mons m x}:=by refine⟨⟨a.1.1,zjn a.1.2.1 c,a.1.2.2⟩,fun y b=>?_⟩;rcases qY b with b|rfl;{exact a.2 y b};{exact d}
theorem zcz {h:Host}(b:Shape h){m:Int}(a:hasB m (ln h.Mons)=true):zfd (ix h.Mons m mZ)/\ShM (ix h.Mons m mZ):=⟨b.1.2.1.2 _ (zbD a _),b.2 _ (zbD a _)⟩
theorem zU5 {h:Host}{b:List (List Int)}(a:Shape h)(c:SmM b):Shape {h with Memory:=b}:=⟨⟨c,a.1.2⟩,a.2⟩
theorem zue {h:Host}{m p:Int}{s:Slot}(e:hasB m (ln h.Mons)=true)(b:Shape h):Shape (zcs h m p s):=by refine⟨zKG e b.1,?_⟩;obtain⟨_,a⟩:=zcz b e;have d:∀y∈up h.Mons m {zkU (ix h.Mons m mZ) p (ix h.Mons m mZ).Tables.length with Outer:=up (ix h.Mons m mZ).Outer p s},ShM y:=(by intro y c;rcases qY c with c|rfl;{exact b.2 y c};{exact⟨by simpa using a.1,a.2.1,a.2.2.1,by simpa [zkU,zrF] using a.2.2.2⟩});unfold zcs;cases ine (ix (ix h.Mons m mZ).Outer p sZ).Page (-1)<;>exact d
theorem zgh (h:Host)(m p:Int)(s:Slot):(zcs h m p s).Mons=up h.Mons m {zkU (ix h.Mons m mZ) p (ix h.Mons m mZ).Tables.length with Outer:=up (ix h.Mons m mZ).Outer p s}/\(zcs h m p s).Memory=h.Memory:=by unfold zcs;cases ine (ix (ix h.Mons m mZ).Outer p sZ).Page (-1)<;>exact⟨rfl,rfl⟩
theorem zeF {h:Host}{m k:Int}{x:Mon}(a:hasB m (ln h.Mons)=true):hasB m (ln (up h.Mons k x))=true:=by simpa [ln] using a
theorem zJY {h:Host}{m k p:Int}{s:Slot}(a:hasB m (ln h.Mons)=true):hasB m (ln (zcs h k p s).Mons)=true:=by rw[(zgh h k p s).1];exact zeF a
theorem zdw {b:Type}{l:List b}{p:Int}(h:l.length=8)(a:hasB p 8=true):hasB p (ln l)=true:=by rw[ln,h];exact a
def zCa (h:Host)(m p:Int)(s:Slot):Host :=
 bif ine s.Page (-1) then ⟨h.Memory,up h.Mons m (zkU (ix h.Mons m mZ) p (ix h.Mons m mZ).Guests.length),flushed h.Buffer s.Page,flushed h.IoBuffer s.Page⟩
 else ⟨h.Memory,up h.Mons m (zkU (ix h.Mons m mZ) p (ix h.Mons m mZ).Guests.length),h.Buffer,h.IoBuffer⟩
theorem zCM {h:Host}{k:Nat}{p:Int}{s:Slot}(a:k<h.Mons.length)(b:(ix h.Mons (k:Int) mZ).Tables.length=(ix h.Mons (k:Int) mZ).Guests.length) :
 zCa {h with Mons:=up h.Mons (k:Int) {ix h.Mons (k:Int) mZ with Outer:=up (ix h.Mons (k:Int) mZ).Outer p s}} (k:Int) p (ix (ix h.Mons (k:Int) mZ).Outer p sZ)=zcs h (k:Int) p s:=by
 unfold zcs zCa;simp only[zdX a,zyL,zkU,b]
def z4X {a:Type}(m p:Int)(i:Nat)(t:List Mon)(b:List Mon->Option a):Option a :=
 (cond (inb (i:Int) (ln (ix t m mZ).Tables)) (cond (inb (i:Int) (ln (ix t m mZ).Guests)) (cond (pc (SmK (ix (ix t m mZ).Tables (i:Int) zd9)/\(ix (ix t m mZ).Guests (i:Int) zG).Live.length<=1048576)) (cond (inb (i:Int) (ln (ix t m mZ).Tables)) (b (up t m ({ (ix t m mZ) with Tables:=(up (ix t m mZ).Tables (i:Int) (zhY (ix (ix t m mZ).Tables (i:Int) zd9) (ix (ix t m mZ).Guests (i:Int) zG).Live p))}:Mon))) none) none) none) none)
theorem z2Z {j:Type}{mons:List Mon}{k:Nat}(d:k<mons.length)(p:Int)(c:zfd (ix mons (k:Int) mZ))(f:(ix mons (k:Int) mZ).Tables.length=(ix mons (k:Int) mZ).Guests.length)(K:List Mon->Option j) :
 ∀(n i:Nat),i+n=(ix mons (k:Int) mZ).Guests.length->goN (fun i t g=>z4X (k:Int) p i t g) K n i (up mons (k:Int) (zkU (ix mons (k:Int) mZ) p i))=K (up mons (k:Int) (zkU (ix mons (k:Int) mZ) p (ix mons (k:Int) mZ).Guests.length))
 | 0,i,h=>by have:i=(ix mons (k:Int) mZ).Guests.length:=(by omega);subst this;rfl
 |n+1,i,h=>by
  have b:i<(ix mons (k:Int) mZ).Guests.length:=(by omega);have a:i<(zl4 (ix mons (k:Int) mZ).Guests p i (ix mons (k:Int) mZ).Tables).length:=by rw[zrF];omega
  have e:pc (SmK (ix (zl4 (ix mons (k:Int) mZ).Guests p i (ix mons (k:Int) mZ).Tables) (i:Int) zd9)/\(ix (ix mons (k:Int) mZ).Guests (i:Int) zG).Live.length<=1048576)=true :=
   zbz ⟨by rw[zbo a];exact(zyI _ _ _ _ (by omega) c.2.2.2.2.2).2 _ (jL a),by rw[zbo b];exact(c.2.2.2.1.2 _ (jL b)).2.2.1⟩
  simp only[goN,z4X,zdX d,zyL,zkU,zbh a,zbh b,e,cT];exact z2Z d p c f K n (i+1) (by omega)
@[simp] abbrev zep (h:Host)(m p:Int)(s:Slot):Bool:=pc (Shape h/\hasB m (ln h.Mons)=true)
@[simp] abbrev zeq (h:Host)(m p:Int)(s:Slot):Host:=zCa h m p s
def zmZ:List CV->List AV->Option (Bool×List CV×List AV)
 |[.s (.sl .int) b,.s .mon c,.s .entry d,.s .entry e],[.one (.i .i64 f),.one (.i .i64 g),.agg [.i .i64 h,.i .i64 j]]=>some ((zep (⟨b,c,d,e⟩:Host) f g (⟨h,j⟩:Slot)),zbk (zeq (⟨b,c,d,e⟩:Host) f g (⟨h,j⟩:Slot)),[])
 |_,_=>none
def zqM (N:Nat)(c:Host)(i n:Int)(k:Slot):OA:=
 (oN (inb i (ln c.Mons)) (iter (σ:=(Int×(Int×(Int×(Int×(Int×(Int×(lN×(lM×(lE×(lE×Unit))))))))))) N (fun p a=>let j:=a.2.2.2.2.2.2.2.1;let h:=a.2.2.2.2.2.2.1;let e:=a.2.2.2.2.1;let g:=a.2.2.2.2.2.2.2.2.1;let f:=a.2.2.2.2.2.2.2.2.2.1;let b:=a.2.2.2.1;let d:=(ix h a.2.1 zi);let m:=(ix d.Tables b zd9);let l:=(ix d.Guests b zG).Live; (cond (ilt b a.2.2.1) (oN (inb b (ln d.Tables)) (oN (inb b (ln d.Guests)) (oN (zq0 m l a.1) (oN (inb b (ln d.Tables)) (share (up h a.2.1 ({d with Tables:=(up d.Tables b (zvP m l a.1))}:Mon)) (fun q=>(p (a.1,(a.2.1,(a.2.2.1,((zK .i64 b 1),(e,(a.2.2.2.2.2.1,(q,(j,(g,(f,()))))))))))))))))) (cond (ine e (-1)) (oN (zhL g e) (oN (zhL f e) (some [(aH (⟨j,h,(zkB g e),(zkB f e)⟩:Host))]))) (some [(aH (⟨j,h,g,f⟩:Host))])))) (n,(i,((ln (ix c.Mons i zi).Guests),(0,(k.Page,(k.Rights,(c.Mons,(c.Memory,(c.Buffer,(c.IoBuffer,()))))))))))))
def zMX:FuncId->Nat->Option Tmpl:=zo [(210,0,{n:=71,tm:=[(0,.lp 0 0),(2,ti),(7,.lp 1 0),(8,.ep 0 [] 0),(20,ti),(21,ti)],lo:=[(0,[.sl 1 [],.sl 0 [],.sl 2 [],.sl 3 []]),(1,[ti,ti])],ro:=[(0,.mon,true),(1,(.sl .int),true),(2,.entry,true),(3,.entry,true)]})]
theorem zPJ (N:Nat)(c:Host)(a b:Int)(d:Slot):zpf (cQ zrQ zpF zMx z0k) zMX N 12 210 [true,true,true,true] (zbk c) [aI a,aI b,aT .slot d]=zqM N c a b d:=by kernel_rfl
theorem zMf (c:Host)(d b:Int)(a:Slot)(s:zce big (.agg (zbk c)::[aI d,aI b,aT .slot a]))(r:zep c d b a=true):∃N,zqM N c d b a=some (.agg (zbk (zeq c d b a))::[]):=by
 obtain⟨h,g⟩:=zM.1 r;obtain⟨l,q⟩:=zcz h g;have hg:(ix c.Mons d mZ).Guests.length<=big:=(zcQ l.2.2.2.1.1).1;refine zcd fun N f=>?_;unfold zqM oN;conv=>zeta
 refine must (zC g) ?_;refine(zbl ((ix c.Mons d zi).Guests) (fun i (t:lN)=>(b,d,(ln (ix c.Mons d zi).Guests),(i:Int),a.Page,a.Rights,t,c.Memory,c.Buffer,c.IoBuffer,())) _ (fun i (x:Guest) (t:List Mon) j=>z4X d b i t j) (fun (t:lN)=>(cond (ine a.Page (-1)) (cond (zhL c.Buffer a.Page) (cond (zhL c.IoBuffer a.Page) (some [(.agg (zbk (⟨c.Memory,t,(zkB c.Buffer a.Page),(zkB c.IoBuffer a.Page)⟩:Host)))]) none) none) (some [(.agg (zbk (⟨c.Memory,t,c.Buffer,c.IoBuffer⟩:Host)))]))) (fun i e t rec=>?_) (fun t rec=>?_) _ (c.Mons) (f hg)).trans ?_;{simp only [zbA e,zbh e,zbo e,zbg e hg,cT];rfl};{simp only [zbq,cF]};obtain⟨k,rfl,m⟩:=zdS (n:=c.Mons.length) g;rw[zzZ (fun i t j=>z4X (k:Int) b i t j)];have p:c.Mons=up c.Mons (k:Int) (zkU (ix c.Mons (k:Int) mZ) b 0):=(zTE m _).symm;refine(congrArg _ p).trans ((z2Z m b l q.2.2.2 _ _ 0 (j6 _)).trans ?_);show (cond (ine a.Page (-1)) _ _)=some [AV.agg (zbk (zCa c (k:Int) b a))];unfold zCa;cases ine a.Page (-1);{rfl};{exact must rfl (must (zbz h.1.2.2.1) (must (zbz h.1.2.2.2) rfl))}
theorem zFC:zbN Tryz.prog 210 [true,true,true,true] zmZ:=by refine zg7 (zgp zhh zx zy zdy) (ziG (by kernel_rfl)) ?_;intro g a b j i f h;have d:=zli f;unfold zmZ at h;split at h;{obtain⟨e,rfl,rfl⟩:=znL h;obtain⟨N,c⟩:=zMf _ _ _ _ (by exact d) e;exact⟨rfl,_,N,12,(zPJ N _ _ _ _ ).trans c⟩};{cases h}
def z5w:zcJ:=[(210,([true,true,true,true],zmZ))]++zMx
theorem zS8:zb2 z5w:=zcv zy (by
 intro x a;simp only[qG,qN,or_false]at a;rcases a with rfl
 .exact zFC)
def zeL (h:Host)(m p:Int):Host:={h with Mons:=up h.Mons m {ix h.Mons m mZ with Out:=up (ix h.Mons m mZ).Out p (zcx h.Memory (ix (ix h.Mons m mZ).Outer p sZ).Page)}}
def zdx (h:Host)(m p:Int):Host:=zcs (zeL h m p) m p noSlot
theorem zZ8 {m:List (List Int)}{p:Int}(h:SmM m):(zcx m p).length<=1048576:=by unfold zcx;cases a:hasB p (ln m);{exact(by decide:zCU.length<=1048576)};{exact h.2 _ (zbD a _)}
theorem zzt {h:Host}{m p:Int}(c:Shape h)(d:hasB m (ln h.Mons)=true):Shape (zeL h m p):=by obtain⟨a,b⟩:=zcz c d;exact ziD c ⟨a.1,zQs a.2.1 (zZ8 c.1.1),a.2.2⟩ ⟨b.1,by simpa using b.2.1,b.2.2⟩
theorem zQk {h:Host}{m p:Int}(b:Shape h)(a:hasB m (ln h.Mons)=true):Shape (zdx h m p):=zue (zeF a) (zzt b a)
@[simp] abbrev zuW (h:Host)(m p:Int):Bool:=pc (Shape h/\hasB m (ln h.Mons)=true/\hasB p 8=true)
@[simp] abbrev zCJ (h:Host)(m p:Int):Host:=zdx h m p
def zwo:List AV->Option (Bool×List AV)
 |[.agg [.s (.sl .int) b,.s .mon c,.s .entry d,.s .entry e],.one (.i .i64 f),.one (.i .i64 g)]=>some ((zuW (⟨b,c,d,e⟩:Host) f g),[aH (zCJ (⟨b,c,d,e⟩:Host) f g)])
 |_=>none
def zBt (N:Nat)(a:Host)(b c:Int):OA:=
 let d:=(ix a.Mons b zi);let e:=(ix d.Outer c zV).Page; (oN (inb b (ln a.Mons)) (oN (inb b (ln a.Mons)) (oN (inb c (ln d.Outer)) (oN (zjV a.Memory e) (oN (inb c (ln d.Out)) (share (up a.Mons b ({d with Out:=(up d.Out c (zoB a.Memory e))}:Mon)) (fun g=>let f:=({a with Mons:=g}:Host); (oN zcC (oN (ze9 f b c zbx) (some [(aH (zg0 f b c zbx))]))))))))))
theorem z1R (N:Nat)(a:Host)(b c:Int):zHI (cQ zrQ zpF z5w z0k) (zo []) N 12 281 [true,true,true,true,false,false] 1 1 [[0],[1],[2],[4],[7]] .mon [aH a,aI b,aI c]=zBt N a b c:=by kernel_rfl
theorem zY7 (b:Host)(d c:Int)(m:zce big [aH b,aI d,aI c])(j:zuW b d c=true):∃N,zBt N b d c=some [aH (zCJ b d c)]:=by
 obtain⟨g,a,f⟩:=zM.1 j;obtain⟨l,e⟩:=zcz g a;obtain⟨k,rfl,h⟩:=zdS (n:=b.Mons.length) a;have i:=zzt (p:=c) g a;refine⟨0,?_⟩;unfold zBt oN;conv=>zeta
 refine must (zC a) (must (zC a) (must (zC (zdw e.1 f)) (must (zbz ((zqU _).2 g.1.1)) (must (zC (zdw e.2.1 f)) (shr (must rfl (must (zbz ⟨(zQ _).2 i.1,zeF a,?_,?_⟩) rfl)))))));{simp only [zdX h];exact zdw e.1 f};{simp only [zdX h];exact kY e.2.2.2}
theorem zR4:zec Tryz.prog 281 [true,true,true,true,false,false] (some (1,1,[[0],[1],[2],[4],[7]])) zwo:=by refine zmg (kt:=.mon) (zgp zhh zx zS8 zdy) (ziG (by kernel_rfl)) (by kernel_rfl) ?_;intro a g f e h;have c:=ziH e;unfold zwo at h;split at h;{obtain⟨d,rfl⟩:=zd1 h;obtain⟨N,b⟩:=zY7 _ _ _ (by exact c) d;exact⟨⟨_,rfl⟩,rfl,_,N,12,(z1R N _ _ _ ).trans b⟩};{cases h}
@[simp] abbrev zL7 (h:Host)(m p:Int):Bool:=pc (Shape h/\hasB m (ln h.Mons)=true/\hasB p 8=true)
@[simp] abbrev zL8 (h:Host)(m p:Int):Host:=zdx h m p
def zzc:List CV->List AV->Option (Bool×List CV×List AV)
 |[.s (.sl .int) b,.s .mon c,.s .entry d,.s .entry e],[.one (.i .i64 f),.one (.i .i64 g)]=>some ((zL7 (⟨b,c,d,e⟩:Host) f g),zbk (zL8 (⟨b,c,d,e⟩:Host) f g),[])
 |_,_=>none
def zKQ (N:Nat)(c:Host)(b a:Int):OA:=
 let d:=(ix c.Mons b zi);let e:=(ix d.Outer a zV); (oN (inb b (ln c.Mons)) (oN (inb a (ln d.Outer)) (oN (zjC c.Memory e.Page) (oN (inb a (ln d.Out)) (share (up c.Mons b ({d with Out:=(up d.Out a (zom c.Memory e.Page))}:Mon)) (fun g=>let f:=(ix g b zi); (oN zdo (oN (inb a (ln f.Outer)) (share (up g b ({f with Outer:=(up f.Outer a zcO)}:Mon)) (fun i=>let h:=({c with Mons:=i}:Host); (oN (zep h b a e) (some [(aH (zeq h b a e))]))))))))))))
theorem z8l (N:Nat)(c:Host)(a b:Int):zpf (cQ zrQ zpF z5w z0k) (zo []) N 12 314 [true,true,true,true] (zbk c) [aI a,aI b]=zKQ N c a b:=by kernel_rfl
theorem z5i (c:Host)(e a:Int)(w:zce big (.agg (zbk c)::[aI e,aI a]))(u:zL7 c e a=true):∃N,zKQ N c e a=some (.agg (zbk (zL8 c e a))::[]):=by
 obtain⟨l,b,j⟩:=zM.1 u;obtain⟨v,f⟩:=zcz l b;obtain⟨k,rfl,h⟩:=zdS (n:=c.Mons.length) b;have m:=zzt (p:=a) l b;have d:hasB (k:Int) (ln (zeL c (k:Int) a).Mons)=true:=zeF b;have i:k<(zeL c (k:Int) a).Mons.length:=(by simpa [zeL] using h);have g:ix (zeL c (k:Int) a).Mons (k:Int) mZ={ix c.Mons (k:Int) mZ with Out:=up (ix c.Mons (k:Int) mZ).Out a (zcx c.Memory (ix (ix c.Mons (k:Int) mZ).Outer a sZ).Page)}:=zdX h _ _;have t:Shape {zeL c (k:Int) a with Mons:=up (zeL c (k:Int) a).Mons (k:Int) {ix (zeL c (k:Int) a).Mons (k:Int) mZ with Outer:=up (ix (zeL c (k:Int) a).Mons (k:Int) mZ).Outer a noSlot}}:=(by obtain⟨q,r⟩:=zcz m d;exact ziD m ⟨by simpa using q.1,q.2⟩ ⟨by simpa using r.1,r.2⟩);refine⟨0,?_⟩;unfold zKQ oN;conv=>zeta
 refine must (zC b) (must (zC (zdw f.1 j)) (must (zbz ((zqU _).2 l.1.1)) (must (zC (zdw f.2.1 j)) (shr (must rfl (must ?_ (shr (must (zbz ⟨t,zeF d⟩) ?_))))))));{rw [zdX h];exact zC (zdw f.1 j)};{have:=zCM (p:=a) (s:=noSlot) i (by rw[g];exact f.2.2.2);rw[g] at this;show some [AV.agg (zbk (zCa {zeL c (k:Int) a with Mons:=up (zeL c (k:Int) a).Mons (k:Int) {ix (zeL c (k:Int) a).Mons (k:Int) mZ with Outer:=up (ix (zeL c (k:Int) a).Mons (k:Int) mZ).Outer a noSlot}} (k:Int) a (ix (ix c.Mons (k:Int) mZ).Outer a sZ)))]=_;rw[g];exact congrArg (fun x=>some [AV.agg (zbk x)]) this}
theorem zX8:zbN Tryz.prog 314 [true,true,true,true] zzc:=by refine zg7 (zgp zhh zx zS8 zdy) (ziG (by kernel_rfl)) ?_;intro g a b j i f h;have d:=zli f;unfold zzc at h;split at h;{obtain⟨e,rfl,rfl⟩:=znL h;obtain⟨N,c⟩:=z5i _ _ _ (by exact d) e;exact⟨rfl,_,N,12,(z8l N _ _ _ ).trans c⟩};{cases h}
def z5x:zcJ:=[(314,([true,true,true,true],zzc))]++z5w
theorem zS9:zb2 z5x:=zcv zS8 (by
 intro x a;simp only[qG,qN,or_false]at a;rcases a with rfl
 .exact zX8)
def z6r:ze2:=[(281,([true,true,true,true,false,false],(some (1,1,[[0],[1],[2],[4],[7]])),zwo))]++z0k
theorem zTm:zd5 z6r:=zrG zdy (by
 intro x a;simp only[qG,qN,or_false]at a;rcases a with rfl
 .exact zR4)
def cz (l:List Slot):Nat:=l.countP fun s=>ieq s.Page 0
def zH:List Mon->Nat
 |[]=>0
 |m::l=>cz m.Outer+zH l
def bit (u:List Bool):Nat:=bif ix u 0 false then 1 else 0
theorem zzU (s:Slot)(l:List Slot):cz (s::l)=cz l+bif ieq s.Page 0 then 1 else 0:=by unfold cz;rw[vG];cases ieq s.Page 0<;>rfl
theorem zbfj {u:List Bool}{p:Int}(c:0<=p)(a:p.toNat<u.length)(x:Bool):ix (up u p x) 0 false=bif ieq p 0 then x else ix u 0 false:=by unfold ix up;cases h:ieq p 0;{have:p≠0:=(by simpa [ieq] using h);have b:p.toNat≠0:=(by omega);simp[List.getD,q9,b]};{have:p=0:=(by simpa [ieq] using h);subst this;have a:0<u.length:=a;simp[List.getD,q9,a]}
theorem zHv:∀(l:List Slot) (u b:List Bool),(∀s∈l,s.Page<12)->u.length=12->zgH l u=some b->cz l+bit u=bit b
 |[],u,b,_,_,h=>by cases h;simp[cz]
 |s::l,u,b,i,k,h=>by
  simp only[zgH]at h;rw[zzU];cases c:ilt s.Page 0;{have c:=jT c;rw[show ilt s.Page 0=false from qH (by omega)]at h;simp only[cF]at h;cases d:ix u s.Page false;{rw [d]at h;simp only[cF]at h;have g:s.Page.toNat<u.length:=(by have:=i s (by simp);omega);have a:=zHv l _ b (fun t j=>i t (by simp[j])) (by simpa using k) h;have e:bit (up u s.Page true)=bif ieq s.Page 0 then 1 else bit u:=(by unfold bit;rw[zbfj (by omega) g];cases ieq s.Page 0<;>rfl);rw[e] at a;cases f:ieq s.Page 0;{rw [f] at a;simp only[cF] at a ⊢;omega};{have n:s.Page=0:=(by simpa [ieq] using f);rw[n]at d;have:bit u=0:=(by unfold bit;rw[d];rfl);rw[f] at a;simp only[cT] at a ⊢;omega}};{rw [d]at h;cases h}};{have m:=qE c;rw[c]at h;simp only[cT]at h;have a:=zHv l u b (fun t j=>i t (by simp[j])) k h;have:ieq s.Page 0=false:=(by simp[ieq];omega);rw[this];simpa using a}
theorem zYc:∀(l:List Mon) (u:List Bool),u.length=12->ziM l u=true->zH l+bit u<=1
 |[],u,_,_=>by unfold zH bit;cases ix u 0 false<;>simp
 |m::l,u,c,h=>by simp only[ziM]at h;cases b:zeb m;{rw [b]at h;cases h};{rw [b]at h;simp only[cT]at h;cases a:zgH m.Outer u with|none=>rw[a]at h;cases h|some d =>rw[a]at h;have e:=zHv _ _ _ (zH4 (znm b)) c a;have f:=zYc l d ((zqI _ _ _ a).trans c) h;simp only[zH];omega}
theorem z7t:∀(l:List Slot) (b:Nat) (s:Slot),l[b]?=some s->s.Page=0->cz (l.set b noSlot)+1=cz l
 |[],b,s,h,_=>by simp at h
 |t::l,0,s,h,a=>by simp only[qI,qC]at h;subst h;rw[List.set_cons_zero,zzU,zzU];have:ieq t.Page 0=true:=(by simp[ieq,a]);rw[this];rfl
 |t::l,b+1,s,h,a=>by rw[List.set_cons_succ,zzU,zzU];have:=z7t l b s (by simpa using h) a;omega
theorem z0S:∀(l:List Mon) (a:Nat) (x y:Mon),l[a]?=some x->zH (l.set a y)+cz x.Outer=zH l+cz y.Outer
 |[],a,x,y,h=>by simp at h
 |m::l,0,x,y,h=>by simp only[qI,qC]at h;subst h;rw[List.set_cons_zero];simp only[zH];omega
 |m::l,a+1,x,y,h=>by rw[List.set_cons_succ];have:=z0S l a x y (by simpa using h);simp only[zH];omega
theorem z4G {l:List Slot}(h:cz l=0):zph l 0=none:=by unfold zph;rw[List.findIdx?_eq_none_iff];intro s a;have:=(vA.1 h) s a;simpa using this
theorem zPP:∀(l:List Mon) (i:Nat),zH l=0->zh6 0 l i=(-1,-1)
 |[],_,_=>rfl
 |m::l,i,h=>by simp only[zH]at h;simp only[zh6];rw[z4G (by omega)];exact zPP l (i+1) (by omega)
theorem z4H {l:List Slot}{k:Nat}(h:zph l 0=some k):∃s,l[k]?=some s/\s.Page=0:=by unfold zph at h;rw[uY]at h;obtain⟨a,b,_⟩:=h;exact⟨l[k],qB a,by simpa [ieq] using b⟩
theorem zJ4:∀(l:List Mon) (i:Nat),zh6 0 l i=(-1,-1)\/∃a b x s,zh6 0 l i=(((i+a:Nat):Int),((b:Nat):Int))/\l[a]?=some x/\x.Outer[b]?=some s/\s.Page=0
 |[],_=>.inl rfl
 |m::l,i=>by
  simp only[zh6];cases h:zph m.Outer 0 with
  |none=>rcases zJ4 l (i+1) with c|⟨a,b,x,s,c,d,f,g⟩;{exact .inl c};{refine .inr ⟨a+1,b,x,s,?_,by simpa using d,f,g⟩;have e:i+1+a=i+(a+1):=(by omega);rw[c,e]}
  |some k=>obtain⟨s,c,d⟩:=z4H h;exact .inr ⟨0,k,m,s,rfl,rfl,c,d⟩
def Fit (h:Host):Prop:=Shape h/\0<h.Memory.length/\zH h.Mons<=1
theorem zJX {h:Host}(c:0<h.Memory.length)(b:ilt (zbI h 0).1 0=true):inb 0 (ln (zcl h))=true:=by unfold zcl;obtain⟨n,a⟩:∃n,h.Memory.length=n+1:=⟨h.Memory.length-1,by omega⟩;rw[a];simp only[zy8];rw[show ilt (zbI h ((0:Nat):Int)).1 0=true from b];exact qJ (by simp only[cT,ln,q0];omega)
theorem z4M {h:Host}(b:0<h.Memory.length)(a:ieq (ln (zcl h)) 0=true):ilt (zbI h 0).1 0=false:=by cases c:ilt (zbI h 0).1 0;{rfl};{have d:=qE (zJX b c);have e:ln (zcl h)=0:=(by simpa [ieq] using a);omega}
def zdb (h:Host):Host:=bif ieq (ln (zcl h)) 0 then zdx h (zbI h 0).1 (zbI h 0).2 else h
structure Room (h r:Host):Prop where
 shape:Shape r
 free:inb 0 (ln (zcl r))=true
 len:r.Mons.length=h.Mons.length
 outer:∀m,(ix r.Mons m mZ).Outer.length=8\/True
theorem z8t {h:Host}(i:Fit h)(f:ieq (ln (zcl h)) 0=true):∃(a b:Nat) (x:Mon) (s:Slot),zbI h 0=((a:Int),(b:Int))/\h.Mons[a]?=some x/\x.Outer[b]?=some s/\s.Page=0:=by have d:=z4M i.2.1 f;have e:zbI h 0=zh6 0 h.Mons 0:=rfl;rcases zJ4 h.Mons 0 with c|⟨a,b,x,s,c,g⟩;{rw [e,c]at d;cases d};{exact⟨a,b,x,s,by rw[e,c,j6],g⟩}
theorem zHW {h:Host}(d:Fit h)(e:ieq (ln (zcl h)) 0=true):hasB (zbI h 0).1 (ln h.Mons)=true/\hasB (zbI h 0).2 8=true:=by obtain⟨a,b,x,s,f,c,g,j⟩:=z8t d e;rw[f];have k:=(qA.1 c).1;have l:=(qA.1 g).1;have i:=d.1.2 x (qK c);refine⟨qJ (by simp only[ln];omega),qJ ?_⟩;have:=i.1;show 0<=(b:Int)/\(b:Int)<8;omega
theorem room {h:Host}(d:Fit h):Room h (zdb h):=by unfold zdb;cases g:ieq (ln (zcl h)) 0;{refine⟨d.1,qJ ?_,rfl,fun _=>.inr trivial⟩;have:ln (zcl h)≠0:=(by simpa [ieq] using g);show 0<=(0:Int)/\(0:Int)<ln (zcl h);simp only[ln] at *;omega};{obtain⟨n,u⟩:=zHW d g;obtain⟨a,b,x,s,r,i,k,t⟩:=z8t d g;simp only[cT];rw[r]at n u ⊢;have m:=(qA.1 i).1;have B:=(qA.1 k).1;have j:ix h.Mons (a:Int) mZ=x:=(by rw[zbo m];exact(qA.1 i).2);have c:=(zgh (zeL h (a:Int) (b:Int)) (a:Int) (b:Int) noSlot).1;have q:ix (zeL h (a:Int) (b:Int)).Mons (a:Int) mZ={x with Out:=up x.Out (b:Int) (zcx h.Memory (ix x.Outer (b:Int) sZ).Page)}:=(by unfold zeL;rw[zdX m,j]);obtain⟨y,l,v⟩:∃y,(zdx h (a:Int) (b:Int)).Mons=h.Mons.set a y/\y.Outer=x.Outer.set b noSlot:=(by unfold zdx;rw[c,q];unfold zeL;rw[zyL];exact⟨_,by simp[up];rfl,by simp[up]⟩);have w:zH (zdx h (a:Int) (b:Int)).Mons=0:=(by have p:=z0S h.Mons a x y i;have z:=z7t x.Outer b s k t;have A:=d.2.2;rw[l];rw[v] at p;omega);have f:(zdx h (a:Int) (b:Int)).Memory=h.Memory:=(zgh (zeL h (a:Int) (b:Int)) (a:Int) (b:Int) noSlot).2;refine⟨zQk d.1 n,zJX (by rw[f];exact d.2.1) ?_,by rw[l];simp,fun _=>.inr trivial⟩;have e:zbI (zdx h (a:Int) (b:Int)) 0=zh6 0 (zdx h (a:Int) (b:Int)).Mons 0:=rfl;rw[e,zPP _ _ w];rfl}
theorem zZ9 {m:List (List Int)}{p:Int}{c:List Int}(h:SmM m)(a:c.length<=1048576):SmM (zhy m p c):=by unfold zhy;cases hasB p (ln m);{exact h};{cases zcr c;{exact h};{exact zQs h a}}
def landing (r:Host)(m p to:Int):Host:={r with Memory:=zhy r.Memory to (ix (ix r.Mons m mZ).Out p []),Mons:=up r.Mons m {ix r.Mons m mZ with Out:=up (ix r.Mons m mZ).Out p []}}
def zeS (r:Host)(m p to:Int):Host:=zcs (landing r m p to) m p ⟨to,3⟩
def fetched (h:Host)(m p:Int):Host:=zeS (zdb h) m p (ix (zcl (zdb h)) 0 0)
theorem z0b {r:Host}{m p:Int}(e:Shape r)(c:hasB m (ln r.Mons)=true)(d:hasB p 8=true):(ix (ix r.Mons m mZ).Out p []).length<=1048576:=by obtain⟨a,b⟩:=zcz e c;exact a.2.1.2 _ (zbD (zdw b.2.1 d) _)
theorem zua {r:Host}{m p to:Int}(a:Shape r)(d:hasB m (ln r.Mons)=true)(e:hasB p 8=true):Shape (landing r m p to):=by obtain⟨b,c⟩:=zcz a d;exact zU5 (h:={r with Mons:=up r.Mons m {ix r.Mons m mZ with Out:=up (ix r.Mons m mZ).Out p []}}) (ziD (x:={ix r.Mons m mZ with Out:=up (ix r.Mons m mZ).Out p []}) a ⟨b.1,zQs b.2.1 (by simp),b.2.2⟩ ⟨c.1,by simpa using c.2.1,c.2.2⟩) (zZ9 a.1.1 (z0b a d e))
theorem zWE {r:Host}{m p d:Int}(c:Shape r)(a:hasB m (ln r.Mons)=true)(b:hasB p 8=true):Shape (zeS r m p d):=zue (zeF a) (zua c a b)
theorem zrd {h:Host}(a:Fit h){m:Int}(b:hasB m (ln h.Mons)=true):hasB m (ln (zdb h).Mons)=true:=by rw[ln,(room a).len];exact b
theorem zkv {h:Host}{m p:Int}(a:Fit h)(b:hasB m (ln h.Mons)=true)(c:hasB p 8=true):Shape (fetched h m p)/\hasB m (ln (fetched h m p).Mons)=true :=
 ⟨zWE (room a).shape (zrd a b) c,zJY (zeF (zrd a b))⟩
@[simp] abbrev zyE (h:Host)(m p:Int):Bool:=pc (Fit h/\hasB m (ln h.Mons)=true/\hasB p 8=true)
@[simp] abbrev zA9 (h:Host)(m p:Int):Host:=fetched h m p
def zzh:List AV->Option (Bool×List AV)
 |[.agg [.s (.sl .int) b,.s .mon c,.s .entry d,.s .entry e],.one (.i .i64 f),.one (.i .i64 g)]=>some ((zyE (⟨b,c,d,e⟩:Host) f g),[aH (zA9 (⟨b,c,d,e⟩:Host) f g)])
 |_=>none
def zE9 (N:Nat)(a:Host)(c b:Int):OA:=
 let h:=(ix (zfl a) 0 0);let f:=(ix a.Mons c zi);let d:=(zCJ a (zgv a 0) (zh9 a 0));let g:=(ix (zfl d) 0 0);let e:=(ix d.Mons c zi); (oN (zmA a) (cond (ieq (ln (zfl a)) 0) (oN (zlb a 0) (oN (zuW a (zgv a 0) (zh9 a 0)) (oN (zmA d) (oN (inb 0 (ln (zfl d))) (oN (inb c (ln d.Mons)) (oN (inb b (ln e.Out)) (oN (zlT d.Memory g (ix e.Out b [])) (oN (inb c (ln d.Mons)) (oN (inb b (ln e.Out)) (share (up d.Mons c ({e with Out:=(up e.Out b [])}:Mon)) (fun i=>let j:=({d with Memory:=(zjY d.Memory g (ix e.Out b [])),Mons:=i}:Host); (oN (ze9 j c b (⟨g,3⟩:Slot)) (some [(aH (zg0 j c b (⟨g,3⟩:Slot)))]))))))))))))) (oN (zmA a) (oN (inb 0 (ln (zfl a))) (oN (inb c (ln a.Mons)) (oN (inb b (ln f.Out)) (oN (zlT a.Memory h (ix f.Out b [])) (oN (inb c (ln a.Mons)) (oN (inb b (ln f.Out)) (share (up a.Mons c ({f with Out:=(up f.Out b [])}:Mon)) (fun i=>let k:=({a with Memory:=(zjY a.Memory h (ix f.Out b [])),Mons:=i}:Host); (oN (ze9 k c b (⟨h,3⟩:Slot)) (some [(aH (zg0 k c b (⟨h,3⟩:Slot)))])))))))))))))
theorem z5q (N:Nat)(a:Host)(b c:Int):zHI (cQ zrQ zpF z5x z6r) (zo []) N 12 212 [true,true,true,true,false,false] 1 1 [[0],[1],[2],[4],[7]] .mon [aH a,aI b,aI c]=zE9 N a b c:=by kernel_rfl
theorem z1H (c:Host)(b d:Int)(z:zce big [aH c,aI b,aI d])(u:zyE c b d=true):∃N,zE9 N c b d=some [aH (zA9 c b d)]:=by
 obtain⟨h,v,i⟩:=zM.1 u;have e:∀r,Shape r->inb 0 (ln (zcl r))=true->hasB b (ln r.Mons)=true->(cond (zmA r) (cond (inb 0 (ln (zfl r))) (cond (inb b (ln r.Mons)) (cond (inb d (ln (ix r.Mons b zi).Out)) (cond (zlT r.Memory (ix (zfl r) 0 0) (ix (ix r.Mons b zi).Out d [])) (cond (inb b (ln r.Mons)) (cond (inb d (ln (ix r.Mons b zi).Out)) (share (up r.Mons b ({ (ix r.Mons b zi) with Out:=(up (ix r.Mons b zi).Out d [])}:Mon)) (fun s=>(cond (ze9 ({r with Memory:=(zjY r.Memory (ix (zfl r) 0 0) (ix (ix r.Mons b zi).Out d [])),Mons:=s}:Host) b d (⟨(ix (zfl r) 0 0),3⟩:Slot)) (some [(AV.agg (zbk (zg0 ({r with Memory:=(zjY r.Memory (ix (zfl r) 0 0) (ix (ix r.Mons b zi).Out d [])),Mons:=s}:Host) b d (⟨(ix (zfl r) 0 0),3⟩:Slot))))]) none))) none) none) none) none) none) none) none)=some [AV.agg (zbk (zeS r b d (ix (zcl r) 0 0)))]:=(by intro r j f a;obtain⟨y,l⟩:=zcz j a;have t:=zua (to:=ix (zcl r) 0 0) j a i;obtain⟨k,rfl,q⟩:=zdS (n:=r.Mons.length) a;refine must (zbz j.1.1.1) (must f (must (zC a) (must (zC (zdw l.2.1 i)) (must (zbz ⟨j.1.1,z0b j a i⟩) (must (zC a) (must (zC (zdw l.2.1 i)) (shr (must (zbz ⟨(zQ _).2 t.1,zeF a,?_,?_⟩) rfl))))))));{simp only [zdX q];exact zdw l.1 i};{simp only [zdX q];exact kY l.2.2.2});have g:=room h;have a:=zrd h v;refine⟨0,?_⟩;unfold zE9 zA9 fetched oN;conv=>zeta
 refine must (zbz h.1.1.1.1) ?_;cases p:ieq (ln (zfl c)) 0;{have m:zdb c=c:=(by unfold zdb;rw[show ieq (ln (zcl c)) 0=false from p];rfl);rw[m]at g a ⊢;exact e c g.shape g.free a};{obtain⟨w,x⟩:=zHW h p;have m:zdb c=zdx c (zbI c 0).1 (zbI c 0).2:=(by unfold zdb;rw[show ieq (ln (zcl c)) 0=true from p];rfl);rw[m]at g a ⊢;exact must rfl (must rfl (must (zbz ⟨h.1,w,x⟩) (e _ g.shape g.free a)))}
theorem zVF:zec Tryz.prog 212 [true,true,true,true,false,false] (some (1,1,[[0],[1],[2],[4],[7]])) zzh:=by refine zmg (kt:=.mon) (zgp zhh zx zS9 zTm) (ziG (by kernel_rfl)) (by kernel_rfl) ?_;intro a g f e h;have c:=ziH e;unfold zzh at h;split at h;{obtain⟨d,rfl⟩:=zd1 h;obtain⟨N,b⟩:=z1H _ _ _ (by exact c) d;exact⟨⟨_,rfl⟩,rfl,_,N,12,(z5q N _ _ _ ).trans b⟩};{cases h}
@[simp] abbrev ztH (h:Host):Bool:=pc (Shape h/\hasB (zbI h 0).1 (ln h.Mons)=true/\hasB (zbI h 0).2 8=true)
@[simp] abbrev ztI (h:Host):Host:=zdx h (zbI h 0).1 (zbI h 0).2
def zoq:List CV->List AV->Option (Bool×List CV×List AV)
 |[.s (.sl .int) b,.s .mon c,.s .entry d,.s .entry e],[]=>some ((ztH (⟨b,c,d,e⟩:Host)),zbk (ztI (⟨b,c,d,e⟩:Host)),[])
 |_,_=>none
def ztv (N:Nat)(c:Host)  : OA :=
 (oN (zk0 c 0) (oN (zL7 c (zgr c 0) (zh0 c 0)) (some [(aH (zL8 c (zgr c 0) (zh0 c 0)))])))
theorem zS3 (N:Nat)(c:Host)  : zpf (cQ zrQ zpF z5x z6r) (zo []) N 12 274 [true,true,true,true] (zbk c) []=ztv N c:=by kernel_rfl
theorem zPm (c:Host)(d:zce big (.agg (zbk c)::[]))(a:ztH c=true):∃N,ztv N c=some (.agg (zbk (ztI c))::[]):=by have b:=zM.1 a;refine⟨0,?_⟩;unfold ztv oN;exact must rfl (must (zbz b) rfl)
theorem zIg:zbN Tryz.prog 274 [true,true,true,true] zoq:=by refine zg7 (zgp zhh zx zS9 zTm) (ziG (by kernel_rfl)) ?_;intro g a b j i f h;have d:=zli f;unfold zoq at h;split at h;{obtain⟨e,rfl,rfl⟩:=znL h;obtain⟨N,c⟩:=zPm _ (by exact d) e;exact⟨rfl,_,N,12,(zS3 N _ ).trans c⟩};{cases h}
def pctC:zcJ:=[(274,([true,true,true,true],zoq))]++z5x
theorem z3q:zb2 pctC:=zcv zS9 (by
 intro x a;simp only[qG,qN,or_false]at a;rcases a with rfl
 .exact zIg)
def z0l:ze2:=[(212,([true,true,true,true,false,false],(some (1,1,[[0],[1],[2],[4],[7]])),zzh))]++z6r
theorem zH7:zd5 z0l:=zrG zTm (by
 intro x a;simp only[qG,qN,or_false]at a;rcases a with rfl
 .exact zVF)
@[simp] abbrev zFN (h:Host)(m p:Int):Bool:=pc (Fit h/\hasB m (ln h.Mons)=true/\hasB p 8=true)
@[simp] abbrev zxz (h:Host)(m p:Int):Host:=fetched h m p
theorem z4e {r:Host}{m p to:Int}(d:Shape r)(b:hasB m (ln r.Mons)=true):zCa {landing r m p to with Mons:=up (landing r m p to).Mons m {ix (landing r m p to).Mons m mZ with Outer:=up (ix (landing r m p to).Mons m mZ).Outer p ⟨to,3⟩}} m p (ix (ix (landing r m p to).Mons m mZ).Outer p sZ)=zeS r m p to:=by obtain⟨e,c⟩:=zcz d b;obtain⟨k,rfl,a⟩:=zdS (n:=r.Mons.length) b;refine zCM (h:=landing r (k:Int) p to) (by simpa [landing] using a) ?_;unfold landing;simp only[zdX a];exact c.2.2.2
theorem z2t {r:Host}{m p to:Int}(f:Shape r)(b:hasB m (ln r.Mons)=true)(e:hasB p 8=true):Shape {landing r m p to with Mons:=up (landing r m p to).Mons m {ix (landing r m p to).Mons m mZ with Outer:=up (ix (landing r m p to).Mons m mZ).Outer p ⟨to,3⟩}}:=by have a:=zua (to:=to) f b e;obtain⟨c,d⟩:=zcz a (zeF b);exact ziD a ⟨by simpa using c.1,c.2⟩ ⟨by simpa using d.1,d.2⟩
def zv6:List CV->List AV->Option (Bool×List CV×List AV)
 |[.s (.sl .int) b,.s .mon c,.s .entry d,.s .entry e],[.one (.i .i64 f),.one (.i .i64 g)]=>some ((zFN (⟨b,c,d,e⟩:Host) f g),zbk (zxz (⟨b,c,d,e⟩:Host) f g),[])
 |_,_=>none
def zEK (N:Nat)(c:Host)(b a:Int):OA:=
 let m:=(ix (zfO c) 0 0);let d:=(ztI c);let l:=(ix (zfO d) 0 0);let f:=(ix c.Mons b zi);let e:=(ix d.Mons b zi); (oN (zmi c) (cond (ieq (ln (zfO c)) 0) (oN (ztH c) (oN (inb b (ln d.Mons)) (oN (zmi d) (oN (inb 0 (ln (zfO d))) (oN (inb a (ln e.Out)) (oN (zly d.Memory l (ix e.Out a [])) (oN (inb a (ln e.Out)) (share (up d.Mons b ({e with Out:=(up e.Out a [])}:Mon)) (fun g=>let i:=(ix g b zi);let q:=(ix i.Outer a zV); (oN (inb a (ln i.Outer)) (oN (inb a (ln i.Outer)) (share (up g b ({i with Outer:=(up i.Outer a (⟨l,3⟩:Slot))}:Mon)) (fun k=>let n:=({d with Memory:=(zjE d.Memory l (ix e.Out a [])),Mons:=k}:Host); (oN (zep n b a q) (some [(aH (zeq n b a q))]))))))))))))))) (oN (inb b (ln c.Mons)) (oN (zmi c) (oN (inb 0 (ln (zfO c))) (oN (inb a (ln f.Out)) (oN (zly c.Memory m (ix f.Out a [])) (oN (inb a (ln f.Out)) (share (up c.Mons b ({f with Out:=(up f.Out a [])}:Mon)) (fun g=>let j:=(ix g b zi);let h:=(ix j.Outer a zV); (oN (inb a (ln j.Outer)) (oN (inb a (ln j.Outer)) (share (up g b ({j with Outer:=(up j.Outer a (⟨m,3⟩:Slot))}:Mon)) (fun k=>let p:=({c with Memory:=(zjE c.Memory m (ix f.Out a [])),Mons:=k}:Host); (oN (zep p b a h) (some [(aH (zeq p b a h))]))))))))))))))))
theorem z5p (N:Nat)(c:Host)(a b:Int):zpf (cQ zrQ zpF pctC z0l) (zo []) N 12 208 [true,true,true,true] (zbk c) [aI a,aI b]=zEK N c a b:=by kernel_rfl
theorem z1s (c:Host)(b d:Int)(F:zce big (.agg (zbk c)::[aI b,aI d]))(w:zFN c b d=true):∃N,zEK N c b d=some (.agg (zbk (zxz c b d))::[]):=by
 obtain⟨j,B,l⟩:=zM.1 w;have e:∀r,Shape r->inb 0 (ln (zcl r))=true->hasB b (ln r.Mons)=true->(cond (inb b (ln r.Mons)) (cond (zmi r) (cond (inb 0 (ln (zfO r))) (cond (inb d (ln (ix r.Mons b zi).Out)) (cond (zly r.Memory (ix (zfO r) 0 0) (ix (ix r.Mons b zi).Out d [])) (cond (inb d (ln (ix r.Mons b zi).Out)) (share (up r.Mons b ({ (ix r.Mons b zi) with Out:=(up (ix r.Mons b zi).Out d [])}:Mon)) (fun g=>(cond (inb d (ln (ix g b zi).Outer)) (cond (inb d (ln (ix g b zi).Outer)) (share (up g b ({ (ix g b zi) with Outer:=(up (ix g b zi).Outer d (⟨(ix (zfO r) 0 0),3⟩:Slot))}:Mon)) (fun u=>(cond (zep ({r with Memory:=(zjE r.Memory (ix (zfO r) 0 0) (ix (ix r.Mons b zi).Out d [])),Mons:=u}:Host) b d (ix (ix g b zi).Outer d zV)) (some [(AV.agg (zbk (zeq ({r with Memory:=(zjE r.Memory (ix (zfO r) 0 0) (ix (ix r.Mons b zi).Out d [])),Mons:=u}:Host) b d (ix (ix g b zi).Outer d zV))))]) none))) none) none))) none) none) none) none) none) none)=some [AV.agg (zbk (zeS r b d (ix (zcl r) 0 0)))]:=(by intro r i f a;obtain⟨E,q⟩:=zcz i a;have v:=z2t (to:=ix (zcl r) 0 0) i a l;have hE:=z4e (p:=d) (to:=ix (zcl r) 0 0) i a;obtain⟨k,rfl,A⟩:=zdS (n:=r.Mons.length) a;have z:∀(x y:Mon),hasB (k:Int) (ln (up (up r.Mons (k:Int) x) (k:Int) y))=true:=fun x y=>(by simpa [ln] using a);have t:inb d (ln (ix (up r.Mons (k:Int) {ix r.Mons (k:Int) mZ with Out:=up (ix r.Mons (k:Int) mZ).Out d []}) (k:Int) mZ).Outer)=true:=(by rw[zdX A];exact zC (zdw q.1 l));refine must (zC a) (must (zbz i.1.1.1) (must f (must (zC (zdw q.2.1 l)) (must (zbz ⟨i.1.1,z0b i a l⟩) (must (zC (zdw q.2.1 l)) (shr (must t (must t (shr (must (zbz ⟨v,z _ _⟩) ?_))))))))));exact congrArg (fun x=>some [AV.agg (zbk x)]) hE);have h:=room j;have a:=zrd j B;refine⟨0,?_⟩;unfold zEK zxz fetched oN;conv=>zeta
 refine must (zbz j.1.1.1.1) ?_;cases s:ieq (ln (zfO c)) 0;{have m:zdb c=c:=(by unfold zdb;rw[show ieq (ln (zcl c)) 0=false from s];rfl);rw[m]at h a ⊢;exact e c h.shape h.free a};{obtain⟨C,D⟩:=zHW j s;have m:zdb c=zdx c (zbI c 0).1 (zbI c 0).2:=(by unfold zdb;rw[show ieq (ln (zcl c)) 0=true from s];rfl);rw[m]at h a ⊢;exact must rfl (must (zbz ⟨j.1,C,D⟩) (e _ h.shape h.free a))}
theorem zVp:zbN Tryz.prog 208 [true,true,true,true] zv6:=by refine zg7 (zgp zhh zx z3q zH7) (ziG (by kernel_rfl)) ?_;intro g a b j i f h;have d:=zli f;unfold zv6 at h;split at h;{obtain⟨e,rfl,rfl⟩:=znL h;obtain⟨N,c⟩:=z1s _ _ _ (by exact d) e;exact⟨rfl,_,N,12,(z5p N _ _ _ ).trans c⟩};{cases h}
def z5y:zcJ:=[(208,([true,true,true,true],zv6))]++pctC
theorem zTa:zb2 z5y:=zcv z3q (by
 intro x a;simp only[qG,qN,or_false]at a;rcases a with rfl
 .exact zVp)
def zbC (h:Host)(m p:Int):Host:={h with Mons:=up h.Mons m {ix h.Mons m mZ with Dirty:=up (ix h.Mons m mZ).Dirty p true}}
def opened (h:Host)(m p:Int):Host:=bif ieq (wand .i64 (ix (ix h.Mons m mZ).Outer p sZ).Rights 2) 0 then zcs h m p ⟨(ix (ix h.Mons m mZ).Outer p sZ).Page,3⟩ else h
def zjI (h:Host)(m p n:Int):Host:=bif ieq (wand .i64 n 2) 0 then h else opened (zbC h m p) m p
def mended (h:Host)(m p n:Int):Host:=bif ieq (ix (ix h.Mons m mZ).Outer p sZ).Page (-1) then zjI (fetched h m p) m p n else zjI h m p n
theorem zbdY {r:Int}(a:0<=r)(b:r<=3):enough r 2 = !ieq (wand .i64 r 2) 0:=by have:r=0\/r=1\/r=2\/r=3:=(by omega);rcases this with rfl|rfl|rfl|rfl<;>rfl
structure SlotFit (s:Slot):Prop where
 no:zc1 s noSlot=ieq s.Page (-1)
 lo:0<=s.Rights
 hi:s.Rights<=3
theorem z6j {s:Slot}{n:Int}(h:zdK s n=true):SlotFit s:=by refine⟨zU7 h,?_,?_⟩<;>unfold zdK at h<;>cases a:zc1 s noSlot;{rw [a]at h;simp only[cF,zde]at h;have:=(zfv.1 h.2.2).1;omega};{unfold zc1 at a;rw[qD]at a;have:s.Rights=0:=qE a.2;omega};{rw [a]at h;simp only[cF,zde]at h;have:=(zfv.1 h.2.2).2;omega};{unfold zc1 at a;rw[qD]at a;have:s.Rights=0:=qE a.2;omega}
theorem zoc {h:Host}{m p:Int}(c:Shape h)(d:hasB m (ln h.Mons)=true):Shape (zbC h m p):=by obtain⟨a,b⟩:=zcz c d;exact ziD c ⟨a.1,a.2.1,by simpa using a.2.2.1,a.2.2.2⟩ ⟨b.1,b.2.1,by simpa using b.2.2.1,b.2.2.2⟩
theorem zZ4 {h:Host}{m p:Int}(b:Shape h)(a:hasB m (ln h.Mons)=true):Shape (opened h m p)/\hasB m (ln (opened h m p).Mons)=true:=by unfold opened;cases ieq (wand .i64 (ix (ix h.Mons m mZ).Outer p sZ).Rights 2) 0;{exact⟨b,a⟩};{exact⟨zue a b,zJY a⟩}
theorem zKE {h:Host}{m p n:Int}(b:Shape h)(a:hasB m (ln h.Mons)=true):Shape (zjI h m p n)/\hasB m (ln (zjI h m p n).Mons)=true:=by unfold zjI;cases ieq (wand .i64 n 2) 0;{exact zZ4 (zoc b a) (zeF a)};{exact⟨b,a⟩}
theorem zwI {h:Host}{m p n:Int}(a:Fit h)(b:hasB m (ln h.Mons)=true)(e:hasB p 8=true):Shape (mended h m p n)/\hasB m (ln (mended h m p n).Mons)=true:=by unfold mended;cases ieq (ix (ix h.Mons m mZ).Outer p sZ).Page (-1);{exact zKE a.1 b};{obtain⟨c,d⟩:=zkv a b e;exact zKE c d}
theorem zXV {h:Host}{m p:Int}(c:Fit h)(g:hasB m (ln h.Mons)=true)(j:hasB p 8=true):(ix (ix (fetched h m p).Mons m mZ).Outer p sZ).Rights=3:=by have f:=room c;have a:=zrd c g;obtain⟨r,e⟩:=zcz f.shape a;obtain⟨k,rfl,d⟩:=zdS (n:=(zdb h).Mons.length) a;obtain⟨q,rfl,l⟩:=zdS (n:=8) j;unfold fetched zeS;rw[(zgh _ _ _ _).1];have b:k<(landing (zdb h) (k:Int) (q:Int) (ix (zcl (zdb h)) 0 0)).Mons.length:=(by simpa [landing] using d);rw[zdX b];have i:q<(ix (landing (zdb h) (k:Int) (q:Int) (ix (zcl (zdb h)) 0 0)).Mons (k:Int) mZ).Outer.length:=(by unfold landing;rw[zdX d];show q<(ix (zdb h).Mons (k:Int) mZ).Outer.length;rw[e.1];exact l);show (ix (up (ix (landing (zdb h) (k:Int) (q:Int) (ix (zcl (zdb h)) 0 0)).Mons (k:Int) mZ).Outer (q:Int) ⟨_,3⟩) (q:Int) sZ).Rights=3;rw[zdX i]
def zXj (h:Host)(m p n:Int):Prop:=Fit h/\hasB m (ln h.Mons)=true/\hasB p 8=true/\(n=1\/n=2)/\SlotFit (ix (ix h.Mons m mZ).Outer p sZ)
@[simp] abbrev znI (h:Host)(m p n:Int):Bool:=pc (zXj h m p n)
@[simp] abbrev zoZ (h:Host)(m p n:Int):Host:=mended h m p n
def ztY:List AV->Option (Bool×List AV)
 |[.agg [.s (.sl .int) b,.s .mon c,.s .entry d,.s .entry e],.one (.i .i64 f),.one (.i .i64 g),.one (.i .i64 h)]=>some ((znI (⟨b,c,d,e⟩:Host) f g h),[aH (zoZ (⟨b,c,d,e⟩:Host) f g h)])
 |_=>none
def zyW (N:Nat)(c:Host)(a b l:Int):OA:=
 let h:=(zA9 c a b);let k:=(ix h.Mons a zi);let e:=(ix c.Mons a zi);let p:=(ix e.Outer b zV); (oN (inb a (ln c.Mons)) (oN (inb b (ln e.Outer)) (oN zcC (cond (cond (ieq p.Page zbx.Page) (ieq p.Rights zbx.Rights) false) (oN (zyE c a b) (cond (ieq (wand .i64 l 2) 0) (some [(aH h)]) (oN (inb a (ln h.Mons)) (oN (inb b (ln k.Dirty)) (share (up h.Mons a ({k with Dirty:=(up k.Dirty b true)}:Mon)) (fun d=>let q:=(ix d a zi).Outer;let i:=({h with Mons:=d}:Host);let m:=(ix q b zV);let r:=({m with Rights:=3}:Slot); (oN (inb a (ln d)) (oN (inb b (ln q)) (cond (ieq (wand .i64 m.Rights 2) 0) (oN (ze9 i a b r) (some [(aH (zg0 i a b r))])) (some [(aH i)])))))))))) (cond (ieq (wand .i64 l 2) 0) (some [(aH c)]) (oN (inb a (ln c.Mons)) (oN (inb b (ln e.Dirty)) (share (up c.Mons a ({e with Dirty:=(up e.Dirty b true)}:Mon)) (fun d=>let f:=(ix d a zi).Outer;let j:=({c with Mons:=d}:Host);let n:=(ix f b zV);let g:=({n with Rights:=3}:Slot); (oN (inb a (ln d)) (oN (inb b (ln f)) (cond (ieq (wand .i64 n.Rights 2) 0) (oN (ze9 j a b g) (some [(aH (zg0 j a b g))])) (some [(aH j)])))))))))))))
theorem zZi (N:Nat)(a:Host)(b c d:Int):zHI (cQ zrQ zpF z5y z0l) (zo []) N 12 115 [true,true,true,true,false,false,false] 1 1 [[0],[1],[2],[4],[7]] .mon [aH a,aI b,aI c,aI d]=zyW N a b c d:=by kernel_rfl
theorem zWo (d:Host)(b a h:Int)(C:zce big [aH d,aI b,aI a,aI h])(z:znI d b a h=true):∃N,zyW N d b a h=some [aH (zoZ d b a h)]:=by
 obtain⟨l,j,i,D,A⟩:=zM.1 z;obtain⟨B,v⟩:=zcz l.1 j;have f:∀r,Shape r->hasB b (ln r.Mons)=true->(cond (ieq (wand .i64 h 2) 0) (some [(AV.agg (zbk r))]) (cond (inb b (ln r.Mons)) (cond (inb a (ln (ix r.Mons b zi).Dirty)) (share (up r.Mons b ({ (ix r.Mons b zi) with Dirty:=(up (ix r.Mons b zi).Dirty a true)}:Mon)) (fun g=>(cond (inb b (ln g)) (cond (inb a (ln (ix g b zi).Outer)) (cond (ieq (wand .i64 (ix (ix g b zi).Outer a zV).Rights 2) 0) (cond (ze9 ({r with Mons:=g}:Host) b a ({ (ix (ix g b zi).Outer a zV) with Rights:=3}:Slot)) (some [(AV.agg (zbk (zg0 ({r with Mons:=g}:Host) b a ({ (ix (ix g b zi).Outer a zV) with Rights:=3}:Slot))))]) none) (some [(AV.agg (zbk ({r with Mons:=g}:Host)))])) none) none))) none) none))=some [AV.agg (zbk (zjI r b a h))]:=(by intro r u c;obtain⟨E,m⟩:=zcz u c;have y:=zoc (p:=a) u c;unfold zjI;cases w:ieq (wand .i64 h 2) 0;{obtain⟨k,rfl,t⟩:=zdS (n:=r.Mons.length) c;have q:ix (zbC r (k:Int) a).Mons (k:Int) mZ={ix r.Mons (k:Int) mZ with Dirty:=up (ix r.Mons (k:Int) mZ).Dirty a true}:=zdX t _ _;refine zcS rfl (must (zC c) (must (zC (zdw m.2.2.1 i)) (shr (must (zC (zeF c)) (must ?_ ?_)))));{rw [zdX t];exact zC (zdw m.1 i)};{unfold opened;show (cond (ieq (wand .i64 (ix (ix (zbC r (k:Int) a).Mons (k:Int) mZ).Outer a sZ).Rights 2) 0) _ _)=_;cases s:ieq (wand .i64 (ix (ix (zbC r (k:Int) a).Mons (k:Int) mZ).Outer a sZ).Rights 2) 0;{rfl};{refine must rfl (must (zbz ⟨(zQ _).2 y.1,zeF c,?_,?_⟩) rfl);{show hasB a (ln (ix (zbC r (k:Int) a).Mons (k:Int) mZ).Outer)=true;rw[q];exact zdw m.1 i};{show (ix (zbC r (k:Int) a).Mons (k:Int) mZ).Tables.length<=(ix (zbC r (k:Int) a).Mons (k:Int) mZ).Guests.length;rw[q];exact kY m.2.2.2}}}};{rfl});refine⟨0,?_⟩;unfold zyW zoZ mended oN;conv=>zeta
 refine must (zC j) (must (zC (zdw v.1 i)) (must rfl ?_));have e:(cond (ieq (ix (ix d.Mons b mZ).Outer a sZ).Page zbx.Page) (ieq (ix (ix d.Mons b mZ).Outer a sZ).Rights zbx.Rights) false)=ieq (ix (ix d.Mons b mZ).Outer a sZ).Page (-1):=(by rw[<- A.no];unfold zc1 zbx;cases ieq (ix (ix d.Mons b mZ).Outer a sZ).Page noSlot.Page<;>rfl);rw[e];cases w:ieq (ix (ix d.Mons b mZ).Outer a sZ).Page (-1);{exact f d l.1 j};{obtain⟨s,x⟩:=zkv (p:=a) l j i;exact must rfl (must (zbz ⟨l,j,i⟩) (f _ s x))}
theorem zO3:zec Tryz.prog 115 [true,true,true,true,false,false,false] (some (1,1,[[0],[1],[2],[4],[7]])) ztY:=by refine zmg (kt:=.mon) (zgp zhh zx zTa zH7) (ziG (by kernel_rfl)) (by kernel_rfl) ?_;intro a g f e h;have c:=ziH e;unfold ztY at h;split at h;{obtain⟨d,rfl⟩:=zd1 h;obtain⟨N,b⟩:=zWo _ _ _ _ (by exact c) d;exact⟨⟨_,rfl⟩,rfl,_,N,12,(zZi N _ _ _ _ ).trans b⟩};{cases h}
@[simp] abbrev zL6 (h:Host)(m p n:Int):Bool:=pc (zXj h m p n)
@[simp] abbrev zvW (h:Host)(m p n:Int):Host:=mended h m p n
def zzb:List CV->List AV->Option (Bool×List CV×List AV)
 |[.s (.sl .int) b,.s .mon c,.s .entry d,.s .entry e],[.one (.i .i64 f),.one (.i .i64 g),.one (.i .i64 h)]=>some ((zL6 (⟨b,c,d,e⟩:Host) f g h),zbk (zvW (⟨b,c,d,e⟩:Host) f g h),[])
 |_,_=>none
def zKP (N:Nat)(c:Host)(b a k:Int):OA:=
 let e:=(zxz c b a);let m:=(ix e.Mons b zi);let h:=(ix c.Mons b zi); (oN (inb b (ln c.Mons)) (oN (inb a (ln h.Outer)) (cond (ieq (ix h.Outer a zV).Page (-1)) (oN (zFN c b a) (oN (zdF k 2) (cond (nB (zd3 k 2)) (some [(aH e)]) (oN (inb b (ln e.Mons)) (oN (inb a (ln m.Dirty)) (share (up e.Mons b ({m with Dirty:=(up m.Dirty a true)}:Mon)) (fun d=>let i:=(ix d b zi);let f:=(ix i.Outer a zV); (oN (inb a (ln i.Outer)) (oN (zdF f.Rights 2) (cond (nB (zd3 f.Rights 2)) (oN (inb a (ln i.Outer)) (share (up d b ({i with Outer:=(up i.Outer a ({f with Rights:=3}:Slot))}:Mon)) (fun l=>let n:=({e with Mons:=l}:Host); (oN (zep n b a f) (some [(aH (zeq n b a f))]))))) (some [(aH ({e with Mons:=d}:Host))]))))))))))) (oN (zdF k 2) (cond (nB (zd3 k 2)) (some [(aH c)]) (oN (inb b (ln c.Mons)) (oN (inb a (ln h.Dirty)) (share (up c.Mons b ({h with Dirty:=(up h.Dirty a true)}:Mon)) (fun d=>let j:=(ix d b zi);let g:=(ix j.Outer a zV); (oN (inb a (ln j.Outer)) (oN (zdF g.Rights 2) (cond (nB (zd3 g.Rights 2)) (oN (inb a (ln j.Outer)) (share (up d b ({j with Outer:=(up j.Outer a ({g with Rights:=3}:Slot))}:Mon)) (fun l=>let p:=({c with Mons:=l}:Host); (oN (zep p b a g) (some [(aH (zeq p b a g))]))))) (some [(aH ({c with Mons:=d}:Host))])))))))))))))
theorem z8k (N:Nat)(c:Host)(a b d:Int):zpf (cQ zrQ zpF z5y z0l) (zo []) N 12 112 [true,true,true,true] (zbk c) [aI a,aI b,aI d]=zKP N c a b d:=by kernel_rfl
theorem z5h (c:Host)(b a f:Int)(R:zce big (.agg (zbk c)::[aI b,aI a,aI f]))(M:zL6 c b a f=true):∃N,zKP N c b a f=some (.agg (zbk (zvW c b a f))::[]):=by
 obtain⟨l,i,j,P,C⟩:=zM.1 M;obtain⟨Q,I⟩:=zcz l.1 i;have H:enough f 2 = !ieq (wand .i64 f 2) 0:=(by rcases P with rfl|rfl<;>rfl);have g:∀r,Shape r->hasB b (ln r.Mons)=true->enough (ix (ix r.Mons b mZ).Outer a sZ).Rights 2=(!ieq (wand .i64 (ix (ix r.Mons b mZ).Outer a sZ).Rights 2) 0)->(cond (zdF f 2) (cond (cond (zd3 f 2) false true) (some [(AV.agg (zbk r))]) (cond (inb b (ln r.Mons)) (cond (inb a (ln (ix r.Mons b zi).Dirty)) (share (up r.Mons b ({ (ix r.Mons b zi) with Dirty:=(up (ix r.Mons b zi).Dirty a true)}:Mon)) (fun e=>(cond (inb a (ln (ix e b zi).Outer)) (cond (zdF (ix (ix e b zi).Outer a zV).Rights 2) (cond (cond (zd3 (ix (ix e b zi).Outer a zV).Rights 2) false true) (cond (inb a (ln (ix e b zi).Outer)) (share (up e b ({ (ix e b zi) with Outer:=(up (ix e b zi).Outer a ({ (ix (ix e b zi).Outer a zV) with Rights:=3}:Slot))}:Mon)) (fun F=>(cond (zep ({r with Mons:=F}:Host) b a (ix (ix e b zi).Outer a zV)) (some [(AV.agg (zbk (zeq ({r with Mons:=F}:Host) b a (ix (ix e b zi).Outer a zV))))]) none))) none) (some [(AV.agg (zbk ({r with Mons:=e}:Host)))])) none) none))) none) none)) none)=some [AV.agg (zbk (zjI r b a f))]:=(by intro r B d q;obtain⟨S,u⟩:=zcz B d;have w:=zoc (p:=a) B d;unfold zjI;simp only[zdF,zd3,H,cT];cases J:ieq (wand .i64 f 2) 0;{obtain⟨k,rfl,A⟩:=zdS (n:=r.Mons.length) d;have m:ix (zbC r (k:Int) a).Mons (k:Int) mZ={ix r.Mons (k:Int) mZ with Dirty:=up (ix r.Mons (k:Int) mZ).Dirty a true}:=zdX A _ _;have t:k<(zbC r (k:Int) a).Mons.length:=(by simpa [zbC] using A);have z:inb a (ln (ix (zbC r (k:Int) a).Mons (k:Int) mZ).Outer)=true:=(by rw[m];exact zC (zdw u.1 j));refine zcS rfl (must (zC d) (must (zC (zdw u.2.2.1 j)) (shr (must z ?_))));unfold opened;show (cond (cond (enough (ix (ix (zbC r (k:Int) a).Mons (k:Int) mZ).Outer a sZ).Rights 2) false true) _ _)=_;have G:(cond (enough (ix (ix (zbC r (k:Int) a).Mons (k:Int) mZ).Outer a sZ).Rights 2) false true)=ieq (wand .i64 (ix (ix (zbC r (k:Int) a).Mons (k:Int) mZ).Outer a sZ).Rights 2) 0:=(by rw[m];show (cond (enough (ix (ix r.Mons (k:Int) mZ).Outer a sZ).Rights 2) false true)=ieq (wand .i64 (ix (ix r.Mons (k:Int) mZ).Outer a sZ).Rights 2) 0;rw[q];cases ieq (wand .i64 (ix (ix r.Mons (k:Int) mZ).Outer a sZ).Rights 2) 0<;>rfl);rw[G];cases v:ieq (wand .i64 (ix (ix (zbC r (k:Int) a).Mons (k:Int) mZ).Outer a sZ).Rights 2) 0;{rfl};{have L:Shape {zbC r (k:Int) a with Mons:=up (zbC r (k:Int) a).Mons (k:Int) {ix (zbC r (k:Int) a).Mons (k:Int) mZ with Outer:=up (ix (zbC r (k:Int) a).Mons (k:Int) mZ).Outer a ⟨(ix (ix (zbC r (k:Int) a).Mons (k:Int) mZ).Outer a sZ).Page,3⟩}}:=(by obtain⟨D,E⟩:=zcz w (zeF d);exact ziD w ⟨by simpa using D.1,D.2⟩ ⟨by simpa using E.1,E.2⟩);have O:∀(x y:Mon),hasB (k:Int) (ln (up (up r.Mons (k:Int) x) (k:Int) y))=true:=fun x y=>(by simpa [ln] using d);refine must rfl (must z (shr (must (zbz ⟨L,O _ _⟩) ?_)));exact congrArg (fun x=>some [AV.agg (zbk x)]) (zCM (h:=zbC r (k:Int) a) (p:=a) (s:=⟨(ix (ix (zbC r (k:Int) a).Mons (k:Int) mZ).Outer a sZ).Page,3⟩) t (by rw[m];exact u.2.2.2))}};{rfl});refine⟨0,?_⟩;unfold zKP zvW mended oN nB;conv=>zeta
 refine must (zC i) (must (zC (zdw I.1 j)) ?_);cases J:ieq (ix (ix c.Mons b mZ).Outer a sZ).Page (-1);{exact g c l.1 i (zbdY C.lo C.hi)};{obtain⟨v,K⟩:=zkv (p:=a) l i j;exact must rfl (must (zbz ⟨l,i,j⟩) (g _ v K (by rw[zXV l i j];rfl)))}
theorem zX7:zbN Tryz.prog 112 [true,true,true,true] zzb:=by refine zg7 (zgp zhh zx zTa zH7) (ziG (by kernel_rfl)) ?_;intro g a b j i f h;have d:=zli f;unfold zzb at h;split at h;{obtain⟨e,rfl,rfl⟩:=znL h;obtain⟨N,c⟩:=z5h _ _ _ _ (by exact d) e;exact⟨rfl,_,N,12,(z8k N _ _ _ _ ).trans c⟩};{cases h}
def z5z:zcJ:=[(112,([true,true,true,true],zzb))]++z5y
theorem zb0:zb2 z5z:=zcv zTa (by
 intro x a;simp only[qG,qN,or_false]at a;rcases a with rfl
 .exact zX7)
def z6s:ze2:=[(115,([true,true,true,true,false,false,false],(some (1,1,[[0],[1],[2],[4],[7]])),ztY))]++z0l
theorem zBf:zd5 z6s:=zrG zH7 (by
 intro x a;simp only[qG,qN,or_false]at a;rcases a with rfl
 .exact zO3)
theorem z4U {h:Host}(b:zb3 h=true):h.Memory.length=12:=by unfold zb3 at b;simp only[zde]at b;have a:=b.1;unfold zhD at a;simp only[zde]at a;have:ln h.Memory=12:=qE a.2;simp only[ln] at this;omega
theorem zgT {h:Host}(a:zb3 h=true):∀x∈h.Mons,zeb x=true:=by unfold zb3 at a;simp only[zde]at a;exact zBU _ _ a.2.2.2.2
theorem zMt {x:Mon}(a:zeb x=true):ShM x:=by have e:=zto (znm a);unfold zeb at a;simp only[zde]at a;have b:ln x.Tables=ln x.Guests:=qE a.2.1;have c:ln x.Out=8:=qE a.2.2.2.1;have d:ln x.Dirty=8:=qE a.2.2.2.2.1;simp only[ln] at *;exact⟨by omega,by omega,by omega,by omega⟩
theorem zff {h:Host}(b:SmH h)(a:zb3 h=true):Fit h:=by refine⟨⟨b,fun x c=>zMt (zgT a x c)⟩,by rw[z4U a];decide,?_⟩;unfold zb3 at a;simp only[zde]at a;have:=zYc _ _ rfl a.2.2.2.2;omega
theorem zuD {x:Mon}(b:zeb x=true){p:Int}(c:hasB p 8=true):SlotFit (ix x.Outer p sZ):=by have a:=znm b;unfold zcY at a;simp only[zde]at a;exact z6j (qM.1 a.1 _ (zbD (zdw (zMt b).1 c) _))
theorem z1a {h:Host}{m p:Int}(a:Fit h)(c:hasB m (ln h.Mons)=true):Fit (zbC h m p):=by refine⟨zoc a.1 c,a.2.1,?_⟩;obtain⟨k,rfl,b⟩:=zdS (n:=h.Mons.length) c;have:=z0S h.Mons k (ix h.Mons (k:Int) mZ) {ix h.Mons (k:Int) mZ with Dirty:=up (ix h.Mons (k:Int) mZ).Dirty p true} (by rw[zbo b];exact qB b);have d:=a.2.2;unfold zbC;simp only[up,kH];dsimp only at this;simp only[up] at this;omega
abbrev gZ:Guest:=Ty.dflt .guest
@[simp] abbrev zxx (h:Host)(m:Int):Bool:=pc (zcc h)
@[simp] abbrev zd0 (h:Host)(m:Int):Mon:=bif hasB m (ln h.Mons) then ix h.Mons m mZ else mZ
@[simp] abbrev zoP (h:Host)(m:Int):Bool:=hasB m (ln h.Mons)
def zKc:Run:=rF2 dH dI fun b c=>(zxx b c,[aT .mon (zd0 b c),aB (zoP b c)])
def zTO (N:Nat)(a:Host)(b:Int):OA:=
 let c:=(ix a.Mons b zi); (oN (zcM b (ln a.Mons)) (cond (nB (zdc b (ln a.Mons))) (some [(aT .mon (⟨[],[],[],[],[],0,0,[],0⟩:Mon)),(aB false)]) (oN (inb b (ln a.Mons)) (oN (zkC c) (some [(aT .mon (zlz c)),(aB true)])))))
theorem z1o (a:Host)(b:Int)(d:zxx a b=true):∃N,zTO N a b=some [aT .mon (zd0 a b),aB (zoP a b)]:=by
 have e:=(zQ a).1 (zM.1 d);refine⟨0,?_⟩;unfold zTO zd0 zoP oN nB;conv=>zeta
 refine must rfl ?_;rw[show zdc b (ln a.Mons)=hasB b (ln a.Mons) from rfl];cases c:hasB b (ln a.Mons);{rfl};{exact zcS rfl (must (zC c) (must (zbz (e.2.1.2 _ (zbD c _))) rfl))}
theorem zVk:vN 215 zKc:=kF2 zhh zx zb0 zBf (zo []) z1o
def zbZ (h:Host)(m g:Int):Bool:=bif zb3 h then (cond (hasB m (ln h.Mons)) (hasB g (ln (ix h.Mons m mZ).Guests)) false) else false
@[simp] abbrev zg2 (h:Host)(m g:Int):Bool:=pc (zcc h)
@[simp] abbrev zje (h:Host)(m g:Int):Bool:=zbZ h m g
def zKu:Run:=rF3 dH dI dI fun b c d=>(zg2 b c d,[aB (zje b c d)])
def zT7 (N:Nat)(a:Host)(b c:Int):OA:=
 let d:=(wsub .i64 (ln (ix a.Mons b zi).Guests) 1); (oN (zfn a) (cond (zfm a) (oN (zN b 0 (wsub .i64 (ln a.Mons) 1)) (cond (zT b 0 (wsub .i64 (ln a.Mons) 1)) (oN (inb b (ln a.Mons)) (oN (zN c 0 d) (some [(aB (zT c 0 d))]))) oF)) oF))
theorem z1J (a:Host)(b c:Int)(f:zg2 a b c=true):∃N,zT7 N a b c=some [aB (zje a b c)]:=by
 have e:=(zQ a).1 (zM.1 f);refine⟨0,?_⟩;unfold zT7 zje zbZ oN;conv=>zeta
 refine must rfl ?_;rw[show zfm a=zb3 a from rfl];cases g:zb3 a;{rfl};{rw [show zT b 0 (wsub .i64 (ln a.Mons) 1)=hasB b (ln a.Mons) from zrI e.2.1.1 b];refine must rfl (must rfl ?_);cases d:hasB b (ln a.Mons);{rfl};{have hg:(ix a.Mons b mZ).Guests.length<=1048576:=(e.2.1.2 _ (zbD d _)).2.2.2.1.1;rw[show zT c 0 (wsub .i64 (ln (ix a.Mons b zi).Guests) 1)=hasB c (ln (ix a.Mons b mZ).Guests) from zrI hg c];exact must rfl (must (zC d) (must rfl rfl))}}
theorem zVH:vN 339 zKu:=kF3 zhh zx zb0 zBf (zo []) z1J
def zcB (h:Host)(m:Int):Nat->Nat->List (List Int)
 | 0,_=>[]
 |n+1,i=>zcq h m (i:Int)::zcB h m n (i+1)
theorem zCm (h:Host)(m:Int):∀(n i:Nat),(zcB h m n i).length=n
 | 0,_=>rfl
 |n+1,i=>by simp[zcB,zCm h m n]
def zD (h:Host)(m:Int):Bare:=bif hasB m (ln h.Mons) then ⟨zcB h m 8 0,(ix h.Mons m mZ).Guests,(ix h.Mons m mZ).Outs,(ix h.Mons m mZ).Pending⟩ else ⟨[],[],[],0⟩
theorem zFx {c:Type}(h:Host)(m:Int)(K:List (List Int)->Option c):∀(n i:Nat) (a:List (List Int)),a.length+n<=2147483648->
 goN (fun i a b=>bif few (ln (ap a [zcq h m (i:Int)])) then b (ap a [zcq h m (i:Int)]) else none) K n i a=K (a++zcB h m n i)
 | 0,_,a,_=>by simp[goN,zcB]
 |n+1,i,a,d=>by simp only[goN,zcB];rw[zgE (by simp[ap];omega),cT,zFx h m K n (i+1) _ (by simp[ap];omega)];simp[ap]
@[simp] abbrev zpv (h:Host)(m:Int):Bool:=pc (zcc h)
@[simp] abbrev zvS (h:Host)(m:Int):Bare:=zD h m
def zbcm:zX:=[(215,zKc),(339,zKu)]++zrQ
theorem zXM:zL zbcm:=zh zVk (zh zVH zhh)
def zGu:Run:=rF2 dH dI fun b c=>(zpv b c,[aT .bare (zvS b c)])
def zNh (N:Nat)(b:Host)(c:Int):OA:=
 (oN (zxx b c) (cond (nB (zoP b c)) (some [(aT .bare (⟨[],[],[],0⟩:Bare))]) (iter (σ:=(Int×(Int×(Int×(Int×(lM×(lN×(lE×(lE×(lM×(lG×((List Int)×(lM×(lG×((List Int)×Unit))))))))))))))) N (fun h a=>let g:=a.2.2.2.2.2.2.2.2.2.2.2.2.1;let f:=a.2.2.2.2.2.2.2.2.2.2.2.2.2.1;let d:=(⟨a.2.2.2.2.1,a.2.2.2.2.2.1,a.2.2.2.2.2.2.1,a.2.2.2.2.2.2.2.1⟩:Host);let e:=(ap a.2.2.2.2.2.2.2.2.2.2.2.1 [(zB0 d a.1 a.2.1)]); (cond (ilt a.2.1 8) (oN (zB1 d a.1 a.2.1) (oN (few (ln e)) (h (a.1,((zK .i64 a.2.1 1),(a.2.2.1,(a.2.2.2.1,(a.2.2.2.2.1,(a.2.2.2.2.2.1,(a.2.2.2.2.2.2.1,(a.2.2.2.2.2.2.2.1,(a.2.2.2.2.2.2.2.2.1,(a.2.2.2.2.2.2.2.2.2.1,(a.2.2.2.2.2.2.2.2.2.2.1,(e,(g,(f,()))))))))))))))))) (some [(aT .bare (⟨a.2.2.2.2.2.2.2.2.2.2.2.1,g,f,a.2.2.2.1⟩:Bare))]))) (c,(0,(0,((zd0 b c).Pending,(b.Memory,(b.Mons,(b.Buffer,(b.IoBuffer,([],([],([],([],((zd0 b c).Guests,((zd0 b c).Outs,())))))))))))))))))
def z0s:FuncId->Nat->Option Tmpl:=zo [(161,0,{n:=39,tm:=[(1,ti),(2,.lp 0 0),(4,.lp 1 0),(7,.lp 2 0),(8,ti)],lo:=[(0,[.sl 0 [],.sl 1 [],.sl 2 [],.sl 3 []]),(1,[.sl 4 [],.sl 5 [],.sl 6 [],ti]),(2,[.sl 7 [],.sl 8 [],.sl 9 [],ti])],ro:=[(0,(.sl .int),false),(1,.mon,false),(2,.entry,false),(3,.entry,false),(4,(.sl .int),true),(5,.guest,true),(6,.int,true),(7,(.sl .int),true),(8,.guest,true),(9,.int,true)]})]
theorem zYx (a:Host)(b:Int)(f:zpv a b=true):∃N,zNh N a b=some [aT .bare (zvS a b)]:=by
 have e:=zM.1 f;refine zcd fun N d=>?_;unfold zNh zvS zD oN nB;conv=>zeta
 refine must (zbz e) ?_;rw[show zoP a b=hasB b (ln a.Mons) from rfl];cases g:hasB b (ln a.Mons);{rfl};{refine zcS rfl ?_;refine(zvZ 8 (fun i (t:lM)=>(b,(i:Int),0,(zd0 a b).Pending,a.Memory,a.Mons,a.Buffer,a.IoBuffer,[],[],[],t,(zd0 a b).Guests,(zd0 a b).Outs,())) _ (fun i (c:List (List Int)) j=>bif few (ln (ap c [zcq a b (i:Int)])) then j (ap c [zcq a b (i:Int)]) else none) (fun (t:lM)=>(some [(.agg (Ty.cells .bare (⟨t,(zd0 a b).Guests,(zd0 a b).Outs,(zd0 a b).Pending⟩:Bare)))])) (fun i h t rec=>?_) (fun t rec=>?_) _ ([]) (d (by decide))).trans ?_;{simp only [show ilt (i:Int) 8=true from qJ (by omega),zbg h (show 8<=big by decide),cT];exact must (zbz e) rfl};{simp only [show ilt (((8:Nat)):Int) 8=false from qH (by omega),cF]};rw[zFx a b _ 8 0 [] (by decide)];simp only[zd0,g,cT,jP]}
theorem zRo:vN 161 zGu:=kF2 zXM zx zb0 zBf z0s zYx
theorem z1S:zcr zCU=true:=by decide
theorem z2I {p:Nat->Bool}:∀{n i q:Nat},zo7 p n i=true->i<=q->q<i+n->p q=true
 | 0,i,q,_,a,b=>by omega
 |n+1,i,q,h,a,b=>by simp only[zo7,qD]at h;by_cases c:i=q;{subst c;exact h.1};{exact z2I h.2 (by omega) (by omega)}
theorem z8x {h:Host}{m:Int}(e:zb3 h=true)(l:hasB m (ln h.Mons)=true){p:Int}(j:hasB p 8=true):zcr (zcq h m p)=true:=by have i:=zgT e _ (zbD l mZ);have s:=zMt i;have f:h.Memory.all zcr=true:=(by unfold zb3 at e;simp only[zde]at e;have b:=e.1;unfold zhD at b;simp only[zde]at b;exact b.1);unfold zcq;rw[l,j];simp only[cT];have t:zbs (ix h.Mons m mZ).Outer p=ix (ix h.Mons m mZ).Outer p sZ:=(by unfold zbs;rw[zdw s.1 j];rfl);rw[t];have d:∀(g:List (List Int)) (q:Int),(hasB q (ln g)=true->zcr (ix g q [])=true)->zcr (zcx g q)=true:=(by intro g q k;unfold zcx;cases b:hasB q (ln g);{exact z1S};{exact k b});cases c:ine (ix (ix h.Mons m mZ).Outer p sZ).Page (-1);{refine d _ _ (fun k=>?_);obtain⟨q,rfl,u⟩:=zdS (n:=8) j;have a:fits (ix h.Mons m mZ) q=true:=(by unfold zeb at i;simp only[zde]at i;exact z2I i.2.2.2.2.2.2.2.2.2.2 (by omega) (by omega));unfold fits zmr at a;have r:zc1 (ix (ix h.Mons m mZ).Outer (q:Int) sZ) noSlot=true:=(by rw[(zuD (zgT e _ (zbD l mZ)) j).no];rw[zq2]at c;cases b:ieq (ix (ix h.Mons m mZ).Outer (q:Int) sZ).Page (-1);{rw [b]at c;cases c};{rfl});rw[r]at a;exact a};{exact d _ _ (fun k=>qM.1 f _ (zbD k _))}
theorem zUR {h:Host}{m:Int}(a:zb3 h=true)(b:hasB m (ln h.Mons)=true):∀(n i:Nat),i+n<=8->(zcB h m n i).all zcr=true
 | 0,_,_=>rfl
 |n+1,i,c=>by simp only[zcB,kW,qD];exact⟨z8x a b (qJ (by omega)),zUR a b n (i+1) (by omega)⟩
theorem zJL {h:Host}{m:Int}(c:zb3 h=true)(b:hasB m (ln h.Mons)=true):zbK (zD h m)=true:=by have a:=zgT c _ (zbD b mZ);unfold zeb at a;simp only[zde]at a;unfold zD zbK zhD;rw[b];simp only[cT,a.2.2.2.2.2.2.2.2.2.1,zUR c b 8 0 (by decide),ln,zCm];simp only[ln]at a;rw[a.1,a.2.2.2.2.2.1,a.2.2.2.2.2.2.1];rfl
def znO:zX:=[(161,zGu)]++zbcm
theorem zhi:zL znO:=zh zRo zXM
def zed (l:List Mon):List (List Guest):=l.map fun x=>x.Guests
theorem zBR {l:List Mon}{m:Int}{x:Mon}(b:hasB m (ln l)=true)(c:x.Guests=(ix l m mZ).Guests):zed (up l m x)=zed l:=by obtain⟨k,rfl,a⟩:=zdS (n:=l.length) b;unfold zed up;rw[List.map_set,kH,c,zbo a];have:=@u1 _ (l.map fun x=>x.Guests) k (by simpa using a);simpa using this
theorem zOp {l b:List Mon}(h:zed b=zed l)(m:Int):(ix b m mZ).Guests=(ix l m mZ).Guests:=by unfold zed at h;have a:(b.map fun x=>x.Guests)[m.toNat]?=(l.map fun x=>x.Guests)[m.toNat]?:=(by rw[h]);rw[qP,qP]at a;unfold ix;simp only[kB];cases c:b[m.toNat]? <;> cases d:l[m.toNat]? <;> rw [c,d]at a<;>simp at a ⊢;exact a
theorem zBQ {h:Host}{m p:Int}{s:Slot}(a:hasB m (ln h.Mons)=true):zed (zcs h m p s).Mons=zed h.Mons:=by rw[(zgh h m p s).1];exact zBR a rfl
theorem zbd5 {h:Host}{m p:Int}(a:hasB m (ln h.Mons)=true):zed (zdx h m p).Mons=zed h.Mons:=(zBQ (h:=zeL h m p) (zeF a)).trans (zBR a rfl)
theorem zbd4 {h:Host}(b:Fit h):zed (zdb h).Mons=zed h.Mons:=by unfold zdb;cases a:ieq (ln (zcl h)) 0;{rfl};{exact zbd5 (zHW b a).1}
theorem z4R {h:Host}{m p:Int}(a:Fit h)(c:hasB m (ln h.Mons)=true):zed (fetched h m p).Mons=zed h.Mons:=by have b:=zrd a c;exact((zBQ (h:=landing (zdb h) m p (ix (zcl (zdb h)) 0 0)) (zeF b)).trans (zBR b rfl)).trans (zbd4 a)
theorem zX2 {h:Host}{m p n:Int}(b:hasB m (ln h.Mons)=true):zed (zjI h m p n).Mons=zed h.Mons:=by have a:zed (zbC h m p).Mons=zed h.Mons:=zBR b rfl;unfold zjI;cases ieq (wand .i64 n 2) 0;{unfold opened;cases ieq (wand .i64 (ix (ix (zbC h m p).Mons m mZ).Outer p sZ).Rights 2) 0;{exact a};{exact(zBQ (h:=zbC h m p) (zeF b)).trans a}};{rfl}
theorem z7L {h:Host}{m p n:Int}(b:Fit h)(a:hasB m (ln h.Mons)=true)(c:hasB p 8=true):zed (mended h m p n).Mons=zed h.Mons:=by unfold mended;cases ieq (ix (ix h.Mons m mZ).Outer p sZ).Page (-1);{exact zX2 a};{exact(zX2 (zkv b a c).2).trans (z4R b a)}
theorem zbfe {l a:List Mon}(h:zed a=zed l):a.length=l.length:=by have:=congrArg List.length h;simpa [zed] using this
abbrev kZ:Kept:=Ty.dflt .kept
theorem zbf9 {x:Guest}(f:zc9 x=true){p n:Int}(d:zd8 x.Live p n=true):hasB (zcb x.Live p n) 8=true:=by have g:zcY x.Live 4 8=true:=(by unfold zc9 at f;simp only[qD]at f;exact f.2.2.2.2.1);unfold zcb;rw[d];simp only[cT];unfold zd8 at d;cases a:ieq (zbs x.Live p).Page (-1);{unfold zbs at a ⊢;cases e:hasB p (ln x.Live);{rw [e]at a;cases a};{rw [e]at a;simp only[cT]at a ⊢;unfold zcY at g;simp only[zde]at g;have c:=qM.1 g.1 _ (zbD e sZ);unfold zdK at c;cases b:zc1 (ix x.Live p sZ) noSlot;{rw [b]at c;simp only[cF,zde]at c;have:=zfv.1 c.2.1;rw[show wsub .i64 8 1=7 from rfl] at this;show hasB (ix x.Live p sZ).Page 8=true;exact qJ (by omega)};{unfold zc1 at b;rw[qD]at b;have:(ix x.Live p sZ).Page = -1:=qE b.1;rw[show ieq (ix x.Live p zV).Page (-1)=true from qJ this]at a;cases a}}};{rw [a]at d;cases d}
def zcp (h:Host)(m g:Int):List Slot:=(ix (ix h.Mons m mZ).Guests g gZ).Live
def zb4 (h:Host)(m g:Int):Kept:=ix (ix h.Mons m mZ).Tables g kZ
def zuw (h:Host)(a:Bool):List Entry:=bif a then h.IoBuffer else h.Buffer
def zsR (b:List Entry)(m g a:Int):Option Entry:=zuy b (zdN m g) a
def zhK (b:List Entry)(m g a c:Int):Bool:=bif (zsR b m g a).isSome then enough ((zsR b m g a).getD ⟨0,0,0,0⟩).Rights c else false
def zeh (h:Host)(m g a b:Int):Bool:=bif ziR (zb4 h m g) a then (cond (ieq (zdI (zb4 h m g) a).Page (-1)) true (!enough (zdI (zb4 h m g) a).Rights b)) else true
def zct (h:Host)(m g a:Int):Host:={h with Mons:=up h.Mons m {ix h.Mons m mZ with Tables:=up (ix h.Mons m mZ).Tables g (filled (zb4 h m g) (zcp h m g) (ix h.Mons m mZ).Outer a)}}
def zWV (h:Host)(m g a:Int):Entry:=⟨zdN m g,a,(zdI (zb4 h m g) a).Page,(zdI (zb4 h m g) a).Rights⟩
def zxM (h:Host)(m g a:Int)(b:Bool):Host:=bif b then {h with IoBuffer:=zor h.IoBuffer (zWV h m g a)} else {h with Buffer:=zor h.Buffer (zWV h m g a)}
def zer (h:Host)(m g a:Int)(b:Bool):Host×Int×Bool:=(zxM h m g a b,(zdI (zb4 h m g) a).Page,true)
def zf3 (h:Host)(b:List Entry)(m g a c q:Int)(d:Bool):Host×Int×Bool :=
 bif zhK b m g a c then (h,((zsR b m g a).getD ⟨0,0,0,0⟩).Host,true)
 else (cond (zeh h m g a c) (zer (zct (mended h m q c) m g a) m g a d) (zer h m g a d))
def zfJ (a:Int):Bool:=bif ieq a 1 then true else ieq a 2
def zbO (h:Host)(m g page need:Int):Bool:=bif zbZ h m g then (cond (zfJ need) (zd8 (zcp h m g) page need) false) else false
def lookOf (h:Host)(b:List Entry)(m g page need:Int)(io:Bool):Host×Int×Bool :=
 bif zbO h m g page need then zf3 (cond (ieq need 2) (zbC h m (zcb (zcp h m g) page need)) h) b m g page need (zcb (zcp h m g) page need) io else (h,-1,false)
structure Kp (h r:Host):Prop where
 shape:Shape r
 gs:zed r.Mons=zed h.Mons
theorem Kp.has {h r:Host}(k:Kp h r){m:Int}(a:hasB m (ln h.Mons)=true):hasB m (ln r.Mons)=true:=by rw[ln,zbfe k.gs];exact a
theorem z6g {h:Host}{m g c:Int}(d:Shape h)(e:hasB m (ln h.Mons)=true)(hg:hasB g (ln (ix h.Mons m mZ).Guests)=true):Shape (zct h m g c):=by obtain⟨a,b⟩:=zcz d e;have f:hasB g (ln (ix h.Mons m mZ).Tables)=true:=(by rw[ln,b.2.2.2];exact hg);exact ziD d ⟨a.1,a.2.1,a.2.2.1,a.2.2.2.1,a.2.2.2.2.1,zBb a.2.2.2.2.2 (z6m (a.2.2.2.2.2.2 _ (zbD f _)))⟩ ⟨b.1,b.2.1,b.2.2.1,by simpa using b.2.2.2⟩
theorem z7U {h r:Host}{m g a:Int}{i:Bool}(k:Kp h r):Kp h (zxM r m g a i):=by obtain⟨⟨b,c,d,e⟩,f⟩:=k.shape;unfold zxM;cases i;{exact⟨⟨⟨b,c,(zwa _ d).1,e⟩,f⟩,k.gs⟩};{exact⟨⟨⟨b,c,d,(zwa _ e).1⟩,f⟩,k.gs⟩}
structure LookAt (h:Host) (m g q need:Int):Prop where
 fit:Fit h
 hm:hasB m (ln h.Mons)=true
 hg:hasB g (ln (ix h.Mons m mZ).Guests)=true
 hq:hasB q 8=true
 hn:need=1\/need=2
 hs:SlotFit (ix (ix h.Mons m mZ).Outer q sZ)
theorem LookAt.mend {h:Host}{m g q a:Int}(A:LookAt h m g q a):zXj h m q a:=⟨A.fit,A.hm,A.hq,A.hn,A.hs⟩
theorem LookAt.kp {h:Host}{m g q a:Int}(A:LookAt h m g q a):Kp h (mended h m q a):=⟨(zwI A.fit A.hm A.hq).1,z7L A.fit A.hm A.hq⟩
theorem LookAt.fill {h:Host}{m g q a:Int}(A:LookAt h m g q a)(b:Int):Kp h (zct (mended h m q a) m g b):=by have k:=A.kp;have hg:hasB g (ln (ix (mended h m q a).Mons m mZ).Guests)=true:=(by rw[zOp k.gs];exact A.hg);have e:zed (zct (mended h m q a) m g b).Mons=zed (mended h m q a).Mons:=zBR (k.has A.hm) rfl;exact⟨z6g k.shape (k.has A.hm) hg,e.trans k.gs⟩
theorem zYi {h:Host}{b:List Entry}{m g page a q:Int}{io:Bool}(A:LookAt h m g q a):Kp h (zf3 h b m g page a q io).1:=by unfold zf3;cases zhK b m g page a;{cases zeh h m g page a;{exact z7U ⟨A.fit.1,rfl⟩};{exact z7U (A.fill page)}};{exact⟨A.fit.1,rfl⟩}
theorem zdn {h:Host}{m g:Int}(a:zbZ h m g=true):zb3 h=true/\hasB m (ln h.Mons)=true/\hasB g (ln (ix h.Mons m mZ).Guests)=true:=by unfold zbZ at a;simp only[zde]at a;exact a
theorem z4S {h:Host}{m g:Int}(e:zbZ h m g=true):zc9 (ix (ix h.Mons m mZ).Guests g gZ)=true:=by obtain⟨b,c,d⟩:=zdn e;have a:=zgT b _ (zbD c mZ);unfold zeb at a;simp only[zde]at a;exact qM.1 a.2.2.2.2.2.2.2.2.2.1 _ (zbD d _)
theorem zPI {n:Int}(h:zfJ n=true):n=1\/n=2:=by unfold zfJ at h;cases a:ieq n 1;{rw [a]at h;exact .inr (qE h)};{exact .inl (qE a)}
theorem zF3 {h:Host}{m g page a:Int}(s:SmH h)(d:zbO h m g page a=true) :
 LookAt h m g (zcb (zcp h m g) page a) a/\LookAt (zbC h m (zcb (zcp h m g) page a)) m g (zcb (zcp h m g) page a) a:=by
 unfold zbO at d;simp only[zde]at d;obtain⟨l,p,r⟩:=d;obtain⟨i,b,j⟩:=zdn l;have f:hasB (zcb (zcp h m g) page a) 8=true:=zbf9 (z4S l) r;have c:=zuD (zgT i _ (zbD b mZ)) f;have q:=zff s i;refine⟨⟨q,b,j,f,zPI p,c⟩,⟨z1a q b,zeF b,?_,f,zPI p,?_⟩⟩
 .have e:zed (zbC h m (zcb (zcp h m g) page a)).Mons=zed h.Mons:=zBR b rfl;rw[zOp e];exact j
 .obtain⟨k,rfl,hk⟩:=zdS (n:=h.Mons.length) b;unfold zbC;rw[zdX hk];exact c
theorem zAb {h:Host}{b:List Entry}{m g page need:Int}{io:Bool}(a:SmH h)(f:zbZ h m g=true):Kp h (lookOf h b m g page need io).1:=by have d:=zff a (zdn f).1;unfold lookOf;cases c:zbO h m g page need;{exact⟨d.1,rfl⟩};{obtain⟨A,B⟩:=zF3 a c;simp only[cT];cases ieq need 2;{exact zYi A};{have k:=zYi (b:=b) (page:=page) (io:=io) B;have e:zed (zbC h m (zcb (zcp h m g) page need)).Mons=zed h.Mons:=zBR A.hm rfl;exact⟨k.shape,k.gs.trans e⟩}}
def zjK (x:Host×Int×Bool):List AV:=[.agg (zbk x.1),.one (.i .i64 x.2.1),.one (.b x.2.2)]
theorem zg8 {h:Host}{b:List Entry}{m g c a:Int}{e:Bool}(d:zbO h m g c a=false):lookOf h b m g c a e=(h,-1,false):=by unfold lookOf;rw[d];rfl
theorem zoS {h:Host}{m g b a:Int}(c:zbZ h m g=false):zbO h m g b a=false:=by unfold zbO;rw[c];rfl
theorem z3a {h:Host}{m g:Int}(a:zb3 h=false):zbZ h m g=false:=by unfold zbZ;rw[a];rfl
theorem z3b {h:Host}{m g:Int}(a:hasB m (ln h.Mons)=false):zbZ h m g=false:=by unfold zbZ;rw[a];cases zb3 h<;>rfl
theorem z3c {h:Host}{m g:Int}(a:hasB g (ln (ix h.Mons m mZ).Guests)=false):zbZ h m g=false:=by unfold zbZ;rw[a];cases zb3 h<;>cases hasB m (ln h.Mons)<;>rfl
theorem z3d {h:Host}{m g:Int}(a:zb3 h=true)(b:hasB m (ln h.Mons)=true)(c:hasB g (ln (ix h.Mons m mZ).Guests)=true):zbZ h m g=true:=by unfold zbZ;rw[a,b,c];rfl
structure LookF (r:Host) (m g:Int):Prop where
 hm:hasB m (ln r.Mons)=true
 hg:hasB g (ln (ix r.Mons m mZ).Guests)=true
 ht:hasB g (ln (ix r.Mons m mZ).Tables)=true
 hk:SmK (zb4 r m g)
 hb:r.Buffer.length<=1048576
 hi:r.IoBuffer.length<=1048576
theorem znU {h r:Host}{m g:Int}(k:Kp h r)(b:hasB m (ln h.Mons)=true)(hg:hasB g (ln (ix h.Mons m mZ).Guests)=true):LookF r m g:=by obtain⟨d,e⟩:=zcz k.shape (k.has b);have a:hasB g (ln (ix r.Mons m mZ).Guests)=true:=(by rw[zOp k.gs];exact hg);have c:hasB g (ln (ix r.Mons m mZ).Tables)=true:=(by rw[ln,e.2.2.2];exact a);exact⟨k.has b,a,c,d.2.2.2.2.2.2 _ (zbD c _),k.shape.1.2.2.1,k.shape.1.2.2.2⟩
@[simp] abbrev zkT (h:Host)(b:List Entry)(m g c a:Int)(d:Bool):Bool:=pc (zcc h)
@[simp] abbrev zfa (h:Host)(b:List Entry)(m g page need:Int)(io:Bool):Host:=(lookOf h b m g page need io).1
@[simp] abbrev zkS (h:Host)(b:List Entry)(m g c a:Int)(d:Bool):Int:=(lookOf h b m g c a d).2.1
@[simp] abbrev zg1 (h:Host)(b:List Entry)(m g c a:Int)(d:Bool):Bool:=(lookOf h b m g c a d).2.2
def zt0:List AV->Option (Bool×List AV)
 |[.agg [.s (.sl .int) c,.s .mon d,.s .entry e,.s .entry f],.one (.s .entry g),.one (.i .i64 h),.one (.i .i64 j),.one (.i .i64 k),.one (.i .i64 l),.one (.b m)]=>some ((zkT (⟨c,d,e,f⟩:Host) g h j k l m),[aH (zfa (⟨c,d,e,f⟩:Host) g h j k l m),aI (zkS (⟨c,d,e,f⟩:Host) g h j k l m),aB (zg1 (⟨c,d,e,f⟩:Host) g h j k l m)])
 |_=>none
abbrev zVd (b:lM)(c:lN)(d:lE)(e:lE)(a:Int)(g:Int)(f:Int):Mon :=
 (ix (zoZ (⟨b,c,d,e⟩:Host) a g f).Mons a zi)
abbrev zVe (a:Host)(b c:Int)(d e:Int):Int :=
 (zkn (ix (ix a.Mons b zi).Guests c zG).Live d e)
def zQU (N:Nat)(a:Int)(b:lM)(c:lN)(d:lE)(e:lE):OA:=
 (some [(aH (⟨b,c,d,e⟩:Host)),(aI a),(aB true)])
def zqP (N:Nat)(l:Int)(m:Bool)(n:Int)(c:Int)(d:Int)(k:lM)(e:lN)(a:lE)(b:lE)(f:lM)(g:lN)(h:lE)(i:lE):OA:=
 let q:=(⟨n,l,c,d⟩:Entry); (share (fun (j:(Int×(Int×(lM×(lN×(lE×(lE×(lM×(lN×(lE×(lE×Unit)))))))))))=>(zQU N j.1 j.2.2.1 j.2.2.2.1 j.2.2.2.2.1 j.2.2.2.2.2.1)) (fun p=>(cond m (oN (zlR b q) (p (c,(d,(k,(e,(a,((zmJ b q),(f,(g,(h,(i,())))))))))))) (oN (zlR a q) (p (c,(d,(k,(e,((zmJ a q),(b,(f,(g,(h,(i,())))))))))))))))
def ztz (N:Nat)(d:lM)(e:lN)(f:lE)(g:lE)(b:Int)(i:Int)(h:Int)(a:Int)(c:Int)(y:((Int×(Bool×(Int×(Int×(Int×(Int×(Int×(Int×(Int×(lM×(lN×(lE×(lE×(lM×(lN×(lE×(lE×Unit))))))))))))))))))->OA)(r:Bool)(s:Int)(t:Int)(u:Int)(v:Int)(k:Int)(l:lM)(m:lN)(n:lE)(p:lE):OA:=
 let D:=(⟨d,e,f,g⟩:Host);let w:=(zoZ D b i h);let x:=(inb b (ln w.Mons));let j:=(zVd d e f g b i h);let C:=(ix j.Tables a zd9);let A:=(ix j.Guests a zG).Live; (oN (znI D b i h) (oN x (oN x (oN (inb a (ln j.Tables)) (oN x (oN (inb a (ln j.Guests)) (oN x (oN (zMN C A j.Outer c) (oN (inb a (ln j.Tables)) (share (up w.Mons b ({j with Tables:=(up j.Tables a (zP8 C A j.Outer c))}:Mon)) (fun q=>let B:=(ix q b zi).Tables;let z:=(ix B a zd9); (oN (inb b (ln q)) (oN (inb a (ln B)) (oN (zH1 z c) (y (c,(r,(s,(t,(u,(v,(k,((zvb z c).Page,((zvb z c).Rights,(w.Memory,(q,(w.Buffer,(w.IoBuffer,(l,(m,(n,(p,()))))))))))))))))))))))))))))))))
def zl5 (N:Nat)(d:Int)(e:Int)(c:Int)(n:Int)(p:Bool)(v:Int)(q:Int)(r:Int)(s:Int)(t:Int)(f:Int)(g:lM)(b:lN)(h:lE)(i:lE)(j:lM)(k:lN)(l:lE)(m:lE):OA:=
 let z:=(ix b d zi).Tables;let x:=(ix z e zd9);let w:=(zvb x c); (oN (inb d (ln b)) (oN (inb e (ln z)) (oN (zH1 x c) (share (fun (a:(Int×(Bool×(Int×(Int×(Int×(Int×(Int×(Int×(Int×(lM×(lN×(lE×(lE×(lM×(lN×(lE×(lE×Unit))))))))))))))))))=>(zqP N a.1 a.2.1 a.2.2.1 a.2.2.2.2.2.2.2.1 a.2.2.2.2.2.2.2.2.1 a.2.2.2.2.2.2.2.2.2.1 a.2.2.2.2.2.2.2.2.2.2.1 a.2.2.2.2.2.2.2.2.2.2.2.1 a.2.2.2.2.2.2.2.2.2.2.2.2.1 a.2.2.2.2.2.2.2.2.2.2.2.2.2.1 a.2.2.2.2.2.2.2.2.2.2.2.2.2.2.1 a.2.2.2.2.2.2.2.2.2.2.2.2.2.2.2.1 a.2.2.2.2.2.2.2.2.2.2.2.2.2.2.2.2.1)) (fun u=>let y:=(ztz N g b h i d v n e c u p q r s t f j k l m); (cond (nB (zH0 x c)) y (cond (ieq w.Page (-1)) y (oN (zgO w.Rights n) (cond (nB (zhr w.Rights n)) y (u (c,(p,(q,(r,(s,(t,(f,(w.Page,(w.Rights,(g,(b,(h,(i,(j,(k,(l,(m,())))))))))))))))))))))))))))
def ztA (N:Nat)(g:Int)(a:Host)(h e f:Int)(l:lE)(n:Bool):OA:=
 let i:=(zvd g h);let k:=(zVe a g h e f);let m:=(ix a.Mons g zi);let s:=(ix m.Guests h zG).Live;let d:=(zn0 l i e);let j:=d.Rights; (oN (inb g (ln a.Mons)) (oN (inb h (ln m.Guests)) (oN (zt6 s e f) (cond (nB (zko s e f)) (some [(aH a),(aI (-1)),(aB false)]) (oN (zlS g h) (cond (ieq f 2) (oN (inb g (ln a.Mons)) (oN (inb k (ln m.Dirty)) (share (up a.Mons g ({m with Dirty:=(up m.Dirty k true)}:Mon)) (fun p=>(oN (zn1 l i e) (share (fun (c:(Int×(Int×(Int×(Int×(Bool×(Int×(Int×(Int×(Int×(Int×(Int×(lM×(lN×(lE×(lE×(lM×(lN×(lE×(lE×Unit))))))))))))))))))))=>(zl5 N c.1 c.2.1 c.2.2.1 c.2.2.2.1 c.2.2.2.2.1 c.2.2.2.2.2.1 c.2.2.2.2.2.2.1 c.2.2.2.2.2.2.2.1 c.2.2.2.2.2.2.2.2.1 c.2.2.2.2.2.2.2.2.2.1 c.2.2.2.2.2.2.2.2.2.2.1 c.2.2.2.2.2.2.2.2.2.2.2.1 c.2.2.2.2.2.2.2.2.2.2.2.2.1 c.2.2.2.2.2.2.2.2.2.2.2.2.2.1 c.2.2.2.2.2.2.2.2.2.2.2.2.2.2.1 c.2.2.2.2.2.2.2.2.2.2.2.2.2.2.2.1 c.2.2.2.2.2.2.2.2.2.2.2.2.2.2.2.2.1 c.2.2.2.2.2.2.2.2.2.2.2.2.2.2.2.2.2.1 c.2.2.2.2.2.2.2.2.2.2.2.2.2.2.2.2.2.2.1)) (fun r=>(cond (zkl l i e) (oN (zgO j f) (cond (zhr j f) (some [(aH ({a with Mons:=p}:Host)),(aI d.Host),(aB true)]) (r (g,(h,(e,(f,(n,(k,(i,(d.Tag,(d.Page,(d.Host,(j,(a.Memory,(p,(a.Buffer,(a.IoBuffer,([],([],([],([],())))))))))))))))))))))) (r (g,(h,(e,(f,(n,(k,(i,(d.Tag,(d.Page,(d.Host,(j,(a.Memory,(p,(a.Buffer,(a.IoBuffer,([],([],([],([],())))))))))))))))))))))))))))) (oN (zn1 l i e) (share (fun (b:(Int×(Int×(Int×(Int×(Bool×(Int×(Int×(Int×(Int×(Int×(Int×(lM×(lN×(lE×(lE×(lM×(lN×(lE×(lE×Unit))))))))))))))))))))=>(zl5 N b.1 b.2.1 b.2.2.1 b.2.2.2.1 b.2.2.2.2.1 b.2.2.2.2.2.1 b.2.2.2.2.2.2.1 b.2.2.2.2.2.2.2.1 b.2.2.2.2.2.2.2.2.1 b.2.2.2.2.2.2.2.2.2.1 b.2.2.2.2.2.2.2.2.2.2.1 b.2.2.2.2.2.2.2.2.2.2.2.1 b.2.2.2.2.2.2.2.2.2.2.2.2.1 b.2.2.2.2.2.2.2.2.2.2.2.2.2.1 b.2.2.2.2.2.2.2.2.2.2.2.2.2.2.1 b.2.2.2.2.2.2.2.2.2.2.2.2.2.2.2.1 b.2.2.2.2.2.2.2.2.2.2.2.2.2.2.2.2.1 b.2.2.2.2.2.2.2.2.2.2.2.2.2.2.2.2.2.1 b.2.2.2.2.2.2.2.2.2.2.2.2.2.2.2.2.2.2.1)) (fun q=>(cond (zkl l i e) (oN (zgO j f) (cond (zhr j f) (some [(aH a),(aI d.Host),(aB true)]) (q (g,(h,(e,(f,(n,(k,(i,(d.Tag,(d.Page,(d.Host,(j,(a.Memory,(a.Mons,(a.Buffer,(a.IoBuffer,([],([],([],([],())))))))))))))))))))))) (q (g,(h,(e,(f,(n,(k,(i,(d.Tag,(d.Page,(d.Host,(j,(a.Memory,(a.Mons,(a.Buffer,(a.IoBuffer,([],([],([],([],()))))))))))))))))))))))))))))))
def zrK (N:Nat)(a:Host)(g:lE)(b c:Int)(h d:Int)(i:Bool):OA:=
 let f:=(ztA N b a c h d g i);let e:=(wsub .i64 (ln (ix a.Mons b zi).Guests) 1); (oN (zfn a) (cond (nB (zfm a)) (some [(aH a),(aI (-1)),(aB false)]) (oN (zN b 0 (wsub .i64 (ln a.Mons) 1)) (cond (nB (zT b 0 (wsub .i64 (ln a.Mons) 1))) (some [(aH a),(aI (-1)),(aB false)]) (oN (inb b (ln a.Mons)) (oN (zN c 0 e) (cond (nB (zT c 0 e)) (some [(aH a),(aI (-1)),(aB false)]) (cond (ine d 1) (cond (ine d 2) (some [(aH a),(aI (-1)),(aB false)]) f) f))))))))
def zug:FuncId->Nat->Option Tmpl:=zo [(122,999999,{n:=0,tm:=[],lo:=[],ro:=[]}),(122,1007023,{n:=210,tm:=[(2,ti),(3,ti),(4,ti),(5,ti),(6,.b),(7,.lp 0 0),(14,.lp 1 0),(17,ti),(19,ti),(20,.lp 2 0)],lo:=[(0,[.sl 0 [],.sl 1 [],.sl 2 [],.sl 3 []]),(1,[.sl 4 [],.sl 5 [],.sl 6 [],.sl 7 []]),(2,[ti,ti,ti,ti])],ro:=[(0,(.sl .int),true),(1,.mon,true),(2,.entry,true),(3,.entry,true),(4,(.sl .int),true),(5,.mon,true),(6,.entry,true),(7,.entry,true)],kr:=1}),(122,1009011,{n:=210,tm:=[(4,ti),(6,.b),(7,.lp 0 0),(14,.lp 1 0),(19,ti),(20,.lp 2 0),(22,.lp 3 0)],lo:=[(0,[.sl 0 [],.sl 1 [],.sl 2 [],.sl 3 []]),(1,[.sl 4 [],.sl 5 [],.sl 6 [],.sl 7 []]),(2,[ti,ti,ti,ti]),(3,[ti,ti])],ro:=[(0,(.sl .int),true),(1,.mon,true),(2,.entry,true),(3,.entry,true),(4,(.sl .int),true),(5,.mon,true),(6,.entry,true),(7,.entry,true)],kr:=1}),(122,1005003,{n:=210,tm:=[(7,.lp 0 0),(14,.lp 1 0),(22,.lp 2 0)],lo:=[(0,[.sl 0 [],.sl 1 [],.sl 2 [],.sl 3 []]),(1,[.sl 4 [],.sl 5 [],.sl 6 [],.sl 7 []]),(2,[ti,ti])],ro:=[(0,(.sl .int),true),(1,.mon,true),(2,.entry,true),(3,.entry,true),(4,(.sl .int),true),(5,.mon,true),(6,.entry,true),(7,.entry,true)],kr:=1})]
theorem zS5 (N:Nat)(a:Host)(b c:Int)(d e:Int)(f:Bool):zWW (cQ znO zpF z5z z6s) zug N 12 122 [true,true,true,true,false,false,false,false,false,false] [(4,2)] 1 1 [[0],[1],[2],[4],[7]] .mon [aH a,aS .entry a.Buffer,aI b,aI c,aI d,aI e,aB f]=zrK N a a.Buffer b c d e f:=by kernel_rfl
theorem zS6 (N:Nat)(a:Host)(b c:Int)(d e:Int)(f:Bool):zWW (cQ znO zpF z5z z6s) zug N 12 122 [true,true,true,true,false,false,false,false,false,false] [(4,3)] 1 1 [[0],[1],[2],[4],[7]] .mon [aH a,aS .entry a.IoBuffer,aI b,aI c,aI d,aI e,aB f]=zrK N a a.IoBuffer b c d e f:=by kernel_rfl
theorem zHJ {N:Nat}{r:Host}{m g a:Int}{b:Bool}{z1 z2 z3 z4}(c:r.Buffer.length<=1048576)(d:r.IoBuffer.length<=1048576) :
 zqP N a b (zdN m g) (zdI (zb4 r m g) a).Page (zdI (zb4 r m g) a).Rights r.Memory r.Mons r.Buffer r.IoBuffer z1 z2 z3 z4=some (zjK (zer r m g a b)):=by
 unfold zqP oN
 conv=>zeta
 refine shr ?_;cases b
 .exact zcS rfl (must (zbz c) rfl)
 .exact must rfl (must (zbz d) rfl)
theorem zXW {N:Nat}{r:Host}{m g a b q:Int}{c:Bool}{R:OA}{r11}{u6 u7 u8 u9 u10 z1 z2 z3 z4}(A:LookAt r m g q b)(d:r11 (a,(c,(u6,(u7,(u8,(u9,(u10,((zdI (zb4 (zct (mended r m q b) m g a) m g) a).Page,((zdI (zb4 (zct (mended r m q b) m g a) m g) a).Rights,((zct (mended r m q b) m g a).Memory,((zct (mended r m q b) m g a).Mons,((zct (mended r m q b) m g a).Buffer,((zct (mended r m q b) m g a).IoBuffer,(z1,(z2,(z3,(z4,())))))))))))))))))=R) :
 ztz N r.Memory r.Mons r.Buffer r.IoBuffer m q b g a r11 c u6 u7 u8 u9 u10 z1 z2 z3 z4=R:=by
 have M:=znU A.kp A.hm A.hg;have F:=znU (A.fill a) A.hm A.hg;unfold ztz oN
 conv=>zeta
 exact must (zbz A.mend) (must (zC M.hm) (must (zC M.hm) (must (zC M.ht) (must (zC M.hm) (must (zC M.hg) (must (zC M.hm) (must (zbz M.hk) (must (zC M.ht) (shr (must (zC F.hm) (must (zC F.ht) (must (zbz F.hk) d))))))))))))
theorem z3E {r:Host}{m g a b:Int}(h:ziR (zb4 r m g) a=false):zeh r m g a b=true:=by unfold zeh;rw[h];rfl
theorem z3F {r:Host}{m g a b:Int}(h:ieq (zdI (zb4 r m g) a).Page (-1)=true):zeh r m g a b=true:=by unfold zeh;rw[h];cases ziR (zb4 r m g) a<;>rfl
theorem z3G {r:Host}{m g a b:Int}(h:enough (zdI (zb4 r m g) a).Rights b=false):zeh r m g a b=true:=by unfold zeh;rw[h];cases ziR (zb4 r m g) a<;>cases ieq (zdI (zb4 r m g) a).Page (-1)<;>rfl
theorem z3H {r:Host}{m g a b:Int}(c:ziR (zb4 r m g) a=true)(d:ieq (zdI (zb4 r m g) a).Page (-1)=false)(e:enough (zdI (zb4 r m g) a).Rights b=true):zeh r m g a b=false:=by unfold zeh;rw[c,d,e];rfl
theorem zu8 {r:Host}{m g a b q:Int}{c:Bool}(h:zeh r m g a b=true):(cond (zeh r m g a b) (zer (zct (mended r m q b) m g a) m g a c) (zer r m g a c))=zer (zct (mended r m q b) m g a) m g a c:=by rw[h];rfl
theorem z3i {r:Host}{m g a b q:Int}{c:Bool}(h:zeh r m g a b=false):(cond (zeh r m g a b) (zer (zct (mended r m q b) m g a) m g a c) (zer r m g a c))=zer r m g a c:=by rw[h];rfl
theorem zHK {N:Nat}{r:Host}{m g a b q:Int}{f:Bool}{u7 u8 u9 u10 z1 z2 z3 z4}(A:LookAt r m g q b) :
 zl5 N m g a b f q (zdN m g) u7 u8 u9 u10 r.Memory r.Mons r.Buffer r.IoBuffer z1 z2 z3 z4=some (zjK (cond (zeh r m g a b) (zer (zct (mended r m q b) m g a) m g a f) (zer r m g a f))):=by
 have M:=znU ⟨A.fit.1,rfl⟩ A.hm A.hg;have F:=znU (A.fill a) A.hm A.hg;unfold zl5 oN nB
 conv=>zeta
 refine must (zC M.hm) (must (zC M.ht) (must (zbz M.hk) (shr (brN (fun c=>?_) (fun c=>br (fun d=>?_) (fun d=>must rfl (brN (fun e=>?_) (fun e=>?_))))))))
 .rw [zu8 (z3E c)];exact zXW A (zHJ (r:=zct (mended r m q b) m g a) (m:=m) (g:=g) F.hb F.hi)
 .rw [zu8 (z3F d)];exact zXW A (zHJ (r:=zct (mended r m q b) m g a) (m:=m) (g:=g) F.hb F.hi)
 .rw [zu8 (z3G e)];exact zXW A (zHJ (r:=zct (mended r m q b) m g a) (m:=m) (g:=g) F.hb F.hi)
 .rw [z3i (z3H c d e)];exact zHJ (r:=r) (m:=m) (g:=g) M.hb M.hi
theorem zHN {b:List Entry}{m g a c:Int}(h:(zsR b m g a).isSome=false):zhK b m g a c=false:=by unfold zhK;rw[h];rfl
theorem zoN {b:List Entry}{m g a c:Int}{x:Bool}(d:(zsR b m g a).isSome=true)(h:enough ((zsR b m g a).getD ⟨0,0,0,0⟩).Rights c=x):zhK b m g a c=x:=by unfold zhK;rw[d,h];rfl
theorem zoR {r:Host}{b:List Entry}{m g a c q:Int}{d:Bool}(h:zhK b m g a c=false):zf3 r b m g a c q d=bif zeh r m g a c then zer (zct (mended r m q c) m g a) m g a d else zer r m g a d:=by unfold zf3;rw[h];rfl
theorem zHT {r:Host}{b:List Entry}{m g a c q:Int}{d:Bool}(h:zhK b m g a c=true):zf3 r b m g a c q d=(r,((zsR b m g a).getD ⟨0,0,0,0⟩).Host,true):=by unfold zf3;rw[h];rfl
theorem zMs {h:Host}{b:List Entry}{m g c a:Int}{d:Bool}(e:zbO h m g c a=true):lookOf h b m g c a d=zf3 (cond (ieq a 2) (zbC h m (zcb (zcp h m g) c a)) h) b m g c a (zcb (zcp h m g) c a) d:=by unfold lookOf;rw[e];rfl
theorem z7y {N:Nat}{r:Host}{b:List Entry}{m g c a:Int}{f:Bool}(p:SmH r)(hg:zbZ r m g=true)(k:zfJ a=true) :
 ztA N m r g c a b f=some (zjK (lookOf r b m g c a f)):=by
 obtain⟨q,h,l⟩:=zdn hg;unfold ztA oN nB
 conv=>zeta
 refine must (zC h) (must (zC l) (must rfl (brN (fun j=>?_) (fun j=>must rfl ?_))))
 .have:zbO r m g c a=false:=by
   unfold zbO;rw[hg,k,show zd8 (zcp r m g) c a=false from j];rfl
  rw[zg8 this];rfl
 .have hl:zbO r m g c a=true:=by
   unfold zbO;rw[hg,k,show zd8 (zcp r m g) c a=true from j];rfl
  obtain⟨A,B⟩:=zF3 p hl;rw[zMs hl];have n:hasB (zcb (zcp r m g) c a) (ln (ix r.Mons m mZ).Dirty)=true:=zdw (zcz A.fit.1 h).2.2.2.1 A.hq;refine br (fun i=>?_) (fun i=>?_)
  .rw [i]
   show _=some (zjK (zf3 (zbC r m (zcb (zcp r m g) c a)) b m g c a (zcb (zcp r m g) c a) f))
   refine must (zC h) (must (zC n) (shr (must rfl (shr (br (fun d=>must rfl (br (fun e=>?_) (fun e=>?_))) (fun d=>?_))))))
   .rw [zHT (zoN d e)];rfl
   .rw [zoR (zoN d e)];exact zHK (r:=zbC r m (zcb (zcp r m g) c a)) B
   .rw [zoR (zHN d)];exact zHK (r:=zbC r m (zcb (zcp r m g) c a)) B
  .rw [i]
   show _=some (zjK (zf3 r b m g c a (zcb (zcp r m g) c a) f))
   refine must rfl (shr (br (fun d=>must rfl (br (fun e=>?_) (fun e=>?_))) (fun d=>?_)))
   .rw [zHT (zoN d e)];rfl
   .rw [zoR (zoN d e)];exact zHK A
   .rw [zoR (zHN d)];exact zHK A
theorem zWq (a:Host)(f:List Entry)(b c:Int)(e d:Int)(g:Bool)(t:zce big [aH a,aS .entry f,aI b,aI c,aI e,aI d,aB g])(r:zkT a f b c e d g=true):∃N,zrK N a f b c e d g=some [aH (zfa a f b c e d g),aI (zkS a f b c e d g),aB (zg1 a f b c e d g)]:=by
 have j:=(zQ a).1 (zM.1 r);refine⟨0,?_⟩;show _=some (zjK (lookOf a f b c e d g));unfold zrK oN nB;conv=>zeta
 refine must rfl (brN (fun k=>?_) (fun k=>must rfl ?_));{rw [zg8 (zoS (z3a k))];rfl};rw[show zT b 0 (wsub .i64 (ln a.Mons) 1)=hasB b (ln a.Mons) from zrI j.2.1.1 b];refine brN (fun i=>?_) (fun i=>must (zC i) (must rfl ?_));{rw [zg8 (zoS (z3b i))];rfl};have s:(ix a.Mons b mZ).Guests.length<=1048576:=(j.2.1.2 _ (zbD i _)).2.2.2.1.1;rw[show zT c 0 (wsub .i64 (ln (ix a.Mons b zi).Guests) 1)=hasB c (ln (ix a.Mons b mZ).Guests) from zrI s c];refine brN (fun l=>?_) (fun l=>?_);{rw [zg8 (zoS (z3c l))];rfl};have hg:=z3d k i l;have p:∀{n:Int},zfJ n=false->zbO a b c e n=false:=fun {n} h=>(by unfold zbO;rw[hg,h];rfl);rw[zq2,zq2];cases m:ieq d 1;{cases q:ieq d 2;{have:zfJ d=false:=(by unfold zfJ;rw[m,q];rfl);rw[zg8 (p this)];rfl};{exact z7y j hg (by unfold zfJ;rw[m,q];rfl)}};{exact z7y j hg (by unfold zfJ;rw[m];rfl)}
theorem zO5:zec Tryz.prog 122 [true,true,true,true,false,false,false,false,false,false] (some (1,1,[[0],[1],[2],[4],[7]])) zt0:=by refine zQ9 (kt:=.mon) (zgp zhi zx zb0 zBf) (ziG (by kernel_rfl)) ?_;intro p s x f i w v h;have t:=ziH v;have g:p=[(4,2)]\/p=[(4,3)]:=(by rw[show zhV 122=[[(4,2)],[(4,3)]] from by kernel_rfl]at f;simpa using f);unfold zt0 at h;split at h;{rename_i a b c d r j k l m n;obtain⟨u,rfl⟩:=zd1 h;obtain⟨N,q⟩:=zWq (⟨a,b,c,d⟩:Host) r j k l m n t u;refine⟨⟨_,rfl⟩,rfl,zug,N,12,?_⟩;rcases g with rfl|rfl;{have e:=i 4 2 (by simp);simp only[zB,kA,AV.cvs] at e;cases e;exact(zS5 N (⟨a,b,c,d⟩:Host) j k l m n).trans q};{have e:=i 4 3 (by simp);simp only[zB,kA,AV.cvs] at e;cases e;exact(zS6 N (⟨a,b,c,d⟩:Host) j k l m n).trans q}};{cases h}
def tctN:ze2:=[(122,([true,true,true,true,false,false,false,false,false,false],(some (1,1,[[0],[1],[2],[4],[7]])),zt0))]++z6s
theorem zhS:zd5 tctN:=zrG zBf (by
 intro x a;simp only[qG,qN,or_false]at a;rcases a with rfl
 .exact zO5)
def gOf (h:Host)(m g:Int):Guest:=ix (ix h.Mons m mZ).Guests g gZ
def zlI (h:Host)(m g:Int)(x:Guest):Host:={h with Mons:=up h.Mons m {ix h.Mons m mZ with Guests:=up (ix h.Mons m mZ).Guests g x}}
def znV (h:Host)(m g:Int)(x:Guest)(w:Bool):Host×Int×Bool:=lookOf h h.Buffer m g (zbf (address x)) (zci w) false
def zj7 (L:Host×Int×Bool)(m g:Int)(x:Guest)(w:Bool):Host :=
 bif L.2.2 then (cond w (zlI {L.1 with Memory:=zbH L.1.Memory L.2.1 (zcZ (address x)) x.A} m g (zch x)) (zlI L.1 m g (loaded x (cellAt L.1.Memory L.2.1 (zcZ (address x))))))
 else zlI L.1 m g (stopped x (zsQ (zbf (address x)) w))
def owned (h:Host)(m:Int):Host:=bif ilt (ix h.Mons m mZ).Own 1000000000 then {h with Mons:=up h.Mons m {ix h.Mons m mZ with Own:=zK .i64 (ix h.Mons m mZ).Own 1}} else h
def zpG (h:Host)(m n:Int):Host:=bif ilt (ln (ix h.Mons m mZ).Outs) 40 then {h with Mons:=up h.Mons m {ix h.Mons m mZ with Outs:=ap (ix h.Mons m mZ).Outs [n]}} else h
def zgy (h:Host)(m:Int)(x:Guest)(w:Int):Host:=bif (cond (ine w 6) (ieq (zCk (ix h.Mons m mZ).Traps x.Ctl.Traps (zBg w)) 2) false) then owned h m else h
def zgx (h:Host)(m:Int)(x:Guest)(w:Int):Host:=bif (cond (zle x.Ctl.Traps w) (ieq w 5) false) then zpG h m (zcA x.Prog x.Pc).X else h
def zyK (h:Host)(m g:Int)(x:Guest)(w:Int):Host:=zlI (zgx (zgy h m x w) m x w) m g (zj8 x x.Ctl.Traps w)
def z0d (h:Host)(m g:Int)(x:Guest)(w:Int):Host×Bool :=
 bif ieq w 0 then (h,false) else (bif ieq w 1 then (zlI h m g (interrupted x),true) else (bif ieq w 2 then (zlI h m g (plainly x),true) else
  (cond (cond (ieq w 3) true (ieq w 4)) (zj7 (znV h m g x (ieq w 4)) m g x (ieq w 4),true) (zyK h m g x w,true))))
def zbG (h:Host)(m g:Int):Host×Bool:=bif zbZ h m g then z0d h m g (gOf h m g) (zbe (gOf h m g)) else (h,false)
def zfP (x:Host×Bool):List AV:=[.agg (zbk x.1),.one (.b x.2)]
theorem zqG {h:Host}{m g:Int}(b:SmH h)(a:hasB m (ln h.Mons)=true)(hg:hasB g (ln (ix h.Mons m mZ).Guests)=true):SmG (gOf h m g):=(b.2.1.2 _ (zbD a _)).2.2.2.1.2 _ (zbD hg _)
theorem z6h {h:Host}{m g:Int}{x:Guest}(c:Shape h)(d:hasB m (ln h.Mons)=true)(e:SmG x):Shape (zlI h m g x):=by obtain⟨a,b⟩:=zcz c d;exact ziD c ⟨a.1,a.2.1,a.2.2.1,zH5 a.2.2.2.1 e,a.2.2.2.2⟩ ⟨b.1,b.2.1,b.2.2.1,by simpa using b.2.2.2⟩
theorem zPG {h:Host}{m:Int}(b:hasB m (ln h.Mons)=true)(x:Mon):ix (up h.Mons m x) m mZ=x:=by obtain⟨k,rfl,a⟩:=zdS (n:=h.Mons.length) b;exact zdX a _ _
@[simp] abbrev zeG (h:Host)(m g:Int):Bool:=pc (zcc h)
@[simp] abbrev zG6 (h:Host)(m g:Int):Host:=(zbG h m g).1
@[simp] abbrev zG7 (h:Host)(m g:Int):Bool:=(zbG h m g).2
theorem zbcA {a:Type}{l:List a}{x:a}(h:ilt (ln l) 40=true):few (ln (ap l [x]))=true:=by have:=qE h;simp only[ln] at this;exact zgE (by simp[ap];omega)
theorem z3K {h:Host}{m:Int}{x:Guest}{w:Int}(a:(cond (zle x.Ctl.Traps w) (ieq w 5) false)=false):zgx h m x w=h:=by unfold zgx;rw[a];rfl
theorem zU9 {h:Host}{m:Int}{x:Guest}{w:Int}(a:ilt (ln (ix h.Mons m mZ).Outs) 40=false):zgx h m x w=h:=by unfold zgx zpG;rw[a];cases (cond (zle x.Ctl.Traps w) (ieq w 5) false)<;>rfl
theorem z0m {h:Host}{m:Int}{x:Guest}{w:Int}(a:zle x.Ctl.Traps w=true)(b:ieq w 5=true)(c:ilt (ln (ix h.Mons m mZ).Outs) 40=true):zgx h m x w={h with Mons:=up h.Mons m {ix h.Mons m mZ with Outs:=ap (ix h.Mons m mZ).Outs [(zcA x.Prog x.Pc).X]}}:=by unfold zgx zpG;rw[a,b,c];rfl
theorem z9j {h:Host}{m:Int}{x:Guest}{w:Int}(a:zle x.Ctl.Traps w=false):zgx h m x w=h:=z3K (by rw[a];rfl)
theorem zQA {h:Host}{m:Int}{x:Guest}{w:Int}(a:ieq w 5=false):zgx h m x w=h:=z3K (by rw[a];cases zle x.Ctl.Traps w<;>rfl)
theorem z7N (a:Int):(cond (ieq a a) true false)=true:=by rw[zd4];rfl
theorem zmU {h:Host}{m g:Int}(a:zbZ h m g=false):zbG h m g=(h,false):=by unfold zbG;rw[a];rfl
theorem zj6 {h:Host}{m g:Int}(a:zbZ h m g=true):zbG h m g=z0d h m g (gOf h m g) (zbe (gOf h m g)):=by unfold zbG;rw[a];rfl
theorem zmW {a b:Bool}(h:(cond a b false)=true):a=true/\b=true:=by cases a;{cases h};{exact⟨rfl,h⟩}
theorem ziF {a b:Bool}(c:a=true)(d:b=true):(cond a b false)=true:=by rw[c];exact d
theorem z3N {h:Host}{m:Int}{x:Guest}{w:Int}(b:ine w 6=true)(a:ieq (zCk (ix h.Mons m mZ).Traps x.Ctl.Traps (zBg w)) 2=true)(c:ilt (ix h.Mons m mZ).Own 1000000000=true):zgy h m x w={h with Mons:=up h.Mons m {ix h.Mons m mZ with Own:=zK .i64 (ix h.Mons m mZ).Own 1}}:=by unfold zgy owned;rw[b,a,c];rfl
theorem z3L {h:Host}{m:Int}{x:Guest}{w:Int}(a:ieq (zCk (ix h.Mons m mZ).Traps x.Ctl.Traps (zBg w)) 2=false):zgy h m x w=h:=by unfold zgy;rw[a];cases ine w 6<;>rfl
theorem z3M {h:Host}{m:Int}{x:Guest}{w:Int}(a:ilt (ix h.Mons m mZ).Own 1000000000=false):zgy h m x w=h:=by unfold zgy owned;rw[a];cases (cond (ine w 6) (ieq (zCk (ix h.Mons m mZ).Traps x.Ctl.Traps (zBg w)) 2) false)<;>rfl
theorem zbeD {h:Host}{m:Int}{x:Guest}:zgy h m x 6=h:=rfl
theorem zoJ {h a:Host}{m g:Int}{x:Guest}{w:Int}(e:zgy h m x w=a):zyK h m g x w=zlI (zgx a m x w) m g (zj8 x x.Ctl.Traps w):=by unfold zyK;rw[e]
theorem zbbp (x:Guest):ieq (zbe x) 0=true\/ieq (zbe x) 1=true\/ieq (zbe x) 2=true\/ieq (zbe x) 3=true\/ieq (zbe x) 4=true\/ieq (zbe x) 5=true\/ieq (zbe x) 6=true\/ieq (zbe x) 7=true:=by cases a:ieq (zbe x) 0;{cases b:ieq (zbe x) 1;{cases c:ieq (zbe x) 2;{cases d:ieq (zbe x) 3;{cases e:ieq (zbe x) 4;{cases f:ieq (zbe x) 5;{cases g:ieq (zbe x) 6;{exact .inr (.inr (.inr (.inr (.inr (.inr (.inr (zbga x a b c d e f g)))))))};{exact .inr (.inr (.inr (.inr (.inr (.inr (.inl rfl))))))}};{exact .inr (.inr (.inr (.inr (.inr (.inl rfl)))))}};{exact .inr (.inr (.inr (.inr (.inl rfl))))}};{exact .inr (.inr (.inr (.inl rfl)))}};{exact .inr (.inr (.inl rfl))}};{exact .inr (.inl rfl)}};{exact .inl rfl}
abbrev zD1 (x:Guest):Bool:=bif zeN x then ieq (zbe x) 0 else false
def zpO:List AV->Option (Bool×List AV)
 |[.agg [.s .ins c,.i .i64 d,.i .i64 e,.s .slot f,.s .slot g,.i .i64 h,.i .i64 j,.b k,.i .i64 l,.i .i64 m,.i .i64 n,.b o,.i .i64 p,.b q,.s .int r]]=>some ((zD1 (⟨c,d,e,f,g,⟨h,j,k⟩,l,⟨m,n,o,p⟩,q,r⟩:Guest)),[.one (.i .i64 0)])
 |_=>none
theorem zIu:vN 340 zpO:=by refine⟨zco.1,fun w b g j a h=>?_⟩;unfold zpO at h;split at h;{obtain⟨f,rfl⟩:=zd1 h;obtain⟨d,e⟩:=zmW f;exact zco.2 w _ g _ a (congr (congrArg (fun c v=>some (c,[AV.one (CV.i .i64 v)])) d) (qE e))};{cases h}
def zbdG:zX:=[(340,zpO)]++znO
theorem z4q:zL zbdG:=zh zIu zhi
@[simp] abbrev zyg (h:Host)(m g:Int):Bool:=bif zeG h m g then ieq (zbe (gOf h m g)) 0 else false
@[simp] abbrev zye (h:Host)(m g:Int):Host:=(zbG h m g).1
@[simp] abbrev zyf (h:Host)(m g:Int):Bool:=(zbG h m g).2
def zIV:Run:=rF3 dH dI dI fun b c d=>(zyg b c d,[aH (zye b c d),aB (zyf b c d)])
def zwQ (N:Nat)(d:Host)(b c:Int):OA:=
 let a:=(zu d);let e:=(ix a.Mons b zi).Guests; (oN (zbW d) (oN (zg2 a b c) (cond (nB (zje a b c)) (some [(aH a),(aB false)]) (oN (inb b (ln a.Mons)) (oN (inb c (ln e)) (oN (zD1 (ix e c zG)) (some [(aH a),(aB false)])))))))
abbrev zD2 (x:Guest):Bool:=bif zeN x then ieq (zbe x) 1 else false
def zpP:List AV->Option (Bool×List AV)
 |[.agg [.s .ins c,.i .i64 d,.i .i64 e,.s .slot f,.s .slot g,.i .i64 h,.i .i64 j,.b k,.i .i64 l,.i .i64 m,.i .i64 n,.b o,.i .i64 p,.b q,.s .int r]]=>some ((zD2 (⟨c,d,e,f,g,⟨h,j,k⟩,l,⟨m,n,o,p⟩,q,r⟩:Guest)),[.one (.i .i64 1)])
 |_=>none
theorem zIv:vN 340 zpP:=by refine⟨zco.1,fun w b g j a h=>?_⟩;unfold zpP at h;split at h;{obtain⟨f,rfl⟩:=zd1 h;obtain⟨d,e⟩:=zmW f;exact zco.2 w _ g _ a (congr (congrArg (fun c v=>some (c,[AV.one (CV.i .i64 v)])) d) (qE e))};{cases h}
def zbdH:zX:=[(340,zpP)]++znO
theorem z4r:zL zbdH:=zh zIv zhi
@[simp] abbrev zyj (h:Host)(m g:Int):Bool:=bif zeG h m g then ieq (zbe (gOf h m g)) 1 else false
@[simp] abbrev zyh (h:Host)(m g:Int):Host:=(zbG h m g).1
@[simp] abbrev zyi (h:Host)(m g:Int):Bool:=(zbG h m g).2
def zIW:Run:=rF3 dH dI dI fun b c d=>(zyj b c d,[aH (zyh b c d),aB (zyi b c d)])
def zwR (N:Nat)(f:Host)(b c:Int):OA:=
 let a:=(zu f);let d:=(ix a.Mons b zi);let e:=(ix d.Guests c zG); (oN (zbW f) (oN (zg2 a b c) (cond (nB (zje a b c)) (some [(aH a),(aB false)]) (oN (inb b (ln a.Mons)) (oN (inb c (ln d.Guests)) (oN (zD2 e) (oN (inb b (ln a.Mons)) (oN (zp6 e) (oN (inb c (ln d.Guests)) (share (up a.Mons b ({d with Guests:=(up d.Guests c (zkm e))}:Mon)) (fun g=>(some [(aH ({a with Mons:=g}:Host)),(aB true)]))))))))))))
abbrev zD3 (x:Guest):Bool:=bif zeN x then ieq (zbe x) 2 else false
def zpQ:List AV->Option (Bool×List AV)
 |[.agg [.s .ins c,.i .i64 d,.i .i64 e,.s .slot f,.s .slot g,.i .i64 h,.i .i64 j,.b k,.i .i64 l,.i .i64 m,.i .i64 n,.b o,.i .i64 p,.b q,.s .int r]]=>some ((zD3 (⟨c,d,e,f,g,⟨h,j,k⟩,l,⟨m,n,o,p⟩,q,r⟩:Guest)),[.one (.i .i64 2)])
 |_=>none
theorem zIw:vN 340 zpQ:=by refine⟨zco.1,fun w b g j a h=>?_⟩;unfold zpQ at h;split at h;{obtain⟨f,rfl⟩:=zd1 h;obtain⟨d,e⟩:=zmW f;exact zco.2 w _ g _ a (congr (congrArg (fun c v=>some (c,[AV.one (CV.i .i64 v)])) d) (qE e))};{cases h}
def zbdI:zX:=[(340,zpQ)]++znO
theorem z4s:zL zbdI:=zh zIw zhi
@[simp] abbrev zym (h:Host)(m g:Int):Bool:=bif zeG h m g then ieq (zbe (gOf h m g)) 2 else false
@[simp] abbrev zyk (h:Host)(m g:Int):Host:=(zbG h m g).1
@[simp] abbrev zyl (h:Host)(m g:Int):Bool:=(zbG h m g).2
def zIX:Run:=rF3 dH dI dI fun b c d=>(zym b c d,[aH (zyk b c d),aB (zyl b c d)])
def zwS (N:Nat)(f:Host)(b c:Int):OA:=
 let a:=(zu f);let d:=(ix a.Mons b zi);let e:=(ix d.Guests c zG); (oN (zbW f) (oN (zg2 a b c) (cond (nB (zje a b c)) (some [(aH a),(aB false)]) (oN (inb b (ln a.Mons)) (oN (inb c (ln d.Guests)) (oN (zD3 e) (oN (inb b (ln a.Mons)) (oN (zzo e) (oN (inb c (ln d.Guests)) (share (up a.Mons b ({d with Guests:=(up d.Guests c (ztj e))}:Mon)) (fun g=>(some [(aH ({a with Mons:=g}:Host)),(aB true)]))))))))))))
abbrev zD4 (x:Guest):Bool:=bif zeN x then ieq (zbe x) 3 else false
def zpR:List AV->Option (Bool×List AV)
 |[.agg [.s .ins c,.i .i64 d,.i .i64 e,.s .slot f,.s .slot g,.i .i64 h,.i .i64 j,.b k,.i .i64 l,.i .i64 m,.i .i64 n,.b o,.i .i64 p,.b q,.s .int r]]=>some ((zD4 (⟨c,d,e,f,g,⟨h,j,k⟩,l,⟨m,n,o,p⟩,q,r⟩:Guest)),[.one (.i .i64 3)])
 |_=>none
theorem zIx:vN 340 zpR:=by refine⟨zco.1,fun w b g j a h=>?_⟩;unfold zpR at h;split at h;{obtain⟨f,rfl⟩:=zd1 h;obtain⟨d,e⟩:=zmW f;exact zco.2 w _ g _ a (congr (congrArg (fun c v=>some (c,[AV.one (CV.i .i64 v)])) d) (qE e))};{cases h}
def zbdJ:zX:=[(340,zpR)]++znO
theorem z4t:zL zbdJ:=zh zIx zhi
@[simp] abbrev zyp (h:Host)(m g:Int):Bool:=bif zeG h m g then ieq (zbe (gOf h m g)) 3 else false
@[simp] abbrev zyn (h:Host)(m g:Int):Host:=(zbG h m g).1
@[simp] abbrev zyo (h:Host)(m g:Int):Bool:=(zbG h m g).2
def zIY:Run:=rF3 dH dI dI fun b c d=>(zyp b c d,[aH (zyn b c d),aB (zyo b c d)])
def zwT (N:Nat)(m:Host)(a b:Int):OA:=
 let c:=(zu m);let n:=(ix c.Mons a zi).Guests;let h:=(ix n b zG);let f:=(zjj h);let g:=(zcW f);let l:=(zkS c c.Buffer a b g (zfo false) false);let d:=(zfa c c.Buffer a b g (zfo false) false);let e:=(ix d.Mons a zi);let j:=(ix e.Guests b zG);let i:=({h with Prog:=j.Prog,Written:=j.Written,Live:=j.Live,Seen:=j.Seen}:Guest); (oN (zbW m) (oN (zg2 c a b) (cond (nB (zje c a b)) (some [(aH c),(aB false)]) (oN (inb a (ln c.Mons)) (oN (inb b (ln n)) (oN (zD4 h) (oN (zr7 h) (oN (zgk f) (oN (zuL false) (oN (zkT c c.Buffer a b g (zfo false) false) (cond (nB (zg1 c c.Buffer a b g (zfo false) false)) (oN (inb a (ln d.Mons)) (oN (zgk f) (oN (zkk g false) (oN (zek i (ze6 g false)) (oN (inb b (ln e.Guests)) (share (up d.Mons a ({e with Guests:=(up e.Guests b (zdQ i (ze6 g false)))}:Mon)) (fun k=>(some [(aH ({d with Mons:=k}:Host)),(aB true)])))))))) (oN (inb a (ln d.Mons)) (oN (zi1 f) (oN (zuJ d.Memory l (zes f)) (oN (zCt i (zow d.Memory l (zes f))) (oN (inb b (ln e.Guests)) (share (up d.Mons a ({e with Guests:=(up e.Guests b (zwx i (zow d.Memory l (zes f))))}:Mon)) (fun k=>(some [(aH ({d with Mons:=k}:Host)),(aB true)])))))))))))))))))))
abbrev zD5 (x:Guest):Bool:=bif zeN x then ieq (zbe x) 4 else false
def zpS:List AV->Option (Bool×List AV)
 |[.agg [.s .ins c,.i .i64 d,.i .i64 e,.s .slot f,.s .slot g,.i .i64 h,.i .i64 j,.b k,.i .i64 l,.i .i64 m,.i .i64 n,.b o,.i .i64 p,.b q,.s .int r]]=>some ((zD5 (⟨c,d,e,f,g,⟨h,j,k⟩,l,⟨m,n,o,p⟩,q,r⟩:Guest)),[.one (.i .i64 4)])
 |_=>none
theorem zIy:vN 340 zpS:=by refine⟨zco.1,fun w b g j a h=>?_⟩;unfold zpS at h;split at h;{obtain⟨f,rfl⟩:=zd1 h;obtain⟨d,e⟩:=zmW f;exact zco.2 w _ g _ a (congr (congrArg (fun c v=>some (c,[AV.one (CV.i .i64 v)])) d) (qE e))};{cases h}
def zbdK:zX:=[(340,zpS)]++znO
theorem z4u:zL zbdK:=zh zIy zhi
@[simp] abbrev zys (h:Host)(m g:Int):Bool:=bif zeG h m g then ieq (zbe (gOf h m g)) 4 else false
@[simp] abbrev zyq (h:Host)(m g:Int):Host:=(zbG h m g).1
@[simp] abbrev zyr (h:Host)(m g:Int):Bool:=(zbG h m g).2
def zIZ:Run:=rF3 dH dI dI fun b c d=>(zys b c d,[aH (zyq b c d),aB (zyr b c d)])
def zwU (N:Nat)(l:Host)(a b:Int):OA:=
 let c:=(zu l);let n:=(ix c.Mons a zi).Guests;let g:=(ix n b zG);let h:=(zjj g);let f:=(zcW h);let m:=(zkS c c.Buffer a b f (zfo true) false);let d:=(zfa c c.Buffer a b f (zfo true) false);let e:=(ix d.Mons a zi);let j:=(ix e.Guests b zG);let i:=({g with Prog:=j.Prog,Written:=j.Written,Live:=j.Live,Seen:=j.Seen}:Guest); (oN (zbW l) (oN (zg2 c a b) (cond (nB (zje c a b)) (some [(aH c),(aB false)]) (oN (inb a (ln c.Mons)) (oN (inb b (ln n)) (oN (zD5 g) (oN (zr7 g) (oN (zgk h) (oN (zuL true) (oN (zkT c c.Buffer a b f (zfo true) false) (cond (nB (zg1 c c.Buffer a b f (zfo true) false)) (oN (inb a (ln d.Mons)) (oN (zgk h) (oN (zkk f true) (oN (zek i (ze6 f true)) (oN (inb b (ln e.Guests)) (share (up d.Mons a ({e with Guests:=(up e.Guests b (zdQ i (ze6 f true)))}:Mon)) (fun k=>(some [(aH ({d with Mons:=k}:Host)),(aB true)])))))))) (oN (zi1 h) (oN (zi8 d.Memory m (zes h) g.A) (oN (inb a (ln d.Mons)) (oN (zCA i) (oN (inb b (ln e.Guests)) (share (up d.Mons a ({e with Guests:=(up e.Guests b (zwB i))}:Mon)) (fun k=>(some [(aH ({d with Memory:=(zjX d.Memory m (zes h) g.A),Mons:=k}:Host)),(aB true)])))))))))))))))))))
abbrev zD6 (x:Guest):Bool:=bif zeN x then ieq (zbe x) 5 else false
def zpT:List AV->Option (Bool×List AV)
 |[.agg [.s .ins c,.i .i64 d,.i .i64 e,.s .slot f,.s .slot g,.i .i64 h,.i .i64 j,.b k,.i .i64 l,.i .i64 m,.i .i64 n,.b o,.i .i64 p,.b q,.s .int r]]=>some ((zD6 (⟨c,d,e,f,g,⟨h,j,k⟩,l,⟨m,n,o,p⟩,q,r⟩:Guest)),[.one (.i .i64 5)])
 |_=>none
theorem zIz:vN 340 zpT:=by refine⟨zco.1,fun w b g j a h=>?_⟩;unfold zpT at h;split at h;{obtain⟨f,rfl⟩:=zd1 h;obtain⟨d,e⟩:=zmW f;exact zco.2 w _ g _ a (congr (congrArg (fun c v=>some (c,[AV.one (CV.i .i64 v)])) d) (qE e))};{cases h}
def zbdL:zX:=[(340,zpT)]++znO
theorem z4v:zL zbdL:=zh zIz zhi
@[simp] abbrev zyv (h:Host)(m g:Int):Bool:=bif zeG h m g then ieq (zbe (gOf h m g)) 5 else false
@[simp] abbrev zyt (h:Host)(m g:Int):Host:=(zbG h m g).1
@[simp] abbrev zyu (h:Host)(m g:Int):Bool:=(zbG h m g).2
def zI0:Run:=rF3 dH dI dI fun b c d=>(zyv b c d,[aH (zyt b c d),aB (zyu b c d)])
def zwV (N:Nat)(x:Host)(a e:Int):OA:=
 let d:=(zu x);let f:=(inb a (ln d.Mons));let g:=(ix d.Mons a zi);let j:=(inb e (ln g.Guests));let c:=(ix g.Guests e zG);let w:=(ap g.Outs [(zfV c.Prog c.Pc).X]);let s:=(up d.Mons a ({g with Outs:=w}:Mon));let h:=c.Ctl.Traps;let v:=(up d.Mons a ({g with Guests:=(up g.Guests e (zcn c h 5))}:Mon)); (oN (zbW x) (oN (zg2 d a e) (cond (nB (zje d a e)) (some [(aH d),(aB false)]) (oN f (oN j (oN (zD6 c) (oN f (oN (zsm g.Traps h 1) (cond (ieq (zoU g.Traps h 1) 2) (oN f (cond (ilt g.Own 1000000000) (oN f (oN f (share (up d.Mons a ({g with Own:=(zK .i64 g.Own 1)}:Mon)) (fun b=>let k:=(inb a (ln b));let l:=(ix b a zi);let q:=(ix l.Guests e zG);let t:=(ap l.Outs [(zfV q.Prog c.Pc).X]);let u:=({c with Prog:=q.Prog,Written:=q.Written,Live:=q.Live,Seen:=q.Seen}:Guest);let r:=(up b a ({l with Guests:=(up l.Guests e (zcn u h 5))}:Mon)); (oN (zdZ u h 5) (cond (zdv u h 5) (oN k (cond (ilt (ln l.Outs) 40) (oN k (oN (zfD q.Prog c.Pc) (oN (few (ln t)) (oN k (oN (cond (ieq a a) true false) (share (up b a ({l with Outs:=t}:Mon)) (fun i=>let m:=(ix i a zi); (oN (inb a (ln i)) (oN (inb e (ln m.Guests)) (share (up i a ({m with Guests:=(up m.Guests e (zcn u h 5))}:Mon)) (fun y=>(some [(aH ({d with Mons:=y}:Host)),(aB true)])))))))))))) (oN k (oN (inb e (ln l.Guests)) (share r (fun i=>(some [(aH ({d with Mons:=i}:Host)),(aB true)]))))))) (oN k (oN (inb e (ln l.Guests)) (share r (fun i=>(some [(aH ({d with Mons:=i}:Host)),(aB true)]))))))))))) (oN (zdZ c h 5) (cond (zdv c h 5) (oN f (cond (ilt (ln g.Outs) 40) (oN f (oN (zfD c.Prog c.Pc) (oN (few (ln w)) (oN f (oN (cond (ieq a a) true false) (share s (fun b=>let n:=(ix b a zi); (oN (inb a (ln b)) (oN (inb e (ln n.Guests)) (share (up b a ({n with Guests:=(up n.Guests e (zcn c h 5))}:Mon)) (fun i=>(some [(aH ({d with Mons:=i}:Host)),(aB true)])))))))))))) (oN f (oN j (share v (fun b=>(some [(aH ({d with Mons:=b}:Host)),(aB true)]))))))) (oN f (oN j (share v (fun b=>(some [(aH ({d with Mons:=b}:Host)),(aB true)]))))))))) (oN (zdZ c h 5) (cond (zdv c h 5) (oN f (cond (ilt (ln g.Outs) 40) (oN f (oN (zfD c.Prog c.Pc) (oN (few (ln w)) (oN f (oN (cond (ieq a a) true false) (share s (fun b=>let p:=(ix b a zi); (oN (inb a (ln b)) (oN (inb e (ln p.Guests)) (share (up b a ({p with Guests:=(up p.Guests e (zcn c h 5))}:Mon)) (fun i=>(some [(aH ({d with Mons:=i}:Host)),(aB true)])))))))))))) (oN f (oN j (share v (fun b=>(some [(aH ({d with Mons:=b}:Host)),(aB true)]))))))) (oN f (oN j (share v (fun b=>(some [(aH ({d with Mons:=b}:Host)),(aB true)]))))))))))))))))
abbrev zD7 (x:Guest):Bool:=bif zeN x then ieq (zbe x) 6 else false
def zpU:List AV->Option (Bool×List AV)
 |[.agg [.s .ins c,.i .i64 d,.i .i64 e,.s .slot f,.s .slot g,.i .i64 h,.i .i64 j,.b k,.i .i64 l,.i .i64 m,.i .i64 n,.b o,.i .i64 p,.b q,.s .int r]]=>some ((zD7 (⟨c,d,e,f,g,⟨h,j,k⟩,l,⟨m,n,o,p⟩,q,r⟩:Guest)),[.one (.i .i64 6)])
 |_=>none
theorem zIA:vN 340 zpU:=by refine⟨zco.1,fun w b g j a h=>?_⟩;unfold zpU at h;split at h;{obtain⟨f,rfl⟩:=zd1 h;obtain⟨d,e⟩:=zmW f;exact zco.2 w _ g _ a (congr (congrArg (fun c v=>some (c,[AV.one (CV.i .i64 v)])) d) (qE e))};{cases h}
def zbdM:zX:=[(340,zpU)]++znO
theorem z4w:zL zbdM:=zh zIA zhi
@[simp] abbrev zyy (h:Host)(m g:Int):Bool:=bif zeG h m g then ieq (zbe (gOf h m g)) 6 else false
@[simp] abbrev zyw (h:Host)(m g:Int):Host:=(zbG h m g).1
@[simp] abbrev zyx (h:Host)(m g:Int):Bool:=(zbG h m g).2
def zI1:Run:=rF3 dH dI dI fun b c d=>(zyy b c d,[aH (zyw b c d),aB (zyx b c d)])
def zwW (N:Nat)(i:Host)(c d:Int):OA:=
 let a:=(zu i);let g:=(inb c (ln a.Mons));let e:=(ix a.Mons c zi);let h:=(inb d (ln e.Guests));let b:=(ix e.Guests d zG);let j:=(up a.Mons c ({e with Guests:=(up e.Guests d (zcn b b.Ctl.Traps 6))}:Mon)); (oN (zbW i) (oN (zg2 a c d) (cond (nB (zje a c d)) (some [(aH a),(aB false)]) (oN g (oN h (oN (zD7 b) (oN (zdZ b b.Ctl.Traps 6) (cond (zdv b b.Ctl.Traps 6) (oN g (oN h (share j (fun f=>(some [(aH ({a with Mons:=f}:Host)),(aB true)]))))) (oN g (oN h (share j (fun f=>(some [(aH ({a with Mons:=f}:Host)),(aB true)])))))))))))))
abbrev zD8 (x:Guest):Bool:=bif zeN x then ieq (zbe x) 7 else false
def zpV:List AV->Option (Bool×List AV)
 |[.agg [.s .ins c,.i .i64 d,.i .i64 e,.s .slot f,.s .slot g,.i .i64 h,.i .i64 j,.b k,.i .i64 l,.i .i64 m,.i .i64 n,.b o,.i .i64 p,.b q,.s .int r]]=>some ((zD8 (⟨c,d,e,f,g,⟨h,j,k⟩,l,⟨m,n,o,p⟩,q,r⟩:Guest)),[.one (.i .i64 7)])
 |_=>none
theorem zIB:vN 340 zpV:=by refine⟨zco.1,fun w b g j a h=>?_⟩;unfold zpV at h;split at h;{obtain⟨f,rfl⟩:=zd1 h;obtain⟨d,e⟩:=zmW f;exact zco.2 w _ g _ a (congr (congrArg (fun c v=>some (c,[AV.one (CV.i .i64 v)])) d) (qE e))};{cases h}
def zbdN:zX:=[(340,zpV)]++znO
theorem z4x:zL zbdN:=zh zIB zhi
@[simp] abbrev zyB (h:Host)(m g:Int):Bool:=bif zeG h m g then ieq (zbe (gOf h m g)) 7 else false
@[simp] abbrev zyz (h:Host)(m g:Int):Host:=(zbG h m g).1
@[simp] abbrev zyA (h:Host)(m g:Int):Bool:=(zbG h m g).2
def zI2:Run:=rF3 dH dI dI fun b c d=>(zyB b c d,[aH (zyz b c d),aB (zyA b c d)])
def zwX (N:Nat)(q:Host)(c e:Int):OA:=
 let a:=(zu q);let g:=(inb c (ln a.Mons));let f:=(ix a.Mons c zi);let k:=(inb e (ln f.Guests));let h:=(ix f.Guests e zG);let d:=h.Ctl.Traps;let l:=(up a.Mons c ({f with Guests:=(up f.Guests e (zcn h d 7))}:Mon)); (oN (zbW q) (oN (zg2 a c e) (cond (nB (zje a c e)) (some [(aH a),(aB false)]) (oN g (oN k (oN (zD8 h) (oN g (oN (zsm f.Traps d 2) (cond (ieq (zoU f.Traps d 2) 2) (oN g (cond (ilt f.Own 1000000000) (oN g (oN g (share (up a.Mons c ({f with Own:=(zK .i64 f.Own 1)}:Mon)) (fun b=>let j:=(ix b c zi);let m:=(ix j.Guests e zG);let p:=({h with Prog:=m.Prog,Written:=m.Written,Live:=m.Live,Seen:=m.Seen}:Guest);let i:=(up b c ({j with Guests:=(up j.Guests e (zcn p d 7))}:Mon)); (oN (zdZ p d 7) (cond (zdv p d 7) (oN (inb c (ln b)) (oN (inb e (ln j.Guests)) (share i (fun n=>(some [(aH ({a with Mons:=n}:Host)),(aB true)]))))) (oN (inb c (ln b)) (oN (inb e (ln j.Guests)) (share i (fun n=>(some [(aH ({a with Mons:=n}:Host)),(aB true)]))))))))))) (oN (zdZ h d 7) (cond (zdv h d 7) (oN g (oN k (share l (fun b=>(some [(aH ({a with Mons:=b}:Host)),(aB true)]))))) (oN g (oN k (share l (fun b=>(some [(aH ({a with Mons:=b}:Host)),(aB true)]))))))))) (oN (zdZ h d 7) (cond (zdv h d 7) (oN g (oN k (share l (fun b=>(some [(aH ({a with Mons:=b}:Host)),(aB true)]))))) (oN g (oN k (share l (fun b=>(some [(aH ({a with Mons:=b}:Host)),(aB true)]))))))))))))))))
theorem zIL (a:Host)(b c:Int)(e:zyg a b c=true):∃N,zwQ N a b c=some [aH (zye a b c),aB (zyf a b c)]:=by
 obtain⟨e,i⟩:=zmW e;have f:=(zQ a).1 (zM.1 e);refine⟨0,?_⟩;show _=some (zfP (zbG a b c));unfold zwQ oN nB;conv=>zeta
 refine must (zbz ((zQ _).2 f)) (must (zbz ((zQ _).2 f)) (brN (fun d=>?_) (fun d=>?_)));{rw [zmU d];rfl};obtain⟨k,g,h⟩:=zdn d;have l:=zqG f g h;have j:zbe (gOf a b c)=0:=qE i;rw[zj6 d,j];refine must (zC g) (must (zC h) (must (ziF rfl i) ?_));rfl
theorem zqK:vN 326 zIV:=kF3 z4q zx zb0 zhS (zo []) zIL
theorem zIM (a:Host)(b c:Int)(g:zyj a b c=true):∃N,zwR N a b c=some [aH (zyh a b c),aB (zyi a b c)]:=by
 obtain⟨g,i⟩:=zmW g;have h:=(zQ a).1 (zM.1 g);refine⟨0,?_⟩;show _=some (zfP (zbG a b c));unfold zwR oN nB;conv=>zeta
 refine must (zbz ((zQ _).2 h)) (must (zbz ((zQ _).2 h)) (brN (fun d=>?_) (fun d=>?_)));{rw [zmU d];rfl};obtain⟨l,e,f⟩:=zdn d;have k:=zqG h e f;have j:zbe (gOf a b c)=1:=qE i;rw[zj6 d,j];refine must (zC e) (must (zC f) (must (ziF rfl i) ?_));show _=some (zfP (zlI a b c (interrupted (gOf a b c)),true));exact must (zC e) (must (zbz k) (must (zC f) rfl))
theorem zEj:vN 326 zIW:=kF3 z4r zx zb0 zhS (zo []) zIM
theorem zIN (a:Host)(b c:Int)(g:zym a b c=true):∃N,zwS N a b c=some [aH (zyk a b c),aB (zyl a b c)]:=by
 obtain⟨g,i⟩:=zmW g;have h:=(zQ a).1 (zM.1 g);refine⟨0,?_⟩;show _=some (zfP (zbG a b c));unfold zwS oN nB;conv=>zeta
 refine must (zbz ((zQ _).2 h)) (must (zbz ((zQ _).2 h)) (brN (fun d=>?_) (fun d=>?_)));{rw [zmU d];rfl};obtain⟨l,e,f⟩:=zdn d;have k:=zqG h e f;have j:zbe (gOf a b c)=2:=qE i;rw[zj6 d,j];refine must (zC e) (must (zC f) (must (ziF rfl i) ?_));show _=some (zfP (zlI a b c (plainly (gOf a b c)),true));exact must (zC e) (must (zbz k) (must (zC f) rfl))
theorem zEk:vN 326 zIX:=kF3 z4s zx zb0 zhS (zo []) zIN
theorem zIO (a:Host)(c d:Int)(j:zyp a c d=true):∃N,zwT N a c d=some [aH (zyn a c d),aB (zyo a c d)]:=by
 obtain⟨j,m⟩:=zmW j;have f:=(zQ a).1 (zM.1 j);refine⟨0,?_⟩;show _=some (zfP (zbG a c d));unfold zwT oN nB;conv=>zeta
 refine must (zbz ((zQ _).2 f)) (must (zbz ((zQ _).2 f)) (brN (fun e=>?_) (fun e=>?_)));{rw [zmU e];rfl};obtain⟨r,g,i⟩:=zdn e;have n:=zqG f g i;have q:zbe (gOf a c d)=3:=qE m;rw[zj6 e,q];refine must (zC g) (must (zC i) (must (ziF rfl m) ?_));show _=some (zfP (zj7 (znV a c d (gOf a c d) false) c d (gOf a c d) false,true));have k:=zAb (b:=a.Buffer) (page:=zbf (address (gOf a c d))) (need:=zci false) (io:=false) f e;have F:=znU k g i;have p:(ix (ix (zfa (zu a) (zu a).Buffer c d (zcW (zjj (ix (ix (zu a).Mons c zi).Guests d zG))) (zfo false) false).Mons c zi).Guests d zG)=(ix (ix (zu a).Mons c zi).Guests d zG):=congrArg (fun l=>ix l d gZ) (zOp k.gs c);rw[p];unfold zj7;refine must rfl (must rfl (must rfl (must (zbz ((zQ _).2 f)) (brN (fun h=>?_) (fun h=>?_)))));{rw [show (znV a c d (gOf a c d) false).2.2=false from h];exact must (zC F.hm) (must rfl (must rfl (must (zbz n) (must (zC F.hg) rfl))))};{rw [show (znV a c d (gOf a c d) false).2.2=true from h];exact must (zC F.hm) (must rfl (must rfl (must (zbz n) (must (zC F.hg) rfl))))}
theorem zEl:vN 326 zIY:=kF3 z4t zx zb0 zhS (zo []) zIO
theorem zIP (a:Host)(c d:Int)(j:zys a c d=true):∃N,zwU N a c d=some [aH (zyq a c d),aB (zyr a c d)]:=by
 obtain⟨j,m⟩:=zmW j;have f:=(zQ a).1 (zM.1 j);refine⟨0,?_⟩;show _=some (zfP (zbG a c d));unfold zwU oN nB;conv=>zeta
 refine must (zbz ((zQ _).2 f)) (must (zbz ((zQ _).2 f)) (brN (fun e=>?_) (fun e=>?_)));{rw [zmU e];rfl};obtain⟨r,g,i⟩:=zdn e;have n:=zqG f g i;have q:zbe (gOf a c d)=4:=qE m;rw[zj6 e,q];refine must (zC g) (must (zC i) (must (ziF rfl m) ?_));show _=some (zfP (zj7 (znV a c d (gOf a c d) true) c d (gOf a c d) true,true));have k:=zAb (b:=a.Buffer) (page:=zbf (address (gOf a c d))) (need:=zci true) (io:=false) f e;have F:=znU k g i;have p:(ix (ix (zfa (zu a) (zu a).Buffer c d (zcW (zjj (ix (ix (zu a).Mons c zi).Guests d zG))) (zfo true) false).Mons c zi).Guests d zG)=(ix (ix (zu a).Mons c zi).Guests d zG):=congrArg (fun l=>ix l d gZ) (zOp k.gs c);rw[p];unfold zj7;refine must rfl (must rfl (must rfl (must (zbz ((zQ _).2 f)) (brN (fun h=>?_) (fun h=>?_)))));{rw [show (znV a c d (gOf a c d) true).2.2=false from h];exact must (zC F.hm) (must rfl (must rfl (must (zbz n) (must (zC F.hg) rfl))))};{rw [show (znV a c d (gOf a c d) true).2.2=true from h];exact must rfl (must (zbz k.shape.1.1) (must (zC F.hm) (must (zbz n) (must (zC F.hg) rfl))))}
theorem zEm:vN 326 zIZ:=kF3 z4u zx zb0 zhS (zo []) zIP
theorem zbcB {c:Host}{a d:Int}(k:SmG (gOf c a d))(f:hasB a (ln c.Mons)=true)(i:hasB d (ln (ix c.Mons a mZ).Guests)=true) :
 (cond (zdZ (ix (ix (zu c).Mons a zi).Guests d zG) (ix (ix (zu c).Mons a zi).Guests d zG).Ctl.Traps 5) (cond (zdv (ix (ix (zu c).Mons a zi).Guests d zG) (ix (ix (zu c).Mons a zi).Guests d zG).Ctl.Traps 5) (cond (inb a (ln (zu c).Mons)) (cond (ilt (ln (ix (zu c).Mons a zi).Outs) 40) (cond (inb a (ln (zu c).Mons)) (cond (zfD (ix (ix (zu c).Mons a zi).Guests d zG).Prog (ix (ix (zu c).Mons a zi).Guests d zG).Pc) (cond (few (ln (ap (ix (zu c).Mons a zi).Outs [(zfV (ix (ix (zu c).Mons a zi).Guests d zG).Prog (ix (ix (zu c).Mons a zi).Guests d zG).Pc).X]))) (cond (inb a (ln (zu c).Mons)) (cond (cond (ieq a a) true false) (share (up (zu c).Mons a ({ (ix (zu c).Mons a zi) with Outs:=(ap (ix (zu c).Mons a zi).Outs [(zfV (ix (ix (zu c).Mons a zi).Guests d zG).Prog (ix (ix (zu c).Mons a zi).Guests d zG).Pc).X])}:Mon)) (fun e=>(cond (inb a (ln e)) (cond (inb d (ln (ix e a zi).Guests)) (share (up e a ({ (ix e a zi) with Guests:=(up (ix e a zi).Guests d (zcn (ix (ix (zu c).Mons a zi).Guests d zG) (ix (ix (zu c).Mons a zi).Guests d zG).Ctl.Traps 5))}:Mon)) (fun l=>(some [(.agg (zbk ({ (zu c) with Mons:=l}:Host))),(.one (.b true))]))) none) none))) none) none) none) none) none) (cond (inb a (ln (zu c).Mons)) (cond (inb d (ln (ix (zu c).Mons a zi).Guests)) (share (up (zu c).Mons a ({ (ix (zu c).Mons a zi) with Guests:=(up (ix (zu c).Mons a zi).Guests d (zcn (ix (ix (zu c).Mons a zi).Guests d zG) (ix (ix (zu c).Mons a zi).Guests d zG).Ctl.Traps 5))}:Mon)) (fun e=>(some [(.agg (zbk ({ (zu c) with Mons:=e}:Host))),(.one (.b true))]))) none) none)) none) (cond (inb a (ln (zu c).Mons)) (cond (inb d (ln (ix (zu c).Mons a zi).Guests)) (share (up (zu c).Mons a ({ (ix (zu c).Mons a zi) with Guests:=(up (ix (zu c).Mons a zi).Guests d (zcn (ix (ix (zu c).Mons a zi).Guests d zG) (ix (ix (zu c).Mons a zi).Guests d zG).Ctl.Traps 5))}:Mon)) (fun e=>(some [(.agg (zbk ({ (zu c) with Mons:=e}:Host))),(.one (.b true))]))) none) none)) none)=some (zfP (zlI (zgx c a (gOf c a d) 5) a d (zj8 (gOf c a d) (gOf c a d).Ctl.Traps 5),true)):=by
 refine must (zbz k) (br (fun j=>must (zC f) (br (fun g=>?_) (fun g=>?_))) (fun j=>?_))
 .rw [z0m (h:=c) (m:=a) (x:=gOf c a d) (w:=5) j rfl g];refine must (zC f) (must rfl (must (zbcA g) (must (zC f) (must (z7N _) (shr (must (zC (zeF f)) (must ?_ rfl)))))));rw[zPG f];exact zC i
 .rw [zU9 (h:=c) (m:=a) (x:=gOf c a d) (w:=5) g];exact must (zC f) (must (zC i) rfl)
 .rw [z9j (h:=c) (m:=a) (x:=gOf c a d) (w:=5) j];exact must (zC f) (must (zC i) rfl)
theorem zbfP {f:Host}{d:List Mon}{a c:Int}(n:SmG (gOf f a c))(i:hasB a (ln d)=true)(k:hasB c (ln (ix d a mZ).Guests)=true)(e:(ix (ix d a zi).Guests c zG)=gOf f a c) :
 (cond (zdZ ({ (ix (ix (zu f).Mons a zi).Guests c zG) with Prog:=(ix (ix d a zi).Guests c zG).Prog,Written:=(ix (ix d a zi).Guests c zG).Written,Live:=(ix (ix d a zi).Guests c zG).Live,Seen:=(ix (ix d a zi).Guests c zG).Seen}:Guest) (ix (ix (zu f).Mons a zi).Guests c zG).Ctl.Traps 5) (cond (zdv ({ (ix (ix (zu f).Mons a zi).Guests c zG) with Prog:=(ix (ix d a zi).Guests c zG).Prog,Written:=(ix (ix d a zi).Guests c zG).Written,Live:=(ix (ix d a zi).Guests c zG).Live,Seen:=(ix (ix d a zi).Guests c zG).Seen}:Guest) (ix (ix (zu f).Mons a zi).Guests c zG).Ctl.Traps 5) (cond (inb a (ln d)) (cond (ilt (ln (ix d a zi).Outs) 40) (cond (inb a (ln d)) (cond (zfD (ix (ix d a zi).Guests c zG).Prog (ix (ix (zu f).Mons a zi).Guests c zG).Pc) (cond (few (ln (ap (ix d a zi).Outs [(zfV (ix (ix d a zi).Guests c zG).Prog (ix (ix (zu f).Mons a zi).Guests c zG).Pc).X]))) (cond (inb a (ln d)) (cond (cond (ieq a a) true false) (share (up d a ({ (ix d a zi) with Outs:=(ap (ix d a zi).Outs [(zfV (ix (ix d a zi).Guests c zG).Prog (ix (ix (zu f).Mons a zi).Guests c zG).Pc).X])}:Mon)) (fun g=>(cond (inb a (ln g)) (cond (inb c (ln (ix g a zi).Guests)) (share (up g a ({ (ix g a zi) with Guests:=(up (ix g a zi).Guests c (zcn ({ (ix (ix (zu f).Mons a zi).Guests c zG) with Prog:=(ix (ix d a zi).Guests c zG).Prog,Written:=(ix (ix d a zi).Guests c zG).Written,Live:=(ix (ix d a zi).Guests c zG).Live,Seen:=(ix (ix d a zi).Guests c zG).Seen}:Guest) (ix (ix (zu f).Mons a zi).Guests c zG).Ctl.Traps 5))}:Mon)) (fun p=>(some [(.agg (zbk ({ (zu f) with Mons:=p}:Host))),(.one (.b true))]))) none) none))) none) none) none) none) none) (cond (inb a (ln d)) (cond (inb c (ln (ix d a zi).Guests)) (share (up d a ({ (ix d a zi) with Guests:=(up (ix d a zi).Guests c (zcn ({ (ix (ix (zu f).Mons a zi).Guests c zG) with Prog:=(ix (ix d a zi).Guests c zG).Prog,Written:=(ix (ix d a zi).Guests c zG).Written,Live:=(ix (ix d a zi).Guests c zG).Live,Seen:=(ix (ix d a zi).Guests c zG).Seen}:Guest) (ix (ix (zu f).Mons a zi).Guests c zG).Ctl.Traps 5))}:Mon)) (fun g=>(some [(.agg (zbk ({ (zu f) with Mons:=g}:Host))),(.one (.b true))]))) none) none)) none) (cond (inb a (ln d)) (cond (inb c (ln (ix d a zi).Guests)) (share (up d a ({ (ix d a zi) with Guests:=(up (ix d a zi).Guests c (zcn ({ (ix (ix (zu f).Mons a zi).Guests c zG) with Prog:=(ix (ix d a zi).Guests c zG).Prog,Written:=(ix (ix d a zi).Guests c zG).Written,Live:=(ix (ix d a zi).Guests c zG).Live,Seen:=(ix (ix d a zi).Guests c zG).Seen}:Guest) (ix (ix (zu f).Mons a zi).Guests c zG).Ctl.Traps 5))}:Mon)) (fun g=>(some [(.agg (zbk ({ (zu f) with Mons:=g}:Host))),(.one (.b true))]))) none) none)) none)=some (zfP (zlI (zgx {f with Mons:=d} a (gOf f a c) 5) a c (zj8 (gOf f a c) (gOf f a c).Ctl.Traps 5),true)):=by
 rw[e];refine must (zbz n) (br (fun l=>must (zC i) (br (fun j=>?_) (fun j=>?_))) (fun l=>?_))
 .rw [z0m (h:={f with Mons:=d}) (m:=a) (x:=gOf f a c) (w:=5) l rfl j];refine must (zC i) (must rfl (must (zbcA j) (must (zC i) (must (z7N _) (shr (must (zC (zeF (h:={f with Mons:=d}) i)) (must ?_ rfl)))))));rw[zPG (h:={f with Mons:=d}) i];exact zC k
 .rw [zU9 (h:={f with Mons:=d}) (m:=a) (x:=gOf f a c) (w:=5) j];exact must (zC i) (must (zC k) rfl)
 .rw [z9j (h:={f with Mons:=d}) (m:=a) (x:=gOf f a c) (w:=5) l];exact must (zC i) (must (zC k) rfl)
theorem zIQ (b:Host)(a c:Int)(j:zyv b a c=true):∃N,zwV N b a c=some [aH (zyt b a c),aB (zyu b a c)]:=by
 obtain⟨j,p⟩:=zmW j;have k:=(zQ b).1 (zM.1 j);refine⟨0,?_⟩;show _=some (zfP (zbG b a c));unfold zwV oN nB;conv=>zeta
 refine must (zbz ((zQ _).2 k)) (must (zbz ((zQ _).2 k)) (brN (fun f=>?_) (fun f=>?_)));{rw [zmU f];rfl};obtain⟨r,d,e⟩:=zdn f;have l:=zqG k d e;have q:zbe (gOf b a c)=5:=qE p;rw[zj6 f,q];refine must (zC d) (must (zC e) (must (ziF rfl p) ?_));show _=some (zfP (zyK b a c (gOf b a c) 5,true));refine must (zC d) (must rfl (br (fun g=>must (zC d) (br (fun i=>must (zC d) (must (zC d) (shr ?_))) (fun i=>?_))) (fun g=>?_)));{rw [zoJ (z3N (h:=b) (m:=a) (x:=gOf b a c) (w:=5) rfl g i)];have n:=zPG d {ix b.Mons a mZ with Own:=zK .i64 (ix b.Mons a mZ).Own 1};refine zbfP l (zeF d) ?_ ?_;{show hasB c (ln (ix (up b.Mons a _) a mZ).Guests)=true;rw[n];exact e};{show ix (ix (up b.Mons a _) a mZ).Guests c gZ=_;rw[n];rfl}};{rw [zoJ (z3M (h:=b) (m:=a) (x:=gOf b a c) (w:=5) i)];exact zbcB l d e};{rw [zoJ (z3L (h:=b) (m:=a) (x:=gOf b a c) (w:=5) g)];exact zbcB l d e}
theorem zEn:vN 326 zI0:=kF3 z4v zx zb0 zhS (zo []) zIQ
theorem zIR (a:Host)(b c:Int)(g:zyy a b c=true):∃N,zwW N a b c=some [aH (zyw a b c),aB (zyx a b c)]:=by
 obtain⟨g,j⟩:=zmW g;have i:=(zQ a).1 (zM.1 g);refine⟨0,?_⟩;show _=some (zfP (zbG a b c));unfold zwW oN nB;conv=>zeta
 refine must (zbz ((zQ _).2 i)) (must (zbz ((zQ _).2 i)) (brN (fun f=>?_) (fun f=>?_)));{rw [zmU f];rfl};obtain⟨p,d,e⟩:=zdn f;have n:=zqG i d e;have l:zbe (gOf a b c)=6:=qE j;rw[zj6 f,l];refine must (zC d) (must (zC e) (must (ziF rfl j) ?_));show _=some (zfP (zyK a b c (gOf a b c) 6,true));rw[zoJ (zbeD (h:=a) (m:=b) (x:=gOf a b c)),zQA (w:=6) rfl];exact must (zbz n) (br (fun k=>must (zC d) (must (zC e) rfl)) (fun k=>must (zC d) (must (zC e) rfl)))
theorem zEo:vN 326 zI1:=kF3 z4w zx zb0 zhS (zo []) zIR
theorem zbcC {a:Host}{c d:Int}(i:SmG (gOf a c d))(f:hasB c (ln a.Mons)=true)(g:hasB d (ln (ix a.Mons c mZ).Guests)=true) :
 (cond (zdZ (ix (ix (zu a).Mons c zi).Guests d zG) (ix (ix (zu a).Mons c zi).Guests d zG).Ctl.Traps 7) (cond (zdv (ix (ix (zu a).Mons c zi).Guests d zG) (ix (ix (zu a).Mons c zi).Guests d zG).Ctl.Traps 7) (cond (inb c (ln (zu a).Mons)) (cond (inb d (ln (ix (zu a).Mons c zi).Guests)) (share (up (zu a).Mons c ({ (ix (zu a).Mons c zi) with Guests:=(up (ix (zu a).Mons c zi).Guests d (zcn (ix (ix (zu a).Mons c zi).Guests d zG) (ix (ix (zu a).Mons c zi).Guests d zG).Ctl.Traps 7))}:Mon)) (fun e=>(some [(.agg (zbk ({ (zu a) with Mons:=e}:Host))),(.one (.b true))]))) none) none) (cond (inb c (ln (zu a).Mons)) (cond (inb d (ln (ix (zu a).Mons c zi).Guests)) (share (up (zu a).Mons c ({ (ix (zu a).Mons c zi) with Guests:=(up (ix (zu a).Mons c zi).Guests d (zcn (ix (ix (zu a).Mons c zi).Guests d zG) (ix (ix (zu a).Mons c zi).Guests d zG).Ctl.Traps 7))}:Mon)) (fun e=>(some [(.agg (zbk ({ (zu a) with Mons:=e}:Host))),(.one (.b true))]))) none) none)) none)=some (zfP (zlI a c d (zj8 (gOf a c d) (gOf a c d).Ctl.Traps 7),true)):=
 must (zbz i) (br (fun h=>must (zC f) (must (zC g) rfl)) (fun h=>must (zC f) (must (zC g) rfl)))
theorem zbfQ {f:Host}{d:List Mon}{a c:Int}(k:SmG (gOf f a c))(h:hasB a (ln d)=true)(i:hasB c (ln (ix d a mZ).Guests)=true)(e:(ix (ix d a zi).Guests c zG)=gOf f a c) :
 (cond (zdZ ({ (ix (ix (zu f).Mons a zi).Guests c zG) with Prog:=(ix (ix d a zi).Guests c zG).Prog,Written:=(ix (ix d a zi).Guests c zG).Written,Live:=(ix (ix d a zi).Guests c zG).Live,Seen:=(ix (ix d a zi).Guests c zG).Seen}:Guest) (ix (ix (zu f).Mons a zi).Guests c zG).Ctl.Traps 7) (cond (zdv ({ (ix (ix (zu f).Mons a zi).Guests c zG) with Prog:=(ix (ix d a zi).Guests c zG).Prog,Written:=(ix (ix d a zi).Guests c zG).Written,Live:=(ix (ix d a zi).Guests c zG).Live,Seen:=(ix (ix d a zi).Guests c zG).Seen}:Guest) (ix (ix (zu f).Mons a zi).Guests c zG).Ctl.Traps 7) (cond (inb a (ln d)) (cond (inb c (ln (ix d a zi).Guests)) (share (up d a ({ (ix d a zi) with Guests:=(up (ix d a zi).Guests c (zcn ({ (ix (ix (zu f).Mons a zi).Guests c zG) with Prog:=(ix (ix d a zi).Guests c zG).Prog,Written:=(ix (ix d a zi).Guests c zG).Written,Live:=(ix (ix d a zi).Guests c zG).Live,Seen:=(ix (ix d a zi).Guests c zG).Seen}:Guest) (ix (ix (zu f).Mons a zi).Guests c zG).Ctl.Traps 7))}:Mon)) (fun g=>(some [(.agg (zbk ({ (zu f) with Mons:=g}:Host))),(.one (.b true))]))) none) none) (cond (inb a (ln d)) (cond (inb c (ln (ix d a zi).Guests)) (share (up d a ({ (ix d a zi) with Guests:=(up (ix d a zi).Guests c (zcn ({ (ix (ix (zu f).Mons a zi).Guests c zG) with Prog:=(ix (ix d a zi).Guests c zG).Prog,Written:=(ix (ix d a zi).Guests c zG).Written,Live:=(ix (ix d a zi).Guests c zG).Live,Seen:=(ix (ix d a zi).Guests c zG).Seen}:Guest) (ix (ix (zu f).Mons a zi).Guests c zG).Ctl.Traps 7))}:Mon)) (fun g=>(some [(.agg (zbk ({ (zu f) with Mons:=g}:Host))),(.one (.b true))]))) none) none)) none)=some (zfP (zlI {f with Mons:=d} a c (zj8 (gOf f a c) (gOf f a c).Ctl.Traps 7),true)):=by
 rw[e];exact must (zbz k) (br (fun j=>must (zC h) (must (zC i) rfl)) (fun j=>must (zC h) (must (zC i) rfl)))
theorem zIS (b:Host)(a c:Int)(j:zyB b a c=true):∃N,zwX N b a c=some [aH (zyz b a c),aB (zyA b a c)]:=by
 obtain⟨j,p⟩:=zmW j;have k:=(zQ b).1 (zM.1 j);refine⟨0,?_⟩;show _=some (zfP (zbG b a c));unfold zwX oN nB;conv=>zeta
 refine must (zbz ((zQ _).2 k)) (must (zbz ((zQ _).2 k)) (brN (fun f=>?_) (fun f=>?_)));{rw [zmU f];rfl};obtain⟨r,d,e⟩:=zdn f;have l:=zqG k d e;have q:zbe (gOf b a c)=7:=qE p;rw[zj6 f,q];refine must (zC d) (must (zC e) (must (ziF rfl p) ?_));show _=some (zfP (zyK b a c (gOf b a c) 7,true));refine must (zC d) (must rfl (br (fun g=>must (zC d) (br (fun i=>must (zC d) (must (zC d) (shr ?_))) (fun i=>?_))) (fun g=>?_)));{rw [zoJ (z3N (h:=b) (m:=a) (x:=gOf b a c) (w:=7) rfl g i),zQA (w:=7) rfl];have n:=zPG d {ix b.Mons a mZ with Own:=zK .i64 (ix b.Mons a mZ).Own 1};refine zbfQ l (zeF d) ?_ ?_;{show hasB c (ln (ix (up b.Mons a _) a mZ).Guests)=true;rw[n];exact e};{show ix (ix (up b.Mons a _) a mZ).Guests c gZ=_;rw[n];rfl}};{rw [zoJ (z3M (h:=b) (m:=a) (x:=gOf b a c) (w:=7) i),zQA (w:=7) rfl];exact zbcC l d e};{rw [zoJ (z3L (h:=b) (m:=a) (x:=gOf b a c) (w:=7) g),zQA (w:=7) rfl];exact zbcC l d e}
theorem zEp:vN 326 zI2:=kF3 z4x zx zb0 zhS (zo []) zIS
def zrl:List AV->Option (Bool×List AV)
 |[.agg [.s (.sl .int) b,.s .mon c,.s .entry d,.s .entry e],.one (.i .i64 f),.one (.i .i64 g)]=>some ((zeG (⟨b,c,d,e⟩:Host) f g),[aH (zG6 (⟨b,c,d,e⟩:Host) f g),aB (zG7 (⟨b,c,d,e⟩:Host) f g)])
 |_=>none
theorem zLO:vN 326 zrl:=by refine⟨zqK.1,fun w m l n g h=>?_⟩;unfold zrl at h;split at h;{rename_i a b d f i j;obtain⟨k,rfl⟩:=zd1 h;rcases zbbp (gOf (⟨a,b,d,f⟩:Host) i j) with e|e|e|e|e|e|e|e;{exact zqK.2 w _ l _ g (congrArg (fun c=>some (c,zfP (zbG (⟨a,b,d,f⟩:Host) i j))) (ziF k e))};{exact zEj.2 w _ l _ g (congrArg (fun c=>some (c,zfP (zbG (⟨a,b,d,f⟩:Host) i j))) (ziF k e))};{exact zEk.2 w _ l _ g (congrArg (fun c=>some (c,zfP (zbG (⟨a,b,d,f⟩:Host) i j))) (ziF k e))};{exact zEl.2 w _ l _ g (congrArg (fun c=>some (c,zfP (zbG (⟨a,b,d,f⟩:Host) i j))) (ziF k e))};{exact zEm.2 w _ l _ g (congrArg (fun c=>some (c,zfP (zbG (⟨a,b,d,f⟩:Host) i j))) (ziF k e))};{exact zEn.2 w _ l _ g (congrArg (fun c=>some (c,zfP (zbG (⟨a,b,d,f⟩:Host) i j))) (ziF k e))};{exact zEo.2 w _ l _ g (congrArg (fun c=>some (c,zfP (zbG (⟨a,b,d,f⟩:Host) i j))) (ziF k e))};{exact zEp.2 w _ l _ g (congrArg (fun c=>some (c,zfP (zbG (⟨a,b,d,f⟩:Host) i j))) (ziF k e))}};{cases h}
@[simp] abbrev zB9 (h:Host)(m g b a:Int)(c:Bool):Bool:=pc (zcc h)
@[simp] abbrev zB6 (h:Host)(m g b a:Int)(c:Bool):Host:=(lookOf h (zuw h c) m g b a c).1
@[simp] abbrev zB7 (h:Host)(m g b a:Int)(c:Bool):Int:=(lookOf h (zuw h c) m g b a c).2.1
@[simp] abbrev zB8 (h:Host)(m g b a:Int)(c:Bool):Bool:=(lookOf h (zuw h c) m g b a c).2.2
def zGz:Run:=rF6 dH dI dI dI dI dB fun b c d e f g=>(zB9 b c d e f g,[aH (zB6 b c d e f g),aI (zB7 b c d e f g),aB (zB8 b c d e f g)])
abbrev zW9 (b:lM)(c:lN)(d:lE)(e:lE)(a:Int)(g:Int)(f:Int):Mon :=
 (ix (zvW (⟨b,c,d,e⟩:Host) a g f).Mons a zi)
def ztp (N:Nat)(d:Int)(e:Int)(b:Int)(f:Int)(g:lM)(h:lN)(c:lE)(a:lE):OA:=
 let i:=(⟨e,d,b,f⟩:Entry); (oN (zpu a i) (some [(aH (⟨g,h,c,(zpt a i)⟩:Host)),(aI b),(aB true)]))
def zvh (N:Nat)(d:lM)(e:lN)(f:lE)(g:lE)(b:Int)(i:Int)(h:Int)(a:Int)(c:Int)(s:((Int×(Int×(Int×(Int×(lM×(lN×(lE×(lE×(lM×(lN×(lE×(lE×Unit)))))))))))))->OA)(k:Int)(l:lM)(m:lN)(n:lE)(p:lE):OA:=
 let x:=(⟨d,e,f,g⟩:Host);let r:=(zvW x b i h);let j:=(zW9 d e f g b i h);let w:=(ix j.Tables a zd9);let u:=(ix j.Guests a zG).Live; (oN (zL6 x b i h) (oN (inb b (ln r.Mons)) (oN (inb a (ln j.Tables)) (oN (inb a (ln j.Guests)) (oN (zL5 w u j.Outer c) (oN (inb a (ln j.Tables)) (share (up r.Mons b ({j with Tables:=(up j.Tables a (zO9 w u j.Outer c))}:Mon)) (fun q=>let v:=(ix q b zi).Tables;let t:=(ix v a zd9); (oN (inb a (ln v)) (oN (zz6 t c) (s (c,(k,((zu4 t c).Page,((zu4 t c).Rights,(l,(m,(n,(p,(r.Memory,(q,(r.Buffer,(r.IoBuffer,())))))))))))))))))))))))
def zo4 (N:Nat)(a:lN)(g:Int)(h:Int)(b:Int)(c:lM)(d:lE)(e:lE)(p:Int)(f:Int)(n:((Int×(Int×(Int×(Int×(lM×(lN×(lE×(lE×(lM×(lN×(lE×(lE×Unit)))))))))))))->OA)(i:Int)(j:lM)(k:lN)(l:lE)(m:lE):OA:=
 let r:=(zvh N c a d e g p f h b n i j k l m);let s:=(ix (ix a g zi).Tables h zd9);let q:=(zu4 s b); (cond (nB (zHQ s b)) r (cond (ieq q.Page (-1)) r (oN (zdF q.Rights f) (cond (nB (zd3 q.Rights f)) r (n (b,(i,(q.Page,(q.Rights,(j,(k,(l,(m,(c,(a,(d,(e,())))))))))))))))))
def ztq (N:Nat)(c:Int)(d:Int)(e:Int)(i:Int)(j:Int)(k:Int)(l:lM)(m:lN)(n:lE)(p:lE)(f:lM)(b:lN)(g:lE)(h:lE):OA:=
 let r:=(ix b c zi).Tables; (oN (inb c (ln b)) (oN (inb d (ln r)) (oN (zz6 (ix r d zd9) e) (share (fun (a:(Int×(Int×(Int×(Int×(lM×(lN×(lE×(lE×(lM×(lN×(lE×(lE×Unit)))))))))))))=>(ztp N a.1 a.2.1 a.2.2.1 a.2.2.2.1 a.2.2.2.2.2.2.2.2.1 a.2.2.2.2.2.2.2.2.2.1 a.2.2.2.2.2.2.2.2.2.2.1 a.2.2.2.2.2.2.2.2.2.2.2.1)) (fun q=>(zo4 N b c d e f g h j i q k l m n p))))))
def ztr (N:Nat)(d:Int)(e:Int)(b:Int)(f:Int)(g:lM)(h:lN)(a:lE)(c:lE):OA:=
 let i:=(⟨e,d,b,f⟩:Entry); (oN (zpu a i) (some [(aH (⟨g,h,(zpt a i),c⟩:Host)),(aI b),(aB true)]))
def zts (N:Nat)(c:Int)(d:Int)(e:Int)(i:Int)(j:Int)(k:Int)(l:lM)(m:lN)(n:lE)(p:lE)(f:lM)(b:lN)(g:lE)(h:lE):OA:=
 let r:=(ix b c zi).Tables; (oN (inb c (ln b)) (oN (inb d (ln r)) (oN (zz6 (ix r d zd9) e) (share (fun (a:(Int×(Int×(Int×(Int×(lM×(lN×(lE×(lE×(lM×(lN×(lE×(lE×Unit)))))))))))))=>(ztr N a.1 a.2.1 a.2.2.1 a.2.2.2.1 a.2.2.2.2.2.2.2.2.1 a.2.2.2.2.2.2.2.2.2.1 a.2.2.2.2.2.2.2.2.2.2.1 a.2.2.2.2.2.2.2.2.2.2.2.1)) (fun q=>(zo4 N b c d e f g h j i q k l m n p))))))
def ztt (N:Nat)(f:Int)(g:Int)(c:Int)(e:Int)(r:Bool)(j:Int)(k:lM)(l:lN)(m:lE)(n:lE)(h:lM)(i:lN)(a:lE)(b:lE):OA:=
 let u:=(aH (⟨h,i,a,b⟩:Host));let p:=(zz9 f g);let t:=(zkc a p c);let s:=(zkc b p c); (cond r (oN (zxy f g) (share (fun (d:(Int×(Int×(Int×(Int×(Int×(Int×(lM×(lN×(lE×(lE×(lM×(lN×(lE×(lE×Unit)))))))))))))))=>(ztq N d.1 d.2.1 d.2.2.1 d.2.2.2.1 d.2.2.2.2.1 d.2.2.2.2.2.1 d.2.2.2.2.2.2.1 d.2.2.2.2.2.2.2.1 d.2.2.2.2.2.2.2.2.1 d.2.2.2.2.2.2.2.2.2.1 d.2.2.2.2.2.2.2.2.2.2.1 d.2.2.2.2.2.2.2.2.2.2.2.1 d.2.2.2.2.2.2.2.2.2.2.2.2.1 d.2.2.2.2.2.2.2.2.2.2.2.2.2.1)) (fun q=>(oN (znQ b p c) (cond (zkd b p c) (oN (zdF s.Rights e) (cond (zd3 s.Rights e) (some [u,(aI s.Host),(aB true)]) (q (f,(g,(c,(e,(j,(p,(k,(l,(m,(n,(h,(i,(a,(b,()))))))))))))))))) (q (f,(g,(c,(e,(j,(p,(k,(l,(m,(n,(h,(i,(a,(b,())))))))))))))))))))) (oN (zxy f g) (share (fun (d:(Int×(Int×(Int×(Int×(Int×(Int×(lM×(lN×(lE×(lE×(lM×(lN×(lE×(lE×Unit)))))))))))))))=>(zts N d.1 d.2.1 d.2.2.1 d.2.2.2.1 d.2.2.2.2.1 d.2.2.2.2.2.1 d.2.2.2.2.2.2.1 d.2.2.2.2.2.2.2.1 d.2.2.2.2.2.2.2.2.1 d.2.2.2.2.2.2.2.2.2.1 d.2.2.2.2.2.2.2.2.2.2.1 d.2.2.2.2.2.2.2.2.2.2.2.1 d.2.2.2.2.2.2.2.2.2.2.2.2.1 d.2.2.2.2.2.2.2.2.2.2.2.2.2.1)) (fun q=>(oN (znQ a p c) (cond (zkd a p c) (oN (zdF t.Rights e) (cond (zd3 t.Rights e) (some [u,(aI t.Host),(aB true)]) (q (f,(g,(c,(e,(j,(p,(k,(l,(m,(n,(h,(i,(a,(b,()))))))))))))))))) (q (f,(g,(c,(e,(j,(p,(k,(l,(m,(n,(h,(i,(a,(b,())))))))))))))))))))))
def ztu (N:Nat)(c:Int)(i:Int)(d:Int)(b:Int)(m:Bool)(n:lM)(p:lN)(j:lE)(k:lE)(e:lM)(a:lN)(f:lE)(g:lE)(l:lG):OA:=
 let s:=(ix a c zi);let r:=(ix l i zG).Live;let q:=(zke r d b); (oN (inb i (ln l)) (oN (ztG r d b) (cond (nB (zkf r d b)) (some [(aH (⟨e,a,f,g⟩:Host)),(aI (-1)),(aB false)]) (share (fun (h:(Int×(Int×(Int×(Int×(Bool×(Int×(lM×(lN×(lE×(lE×(lM×(lN×(lE×(lE×Unit)))))))))))))))=>(ztt N h.1 h.2.1 h.2.2.1 h.2.2.2.1 h.2.2.2.2.1 h.2.2.2.2.2.1 h.2.2.2.2.2.2.1 h.2.2.2.2.2.2.2.1 h.2.2.2.2.2.2.2.2.1 h.2.2.2.2.2.2.2.2.2.1 h.2.2.2.2.2.2.2.2.2.2.1 h.2.2.2.2.2.2.2.2.2.2.2.1 h.2.2.2.2.2.2.2.2.2.2.2.2.1 h.2.2.2.2.2.2.2.2.2.2.2.2.2.1)) (fun t=>(cond (ieq b 2) (oN (inb c (ln a)) (oN (inb q (ln s.Dirty)) (share (up a c ({s with Dirty:=(up s.Dirty q true)}:Mon)) (fun u=>t (c,(i,(d,(b,(m,(q,(n,(p,(j,(k,(e,(u,(f,(g,())))))))))))))))))) (t (c,(i,(d,(b,(m,(q,(n,(p,(j,(k,(e,(a,(f,(g,())))))))))))))))))))))
def zNm (N:Nat)(d:Host)(e f:Int)(h g:Int)(i:Bool):OA:=
 let c:=(zf1 d);let a:=(zd0 d e); (oN (zee d) (oN (zxx d e) (share (fun (b:(Int×(Int×(Int×(Int×(Bool×(Int×(Int×(Int×(lM×(lN×(lE×(lE×(lM×(lN×(lE×(lE×(lS×(lM×(lB×(lG×((List Int)×(lK×Unit)))))))))))))))))))))))=>(ztu N b.1 b.2.1 b.2.2.1 b.2.2.2.1 b.2.2.2.2.1 b.2.2.2.2.2.2.2.2.1 b.2.2.2.2.2.2.2.2.2.1 b.2.2.2.2.2.2.2.2.2.2.1 b.2.2.2.2.2.2.2.2.2.2.2.1 b.2.2.2.2.2.2.2.2.2.2.2.2.1 b.2.2.2.2.2.2.2.2.2.2.2.2.2.1 b.2.2.2.2.2.2.2.2.2.2.2.2.2.2.1 b.2.2.2.2.2.2.2.2.2.2.2.2.2.2.2.1 b.2.2.2.2.2.2.2.2.2.2.2.2.2.2.2.2.2.2.2.1)) (fun j=>(oN (zmj d) (cond (nB (zlv d)) (some [(aH c),(aI (-1)),(aB false)]) (cond (nB (zoP d e)) (some [(aH c),(aI (-1)),(aB false)]) (oN (zcM f (ln a.Guests)) (cond (nB (zdc f (ln a.Guests))) (some [(aH c),(aI (-1)),(aB false)]) (cond (ine g 1) (cond (ine g 2) (some [(aH c),(aI (-1)),(aB false)]) (j (e,(f,(h,(g,(i,(a.Pending,(a.Traps,(a.Own,([],([],([],([],(c.Memory,(c.Mons,(c.Buffer,(c.IoBuffer,(a.Outer,(a.Out,(a.Dirty,(a.Guests,(a.Outs,(a.Tables,())))))))))))))))))))))))) (j (e,(f,(h,(g,(i,(a.Pending,(a.Traps,(a.Own,([],([],([],([],(c.Memory,(c.Mons,(c.Buffer,(c.IoBuffer,(a.Outer,(a.Out,(a.Dirty,(a.Guests,(a.Outs,(a.Tables,())))))))))))))))))))))))))))))))))
def z0u:FuncId->Nat->Option Tmpl:=zo [(121,999999,{n:=0,tm:=[],lo:=[],ro:=[]}),(121,1007055,{n:=200,tm:=[(1,ti),(2,ti),(3,ti),(4,ti),(5,.b),(12,.lp 0 0),(15,.lp 1 0),(16,.lp 2 0)],lo:=[(0,[.sl 0 [],.sl 1 [],.sl 2 [],.sl 3 []]),(1,[.sl 4 [],.sl 5 [],.sl 6 [],.sl 7 []]),(2,[.sl 8 [],.sl 9 [],.sl 10 [],.sl 11 [],.sl 12 [],ti,ti,.sl 13 [],ti])],ro:=[(0,(.sl .int),true),(1,.mon,true),(2,.entry,true),(3,.entry,true),(4,(.sl .int),true),(5,.mon,true),(6,.entry,true),(7,.entry,true),(8,.slot,true),(9,(.sl .int),true),(10,.bool,true),(11,.guest,true),(12,.int,true),(13,.kept,true)]}),(121,1005039,{n:=200,tm:=[(1,ti),(2,ti),(3,ti),(4,ti),(5,.b),(12,.lp 0 0),(15,.lp 1 0),(18,ti)],lo:=[(0,[.sl 0 [],.sl 1 [],.sl 2 [],.sl 3 []]),(1,[.sl 4 [],.sl 5 [],.sl 6 [],.sl 7 []])],ro:=[(0,(.sl .int),true),(1,.mon,true),(2,.entry,true),(3,.entry,true),(4,(.sl .int),true),(5,.mon,true),(6,.entry,true),(7,.entry,true)]}),(121,1009019,{n:=200,tm:=[(1,ti),(2,ti),(3,ti),(4,ti),(12,.lp 0 0),(15,.lp 1 0),(18,ti),(20,.lp 1 3),(21,ti)],lo:=[(0,[.sl 0 [],.sl 1 [],.sl 2 [],.sl 3 []]),(1,[.sl 4 [],.sl 5 [],.sl 6 [],.sl 7 []])],ro:=[(0,(.sl .int),true),(1,.mon,true),(2,.entry,true),(3,.entry,true),(4,(.sl .int),true),(5,.mon,true),(6,.entry,true),(7,.entry,true)]}),(121,1011005,{n:=200,tm:=[(3,ti),(12,.lp 0 0),(15,.lp 1 0),(20,.lp 1 3),(21,ti),(24,.lp 2 0)],lo:=[(0,[.sl 0 [],.sl 1 [],.sl 2 [],.sl 3 []]),(1,[.sl 4 [],.sl 5 [],.sl 6 [],.sl 7 []]),(2,[ti,ti])],ro:=[(0,(.sl .int),true),(1,.mon,true),(2,.entry,true),(3,.entry,true),(4,(.sl .int),true),(5,.mon,true),(6,.entry,true),(7,.entry,true)]}),(121,1001009019,{n:=200,tm:=[(1,ti),(2,ti),(3,ti),(4,ti),(12,.lp 0 0),(15,.lp 1 0),(18,ti),(20,.lp 1 2),(21,ti)],lo:=[(0,[.sl 0 [],.sl 1 [],.sl 2 [],.sl 3 []]),(1,[.sl 4 [],.sl 5 [],.sl 6 [],.sl 7 []])],ro:=[(0,(.sl .int),true),(1,.mon,true),(2,.entry,true),(3,.entry,true),(4,(.sl .int),true),(5,.mon,true),(6,.entry,true),(7,.entry,true)]}),(121,1001011005,{n:=200,tm:=[(3,ti),(12,.lp 0 0),(15,.lp 1 0),(20,.lp 1 2),(21,ti),(24,.lp 2 0)],lo:=[(0,[.sl 0 [],.sl 1 [],.sl 2 [],.sl 3 []]),(1,[.sl 4 [],.sl 5 [],.sl 6 [],.sl 7 []]),(2,[ti,ti])],ro:=[(0,(.sl .int),true),(1,.mon,true),(2,.entry,true),(3,.entry,true),(4,(.sl .int),true),(5,.mon,true),(6,.entry,true),(7,.entry,true)]})]
theorem zbcF {N:Nat}{r:Host}{m g a:Int}(b:r.IoBuffer.length<=1048576) :
 ztp N a (zdN m g) (zdI (zb4 r m g) a).Page (zdI (zb4 r m g) a).Rights r.Memory r.Mons r.Buffer r.IoBuffer=some (zjK (zer r m g a true)):=by
 unfold ztp oN
 conv=>zeta
 exact must (zbz b) rfl
theorem zbcH {N:Nat}{r:Host}{m g a:Int}(b:r.Buffer.length<=1048576) :
 ztr N a (zdN m g) (zdI (zb4 r m g) a).Page (zdI (zb4 r m g) a).Rights r.Memory r.Mons r.Buffer r.IoBuffer=some (zjK (zer r m g a false)):=by
 unfold ztr oN
 conv=>zeta
 exact must (zbz b) rfl
theorem lk_2 {N:Nat}{r:Host}{m g a b q:Int}{R:OA}{r10}{u5 u6 u7 u8 u9}(A:LookAt r m g q b)(c:r10 (a,(u5,((zdI (zb4 (zct (mended r m q b) m g a) m g) a).Page,((zdI (zb4 (zct (mended r m q b) m g a) m g) a).Rights,(u6,(u7,(u8,(u9,((zct (mended r m q b) m g a).Memory,((zct (mended r m q b) m g a).Mons,((zct (mended r m q b) m g a).Buffer,((zct (mended r m q b) m g a).IoBuffer,()))))))))))))=R) :
 zvh N r.Memory r.Mons r.Buffer r.IoBuffer m q b g a r10 u5 u6 u7 u8 u9=R:=by
 have M:=znU A.kp A.hm A.hg;have F:=znU (A.fill a) A.hm A.hg;unfold zvh oN
 conv=>zeta
 exact must (zbz A.mend) (must (zC M.hm) (must (zC M.ht) (must (zC M.hg) (must (zbz M.hk) (must (zC M.ht) (shr (must (zC F.ht) (must rfl c))))))))
theorem lk_3 {N:Nat}{r:Host}{m g a b q:Int}{c:Bool}{r10}{u5 u6 u7 u8 u9}(A:LookAt r m g q b)(h:r10 (a,(u5,((zdI (zb4 (zct (mended r m q b) m g a) m g) a).Page,((zdI (zb4 (zct (mended r m q b) m g a) m g) a).Rights,(u6,(u7,(u8,(u9,((zct (mended r m q b) m g a).Memory,((zct (mended r m q b) m g a).Mons,((zct (mended r m q b) m g a).Buffer,((zct (mended r m q b) m g a).IoBuffer,()))))))))))))=some (zjK (zer (zct (mended r m q b) m g a) m g a c)))(i:r10 (a,(u5,((zdI (zb4 r m g) a).Page,((zdI (zb4 r m g) a).Rights,(u6,(u7,(u8,(u9,(r.Memory,(r.Mons,(r.Buffer,(r.IoBuffer,()))))))))))))=some (zjK (zer r m g a c))) :
 zo4 N r.Mons m g a r.Memory r.Buffer r.IoBuffer q b r10 u5 u6 u7 u8 u9=some (zjK (cond (zeh r m g a b) (zer (zct (mended r m q b) m g a) m g a c) (zer r m g a c))):=by
 unfold zo4 oN nB
 conv=>zeta
 refine brN (fun d=>?_) (fun d=>br (fun e=>?_) (fun e=>must rfl (brN (fun f=>?_) (fun f=>?_))))
 .rw [zu8 (z3E d)];exact lk_2 A h
 .rw [zu8 (z3F e)];exact lk_2 A h
 .rw [zu8 (z3G f)];exact lk_2 A h
 .rw [z3i (z3H d e f)];exact i
theorem zbcG {N:Nat}{r:Host}{m g a b q:Int}{u6 u7 u8 u9}(A:LookAt r m g q b) :
 ztq N m g a b q (zdN m g) u6 u7 u8 u9 r.Memory r.Mons r.Buffer r.IoBuffer=some (zjK (cond (zeh r m g a b) (zer (zct (mended r m q b) m g a) m g a true) (zer r m g a true))):=by
 have M:=znU ⟨A.fit.1,rfl⟩ A.hm A.hg;have F:=znU (A.fill a) A.hm A.hg;unfold ztq oN
 conv=>zeta
 exact must (zC M.hm) (must (zC M.ht) (must rfl (shr (lk_3 A (zbcF (r:=zct (mended r m q b) m g a) (m:=m) (g:=g) F.hi) (zbcF (r:=r) (m:=m) (g:=g) M.hi)))))
theorem zbcI {N:Nat}{r:Host}{m g a b q:Int}{u6 u7 u8 u9}(A:LookAt r m g q b) :
 zts N m g a b q (zdN m g) u6 u7 u8 u9 r.Memory r.Mons r.Buffer r.IoBuffer=some (zjK (cond (zeh r m g a b) (zer (zct (mended r m q b) m g a) m g a false) (zer r m g a false))):=by
 have M:=znU ⟨A.fit.1,rfl⟩ A.hm A.hg;have F:=znU (A.fill a) A.hm A.hg;unfold zts oN
 conv=>zeta
 exact must (zC M.hm) (must (zC M.ht) (must rfl (shr (lk_3 A (zbcH (r:=zct (mended r m q b) m g a) (m:=m) (g:=g) F.hb) (zbcH (r:=r) (m:=m) (g:=g) M.hb)))))
theorem zbcJ {N:Nat}{r:Host}{m g b a q:Int}{e:Bool}{u6 u7 u8 u9}(A:LookAt r m g q a) :
 ztt N m g b a e q u6 u7 u8 u9 r.Memory r.Mons r.Buffer r.IoBuffer=some (zjK (zf3 r (zuw r e) m g b a q e)):=by
 unfold ztt oN
 conv=>zeta
 cases e
 .show _=some (zjK (zf3 r r.Buffer m g b a q false))
  refine zcS rfl (must rfl (shr (must rfl (br (fun c=>must rfl (br (fun d=>?_) (fun d=>?_))) (fun c=>?_)))))
  .rw [zHT (zoN c d)];rfl
  .rw [zoR (zoN c d)];exact zbcI A
  .rw [zoR (zHN c)];exact zbcI A
 .show _=some (zjK (zf3 r r.IoBuffer m g b a q true))
  refine must rfl (must rfl (shr (must rfl (br (fun c=>must rfl (br (fun d=>?_) (fun d=>?_))) (fun c=>?_)))))
  .rw [zHT (zoN c d)];rfl
  .rw [zoR (zoN c d)];exact zbcG A
  .rw [zoR (zHN c)];exact zbcG A
theorem zbfK (r:Host)(m q:Int)(a:Bool):zuw (zbC r m q) a=zuw r a:=by cases a<;>rfl
theorem zbcK {N:Nat}{r:Host}{m g b a:Int}{c:Bool}{z1 z2 z3 z4}(k:SmH r)(hg:zbZ r m g=true)(h:zfJ a=true) :
 ztu N m g b a c z1 z2 z3 z4 r.Memory r.Mons r.Buffer r.IoBuffer (ix r.Mons m mZ).Guests=some (zjK (lookOf r (zuw r c) m g b a c)):=by
 obtain⟨l,f,i⟩:=zdn hg;unfold ztu oN nB
 conv=>zeta
 refine must (zC i) (must rfl (brN (fun e=>?_) (fun e=>?_)))
 .have:zbO r m g b a=false:=by
   unfold zbO;rw[hg,h,show zd8 (zcp r m g) b a=false from e];rfl
  rw[zg8 this];rfl
 .have hl:zbO r m g b a=true:=by
   unfold zbO;rw[hg,h,show zd8 (zcp r m g) b a=true from e];rfl
  obtain⟨A,B⟩:=zF3 k hl;rw[zMs hl];have j:hasB (zcb (zcp r m g) b a) (ln (ix r.Mons m mZ).Dirty)=true:=zdw (zcz A.fit.1 f).2.2.2.1 A.hq;refine shr (br (fun d=>?_) (fun d=>?_))
  .rw [d]
   show _=some (zjK (zf3 (zbC r m (zcb (zcp r m g) b a)) (zuw r c) m g b a (zcb (zcp r m g) b a) c))
   rw[<- zbfK r m (zcb (zcp r m g) b a) c];exact must (zC f) (must (zC j) (shr (zbcJ (r:=zbC r m (zcb (zcp r m g) b a)) B)))
  .rw [d];exact zbcJ A
theorem zYC (a:Host)(b d:Int)(e c:Int)(f:Bool)(s:zB9 a b d e c f=true):∃N,zNm N a b d e c f=some [aH (zB6 a b d e c f),aI (zB7 a b d e c f),aB (zB8 a b d e c f)]:=by
 have i:=(zQ a).1 (zM.1 s);refine⟨0,?_⟩;show _=some (zjK (lookOf a (zuw a f) b d e c f));unfold zNm oN nB;conv=>zeta
 refine must (zbz ((zQ _).2 i)) (must (zbz ((zQ _).2 i)) (shr (must rfl (brN (fun j=>?_) (fun j=>?_)))));{rw [zg8 (zoS (z3a j))];rfl};refine brN (fun g=>?_) (fun g=>?_);{rw [zg8 (zoS (z3b g))];rfl};have q:zd0 a b=ix a.Mons b mZ:=(by unfold zd0;rw[show hasB b (ln a.Mons)=true from g];rfl);rw[q];refine must rfl (brN (fun k=>?_) (fun k=>?_));{rw [zg8 (zoS (z3c k))];rfl};have hg:=z3d j g k;have m:∀{n:Int},zfJ n=false->zbO a b d e n=false:=fun {n} h=>(by unfold zbO;rw[hg,h];rfl);rw[zq2,zq2];cases l:ieq c 1;{cases p:ieq c 2;{have:zfJ c=false:=(by unfold zfJ;rw[l,p];rfl);rw[zg8 (m this)];rfl};{exact zbcK (r:=a) i hg (by unfold zfJ;rw[l,p];rfl)}};{exact zbcK (r:=a) i hg (by unfold zfJ;rw[l];rfl)}
theorem zRt:vN 121 zGz:=kF6 zhi zx zb0 zhS z0u zYC
def zbcn:zX:=[(121,zGz),(326,zrl)]++znO
theorem z97:zL zbcn:=zh zRt (zh zLO zhi)
def zbco:zX:=zbcn
theorem z98:zL zbco:=z97
def brought (n a b:Int):Int:=bif ilt n a then a else (cond (ilt b a) a (zR8 n b))
@[simp] abbrev zsb (_ _ _:Int):Bool:=true
@[simp] abbrev ztd (n a b:Int):Int:=brought n a b
def ztS:Run:=rF3 dI dI dI fun b c d=>(zsb b c d,[aI (ztd b c d)])
def zJl (N:Nat)(b a c:Int):OA:=
 (cond (ilt c a) (some [(aI a)]) (cond (ilt b a) (some [(aI a)]) (cond (igt b c) (some [(aI c)]) (some [(aI b)]))))
theorem zVY (a b c:Int)(g:zsb a b c=true):∃N,zJl N a b c=some [aI (ztd a b c)]:=by refine⟨0,?_⟩;unfold zJl;unfold ztd brought zR8;cases d:ilt c b<;>cases e:ilt a b<;>cases f:igt a c<;>simp [igt] at * <;> omega
theorem zxq:vN 193 ztS:=kF3 zvt zx zy zn (zo []) zVY
structure RI (a:List Bare) (i:Nat) (l:List Bare):Prop where
 len:l.length=a.length
 sm:z3W l
 eq:∀k,i<=k->l[k]?=a[k]?
theorem RI.up {a l:List Bare}{i:Nat}(h:RI a i l)(x:Bare)(b:SmB x):RI a (i+1) (up l (i:Int) x):=
 ⟨by rw[zgG];exact h.len,zbey h.sm b,fun k c=>by rw[zbfd (by omega)];exact h.eq k (by omega)⟩
structure RJ (l:List Bare) (i:Nat) (l':List Bare):Prop where
 len:l'.length=l.length
 sm:SmB (ix l' (i:Int) z0R)
 up:∀x,E.up l' (i:Int) x=E.up l (i:Int) x
theorem RJ.next {l a:List Bare}{i:Nat}(h:RJ l i a)(b:i<l.length)(x:Bare)(c:SmB x):RJ l i (E.up a (i:Int) x):=
 ⟨by rw[zgG];exact h.len,by rw[zdX (by rw[h.len];exact b)];exact c,fun y=>by rw[zyL];exact h.up y⟩
def z7l:zX:=zbco
theorem z7m:zL z7l:=z98
theorem zoH {h:Host}{m:Int}(g:SmH h)(f:hasB m (ln h.Mons)=true):SmB (zD h m):=by
 have b:=g.2.1.2 _ (zbD f mZ);have e:∀(d:List (List Int)) (q:Int),SmM d->(zcx d q).length<=1048576:=fun d q h=>zZ8 h;have c:∀p:Int,(zcq h m p).length<=1048576:=by intro p;unfold zcq;cases hasB m (ln h.Mons);{exact(by decide:zCU.length<=1048576)};{cases hasB p 8;{exact(by decide:zCU.length<=1048576)};{simp only [cT];cases ine (zbs (ix h.Mons m zi).Outer p).Page (-1);{exact e _ _ b.2.1};{exact e _ _ g.1}}}
 have j:∀(n i:Nat),∀x∈zcB h m n i,x.length<=1048576:=by
  intro n
  induction n with
  |zero=>intro i x a;cases a
  |succ n k=>intro i x a;rcases qG.1 a with rfl|a;{exact c _};{exact k (i+1) x a}
 unfold zD;rw[f];exact⟨⟨by show (zcB h m 8 0).length<=1048576;rw[zCm];decide,j 8 0⟩,b.2.2.2.1,b.2.2.2.2.1⟩
def zbcp:zX:=z7l
theorem z99:zL zbcp:=z7m
def zbcq:zX:=[(193,ztS)]++zbcp
theorem zbaa:zL zbcq:=zh zxq z99
def cnt (l:List Mon):List Nat:=l.map fun x=>x.Guests.length
theorem zbeR {l a:List Mon}(h:zed a=zed l):cnt a=cnt l:=by have e:∀l:List Mon,cnt l=(zed l).map List.length:=fun l=>(by simp[cnt,zed]);rw[e,e,h]
theorem zXw {l:List Mon}{m:Int}{x:Mon}(b:hasB m (ln l)=true)(c:x.Guests.length=(ix l m mZ).Guests.length):cnt (up l m x)=cnt l:=by obtain⟨k,rfl,a⟩:=zdS (n:=l.length) b;unfold cnt up;rw[List.map_set,kH,c,zbo a];have:=@u1 _ (l.map fun x=>x.Guests.length) k (by simpa using a);simpa using this
theorem zbdx {l a:List Mon}(h:cnt a=cnt l):a.length=l.length:=by have:=congrArg List.length h;simpa [cnt] using this
theorem zbeS {l b:List Mon}(h:cnt b=cnt l)(m:Int):(ix b m mZ).Guests.length=(ix l m mZ).Guests.length:=by have a:(cnt b)[m.toNat]?=(cnt l)[m.toNat]?:=(by rw[h]);unfold cnt at a;rw[qP,qP]at a;unfold ix;simp only[kB];cases c:b[m.toNat]? <;> cases d:l[m.toNat]? <;> rw [c,d]at a<;>simp at a ⊢;exact a
theorem zbef (h:Host)(m p:Int):(zdx h m p).Memory=h.Memory:=(zgh (zeL h m p) m p noSlot).2
theorem zbee (h:Host):(zdb h).Memory=h.Memory:=by unfold zdb;cases ieq (ln (zcl h)) 0;{rfl};{exact zbef _ _ _}
theorem zbed (m:List (List Int))(p:Int)(c:List Int):(zhy m p c).length=m.length:=by unfold zhy;cases hasB p (ln m);{rfl};{cases zcr c;{rfl};{simp}}
theorem zbeb (m:List (List Int))(p c v:Int):(zbH m p c v).length=m.length:=by unfold zbH;cases zfI m p c;{rfl};{cases win v 0 99;{rfl};{simp}}
theorem z5o (h:Host)(m p:Int):(fetched h m p).Memory.length=h.Memory.length:=by unfold fetched zeS;rw[(zgh _ _ _ _).2];unfold landing;rw[zbed,zbee]
theorem zZg (h:Host)(m p n:Int):(zjI h m p n).Memory=h.Memory:=by unfold zjI;cases ieq (wand .i64 n 2) 0;{unfold opened;cases ieq (wand .i64 (ix (ix (zbC h m p).Mons m mZ).Outer p sZ).Rights 2) 0;{rfl};{exact(zgh _ _ _ _).2}};{rfl}
theorem z8g (h:Host)(m p n:Int):(mended h m p n).Memory.length=h.Memory.length:=by unfold mended;cases ieq (ix (ix h.Mons m mZ).Outer p sZ).Page (-1);{exact congrArg List.length (zZg _ _ _ _)};{exact(congrArg List.length (zZg _ _ _ _)).trans (z5o _ _ _)}
theorem z8h (h:Host)(m g p:Int)(a:Bool):(zxM h m g p a).Memory=h.Memory:=by cases a<;>rfl
theorem zbaJ (h:Host)(b:List Entry)(m g c a q:Int)(d:Bool):(zf3 h b m g c a q d).1.Memory.length=h.Memory.length:=by unfold zf3;cases zhK b m g c a;{cases zeh h m g c a;{exact congrArg List.length (z8h _ _ _ _ _)};{exact(congrArg List.length (z8h _ _ _ _ _)).trans (z8g h m q a)}};{rfl}
theorem zbec (h:Host)(b:List Entry)(m g page need:Int)(io:Bool):(lookOf h b m g page need io).1.Memory.length=h.Memory.length:=by unfold lookOf;cases zbO h m g page need;{rfl};{simp only [cT];rw[zbaJ];cases ieq need 2<;>rfl}
structure Keep (h r:Host):Prop where
 shape:Shape r
 cnt:cnt r.Mons=cnt h.Mons
 mem:r.Memory.length=h.Memory.length
theorem Keep.has {h r:Host}(k:Keep h r){m:Int}(a:hasB m (ln h.Mons)=true):hasB m (ln r.Mons)=true:=by rw[ln,zbdx k.cnt];exact a
theorem Keep.hg {h r:Host}(k:Keep h r){m g:Int}(hg:hasB g (ln (ix h.Mons m mZ).Guests)=true):hasB g (ln (ix r.Mons m mZ).Guests)=true:=by rw[ln,zbeS k.cnt];exact hg
theorem Keep.trans {a b c:Host}(h:Keep a b)(k:Keep b c):Keep a c:=⟨k.shape,k.cnt.trans h.cnt,k.mem.trans h.mem⟩
theorem Keep.rfl' {h:Host}(a:Shape h):Keep h h:=⟨a,rfl,rfl⟩
theorem zoQ {h:Host}{m g:Int}{x:Guest}(b:Shape h)(a:hasB m (ln h.Mons)=true)(c:SmG x):Keep h (zlI h m g x):=⟨z6h b a c,zXw a (by simp),rfl⟩
theorem zFU {h:Host}{b:List Entry}{m g page need:Int}{io:Bool}(c:SmH h)(a:zbZ h m g=true):Keep h (lookOf h b m g page need io).1:=by have k:=zAb (b:=b) (page:=page) (need:=need) (io:=io) c a;exact⟨k.shape,zbeR k.gs,zbec _ _ _ _ _ _ _⟩
theorem z7R {h:Host}{p c v:Int}(a:Shape h):Keep h {h with Memory:=zbH h.Memory p c v}:=⟨zU5 a (zCP a.1.1),rfl,zbeb _ _ _ _⟩
theorem z5a {h:Host}{m:Int}(a:Shape h)(b:hasB m (ln h.Mons)=true):Keep h (owned h m):=by obtain⟨c,d⟩:=zcz a b;unfold owned;cases ilt (ix h.Mons m mZ).Own 1000000000;{exact Keep.rfl' a};{exact⟨ziD a c d,zXw b rfl,rfl⟩}
theorem z4Z {h:Host}{m n:Int}(b:Shape h)(c:hasB m (ln h.Mons)=true):Keep h (zpG h m n):=by obtain⟨a,d⟩:=zcz b c;unfold zpG;cases e:ilt (ln (ix h.Mons m mZ).Outs) 40;{exact Keep.rfl' b};{have f:=qE e;simp only[ln]at f;refine⟨ziD b ⟨a.1,a.2.1,a.2.2.1,a.2.2.2.1,?_,a.2.2.2.2.2⟩ d,zXw c rfl,rfl⟩;simp[ap];omega}
theorem z7T {h:Host}{m g:Int}{x:Guest}{w:Int}(d:Shape h)(b:hasB m (ln h.Mons)=true)(e:SmG x):Keep h (zyK h m g x w):=by have a:Keep h (zgy h m x w):=(by unfold zgy;cases (cond (ine w 6) (ieq (zCk (ix h.Mons m mZ).Traps x.Ctl.Traps (zBg w)) 2) false);{exact Keep.rfl' d};{exact z5a d b});have f:Keep (zgy h m x w) (zgx (zgy h m x w) m x w):=(by unfold zgx;cases (cond (zle x.Ctl.Traps w) (ieq w 5) false);{exact Keep.rfl' a.shape};{exact z4Z a.shape (a.has b)});have c:=a.trans f;exact c.trans (zoQ c.shape (c.has b) (zHk _ _ e))
theorem z7S {h:Host}{m g:Int}(f:SmH h)(e:zbZ h m g=true):Keep h (zbG h m g).1:=by obtain⟨l,a,n⟩:=zdn e;have d:=zqG f a n;have i:=(zff f l).1;rw[zj6 e];unfold z0d;cases ieq (zbe (gOf h m g)) 0;{cases ieq (zbe (gOf h m g)) 1;{cases ieq (zbe (gOf h m g)) 2;{cases (cond (ieq (zbe (gOf h m g)) 3) true (ieq (zbe (gOf h m g)) 4));{exact z7T i a d};{have k:=zFU (b:=h.Buffer) (page:=zbf (address (gOf h m g))) (need:=zci (ieq (zbe (gOf h m g)) 4)) (io:=false) f e;show Keep h (zj7 (znV h m g (gOf h m g) (ieq (zbe (gOf h m g)) 4)) m g (gOf h m g) (ieq (zbe (gOf h m g)) 4));unfold zj7;cases (znV h m g (gOf h m g) (ieq (zbe (gOf h m g)) 4)).2.2;{exact k.trans (zoQ k.shape (k.has a) d)};{cases ieq (zbe (gOf h m g)) 4;{have k:=zFU (b:=h.Buffer) (page:=zbf (address (gOf h m g))) (need:=zci false) (io:=false) f e;exact k.trans (zoQ k.shape (k.has a) (zQq _ d))};{have k:=zFU (b:=h.Buffer) (page:=zbf (address (gOf h m g))) (need:=zci true) (io:=false) f e;have q:=z7R (p:=(znV h m g (gOf h m g) true).2.1) (c:=zcZ (address (gOf h m g))) (v:=(gOf h m g).A) k.shape;have j:=k.trans q;exact j.trans (zoQ j.shape (j.has a) (zl2 d))}}}};{exact zoQ i a (zKF d)}};{exact zoQ i a (z3A d)}};{exact Keep.rfl' i}
structure Same (h r:Host):Prop where
 sm:SmH r
 cnt:cnt r.Mons=cnt h.Mons
 mem:r.Memory.length=h.Memory.length
 st:r=h\/Shape r
theorem Same.rfl' {h:Host}(a:SmH h):Same h h:=⟨a,rfl,rfl,.inl rfl⟩
theorem Same.trans {a b c:Host}(h:Same a b)(k:Same b c):Same a c:=⟨k.sm,k.cnt.trans h.cnt,k.mem.trans h.mem,by
 rcases k.st with e|e
 .rw [e];exact h.st
 .exact .inr e⟩
theorem z8S {h:Host}(m g:Int)(b:SmH h):Same h (zbG h m g).1:=by cases a:zbZ h m g;{rw [zmU a];exact Same.rfl' b};{have k:=z7S b a;exact⟨k.shape.1,k.cnt,k.mem,.inr k.shape⟩}
def zbcr:zX:=[(193,ztS)]++z4p
theorem zoh:zL zbcr:=zh zxq zvt
theorem zXr {a b:Bool}(h:(a=true)↔(b=true)):a=b:=by cases a<;>cases b<;>simp_all
@[simp] theorem zbfC (x:Int):win x 0 3=hasB x 4:=zXr (by rw[zfv];unfold hasB;rw[decide_eq_true_iff];omega)
@[simp] theorem zQT (x:Int):win x 0 7=hasB x 8:=zXr (by rw[zfv];unfold hasB;rw[decide_eq_true_iff];omega)
def zej (t:List Slot)(p:Int)(s:Slot):List Slot:=bif hasB p (ln t) then up t p s else t
@[simp] theorem zbfD (t:List Slot)(p:Int)(s:Slot):(zej t p s).length=t.length:=by unfold zej;cases hasB p (ln t)<;>simp
@[simp] abbrev zqb (t:List Slot)(p:Int)(s:Slot):Bool:=pc (t.length<=1048576)
@[simp] abbrev zmL (t:List Slot)(p:Int)(s:Slot):List Slot:=zej t p s
def zA0:Run:=rF3 (dS .slot) dI (dT .slot) fun b c d=>(zqb b c d,[aS .slot (zmL b c d)])
def zE6 (N:Nat)(a:lS)(b:Int)(c:Slot):OA:=
 (oN (few (ln (ap [] a))) (oN (zN b 0 (wsub .i64 (ln a) 1)) (cond (zT b 0 (wsub .i64 (ln a) 1)) (oN (inb b (ln (ap [] a))) (share (up (ap [] a) b c) (fun d=>(some [(aS .slot d)])))) (some [(aS .slot (ap [] a))]))))
theorem zSQ (a:List Slot)(b:Int)(c:Slot)(d:zqb a b c=true):∃N,zE6 N a b c=some [aS .slot (zmL a b c)]:=by have e:=zM.1 d;refine⟨0,?_⟩;unfold zE6 oN;refine mu (must rfl (br (fun _=>mu (shr ?_)) (fun _=>?_)));all_goals first|rfl|(simp only [*,zmL,zej,cT,cF]<;>rfl)|simp_all[Ty.cells,zmL,zej]
theorem zLV:vN 172 zA0:=kF3 zoh zx zy zn (zo []) zSQ
def zeY (p n:Int):Bool:=bif zc7 p then win n 0 7 else false
def znW (p n:Int):Int:=bif zeY p n then wor .i64 p (zkW .i64 1 n) else p
theorem cv7 {n:Int}(h:hasB n 8=true):wcv .u64 n=n/\ile 0 n=true:=by have:=qE h;exact⟨zTI (by omega) (by omega),qJ (by omega)⟩
@[simp] abbrev zkN (p n:Int):Bool:=true
@[simp] abbrev zgW (p n:Int):Int:=znW p n
@[simp] abbrev znA (p n:Int):Bool:=zeY p n
def zDO:Run:=rF2 dI dI fun b c=>(zkN b c,[aI (zgW b c),aB (znA b c)])
def zJz (N:Nat)(a b:Int):OA:=
 (oN (zfr a) (cond (nB (zfq a)) (some [(aI a),(aB false)]) (oN (zN b 0 7) (cond (nB (zT b 0 7)) (some [(aI a),(aB false)]) (oN (ile 0 (wcv .u64 b)) (some [(aI (wor .i64 a (zkW .i64 1 (wcv .u64 b)))),(aB true)]))))))
theorem zWe (b a:Int)(c:zkN b a=true):∃N,zJz N b a=some [aI (zgW b a),aB (znA b a)]:=by have d:=@cv7 a;refine⟨0,?_⟩;unfold zJz oN nB;refine must rfl (brN (fun _=>?_) (fun _=>must rfl (brN (fun _=>?_) (fun _=>mu ?_))));all_goals first|rfl|(simp only [*,zgW,znA,znW,zeY,cT,cF]<;>rfl)|simp_all[Ty.cells,zgW,znA,znW,zeY]
theorem zOJ:vN 188 zDO:=kF2 zoh zx zy zn (zo []) zWe
@[simp] abbrev znb (p n:Int):Bool:=true
@[simp] abbrev ziq (p n:Int):Int:=znW p n
@[simp] abbrev zr0 (p n:Int):Bool:=zeY p n
def zDy:Run:=rF2 dI dI fun b c=>(znb b c,[aI (ziq b c),aB (zr0 b c)])
def zJb (N:Nat)(a b:Int):OA:=
 (oN (zh2 a) (cond (nB (zio a)) (some [(aI a),(aB false)]) (oN (zbM b 0 7) (cond (nB (zbU b 0 7)) (some [(aI a),(aB false)]) (oN (ile 0 b) (some [(aI (wor .i64 a (zkW .i64 1 b))),(aB true)]))))))
theorem zVO (b a:Int)(c:znb b a=true):∃N,zJb N b a=some [aI (ziq b a),aB (zr0 b a)]:=by have d:=@cv7 a;refine⟨0,?_⟩;unfold zJb oN nB;refine must rfl (brN (fun _=>?_) (fun _=>must rfl (brN (fun _=>?_) (fun _=>mu ?_))));all_goals first|rfl|(simp only [*,ziq,zr0,znW,zeY,cT,cF]<;>rfl)|simp_all[Ty.cells,ziq,zr0,znW,zeY]
theorem zOt:vN 186 zDy:=kF2 zoh zx zy zn (zo []) zVO
def posts (c:Ctl)(n:Int):Bool:=bif zhA c then (cond (win n 0 7) (ieq (wand .i64 (zjh .i64 c.Post n) 1) 1) false) else false
@[simp] abbrev zHa (c:Ctl)(n:Int):Bool:=true
@[simp] abbrev zA6 (c:Ctl)(n:Int):Bool:=posts c n
def zKp:Run:=rF2 dC dI fun b c=>(zHa b c,[aB (zA6 b c)])
def zT2 (N:Nat)(b:Ctl)(a:Int):OA:=
 (oN (zte b) (cond (zrr b) (oN (zN a 0 7) (cond (zT a 0 7) (oN (ile 0 (wcv .u64 a)) (some [(aB (ieq (wand .i64 (zjh .i64 b.Post (wcv .u64 a)) 1) 1))])) oF)) oF))
theorem z1D (b:Ctl)(a:Int)(c:zHa b a=true):∃N,zT2 N b a=some [aB (zA6 b a)]:=by have d:=@cv7 a;refine⟨0,?_⟩;unfold zT2 oN;refine must rfl (br (fun _=>must rfl (br (fun _=>mu ?_) (fun _=>?_))) (fun _=>?_));all_goals first|rfl|(simp only [*,zA6,posts,cT,cF]<;>rfl)|simp_all[Ty.cells,zA6,posts]
theorem zVz:vN 295 zKp:=kF2 zoh zx zy zn (zo []) z1D
@[simp] abbrev zFM (c:Ctl)(n:Int):Bool:=true
@[simp] abbrev zz8 (c:Ctl)(n:Int):Bool:=posts c n
def zKe:Run:=rF2 dC dI fun b c=>(zFM b c,[aB (zz8 b c)])
def zTQ (N:Nat)(b:Ctl)(a:Int):OA:=
 (oN (zxw b) (cond (zu5 b) (oN (zbM a 0 7) (cond (zbU a 0 7) (oN (ile 0 a) (some [(aB (ieq (wand .i64 (zjh .i64 b.Post a) 1) 1))])) oF)) oF))
theorem z1q (b:Ctl)(a:Int)(c:zFM b a=true):∃N,zTQ N b a=some [aB (zz8 b a)]:=by have d:=@cv7 a;refine⟨0,?_⟩;unfold zTQ oN;refine must rfl (br (fun _=>must rfl (br (fun _=>mu ?_) (fun _=>?_))) (fun _=>?_));all_goals first|rfl|(simp only [*,zz8,posts,cT,cF]<;>rfl)|simp_all[Ty.cells,zz8,posts]
theorem zVn:vN 294 zKe:=kF2 zoh zx zy zn (zo []) z1q
def zck (b:Bare)(g:Int):Bool:=bif zbK b then hasB g (ln b.Guests) else false
theorem zdL {b:Bare}{g:Int}:(zck b g=true)↔zbK b=true/\hasB g (ln b.Guests)=true:=by unfold zck;cases zbK b<;>simp
@[simp] abbrev zjl (b:Bare)(g:Int):Bool:=pc (SmB b)
@[simp] abbrev zkQ (b:Bare)(g:Int):Bool:=zck b g
def zKs:Run:=rF2 (dT .bare) dI fun b c=>(zjl b c,[aB (zkQ b c)])
def zT5 (N:Nat)(a:Bare)(b:Int):OA:=
 (oN (zpX a) (cond (zeQ a) (oN (zN b 0 (wsub .i64 (ln a.Guests) 1)) (some [(aB (zT b 0 (wsub .i64 (ln a.Guests) 1)))])) oF))
theorem z1G (a:Bare)(b:Int)(c:zjl a b=true):∃N,zT5 N a b=some [aB (zkQ a b)]:=by have d:=zM.1 c;have e:a.Guests.length<=1048576:=d.2.1.1;refine⟨0,?_⟩;unfold zT5 oN;refine must rfl (br (fun _=>must rfl ?_) (fun _=>?_));all_goals first|rfl|(simp only [*,zkQ,zck,cT,cF]<;>rfl)|simp_all[Ty.cells,zkQ,zck]
theorem zVD:vN 170 zKs:=kF2 zoh zx zy zn (zo []) z1G
def zbcs:zX:=[(172,zA0),(188,zDO),(186,zDy),(295,zKp),(294,zKe),(170,zKs)]++zbcr
theorem zjw:zL zbcs:=zh zLV (zh zOJ (zh zOt (zh zVz (zh zVn (zh zVD zoh)))))
theorem z0O {b:Type}{l:List b}{i:Int}{d:b}(h:hasB i (ln l)=true):up l i (ix l i d)=l:=by obtain⟨k,rfl,a⟩:=zdS (n:=l.length) h;unfold up;rw[zbo a,kH];exact u1 a
theorem zvz {b:Bare}{g:Int}(h:hasB g (ln b.Guests)=true):gAt b g=ix b.Guests g zG:=by unfold gAt;rw[h];rfl
theorem z8U {b:Bare}{g:Int}(h:hasB g (ln b.Guests)=true):zeu b g (gAt b g)=b:=by unfold zeu;rw[zvz h,z0O h]
def chg (b:Bare)(g:Int)(c:Bool)(x:Guest):Bare:=bif (cond (zck b g) c false) then zeu b g x else b
def zb7 (b:Bare)(g:Int)(c:Bool):Bool:=bif zck b g then c else false
def zt9 (p:Int)(s:Slot):Bool:=bif hasB p 4 then zdK s 8 else false
def zCL (x:Guest)(p:Int)(s:Slot):Guest:={x with Written:=zej x.Written p s}
def zdW (x:Guest)(p:Int):Guest:={x with Live:=zej x.Live p (zbs x.Written p)}
def zlC:GExit:=⟨0,0,false,0⟩
def ztB (x:Guest)(v:Int):Bool:=bif win v 0 99 then (cond (ieq x.Exit.Kind 2) true (ieq x.Exit.Kind 3)) else false
def zy0 (x:Guest)(v:Int):Guest:=zch (stopped (cond (ieq x.Exit.Kind 2) {x with A:=v} x) zlC)
def zze (x:Guest):Bool:=bif ieq x.Exit.Kind 1 then true else ieq x.Exit.Kind 4
def zzf (x:Guest):Guest:=bif ieq x.Exit.Kind 1 then stopped x zlC else held (stopped x zlC)
def zmY (x:Guest)(n:Int):Guest:={x with Pending:=znW x.Pending n}
def zKZ (x:Guest)(c:Ctl):Guest:={x with Ctl:=c}
theorem zbd7 {x:Guest}{n:Int}(h:zeY x.Pending n=false):zmY x n=x:=by unfold zmY znW;rw[h];rfl
theorem zbbc {x:Guest}(p:Int)(s:Slot)(h:SmG x):SmG (zCL x p s):=⟨h.1,by simpa [zCL] using h.2.1,h.2.2.1,h.2.2.2⟩
theorem zQp {x:Guest}(p:Int)(h:SmG x):SmG (zdW x p):=⟨h.1,h.2.1,by simpa [zdW] using h.2.2.1,h.2.2.2⟩
theorem zbba {x:Guest}(v:Int)(h:SmG x):SmG (zy0 x v):=by unfold zy0;cases ieq x.Exit.Kind 2<;>exact zl2 h
theorem zbbb {x:Guest}(h:SmG x):SmG (zzf x):=by unfold zzf;cases ieq x.Exit.Kind 1;{exact zZ7 (g:=stopped x zlC) h};{exact h}
theorem zrE {b:Bare}{g:Int}{c:Bool}{x:Guest}(h:SmB b)(a:SmG x):SmB (chg b g c x):=by unfold chg;cases (cond (zck b g) c false);{exact h};{exact zoI h a}
@[simp] abbrev zsa (b:Bare)(g p:Int)(s:Slot):Bool:=pc (SmB b)
@[simp] abbrev ziw (b:Bare)(g p:Int)(s:Slot):Bare:=chg b g (zt9 p s) (zCL (gAt b g) p s)
@[simp] abbrev zkL (b:Bare)(g p:Int)(s:Slot):Bool:=zb7 b g (zt9 p s)
def ztR:Run:=rF4 (dT .bare) dI dI (dT .slot) fun b c d e=>(zsa b c d e,[aT .bare (ziw b c d e),aB (zkL b c d e)])
def zJk (N:Nat)(f:Bare)(b c:Int)(d:Slot):OA:=
 let a:=(zcy f);let e:=(ix a.Guests b zG); (oN (ze8 f) (oN (zjl a b) (cond (nB (zkQ a b)) (some [(aT .bare a),(aB false)]) (oN (zN c 0 3) (cond (nB (zT c 0 3)) (some [(aT .bare a),(aB false)]) (oN (zuO d 8) (cond (nB (zry d 8)) (some [(aT .bare a),(aB false)]) (oN (inb b (ln a.Guests)) (oN (zqb e.Written c d) (oN (inb b (ln a.Guests)) (share (up a.Guests b ({e with Written:=(zmL e.Written c d)}:Guest)) (fun g=>(some [(aT .bare ({a with Guests:=g}:Bare)),(aB true)])))))))))))))
theorem zVX (b:Bare)(a c:Int)(d:Slot)(e:zsa b a c d=true):∃N,zJk N b a c d=some [aT .bare (ziw b a c d),aB (zkL b a c d)]:=by
 have f:=zM.1 e;have g:=zkw a f;have k:zck b a=true->hasB a (ln b.Guests)=true:=fun h=>(zdL.1 h).2;have i:zck b a=true->gAt b a=ix b.Guests a zG:=fun h=>zvz (zdL.1 h).2;have j:=g.2.1;refine⟨0,?_⟩;unfold zJk oN nB;conv=>zeta
 refine mu (mu (brN (fun _=>?_) (fun _=>must rfl (brN (fun _=>?_) (fun _=>must rfl (brN (fun _=>?_) (fun _=>mu (mu (mu (shr ?_))))))))));all_goals first|rfl|(simp only [*,ziw,zkL,chg,zb7,zt9,zCL,zeu,cT,cF]<;>rfl)|simp_all[Ty.cells,ziw,zkL,chg,zb7,zt9,zCL,zeu]
theorem zxp:vN 75 ztR:=kF4 zjw zx zy zn (zo []) zVX
@[simp] abbrev zt2 (b:Bare)(g p:Int):Bool:=pc (SmB b)
@[simp] abbrev zeM (b:Bare)(g p:Int):Bare:=chg b g (hasB p 4) (zdW (gAt b g) p)
@[simp] abbrev zhO (b:Bare)(g p:Int):Bool:=zb7 b g (hasB p 4)
def zpM:Run:=rF3 (dT .bare) dI dI fun b c d=>(zt2 b c d,[aT .bare (zeM b c d),aB (zhO b c d)])
def zC8 (N:Nat)(f:Bare)(d b:Int):OA:=
 let a:=(zcy f);let e:=(inb d (ln a.Guests));let c:=(ix a.Guests d zG); (oN (ze8 f) (oN (zjl a d) (cond (nB (zkQ a d)) (some [(aT .bare a),(aB false)]) (oN (zN b 0 3) (cond (nB (zT b 0 3)) (some [(aT .bare a),(aB false)]) (oN e (oN e (oN (zjW c.Written b) (oN (zqb c.Live b (zhs c.Written b)) (oN e (share (up a.Guests d ({c with Live:=(zmL c.Live b (zhs c.Written b))}:Guest)) (fun g=>(some [(aT .bare ({a with Guests:=g}:Bare)),(aB true)])))))))))))))
theorem zPs (b:Bare)(a c:Int)(d:zt2 b a c=true):∃N,zC8 N b a c=some [aT .bare (zeM b a c),aB (zhO b a c)]:=by
 have e:=zM.1 d;have f:=zkw a e;have j:zck b a=true->hasB a (ln b.Guests)=true:=fun h=>(zdL.1 h).2;have g:zck b a=true->gAt b a=ix b.Guests a zG:=fun h=>zvz (zdL.1 h).2;have i:=f.2.2.1;refine⟨0,?_⟩;unfold zC8 oN nB;conv=>zeta
 refine mu (mu (brN (fun _=>?_) (fun _=>must rfl (brN (fun _=>?_) (fun _=>mu (mu (must rfl (mu (mu (shr ?_))))))))));all_goals first|rfl|(simp only [*,zeM,zhO,chg,zb7,zdW,zeu,cT,cF]<;>rfl)|simp_all[Ty.cells,zeM,zhO,chg,zb7,zdW,zeu]
theorem zuh:vN 107 zpM:=kF3 zjw zx zy zn (zo []) zPs
@[simp] abbrev zmv (b:Bare)(g v:Int):Bool:=pc (SmB b)
@[simp] abbrev zfQ (b:Bare)(g v:Int):Bare:=chg b g (ztB (gAt b g) v) (zy0 (gAt b g) v)
@[simp] abbrev zhd (b:Bare)(g v:Int):Bool:=zb7 b g (ztB (gAt b g) v)
def zot:Run:=rF3 (dT .bare) dI dI fun b c d=>(zmv b c d,[aT .bare (zfQ b c d),aB (zhd b c d)])
def zzH (N:Nat)(i:Bare)(b e:Int):OA:=
 let a:=(zcy i);let h:=(inb b (ln a.Guests));let d:=(⟨0,0,false,0⟩:GExit);let c:=(ix a.Guests b zG);let g:=({c with A:=e}:Guest); (oN (ze8 i) (oN (zjl a b) (cond (nB (zkQ a b)) (some [(aT .bare a),(aB false)]) (oN (zN e 0 99) (cond (nB (zT e 0 99)) (some [(aT .bare a),(aB false)]) (oN h (cond (ieq c.Exit.Kind 2) (oN (zek g d) (oN (zeg (zdQ g d)) (oN h (share (up a.Guests b (zgu (zdQ g d))) (fun f=>(some [(aT .bare ({a with Guests:=f}:Bare)),(aB true)])))))) (cond (ieq c.Exit.Kind 3) (oN (zek c d) (oN (zeg (zdQ c d)) (oN h (share (up a.Guests b (zgu (zdQ c d))) (fun f=>(some [(aT .bare ({a with Guests:=f}:Bare)),(aB true)])))))) (some [(aT .bare a),(aB false)])))))))))
theorem zMi (b:Bare)(a c:Int)(d:zmv b a c=true):∃N,zzH N b a c=some [aT .bare (zfQ b a c),aB (zhd b a c)]:=by
 have e:=zM.1 d;have f:=zkw a e;have j:zck b a=true->hasB a (ln b.Guests)=true:=fun h=>(zdL.1 h).2;have g:zck b a=true->gAt b a=ix b.Guests a zG:=fun h=>zvz (zdL.1 h).2;have i:_/\_/\_/\_:=f;refine⟨0,?_⟩;unfold zzH oN nB;conv=>zeta
 refine mu (mu (brN (fun _=>?_) (fun _=>must rfl (brN (fun _=>?_) (fun _=>mu (br (fun _=>mu (mu (mu (shr ?_)))) (fun _=>br (fun _=>mu (mu (mu (shr ?_)))) (fun _=>?_))))))));all_goals first|rfl|(simp only [*,zfQ,zhd,chg,zb7,ztB,zy0,zlC,zeu,SmG,stopped,cT,cF]<;>rfl)|simp_all[Ty.cells,zfQ,zhd,chg,zb7,ztB,zy0,zlC,zeu,SmG,stopped]
theorem zsW:vN 82 zot:=kF3 zjw zx zy zn (zo []) zMi
@[simp] abbrev zmx (b:Bare)(g:Int):Bool:=pc (SmB b)
@[simp] abbrev zfS (b:Bare)(g:Int):Bare:=chg b g (zze (gAt b g)) (zzf (gAt b g))
@[simp] abbrev zhf (b:Bare)(g:Int):Bool:=zb7 b g (zze (gAt b g))
def zov:Run:=rF2 (dT .bare) dI fun b c=>(zmx b c,[aT .bare (zfS b c),aB (zhf b c)])
def zzJ (N:Nat)(g:Bare)(c:Int):OA:=
 let a:=(zcy g);let f:=(inb c (ln a.Guests));let d:=(⟨0,0,false,0⟩:GExit);let b:=(ix a.Guests c zG); (oN (ze8 g) (oN (zjl a c) (cond (nB (zkQ a c)) (some [(aT .bare a),(aB false)]) (oN f (cond (ieq b.Exit.Kind 1) (oN (zek b d) (oN f (share (up a.Guests c (zdQ b d)) (fun e=>(some [(aT .bare ({a with Guests:=e}:Bare)),(aB true)]))))) (cond (ieq b.Exit.Kind 4) (oN (zek b d) (oN (zoA (zdQ b d)) (oN f (share (up a.Guests c (zA4 (zdQ b d))) (fun e=>(some [(aT .bare ({a with Guests:=e}:Bare)),(aB true)])))))) (some [(aT .bare a),(aB false)])))))))
theorem zMk (b:Bare)(a:Int)(c:zmx b a=true):∃N,zzJ N b a=some [aT .bare (zfS b a),aB (zhf b a)]:=by
 have d:=zM.1 c;have e:=zkw a d;have i:zck b a=true->hasB a (ln b.Guests)=true:=fun h=>(zdL.1 h).2;have f:zck b a=true->gAt b a=ix b.Guests a zG:=fun h=>zvz (zdL.1 h).2;have g:_/\_/\_/\_:=e;refine⟨0,?_⟩;unfold zzJ oN nB;conv=>zeta
 refine mu (mu (brN (fun _=>?_) (fun _=>mu (br (fun _=>mu (mu (shr ?_))) (fun _=>br (fun _=>mu (mu (mu (shr ?_)))) (fun _=>?_))))));all_goals first|rfl|(simp only [*,zfS,zhf,chg,zb7,zze,zzf,zlC,zeu,SmG,stopped,cT,cF]<;>rfl)|simp_all[Ty.cells,zfS,zhf,chg,zb7,zze,zzf,zlC,zeu,SmG,stopped]
theorem zsY:vN 85 zov:=kF2 zjw zx zy zn (zo []) zMk
theorem zbeO {b:Bare}{g:Int}{c:Bool}{x:Guest}(h:zck b g=false):chg b g c x=b:=by unfold chg;rw[h];rfl
theorem zbdv {b:Bare}{g n:Int}(h:zck b g=true):chg b g (zeY (gAt b g).Pending n) (zmY (gAt b g) n)=zeu b g (zmY (gAt b g) n):=by unfold chg;rw[h];cases a:zeY (gAt b g).Pending n;{rw [zbd7 a,z8U (zdL.1 h).2];rfl};{rfl}
@[simp] abbrev zmw (b:Bare)(g n:Int):Bool:=pc (SmB b)
@[simp] abbrev zfR (b:Bare)(g n:Int):Bare:=chg b g (zeY (gAt b g).Pending n) (zmY (gAt b g) n)
@[simp] abbrev zhe (b:Bare)(g n:Int):Bool:=zb7 b g (zeY (gAt b g).Pending n)
def zou:Run:=rF3 (dT .bare) dI dI fun b c d=>(zmw b c d,[aT .bare (zfR b c d),aB (zhe b c d)])
def zzI (N:Nat)(e:Bare)(b d:Int):OA:=
 let a:=(zcy e);let c:=(ix a.Guests b zG); (oN (ze8 e) (oN (zjl a b) (cond (nB (zkQ a b)) (some [(aT .bare a),(aB false)]) (oN (inb b (ln a.Guests)) (oN (zkN c.Pending d) (oN (inb b (ln a.Guests)) (share (up a.Guests b ({c with Pending:=(zgW c.Pending d)}:Guest)) (fun f=>(some [(aT .bare ({a with Guests:=f}:Bare)),(aB (znA c.Pending d))])))))))))
theorem zMj (a:Bare)(b c:Int)(d:zmw a b c=true):∃N,zzI N a b c=some [aT .bare (zfR a b c),aB (zhe a b c)]:=by
 have i:=zM.1 d;have j:zck a b=true->hasB b (ln a.Guests)=true:=fun h=>(zdL.1 h).2;have f:zck a b=true->gAt a b=ix a.Guests b zG:=fun h=>zvz (zdL.1 h).2;have g:=@zbdv a b c;have e:=@zbeO a b (zeY (gAt a b).Pending c) (zmY (gAt a b) c);refine⟨0,?_⟩;unfold zzI oN nB;conv=>zeta
 refine mu (mu (brN (fun _=>?_) (fun _=>mu (must rfl (mu (shr ?_))))));all_goals first|rfl|(simp only [*,zfR,zhe,zb7,zeu,zmY,cT,cF]<;>rfl)|simp_all[Ty.cells,zfR,zhe,zb7,zeu,zmY]
theorem zsX:vN 89 zou:=kF3 zjw zx zy zn (zo []) zMj
@[simp] abbrev zr9 (b:Bare)(g:Int)(c:Ctl):Bool:=pc (SmB b)
@[simp] abbrev ziv (b:Bare)(g:Int)(c:Ctl):Bare:=chg b g (zhA c) (zKZ (gAt b g) c)
@[simp] abbrev zkK (b:Bare)(g:Int)(c:Ctl):Bool:=zb7 b g (zhA c)
def ztQ:Run:=rF3 (dT .bare) dI dC fun b c d=>(zr9 b c d,[aT .bare (ziv b c d),aB (zkK b c d)])
def zJj (N:Nat)(d:Bare)(b:Int)(c:Ctl):OA:=
 let a:=(zcy d); (oN (ze8 d) (oN (zjl a b) (cond (nB (zkQ a b)) (some [(aT .bare a),(aB false)]) (oN (zte c) (cond (nB (zrr c)) (some [(aT .bare a),(aB false)]) (oN (inb b (ln a.Guests)) (share (up a.Guests b ({ (ix a.Guests b zG) with Ctl:=c}:Guest)) (fun e=>(some [(aT .bare ({a with Guests:=e}:Bare)),(aB true)])))))))))
theorem zVW (a:Bare)(b:Int)(c:Ctl)(d:zr9 a b c=true):∃N,zJj N a b c=some [aT .bare (ziv a b c),aB (zkK a b c)]:=by
 have f:=zM.1 d;have g:zck a b=true->hasB b (ln a.Guests)=true:=fun h=>(zdL.1 h).2;have e:zck a b=true->gAt a b=ix a.Guests b zG:=fun h=>zvz (zdL.1 h).2;refine⟨0,?_⟩;unfold zJj oN nB;conv=>zeta
 refine mu (mu (brN (fun _=>?_) (fun _=>must rfl (brN (fun _=>?_) (fun _=>mu (shr ?_))))));all_goals first|rfl|(simp only [*,ziv,zkK,chg,zb7,zKZ,zeu,cT,cF]<;>rfl)|simp_all[Ty.cells,ziv,zkK,chg,zb7,zKZ,zeu]
theorem zxo:vN 93 ztQ:=kF3 zjw zx zy zn (zo []) zVW
def zbda (p c v:Int):Bool:=bif hasB p 8 then (cond (hasB c 4) (win v 0 99) false) else false
def zAj (b:Bare)(p c v:Int):Bool:=bif zbK b then zbda p c v else false
def zWZ (b:Bare)(p c v:Int):Bare:=bif zAj b p c v then {b with Memory:=zbH b.Memory p c v} else b
def zih (b:Bare):Bare:=bif zbK b then {b with Pending:=zfx b.Pending} else b
def zod (b:Bare):Int:=bif zbK b then zkh b.Pending else -1
def zhz (b:Bare):Bool:=bif zbK b then !ilt (zdi b.Pending) 0 else false
def zpe (b:Bare)(g a n:Int):Bool:=bif zck b g then (cond (win a 0 15) (zd8 (gAt b g).Live (zbf a) n) false) else false
def zHF (b:Bare)(g a n:Int):Int:=zcb (gAt b g).Live (zbf a) n
def zBH (b:Bare)(g a v:Int):Bool:=bif zpe b g a 2 then win v 0 99 else false
def z4C (b:Bare)(g a v:Int):Bare:=bif zBH b g a v then {b with Memory:=zbH b.Memory (zHF b g a 2) (zcZ a) v} else b
def zW3 (b:Bare)(g a:Int):Int:=bif zpe b g a 1 then cellAt b.Memory (zHF b g a 1) (zcZ a) else 0
@[simp] abbrev zr8 (b:Bare):Bool:=pc (SmB b)
@[simp] abbrev ziu (b:Bare):Bare:=zih b
@[simp] abbrev zkI (b:Bare):Int:=zod b
@[simp] abbrev zkJ (b:Bare):Bool:=zhz b
def ztP:Run:=rF1 (dT .bare) fun b=>(zr8 b,[aT .bare (ziu b),aI (zkI b),aB (zkJ b)])
def zJi (N:Nat)(b:Bare):OA:=
 let a:=(zcy b); (oN (ze8 b) (oN (zpX a) (cond (nB (zeQ a)) (some [(aT .bare a),(aI (-1)),(aB false)]) (oN (zsp a.Pending) (some [(aT .bare ({a with Pending:=(zkO a.Pending)}:Bare)),(aI (zkP a.Pending)),(aB (znC a.Pending))])))))
theorem zVV (a:Bare)(b:zr8 a=true):∃N,zJi N a=some [aT .bare (ziu a),aI (zkI a),aB (zkJ a)]:=by
 have c:=zM.1 b;refine⟨0,?_⟩;unfold zJi oN nB;conv=>zeta
 refine mu (must rfl (brN (fun _=>?_) (fun _=>must rfl ?_)));all_goals first|rfl|(simp only [*,ziu,zkI,zkJ,zih,zod,zhz,zfx,zkh,cT,cF]<;>rfl)|simp_all[Ty.cells,ziu,zkI,zkJ,zih,zod,zhz,zfx,zkh]
theorem zxn:vN 140 ztP:=kF1 zjw zx zy zn (zo []) zVV
@[simp] abbrev zrU (b:Bare):Bool:=pc (SmB b)
@[simp] abbrev zgU (b:Bare):Bare:=zih b
@[simp] abbrev zin (b:Bare):Int:=zod b
@[simp] abbrev zfZ (b:Bare):Bool:=zhz b
def ztM:Run:=rF1 (dT .bare) fun b=>(zrU b,[aT .bare (zgU b),aI (zin b),aB (zfZ b)])
def zI7 (N:Nat)(a:Bare):OA:=
 (oN (zpx a) (oN (zy7 a.Pending) (oN (zuz a) (cond (nB (zfh a)) (some [(aT .bare (zc5 a)),(aI (-1)),(aB false)]) (cond (nB (znf a.Pending)) (some [(aT .bare (zc5 a)),(aI (-1)),(aB false)]) (some [(aT .bare ({ (zc5 a) with Pending:=(znd a.Pending)}:Bare)),(aI (zne a.Pending)),(aB true)]))))))
theorem zVK (a:Bare)(b:zrU a=true):∃N,zI7 N a=some [aT .bare (zgU a),aI (zin a),aB (zfZ a)]:=by have c:=zM.1 b;refine⟨0,?_⟩;unfold zI7 oN nB;refine mu (must rfl (must rfl (brN (fun _=>?_) (fun _=>brN (fun _=>?_) (fun _=>?_)))));all_goals first|rfl|(simp only [*,zgU,zin,zfZ,zih,zod,zhz,zfx,zkh,cT,cF]<;>rfl)|simp_all[Ty.cells,zgU,zin,zfZ,zih,zod,zhz,zfx,zkh]
theorem zxk:vN 139 ztM:=kF1 zjw zx zy zn (zo []) zVK
def zbct:zX:=zbcs
theorem zLb:zL zbct:=zjw
def zdV (l:List Guest)(n:Int):List Int:=idxs (fun (x:Guest)=>posts x.Ctl n) l 0
theorem zYe {d:Type}(p:d->Bool):∀(l:List d) (i:Nat),∀k∈idxs p l i,(i:Int)<=k/\k<(i:Int)+l.length
 |[],_,k,a=>by cases a
 |x::l,i,k,a=>by have c:=zYe p l (i+1);simp only[q0];unfold idxs at a;cases b:p x;{rw [b]at a;have:=c k a;omega};{rw [b]at a;rcases qG.1 a with rfl|a;{omega};{have:=c k a;omega}}
@[simp] abbrev zwy (b:Bare)(n:Int):Bool:=pc (SmB b)
@[simp] abbrev zmI (b:Bare)(n:Int):List Int:=zdV b.Guests n
def zAU:Run:=rF2 (dT .bare) dI fun b c=>(zwy b c,[aS .int (zmI b c)])
def zE0 (N:Nat)(c:Bare)(f:Int):OA:=
 (iter (σ:=(Int×(Int×(Int×((List Int)×(lM×(lG×((List Int)×Unit)))))))) N (fun d a=>let b:=a.2.2.2.2.2.1;let e:=(ix b a.2.1 zG).Ctl; (cond (ilt a.2.1 (ln b)) (oN (inb a.2.1 (ln b)) (oN (zHa e a.1) (cond (zA6 e a.1) (oN (few (ln (ap a.2.2.2.1 [a.2.1]))) (d (a.1,((zK .i64 a.2.1 1),(a.2.2.1,((ap a.2.2.2.1 [a.2.1]),(a.2.2.2.2.1,(b,(a.2.2.2.2.2.2.1,()))))))))) (d (a.1,((zK .i64 a.2.1 1),(a.2.2.1,(a.2.2.2.1,(a.2.2.2.2.1,(b,(a.2.2.2.2.2.2.1,()))))))))))) (some [(aS .int a.2.2.2.1)]))) (f,(0,(c.Pending,([],(c.Memory,(c.Guests,(c.Outs,()))))))))
def zTx:FuncId->Nat->Option Tmpl:=zo [(237,0,{n:=28,tm:=[(1,ti),(2,.lp 0 0),(5,.sl 0 []),(6,ti)],lo:=[(0,[.sl 1 [],.sl 2 [],.sl 3 [],ti])],ro:=[(0,.int,true),(1,(.sl .int),false),(2,.guest,false),(3,.int,false)]})]
theorem zSI (a:Bare)(b:Int)(g:zwy a b=true):∃N,zE0 N a b=some [aS .int (zmI a b)]:=by
 have h:=zM.1 g;have e:=zcQ h.2.1.1;refine zcd fun N d=>?_;unfold zE0 oN;conv=>zeta
 refine(zbl a.Guests (fun i (t:(List Int))=>(b,(i:Int),a.Pending,t,a.Memory,a.Guests,a.Outs,())) _ (fun i (x:Guest) (t:List Int) f=>bif posts x.Ctl b then (cond (few (ln (ap t [(i:Int)]))) (f (ap t [(i:Int)])) none) else f t) (fun (t:(List Int))=>(some [(.one (.s .int t))])) (fun i c t rec=>?_) (fun t rec=>?_) _ ([]) (d e.1)).trans ?_;{simp only [zbA c,zbh c,zbo c,zbg c e.1,cT]};{simp only [zbq,cF]};exact zqY (fun (x:Guest)=>posts x.Ctl b) _ a.Guests 0 [] (by simpa using e.2)
theorem zLP:vN 237 zAU:=kF2 zLb zx zy zn zTx zSI
@[simp] abbrev zvR (b:Bare)(n:Int):Bool:=pc (SmB b)
@[simp] abbrev zh3 (b:Bare)(n:Int):List Int:=zdV b.Guests n
def zAA:Run:=rF2 (dT .bare) dI fun b c=>(zvR b c,[aS .int (zh3 b c)])
def zEB (N:Nat)(d:Bare)(g:Int):OA:=
 (iter (σ:=(Int×(Int×(Int×((List Int)×(lG×Unit)))))) N (fun e a=>let c:=a.2.2.2.2.1;let b:=a.2.2.1;let f:=(ix c b zG).Ctl; (cond (ilt b a.2.1) (oN (inb b (ln c)) (oN (zFM f a.1) (cond (zz8 f a.1) (oN (few (ln (ap a.2.2.2.1 [b]))) (e (a.1,(a.2.1,((zK .i64 b 1),((ap a.2.2.2.1 [b]),(c,()))))))) (e (a.1,(a.2.1,((zK .i64 b 1),(a.2.2.2.1,(c,()))))))))) (some [(aS .int a.2.2.2.1)]))) (g,((ln d.Guests),(0,([],(d.Guests,()))))))
def zTp:FuncId->Nat->Option Tmpl:=zo [(235,0,{n:=27,tm:=[(1,ti),(5,.sl 0 []),(10,.sl 1 []),(11,ti),(12,ti)],lo:=[],ro:=[(0,.int,true),(1,.guest,false)]})]
theorem zSj (a:Bare)(b:Int)(g:zvR a b=true):∃N,zEB N a b=some [aS .int (zh3 a b)]:=by
 have h:=zM.1 g;have e:=zcQ h.2.1.1;refine zcd fun N d=>?_;unfold zEB oN;conv=>zeta
 refine(zbl a.Guests (fun i (t:(List Int))=>(b,(ln a.Guests),(i:Int),t,a.Guests,())) _ (fun i (x:Guest) (t:List Int) f=>bif posts x.Ctl b then (cond (few (ln (ap t [(i:Int)]))) (f (ap t [(i:Int)])) none) else f t) (fun (t:(List Int))=>(some [(.one (.s .int t))])) (fun i c t rec=>?_) (fun t rec=>?_) _ ([]) (d e.1)).trans ?_;{simp only [zbA c,zbh c,zbo c,zbg c e.1,cT]};{simp only [zbq,cF]};exact zqY (fun (x:Guest)=>posts x.Ctl b) _ a.Guests 0 [] (by simpa using e.2)
theorem zLu:vN 235 zAA:=kF2 zLb zx zy zn zTp zSj
def zbcu:zX:=[(237,zAU),(235,zAA)]++zbct
theorem zLc:zL zbcu:=zh zLP (zh zLu zLb)
def zHY (n:Int)(l:List Guest)(k:Int):List Guest:=up l k (zmY (ix l k zG) n)
def zms (n:Int)(a:List Int)(l:List Guest):List Guest:=a.foldl (zHY n) l
theorem zGb (n:Int)(l:List Guest)(k:Int):(zHY n l k).length=l.length:=zgG _ _ _
theorem z6l {n:Int}{l:List Guest}{k:Int}(a:hasB k (ln l)=true)(h:zlg l):zlg (zHY n l k):=zH5 h (z88 h a _)
theorem zHl {n:Int}:∀(a:List Int) {l:List Guest},(∀k∈a,hasB k (ln l)=true)->zlg l->zlg (zms n a l)/\(zms n a l).length=l.length
 |[],_,_,h=>⟨h,rfl⟩
 |k::a,l,b,h=>by have e:=z6l (n:=n) (b k (by simp)) h;obtain⟨c,d⟩:=zHl (n:=n) a (l:=zHY n l k) (fun j f=>by rw[ln,zGb];exact b j (by simp[f])) e;exact⟨c,d.trans (zGb _ _ _)⟩
theorem zLn {e:Type}(n:Int)(K:List Guest->Option e):∀(a:List Int) (i:Nat) (l:List Guest),(∀k∈a,hasB k (ln l)=true)->
 goL (fun _ k (t:List Guest) d=>bif inb k (ln t) then (cond (inb k (ln t)) (d (up t k (zmY (ix t k zG) n))) none) else none) K a i l=K (zms n a l)
 |[],_,_,_=>rfl
 |k::a,i,l,h=>by have c:inb k (ln l)=true:=h k (by simp);simp only[goL,c,cT];exact zLn n K a (i+1) (zHY n l k) (fun j b=>by rw[ln,zGb];exact h j (by simp[b]))
def zHZ (b:Bare)(n:Int):Bare:=bif ieq (ln (zdV b.Guests n)) 0 then {b with Pending:=znW b.Pending n} else {b with Guests:=zms n (zdV b.Guests n) b.Guests}
def zea (b:Bare)(n:Int):Bool:=bif zbK b then hasB n 8 else false
def zgN (b:Bare)(n:Int):Bare:=bif zea b n then zHZ b n else b
theorem zCp {b:Bare}{n:Int}:∀k∈zdV b.Guests n,hasB k (ln b.Guests)=true:=fun k a=>by have:=zYe _ _ _ k a;exact qJ (by simp only[ln];omega)
theorem z5A {b:Bare}{n:Int}(h:ieq (ln (zdV b.Guests n)) 0=true):zms n (zdV b.Guests n) b.Guests=b.Guests:=by have a:((zdV b.Guests n).length:Int)=0:=qE h;have:zdV b.Guests n=[]:=uS.1 (by omega);rw[this];rfl
theorem zPW {b:Bare}{n:Int}:(cond (ieq (ln (zdV b.Guests n)) 0) (some [AV.agg (Ty.cells .bare ⟨b.Memory,zms n (zdV b.Guests n) b.Guests,b.Outs,znW b.Pending n⟩),AV.one (.b true)]) (some [AV.agg (Ty.cells .bare ⟨b.Memory,zms n (zdV b.Guests n) b.Guests,b.Outs,b.Pending⟩),AV.one (.b true)]))=some [AV.agg (Ty.cells .bare (zHZ b n)),AV.one (.b true)]:=by unfold zHZ;cases h:ieq (ln (zdV b.Guests n)) 0;{rfl};{simp only [cT,z5A h]}
@[simp] abbrev zpY (b:Bare)(n:Int):Bool:=pc (SmB b)
@[simp] abbrev zi2 (b:Bare)(n:Int):Bare:=zgN b n
@[simp] abbrev zlL (b:Bare)(n:Int):Bool:=zea b n
def zrh:Run:=rF2 (dT .bare) dI fun b c=>(zpY b c,[aT .bare (zi2 b c),aB (zlL b c)])
def zES (N:Nat)(i:Bare)(e:Int):OA:=
 let b:=(zcy i); (oN (ze8 i) (oN (zpX b) (cond (nB (zeQ b)) (some [(aT .bare b),(aB false)]) (oN (zN e 0 7) (cond (nB (zT e 0 7)) (some [(aT .bare b),(aB false)]) (oN (zwy b e) (iter (σ:=(Int×(Int×(Int×(Int×((List Int)×(lM×(lG×((List Int)×(lM×(lG×((List Int)×Unit)))))))))))) N (fun j a=>let h:=a.2.2.2.2.2.2.2.1;let d:=a.2.2.2.2.1;let c:=a.2.2.2.2.2.2.1;let f:=(ix d a.2.1 0);let g:=(ix c f zG); (cond (ilt a.2.1 (ln d)) (oN (inb a.2.1 (ln d)) (oN (inb a.2.1 (ln d)) (oN (inb f (ln c)) (oN (zkN g.Pending a.1) (oN (inb f (ln c)) (j (a.1,((zK .i64 a.2.1 1),(a.2.2.1,(a.2.2.2.1,(d,(a.2.2.2.2.2.1,((up c f ({g with Pending:=(zgW g.Pending a.1)}:Guest)),(h,(a.2.2.2.2.2.2.2.2.1,(a.2.2.2.2.2.2.2.2.2.1,(a.2.2.2.2.2.2.2.2.2.2.1,()))))))))))))))))) (cond (ieq (ln d) 0) (oN (zkN a.2.2.1 a.1) (some [(aT .bare (⟨a.2.2.2.2.2.1,c,h,(zgW a.2.2.1 a.1)⟩:Bare)),(aB true)])) (some [(aT .bare (⟨a.2.2.2.2.2.1,c,h,a.2.2.1⟩:Bare)),(aB true)])))) (e,(0,(b.Pending,(0,((zmI b e),(b.Memory,(b.Guests,(b.Outs,([],([],([],()))))))))))))))))))
def zTu:FuncId->Nat->Option Tmpl:=zo [(136,0,{n:=62,tm:=[(1,ti),(2,.lp 0 0),(4,.lp 1 0),(6,.sl 0 []),(7,ti)],lo:=[(0,[.sl 1 [],.sl 2 [],.sl 3 [],ti]),(1,[.sl 4 [],.sl 5 [],.sl 6 [],ti])],ro:=[(0,.int,true),(1,(.sl .int),true),(2,.guest,true),(3,.int,true),(4,(.sl .int),true),(5,.guest,true),(6,.int,true)]})]
theorem zSA (a:Bare)(c:Int)(l:zpY a c=true):∃N,zES N a c=some [aT .bare (zi2 a c),aB (zlL a c)]:=by
 have h:=zM.1 l;have j:(zdV a.Guests c).length<=big:=qU (zvX _ _ _) (zcQ h.2.1.1).1;refine zcd fun N g=>?_;unfold zES zi2 zlL zgN zea oN nB;conv=>zeta
 refine must (zbd h) (must rfl (brN (fun e=>?_) (fun e=>must rfl (brN (fun d=>?_) (fun d=>must (zbd h) ?_)))));{simp only [show zbK a=false from e,cF]};{simp only [show zbK a=true from e,show hasB c 8=false from by first|exact d|exact(zQT c).symm.trans d,cT,cF]};simp only[show zbK a=true from e,show hasB c 8=true from by first|exact d|exact(zQT c).symm.trans d,cT];refine(zbl (zmI (zcy a) c) (fun i (t:lG)=>(c,(i:Int),(zcy a).Pending,0,(zmI (zcy a) c),(zcy a).Memory,t,(zcy a).Outs,[],[],[],())) _ (fun _ k (t:List Guest) m=>bif inb k (ln t) then (cond (inb k (ln t)) (m (up t k (zmY (ix t k zG) c))) none) else none) (fun (t:lG)=>(cond (ieq (ln (zmI (zcy a) c)) 0) (cond (zkN (zcy a).Pending c) (some [(.agg (Ty.cells .bare (⟨(zcy a).Memory,t,(zcy a).Outs,(zgW (zcy a).Pending c)⟩:Bare))),(.one (.b true))]) none) (some [(.agg (Ty.cells .bare (⟨(zcy a).Memory,t,(zcy a).Outs,(zcy a).Pending⟩:Bare))),(.one (.b true))]))) (fun i f t rec=>?_) (fun t rec=>?_) _ ((zcy a).Guests) (g j)).trans ?_;{simp only [zbA f,zbh f,zbo f,zbg f j,cT];rfl};{simp only [zbq,cF];rfl};exact(zLn c _ _ 0 _ zCp).trans zPW
theorem zvF:vN 136 zrh:=kF2 zLc zx zy zn zTu zSA
@[simp] abbrev zpl (b:Bare)(n:Int):Bool:=pc (SmB b)
@[simp] abbrev zhl (b:Bare)(n:Int):Bare:=zgN b n
@[simp] abbrev zgd (b:Bare)(n:Int):Bool:=zea b n
def zre:Run:=rF2 (dT .bare) dI fun b c=>(zpl b c,[aT .bare (zhl b c),aB (zgd b c)])
def zEw (N:Nat)(b:Bare)(c:Int):OA:=
 let e:=(zc5 b); (oN (zpx b) (oN (zuz b) (cond (nB (zfh b)) (some [(aT .bare e),(aB false)]) (oN (zbM c 0 7) (cond (nB (zbU c 0 7)) (some [(aT .bare e),(aB false)]) (oN (zvR b c) (iter (σ:=(Int×(Int×(Int×(Int×(Int×((List Int)×(lM×(lG×((List Int)×(lM×(lG×((List Int)×Unit))))))))))))) N (fun l a=>let h:=a.2.2.2.2.1;let g:=a.2.2.2.2.2.1;let k:=a.2.2.2.2.2.2.2.2.2.1;let i:=a.2.2.2.2.2.2.2.2.2.2.2.1;let f:=(ix g a.2.2.1 0);let d:=a.2.2.2.2.2.2.2.2.2.2.1;let j:=(ix d f zG); (cond (ilt a.2.2.1 a.2.1) (oN (inb a.2.2.1 (ln g)) (oN (inb f (ln d)) (oN (znb j.Pending a.1) (oN (inb f (ln d)) (l (a.1,(a.2.1,((zK .i64 a.2.2.1 1),(a.2.2.2.1,(h,(g,(a.2.2.2.2.2.2.1,(a.2.2.2.2.2.2.2.1,(a.2.2.2.2.2.2.2.2.1,(k,((up d f ({j with Pending:=(ziq j.Pending a.1)}:Guest)),(i,()))))))))))))))))) (cond (ieq (ln g) 0) (oN (znb h a.1) (some [(aT .bare (⟨k,d,i,(ziq h a.1)⟩:Bare)),(aB true)])) (some [(aT .bare (⟨k,d,i,h⟩:Bare)),(aB true)])))) (c,((ln (zh3 b c)),(0,(0,(e.Pending,((zh3 b c),([],([],([],(e.Memory,(e.Guests,(e.Outs,())))))))))))))))))))
def zTn:FuncId->Nat->Option Tmpl:=zo [(135,0,{n:=59,tm:=[(1,ti),(4,.lp 0 0),(6,.lp 1 0),(7,.sl 0 []),(24,.sl 0 []),(25,ti),(26,ti)],lo:=[(0,[.sl 1 [],.sl 2 [],.sl 3 [],ti]),(1,[.sl 4 [],.sl 5 [],.sl 6 [],ti])],ro:=[(0,.int,true),(1,(.sl .int),true),(2,.guest,true),(3,.int,true),(4,(.sl .int),true),(5,.guest,true),(6,.int,true)]})]
theorem zSe (a:Bare)(c:Int)(l:zpl a c=true):∃N,zEw N a c=some [aT .bare (zhl a c),aB (zgd a c)]:=by
 have h:=zM.1 l;have j:(zdV a.Guests c).length<=big:=qU (zvX _ _ _) (zcQ h.2.1.1).1;refine zcd fun N g=>?_;unfold zEw zhl zgd zgN zea oN nB;conv=>zeta
 refine must (zbd h) (must rfl (brN (fun e=>?_) (fun e=>must rfl (brN (fun d=>?_) (fun d=>must (zbd h) ?_)))));{simp only [show zbK a=false from e,cF]};{simp only [show zbK a=true from e,show hasB c 8=false from by first|exact d|exact(zQT c).symm.trans d,cT,cF]};simp only[show zbK a=true from e,show hasB c 8=true from by first|exact d|exact(zQT c).symm.trans d,cT];refine(zbl (zh3 a c) (fun i (t:lG)=>(c,(ln (zh3 a c)),(i:Int),0,(zc5 a).Pending,(zh3 a c),[],[],[],(zc5 a).Memory,t,(zc5 a).Outs,())) _ (fun _ k (t:List Guest) m=>bif inb k (ln t) then (cond (inb k (ln t)) (m (up t k (zmY (ix t k zG) c))) none) else none) (fun (t:lG)=>(cond (ieq (ln (zh3 a c)) 0) (cond (znb (zc5 a).Pending c) (some [(.agg (Ty.cells .bare (⟨(zc5 a).Memory,t,(zc5 a).Outs,(ziq (zc5 a).Pending c)⟩:Bare))),(.one (.b true))]) none) (some [(.agg (Ty.cells .bare (⟨(zc5 a).Memory,t,(zc5 a).Outs,(zc5 a).Pending⟩:Bare))),(.one (.b true))]))) (fun i f t rec=>?_) (fun t rec=>?_) _ ((zc5 a).Guests) (g j)).trans ?_;{simp only [zbA f,zbh f,zbo f,zbg f j,cT];rfl};{simp only [zbq,cF];rfl};exact(zLn c _ _ 0 _ zCp).trans zPW
theorem zvC:vN 135 zre:=kF2 zLc zx zy zn zTn zSe
def z6K:zX:=[(75,ztR),(107,zpM),(82,zot),(85,zov),(89,zou),(93,ztQ),(140,ztP),(139,ztM),(136,zrh),(135,zre)]++zbcu
theorem zFl:zL z6K:=zh zxp (zh zuh (zh zsW (zh zsY (zh zsX (zh zxo (zh zxn (zh zxk (zh zvF (zh zvC zLc)))))))))
theorem z9h {n:Int}(h:(ieq n 4||ieq n 8)=true):n=4\/n=8:=by rcases jW _ _ ▸ h with h|h;{exact .inl (qE h)};{exact .inr (qE h)}
theorem z8e {n:Int}(h:(ieq n 8||ieq n 12)=true):n=8\/n=12:=by rcases jW _ _ ▸ h with h|h;{exact .inl (qE h)};{exact .inr (qE h)}
@[simp] abbrev zi7 (n:Int):Bool:=ieq n 4||ieq n 8
@[simp] abbrev zgQ (n:Int):List Slot:=List.replicate n.toNat ⟨-1,0⟩
def zrn:Run:=rF1 dI fun b=>(zi7 b,[aS .slot (zgQ b)])
def zXg (N:Nat)(b:Int):OA:=
 (oN (zsb b 0 24) (iter (σ:=(Int×(lS×Unit))) N (fun c a=>(cond (igt a.1 0) (oN zcC (oN (few (ln (ap a.2.1 [zbx]))) (c ((wsub .i64 a.1 1),((ap a.2.1 [zbx]),()))))) (some [(aS .slot a.2.1)]))) ((ztd b 0 24),([],()))))
def zTy:FuncId->Nat->Option Tmpl:=zo [(194,0,{n:=17,tm:=[(3,.sl 0 []),(4,ti)],lo:=[],ro:=[(0,.slot,true)]})]
theorem zSM (a:Int)(b:zi7 a=true):∃N,zXg N a=some [aS .slot (zgQ a)]:=by refine⟨30,?_⟩;have h:a=4\/a=8:=z9h b;rcases h with rfl|rfl<;>(change _=_;kernel_rfl)
theorem zvK:vN 194 zrn:=kF1 zFl zx zy zn zTy zSM
@[simp] abbrev zp7 (n:Int):Bool:=ieq n 8||ieq n 12
@[simp] abbrev zjU (n:Int):List (List Int):=List.replicate n.toNat [0,0,0,0]
def zwl:Run:=rF1 dI fun b=>(zp7 b,[aS (.sl .int) (zjU b)])
def z3T (N:Nat)(b:Int):OA:=
 (oN (zsb b 0 24) (iter (σ:=(Int×(lM×Unit))) N (fun c a=>(cond (igt a.1 0) (oN (cond (few 4) (ieq 4 4) false) (oN (few (ln (ap a.2.1 [(rp 4 0)]))) (c ((wsub .i64 a.1 1),((ap a.2.1 [(rp 4 0)]),()))))) (some [(aS (.sl .int) a.2.1)]))) ((ztd b 0 24),([],()))))
def z0y:FuncId->Nat->Option Tmpl:=zo [(94,0,{n:=17,tm:=[(3,.sl 0 []),(4,ti)],lo:=[],ro:=[(0,(.sl .int),true)]})]
theorem zYN (a:Int)(b:zp7 a=true):∃N,z3T N a=some [aS (.sl .int) (zjU a)]:=by refine⟨30,?_⟩;have h:a=8\/a=12:=z8e b;rcases h with rfl|rfl<;>(change _=_;kernel_rfl)
theorem zz2:vN 94 zwl:=kF1 zFl zx zy zn z0y zYN
def z6L:zX:=[(194,zrn),(94,zwl)]++z6K
theorem zUi:zL z6L:=zh zvK (zh zz2 zFl)
def zl1:List Slot:=List.replicate 4 ⟨-1,0⟩
def zeP (p:List Ins):Guest:=⟨p,0,0,zl1,zl1,⟨0,0,false⟩,0,⟨0,0,false,0⟩,false,[]⟩
@[simp] abbrev zi3 (p:List Ins):Bool:=pc (p.length<=1048576)
@[simp] abbrev zcu (p:List Ins):Guest:=zeP p
def zmu:Run:=rF1 (dS .ins) fun b=>(zi3 b,[aT .guest (zcu b)])
def zEV (N:Nat)(a:lI):OA:=
 (oN (few (ln (ap [] a))) (oN (zi7 4) (oN (zi7 4) (some [(aT .guest (⟨(ap [] a),0,0,(zgQ 4),(zgQ 4),⟨0,0,false⟩,0,⟨0,0,false,0⟩,false,[]⟩:Guest))]))))
theorem zSD (a:List Ins)(b:zi3 a=true):∃N,zEV N a=some [aT .guest (zcu a)]:=by have c:=zM.1 b;refine⟨0,?_⟩;unfold zEV oN;refine mu (must rfl (must rfl ?_));first|rfl|(simp only [*,zcu,zeP,zl1,cT,cF]<;>rfl)|simp_all[Ty.cells,zcu,zeP,zl1]
theorem zok:vN 195 zmu:=kF1 zUi zx zy zn (zo []) zSD
def zbe0:zX:=[(195,zmu)]++z6L
theorem zFm:zL zbe0:=zh zok zUi
def zS2:List (List Int):=List.replicate 8 [0,0,0,0]
def SmPs (a:List (List Ins)):Prop:=a.length<=1048576/\∀p∈a,p.length<=1048576
theorem zUJ {d c j:Type}(m:Nat)(f:d->c)(K:List c->Option j):∀(l:List d) (i:Nat) (a:List c),a.length+l.length<=2147483648->
 goL (fun (i:Nat) x a k=>bif ilt (i:Int) (m:Int) then (cond (few (ln (ap a [f x]))) (k (ap a [f x])) none) else K a) K l i a=K (a++(l.take (m-i)).map f)
 |[],i,a,_=>by simp[goL]
 |x::l,i,a,g=>by simp only[q0]at g;have e:few (ln (ap a [f x]))=true:=zgE (by simp[ap];omega);by_cases h:i<m;{have b:ilt (i:Int) (m:Int)=true:=qJ (by omega);simp only[goL,b,e,cT];rw[zUJ m f K l (i+1) (ap a [f x]) (by simp[ap];omega)];rw[show m-i=m-(i+1)+1 by omega];simp[ap]};{have b:ilt (i:Int) (m:Int)=false:=qH (by omega);simp only[goL,b,cF];rw[show m-i=0 by omega];simp}
@[simp] abbrev zG2 (a:GAct):Bool:=true
@[simp] abbrev zA3 (a:GAct):Bool:=win a.Kind 1 17
def zKg:Run:=rF1 (dT .act) fun b=>(zG2 b,[aB (zA3 b)])
def zTS (N:Nat)(a:GAct):OA:=
 (oN (zN a.Kind 1 17) (some [(aB (zT a.Kind 1 17))]))
theorem z1t (a:GAct)(b:zG2 a=true):∃N,zTS N a=some [aB (zA3 a)]:=by refine⟨0,?_⟩;unfold zTS oN;refine must rfl ?_;first|rfl|(simp only [*,zA3,cT,cF]<;>rfl)|simp_all[Ty.cells,zA3]
theorem zVq:vN 323 zKg:=kF1 zFm zx zy zn (zo []) z1t
@[simp] abbrev zzl (k:Int):Bool:=true
@[simp] abbrev ztf (k:Int):Bool:=win k 13 17
def zDJ:Run:=rF1 dI fun b=>(zzl b,[aB (ztf b)])
def zJu (N:Nat)(a:Int):OA:=
 (oN (zN a 13 17) (some [(aB (zT a 13 17))]))
theorem zV8 (a:Int)(b:zzl a=true):∃N,zJu N a=some [aB (ztf a)]:=by refine⟨0,?_⟩;unfold zJu oN;refine must rfl ?_;first|rfl|(simp only [*,ztf,cT,cF]<;>rfl)|simp_all[Ty.cells,ztf]
theorem zOE:vN 324 zDJ:=kF1 zFm zx zy zn (zo []) zV8
@[simp] abbrev zG3 (a:GAct):Bool:=true
@[simp] abbrev zrq (a:GAct):Ctl:=⟨a.X,a.Y,ieq a.Z 1⟩
def zKh:Run:=rF1 (dT .act) fun b=>(zG3 b,[.agg (zpd (zrq b))])
def zTT (N:Nat)(a:GAct):OA:=
 (some [(.agg [(.i .i64 a.X),(.i .i64 a.Y),(.b (ieq a.Z 1))])])
theorem z1u (a:GAct)(b:zG3 a=true):∃N,zTT N a=some [.agg (zpd (zrq a))]:=by refine⟨0,?_⟩;unfold zTT;first|rfl|(simp only [*,zrq,cT,cF]<;>rfl)|simp_all[Ty.cells,zrq]
theorem zVr:vN 327 zKh:=kF1 zFm zx zy zn (zo []) z1u
def zXI:zX:=[(75,ztR),(107,zpM),(82,zot),(85,zov),(89,zou),(93,ztQ),(140,ztP),(139,ztM),(136,zrh),(135,zre),(94,zwl)]++zbcq
theorem zFo:zL zXI:=zh zxp (zh zuh (zh zsW (zh zsY (zh zsX (zh zxo (zh zxn (zh zxk (zh zvF (zh zvC (zh zz2 zbaa))))))))))
def zc2 (x:Mon):Bare:=⟨zS2,x.Guests,x.Outs,x.Pending⟩
def zuu (x:Mon)(b:Bare):Mon:={x with Guests:=b.Guests,Pending:=b.Pending}
def zcK (h:Host)(m:Int)(b:Bare):Host:={h with Mons:=up h.Mons m (zuu (ix h.Mons m mZ) b)}
@[simp] abbrev zeI (x:Mon):Bool:=pc (zfd x)
@[simp] abbrev zbQ (x:Mon):Bare:=zc2 x
def zDY:Run:=rF1 (dT .mon) fun b=>(zeI b,[aT .bare (zbQ b)])
def zJJ (N:Nat)(a:Mon):OA:=
 (oN (zp7 8) (oN (zfF a.Guests) (oN (few (ln (ap [] a.Outs))) (some [(aT .bare (⟨(zjU 8),(zf9 a.Guests),(ap [] a.Outs),a.Pending⟩:Bare))]))))
theorem zWs (a:Mon)(c:zeI a=true):∃N,zJJ N a=some [aT .bare (zbQ a)]:=by have b:=zM.1 c;refine⟨0,?_⟩;unfold zJJ oN;exact must rfl (must (zbd ((zw8 _).2 b.2.2.2.1)) (must (zoL b.2.2.2.2.1) rfl))
theorem zO7:vN 76 zDY:=kF1 zFo zx zb0 zhS (zo []) zWs
@[simp] abbrev zeH (h:Host)(m:Int)(b:Bare):Bool:=pc (hasB m (ln h.Mons)=true/\zlg b.Guests)
@[simp] abbrev zg3 (h:Host)(m:Int)(b:Bare):Host:=zcK h m b
theorem z9m {l:List Mon}{m:Int}(a:hasB m (ln l)=true)(b:Bare):inb m (ln (up l m {ix l m mZ with Guests:=b.Guests}))=true/\
 up (up l m {ix l m mZ with Guests:=b.Guests}) m {ix (up l m {ix l m mZ with Guests:=b.Guests}) m mZ with Pending:=b.Pending}=up l m (zuu (ix l m mZ) b):=by
 obtain⟨k,rfl,c⟩:=zdS (n:=l.length) a;refine⟨zC (by rw[ln,zgG];exact a),?_⟩
 rw[zyL,zdX c];rfl
def zt1:List AV->Option (Bool×List AV)
 |[.agg [.s (.sl .int) b,.s .mon c,.s .entry d,.s .entry e],.one (.i .i64 f),.agg [.s (.sl .int) g,.s .guest h,.s .int j,.i .i64 k]]=>some ((zeH (⟨b,c,d,e⟩:Host) f (⟨g,h,j,k⟩:Bare)),[aH (zg3 (⟨b,c,d,e⟩:Host) f (⟨g,h,j,k⟩:Bare))])
 |_=>none
def zyY (N:Nat)(b:Host)(a:Int)(c:Bare):OA:=
 (oN (zfF c.Guests) (oN (inb a (ln b.Mons)) (share (up b.Mons a ({ (ix b.Mons a zi) with Guests:=(zf9 c.Guests)}:Mon)) (fun d=>(oN (inb a (ln d)) (share (up d a ({ (ix d a zi) with Pending:=c.Pending}:Mon)) (fun e=>(some [(aH ({b with Mons:=e}:Host))]))))))))
theorem zZk (N:Nat)(a:Host)(b:Int)(c:Bare):z4E (cQ zXI zpF z5z tctN) (zo []) N 12 77 [true,true,true,true,false,false,false,false,false] [aH a,aI b,aT .bare c]=zyY N a b c:=by kernel_rfl
theorem zWr (b:Host)(c:Int)(a:Bare)(i:zce big [aH b,aI c,aT .bare a])(h:zeH b c a=true):∃N,zyY N b c a=some [aH (zg3 b c a)]:=by obtain⟨d,hg⟩:=zM.1 h;obtain⟨f,g⟩:=z9m d a;refine⟨0,?_⟩;unfold zyY oN;refine must (zbd ((zw8 _).2 hg)) (must (zC d) (shr (must f (shr ?_))));have e:zf9 a.Guests=a.Guests:=rfl;rw[e];show some [AV.agg (zbk {b with Mons:=_})]=some [AV.agg (zbk {b with Mons:=_})];rw[show zi=mZ from rfl,g]
theorem zO6:zec Tryz.prog 77 [true,true,true,true,false,false,false,false,false] none zt1:=by refine zRa (zgp zFo zx zb0 zhS) (ziG (by kernel_rfl)) (by kernel_rfl) ?_;intro a g f e h;have c:=ziH e;unfold zt1 at h;split at h;{obtain⟨d,rfl⟩:=zd1 h;obtain⟨N,b⟩:=zWr _ _ _ (by exact c) d;exact⟨_,N,12,(zZk N _ _ _ ).trans b⟩};{cases h}
def z6Q:zX:=[(76,zDY)]++zXI
theorem zgS:zL z6Q:=zh zO7 zFo
def zbf6:ze2:=[(77,([true,true,true,true,false,false,false,false,false],none,zt1))]++tctN
theorem zcH:zd5 zbf6:=zrG zhS (by
 intro x a;simp only[qG,qN,or_false]at a;rcases a with rfl
 .exact zO6)
def zbdd (h:Host)(m:Int)(c:Bool)(B:Bare)(ok:Bool)(a b:Host->Ans):OA:=
 bif zee h then (cond (zmj h) (cond (cond (zlv h) false true) (some (a h)) (cond (zcM m (ln h.Mons)) (cond (cond (zdc m (ln h.Mons)) false true) (some (a h)) (cond (zpv h m) (cond c (cond ok (cond (zeT B.Guests) (cond (inb m (ln h.Mons)) (share (up h.Mons m {ix h.Mons m mZ with Guests:=B.Guests}) fun x=>(cond (inb m (ln x)) (share (up x m {ix x m mZ with Pending:=B.Pending}) fun y=>some (b {h with Mons:=y})) none)) none) none) (some (b h))) none) none)) none)) none) else none
def zbdi (h:Host)(m:Int)(a:Bool)(B:Bare)(b c:Host->Ans):OA:=
 bif zbW h then (cond (zfu h m) (cond (cond (zft h m) false true) (some (b h)) (cond (inb m (ln h.Mons)) (cond (zeI (ix h.Mons m mZ)) (cond a (cond (zeH h m B) (some (c (zcK h m B))) none) none) none) none)) none) else none
theorem zbV {h:Host}{m:Int}:(zcg h m=true)↔zb3 h=true/\hasB m (ln h.Mons)=true:=by unfold zcg;cases zb3 h<;>simp
theorem zZI {h:Host}{m:Int}{cB:Bool}{B:Bare}{ok:Bool}{o0 o1:Host->Ans}(l:SmH h)(k:zcg h m=true->cB=true)(j:zcg h m=true->SmB B)(c:zcg h m=true->ok=false->zcK h m B=h) :
 zbdd h m cB B ok o0 o1=some (cond (zcg h m) (o1 (zcK h m B)) (o0 h)):=by
 have i:zcc h:=(zQ h).2 l;unfold zbdd;refine must (zbd i) (must rfl ?_);rw[show zlv h=zb3 h from rfl]
 have g:zb3 h=true->hasB m (ln h.Mons)=true->cB=true:=fun a b=>k (zbV.2 ⟨a,b⟩);have f:zb3 h=true->hasB m (ln h.Mons)=true->SmB B:=fun a b=>j (zbV.2 ⟨a,b⟩);unfold zcg at c ⊢;cases e:zb3 h
 .rfl
 .refine zcS rfl (must rfl ?_);rw[show zdc m (ln h.Mons)=hasB m (ln h.Mons) from rfl]
  rw[e]at c;cases d:hasB m (ln h.Mons)
  .rfl
  .rw [d]at c;refine zcS rfl (must (zbz i) (must (g e d) ?_));cases ok
   .simp only [cT,cF,c rfl rfl]
   .obtain⟨e1,e2⟩:=z9m d B;refine must rfl (must (zbd (f e d).2.1) (must (zC d) (shr (must e1 (shr ?_)))))
    show some (o1 {h with Mons:=_})=_
    rw[e2];rfl
theorem zoK {h:Host}{m:Int}{cB:Bool}{B:Bare}{o0 o1:Host->Ans}(c:SmH h)(e:zcg h m=true->cB=true)(d:zcg h m=true->SmB B):zbdi h m cB B o0 o1=some (cond (zcg h m) (o1 (zcK h m B)) (o0 h)):=by unfold zbdi;refine must (zbd ((zQ h).2 c)) (must rfl ?_);rw[show zft h m=zcg h m from rfl];cases a:zcg h m;{rfl};{have b:=(zbV.1 a).2;exact zcS rfl (must (zC b) (must (zbd (c.2.1.2 _ (zbD b _))) (must (e a) (must (zbd ⟨b,(d a).2.1⟩) rfl))))}
structure SameB (b c:Bare):Prop where
 g:b.Guests=c.Guests
 p:b.Pending=c.Pending
 o:zbK b=zbK c
theorem SameB.at {b c:Bare}(h:SameB b c)(g:Int):gAt b g=gAt c g:=by unfold gAt;rw[h.g]
theorem SameB.has {b c:Bare}(h:SameB b c)(g:Int):zck b g=zck c g:=by unfold zck;rw[h.g,h.o]
theorem back_eq {h:Host}{m:Int}{b c:Bare}(hg:b.Guests=c.Guests)(a:b.Pending=c.Pending):zcK h m b=zcK h m c:=by unfold zcK zuu;rw[hg,a]
theorem zqQ {b c:Bare}(a:SameB b c)(h:Host)(m g:Int)(k:Bool)(x:Guest):zcK h m (chg b g k x)=zcK h m (chg c g k x):=by unfold chg;rw[a.has];cases (cond (zck c g) k false);{exact back_eq a.g a.p};{exact back_eq (by simp only[cT,zeu,a.g]) a.p}
theorem zl9 {b c:Bare}(a:SameB b c)(g:Int)(k:Bool):zb7 b g k=zb7 c g k:=by unfold zb7;rw[a.has]
theorem zUc {h:Host}{m:Int}(a:hasB m (ln h.Mons)=true):zcK h m (zD h m)=h:=by unfold zcK zuu zD;rw[a,cT];simp only;rw[z0O a]
theorem zjm {h:Host}{m:Int}(b:zcg h m=true)(d:zbK (zc2 (ix h.Mons m mZ))=true):SameB (zc2 (ix h.Mons m mZ)) (zD h m):=by obtain⟨c,a⟩:=zbV.1 b;refine⟨?_,?_,d.trans (zJL c a).symm⟩<;>unfold zD zc2<;>rw [a]<;>rfl
theorem zbea:zhD zS2 8=true:=by decide
theorem zo3 {h:Host}{m:Int}(b:zcg h m=true):zbK (zc2 (ix h.Mons m mZ))=true:=by obtain⟨c,a⟩:=zbV.1 b;have:=zJL c a;unfold zD at this;rw[a,cT] at this;unfold zbK at this ⊢;simp only[zc2,zbea] at *;simp_all
theorem zeR {x:Mon}(h:zfd x):SmB (zc2 x):=⟨show SmM zS2 from ⟨by decide,by decide⟩,h.2.2.2.1,h.2.2.2.2.1⟩
def zd7 (h:Host)(m:Int)(b:Bare):Host:=bif zcg h m then zcK h m b else h
def zdM (h:Host)(m:Int)(ok:Bool):Bool:=bif zcg h m then ok else false
@[simp] abbrev zkG (b:Bare)(g p:Int)(s:Slot):Bare:=chg b g (zt9 p s) (zCL (gAt b g) p s)
@[simp] abbrev znl (b:Bare)(g p:Int)(s:Slot):Bool:=zb7 b g (zt9 p s)
@[simp] abbrev zg9 (b:Bare)(g v:Int):Bare:=chg b g (ztB (gAt b g) v) (zy0 (gAt b g) v)
@[simp] abbrev ziV (b:Bare)(g v:Int):Bool:=zb7 b g (ztB (gAt b g) v)
@[simp] abbrev zhb (b:Bare)(g:Int):Bare:=chg b g (zze (gAt b g)) (zzf (gAt b g))
@[simp] abbrev ziY (b:Bare)(g:Int):Bool:=zb7 b g (zze (gAt b g))
@[simp] abbrev zha (b:Bare)(g n:Int):Bare:=chg b g (zeY (gAt b g).Pending n) (zmY (gAt b g) n)
@[simp] abbrev ziW (b:Bare)(g n:Int):Bool:=zb7 b g (zeY (gAt b g).Pending n)
@[simp] abbrev zkF (b:Bare)(g:Int)(c:Ctl):Bare:=chg b g (zhA c) (zKZ (gAt b g) c)
@[simp] abbrev znk (b:Bare)(g:Int)(c:Ctl):Bool:=zb7 b g (zhA c)
@[simp] abbrev zit (b:Bare):Bare:=zih b
@[simp] abbrev znj (b:Bare):Int:=zod b
@[simp] abbrev zkE (b:Bare):Bool:=zhz b
@[simp] abbrev zhn (b:Bare)(n:Int):Bare:=zgN b n
@[simp] abbrev ziX (b:Bare)(n:Int):Bool:=zea b n
@[simp] abbrev z1P (h:Host)(m:Int)(g p:Int)(s:Slot):Host:=zd7 h m (zkG (zD h m) g p s)
@[simp] abbrev z1Q (h:Host)(m:Int)(g p:Int)(s:Slot):Bool:=zdM h m (znl (zD h m) g p s)
@[simp] abbrev zSU (h:Host)(m:Int)(g v:Int):Host:=zd7 h m (zg9 (zD h m) g v)
@[simp] abbrev zSV (h:Host)(m:Int)(g v:Int):Bool:=zdM h m (ziV (zD h m) g v)
@[simp] abbrev zSY (h:Host)(m:Int)(g:Int):Host:=zd7 h m (zhb (zD h m) g)
@[simp] abbrev zSZ (h:Host)(m:Int)(g:Int):Bool:=zdM h m (ziY (zD h m) g)
@[simp] abbrev zSW (h:Host)(m:Int)(g n:Int):Host:=zd7 h m (zha (zD h m) g n)
@[simp] abbrev zSX (h:Host)(m:Int)(g n:Int):Bool:=zdM h m (ziW (zD h m) g n)
@[simp] abbrev z1N (h:Host)(m:Int)(g:Int)(x:Ctl):Host:=zd7 h m (zkF (zD h m) g x)
@[simp] abbrev z1O (h:Host)(m:Int)(g:Int)(x:Ctl):Bool:=zdM h m (znk (zD h m) g x)
@[simp] abbrev zZc (h:Host)(m:Int)(n:Int):Host:=zd7 h m (zhn (zD h m) n)
@[simp] abbrev zZd (h:Host)(m:Int)(n:Int):Bool:=zdM h m (ziX (zD h m) n)
@[simp] abbrev z1K (h:Host)(m:Int):Host:=zd7 h m (zit (zD h m))
@[simp] abbrev z1L (h:Host)(m:Int):Int:=bif zcg h m then znj (zD h m) else -1
@[simp] abbrev z1M (h:Host)(m:Int):Bool:=zdM h m (zkE (zD h m))
@[simp] abbrev zWt (h:Host)(m g p:Int):Bool:=zdM h m (zb7 (zD h m) g (hasB p 4))
theorem z8B {b c:Bare}(a:SameB b c)(n:Int):(zgN b n).Guests=(zgN c n).Guests/\(zgN b n).Pending=(zgN c n).Pending/\zea b n=zea c n:=by have e:zea b n=zea c n:=(by unfold zea;rw[a.o]);unfold zgN;rw[e];cases zea c n;{exact⟨a.g,a.p,rfl⟩};{unfold zHZ;rw[a.g];cases ieq (ln (zdV c.Guests n)) 0;{exact⟨by simp only[cT,cF],by simp only[cT,cF,a.p],rfl⟩};{exact⟨by simp only[cT,a.g],by simp only[cT,a.p],rfl⟩}}
theorem z8A {b:Bare}{n:Int}(h:zea b n=false):zgN b n=b:=by unfold zgN;rw[h];rfl
theorem z9s {b c:Bare}(a:SameB b c):(zih b).Guests=(zih c).Guests/\(zih b).Pending=(zih c).Pending/\zod b=zod c/\zhz b=zhz c:=by unfold zih zod zhz;rw[a.o,a.p];cases zbK c;{exact⟨a.g,a.p,rfl,rfl⟩};{exact⟨a.g,rfl,rfl,rfl⟩}
theorem z9r {b:Bare}(h:zhz b=false):zih b=b:=by unfold zih;unfold zhz at h;cases c:zbK b;{rfl};{rw [c]at h;have a:ilt (zdi b.Pending) 0=true:=(by simpa using h);unfold zfx;simp only[a,cT]}
theorem z81 {b:Bare}{n:Int}(h:SmB b):SmB (zgN b n):=by unfold zgN;cases zea b n;{exact h};{unfold zHZ;cases ieq (ln (zdV b.Guests n)) 0;{exact⟨h.1,(zHl _ zCp h.2.1).1,h.2.2⟩};{exact h}}
theorem zba9 {b:Bare}(h:SmB b):SmB (zih b):=by unfold zih;cases zbK b;{exact h};{exact h}
theorem zuZ {H a:Host}{x y:Bool}(c:H=a)(d:x=y):some [AV.agg (zbk H),AV.one (.b x)]=some [AV.agg (zbk a),AV.one (.b y)]:=by rw[c,d]
theorem zbdy {H a:Host}{n k:Int}{x y:Bool}(c:H=a)(d:n=k)(e:x=y):some [AV.agg (zbk H),AV.one (.i .i64 n),AV.one (.b x)]=some [AV.agg (zbk a),AV.one (.i .i64 k),AV.one (.b y)]:=by rw[c,d,e]
theorem z3y {b:Bare}(g p:Int)(s:Slot)(a:SmB b):SmB (zkG b g p s):=zrE a (zbbc _ _ (zkw _ a))
theorem zba5 {b c:Bare}(a:SameB b c)(h:Host)(m:Int)(g p:Int)(s:Slot):zcK h m (zkG b g p s)=zcK h m (zkG c g p s)/\znl b g p s=znl c g p s:=by have e:=a.at g;simp only[zkG,znl,e];exact⟨zqQ a _ _ _ _ _,zl9 a _ _⟩
@[simp] abbrev zzk (h:Host)(m:Int)(g p:Int)(s:Slot):Bool:=pc (zcc h)
@[simp] abbrev zsj (h:Host)(m:Int)(g p:Int)(s:Slot):Host:=zd7 h m (zkG (zD h m) g p s)
@[simp] abbrev zsk (h:Host)(m:Int)(g p:Int)(s:Slot):Bool:=zdM h m (znl (zD h m) g p s)
def zDI:Run:=rF5 dH dI dI dI (dT .slot) fun b c d e f=>(zzk b c d e f,[aH (zsj b c d e f),aB (zsk b c d e f)])
def zJt (N:Nat)(g:Host)(b d e:Int)(f:Slot):OA:=
 let a:=(zu g);let c:=(ix a.Mons b zi); (oN (zbW g) (oN (zfu a b) (cond (nB (zft a b)) (some [(aH a),(aB false)]) (oN (inb b (ln a.Mons)) (oN (zeI c) (oN (zsa (zbQ c) d e f) (oN (zeH a b (ziw (zbQ c) d e f)) (some [(aH (zg3 a b (ziw (zbQ c) d e f))),(aB (zkL (zbQ c) d e f))]))))))))
theorem zV7 (a:Host)(c d e:Int)(f:Slot)(n:zzk a c d e f=true):∃N,zJt N a c d e f=some [aH (zsj a c d e f),aB (zsk a c d e f)]:=by
 have i:=(zQ a).1 (zM.1 n);refine⟨0,?_⟩;have j:=zoK (h:=a) (m:=c) (cB:=zsa (zc2 (ix a.Mons c mZ)) d e f) (B:=ziw (zc2 (ix a.Mons c mZ)) d e f) (o0:=fun H=>[.agg (zbk H),.one (.b false)]) (o1:=fun H=>[.agg (zbk H),.one (.b (zkL (zc2 (ix a.Mons c mZ)) d e f))]) i
  (fun g=>zbd (zeR (i.2.1.2 _ (zbD (zbV.1 g).2 _)))) (fun g=>z3y _ _ _ (zeR (i.2.1.2 _ (zbD (zbV.1 g).2 _))))
 refine(show zJt 0 a c d e f=_ from j).trans ?_;unfold zsj zsk zd7 zdM;cases g:zcg a c;{rfl};{obtain⟨k,l⟩:=zba5 (zjm g (zo3 g)) a c d e f;simp only[cT];exact zuZ k l}
theorem zOD:vN 10 zDI:=kF5 zgS zx zb0 zcH (zo []) zV7
theorem zQm {b:Bare}(g v:Int)(a:SmB b):SmB (zg9 b g v):=zrE a (zbba _ (zkw _ a))
theorem z2p {b c:Bare}(a:SameB b c)(h:Host)(m:Int)(g v:Int):zcK h m (zg9 b g v)=zcK h m (zg9 c g v)/\ziV b g v=ziV c g v:=by have e:=a.at g;simp only[zg9,ziV,e];exact⟨zqQ a _ _ _ _ _,zl9 a _ _⟩
@[simp] abbrev zru (h:Host)(m:Int)(g v:Int):Bool:=pc (zcc h)
@[simp] abbrev zmB (h:Host)(m:Int)(g v:Int):Host:=zd7 h m (zg9 (zD h m) g v)
@[simp] abbrev zmC (h:Host)(m:Int)(g v:Int):Bool:=zdM h m (ziV (zD h m) g v)
def zwi:Run:=rF4 dH dI dI dI fun b c d e=>(zru b c d e,[aH (zmB b c d e),aB (zmC b c d e)])
def zzM (N:Nat)(f:Host)(b d e:Int):OA:=
 let a:=(zu f);let c:=(ix a.Mons b zi); (oN (zbW f) (oN (zfu a b) (cond (nB (zft a b)) (some [(aH a),(aB false)]) (oN (inb b (ln a.Mons)) (oN (zeI c) (oN (zmv (zbQ c) d e) (oN (zeH a b (zfQ (zbQ c) d e)) (some [(aH (zg3 a b (zfQ (zbQ c) d e))),(aB (zhd (zbQ c) d e))]))))))))
theorem zMn (a:Host)(c d e:Int)(l:zru a c d e=true):∃N,zzM N a c d e=some [aH (zmB a c d e),aB (zmC a c d e)]:=by
 have g:=(zQ a).1 (zM.1 l);refine⟨0,?_⟩;have i:=zoK (h:=a) (m:=c) (cB:=zmv (zc2 (ix a.Mons c mZ)) d e) (B:=zfQ (zc2 (ix a.Mons c mZ)) d e) (o0:=fun H=>[.agg (zbk H),.one (.b false)]) (o1:=fun H=>[.agg (zbk H),.one (.b (zhd (zc2 (ix a.Mons c mZ)) d e))]) g
  (fun f=>zbd (zeR (g.2.1.2 _ (zbD (zbV.1 f).2 _)))) (fun f=>zQm _ _ (zeR (g.2.1.2 _ (zbD (zbV.1 f).2 _))))
 refine(show zzM 0 a c d e=_ from i).trans ?_;unfold zmB zmC zd7 zdM;cases f:zcg a c;{rfl};{obtain⟨j,k⟩:=z2p (zjm f (zo3 f)) a c d e;simp only[cT];exact zuZ j k}
theorem zFH:vN 13 zwi:=kF4 zgS zx zb0 zcH (zo []) zMn
theorem zQo {b:Bare}(g:Int)(a:SmB b):SmB (zhb b g):=zrE a (zbbb (zkw _ a))
theorem z2r {b c:Bare}(a:SameB b c)(h:Host)(m:Int)(g:Int):zcK h m (zhb b g)=zcK h m (zhb c g)/\ziY b g=ziY c g:=by have e:=a.at g;simp only[zhb,ziY,e];exact⟨zqQ a _ _ _ _ _,zl9 a _ _⟩
@[simp] abbrev zrx (h:Host)(m:Int)(g:Int):Bool:=pc (zcc h)
@[simp] abbrev zmF (h:Host)(m:Int)(g:Int):Host:=zd7 h m (zhb (zD h m) g)
@[simp] abbrev zmG (h:Host)(m:Int)(g:Int):Bool:=zdM h m (ziY (zD h m) g)
def zwk:Run:=rF3 dH dI dI fun b c d=>(zrx b c d,[aH (zmF b c d),aB (zmG b c d)])
def zzO (N:Nat)(e:Host)(b d:Int):OA:=
 let a:=(zu e);let c:=(ix a.Mons b zi); (oN (zbW e) (oN (zfu a b) (cond (nB (zft a b)) (some [(aH a),(aB false)]) (oN (inb b (ln a.Mons)) (oN (zeI c) (oN (zmx (zbQ c) d) (oN (zeH a b (zfS (zbQ c) d)) (some [(aH (zg3 a b (zfS (zbQ c) d))),(aB (zhf (zbQ c) d))]))))))))
theorem zMp (a:Host)(c d:Int)(k:zrx a c d=true):∃N,zzO N a c d=some [aH (zmF a c d),aB (zmG a c d)]:=by
 have f:=(zQ a).1 (zM.1 k);refine⟨0,?_⟩;have g:=zoK (h:=a) (m:=c) (cB:=zmx (zc2 (ix a.Mons c mZ)) d) (B:=zfS (zc2 (ix a.Mons c mZ)) d) (o0:=fun H=>[.agg (zbk H),.one (.b false)]) (o1:=fun H=>[.agg (zbk H),.one (.b (zhf (zc2 (ix a.Mons c mZ)) d))]) f
  (fun e=>zbd (zeR (f.2.1.2 _ (zbD (zbV.1 e).2 _)))) (fun e=>zQo _ (zeR (f.2.1.2 _ (zbD (zbV.1 e).2 _))))
 refine(show zzO 0 a c d=_ from g).trans ?_;unfold zmF zmG zd7 zdM;cases e:zcg a c;{rfl};{obtain⟨i,j⟩:=z2r (zjm e (zo3 e)) a c d;simp only[cT];exact zuZ i j}
theorem zFJ:vN 16 zwk:=kF3 zgS zx zb0 zcH (zo []) zMp
theorem zQn {b:Bare}(g n:Int)(a:SmB b):SmB (zha b g n):=zrE a (zkw (b:=b) _ a)
theorem z2q {b c:Bare}(a:SameB b c)(h:Host)(m:Int)(g n:Int):zcK h m (zha b g n)=zcK h m (zha c g n)/\ziW b g n=ziW c g n:=by have e:=a.at g;simp only[zha,ziW,e];exact⟨zqQ a _ _ _ _ _,zl9 a _ _⟩
@[simp] abbrev zrv (h:Host)(m:Int)(g n:Int):Bool:=pc (zcc h)
@[simp] abbrev zmD (h:Host)(m:Int)(g n:Int):Host:=zd7 h m (zha (zD h m) g n)
@[simp] abbrev zmE (h:Host)(m:Int)(g n:Int):Bool:=zdM h m (ziW (zD h m) g n)
def zwj:Run:=rF4 dH dI dI dI fun b c d e=>(zrv b c d e,[aH (zmD b c d e),aB (zmE b c d e)])
def zzN (N:Nat)(f:Host)(b d e:Int):OA:=
 let a:=(zu f);let c:=(ix a.Mons b zi); (oN (zbW f) (oN (zfu a b) (cond (nB (zft a b)) (some [(aH a),(aB false)]) (oN (inb b (ln a.Mons)) (oN (zeI c) (oN (zmw (zbQ c) d e) (oN (zeH a b (zfR (zbQ c) d e)) (some [(aH (zg3 a b (zfR (zbQ c) d e))),(aB (zhe (zbQ c) d e))]))))))))
theorem zMo (a:Host)(c d e:Int)(l:zrv a c d e=true):∃N,zzN N a c d e=some [aH (zmD a c d e),aB (zmE a c d e)]:=by
 have g:=(zQ a).1 (zM.1 l);refine⟨0,?_⟩;have i:=zoK (h:=a) (m:=c) (cB:=zmw (zc2 (ix a.Mons c mZ)) d e) (B:=zfR (zc2 (ix a.Mons c mZ)) d e) (o0:=fun H=>[.agg (zbk H),.one (.b false)]) (o1:=fun H=>[.agg (zbk H),.one (.b (zhe (zc2 (ix a.Mons c mZ)) d e))]) g
  (fun f=>zbd (zeR (g.2.1.2 _ (zbD (zbV.1 f).2 _)))) (fun f=>zQn _ _ (zeR (g.2.1.2 _ (zbD (zbV.1 f).2 _))))
 refine(show zzN 0 a c d e=_ from i).trans ?_;unfold zmD zmE zd7 zdM;cases f:zcg a c;{rfl};{obtain⟨j,k⟩:=z2q (zjm f (zo3 f)) a c d e;simp only[cT];exact zuZ j k}
theorem zFI:vN 19 zwj:=kF4 zgS zx zb0 zcH (zo []) zMo
theorem z3x {b:Bare}(g:Int)(x:Ctl)(a:SmB b):SmB (zkF b g x):=zrE a (zkw (b:=b) _ a)
theorem zba4 {b c:Bare}(a:SameB b c)(h:Host)(m:Int)(g:Int)(x:Ctl):zcK h m (zkF b g x)=zcK h m (zkF c g x)/\znk b g x=znk c g x:=by have e:=a.at g;simp only[zkF,znk,e];exact⟨zqQ a _ _ _ _ _,zl9 a _ _⟩
@[simp] abbrev zzj (h:Host)(m:Int)(g:Int)(x:Ctl):Bool:=pc (zcc h)
@[simp] abbrev zsf (h:Host)(m:Int)(g:Int)(x:Ctl):Host:=zd7 h m (zkF (zD h m) g x)
@[simp] abbrev zsg (h:Host)(m:Int)(g:Int)(x:Ctl):Bool:=zdM h m (znk (zD h m) g x)
def zDH:Run:=rF4 dH dI dI dC fun b c d e=>(zzj b c d e,[aH (zsf b c d e),aB (zsg b c d e)])
def zJq (N:Nat)(f:Host)(b d:Int)(e:Ctl):OA:=
 let a:=(zu f);let c:=(ix a.Mons b zi); (oN (zbW f) (oN (zfu a b) (cond (nB (zft a b)) (some [(aH a),(aB false)]) (oN (inb b (ln a.Mons)) (oN (zeI c) (oN (zr9 (zbQ c) d e) (oN (zeH a b (ziv (zbQ c) d e)) (some [(aH (zg3 a b (ziv (zbQ c) d e))),(aB (zkK (zbQ c) d e))]))))))))
theorem zV4 (a:Host)(c d:Int)(e:Ctl)(l:zzj a c d e=true):∃N,zJq N a c d e=some [aH (zsf a c d e),aB (zsg a c d e)]:=by
 have g:=(zQ a).1 (zM.1 l);refine⟨0,?_⟩;have i:=zoK (h:=a) (m:=c) (cB:=zr9 (zc2 (ix a.Mons c mZ)) d e) (B:=ziv (zc2 (ix a.Mons c mZ)) d e) (o0:=fun H=>[.agg (zbk H),.one (.b false)]) (o1:=fun H=>[.agg (zbk H),.one (.b (zkK (zc2 (ix a.Mons c mZ)) d e))]) g
  (fun f=>zbd (zeR (g.2.1.2 _ (zbD (zbV.1 f).2 _)))) (fun f=>z3x _ _ (zeR (g.2.1.2 _ (zbD (zbV.1 f).2 _))))
 refine(show zJq 0 a c d e=_ from i).trans ?_;unfold zsf zsg zd7 zdM;cases f:zcg a c;{rfl};{obtain⟨j,k⟩:=zba4 (zjm f (zo3 f)) a c d e;simp only[cT];exact zuZ j k}
theorem zOC:vN 22 zDH:=kF4 zgS zx zb0 zcH (zo []) zV4
theorem zCN {b:Bare}(n:Int)(a:SmB b):SmB (zhn b n):=z81 a
theorem z8m {b:Bare}(n:Int)(a:ziX b n=false):zhn b n=b:=z8A a
theorem z8R {b c:Bare}(f:SameB b c)(h:Host)(m n:Int):zcK h m (zhn b n)=zcK h m (zhn c n)/\ziX b n=ziX c n:=by obtain⟨a,d,e⟩:=z8B f n;exact⟨back_eq a d,e⟩
@[simp] abbrev zp4 (h:Host)(m:Int)(n:Int):Bool:=pc (zcc h)
@[simp] abbrev zi4 (h:Host)(m:Int)(n:Int):Host:=zd7 h m (zhn (zD h m) n)
@[simp] abbrev zlO (h:Host)(m:Int)(n:Int):Bool:=zdM h m (ziX (zD h m) n)
def zrj:Run:=rF3 dH dI dI fun b c d=>(zp4 b c d,[aH (zi4 b c d),aB (zlO b c d)])
def zEY (N:Nat)(e:Host)(b d:Int):OA:=
 let a:=(zu e);let c:=(ix a.Mons b zi); (oN (zbW e) (oN (zfu a b) (cond (nB (zft a b)) (some [(aH a),(aB false)]) (oN (inb b (ln a.Mons)) (oN (zeI c) (oN (zpY (zbQ c) d) (oN (zeH a b (zi2 (zbQ c) d)) (some [(aH (zg3 a b (zi2 (zbQ c) d))),(aB (zlL (zbQ c) d))]))))))))
theorem zSG (a:Host)(c d:Int)(k:zp4 a c d=true):∃N,zEY N a c d=some [aH (zi4 a c d),aB (zlO a c d)]:=by
 have f:=(zQ a).1 (zM.1 k);refine⟨0,?_⟩;have g:=zoK (h:=a) (m:=c) (cB:=zpY (zc2 (ix a.Mons c mZ)) d) (B:=zi2 (zc2 (ix a.Mons c mZ)) d) (o0:=fun H=>[.agg (zbk H),.one (.b false)]) (o1:=fun H=>[.agg (zbk H),.one (.b (zlL (zc2 (ix a.Mons c mZ)) d))]) f
  (fun e=>zbd (zeR (f.2.1.2 _ (zbD (zbV.1 e).2 _)))) (fun e=>zCN _ (zeR (f.2.1.2 _ (zbD (zbV.1 e).2 _))))
 refine(show zEY 0 a c d=_ from g).trans ?_;unfold zi4 zlO zd7 zdM;cases e:zcg a c;{rfl};{obtain⟨i,j⟩:=z8R (zjm e (zo3 e)) a c d;simp only[cT];exact zuZ i j}
theorem zvH:vN 53 zrj:=kF3 zgS zx zb0 zcH (zo []) zSG
@[simp] abbrev zpo (h:Host)(m:Int)(n:Int):Bool:=pc (zcc h)
@[simp] abbrev zfi (h:Host)(m:Int)(n:Int):Host:=zd7 h m (zhn (zD h m) n)
@[simp] abbrev ziN (h:Host)(m:Int)(n:Int):Bool:=zdM h m (ziX (zD h m) n)
def zrf:Run:=rF3 dH dI dI fun b c d=>(zpo b c d,[aH (zfi b c d),aB (ziN b c d)])
def zEy (N:Nat)(b:Host)(a c:Int):OA:=
 let e:=(zf1 b);let d:=(zvS b a); (oN (zee b) (oN (zmj b) (cond (nB (zlv b)) (some [(aH e),(aB false)]) (oN (zcM a (ln b.Mons)) (cond (nB (zdc a (ln b.Mons))) (some [(aH e),(aB false)]) (oN (zpv b a) (oN (zpl d c) (cond (zgd d c) (oN (zeT (zhl d c).Guests) (oN (inb a (ln e.Mons)) (share (up e.Mons a ({ (ix e.Mons a zi) with Guests:=(zge (zhl d c).Guests)}:Mon)) (fun f=>(oN (inb a (ln f)) (share (up f a ({ (ix f a zi) with Pending:=(zhl d c).Pending}:Mon)) (fun g=>(some [(aH ({e with Mons:=g}:Host)),(aB (zgd d c))])))))))) (some [(aH e),(aB (zgd d c))])))))))))
theorem zSg (a:Host)(c d:Int)(i:zpo a c d=true):∃N,zEy N a c d=some [aH (zfi a c d),aB (ziN a c d)]:=by
 have f:=(zQ a).1 (zM.1 i);refine⟨0,?_⟩;have g:=zZI (h:=a) (m:=c) (cB:=zpl (zD a c) d) (B:=zhl (zD a c) d) (ok:=zgd (zD a c) d) (o0:=fun H=>[.agg (zbk H),.one (.b false)]) (o1:=fun H=>[.agg (zbk H),.one (.b (zgd (zD a c) d))]) f
  (fun e=>zbd (zoH f (zbV.1 e).2)) (fun e=>zCN _ (zoH f (zbV.1 e).2)) (fun e j=>(congrArg (zcK a c) (z8m _ j)).trans (zUc (zbV.1 e).2))
 refine(show zEy 0 a c d=_ from g).trans ?_;unfold zfi ziN zd7 zdM;cases zcg a c<;>rfl
theorem zvD:vN 52 zrf:=kF3 zgS zx zb0 zcH (zo []) zSg
theorem zTg {b:Bare}(a:SmB b):SmB (zit b):=zba9 a
theorem zbaL {b:Bare}(a:zkE b=false):zit b=b:=z9r a
theorem zba3 {b c:Bare}(g:SameB b c)(h:Host)(m:Int):zcK h m (zit b)=zcK h m (zit c)/\znj b=znj c/\zkE b=zkE c:=by obtain⟨a,d,e,f⟩:=z9s g;exact⟨back_eq a d,e,f⟩
@[simp] abbrev zsd (h:Host)(m:Int):Bool:=pc (zcc h)
@[simp] abbrev zkM (h:Host)(m:Int):Host:=zd7 h m (zit (zD h m))
@[simp] abbrev znu (h:Host)(m:Int):Int:=bif zcg h m then znj (zD h m) else -1
@[simp] abbrev znv (h:Host)(m:Int):Bool:=zdM h m (zkE (zD h m))
def ztT:Run:=rF2 dH dI fun b c=>(zsd b c,[aH (zkM b c),aI (znu b c),aB (znv b c)])
def zJo (N:Nat)(d:Host)(b:Int):OA:=
 let a:=(zu d);let c:=(ix a.Mons b zi); (oN (zbW d) (oN (zfu a b) (cond (nB (zft a b)) (some [(aH a),(aI (-1)),(aB false)]) (oN (inb b (ln a.Mons)) (oN (zeI c) (oN (zr8 (zbQ c)) (oN (zeH a b (ziu (zbQ c))) (some [(aH (zg3 a b (ziu (zbQ c)))),(aI (zkI (zbQ c))),(aB (zkJ (zbQ c)))]))))))))
theorem zV2 (a:Host)(c:Int)(l:zsd a c=true):∃N,zJo N a c=some [aH (zkM a c),aI (znu a c),aB (znv a c)]:=by
 have e:=(zQ a).1 (zM.1 l);refine⟨0,?_⟩;have f:=zoK (h:=a) (m:=c) (cB:=zr8 (zc2 (ix a.Mons c mZ))) (B:=ziu (zc2 (ix a.Mons c mZ))) (o0:=fun H=>[.agg (zbk H),.one (.i .i64 (-1)),.one (.b false)]) (o1:=fun H=>[.agg (zbk H),.one (.i .i64 (zkI (zc2 (ix a.Mons c mZ)))),.one (.b (zkJ (zc2 (ix a.Mons c mZ))))]) e
  (fun d=>zbd (zeR (e.2.1.2 _ (zbD (zbV.1 d).2 _)))) (fun d=>zTg (zeR (e.2.1.2 _ (zbD (zbV.1 d).2 _))))
 refine(show zJo 0 a c=_ from f).trans ?_;unfold zkM znu znv zd7 zdM;cases d:zcg a c;{rfl};{obtain⟨g,j,k⟩:=zba3 (zjm d (zo3 d)) a c;simp only[cT];exact zbdy g j k}
theorem zxr:vN 56 ztT:=kF2 zgS zx zb0 zcH (zo []) zV2
@[simp] abbrev zy5 (h:Host)(m:Int):Bool:=pc (zcc h)
@[simp] abbrev zna (h:Host)(m:Int):Host:=zd7 h m (zit (zD h m))
@[simp] abbrev zrW (h:Host)(m:Int):Int:=bif zcg h m then znj (zD h m) else -1
@[simp] abbrev zrX (h:Host)(m:Int):Bool:=zdM h m (zkE (zD h m))
def ztN:Run:=rF2 dH dI fun b c=>(zy5 b c,[aH (zna b c),aI (zrW b c),aB (zrX b c)])
def zI9 (N:Nat)(c:Host)(a:Int):OA:=
 let d:=(zf1 c);let b:=(zvS c a); (oN (zee c) (oN (zmj c) (cond (nB (zlv c)) (some [(aH d),(aI (-1)),(aB false)]) (oN (zcM a (ln c.Mons)) (cond (nB (zdc a (ln c.Mons))) (some [(aH d),(aI (-1)),(aB false)]) (oN (zpv c a) (oN (zrU b) (cond (zfZ b) (oN (zeT (zgU b).Guests) (oN (inb a (ln d.Mons)) (share (up d.Mons a ({ (ix d.Mons a zi) with Guests:=(zge (zgU b).Guests)}:Mon)) (fun e=>(oN (inb a (ln e)) (share (up e a ({ (ix e a zi) with Pending:=(zgU b).Pending}:Mon)) (fun f=>(some [(aH ({d with Mons:=f}:Host)),(aI (zin b)),(aB (zfZ b))])))))))) (some [(aH d),(aI (zin b)),(aB (zfZ b))])))))))))
theorem zVM (a:Host)(c:Int)(g:zy5 a c=true):∃N,zI9 N a c=some [aH (zna a c),aI (zrW a c),aB (zrX a c)]:=by
 have e:=(zQ a).1 (zM.1 g);refine⟨0,?_⟩;have f:=zZI (h:=a) (m:=c) (cB:=zrU (zD a c)) (B:=zgU (zD a c)) (ok:=zfZ (zD a c)) (o0:=fun H=>[.agg (zbk H),.one (.i .i64 (-1)),.one (.b false)]) (o1:=fun H=>[.agg (zbk H),.one (.i .i64 (zin (zD a c))),.one (.b (zfZ (zD a c)))]) e
  (fun d=>zbd (zoH e (zbV.1 d).2)) (fun d=>zTg (zoH e (zbV.1 d).2)) (fun d j=>(congrArg (zcK a c) (zbaL j)).trans (zUc (zbV.1 d).2))
 refine(show zI9 0 a c=_ from f).trans ?_;unfold zna zrW zrX zd7 zdM;cases zcg a c<;>rfl
theorem zxl:vN 55 ztN:=kF2 zgS zx zb0 zcH (zo []) zVM
def z6R:zX:=[(10,zDI),(13,zwi),(16,zwk),(19,zwj),(22,zDH),(53,zrj),(52,zrf),(56,ztT),(55,ztN)]++z6Q
theorem zw6:zL z6R:=zh zOD (zh zFH (zh zFJ (zh zFI (zh zOC (zh zvH (zh zvD (zh zxr (zh zxl zgS))))))))
def zj4 (h:Host)(m t:Int):Host:=bif zb3 h then (cond (hasB m (ln h.Mons)) (cond (win t 0 3) {h with Mons:=up h.Mons m {ix h.Mons m mZ with Traps:=t}} h) h) else h
def zCK (h:Host)(m t:Int):Bool:=bif zb3 h then (cond (hasB m (ln h.Mons)) (win t 0 3) false) else false
@[simp] abbrev zwA (h:Host)(m t:Int):Bool:=pc (zcc h)
@[simp] abbrev zp8 (h:Host)(m t:Int):Host:=zj4 h m t
@[simp] abbrev zp9 (h:Host)(m t:Int):Bool:=zCK h m t
def zAW:Run:=rF3 dH dI dI fun b c d=>(zwA b c d,[aH (zp8 b c d),aB (zp9 b c d)])
def zE2 (N:Nat)(d:Host)(b c:Int):OA:=
 let a:=(zu d); (oN (zbW d) (oN (zfn a) (cond (nB (zfm a)) (some [(aH a),(aB false)]) (oN (zN b 0 (wsub .i64 (ln a.Mons) 1)) (cond (nB (zT b 0 (wsub .i64 (ln a.Mons) 1))) (some [(aH a),(aB false)]) (oN (zN c 0 3) (cond (nB (zT c 0 3)) (some [(aH a),(aB false)]) (oN (inb b (ln a.Mons)) (share (up a.Mons b ({ (ix a.Mons b zi) with Traps:=c}:Mon)) (fun e=>(some [(aH ({a with Mons:=e}:Host)),(aB true)])))))))))))
theorem zSL (a:Host)(b c:Int)(d:zwA a b c=true):∃N,zE2 N a b c=some [aH (zp8 a b c),aB (zp9 a b c)]:=by
 have g:=(zQ a).1 (zM.1 d);refine⟨0,?_⟩;unfold zE2 zp8 zp9 zj4 zCK oN nB;conv=>zeta
 refine must d (must rfl ?_);rw[show zfm (zu a)=zb3 a from rfl];cases e:zb3 a;{rfl};{refine zcS rfl (must rfl ?_);rw[show zT b 0 (wsub .i64 (ln (zu a).Mons) 1)=hasB b (ln a.Mons) from zTJ e b];cases f:hasB b (ln a.Mons);{rfl};{refine zcS rfl (must rfl ?_);rw[show zT c 0 3=win c 0 3 from rfl];cases h:win c 0 3;{rfl};{exact zcS rfl (must (zC f) rfl)}}}
theorem zLR:vN 338 zAW:=kF3 zw6 zx zb0 zcH (zo []) zSL
theorem zkH {h:Host}{m p:Int}:(zcE h m p=true)↔zb3 h=true/\hasB m (ln h.Mons)=true/\hasB p 8=true:=by unfold zcE;cases zb3 h<;>cases hasB m (ln h.Mons)<;>simp
def zk2 (h:Host)(m p:Int):Bool:=ieq (ix (ix h.Mons m mZ).Outer p sZ).Page (-1)
def zq7 (h:Host)(m p:Int):Host:=bif zcE h m p then (cond (zk2 h m p) h (zdx h m p)) else h
def zGa (h:Host)(m p:Int):Bool:=bif zcE h m p then !zk2 h m p else false
def zv3 (h:Host)(m p:Int):Host:=bif zcE h m p then (cond (zk2 h m p) (fetched h m p) h) else h
def zMw (h:Host)(m p:Int):Bool:=bif zcE h m p then zk2 h m p else false
@[simp] abbrev zzn (h:Host)(m p:Int):Bool:=pc (zcc h)
@[simp] abbrev zsn (h:Host)(m p:Int):Host:=zq7 h m p
@[simp] abbrev zso (h:Host)(m p:Int):Bool:=zGa h m p
@[simp] abbrev zCu (h:Host)(m p:Int):Bool:=pc (zcc h)
@[simp] abbrev zuM (h:Host)(m p:Int):Host:=zv3 h m p
@[simp] abbrev zuN (h:Host)(m p:Int):Bool:=zMw h m p
theorem zPK {h:Host}(f:SmH h)(c:zb3 h=true){m p:Int}(d:hasB m (ln h.Mons)=true)(e:hasB p 8=true) :
 (cond (ieq (ix (ix h.Mons m mZ).Outer p sZ).Page (-1)) (ieq (ix (ix h.Mons m mZ).Outer p sZ).Rights 0) false)=zk2 h m p:=by
 have a:=(zuD (zgT c _ (zbD d mZ)) e).no;unfold zc1 at a;unfold zk2;rw[<- a];cases b:ieq (ix (ix h.Mons m mZ).Outer p sZ).Page (-1)<;>simp [noSlot,b]
theorem zUP {h:Host}(d:SmH h)(a:zb3 h=true){m p:Int}(b:hasB m (ln h.Mons)=true)(c:hasB p 8=true):inb p (ln (ix h.Mons m mZ).Outer)=true :=
 zC (by rw[ln,((zff d a).1.2 _ (zbD b mZ)).1];exact c)
def zDM:Run:=rF3 dH dI dI fun b c d=>(zzn b c d,[aH (zsn b c d),aB (zso b c d)])
def zJx (N:Nat)(e:Host)(c b:Int):OA:=
 let a:=(zu e);let d:=(ix a.Mons c zi).Outer; (oN (zbW e) (oN (zoY a c b) (cond (nB (zhR a c b)) (some [(aH a),(aB false)]) (oN (inb c (ln a.Mons)) (oN (inb b (ln d)) (oN zcC (cond (cond (ieq (ix d b zV).Page zbx.Page) (ieq (ix d b zV).Rights zbx.Rights) false) (some [(aH a),(aB false)]) (oN (zuW a c b) (some [(aH (zCJ a c b)),(aB true)])))))))))
theorem zWc (a:Host)(b c:Int)(h:zzn a b c=true):∃N,zJx N a b c=some [aH (zsn a b c),aB (zso a b c)]:=by
 have g:=(zQ a).1 (zM.1 h);refine⟨0,?_⟩;unfold zJx zsn zso zq7 zGa oN nB;conv=>zeta
 refine must h (must rfl ?_);rw[show zhR (zu a) b c=zcE a b c from rfl];cases i:zcE a b c;{rfl};{obtain⟨e,d,f⟩:=zkH.1 i;refine zcS rfl (must (zC d) (must (zUP g e d f) (must rfl ?_)));rw[show (cond (ieq (ix (ix (zu a).Mons b zi).Outer c zV).Page zbx.Page) (ieq (ix (ix (zu a).Mons b zi).Outer c zV).Rights zbx.Rights) false)=zk2 a b c from zPK g e d f];cases j:zk2 a b c;{exact zcS rfl (must (zbd ⟨(zff g e).1,d,f⟩) rfl)};{rfl}}
theorem zOH:vN 335 zDM:=kF3 zw6 zx zb0 zcH (zo []) zWc
def zGN:Run:=rF3 dH dI dI fun b c d=>(zCu b c d,[aH (zuM b c d),aB (zuN b c d)])
def zNA (N:Nat)(e:Host)(c b:Int):OA:=
 let a:=(zu e);let d:=(ix a.Mons c zi).Outer; (oN (zbW e) (oN (zoY a c b) (cond (nB (zhR a c b)) (some [(aH a),(aB false)]) (oN (inb c (ln a.Mons)) (oN (inb b (ln d)) (oN zcC (cond (nB (cond (ieq (ix d b zV).Page zbx.Page) (ieq (ix d b zV).Rights zbx.Rights) false)) (some [(aH a),(aB false)]) (oN (zyE a c b) (some [(aH (zA9 a c b)),(aB true)])))))))))
theorem zYS (a:Host)(b c:Int)(h:zCu a b c=true):∃N,zNA N a b c=some [aH (zuM a b c),aB (zuN a b c)]:=by
 have g:=(zQ a).1 (zM.1 h);refine⟨0,?_⟩;unfold zNA zuM zuN zv3 zMw oN nB;conv=>zeta
 refine must h (must rfl ?_);rw[show zhR (zu a) b c=zcE a b c from rfl];cases i:zcE a b c;{rfl};{obtain⟨e,d,f⟩:=zkH.1 i;refine zcS rfl (must (zC d) (must (zUP g e d f) (must rfl ?_)));rw[show (cond (ieq (ix (ix (zu a).Mons b zi).Outer c zV).Page zbx.Page) (ieq (ix (ix (zu a).Mons b zi).Outer c zV).Rights zbx.Rights) false)=zk2 a b c from zPK g e d f];cases j:zk2 a b c;{rfl};{exact zcS rfl (must (zbd ⟨zff g e,d,f⟩) rfl)}}
theorem zRH:vN 336 zGN:=kF3 zw6 zx zb0 zcH (zo []) zYS
def z6S:zX:=[(338,zAW),(335,zDM),(336,zGN)]++z6R
theorem zUj:zL z6S:=zh zLR (zh zOH (zh zRH zw6))
end
end Go.Proofs.YthhbajmehldikaaGreat.E
