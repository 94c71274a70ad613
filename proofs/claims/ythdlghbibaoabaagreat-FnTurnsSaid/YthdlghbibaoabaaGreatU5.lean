/- What is proved here: a part of the proof that the statement of this claim holds (several texts of wip/, laid together). -/
import Derived.Test.YthdlghbibaoabaaGreatU4
namespace Go.Proofs.YthdlghbibaoabaaGreat.E
open Go
set_option linter.constructorNameAsVariable false
set_option linter.unusedVariables false
set_option maxRecDepth 100000
set_option linter.unusedSimpArgs false
set_option linter.unusedSectionVars false
noncomputable section
def zjR (o i t:Int):Int:=bif zde i t then 1 else (cond (zde o t) 2 0)
@[simp] abbrev zrY (o i t:Int):Bool:=true
@[simp] abbrev zou (o i t:Int):Int:=zjR o i t
def zC3:Run:=rF3 dI dI dI fun b c d=>(zrY b c d,[aI (zou b c d)])
def zIC (N:Nat)(b c a:Int):OA:=
 (oN (ziE c a) (cond (zim c a) (some [(aI 1)]) (oN (ziE b a) (cond (zim b a) (some [(aI 2)]) (some [(aI 0)])))))
theorem zVi (a b c:Int)(d:zrY a b c=true):∃N,zIC N a b c=some [aI (zou a b c)]:=by refine⟨0,?_⟩;unfold zIC oN;refine must rfl (br (fun _=>?_) (fun _=>must rfl (br (fun _=>?_) (fun _=>?_))));all_goals first|rfl|(simp only [*,zou,zjR,cT,cF]<;>rfl)|simp_all[Ty.cells,zou,zjR]
theorem zNR:vL 296 zC3:=kF3 ze6 zu zA zds (zx []) zVi
@[simp] abbrev zyk (o i t:Int):Bool:=true
@[simp] abbrev zon (o i t:Int):Int:=zjR o i t
def zCL:Run:=rF3 dI dI dI fun b c d=>(zyk b c d,[aI (zon b c d)])
def zIf (N:Nat)(b c a:Int):OA:=
 (oN (zkA c a) (cond (zjq c a) (some [(aI 1)]) (oN (zkA b a) (cond (zjq b a) (some [(aI 2)]) (some [(aI 0)])))))
theorem zUU (a b c:Int)(d:zyk a b c=true):∃N,zIf N a b c=some [aI (zon a b c)]:=by refine⟨0,?_⟩;unfold zIf oN;refine must rfl (br (fun _=>?_) (fun _=>must rfl (br (fun _=>?_) (fun _=>?_))));all_goals first|rfl|(simp only [*,zon,zjR,cT,cF]<;>rfl)|simp_all[Ty.cells,zon,zjR]
theorem zNz:vL 181 zCL:=kF3 ze6 zu zA zds (zx []) zUU
theorem has3 (p:Int):hasB p 3=win p 0 2:=by unfold hasB win ige ile;by_cases a:0<=p<;>by_cases b:p<3;{rw [qJ (p:=0<=p/\p<3) ⟨a,b⟩,qJ (p:=p≥0) a,qJ (p:=p<=2) (by omega)];rfl};{rw [qH (p:=0<=p/\p<3) (by omega),qH (p:=p<=2) (by omega)];simp};{rw [qH (p:=0<=p/\p<3) (by omega),qH (p:=p≥0) (by omega)];simp};{rw [qH (p:=0<=p/\p<3) (by omega),qH (p:=p≥0) (by omega)];simp}
theorem has2 (p:Int):hasB p 2=win p 0 1:=by unfold hasB win ige ile;by_cases a:0<=p<;>by_cases b:p<2;{rw [qJ (p:=0<=p/\p<2) ⟨a,b⟩,qJ (p:=p≥0) a,qJ (p:=p<=1) (by omega)];rfl};{rw [qH (p:=0<=p/\p<2) (by omega),qH (p:=p<=1) (by omega)];simp};{rw [qH (p:=0<=p/\p<2) (by omega),qH (p:=p≥0) (by omega)];simp};{rw [qH (p:=0<=p/\p<2) (by omega),qH (p:=p≥0) (by omega)];simp}
def zdT (m g:Int):Int:=bif win m 0 2 then (cond (win g 0 1) (zL .i64 (zL .i64 1 g) (zkS .i64 m 2)) 0) else 0
@[simp] abbrev zlD (m g:Int):Bool:=true
@[simp] abbrev zuG (m g:Int):Int:=zdT m g
def zJu:Run:=rF2 dI dI fun b c=>(zlD b c,[aI (zuG b c)])
def zS6 (N:Nat)(a b:Int):OA:=
 (oN (zO a 0 2) (cond (nB (zU a 0 2)) (some [(aI 0)]) (oN (zO b 0 1) (cond (nB (zU b 0 1)) (some [(aI 0)]) (some [(aI (zL .i64 (zL .i64 1 b) (zkS .i64 a 2)))])))))
theorem z1e (a b:Int)(c:zlD a b=true):∃N,zS6 N a b=some [aI (zuG a b)]:=by refine⟨0,?_⟩;unfold zS6 oN nB;refine must rfl (brN (fun _=>?_) (fun _=>must rfl (brN (fun _=>?_) (fun _=>?_))));all_goals first|rfl|(simp only [*,zuG,zdT,cT,cF]<;>rfl)|simp_all[Ty.cells,zuG,zdT]
theorem zUG:vL 245 zJu:=kF2 ze6 zu zA zds (zx []) z1e
@[simp] abbrev zwR (m g:Int):Bool:=true
@[simp] abbrev zzq (m g:Int):Int:=zdT m g
def zJj:Run:=rF2 dI dI fun b c=>(zwR b c,[aI (zzq b c)])
def zSU (N:Nat)(a b:Int):OA:=
 (oN (zcc a 3) (cond (nB (zcU a 3)) (some [(aI 0)]) (oN (zcc b 2) (cond (nB (zcU b 2)) (some [(aI 0)]) (some [(aI (zL .i64 (zL .i64 1 b) (zkS .i64 a 2)))])))))
theorem z01 (a b:Int)(c:zwR a b=true):∃N,zSU N a b=some [aI (zzq a b)]:=by refine⟨0,?_⟩;unfold zSU oN nB;refine must rfl (brN (fun _=>?_) (fun _=>must rfl (brN (fun _=>?_) (fun _=>?_))));all_goals first|rfl|(simp only [*,zzq,zdT,has3,has2,cT,cF]<;>rfl)|simp_all[Ty.cells,zzq,zdT,has3,has2]
theorem zUu:vL 262 zJj:=kF2 ze6 zu zA zds (zx []) z01
def zi2 (k:Kept)(p:Int):Bool:=bif zdr k p then ix k.Known p false else false
def zdO (k:Kept)(p:Int):Slot:=bif zi2 k p then ix k.Slots p zW else noSlot
@[simp] abbrev zHa (k:Kept)(p:Int):Bool:=pc (SmK k)
@[simp] abbrev zuE (k:Kept)(p:Int):Slot:=zdO k p
@[simp] abbrev zG9 (k:Kept)(p:Int):Bool:=zi2 k p
def zT2:Run:=rF2 (dT .kept) dI fun b c=>(zHa b c,[aT .slot (zuE b c),aB (zG9 b c)])
def z2e (N:Nat)(a:Kept)(b:Int):OA:=
 let c:=(ix a.Slots b zW); (oN (zp1 a b) (cond (nB (ziI a b)) (oN zcA (some [(.agg [(.i .i64 zbw.Page),(.i .i64 zbw.Rights)]),(aB false)])) (oN (inb b (ln a.Known)) (cond (nB (ix a.Known b false)) (oN zcA (some [(.agg [(.i .i64 zbw.Page),(.i .i64 zbw.Rights)]),(aB false)])) (oN (inb b (ln a.Slots)) (some [(.agg [(.i .i64 c.Page),(.i .i64 c.Rights)]),(aB true)]))))))
theorem z7s (a:Kept)(b:Int)(f:zHa a b=true):∃N,z2e N a b=some [aT .slot (zuE a b),aB (zG9 a b)]:=by
 have g:=zN.1 f;refine⟨0,?_⟩;unfold z2e zuE zG9 zdO zi2 oN nB;conv=>zeta
 refine must (zbn g) ?_;rw[show ziI a b=zdr a b from rfl];cases c:zdr a b;{rfl};{unfold zdr at c;obtain⟨d,e⟩:=zdj.1 c;simp only[zy d,zy e,cT];cases ix a.Known b false<;>rfl}
theorem z0R:vL 308 zT2:=kF2 ze6 zu zA zds (zx []) z7s
@[simp] abbrev zzn (k:Kept)(p:Int):Bool:=true
@[simp] abbrev zuw (k:Kept)(p:Int):Slot:=zdO k p
@[simp] abbrev zGZ (k:Kept)(p:Int):Bool:=zi2 k p
def zTY:Run:=rF2 (dT .kept) dI fun b c=>(zzn b c,[aT .slot (zuw b c),aB (zGZ b c)])
def z19 (N:Nat)(a:Kept)(b:Int):OA:=
 let c:=(ix a.Slots b zW); (oN (zcc b (ln a.Known)) (cond (nB (zcU b (ln a.Known))) (oN zdw (some [(.agg [(.i .i64 zcQ.Page),(.i .i64 zcQ.Rights)]),(aB false)])) (oN (zcc b (ln a.Slots)) (cond (nB (zcU b (ln a.Slots))) (oN zdw (some [(.agg [(.i .i64 zcQ.Page),(.i .i64 zcQ.Rights)]),(aB false)])) (oN (inb b (ln a.Known)) (cond (nB (ix a.Known b false)) (oN zdw (some [(.agg [(.i .i64 zcQ.Page),(.i .i64 zcQ.Rights)]),(aB false)])) (oN (inb b (ln a.Slots)) (some [(.agg [(.i .i64 c.Page),(.i .i64 c.Rights)]),(aB true)]))))))))
theorem z7o (a:Kept)(b:Int)(e:zzn a b=true):∃N,z19 N a b=some [aT .slot (zuw a b),aB (zGZ a b)]:=by
 refine⟨0,?_⟩;unfold z19 zuw zGZ zdO zi2 zdr oN nB;conv=>zeta
 rw[show zcU b (ln a.Known)=hasB b (ln a.Known) from rfl,show zcU b (ln a.Slots)=hasB b (ln a.Slots) from rfl];cases c:hasB b (ln a.Known);{rfl};{cases d:hasB b (ln a.Slots);{rfl};{simp only [zcc,zy c,zy d,cT];cases ix a.Known b false<;>rfl}}
theorem z0N:vL 264 zTY:=kF2 ze6 zu zA zds (zx []) z7o
def filled (k:Kept)(a b:List Slot)(p:Int):Kept:=bif zdr k p then (cond (hasB p (ln a)) ⟨up k.Known p true,up k.Slots p (zbr (ix a p zW) b)⟩ k) else k
@[simp] theorem z5I {k:Kept}{a b:List Slot}{p:Int}(h:SmK k):SmK (filled k a b p):=by unfold filled;cases zdr k p;{exact h};{cases hasB p (ln a);{exact h};{exact⟨by simpa using h.1,by simpa using h.2⟩}}
@[simp] abbrev zLH (k:Kept)(i o:List Slot)(p:Int):Bool:=pc (SmK k)
@[simp] abbrev zPf (k:Kept)(i o:List Slot)(p:Int):Kept:=filled k i o p
def zPd:Run:=rF4 (dT .kept) (dS .slot) (dS .slot) dI fun b c d e=>(zLH b c d e,[aT .kept (zPf b c d e)])
def zWn (N:Nat)(d:Kept)(c e:lS)(a:Int):OA:=
 let b:=(zdI d); (oN (zgj d) (oN (zp1 b a) (cond (ziI b a) (cond (ilt a (ln c)) (oN (inb a (ln b.Known)) (share (up b.Known a true) (fun f=>(oN (inb a (ln c)) (oN (zkY (ix c a zW) e) (oN (inb a (ln b.Slots)) (share (up b.Slots a (znw (ix c a zW) e)) (fun g=>(some [(aT .kept (⟨f,g⟩:Kept))]))))))))) (some [(aT .kept b)])) (some [(aT .kept b)]))))
theorem z4I (b:Kept)(c d:List Slot)(a:Int)(j:zLH b c d a=true):∃N,zWn N b c d a=some [aT .kept (zPf b c d a)]:=by
 have g:=zN.1 j;refine⟨0,?_⟩;unfold zWn zPf filled oN;conv=>zeta
 refine must (zbn ((zy8 _).2 g)) (must (zbn g) ?_);rw[show ziI (zdI b) a=zdr b a from rfl];cases f:zdr b a;{rfl};{unfold zdr at f;obtain⟨e,h⟩:=zdj.1 f;rw[has_lt e (m:=ln c)];cases i:hasB a (ln c);{rfl};{simp only [cT,zdI,zy e,zy h,zy i,share,zkY];rfl}}
theorem zXu:vL 309 zPd:=kF4 ze6 zu zA zds (zx []) z4I
@[simp] abbrev zK2 (k:Kept)(i o:List Slot)(p:Int):Bool:=pc (SmK k)
@[simp] abbrev zOk (k:Kept)(i o:List Slot)(p:Int):Kept:=filled k i o p
def zPa:Run:=rF4 (dT .kept) (dS .slot) (dS .slot) dI fun b c d e=>(zK2 b c d e,[aT .kept (zOk b c d e)])
def zWj (N:Nat)(c:Kept)(d e:lS)(a:Int):OA:=
 let b:=(zdx c); (oN (zgu c) (oN (zcc a (ln c.Known)) (cond (zcU a (ln c.Known)) (oN (zcc a (ln c.Slots)) (cond (zcU a (ln c.Slots)) (oN (zcc a (ln d)) (cond (zcU a (ln d)) (oN (inb a (ln b.Known)) (share (up b.Known a true) (fun f=>(oN (inb a (ln d)) (oN (zkT (ix d a zW) e) (oN (inb a (ln b.Slots)) (share (up b.Slots a (znu (ix d a zW) e)) (fun g=>(some [(aT .kept (⟨f,g⟩:Kept))]))))))))) (some [(aT .kept b)]))) (some [(aT .kept b)]))) (some [(aT .kept b)]))))
theorem z4D (b:Kept)(c d:List Slot)(a:Int)(h:zK2 b c d a=true):∃N,zWj N b c d a=some [aT .kept (zOk b c d a)]:=by
 have i:=zN.1 h;refine⟨0,?_⟩;unfold zWj zOk filled zdr oN;conv=>zeta
 refine must (zbn i) ?_;simp only[zcU,zcc,zdx,cT];cases e:hasB a (ln b.Known);{rfl};{cases f:hasB a (ln b.Slots);{rfl};{cases g:hasB a (ln c);{rfl};{simp only [cT,zy e,zy f,zy g,share,zkT];rfl}}}
theorem zXp:vL 266 zPa:=kF4 ze6 zu zA zds (zx []) z4D
theorem zKk {a b:Type}(p:a->Bool)(r:a->Option b)(K:Unit->Option b):∀(l:List a) (i:Nat),goL (fun _ x (_:Unit) k=>bif p x then r x else k ()) K l i ()=match l.find? p with|some x=>r x|none=>K ()
 |[],_=>rfl
 |x::l,i=>by simp only[goL];cases h:p x;{rw [List.find?_cons_of_neg (by simp[h])];exact zKk p r K l (i+1)};{rw [List.find?_cons_of_pos h];rfl}
def ztU (b:List Entry)(t p:Int):Option Entry:=b.find? fun e=>bif ieq e.Tag t then ieq e.Page p else false
@[simp] abbrev zny (b:List Entry)(t p:Int):Bool:=true
@[simp] abbrev znx (b:List Entry)(t p:Int):Entry:=(ztU b t p).getD ⟨0,0,0,0⟩
@[simp] abbrev zki (b:List Entry)(t p:Int):Bool:=(ztU b t p).isSome
def zxh:Run:=rF3 (dS .entry) dI dI fun b c d=>(zny b c d,[aT .entry (znx b c d),aB (zki b c d)])
def zCk (N:Nat)(f:lE)(g h:Int):OA:=
 (iter (σ:=(Int×(Int×(Int×(Int×(Int×(Int×(Int×(lE×Unit))))))))) N (fun j a=>let c:=a.2.2.2.2.2.2.2.1;let d:=(inb a.2.2.1 (ln c));let e:=(j (a.1,(a.2.1,((zL .i64 a.2.2.1 1),(a.2.2.2.1,(a.2.2.2.2.1,(a.2.2.2.2.2.1,(a.2.2.2.2.2.2.1,(c,())))))))));let b:=(ix c a.2.2.1 zfO); (cond (ilt a.2.2.1 (ln c)) (oN d (cond (ieq b.Tag a.1) (oN d (cond (ieq b.Page a.2.1) (oN d (some [(.agg [(.i .i64 b.Tag),(.i .i64 b.Page),(.i .i64 b.Host),(.i .i64 b.Rights)]),(aB true)])) e)) e)) (some [(.agg [(.i .i64 0),(.i .i64 0),(.i .i64 0),(.i .i64 0)]),(aB false)]))) (g,(h,(0,(0,(0,(0,(0,(f,())))))))))
def zPM:FuncId->Nat->Option Tmpl:=zx [(307,0,{n:=36,tm:=[(0,.sl 0 []),(1,ti),(2,ti),(6,.lp 0 0),(8,ti)],lo:=[(0,[ti,ti,ti,ti])],ro:=[(0,.entry,false)]})]
theorem zOF (a:List Entry)(c d:Int)(j:zcE big [aS .entry a,aI c,aI d])(l:zny a c d=true):∃N,zCk N a c d=some [aT .entry (znx a c d),aB (zki a c d)]:=by
 have h:=(len0 j);refine zcw fun N g=>?_;unfold zCk oN;conv=>zeta
 refine(zbj a (fun i (t:Unit)=>(c,d,(i:Int),0,0,0,0,a,())) _ (fun _ (x:Entry) (_:Unit) k=>bif (cond (ieq x.Tag c) (ieq x.Page d) false) then (some [AV.agg (Ty.cells .entry x),AV.one (.b true)]) else k ()) (fun (t:Unit)=>(some [(.agg [(.i .i64 0),(.i .i64 0),(.i .i64 0),(.i .i64 0)]),(.one (.b false))])) (fun i f t rec=>?_) (fun t rec=>?_) _ () (g h)).trans ?_;{simp only [zbS f,zbl f,zbv f,zbh f h,cT];cases ieq a[i].Tag c<;>cases ieq a[i].Page d<;>rfl};{simp only [zbK,cF]};rw[zKk (fun e:Entry=>bif ieq e.Tag c then ieq e.Page d else false)];unfold znx zki ztU;cases a.find? (fun e:Entry=>bif ieq e.Tag c then ieq e.Page d else false)<;>rfl
theorem zHu:vL 307 zxh:=hF3 ze6 zu zA zds zPM zOF
@[simp] abbrev znv (b:List Entry)(t p:Int):Bool:=true
@[simp] abbrev zkd (b:List Entry)(t p:Int):Entry:=(ztU b t p).getD ⟨0,0,0,0⟩
@[simp] abbrev zke (b:List Entry)(t p:Int):Bool:=(ztU b t p).isSome
def zw8:Run:=rF3 (dS .entry) dI dI fun b c d=>(znv b c d,[aT .entry (zkd b c d),aB (zke b c d)])
def zCa (N:Nat)(d:lE)(f g:Int):OA:=
 (iter (σ:=(Int×(Int×(Int×(Int×(Int×(Int×(Int×(Int×(lE×Unit)))))))))) N (fun h a=>let c:=a.2.2.2.2.2.2.2.2.1;let e:=(h (a.1,(a.2.1,(a.2.2.1,((zL .i64 a.2.2.2.1 1),(a.2.2.2.2.1,(a.2.2.2.2.2.1,(a.2.2.2.2.2.2.1,(a.2.2.2.2.2.2.2.1,(c,()))))))))));let b:=(ix c a.2.2.2.1 zfO); (cond (ilt a.2.2.2.1 a.2.2.1) (oN (inb a.2.2.2.1 (ln c)) (cond (ieq b.Tag a.1) (cond (ieq b.Page a.2.1) (some [(.agg [(.i .i64 b.Tag),(.i .i64 b.Page),(.i .i64 b.Host),(.i .i64 b.Rights)]),(aB true)]) e) e)) (some [(.agg [(.i .i64 0),(.i .i64 0),(.i .i64 0),(.i .i64 0)]),(aB false)]))) (f,(g,((ln d),(0,(0,(0,(0,(0,(d,()))))))))))
def zPJ:FuncId->Nat->Option Tmpl:=zx [(263,0,{n:=29,tm:=[(1,ti),(2,ti),(6,.lp 0 0),(10,.sl 0 []),(11,ti),(12,ti)],lo:=[(0,[ti,ti,ti,ti])],ro:=[(0,.entry,false)]})]
theorem zOu (a:List Entry)(c d:Int)(j:zcE big [aS .entry a,aI c,aI d])(l:znv a c d=true):∃N,zCa N a c d=some [aT .entry (zkd a c d),aB (zke a c d)]:=by
 have h:=(len0 j);refine zcw fun N g=>?_;unfold zCa oN;conv=>zeta
 refine(zbj a (fun i (t:Unit)=>(c,d,(ln a),(i:Int),0,0,0,0,a,())) _ (fun _ (x:Entry) (_:Unit) k=>bif (cond (ieq x.Tag c) (ieq x.Page d) false) then (some [AV.agg (Ty.cells .entry x),AV.one (.b true)]) else k ()) (fun (t:Unit)=>(some [(.agg [(.i .i64 0),(.i .i64 0),(.i .i64 0),(.i .i64 0)]),(.one (.b false))])) (fun i f t rec=>?_) (fun t rec=>?_) _ () (g h)).trans ?_;{simp only [zbS f,zbl f,zbv f,zbh f h,cT];cases ieq a[i].Tag c<;>cases ieq a[i].Page d<;>rfl};{simp only [zbK,cF]};rw[zKk (fun e:Entry=>bif ieq e.Tag c then ieq e.Page d else false)];unfold zkd zke ztU;cases a.find? (fun e:Entry=>bif ieq e.Tag c then ieq e.Page d else false)<;>rfl
theorem zHl:vL 263 zw8:=hF3 ze6 zu zA zds zPJ zOu
def zsB (t p:Int)(e:Entry):Bool:=bif ine e.Tag t then true else ine e.Page p
def zcF (b:List Entry)(t p:Int):List Entry:=b.filter (zsB t p)
theorem zAT (b:List Entry)(t p:Int):(zcF b t p).length<=b.length:=k7 _ _
@[simp] abbrev zgT (b:List Entry)(t p:Int):Bool:=pc (b.length<=1048576)
@[simp] abbrev zne (b:List Entry)(t p:Int):List Entry:=zcF b t p
def zxj:Run:=rF3 (dS .entry) dI dI fun b c d=>(zgT b c d,[aS .entry (zne b c d)])
def zCm (N:Nat)(h:lE)(i j:Int):OA:=
 (iter (σ:=(Int×(Int×(Int×(lE×(lE×Unit)))))) N (fun f a=>let b:=a.2.2.2.1;let c:=(inb a.2.2.1 (ln b));let d:=(ix b a.2.2.1 zfO);let e:=(ap a.2.2.2.2.1 [d]);let g:=(f (a.1,(a.2.1,((zL .i64 a.2.2.1 1),(b,(e,())))))); (cond (ilt a.2.2.1 (ln b)) (oN c (cond (ine d.Tag a.1) (oN c (oN (few (ln e)) g)) (oN c (cond (ine d.Page a.2.1) (oN c (oN (few (ln e)) g)) (f (a.1,(a.2.1,((zL .i64 a.2.2.1 1),(b,(a.2.2.2.2.1,())))))))))) (some [(aS .entry a.2.2.2.2.1)]))) (i,(j,(0,(h,([],()))))))
def zPO:FuncId->Nat->Option Tmpl:=zx [(244,0,{n:=40,tm:=[(0,.sl 0 []),(1,ti),(2,ti),(7,.sl 1 []),(8,ti)],lo:=[],ro:=[(0,.entry,false),(1,.entry,true)]})]
theorem zOH (a:List Entry)(b c:Int)(h:zgT a b c=true):∃N,zCm N a b c=some [aS .entry (zne a b c)]:=by
 have j:=zN.1 h;have f:=zc5 j;refine zcw fun N e=>?_;unfold zCm oN;conv=>zeta
 refine(zbj a (fun i (t:lE)=>(b,c,(i:Int),a,t,())) _ (fun _ (x:Entry) (t:List Entry) g=>bif zsB b c x then (cond (few (ln (ap t [x]))) (g (ap t [x])) none) else g t) (fun (t:lE)=>(some [(.one (.s .entry t))])) (fun i d t rec=>?_) (fun t rec=>?_) _ ([]) (e f.1)).trans ?_;{simp only [zbS d,zbl d,zbv d,zbh d f.1,cT];unfold zsB;cases ine a[i].Tag b<;>cases ine a[i].Page c<;>rfl};{simp only [zbK,cF]};exact zl4 (zsB b c) _ a 0 [] (by simpa using f.2)
theorem zHw:vL 244 zxj:=kF3 ze6 zu zA zds zPO zOH
@[simp] abbrev ztc (b:List Entry)(t p:Int):Bool:=pc (b.length<=1048576)
@[simp] abbrev zrz (b:List Entry)(t p:Int):List Entry:=zcF b t p
def zxa:Run:=rF3 (dS .entry) dI dI fun b c d=>(ztc b c d,[aS .entry (zrz b c d)])
def zCc (N:Nat)(e:lE)(h i:Int):OA:=
 (iter (σ:=(Int×(Int×(Int×(Int×(lE×(lE×Unit))))))) N (fun f a=>let b:=a.2.2.2.2.2.1;let c:=(ix b a.2.1 zfO);let d:=(ap a.2.2.2.2.1 [c]);let g:=(f (a.1,((zL .i64 a.2.1 1),(a.2.2.1,(a.2.2.2.1,(d,(b,()))))))); (cond (ilt a.2.1 a.1) (oN (inb a.2.1 (ln b)) (cond (ieq c.Tag a.2.2.1) (cond (nB (ieq c.Page a.2.2.2.1)) (oN (few (ln d)) g) (f (a.1,((zL .i64 a.2.1 1),(a.2.2.1,(a.2.2.2.1,(a.2.2.2.2.1,(b,())))))))) (oN (few (ln d)) g))) (some [(aS .entry a.2.2.2.2.1)]))) ((ln e),(0,(h,(i,([],(e,())))))))
def zPL:FuncId->Nat->Option Tmpl:=zx [(206,0,{n:=25,tm:=[(1,.fn 330 [0,1]),(5,.sl 0 []),(9,.sl 1 []),(10,ti),(11,ti)],lo:=[(0,[ti]),(1,[ti])],ro:=[(0,.entry,true),(1,.entry,false)]})]
theorem zOw (a:List Entry)(b c:Int)(h:ztc a b c=true):∃N,zCc N a b c=some [aS .entry (zrz a b c)]:=by
 have j:=zN.1 h;have f:=zc5 j;refine zcw fun N e=>?_;unfold zCc oN nB;conv=>zeta
 refine(zbj a (fun i (t:lE)=>((ln a),(i:Int),b,c,t,a,())) _ (fun _ (x:Entry) (t:List Entry) g=>bif zsB b c x then (cond (few (ln (ap t [x]))) (g (ap t [x])) none) else g t) (fun (t:lE)=>(some [(.one (.s .entry t))])) (fun i d t rec=>?_) (fun t rec=>?_) _ ([]) (e f.1)).trans ?_;{simp only [zbS d,zbl d,zbv d,zbh d f.1,cT];unfold zsB;simp only[zmd];cases ieq a[i].Tag b<;>cases ieq a[i].Page c<;>rfl};{simp only [zbK,cF]};exact zl4 (zsB b c) _ a 0 [] (by simpa using f.2)
theorem zHn:vL 316 zxa:=kF3 ze6 zu zA zds zPL zOw
def zbbQ:zbb:=[(296,zC3),(181,zCL),(245,zJu),(262,zJj),(308,zT2),(264,zTY),(309,zPd),(266,zPa),(307,zxh),(263,zw8),(244,zxj),(316,zxa)]++z6H
theorem zuX:zM zbbQ:=zi zNR (zi zNz (zi zUG (zi zUu (zi z0R (zi z0N (zi zXu (zi zXp (zi zHu (zi zHl (zi zHw (zi zHn ze6)))))))))))
def znY (b:List Entry)(e:Entry):List Entry:=bif igt (ln (ap (zcF b e.Tag e.Page) [e])) 6 then dp (ap (zcF b e.Tag e.Page) [e]) (wsub .i64 (ln (ap (zcF b e.Tag e.Page) [e])) 6) else ap (zcF b e.Tag e.Page) [e]
theorem zvB {b:List Entry}(e:Entry)(h:b.length<=1048576):(znY b e).length<=1048576/\(ap (zcF b e.Tag e.Page) [e]).length<=1048577:=by have d:=zAT b e.Tag e.Page;have c:(ap (zcF b e.Tag e.Page) [e]).length<=1048577:=(by simp[ap];omega);refine⟨?_,c⟩;unfold znY;cases a:igt (ln (ap (zcF b e.Tag e.Page) [e])) 6;{have a:=jQ a;simp only[ln]at a;simp only[cF];omega};{simp only [cT,dp,vI];have a:=qD a;have:wsub .i64 (ln (ap (zcF b e.Tag e.Page) [e])) 6=ln (ap (zcF b e.Tag e.Page) [e])-6:=zrj (by simp only[ln] at *;omega) (by simp only[ln] at *;omega);rw[this];simp only[ln] at *;omega}
@[simp] abbrev zlC (b:List Entry)(e:Entry):Bool:=pc (b.length<=1048576)
@[simp] abbrev zmz (b:List Entry)(e:Entry):List Entry:=znY b e
def zqW:Run:=rF2 (dS .entry) (dT .entry) fun b c=>(zlC b c,[aS .entry (zmz b c)])
def zEb (N:Nat)(d:lE)(b:Entry):OA:=
 let a:=(ap (zne d b.Tag b.Page) [b]);let c:=(wsub .i64 (ln a) 6); (oN (zgT d b.Tag b.Page) (oN (few (ln a)) (cond (igt (ln a) 6) (oN (inr c (ln a) (ln a)) (oN (few (ln (ap [] (dp a c)))) (some [(aS .entry (ap [] (dp a c)))]))) (some [(aS .entry a)]))))
theorem zRQ (b:List Entry)(a:Entry)(h:zlC b a=true):∃N,zEb N b a=some [aS .entry (zmz b a)]:=by
 have f:=zN.1 h;obtain⟨c,g⟩:=zvB a f;refine⟨0,?_⟩;unfold zEb oN;conv=>zeta
 refine must (zbn f) (must (zgV (qU g (by decide:1048577<=2147483648))) ?_);unfold zmz znY at *;show _=some [AV.one (.s .entry (cond (igt (ln (ap (zcF b a.Tag a.Page) [a])) 6) (dp (ap (zcF b a.Tag a.Page) [a]) (wsub .i64 (ln (ap (zcF b a.Tag a.Page) [a])) 6)) (ap (zcF b a.Tag a.Page) [a])))];cases d:igt (ln (ap (zcF b a.Tag a.Page) [a])) 6;{rfl};{rw [d]at c;simp only[cT]at c;have d:=qD d;have e:wsub .i64 (ln (ap (zcF b a.Tag a.Page) [a])) 6=ln (ap (zcF b a.Tag a.Page) [a])-6:=zrj (by simp only[ln] at *;omega) (by simp only[ln] at *;omega);refine must rfl (must (qJ ?_) (must ?_ ?_));{show 0<=wsub .i64 (ln (ap (zcF b a.Tag a.Page) [a])) 6/\wsub .i64 (ln (ap (zcF b a.Tag a.Page) [a])) 6<=ln (ap (zcF b a.Tag a.Page) [a])/\ln (ap (zcF b a.Tag a.Page) [a])<=ln (ap (zcF b a.Tag a.Page) [a]);rw[e];simp only[ln] at *;omega};{exact zoi c};{rw [zmS];rfl}}
theorem zvb:vL 220 zqW:=kF2 zuX zu zA zds (zx []) zRQ
@[simp] abbrev zo6 (b:List Entry)(e:Entry):Bool:=pc (b.length<=1048576)
@[simp] abbrev zo5 (b:List Entry)(e:Entry):List Entry:=znY b e
def zzP:Run:=rF2 (dS .entry) (dT .entry) fun b c=>(zo6 b c,[aS .entry (zo5 b c)])
def zDP (N:Nat)(c:lE)(a:Entry):OA:=
 let b:=(ap (zrz c a.Tag a.Page) [a]);let d:=(imax 0 (wsub .i64 (ln b) 6)); (oN (ztc c a.Tag a.Page) (oN (few (ln b)) (oN (inr d (ln b) (ln b)) (some [(aS .entry (dp b d))]))))
theorem zRt (b:List Entry)(a:Entry)(h:zo6 b a=true):∃N,zDP N b a=some [aS .entry (zo5 b a)]:=by
 have g:=zN.1 h;obtain⟨_,f⟩:=zvB a g;refine⟨0,?_⟩;unfold zDP zo5 znY oN;conv=>zeta
 simp only[zrz];generalize ap (zcF b a.Tag a.Page) [a]=l at f ⊢;refine must (zbn g) (must (zgV (qU f (by decide:1048577<=2147483648))) ?_);have e:wsub .i64 (ln l) 6=ln l-6:=zrj (by simp only[ln] at *;omega) (by simp only[ln] at *;omega);rw[e];cases c:igt (ln l) 6;{have c:=jQ c;have d:imax 0 (ln l-6)=0:=(by unfold imax;rw[if_neg (by omega)]);rw[d];exact must (qJ (by simp only[ln];omega)) (by simp[dp])};{have c:=qD c;have d:imax 0 (ln l-6)=ln l-6:=(by unfold imax;rw[if_pos (by omega)]);rw[d];exact must (qJ (by simp only[ln] at *;omega)) rfl}
theorem zKs:vL 267 zzP:=kF2 zuX zu zA zds (zx []) zRt
def zoS (l:List Slot)(p:Int):Option Nat:=l.findIdx? fun s=>ieq s.Page p
def zij (p:Int):List Mon->Nat->Int×Int
 |[],_=>(-1,-1)
 |m::l,i=>match zoS m.Outer p with|some k=>((i:Int),(k:Int))|none=>zij p l (i+1)
def zbH (h:Host)(p:Int):Int×Int:=bif ilt p 0 then (-1,-1) else zij p h.Mons 0
theorem zTC {a:Type}(p:Slot->Bool)(r:Nat->Option a)(K:Unit->Option a):∀(l:List Slot) (i:Nat),goL (fun j x (_:Unit) k=>bif p x then r j else k ()) K l i ()=match l.findIdx? p with|some k=>r (i+k)|none=>K ()
 |[],_=>rfl
 |x::l,i=>by simp only[goL];rw[List.findIdx?_cons];cases h:p x;{simp only [cF,j9,if_false];rw[zTC p r K l (i+1)];cases l.findIdx? p with|none=>rfl|some k=>simp only[Option.map_some];congr 1;omega};{rfl}
theorem zQa {c:Type}(p:Int)(r:Int->Int->Option c):∀(l:List Mon) (i:Nat),goL (fun i (x:Mon) (_:Unit) b=>goL (fun j (y:Slot) (_:Unit) a=>bif ieq y.Page p then r (i:Int) (j:Int) else a ()) (fun _=>b ()) x.Outer 0 ()) (fun _=>r (-1) (-1)) l i ()=r (zij p l i).1 (zij p l i).2
 |[],_=>rfl
 |m::l,i=>by simp only[goL,zij];rw[zTC (fun s=>ieq s.Page p) (fun j=>r (i:Int) (j:Int))];unfold zoS;cases m.Outer.findIdx? (fun s=>ieq s.Page p) with|none=>exact zQa p r l (i+1)|some k=>simp only[jX]
@[simp] abbrev zkU (h:Host)(p:Int):Bool:=true
@[simp] abbrev zgI (h:Host)(p:Int):Int:=(zbH h p).1
@[simp] abbrev zid (h:Host)(p:Int):Int:=(zbH h p).2
def ztL:Run:=rF2 dH dI fun b c=>(zkU b c,[aI (zgI b c),aI (zid b c)])
def zwh (N:Nat)(f:Host)(g:Int):OA:=
 (cond (ilt g 0) (some [(aI (-1)),(aI (-1))]) (iter (σ:=(Int×(Int×(Int×(lN×Unit))))) N (fun i b=>let c:=b.2.2.1; (cond (ilt c b.2.1) (oN (inb c (ln b.2.2.2.1)) (iter (σ:=(Int×(Int×(Int×(Int×(Int×(Int×(Int×(lN×Unit))))))))) N (fun j a=>let e:=a.2.2.2.2.2.2.2.1;let h:=(ix e a.2.2.2.2.1 zh).Outer;let d:=a.2.2.2.2.2.2.1; (cond (ilt d a.2.2.2.2.2.1) (oN (inb d (ln h)) (cond (ieq (ix h d zW).Page a.1) (some [(aI a.2.1),(aI d)]) (j (a.1,(a.2.1,(a.2.2.1,(a.2.2.2.1,(a.2.2.2.2.1,(a.2.2.2.2.2.1,((zL .i64 d 1),(e,()))))))))))) (i (a.1,(a.2.2.1,((zL .i64 a.2.2.2.1 1),(e,()))))))) (b.1,(c,(b.2.1,(c,(c,((ln (ix b.2.2.2.1 c zh).Outer),(0,(b.2.2.2.1,())))))))))) (some [(aI (-1)),(aI (-1))]))) (g,((ln f.Mons),(0,(f.Mons,()))))))
def zH8:FuncId->Nat->Option Tmpl:=zx [(35,0,{n:=36,tm:=[(1,ti),(13,.sl 0 []),(14,ti),(15,ti)],lo:=[],ro:=[(0,.mon,false)]}),(35,2,{n:=36,tm:=[(1,ti),(6,ti),(13,.sl 0 []),(14,ti),(15,ti),(21,.sl 0 [0]),(22,ti),(23,ti)],lo:=[],ro:=[(0,.mon,false)]})]
theorem zHO (a:Host)(c:Int)(m:zcE big [aH a,aI c])(q:zkU a c=true):∃N,zwh N a c=some [aI (zgI a c),aI (zid a c)]:=by
 have k:CVB big (.s .mon a.Mons):=(zdi m).1 _ (by simp[AV.cvs,zbi]);have h:=k.len;refine zcw fun N e=>?_;unfold zwh zgI zid zbH oN;conv=>zeta
 cases p:ilt c 0;{simp only [cF];refine(zbj a.Mons (fun i (t:Unit)=>(c,(ln a.Mons),(i:Int),a.Mons,())) _ (fun i (x:Mon) (_:Unit) n=>goL (fun j (y:Slot) (_:Unit) b=>bif ieq y.Page c then some [AV.one (.i .i64 (i:Int)),AV.one (.i .i64 (j:Int))] else b ()) (fun _=>n ()) x.Outer 0 ()) (fun (t:Unit)=>(some [(.one (.i .i64 (-1))),(.one (.i .i64 (-1)))])) (fun i d t rec=>?_) (fun t rec=>?_) _ () (e h)).trans ?_;{simp only [zbS d,zbl d,zbv d,zbh d h,cT];have l:a.Mons[i].Outer.length<=big:=(k.inv.2 _ (jK d) (.s .slot _) (by simp[Ty.cells])).len;refine(zbj a.Mons[i].Outer (fun j (u:Unit)=>(c,(i:Int),(ln a.Mons),(i:Int),(i:Int),(ln a.Mons[i].Outer),(j:Int),a.Mons,())) _ (fun j (y:Slot) (_:Unit) b=>bif ieq y.Page c then some [AV.one (.i .i64 (i:Int)),AV.one (.i .i64 (j:Int))] else b ()) (fun (u:Unit)=>(rec (c,((ln a.Mons),((((i+1:Nat)):Int),(a.Mons,())))))) (fun j g u f=>?_) (fun u f=>?_) _ () (e l)).trans ?_;{simp only [zbS g,zbl g,zbv g,zbh g l,cT,zbl d,zbv d,zbh d h]};{simp only [zbK,cF,zbl d,zbv d,zbh d h]};rfl};{simp only [zbK,cF]};exact zQa c (fun i j=>some [AV.one (.i .i64 i),AV.one (.i .i64 j)]) a.Mons 0};{rfl}
theorem zDv:vL 35 ztL:=hF2 zuX zu zA zds zH8 zHO
theorem z7b {a c b:Type}(r:Option b):∀(l:List a) (i:Nat) (t:c),goL (fun _ _ _ _=>r) (fun _=>r) l i t=r
 |[],_,_=>rfl
 |_::_,_,_=>rfl
@[simp] abbrev zkZ (h:Host)(p:Int):Bool:=true
@[simp] abbrev zgK (h:Host)(p:Int):Int:=(zbH h p).1
@[simp] abbrev zin (h:Host)(p:Int):Int:=(zbH h p).2
def ztO:Run:=rF2 dH dI fun b c=>(zkZ b c,[aI (zgK b c),aI (zin b c)])
def zwt (N:Nat)(d:Host)(f:Int):OA:=
 (iter (σ:=(Int×(Int×(lM×(lN×(lE×(lE×Unit))))))) N (fun g b=>(cond (ilt b.2.1 (ln b.2.2.2.1)) (cond (ige b.1 0) (iter (σ:=(Int×(Int×(Int×(lM×(lN×(lE×(lE×Unit)))))))) N (fun h a=>let c:=a.2.2.2.2.1;let e:=(ix c a.2.1 zh).Outer; (oN (inb a.2.1 (ln c)) (cond (ilt a.2.2.1 (ln e)) (oN (inb a.2.1 (ln c)) (oN (inb a.2.2.1 (ln e)) (cond (ieq (ix e a.2.2.1 zW).Page a.1) (some [(aI a.2.1),(aI a.2.2.1)]) (h (a.1,(a.2.1,((zL .i64 a.2.2.1 1),(a.2.2.2.1,(c,(a.2.2.2.2.2.1,(a.2.2.2.2.2.2.1,()))))))))))) (g (a.1,((zL .i64 a.2.1 1),(a.2.2.2.1,(c,(a.2.2.2.2.2.1,(a.2.2.2.2.2.2.1,())))))))))) (b.1,(b.2.1,(0,(b.2.2.1,(b.2.2.2.1,(b.2.2.2.2.1,(b.2.2.2.2.2.1,())))))))) (some [(aI (-1)),(aI (-1))])) (some [(aI (-1)),(aI (-1))]))) (f,(0,(d.Memory,(d.Mons,(d.Buffer,(d.IoBuffer,())))))))
def zH9:FuncId->Nat->Option Tmpl:=zx [(36,0,{n:=44,tm:=[(1,ti),(2,.lp 0 0),(6,ti)],lo:=[(0,[.sl 0 [],.sl 1 [],.sl 2 [],.sl 3 []])],ro:=[(0,(.sl .int),false),(1,.mon,false),(2,.entry,false),(3,.entry,false)]}),(36,2,{n:=44,tm:=[(1,ti),(2,.lp 0 0),(6,ti),(7,ti)],lo:=[(0,[.sl 0 [],.sl 1 [],.sl 2 [],.sl 3 []])],ro:=[(0,(.sl .int),false),(1,.mon,false),(2,.entry,false),(3,.entry,false)]})]
theorem zHZ (a:Host)(b:Int)(p:zcE big [aH a,aI b])(r:zkZ a b=true):∃N,zwt N a b=some [aI (zgK a b),aI (zin a b)]:=by
 have m:CVB big (.s .mon a.Mons):=(zdi p).1 _ (by simp[AV.cvs,zbi]);have l:=m.len;refine zcw fun N e=>?_;unfold zwt zgK zin zbH oN;conv=>zeta
 refine(zbj a.Mons (fun i (t:Unit)=>(b,(i:Int),a.Memory,a.Mons,a.Buffer,a.IoBuffer,())) _ (fun i (x:Mon) (_:Unit) q=>bif ige b 0 then goL (fun j (y:Slot) (_:Unit) c=>bif ieq y.Page b then some [AV.one (.i .i64 (i:Int)),AV.one (.i .i64 (j:Int))] else c ()) (fun _=>q ()) x.Outer 0 () else some [AV.one (.i .i64 (-1)),AV.one (.i .i64 (-1))]) (fun (t:Unit)=>(some [(.one (.i .i64 (-1))),(.one (.i .i64 (-1)))])) (fun i d t rec=>?_) (fun t rec=>?_) _ () (e l)).trans ?_;{simp only [zbS d,zbl d,zbv d,zbh d l,cT];cases h:ige b 0;{rfl};have n:a.Mons[i].Outer.length<=big:=(m.inv.2 _ (jK d) (.s .slot _) (by simp[Ty.cells])).len;simp only[cT];refine(zbj a.Mons[i].Outer (fun j (_:Unit)=>(b,((i:Int),((j:Int),(a.Memory,(a.Mons,(a.Buffer,(a.IoBuffer,())))))))) _ (fun j (y:Slot) (_:Unit) c=>bif ieq y.Page b then some [AV.one (.i .i64 (i:Int)),AV.one (.i .i64 (j:Int))] else c ()) (fun _=>rec (b,(((i+1:Nat):Int),(a.Memory,(a.Mons,(a.Buffer,(a.IoBuffer,()))))))) (fun j g u f=>?_) (fun u f=>?_) _ () (e n)).trans ?_;{simp only [zbS g,zbl g,zbv g,zbh g n,cT,zbl d,zbv d]};{simp only [zbK,cF,cT,zbl d,zbv d,zbh d l]};rfl};{simp only [zbK,cF]};cases h:ige b 0;{have k:ilt b 0=true:=(by have:=jQ h;exact qJ (by omega));rw[k];exact z7b _ _ _ _};{have k:ilt b 0=false:=(by have:=qD h;exact qH (by omega));rw[k];exact zQa b (fun i j=>some [AV.one (.i .i64 i),AV.one (.i .i64 j)]) a.Mons 0}
theorem zDF:vL 36 ztO:=hF2 zuX zu zA zds zH9 zHZ
def zbbR:zbb:=[(220,zqW),(267,zzP),(36,ztO),(35,ztL)]++zbbQ
theorem zuY:zM zbbR:=zi zvb (zi zKs (zi zDF (zi zDv zuX)))
def zcj (h:Host):List Int:=zyn (fun i=>ilt (zbH h (i:Int)).1 0) h.Memory.length 0
@[simp] abbrev zmq (h:Host):Bool:=pc (h.Memory.length<=1048576)
@[simp] abbrev zfB (h:Host):List Int:=zcj h
def zFT:Run:=rF1 dH fun b=>(zmq b,[aS .int (zfB b)])
def zMw (N:Nat)(b:Host):OA:=
 (iter (σ:=(Int×((List Int)×(lM×(lN×(lE×(lE×Unit))))))) N (fun c a=>let d:=(⟨a.2.2.1,a.2.2.2.1,a.2.2.2.2.1,a.2.2.2.2.2.1⟩:Host); (cond (ilt a.1 (ln a.2.2.1)) (oN (zkZ d a.1) (cond (ilt (zgK d a.1) 0) (oN (few (ln (ap a.2.1 [a.1]))) (c ((zL .i64 a.1 1),((ap a.2.1 [a.1]),(a.2.2.1,(a.2.2.2.1,(a.2.2.2.2.1,(a.2.2.2.2.2.1,())))))))) (c ((zL .i64 a.1 1),(a.2.1,(a.2.2.1,(a.2.2.2.1,(a.2.2.2.2.1,(a.2.2.2.2.2.1,()))))))))) (some [(aS .int a.2.1)]))) (0,([],(b.Memory,(b.Mons,(b.Buffer,(b.IoBuffer,())))))))
def zZ5:FuncId->Nat->Option Tmpl:=zx [(24,0,{n:=28,tm:=[(1,.lp 0 0),(3,.sl 0 []),(4,ti)],lo:=[(0,[.sl 1 [],.sl 2 [],.sl 3 [],.sl 4 []])],ro:=[(0,.int,true),(1,(.sl .int),false),(2,.mon,false),(3,.entry,false),(4,.entry,false)]})]
theorem zYe (a:Host)(f:zmq a=true):∃N,zMw N a=some [aS .int (zfB a)]:=by
 have g:=zN.1 f;have e:=zc5 g;refine zcw fun N d=>?_;unfold zMw oN;conv=>zeta
 refine(zbj a.Memory (fun i (t:(List Int))=>((i:Int),t,a.Memory,a.Mons,a.Buffer,a.IoBuffer,())) _ (fun i (_:List Int) (t:List Int) b=>bif ilt (zbH a (i:Int)).1 0 then (cond (few (ln (ap t [(i:Int)]))) (b (ap t [(i:Int)])) none) else b t) (fun (t:(List Int))=>(some [(.one (.s .int t))])) (fun i c t rec=>?_) (fun t rec=>?_) _ ([]) (d e.1)).trans ?_;{simp only [zbS c,zbl c,zbv c,zbh c e.1,cT]};{simp only [zbK,cF]};rw[zzg (fun i (t:List Int) b=>bif ilt (zbH a (i:Int)).1 0 then (cond (few (ln (ap t [(i:Int)]))) (b (ap t [(i:Int)])) none) else b t)];exact zA0 (fun i=>ilt (zbH a (i:Int)).1 0) _ _ 0 [] (by simpa using e.2)
theorem zQN:vL 24 zFT:=kF1 zuY zu zA zds zZ5 zYe
@[simp] abbrev zl7 (h:Host):Bool:=pc (h.Memory.length<=1048576)
@[simp] abbrev zf2 (h:Host):List Int:=zcj h
def zFs:Run:=rF1 dH fun b=>(zl7 b,[aS .int (zf2 b)])
def zL5 (N:Nat)(b:Host):OA:=
 (iter (σ:=(Int×(Int×((List Int)×(lM×(lN×(lE×(lE×Unit)))))))) N (fun d a=>let c:=a.2.2.2.2.2.2.1;let e:=(⟨a.2.2.2.1,a.2.2.2.2.1,a.2.2.2.2.2.1,c⟩:Host); (cond (ilt a.2.1 a.1) (oN (zkU e a.2.1) (cond (ilt (zgI e a.2.1) 0) (oN (few (ln (ap a.2.2.1 [a.2.1]))) (d (a.1,((zL .i64 a.2.1 1),((ap a.2.2.1 [a.2.1]),(a.2.2.2.1,(a.2.2.2.2.1,(a.2.2.2.2.2.1,(c,()))))))))) (d (a.1,((zL .i64 a.2.1 1),(a.2.2.1,(a.2.2.2.1,(a.2.2.2.2.1,(a.2.2.2.2.2.1,(c,())))))))))) (some [(aS .int a.2.2.1)]))) ((ln b.Memory),(0,([],(b.Memory,(b.Mons,(b.Buffer,(b.IoBuffer,()))))))))
def zZX:FuncId->Nat->Option Tmpl:=zx [(33,0,{n:=28,tm:=[(1,.lp 0 0),(3,.sl 0 []),(10,ti),(11,ti)],lo:=[(0,[.sl 1 [],.sl 2 [],.sl 3 [],.sl 4 []])],ro:=[(0,.int,true),(1,(.sl .int),false),(2,.mon,false),(3,.entry,false),(4,.entry,false)]})]
theorem zXM (a:Host)(f:zl7 a=true):∃N,zL5 N a=some [aS .int (zf2 a)]:=by
 have g:=zN.1 f;have e:=zc5 g;refine zcw fun N d=>?_;unfold zL5 oN;conv=>zeta
 refine(zbj a.Memory (fun i (t:(List Int))=>((ln a.Memory),(i:Int),t,a.Memory,a.Mons,a.Buffer,a.IoBuffer,())) _ (fun i (_:List Int) (t:List Int) b=>bif ilt (zbH a (i:Int)).1 0 then (cond (few (ln (ap t [(i:Int)]))) (b (ap t [(i:Int)])) none) else b t) (fun (t:(List Int))=>(some [(.one (.s .int t))])) (fun i c t rec=>?_) (fun t rec=>?_) _ ([]) (d e.1)).trans ?_;{simp only [zbS c,zbl c,zbv c,zbh c e.1,cT]};{simp only [zbK,cF]};rw[zzg (fun i (t:List Int) b=>bif ilt (zbH a (i:Int)).1 0 then (cond (few (ln (ap t [(i:Int)]))) (b (ap t [(i:Int)])) none) else b t)];exact zA0 (fun i=>ilt (zbH a (i:Int)).1 0) _ _ 0 [] (by simpa using e.2)
theorem zQm:vL 33 zFs:=kF1 zuY zu zA zds zZX zXM
def zhQ (m:List (List Int))(p:Int)(c:List Int):List (List Int):=bif hasB p (ln m) then (cond (zco c) (up m p c) m) else m
@[simp] abbrev zlF (m:List (List Int))(p:Int)(c:List Int):Bool:=pc (SmM m/\c.length<=1048576)
@[simp] abbrev zj1 (m:List (List Int))(p:Int)(c:List Int):List (List Int):=zhQ m p c
def zAc:Run:=rF3 (dS (.sl .int)) dI (dS .int) fun b c d=>(zlF b c d,[aS (.sl .int) (zj1 b c d)])
def zEf (N:Nat)(a:lM)(b:Int)(c:List Int):OA:=
 (oN (zgi a) (oN (zO b 0 (wsub .i64 (ln a) 1)) (cond (zU b 0 (wsub .i64 (ln a) 1)) (oN (zgg c) (cond (zfF c) (oN (few (ln (ap [] c))) (oN (inb b (ln (zeL a))) (share (up (zeL a) b (ap [] c)) (fun d=>(some [(aS (.sl .int) d)]))))) (some [(aS (.sl .int) (zeL a))]))) (some [(aS (.sl .int) (zeL a))]))))
theorem zRW (b:List (List Int))(a:Int)(c:List Int)(g:zlF b a c=true):∃N,zEf N b a c=some [aS (.sl .int) (zj1 b a c)]:=by obtain⟨e,d⟩:=zN.1 g;refine⟨0,?_⟩;unfold zEf zj1 zhQ oN;refine must (zbn ((zqx _).2 e)) (must rfl ?_);rw[show zU a 0 (wsub .i64 (ln b) 1)=hasB a (ln b) from zri e.1 a];cases f:hasB a (ln b);{rfl};{simp only [cT,zgg,zfF];cases h:zco c;{rfl};{refine must rfl (must (zoi d) (must (zy f) ?_));rw[zmS];rfl}}
theorem zKR:vL 133 zAc:=kF3 zuY zu zA zds (zx []) zRW
@[simp] abbrev zlk (m:List (List Int))(p:Int)(c:List Int):Bool:=pc (SmM m/\c.length<=1048576)
@[simp] abbrev zjN (m:List (List Int))(p:Int)(c:List Int):List (List Int):=zhQ m p c
def zzT:Run:=rF3 (dS (.sl .int)) dI (dS .int) fun b c d=>(zlk b c d,[aS (.sl .int) (zjN b c d)])
def zDS (N:Nat)(a:lM)(b:Int)(c:List Int):OA:=
 (oN (zge a) (oN (zcc b (ln a)) (cond (zcU b (ln a)) (oN (zie c) (cond (zgO c) (oN (zdP c) (oN (inb b (ln (zdH a))) (share (up (zdH a) b (zdK c)) (fun d=>(some [(aS (.sl .int) d)]))))) (some [(aS (.sl .int) (zdH a))]))) (some [(aS (.sl .int) (zdH a))]))))
theorem zRx (a:List (List Int))(b:Int)(c:List Int)(f:zlk a b c=true):∃N,zDS N a b c=some [aS (.sl .int) (zjN a b c)]:=by obtain⟨g,d⟩:=zN.1 f;refine⟨0,?_⟩;unfold zDS zjN zhQ oN;refine must (zbn g) (must rfl ?_);rw[show zcU b (ln a)=hasB b (ln a) from rfl];cases e:hasB b (ln a);{rfl};{simp only [cT,zie,zgO];cases h:zco c;{rfl};{refine must rfl (must (zbn (qU d (by decide))) (must (zy e) rfl))}}
theorem zKw:vL 128 zzT:=kF3 zuY zu zA zds (zx []) zRx
def zrr:zbb:=[(24,zFT),(33,zFs),(133,zAc),(128,zzT)]++zbbR
theorem zhy:zM zrr:=zi zQN (zi zQm (zi zKR (zi zKw zuY)))
abbrev mZ:Mon:=Ty.dflt .mon
abbrev sZ:Slot:=Ty.dflt .slot
def ShM (x:Mon):Prop:=x.Outer.length=8/\x.Out.length=8/\x.Dirty.length=8/\x.Tables.length=x.Guests.length
def Shape (h:Host):Prop:=SmH h/\∀x∈h.Mons,ShM x
theorem ziN {h:Host}{m:Int}{x:Mon}(a:Shape h)(c:zft x)(d:ShM x):Shape {h with Mons:=up h.Mons m x}:=by refine⟨⟨a.1.1,zjy a.1.2.1 c,a.1.2.2⟩,fun y b=>?_⟩;rcases qW b with b|rfl;{exact a.2 y b};{exact d}
theorem zcy {h:Host}(b:Shape h){m:Int}(a:hasB m (ln h.Mons)=true):zft (ix h.Mons m mZ)/\ShM (ix h.Mons m mZ):=⟨b.1.2.1.2 _ (zbB a _),b.2 _ (zbB a _)⟩
theorem zT7 {h:Host}{b:List (List Int)}(a:Shape h)(c:SmM b):Shape {h with Memory:=b}:=⟨⟨c,a.1.2⟩,a.2⟩
theorem ztC {h:Host}{m p:Int}{s:Slot}(e:hasB m (ln h.Mons)=true)(b:Shape h):Shape (zcp h m p s):=by refine⟨zJI e b.1,?_⟩;obtain⟨_,a⟩:=zcy b e;have d:∀y∈up h.Mons m {zkR (ix h.Mons m mZ) p (ix h.Mons m mZ).Tables.length with Outer:=up (ix h.Mons m mZ).Outer p s},ShM y:=(by intro y c;rcases qW c with c|rfl;{exact b.2 y c};{exact⟨by simpa using a.1,a.2.1,a.2.2.1,by simpa [zkR,zrd] using a.2.2.2⟩});unfold zcp;cases ine (ix (ix h.Mons m mZ).Outer p sZ).Page (-1)<;>exact d
theorem zgv (h:Host)(m p:Int)(s:Slot):(zcp h m p s).Mons=up h.Mons m {zkR (ix h.Mons m mZ) p (ix h.Mons m mZ).Tables.length with Outer:=up (ix h.Mons m mZ).Outer p s}/\(zcp h m p s).Memory=h.Memory:=by unfold zcp;cases ine (ix (ix h.Mons m mZ).Outer p sZ).Page (-1)<;>exact⟨rfl,rfl⟩
theorem zeD {h:Host}{m k:Int}{x:Mon}(a:hasB m (ln h.Mons)=true):hasB m (ln (up h.Mons k x))=true:=by simpa [ln] using a
theorem zI1 {h:Host}{m k p:Int}{s:Slot}(a:hasB m (ln h.Mons)=true):hasB m (ln (zcp h k p s).Mons)=true:=by rw[(zgv h k p s).1];exact zeD a
theorem zdC {b:Type}{l:List b}{p:Int}(h:l.length=8)(a:hasB p 8=true):hasB p (ln l)=true:=by rw[ln,h];exact a
def zBo (h:Host)(m p:Int)(s:Slot):Host :=
 bif ine s.Page (-1) then ⟨h.Memory,up h.Mons m (zkR (ix h.Mons m mZ) p (ix h.Mons m mZ).Guests.length),flushed h.Buffer s.Page,flushed h.IoBuffer s.Page⟩
 else ⟨h.Memory,up h.Mons m (zkR (ix h.Mons m mZ) p (ix h.Mons m mZ).Guests.length),h.Buffer,h.IoBuffer⟩
theorem zBY {h:Host}{k:Nat}{p:Int}{s:Slot}(a:k<h.Mons.length)(b:(ix h.Mons (k:Int) mZ).Tables.length=(ix h.Mons (k:Int) mZ).Guests.length) :
 zBo {h with Mons:=up h.Mons (k:Int) {ix h.Mons (k:Int) mZ with Outer:=up (ix h.Mons (k:Int) mZ).Outer p s}} (k:Int) p (ix (ix h.Mons (k:Int) mZ).Outer p sZ)=zcp h (k:Int) p s:=by
 unfold zcp zBo;simp only[zd3 a,zxW,zkR,b]
def z4t {a:Type}(m p:Int)(i:Nat)(t:List Mon)(b:List Mon->Option a):Option a :=
 (cond (inb (i:Int) (ln (ix t m mZ).Tables)) (cond (inb (i:Int) (ln (ix t m mZ).Guests)) (cond (pc (SmK (ix (ix t m mZ).Tables (i:Int) zeU)/\(ix (ix t m mZ).Guests (i:Int) zl).Live.length<=1048576)) (cond (inb (i:Int) (ln (ix t m mZ).Tables)) (b (up t m ({ (ix t m mZ) with Tables:=(up (ix t m mZ).Tables (i:Int) (zic (ix (ix t m mZ).Tables (i:Int) zeU) (ix (ix t m mZ).Guests (i:Int) zl).Live p))}:Mon))) none) none) none) none)
theorem z2y {j:Type}{mons:List Mon}{k:Nat}(d:k<mons.length)(p:Int)(c:zft (ix mons (k:Int) mZ))(f:(ix mons (k:Int) mZ).Tables.length=(ix mons (k:Int) mZ).Guests.length)(K:List Mon->Option j) :
 ∀(n i:Nat),i+n=(ix mons (k:Int) mZ).Guests.length->goN (fun i t g=>z4t (k:Int) p i t g) K n i (up mons (k:Int) (zkR (ix mons (k:Int) mZ) p i))=K (up mons (k:Int) (zkR (ix mons (k:Int) mZ) p (ix mons (k:Int) mZ).Guests.length))
 | 0,i,h=>by have:i=(ix mons (k:Int) mZ).Guests.length:=(by omega);subst this;rfl
 |n+1,i,h=>by
  have b:i<(ix mons (k:Int) mZ).Guests.length:=(by omega);have a:i<(zlP (ix mons (k:Int) mZ).Guests p i (ix mons (k:Int) mZ).Tables).length:=by rw[zrd];omega
  have e:pc (SmK (ix (zlP (ix mons (k:Int) mZ).Guests p i (ix mons (k:Int) mZ).Tables) (i:Int) zeU)/\(ix (ix mons (k:Int) mZ).Guests (i:Int) zl).Live.length<=1048576)=true :=
   zbn ⟨by rw[zbv a];exact(zxU _ _ _ _ (by omega) c.2.2.2.2.2).2 _ (jK a),by rw[zbv b];exact(c.2.2.2.1.2 _ (jK b)).2.2.1⟩
  simp only[goN,z4t,zd3 d,zxW,zkR,zbl a,zbl b,e,cT];exact z2y d p c f K n (i+1) (by omega)
@[simp] abbrev zey (h:Host)(m p:Int)(s:Slot):Bool:=pc (Shape h/\hasB m (ln h.Mons)=true)
@[simp] abbrev zez (h:Host)(m p:Int)(s:Slot):Host:=zBo h m p s
def zmN:List CV->List AV->Option (Bool×List CV×List AV)
 |[.s (.sl .int) b,.s .mon c,.s .entry d,.s .entry e],[.one (.i .i64 f),.one (.i .i64 g),.agg [.i .i64 h,.i .i64 j]]=>some ((zey (⟨b,c,d,e⟩:Host) f g (⟨h,j⟩:Slot)),zbi (zez (⟨b,c,d,e⟩:Host) f g (⟨h,j⟩:Slot)),[])
 |_,_=>none
def zqm (N:Nat)(c:Host)(i n:Int)(k:Slot):OA:=
 (oN (inb i (ln c.Mons)) (iter (σ:=(Int×(Int×(Int×(Int×(Int×(Int×(lN×(lM×(lE×(lE×Unit))))))))))) N (fun p a=>let j:=a.2.2.2.2.2.2.2.1;let h:=a.2.2.2.2.2.2.1;let e:=a.2.2.2.2.1;let g:=a.2.2.2.2.2.2.2.2.1;let f:=a.2.2.2.2.2.2.2.2.2.1;let b:=a.2.2.2.1;let d:=(ix h a.2.1 zh);let m:=(ix d.Tables b zeU);let l:=(ix d.Guests b zl).Live; (cond (ilt b a.2.2.1) (oN (inb b (ln d.Tables)) (oN (inb b (ln d.Guests)) (oN (zqG m l a.1) (oN (inb b (ln d.Tables)) (share (up h a.2.1 ({d with Tables:=(up d.Tables b (zvi m l a.1))}:Mon)) (fun q=>(p (a.1,(a.2.1,(a.2.2.1,((zL .i64 b 1),(e,(a.2.2.2.2.2.1,(q,(j,(g,(f,()))))))))))))))))) (cond (ine e (-1)) (oN (zhZ g e) (oN (zhZ f e) (some [(aH (⟨j,h,(zkz g e),(zkz f e)⟩:Host))]))) (some [(aH (⟨j,h,g,f⟩:Host))])))) (n,(i,((ln (ix c.Mons i zh).Guests),(0,(k.Page,(k.Rights,(c.Mons,(c.Memory,(c.Buffer,(c.IoBuffer,()))))))))))))
def zLR:FuncId->Nat->Option Tmpl:=zx [(72,0,{n:=71,tm:=[(0,.lp 0 0),(2,ti),(7,.lp 1 0),(8,.ep 0 [] 0),(20,ti),(21,ti)],lo:=[(0,[.sl 1 [],.sl 0 [],.sl 2 [],.sl 3 []]),(1,[ti,ti])],ro:=[(0,.mon,true),(1,(.sl .int),true),(2,.entry,true),(3,.entry,true)]})]
theorem zOQ (N:Nat)(c:Host)(a b:Int)(d:Slot):zoQ (cQ zrr zpd zLu zZT) zLR N 12 72 [true,true,true,true] (zbi c) [aI a,aI b,aT .slot d]=zqm N c a b d:=by kernel_rfl
theorem zLc (c:Host)(d b:Int)(a:Slot)(s:zcE big (.agg (zbi c)::[aI d,aI b,aT .slot a]))(r:zey c d b a=true):∃N,zqm N c d b a=some (.agg (zbi (zez c d b a))::[]):=by
 obtain⟨h,g⟩:=zN.1 r;obtain⟨l,q⟩:=zcy h g;have hg:(ix c.Mons d mZ).Guests.length<=big:=(zc5 l.2.2.2.1.1).1;refine zcw fun N f=>?_;unfold zqm oN;conv=>zeta
 refine must (zy g) ?_;refine(zbj ((ix c.Mons d zh).Guests) (fun i (t:lN)=>(b,d,(ln (ix c.Mons d zh).Guests),(i:Int),a.Page,a.Rights,t,c.Memory,c.Buffer,c.IoBuffer,())) _ (fun i (x:Guest) (t:List Mon) j=>z4t d b i t j) (fun (t:lN)=>(cond (ine a.Page (-1)) (cond (zhZ c.Buffer a.Page) (cond (zhZ c.IoBuffer a.Page) (some [(.agg (zbi (⟨c.Memory,t,(zkz c.Buffer a.Page),(zkz c.IoBuffer a.Page)⟩:Host)))]) none) none) (some [(.agg (zbi (⟨c.Memory,t,c.Buffer,c.IoBuffer⟩:Host)))]))) (fun i e t rec=>?_) (fun t rec=>?_) _ (c.Mons) (f hg)).trans ?_;{simp only [zbS e,zbl e,zbv e,zbh e hg,cT];rfl};{simp only [zbK,cF]};obtain⟨k,rfl,m⟩:=zdX (n:=c.Mons.length) g;rw[zzg (fun i t j=>z4t (k:Int) b i t j)];have p:c.Mons=up c.Mons (k:Int) (zkR (ix c.Mons (k:Int) mZ) b 0):=(zSG m _).symm;refine(congrArg _ p).trans ((z2y m b l q.2.2.2 _ _ 0 (jX _)).trans ?_);show (cond (ine a.Page (-1)) _ _)=some [AV.agg (zbi (zBo c (k:Int) b a))];unfold zBo;cases ine a.Page (-1);{rfl};{exact must rfl (must (zbn h.1.2.2.1) (must (zbn h.1.2.2.2) rfl))}
theorem zEL:zbP Tryz.prog 72 [true,true,true,true] zmN:=by refine zhn (zgF zhy zu zA zds) (ziQ (by kernel_rfl)) ?_;intro g a b j i f h;have d:=zk5 f;unfold zmN at h;split at h;{obtain⟨e,rfl,rfl⟩:=znr h;obtain⟨N,c⟩:=zLc _ _ _ _ (by exact d) e;exact⟨rfl,_,N,12,(zOQ N _ _ _ _ ).trans c⟩};{cases h}
def z4V:zcN:=[(72,([true,true,true,true],zmN))]++zLu
theorem zSe:zb2 z4V:=zcs zA (by
 intro x a;simp only[qG,qN,or_false]at a;rcases a with rfl
 .exact zEL)
def zeV (h:Host)(m p:Int):Host:={h with Mons:=up h.Mons m {ix h.Mons m mZ with Out:=up (ix h.Mons m mZ).Out p (zcv h.Memory (ix (ix h.Mons m mZ).Outer p sZ).Page)}}
def zdD (h:Host)(m p:Int):Host:=zcp (zeV h m p) m p noSlot
theorem zZH {m:List (List Int)}{p:Int}(h:SmM m):(zcv m p).length<=1048576:=by unfold zcv;cases a:hasB p (ln m);{exact(by decide:zB6.length<=1048576)};{exact h.2 _ (zbB a _)}
theorem zyM {h:Host}{m p:Int}(c:Shape h)(d:hasB m (ln h.Mons)=true):Shape (zeV h m p):=by obtain⟨a,b⟩:=zcy c d;exact ziN c ⟨a.1,zPz a.2.1 (zZH c.1.1),a.2.2⟩ ⟨b.1,by simpa using b.2.1,b.2.2⟩
theorem zPq {h:Host}{m p:Int}(b:Shape h)(a:hasB m (ln h.Mons)=true):Shape (zdD h m p):=ztC (zeD a) (zyM b a)
@[simp] abbrev zup (h:Host)(m p:Int):Bool:=pc (Shape h/\hasB m (ln h.Mons)=true/\hasB p 8=true)
@[simp] abbrev zBV (h:Host)(m p:Int):Host:=zdD h m p
def zvO:List AV->Option (Bool×List AV)
 |[.agg [.s (.sl .int) b,.s .mon c,.s .entry d,.s .entry e],.one (.i .i64 f),.one (.i .i64 g)]=>some ((zup (⟨b,c,d,e⟩:Host) f g),[aH (zBV (⟨b,c,d,e⟩:Host) f g)])
 |_=>none
def zAF (N:Nat)(a:Host)(b c:Int):OA:=
 let d:=(ix a.Mons b zh);let e:=(ix d.Outer c zW).Page; (oN (inb b (ln a.Mons)) (oN (inb b (ln a.Mons)) (oN (inb c (ln d.Outer)) (oN (zBI a.Memory e) (oN (inb c (ln d.Out)) (share (up a.Mons b ({d with Out:=(up d.Out c (zBH a.Memory e))}:Mon)) (fun g=>let f:=({a with Mons:=g}:Host); (oN zcA (oN (zfp f b c zbw) (some [(aH (zhf f b c zbw))]))))))))))
theorem z1s (N:Nat)(a:Host)(b c:Int):zGR (cQ zrr zpd z4V zZT) (zx []) N 12 76 [true,true,true,true,false,false] 1 1 [[0],[1],[2],[4],[7]] .mon [aH a,aI b,aI c]=zAF N a b c:=by kernel_rfl
theorem zYz (b:Host)(d c:Int)(m:zcE big [aH b,aI d,aI c])(j:zup b d c=true):∃N,zAF N b d c=some [aH (zBV b d c)]:=by
 obtain⟨g,a,f⟩:=zN.1 j;obtain⟨l,e⟩:=zcy g a;obtain⟨k,rfl,h⟩:=zdX (n:=b.Mons.length) a;have i:=zyM (p:=c) g a;refine⟨0,?_⟩;unfold zAF oN;conv=>zeta
 refine must (zy a) (must (zy a) (must (zy (zdC e.1 f)) (must (zbn ((zqx _).2 g.1.1)) (must (zy (zdC e.2.1 f)) (shr (must rfl (must (zbn ⟨(zS _).2 i.1,zeD a,?_,?_⟩) rfl)))))));{simp only [zd3 h];exact zdC e.1 f};{simp only [zd3 h];exact kV e.2.2.2}
theorem zRe:zeh Tryz.prog 76 [true,true,true,true,false,false] (some (1,1,[[0],[1],[2],[4],[7]])) zvO:=by refine zl6 (kt:=.mon) (zgF zhy zu zSe zds) (ziQ (by kernel_rfl)) (by kernel_rfl) ?_;intro a g f e h;have c:=ziT e;unfold zvO at h;split at h;{obtain⟨d,rfl⟩:=zd7 h;obtain⟨N,b⟩:=zYz _ _ _ (by exact c) d;exact⟨⟨_,rfl⟩,rfl,_,N,12,(z1s N _ _ _ ).trans b⟩};{cases h}
@[simp] abbrev zK4 (h:Host)(m p:Int):Bool:=pc (Shape h/\hasB m (ln h.Mons)=true/\hasB p 8=true)
@[simp] abbrev zK5 (h:Host)(m p:Int):Host:=zdD h m p
def zys:List CV->List AV->Option (Bool×List CV×List AV)
 |[.s (.sl .int) b,.s .mon c,.s .entry d,.s .entry e],[.one (.i .i64 f),.one (.i .i64 g)]=>some ((zK4 (⟨b,c,d,e⟩:Host) f g),zbi (zK5 (⟨b,c,d,e⟩:Host) f g),[])
 |_,_=>none
def zJT (N:Nat)(c:Host)(b a:Int):OA:=
 let d:=(ix c.Mons b zh);let e:=(ix d.Outer a zW); (oN (inb b (ln c.Mons)) (oN (inb a (ln d.Outer)) (oN (zjI c.Memory e.Page) (oN (inb a (ln d.Out)) (share (up c.Mons b ({d with Out:=(up d.Out a (znS c.Memory e.Page))}:Mon)) (fun g=>let f:=(ix g b zh); (oN zdw (oN (inb a (ln f.Outer)) (share (up g b ({f with Outer:=(up f.Outer a zcQ)}:Mon)) (fun i=>let h:=({c with Mons:=i}:Host); (oN (zey h b a e) (some [(aH (zez h b a e))]))))))))))))
theorem z7G (N:Nat)(c:Host)(a b:Int):zoQ (cQ zrr zpd z4V zZT) (zx []) N 12 70 [true,true,true,true] (zbi c) [aI a,aI b]=zJT N c a b:=by kernel_rfl
theorem z4G (c:Host)(e a:Int)(w:zcE big (.agg (zbi c)::[aI e,aI a]))(u:zK4 c e a=true):∃N,zJT N c e a=some (.agg (zbi (zK5 c e a))::[]):=by
 obtain⟨l,b,j⟩:=zN.1 u;obtain⟨v,f⟩:=zcy l b;obtain⟨k,rfl,h⟩:=zdX (n:=c.Mons.length) b;have m:=zyM (p:=a) l b;have d:hasB (k:Int) (ln (zeV c (k:Int) a).Mons)=true:=zeD b;have i:k<(zeV c (k:Int) a).Mons.length:=(by simpa [zeV] using h);have g:ix (zeV c (k:Int) a).Mons (k:Int) mZ={ix c.Mons (k:Int) mZ with Out:=up (ix c.Mons (k:Int) mZ).Out a (zcv c.Memory (ix (ix c.Mons (k:Int) mZ).Outer a sZ).Page)}:=zd3 h _ _;have t:Shape {zeV c (k:Int) a with Mons:=up (zeV c (k:Int) a).Mons (k:Int) {ix (zeV c (k:Int) a).Mons (k:Int) mZ with Outer:=up (ix (zeV c (k:Int) a).Mons (k:Int) mZ).Outer a noSlot}}:=(by obtain⟨q,r⟩:=zcy m d;exact ziN m ⟨by simpa using q.1,q.2⟩ ⟨by simpa using r.1,r.2⟩);refine⟨0,?_⟩;unfold zJT oN;conv=>zeta
 refine must (zy b) (must (zy (zdC f.1 j)) (must (zbn ((zqx _).2 l.1.1)) (must (zy (zdC f.2.1 j)) (shr (must rfl (must ?_ (shr (must (zbn ⟨t,zeD d⟩) ?_))))))));{rw [zd3 h];exact zy (zdC f.1 j)};{have:=zBY (p:=a) (s:=noSlot) i (by rw[g];exact f.2.2.2);rw[g] at this;show some [AV.agg (zbi (zBo {zeV c (k:Int) a with Mons:=up (zeV c (k:Int) a).Mons (k:Int) {ix (zeV c (k:Int) a).Mons (k:Int) mZ with Outer:=up (ix (zeV c (k:Int) a).Mons (k:Int) mZ).Outer a noSlot}} (k:Int) a (ix (ix c.Mons (k:Int) mZ).Outer a sZ)))]=_;rw[g];exact congrArg (fun x=>some [AV.agg (zbi x)]) this}
theorem zXs:zbP Tryz.prog 70 [true,true,true,true] zys:=by refine zhn (zgF zhy zu zSe zds) (ziQ (by kernel_rfl)) ?_;intro g a b j i f h;have d:=zk5 f;unfold zys at h;split at h;{obtain⟨e,rfl,rfl⟩:=znr h;obtain⟨N,c⟩:=z4G _ _ _ (by exact d) e;exact⟨rfl,_,N,12,(z7G N _ _ _ ).trans c⟩};{cases h}
def z4W:zcN:=[(70,([true,true,true,true],zys))]++z4V
theorem zSf:zb2 z4W:=zcs zSe (by
 intro x a;simp only[qG,qN,or_false]at a;rcases a with rfl
 .exact zXs)
def z5N:zfh:=[(76,([true,true,true,true,false,false],(some (1,1,[[0],[1],[2],[4],[7]])),zvO))]++zZT
theorem zSs:zec z5N:=zre zds (by
 intro x a;simp only[qG,qN,or_false]at a;rcases a with rfl
 .exact zRe)
def cz (l:List Slot):Nat:=l.countP fun s=>ieq s.Page 0
def zH:List Mon->Nat
 |[]=>0
 |m::l=>cz m.Outer+zH l
def bit (u:List Bool):Nat:=bif ix u 0 false then 1 else 0
theorem zzb (s:Slot)(l:List Slot):cz (s::l)=cz l+bif ieq s.Page 0 then 1 else 0:=by unfold cz;rw[vE];cases ieq s.Page 0<;>rfl
theorem zbeS {u:List Bool}{p:Int}(c:0<=p)(a:p.toNat<u.length)(x:Bool):ix (up u p x) 0 false=bif ieq p 0 then x else ix u 0 false:=by unfold ix up;cases h:ieq p 0;{have:p≠0:=(by simpa [ieq] using h);have b:p.toNat≠0:=(by omega);simp[List.getD,q9,b]};{have:p=0:=(by simpa [ieq] using h);subst this;have a:0<u.length:=a;simp[List.getD,q9,a]}
theorem zGD:∀(l:List Slot) (u b:List Bool),(∀s∈l,s.Page<12)->u.length=12->zgY l u=some b->cz l+bit u=bit b
 |[],u,b,_,_,h=>by cases h;simp[cz]
 |s::l,u,b,i,k,h=>by
  simp only[zgY]at h;rw[zzb];cases c:ilt s.Page 0;{have c:=jQ c;rw[show ilt s.Page 0=false from qH (by omega)]at h;simp only[cF]at h;cases d:ix u s.Page false;{rw [d]at h;simp only[cF]at h;have g:s.Page.toNat<u.length:=(by have:=i s (by simp);omega);have a:=zGD l _ b (fun t j=>i t (by simp[j])) (by simpa using k) h;have e:bit (up u s.Page true)=bif ieq s.Page 0 then 1 else bit u:=(by unfold bit;rw[zbeS (by omega) g];cases ieq s.Page 0<;>rfl);rw[e] at a;cases f:ieq s.Page 0;{rw [f] at a;simp only[cF] at a ⊢;omega};{have n:s.Page=0:=(by simpa [ieq] using f);rw[n]at d;have:bit u=0:=(by unfold bit;rw[d];rfl);rw[f] at a;simp only[cT] at a ⊢;omega}};{rw [d]at h;cases h}};{have m:=qD c;rw[c]at h;simp only[cT]at h;have a:=zGD l u b (fun t j=>i t (by simp[j])) k h;have:ieq s.Page 0=false:=(by simp[ieq];omega);rw[this];simpa using a}
theorem zXw:∀(l:List Mon) (u:List Bool),u.length=12->ziX l u=true->zH l+bit u<=1
 |[],u,_,_=>by unfold zH bit;cases ix u 0 false<;>simp
 |m::l,u,c,h=>by simp only[ziX]at h;cases b:zef m;{rw [b]at h;cases h};{rw [b]at h;simp only[cT]at h;cases a:zgY m.Outer u with|none=>rw[a]at h;cases h|some d =>rw[a]at h;have e:=zGD _ _ _ (zHc (zm8 b)) c a;have f:=zXw l d ((zqj _ _ _ a).trans c) h;simp only[zH];omega}
theorem z6K:∀(l:List Slot) (b:Nat) (s:Slot),l[b]?=some s->s.Page=0->cz (l.set b noSlot)+1=cz l
 |[],b,s,h,_=>by simp at h
 |t::l,0,s,h,a=>by simp only[qI,qC]at h;subst h;rw[List.set_cons_zero,zzb,zzb];have:ieq t.Page 0=true:=(by simp[ieq,a]);rw[this];rfl
 |t::l,b+1,s,h,a=>by rw[List.set_cons_succ,zzb,zzb];have:=z6K l b s (by simpa using h) a;omega
theorem z0q:∀(l:List Mon) (a:Nat) (x y:Mon),l[a]?=some x->zH (l.set a y)+cz x.Outer=zH l+cz y.Outer
 |[],a,x,y,h=>by simp at h
 |m::l,0,x,y,h=>by simp only[qI,qC]at h;subst h;rw[List.set_cons_zero];simp only[zH];omega
 |m::l,a+1,x,y,h=>by rw[List.set_cons_succ];have:=z0q l a x y (by simpa using h);simp only[zH];omega
theorem z4c {l:List Slot}(h:cz l=0):zoS l 0=none:=by unfold zoS;rw[List.findIdx?_eq_none_iff];intro s a;have:=(u3.1 h) s a;simpa using this
theorem zOW:∀(l:List Mon) (i:Nat),zH l=0->zij 0 l i=(-1,-1)
 |[],_,_=>rfl
 |m::l,i,h=>by simp only[zH]at h;simp only[zij];rw[z4c (by omega)];exact zOW l (i+1) (by omega)
theorem z4d {l:List Slot}{k:Nat}(h:zoS l 0=some k):∃s,l[k]?=some s/\s.Page=0:=by unfold zoS at h;rw[uU]at h;obtain⟨a,b,_⟩:=h;exact⟨l[k],qB a,by simpa [ieq] using b⟩
theorem zI7:∀(l:List Mon) (i:Nat),zij 0 l i=(-1,-1)\/∃a b x s,zij 0 l i=(((i+a:Nat):Int),((b:Nat):Int))/\l[a]?=some x/\x.Outer[b]?=some s/\s.Page=0
 |[],_=>.inl rfl
 |m::l,i=>by
  simp only[zij];cases h:zoS m.Outer 0 with
  |none=>rcases zI7 l (i+1) with c|⟨a,b,x,s,c,d,f,g⟩;{exact .inl c};{refine .inr ⟨a+1,b,x,s,?_,by simpa using d,f,g⟩;have e:i+1+a=i+(a+1):=(by omega);rw[c,e]}
  |some k=>obtain⟨s,c,d⟩:=z4d h;exact .inr ⟨0,k,m,s,rfl,rfl,c,d⟩
def Fit (h:Host):Prop:=Shape h/\0<h.Memory.length/\zH h.Mons<=1
theorem zI0 {h:Host}(c:0<h.Memory.length)(b:ilt (zbH h 0).1 0=true):inb 0 (ln (zcj h))=true:=by unfold zcj;obtain⟨n,a⟩:∃n,h.Memory.length=n+1:=⟨h.Memory.length-1,by omega⟩;rw[a];simp only[zyn];rw[show ilt (zbH h ((0:Nat):Int)).1 0=true from b];exact qJ (by simp only[cT,ln,qZ];omega)
theorem z4i {h:Host}(b:0<h.Memory.length)(a:ieq (ln (zcj h)) 0=true):ilt (zbH h 0).1 0=false:=by cases c:ilt (zbH h 0).1 0;{rfl};{have d:=qD (zI0 b c);have e:ln (zcj h)=0:=(by simpa [ieq] using a);omega}
def zdf (h:Host):Host:=bif ieq (ln (zcj h)) 0 then zdD h (zbH h 0).1 (zbH h 0).2 else h
structure Room (h r:Host):Prop where
 shape:Shape r
 free:inb 0 (ln (zcj r))=true
 len:r.Mons.length=h.Mons.length
 outer:∀m,(ix r.Mons m mZ).Outer.length=8\/True
theorem z7N {h:Host}(i:Fit h)(f:ieq (ln (zcj h)) 0=true):∃(a b:Nat) (x:Mon) (s:Slot),zbH h 0=((a:Int),(b:Int))/\h.Mons[a]?=some x/\x.Outer[b]?=some s/\s.Page=0:=by have d:=z4i i.2.1 f;have e:zbH h 0=zij 0 h.Mons 0:=rfl;rcases zI7 h.Mons 0 with c|⟨a,b,x,s,c,g⟩;{rw [e,c]at d;cases d};{exact⟨a,b,x,s,by rw[e,c,jX],g⟩}
theorem zG5 {h:Host}(d:Fit h)(e:ieq (ln (zcj h)) 0=true):hasB (zbH h 0).1 (ln h.Mons)=true/\hasB (zbH h 0).2 8=true:=by obtain⟨a,b,x,s,f,c,g,j⟩:=z7N d e;rw[f];have k:=(qA.1 c).1;have l:=(qA.1 g).1;have i:=d.1.2 x (qK c);refine⟨qJ (by simp only[ln];omega),qJ ?_⟩;have:=i.1;show 0<=(b:Int)/\(b:Int)<8;omega
theorem room {h:Host}(d:Fit h):Room h (zdf h):=by unfold zdf;cases g:ieq (ln (zcj h)) 0;{refine⟨d.1,qJ ?_,rfl,fun _=>.inr trivial⟩;have:ln (zcj h)≠0:=(by simpa [ieq] using g);show 0<=(0:Int)/\(0:Int)<ln (zcj h);simp only[ln] at *;omega};{obtain⟨n,u⟩:=zG5 d g;obtain⟨a,b,x,s,r,i,k,t⟩:=z7N d g;simp only[cT];rw[r]at n u ⊢;have m:=(qA.1 i).1;have B:=(qA.1 k).1;have j:ix h.Mons (a:Int) mZ=x:=(by rw[zbv m];exact(qA.1 i).2);have c:=(zgv (zeV h (a:Int) (b:Int)) (a:Int) (b:Int) noSlot).1;have q:ix (zeV h (a:Int) (b:Int)).Mons (a:Int) mZ={x with Out:=up x.Out (b:Int) (zcv h.Memory (ix x.Outer (b:Int) sZ).Page)}:=(by unfold zeV;rw[zd3 m,j]);obtain⟨y,l,v⟩:∃y,(zdD h (a:Int) (b:Int)).Mons=h.Mons.set a y/\y.Outer=x.Outer.set b noSlot:=(by unfold zdD;rw[c,q];unfold zeV;rw[zxW];exact⟨_,by simp[up];rfl,by simp[up]⟩);have w:zH (zdD h (a:Int) (b:Int)).Mons=0:=(by have p:=z0q h.Mons a x y i;have z:=z6K x.Outer b s k t;have A:=d.2.2;rw[l];rw[v] at p;omega);have f:(zdD h (a:Int) (b:Int)).Memory=h.Memory:=(zgv (zeV h (a:Int) (b:Int)) (a:Int) (b:Int) noSlot).2;refine⟨zPq d.1 n,zI0 (by rw[f];exact d.2.1) ?_,by rw[l];simp,fun _=>.inr trivial⟩;have e:zbH (zdD h (a:Int) (b:Int)) 0=zij 0 (zdD h (a:Int) (b:Int)).Mons 0:=rfl;rw[e,zOW _ _ w];rfl}
theorem zZI {m:List (List Int)}{p:Int}{c:List Int}(h:SmM m)(a:c.length<=1048576):SmM (zhQ m p c):=by unfold zhQ;cases hasB p (ln m);{exact h};{cases zco c;{exact h};{exact zPz h a}}
def landing (r:Host)(m p to:Int):Host:={r with Memory:=zhQ r.Memory to (ix (ix r.Mons m mZ).Out p []),Mons:=up r.Mons m {ix r.Mons m mZ with Out:=up (ix r.Mons m mZ).Out p []}}
def ze5 (r:Host)(m p to:Int):Host:=zcp (landing r m p to) m p ⟨to,3⟩
def fetched (h:Host)(m p:Int):Host:=ze5 (zdf h) m p (ix (zcj (zdf h)) 0 0)
theorem zZK {r:Host}{m p:Int}(e:Shape r)(c:hasB m (ln r.Mons)=true)(d:hasB p 8=true):(ix (ix r.Mons m mZ).Out p []).length<=1048576:=by obtain⟨a,b⟩:=zcy e c;exact a.2.1.2 _ (zbB (zdC b.2.1 d) _)
theorem ztB {r:Host}{m p to:Int}(a:Shape r)(d:hasB m (ln r.Mons)=true)(e:hasB p 8=true):Shape (landing r m p to):=by obtain⟨b,c⟩:=zcy a d;exact zT7 (h:={r with Mons:=up r.Mons m {ix r.Mons m mZ with Out:=up (ix r.Mons m mZ).Out p []}}) (ziN (x:={ix r.Mons m mZ with Out:=up (ix r.Mons m mZ).Out p []}) a ⟨b.1,zPz b.2.1 (by simp),b.2.2⟩ ⟨c.1,by simpa using c.2.1,c.2.2⟩) (zZI a.1.1 (zZK a d e))
theorem zVL {r:Host}{m p d:Int}(c:Shape r)(a:hasB m (ln r.Mons)=true)(b:hasB p 8=true):Shape (ze5 r m p d):=ztC (zeD a) (ztB c a b)
theorem zqQ {h:Host}(a:Fit h){m:Int}(b:hasB m (ln h.Mons)=true):hasB m (ln (zdf h).Mons)=true:=by rw[ln,(room a).len];exact b
theorem zks {h:Host}{m p:Int}(a:Fit h)(b:hasB m (ln h.Mons)=true)(c:hasB p 8=true):Shape (fetched h m p)/\hasB m (ln (fetched h m p).Mons)=true :=
 ⟨zVL (room a).shape (zqQ a b) c,zI1 (zeD (zqQ a b))⟩
@[simp] abbrev zxQ (h:Host)(m p:Int):Bool:=pc (Fit h/\hasB m (ln h.Mons)=true/\hasB p 8=true)
@[simp] abbrev zAn (h:Host)(m p:Int):Host:=fetched h m p
def zyw:List AV->Option (Bool×List AV)
 |[.agg [.s (.sl .int) b,.s .mon c,.s .entry d,.s .entry e],.one (.i .i64 f),.one (.i .i64 g)]=>some ((zxQ (⟨b,c,d,e⟩:Host) f g),[aH (zAn (⟨b,c,d,e⟩:Host) f g)])
 |_=>none
def zEj (N:Nat)(a:Host)(c b:Int):OA:=
 let h:=(ix (zfB a) 0 0);let f:=(ix a.Mons c zh);let d:=(zBV a (zgK a 0) (zin a 0));let g:=(ix (zfB d) 0 0);let e:=(ix d.Mons c zh); (oN (zmq a) (cond (ieq (ln (zfB a)) 0) (oN (zkZ a 0) (oN (zup a (zgK a 0) (zin a 0)) (oN (zmq d) (oN (inb 0 (ln (zfB d))) (oN (inb c (ln d.Mons)) (oN (inb b (ln e.Out)) (oN (zlF d.Memory g (ix e.Out b [])) (oN (inb c (ln d.Mons)) (oN (inb b (ln e.Out)) (share (up d.Mons c ({e with Out:=(up e.Out b [])}:Mon)) (fun i=>let j:=({d with Memory:=(zj1 d.Memory g (ix e.Out b [])),Mons:=i}:Host); (oN (zfp j c b (⟨g,3⟩:Slot)) (some [(aH (zhf j c b (⟨g,3⟩:Slot)))]))))))))))))) (oN (zmq a) (oN (inb 0 (ln (zfB a))) (oN (inb c (ln a.Mons)) (oN (inb b (ln f.Out)) (oN (zlF a.Memory h (ix f.Out b [])) (oN (inb c (ln a.Mons)) (oN (inb b (ln f.Out)) (share (up a.Mons c ({f with Out:=(up f.Out b [])}:Mon)) (fun i=>let k:=({a with Memory:=(zj1 a.Memory h (ix f.Out b [])),Mons:=i}:Host); (oN (zfp k c b (⟨h,3⟩:Slot)) (some [(aH (zhf k c b (⟨h,3⟩:Slot)))])))))))))))))
theorem z4O (N:Nat)(a:Host)(b c:Int):zGR (cQ zrr zpd z4W z5N) (zx []) N 12 77 [true,true,true,true,false,false] 1 1 [[0],[1],[2],[4],[7]] .mon [aH a,aI b,aI c]=zEj N a b c:=by kernel_rfl
theorem z1h (c:Host)(b d:Int)(z:zcE big [aH c,aI b,aI d])(u:zxQ c b d=true):∃N,zEj N c b d=some [aH (zAn c b d)]:=by
 obtain⟨h,v,i⟩:=zN.1 u;have e:∀r,Shape r->inb 0 (ln (zcj r))=true->hasB b (ln r.Mons)=true->(cond (zmq r) (cond (inb 0 (ln (zfB r))) (cond (inb b (ln r.Mons)) (cond (inb d (ln (ix r.Mons b zh).Out)) (cond (zlF r.Memory (ix (zfB r) 0 0) (ix (ix r.Mons b zh).Out d [])) (cond (inb b (ln r.Mons)) (cond (inb d (ln (ix r.Mons b zh).Out)) (share (up r.Mons b ({ (ix r.Mons b zh) with Out:=(up (ix r.Mons b zh).Out d [])}:Mon)) (fun s=>(cond (zfp ({r with Memory:=(zj1 r.Memory (ix (zfB r) 0 0) (ix (ix r.Mons b zh).Out d [])),Mons:=s}:Host) b d (⟨(ix (zfB r) 0 0),3⟩:Slot)) (some [(AV.agg (zbi (zhf ({r with Memory:=(zj1 r.Memory (ix (zfB r) 0 0) (ix (ix r.Mons b zh).Out d [])),Mons:=s}:Host) b d (⟨(ix (zfB r) 0 0),3⟩:Slot))))]) none))) none) none) none) none) none) none) none)=some [AV.agg (zbi (ze5 r b d (ix (zcj r) 0 0)))]:=(by intro r j f a;obtain⟨y,l⟩:=zcy j a;have t:=ztB (to:=ix (zcj r) 0 0) j a i;obtain⟨k,rfl,q⟩:=zdX (n:=r.Mons.length) a;refine must (zbn j.1.1.1) (must f (must (zy a) (must (zy (zdC l.2.1 i)) (must (zbn ⟨j.1.1,zZK j a i⟩) (must (zy a) (must (zy (zdC l.2.1 i)) (shr (must (zbn ⟨(zS _).2 t.1,zeD a,?_,?_⟩) rfl))))))));{simp only [zd3 q];exact zdC l.1 i};{simp only [zd3 q];exact kV l.2.2.2});have g:=room h;have a:=zqQ h v;refine⟨0,?_⟩;unfold zEj zAn fetched oN;conv=>zeta
 refine must (zbn h.1.1.1.1) ?_;cases p:ieq (ln (zfB c)) 0;{have m:zdf c=c:=(by unfold zdf;rw[show ieq (ln (zcj c)) 0=false from p];rfl);rw[m]at g a ⊢;exact e c g.shape g.free a};{obtain⟨w,x⟩:=zG5 h p;have m:zdf c=zdD c (zbH c 0).1 (zbH c 0).2:=(by unfold zdf;rw[show ieq (ln (zcj c)) 0=true from p];rfl);rw[m]at g a ⊢;exact must rfl (must rfl (must (zbn ⟨h.1,w,x⟩) (e _ g.shape g.free a)))}
theorem zUK:zeh Tryz.prog 77 [true,true,true,true,false,false] (some (1,1,[[0],[1],[2],[4],[7]])) zyw:=by refine zl6 (kt:=.mon) (zgF zhy zu zSf zSs) (ziQ (by kernel_rfl)) (by kernel_rfl) ?_;intro a g f e h;have c:=ziT e;unfold zyw at h;split at h;{obtain⟨d,rfl⟩:=zd7 h;obtain⟨N,b⟩:=z1h _ _ _ (by exact c) d;exact⟨⟨_,rfl⟩,rfl,_,N,12,(z4O N _ _ _ ).trans b⟩};{cases h}
@[simp] abbrev ztd (h:Host):Bool:=pc (Shape h/\hasB (zbH h 0).1 (ln h.Mons)=true/\hasB (zbH h 0).2 8=true)
@[simp] abbrev zte (h:Host):Host:=zdD h (zbH h 0).1 (zbH h 0).2
def znX:List CV->List AV->Option (Bool×List CV×List AV)
 |[.s (.sl .int) b,.s .mon c,.s .entry d,.s .entry e],[]=>some ((ztd (⟨b,c,d,e⟩:Host)),zbi (zte (⟨b,c,d,e⟩:Host)),[])
 |_,_=>none
def zsY (N:Nat)(c:Host)  : OA :=
 (oN (zkU c 0) (oN (zK4 c (zgI c 0) (zid c 0)) (some [(aH (zK5 c (zgI c 0) (zid c 0)))])))
theorem zSa (N:Nat)(c:Host)  : zoQ (cQ zrr zpd z4W z5N) (zx []) N 12 127 [true,true,true,true] (zbi c) []=zsY N c:=by kernel_rfl
theorem zOB (c:Host)(d:zcE big (.agg (zbi c)::[]))(a:ztd c=true):∃N,zsY N c=some (.agg (zbi (zte c))::[]):=by have b:=zN.1 a;refine⟨0,?_⟩;unfold zsY oN;exact must rfl (must (zbn b) rfl)
theorem zHs:zbP Tryz.prog 127 [true,true,true,true] znX:=by refine zhn (zgF zhy zu zSf zSs) (ziQ (by kernel_rfl)) ?_;intro g a b j i f h;have d:=zk5 f;unfold znX at h;split at h;{obtain⟨e,rfl,rfl⟩:=znr h;obtain⟨N,c⟩:=zOB _ (by exact d) e;exact⟨rfl,_,N,12,(zSa N _ ).trans c⟩};{cases h}
def pctC:zcN:=[(127,([true,true,true,true],znX))]++z4W
theorem z2N:zb2 pctC:=zcs zSf (by
 intro x a;simp only[qG,qN,or_false]at a;rcases a with rfl
 .exact zHs)
def zZU:zfh:=[(77,([true,true,true,true,false,false],(some (1,1,[[0],[1],[2],[4],[7]])),zyw))]++z5N
theorem zHf:zec zZU:=zre zSs (by
 intro x a;simp only[qG,qN,or_false]at a;rcases a with rfl
 .exact zUK)
@[simp] abbrev zEV (h:Host)(m p:Int):Bool:=pc (Fit h/\hasB m (ln h.Mons)=true/\hasB p 8=true)
@[simp] abbrev zwS (h:Host)(m p:Int):Host:=fetched h m p
theorem z3A {r:Host}{m p to:Int}(d:Shape r)(b:hasB m (ln r.Mons)=true):zBo {landing r m p to with Mons:=up (landing r m p to).Mons m {ix (landing r m p to).Mons m mZ with Outer:=up (ix (landing r m p to).Mons m mZ).Outer p ⟨to,3⟩}} m p (ix (ix (landing r m p to).Mons m mZ).Outer p sZ)=ze5 r m p to:=by obtain⟨e,c⟩:=zcy d b;obtain⟨k,rfl,a⟩:=zdX (n:=r.Mons.length) b;refine zBY (h:=landing r (k:Int) p to) (by simpa [landing] using a) ?_;unfold landing;simp only[zd3 a];exact c.2.2.2
theorem z1U {r:Host}{m p to:Int}(f:Shape r)(b:hasB m (ln r.Mons)=true)(e:hasB p 8=true):Shape {landing r m p to with Mons:=up (landing r m p to).Mons m {ix (landing r m p to).Mons m mZ with Outer:=up (ix (landing r m p to).Mons m mZ).Outer p ⟨to,3⟩}}:=by have a:=ztB (to:=to) f b e;obtain⟨c,d⟩:=zcy a (zeD b);exact ziN a ⟨by simpa using c.1,c.2⟩ ⟨by simpa using d.1,d.2⟩
def zvw:List CV->List AV->Option (Bool×List CV×List AV)
 |[.s (.sl .int) b,.s .mon c,.s .entry d,.s .entry e],[.one (.i .i64 f),.one (.i .i64 g)]=>some ((zEV (⟨b,c,d,e⟩:Host) f g),zbi (zwS (⟨b,c,d,e⟩:Host) f g),[])
 |_,_=>none
def zDY (N:Nat)(c:Host)(b a:Int):OA:=
 let m:=(ix (zf2 c) 0 0);let d:=(zte c);let l:=(ix (zf2 d) 0 0);let f:=(ix c.Mons b zh);let e:=(ix d.Mons b zh); (oN (zl7 c) (cond (ieq (ln (zf2 c)) 0) (oN (ztd c) (oN (inb b (ln d.Mons)) (oN (zl7 d) (oN (inb 0 (ln (zf2 d))) (oN (inb a (ln e.Out)) (oN (zlk d.Memory l (ix e.Out a [])) (oN (inb a (ln e.Out)) (share (up d.Mons b ({e with Out:=(up e.Out a [])}:Mon)) (fun g=>let i:=(ix g b zh);let q:=(ix i.Outer a zW); (oN (inb a (ln i.Outer)) (oN (inb a (ln i.Outer)) (share (up g b ({i with Outer:=(up i.Outer a (⟨l,3⟩:Slot))}:Mon)) (fun k=>let n:=({d with Memory:=(zjN d.Memory l (ix e.Out a [])),Mons:=k}:Host); (oN (zey n b a q) (some [(aH (zez n b a q))]))))))))))))))) (oN (inb b (ln c.Mons)) (oN (zl7 c) (oN (inb 0 (ln (zf2 c))) (oN (inb a (ln f.Out)) (oN (zlk c.Memory m (ix f.Out a [])) (oN (inb a (ln f.Out)) (share (up c.Mons b ({f with Out:=(up f.Out a [])}:Mon)) (fun g=>let j:=(ix g b zh);let h:=(ix j.Outer a zW); (oN (inb a (ln j.Outer)) (oN (inb a (ln j.Outer)) (share (up g b ({j with Outer:=(up j.Outer a (⟨m,3⟩:Slot))}:Mon)) (fun k=>let p:=({c with Memory:=(zjN c.Memory m (ix f.Out a [])),Mons:=k}:Host); (oN (zey p b a h) (some [(aH (zez p b a h))]))))))))))))))))
theorem z4N (N:Nat)(c:Host)(a b:Int):zoQ (cQ zrr zpd pctC zZU) (zx []) N 12 71 [true,true,true,true] (zbi c) [aI a,aI b]=zDY N c a b:=by kernel_rfl
theorem z02 (c:Host)(b d:Int)(F:zcE big (.agg (zbi c)::[aI b,aI d]))(w:zEV c b d=true):∃N,zDY N c b d=some (.agg (zbi (zwS c b d))::[]):=by
 obtain⟨j,B,l⟩:=zN.1 w;have e:∀r,Shape r->inb 0 (ln (zcj r))=true->hasB b (ln r.Mons)=true->(cond (inb b (ln r.Mons)) (cond (zl7 r) (cond (inb 0 (ln (zf2 r))) (cond (inb d (ln (ix r.Mons b zh).Out)) (cond (zlk r.Memory (ix (zf2 r) 0 0) (ix (ix r.Mons b zh).Out d [])) (cond (inb d (ln (ix r.Mons b zh).Out)) (share (up r.Mons b ({ (ix r.Mons b zh) with Out:=(up (ix r.Mons b zh).Out d [])}:Mon)) (fun g=>(cond (inb d (ln (ix g b zh).Outer)) (cond (inb d (ln (ix g b zh).Outer)) (share (up g b ({ (ix g b zh) with Outer:=(up (ix g b zh).Outer d (⟨(ix (zf2 r) 0 0),3⟩:Slot))}:Mon)) (fun u=>(cond (zey ({r with Memory:=(zjN r.Memory (ix (zf2 r) 0 0) (ix (ix r.Mons b zh).Out d [])),Mons:=u}:Host) b d (ix (ix g b zh).Outer d zW)) (some [(AV.agg (zbi (zez ({r with Memory:=(zjN r.Memory (ix (zf2 r) 0 0) (ix (ix r.Mons b zh).Out d [])),Mons:=u}:Host) b d (ix (ix g b zh).Outer d zW))))]) none))) none) none))) none) none) none) none) none) none)=some [AV.agg (zbi (ze5 r b d (ix (zcj r) 0 0)))]:=(by intro r i f a;obtain⟨E,q⟩:=zcy i a;have v:=z1U (to:=ix (zcj r) 0 0) i a l;have hE:=z3A (p:=d) (to:=ix (zcj r) 0 0) i a;obtain⟨k,rfl,A⟩:=zdX (n:=r.Mons.length) a;have z:∀(x y:Mon),hasB (k:Int) (ln (up (up r.Mons (k:Int) x) (k:Int) y))=true:=fun x y=>(by simpa [ln] using a);have t:inb d (ln (ix (up r.Mons (k:Int) {ix r.Mons (k:Int) mZ with Out:=up (ix r.Mons (k:Int) mZ).Out d []}) (k:Int) mZ).Outer)=true:=(by rw[zd3 A];exact zy (zdC q.1 l));refine must (zy a) (must (zbn i.1.1.1) (must f (must (zy (zdC q.2.1 l)) (must (zbn ⟨i.1.1,zZK i a l⟩) (must (zy (zdC q.2.1 l)) (shr (must t (must t (shr (must (zbn ⟨v,z _ _⟩) ?_))))))))));exact congrArg (fun x=>some [AV.agg (zbi x)]) hE);have h:=room j;have a:=zqQ j B;refine⟨0,?_⟩;unfold zDY zwS fetched oN;conv=>zeta
 refine must (zbn j.1.1.1.1) ?_;cases s:ieq (ln (zf2 c)) 0;{have m:zdf c=c:=(by unfold zdf;rw[show ieq (ln (zcj c)) 0=false from s];rfl);rw[m]at h a ⊢;exact e c h.shape h.free a};{obtain⟨C,D⟩:=zG5 j s;have m:zdf c=zdD c (zbH c 0).1 (zbH c 0).2:=(by unfold zdf;rw[show ieq (ln (zcj c)) 0=true from s];rfl);rw[m]at h a ⊢;exact must rfl (must (zbn ⟨j.1,C,D⟩) (e _ h.shape h.free a))}
theorem zUv:zbP Tryz.prog 71 [true,true,true,true] zvw:=by refine zhn (zgF zhy zu z2N zHf) (ziQ (by kernel_rfl)) ?_;intro g a b j i f h;have d:=zk5 f;unfold zvw at h;split at h;{obtain⟨e,rfl,rfl⟩:=znr h;obtain⟨N,c⟩:=z02 _ _ _ (by exact d) e;exact⟨rfl,_,N,12,(z4N N _ _ _ ).trans c⟩};{cases h}
def z4X:zcN:=[(71,([true,true,true,true],zvw))]++pctC
theorem zSg:zb2 z4X:=zcs z2N (by
 intro x a;simp only[qG,qN,or_false]at a;rcases a with rfl
 .exact zUv)
def zbE (h:Host)(m p:Int):Host:={h with Mons:=up h.Mons m {ix h.Mons m mZ with Dirty:=up (ix h.Mons m mZ).Dirty p true}}
def opened (h:Host)(m p:Int):Host:=bif ieq (wand .i64 (ix (ix h.Mons m mZ).Outer p sZ).Rights 2) 0 then zcp h m p ⟨(ix (ix h.Mons m mZ).Outer p sZ).Page,3⟩ else h
def zjP (h:Host)(m p n:Int):Host:=bif ieq (wand .i64 n 2) 0 then h else opened (zbE h m p) m p
def mended (h:Host)(m p n:Int):Host:=bif ieq (ix (ix h.Mons m mZ).Outer p sZ).Page (-1) then zjP (fetched h m p) m p n else zjP h m p n
theorem zbdt {r:Int}(a:0<=r)(b:r<=3):enough r 2 = !ieq (wand .i64 r 2) 0:=by have:r=0\/r=1\/r=2\/r=3:=(by omega);rcases this with rfl|rfl|rfl|rfl<;>rfl
structure SlotFit (s:Slot):Prop where
 no:zc4 s noSlot=ieq s.Page (-1)
 lo:0<=s.Rights
 hi:s.Rights<=3
theorem z5G {s:Slot}{n:Int}(h:zdQ s n=true):SlotFit s:=by refine⟨zUb h,?_,?_⟩<;>unfold zdQ at h<;>cases a:zc4 s noSlot;{rw [a]at h;simp only[cF,zdj]at h;have:=(ze4.1 h.2.2).1;omega};{unfold zc4 at a;rw[qE]at a;have:s.Rights=0:=qD a.2;omega};{rw [a]at h;simp only[cF,zdj]at h;have:=(ze4.1 h.2.2).2;omega};{unfold zc4 at a;rw[qE]at a;have:s.Rights=0:=qD a.2;omega}
theorem znI {h:Host}{m p:Int}(c:Shape h)(d:hasB m (ln h.Mons)=true):Shape (zbE h m p):=by obtain⟨a,b⟩:=zcy c d;exact ziN c ⟨a.1,a.2.1,by simpa using a.2.2.1,a.2.2.2⟩ ⟨b.1,b.2.1,by simpa using b.2.2.1,b.2.2.2⟩
theorem zZB {h:Host}{m p:Int}(b:Shape h)(a:hasB m (ln h.Mons)=true):Shape (opened h m p)/\hasB m (ln (opened h m p).Mons)=true:=by unfold opened;cases ieq (wand .i64 (ix (ix h.Mons m mZ).Outer p sZ).Rights 2) 0;{exact⟨b,a⟩};{exact⟨ztC a b,zI1 a⟩}
theorem zJG {h:Host}{m p n:Int}(b:Shape h)(a:hasB m (ln h.Mons)=true):Shape (zjP h m p n)/\hasB m (ln (zjP h m p n).Mons)=true:=by unfold zjP;cases ieq (wand .i64 n 2) 0;{exact zZB (znI b a) (zeD a)};{exact⟨b,a⟩}
theorem zv8 {h:Host}{m p n:Int}(a:Fit h)(b:hasB m (ln h.Mons)=true)(e:hasB p 8=true):Shape (mended h m p n)/\hasB m (ln (mended h m p n).Mons)=true:=by unfold mended;cases ieq (ix (ix h.Mons m mZ).Outer p sZ).Page (-1);{exact zJG a.1 b};{obtain⟨c,d⟩:=zks a b e;exact zJG c d}
theorem zXb {h:Host}{m p:Int}(c:Fit h)(g:hasB m (ln h.Mons)=true)(j:hasB p 8=true):(ix (ix (fetched h m p).Mons m mZ).Outer p sZ).Rights=3:=by have f:=room c;have a:=zqQ c g;obtain⟨r,e⟩:=zcy f.shape a;obtain⟨k,rfl,d⟩:=zdX (n:=(zdf h).Mons.length) a;obtain⟨q,rfl,l⟩:=zdX (n:=8) j;unfold fetched ze5;rw[(zgv _ _ _ _).1];have b:k<(landing (zdf h) (k:Int) (q:Int) (ix (zcj (zdf h)) 0 0)).Mons.length:=(by simpa [landing] using d);rw[zd3 b];have i:q<(ix (landing (zdf h) (k:Int) (q:Int) (ix (zcj (zdf h)) 0 0)).Mons (k:Int) mZ).Outer.length:=(by unfold landing;rw[zd3 d];show q<(ix (zdf h).Mons (k:Int) mZ).Outer.length;rw[e.1];exact l);show (ix (up (ix (landing (zdf h) (k:Int) (q:Int) (ix (zcj (zdf h)) 0 0)).Mons (k:Int) mZ).Outer (q:Int) ⟨_,3⟩) (q:Int) sZ).Rights=3;rw[zd3 i]
def zWs (h:Host)(m p n:Int):Prop:=Fit h/\hasB m (ln h.Mons)=true/\hasB p 8=true/\(n=1\/n=2)/\SlotFit (ix (ix h.Mons m mZ).Outer p sZ)
@[simp] abbrev zno (h:Host)(m p n:Int):Bool:=pc (zWs h m p n)
@[simp] abbrev zox (h:Host)(m p n:Int):Host:=mended h m p n
def zto:List AV->Option (Bool×List AV)
 |[.agg [.s (.sl .int) b,.s .mon c,.s .entry d,.s .entry e],.one (.i .i64 f),.one (.i .i64 g),.one (.i .i64 h)]=>some ((zno (⟨b,c,d,e⟩:Host) f g h),[aH (zox (⟨b,c,d,e⟩:Host) f g h)])
 |_=>none
def zx6 (N:Nat)(c:Host)(a b l:Int):OA:=
 let h:=(zAn c a b);let k:=(ix h.Mons a zh);let e:=(ix c.Mons a zh);let p:=(ix e.Outer b zW); (oN (inb a (ln c.Mons)) (oN (inb b (ln e.Outer)) (oN zcA (cond (cond (ieq p.Page zbw.Page) (ieq p.Rights zbw.Rights) false) (oN (zxQ c a b) (cond (ieq (wand .i64 l 2) 0) (some [(aH h)]) (oN (inb a (ln h.Mons)) (oN (inb b (ln k.Dirty)) (share (up h.Mons a ({k with Dirty:=(up k.Dirty b true)}:Mon)) (fun d=>let q:=(ix d a zh).Outer;let i:=({h with Mons:=d}:Host);let m:=(ix q b zW);let r:=({m with Rights:=3}:Slot); (oN (inb a (ln d)) (oN (inb b (ln q)) (cond (ieq (wand .i64 m.Rights 2) 0) (oN (zfp i a b r) (some [(aH (zhf i a b r))])) (some [(aH i)])))))))))) (cond (ieq (wand .i64 l 2) 0) (some [(aH c)]) (oN (inb a (ln c.Mons)) (oN (inb b (ln e.Dirty)) (share (up c.Mons a ({e with Dirty:=(up e.Dirty b true)}:Mon)) (fun d=>let f:=(ix d a zh).Outer;let j:=({c with Mons:=d}:Host);let n:=(ix f b zW);let g:=({n with Rights:=3}:Slot); (oN (inb a (ln d)) (oN (inb b (ln f)) (cond (ieq (wand .i64 n.Rights 2) 0) (oN (zfp j a b g) (some [(aH (zhf j a b g))])) (some [(aH j)])))))))))))))
theorem zYO (N:Nat)(a:Host)(b c d:Int):zGR (cQ zrr zpd z4X zZU) (zx []) N 12 250 [true,true,true,true,false,false,false] 1 1 [[0],[1],[2],[4],[7]] .mon [aH a,aI b,aI c,aI d]=zx6 N a b c d:=by kernel_rfl
theorem zVw (d:Host)(b a h:Int)(C:zcE big [aH d,aI b,aI a,aI h])(z:zno d b a h=true):∃N,zx6 N d b a h=some [aH (zox d b a h)]:=by
 obtain⟨l,j,i,D,A⟩:=zN.1 z;obtain⟨B,v⟩:=zcy l.1 j;have f:∀r,Shape r->hasB b (ln r.Mons)=true->(cond (ieq (wand .i64 h 2) 0) (some [(AV.agg (zbi r))]) (cond (inb b (ln r.Mons)) (cond (inb a (ln (ix r.Mons b zh).Dirty)) (share (up r.Mons b ({ (ix r.Mons b zh) with Dirty:=(up (ix r.Mons b zh).Dirty a true)}:Mon)) (fun g=>(cond (inb b (ln g)) (cond (inb a (ln (ix g b zh).Outer)) (cond (ieq (wand .i64 (ix (ix g b zh).Outer a zW).Rights 2) 0) (cond (zfp ({r with Mons:=g}:Host) b a ({ (ix (ix g b zh).Outer a zW) with Rights:=3}:Slot)) (some [(AV.agg (zbi (zhf ({r with Mons:=g}:Host) b a ({ (ix (ix g b zh).Outer a zW) with Rights:=3}:Slot))))]) none) (some [(AV.agg (zbi ({r with Mons:=g}:Host)))])) none) none))) none) none))=some [AV.agg (zbi (zjP r b a h))]:=(by intro r u c;obtain⟨E,m⟩:=zcy u c;have y:=znI (p:=a) u c;unfold zjP;cases w:ieq (wand .i64 h 2) 0;{obtain⟨k,rfl,t⟩:=zdX (n:=r.Mons.length) c;have q:ix (zbE r (k:Int) a).Mons (k:Int) mZ={ix r.Mons (k:Int) mZ with Dirty:=up (ix r.Mons (k:Int) mZ).Dirty a true}:=zd3 t _ _;refine zdh rfl (must (zy c) (must (zy (zdC m.2.2.1 i)) (shr (must (zy (zeD c)) (must ?_ ?_)))));{rw [zd3 t];exact zy (zdC m.1 i)};{unfold opened;show (cond (ieq (wand .i64 (ix (ix (zbE r (k:Int) a).Mons (k:Int) mZ).Outer a sZ).Rights 2) 0) _ _)=_;cases s:ieq (wand .i64 (ix (ix (zbE r (k:Int) a).Mons (k:Int) mZ).Outer a sZ).Rights 2) 0;{rfl};{refine must rfl (must (zbn ⟨(zS _).2 y.1,zeD c,?_,?_⟩) rfl);{show hasB a (ln (ix (zbE r (k:Int) a).Mons (k:Int) mZ).Outer)=true;rw[q];exact zdC m.1 i};{show (ix (zbE r (k:Int) a).Mons (k:Int) mZ).Tables.length<=(ix (zbE r (k:Int) a).Mons (k:Int) mZ).Guests.length;rw[q];exact kV m.2.2.2}}}};{rfl});refine⟨0,?_⟩;unfold zx6 zox mended oN;conv=>zeta
 refine must (zy j) (must (zy (zdC v.1 i)) (must rfl ?_));have e:(cond (ieq (ix (ix d.Mons b mZ).Outer a sZ).Page zbw.Page) (ieq (ix (ix d.Mons b mZ).Outer a sZ).Rights zbw.Rights) false)=ieq (ix (ix d.Mons b mZ).Outer a sZ).Page (-1):=(by rw[<- A.no];unfold zc4 zbw;cases ieq (ix (ix d.Mons b mZ).Outer a sZ).Page noSlot.Page<;>rfl);rw[e];cases w:ieq (ix (ix d.Mons b mZ).Outer a sZ).Page (-1);{exact f d l.1 j};{obtain⟨s,x⟩:=zks (p:=a) l j i;exact must rfl (must (zbn ⟨l,j,i⟩) (f _ s x))}
theorem zOd:zeh Tryz.prog 250 [true,true,true,true,false,false,false] (some (1,1,[[0],[1],[2],[4],[7]])) zto:=by refine zl6 (kt:=.mon) (zgF zhy zu zSg zHf) (ziQ (by kernel_rfl)) (by kernel_rfl) ?_;intro a g f e h;have c:=ziT e;unfold zto at h;split at h;{obtain⟨d,rfl⟩:=zd7 h;obtain⟨N,b⟩:=zVw _ _ _ _ (by exact c) d;exact⟨⟨_,rfl⟩,rfl,_,N,12,(zYO N _ _ _ _ ).trans b⟩};{cases h}
@[simp] abbrev zK3 (h:Host)(m p n:Int):Bool:=pc (zWs h m p n)
@[simp] abbrev zvo (h:Host)(m p n:Int):Host:=mended h m p n
def zyr:List CV->List AV->Option (Bool×List CV×List AV)
 |[.s (.sl .int) b,.s .mon c,.s .entry d,.s .entry e],[.one (.i .i64 f),.one (.i .i64 g),.one (.i .i64 h)]=>some ((zK3 (⟨b,c,d,e⟩:Host) f g h),zbi (zvo (⟨b,c,d,e⟩:Host) f g h),[])
 |_,_=>none
def zJS (N:Nat)(c:Host)(b a k:Int):OA:=
 let e:=(zwS c b a);let m:=(ix e.Mons b zh);let h:=(ix c.Mons b zh); (oN (inb b (ln c.Mons)) (oN (inb a (ln h.Outer)) (cond (ieq (ix h.Outer a zW).Page (-1)) (oN (zEV c b a) (oN (zdJ k 2) (cond (nB (zea k 2)) (some [(aH e)]) (oN (inb b (ln e.Mons)) (oN (inb a (ln m.Dirty)) (share (up e.Mons b ({m with Dirty:=(up m.Dirty a true)}:Mon)) (fun d=>let i:=(ix d b zh);let f:=(ix i.Outer a zW); (oN (inb a (ln i.Outer)) (oN (zdJ f.Rights 2) (cond (nB (zea f.Rights 2)) (oN (inb a (ln i.Outer)) (share (up d b ({i with Outer:=(up i.Outer a ({f with Rights:=3}:Slot))}:Mon)) (fun l=>let n:=({e with Mons:=l}:Host); (oN (zey n b a f) (some [(aH (zez n b a f))]))))) (some [(aH ({e with Mons:=d}:Host))]))))))))))) (oN (zdJ k 2) (cond (nB (zea k 2)) (some [(aH c)]) (oN (inb b (ln c.Mons)) (oN (inb a (ln h.Dirty)) (share (up c.Mons b ({h with Dirty:=(up h.Dirty a true)}:Mon)) (fun d=>let j:=(ix d b zh);let g:=(ix j.Outer a zW); (oN (inb a (ln j.Outer)) (oN (zdJ g.Rights 2) (cond (nB (zea g.Rights 2)) (oN (inb a (ln j.Outer)) (share (up d b ({j with Outer:=(up j.Outer a ({g with Rights:=3}:Slot))}:Mon)) (fun l=>let p:=({c with Mons:=l}:Host); (oN (zey p b a g) (some [(aH (zez p b a g))]))))) (some [(aH ({c with Mons:=d}:Host))])))))))))))))
theorem z7F (N:Nat)(c:Host)(a b d:Int):zoQ (cQ zrr zpd z4X zZU) (zx []) N 12 265 [true,true,true,true] (zbi c) [aI a,aI b,aI d]=zJS N c a b d:=by kernel_rfl
theorem z4F (c:Host)(b a f:Int)(R:zcE big (.agg (zbi c)::[aI b,aI a,aI f]))(M:zK3 c b a f=true):∃N,zJS N c b a f=some (.agg (zbi (zvo c b a f))::[]):=by
 obtain⟨l,i,j,P,C⟩:=zN.1 M;obtain⟨Q,I⟩:=zcy l.1 i;have H:enough f 2 = !ieq (wand .i64 f 2) 0:=(by rcases P with rfl|rfl<;>rfl);have g:∀r,Shape r->hasB b (ln r.Mons)=true->enough (ix (ix r.Mons b mZ).Outer a sZ).Rights 2=(!ieq (wand .i64 (ix (ix r.Mons b mZ).Outer a sZ).Rights 2) 0)->(cond (zdJ f 2) (cond (cond (zea f 2) false true) (some [(AV.agg (zbi r))]) (cond (inb b (ln r.Mons)) (cond (inb a (ln (ix r.Mons b zh).Dirty)) (share (up r.Mons b ({ (ix r.Mons b zh) with Dirty:=(up (ix r.Mons b zh).Dirty a true)}:Mon)) (fun e=>(cond (inb a (ln (ix e b zh).Outer)) (cond (zdJ (ix (ix e b zh).Outer a zW).Rights 2) (cond (cond (zea (ix (ix e b zh).Outer a zW).Rights 2) false true) (cond (inb a (ln (ix e b zh).Outer)) (share (up e b ({ (ix e b zh) with Outer:=(up (ix e b zh).Outer a ({ (ix (ix e b zh).Outer a zW) with Rights:=3}:Slot))}:Mon)) (fun F=>(cond (zey ({r with Mons:=F}:Host) b a (ix (ix e b zh).Outer a zW)) (some [(AV.agg (zbi (zez ({r with Mons:=F}:Host) b a (ix (ix e b zh).Outer a zW))))]) none))) none) (some [(AV.agg (zbi ({r with Mons:=e}:Host)))])) none) none))) none) none)) none)=some [AV.agg (zbi (zjP r b a f))]:=(by intro r B d q;obtain⟨S,u⟩:=zcy B d;have w:=znI (p:=a) B d;unfold zjP;simp only[zdJ,zea,H,cT];cases J:ieq (wand .i64 f 2) 0;{obtain⟨k,rfl,A⟩:=zdX (n:=r.Mons.length) d;have m:ix (zbE r (k:Int) a).Mons (k:Int) mZ={ix r.Mons (k:Int) mZ with Dirty:=up (ix r.Mons (k:Int) mZ).Dirty a true}:=zd3 A _ _;have t:k<(zbE r (k:Int) a).Mons.length:=(by simpa [zbE] using A);have z:inb a (ln (ix (zbE r (k:Int) a).Mons (k:Int) mZ).Outer)=true:=(by rw[m];exact zy (zdC u.1 j));refine zdh rfl (must (zy d) (must (zy (zdC u.2.2.1 j)) (shr (must z ?_))));unfold opened;show (cond (cond (enough (ix (ix (zbE r (k:Int) a).Mons (k:Int) mZ).Outer a sZ).Rights 2) false true) _ _)=_;have G:(cond (enough (ix (ix (zbE r (k:Int) a).Mons (k:Int) mZ).Outer a sZ).Rights 2) false true)=ieq (wand .i64 (ix (ix (zbE r (k:Int) a).Mons (k:Int) mZ).Outer a sZ).Rights 2) 0:=(by rw[m];show (cond (enough (ix (ix r.Mons (k:Int) mZ).Outer a sZ).Rights 2) false true)=ieq (wand .i64 (ix (ix r.Mons (k:Int) mZ).Outer a sZ).Rights 2) 0;rw[q];cases ieq (wand .i64 (ix (ix r.Mons (k:Int) mZ).Outer a sZ).Rights 2) 0<;>rfl);rw[G];cases v:ieq (wand .i64 (ix (ix (zbE r (k:Int) a).Mons (k:Int) mZ).Outer a sZ).Rights 2) 0;{rfl};{have L:Shape {zbE r (k:Int) a with Mons:=up (zbE r (k:Int) a).Mons (k:Int) {ix (zbE r (k:Int) a).Mons (k:Int) mZ with Outer:=up (ix (zbE r (k:Int) a).Mons (k:Int) mZ).Outer a ⟨(ix (ix (zbE r (k:Int) a).Mons (k:Int) mZ).Outer a sZ).Page,3⟩}}:=(by obtain⟨D,E⟩:=zcy w (zeD d);exact ziN w ⟨by simpa using D.1,D.2⟩ ⟨by simpa using E.1,E.2⟩);have O:∀(x y:Mon),hasB (k:Int) (ln (up (up r.Mons (k:Int) x) (k:Int) y))=true:=fun x y=>(by simpa [ln] using d);refine must rfl (must z (shr (must (zbn ⟨L,O _ _⟩) ?_)));exact congrArg (fun x=>some [AV.agg (zbi x)]) (zBY (h:=zbE r (k:Int) a) (p:=a) (s:=⟨(ix (ix (zbE r (k:Int) a).Mons (k:Int) mZ).Outer a sZ).Page,3⟩) t (by rw[m];exact u.2.2.2))}};{rfl});refine⟨0,?_⟩;unfold zJS zvo mended oN nB;conv=>zeta
 refine must (zy i) (must (zy (zdC I.1 j)) ?_);cases J:ieq (ix (ix c.Mons b mZ).Outer a sZ).Page (-1);{exact g c l.1 i (zbdt C.lo C.hi)};{obtain⟨v,K⟩:=zks (p:=a) l i j;exact must rfl (must (zbn ⟨l,i,j⟩) (g _ v K (by rw[zXb l i j];rfl)))}
theorem zXr:zbP Tryz.prog 265 [true,true,true,true] zyr:=by refine zhn (zgF zhy zu zSg zHf) (ziQ (by kernel_rfl)) ?_;intro g a b j i f h;have d:=zk5 f;unfold zyr at h;split at h;{obtain⟨e,rfl,rfl⟩:=znr h;obtain⟨N,c⟩:=z4F _ _ _ _ (by exact d) e;exact⟨rfl,_,N,12,(z7F N _ _ _ _ ).trans c⟩};{cases h}
def z4Z:zcN:=[(265,([true,true,true,true],zyr))]++z4X
theorem zb9:zb2 z4Z:=zcs zSg (by
 intro x a;simp only[qG,qN,or_false]at a;rcases a with rfl
 .exact zXr)
def z5O:zfh:=[(250,([true,true,true,true,false,false,false],(some (1,1,[[0],[1],[2],[4],[7]])),zto))]++zZU
theorem zAt:zec z5O:=zre zHf (by
 intro x a;simp only[qG,qN,or_false]at a;rcases a with rfl
 .exact zOd)
theorem z4q {h:Host}(b:zce h=true):h.Memory.length=12:=by unfold zce at b;simp only[zdj]at b;have a:=b.1;unfold zhT at a;simp only[zdj]at a;have:ln h.Memory=12:=qD a.2;simp only[ln] at this;omega
theorem zg9 {h:Host}(a:zce h=true):∀x∈h.Mons,zef x=true:=by unfold zce at a;simp only[zdj]at a;exact zA4 _ _ a.2.2.2.2
theorem zLq {x:Mon}(a:zef x=true):ShM x:=by have e:=zsP (zm8 a);unfold zef at a;simp only[zdj]at a;have b:ln x.Tables=ln x.Guests:=qD a.2.1;have c:ln x.Out=8:=qD a.2.2.2.1;have d:ln x.Dirty=8:=qD a.2.2.2.2.1;simp only[ln] at *;exact⟨by omega,by omega,by omega,by omega⟩
theorem zfx {h:Host}(b:SmH h)(a:zce h=true):Fit h:=by refine⟨⟨b,fun x c=>zLq (zg9 a x c)⟩,by rw[z4q a];decide,?_⟩;unfold zce at a;simp only[zdj]at a;have:=zXw _ _ rfl a.2.2.2.2;omega
theorem zt4 {x:Mon}(b:zef x=true){p:Int}(c:hasB p 8=true):SlotFit (ix x.Outer p sZ):=by have a:=zm8 b;unfold zc1 at a;simp only[zdj]at a;exact z5G (qM.1 a.1 _ (zbB (zdC (zLq b).1 c) _))
theorem z0J {h:Host}{m p:Int}(a:Fit h)(c:hasB m (ln h.Mons)=true):Fit (zbE h m p):=by refine⟨znI a.1 c,a.2.1,?_⟩;obtain⟨k,rfl,b⟩:=zdX (n:=h.Mons.length) c;have:=z0q h.Mons k (ix h.Mons (k:Int) mZ) {ix h.Mons (k:Int) mZ with Dirty:=up (ix h.Mons (k:Int) mZ).Dirty p true} (by rw[zbv b];exact qB b);have d:=a.2.2;unfold zbE;simp only[up,kB];dsimp only at this;simp only[up] at this;omega
abbrev gZ:Guest:=Ty.dflt .guest
@[simp] abbrev zsy (h:Host)(m:Int):Bool:=pc (zct h)
@[simp] abbrev zcG (h:Host)(m:Int):Mon:=bif hasB m (ln h.Mons) then ix h.Mons m mZ else mZ
@[simp] abbrev zlg (h:Host)(m:Int):Bool:=hasB m (ln h.Mons)
def zJg:Run:=rF2 dH dI fun b c=>(zsy b c,[aT .mon (zcG b c),aB (zlg b c)])
def zSR (N:Nat)(a:Host)(b:Int):OA:=
 let c:=(ix a.Mons b zh); (oN (zcc b (ln a.Mons)) (cond (nB (zcU b (ln a.Mons))) (some [(aT .mon (⟨[],[],[],[],[],0,0,[],0⟩:Mon)),(aB false)]) (oN (inb b (ln a.Mons)) (oN (zkB c) (some [(aT .mon (zll c)),(aB true)])))))
theorem z0Y (a:Host)(b:Int)(d:zsy a b=true):∃N,zSR N a b=some [aT .mon (zcG a b),aB (zlg a b)]:=by
 have e:=(zS a).1 (zN.1 d);refine⟨0,?_⟩;unfold zSR zcG zlg oN nB;conv=>zeta
 refine must rfl ?_;rw[show zcU b (ln a.Mons)=hasB b (ln a.Mons) from rfl];cases c:hasB b (ln a.Mons);{rfl};{exact zdh rfl (must (zy c) (must (zbn (e.2.1.2 _ (zbB c _))) rfl))}
theorem zUr:vL 97 zJg:=kF2 zhy zu zb9 zAt (zx []) z0Y
def zbM (h:Host)(m g:Int):Bool:=bif zce h then (cond (hasB m (ln h.Mons)) (hasB g (ln (ix h.Mons m mZ).Guests)) false) else false
@[simp] abbrev zhh (h:Host)(m g:Int):Bool:=pc (zct h)
@[simp] abbrev zjj (h:Host)(m g:Int):Bool:=zbM h m g
def zJy:Run:=rF3 dH dI dI fun b c d=>(zhh b c d,[aB (zjj b c d)])
def zTa (N:Nat)(a:Host)(b c:Int):OA:=
 let d:=(wsub .i64 (ln (ix a.Mons b zh).Guests) 1); (oN (zfD a) (cond (zfC a) (oN (zO b 0 (wsub .i64 (ln a.Mons) 1)) (cond (zU b 0 (wsub .i64 (ln a.Mons) 1)) (oN (inb b (ln a.Mons)) (oN (zO c 0 d) (some [(aB (zU c 0 d))]))) oF)) oF))
theorem z1j (a:Host)(b c:Int)(f:zhh a b c=true):∃N,zTa N a b c=some [aB (zjj a b c)]:=by
 have e:=(zS a).1 (zN.1 f);refine⟨0,?_⟩;unfold zTa zjj zbM oN;conv=>zeta
 refine must rfl ?_;rw[show zfC a=zce a from rfl];cases g:zce a;{rfl};{rw [show zU b 0 (wsub .i64 (ln a.Mons) 1)=hasB b (ln a.Mons) from zri e.2.1.1 b];refine must rfl (must rfl ?_);cases d:hasB b (ln a.Mons);{rfl};{have hg:(ix a.Mons b mZ).Guests.length<=1048576:=(e.2.1.2 _ (zbB d _)).2.2.2.1.1;rw[show zU c 0 (wsub .i64 (ln (ix a.Mons b zh).Guests) 1)=hasB c (ln (ix a.Mons b mZ).Guests) from zri hg c];exact must rfl (must (zy d) (must rfl rfl))}}
theorem zUM:vL 233 zJy:=kF3 zhy zu zb9 zAt (zx []) z1j
def zcz (h:Host)(m:Int):Nat->Nat->List (List Int)
 | 0,_=>[]
 |n+1,i=>zcM h m (i:Int)::zcz h m n (i+1)
theorem zBB (h:Host)(m:Int):∀(n i:Nat),(zcz h m n i).length=n
 | 0,_=>rfl
 |n+1,i=>by simp[zcz,zBB h m n]
def zG (h:Host)(m:Int):Bare:=bif hasB m (ln h.Mons) then ⟨zcz h m 8 0,(ix h.Mons m mZ).Guests,(ix h.Mons m mZ).Outs,(ix h.Mons m mZ).Pending⟩ else ⟨[],[],[],0⟩
theorem zTD {c:Type}(h:Host)(m:Int)(K:List (List Int)->Option c):∀(n i:Nat) (a:List (List Int)),a.length+n<=2147483648->
 goN (fun i a b=>bif few (ln (ap a [zcM h m (i:Int)])) then b (ap a [zcM h m (i:Int)]) else none) K n i a=K (a++zcz h m n i)
 | 0,_,a,_=>by simp[goN,zcz]
 |n+1,i,a,d=>by simp only[goN,zcz];rw[zgV (by simp[ap];omega),cT,zTD h m K n (i+1) _ (by simp[ap];omega)];simp[ap]
@[simp] abbrev zBg (h:Host)(m:Int):Bool:=pc (zct h)
@[simp] abbrev zqI (h:Host)(m:Int):Bare:=zG h m
def zbbS:zbb:=[(97,zJg),(233,zJy)]++zrr
theorem zWY:zM zbbS:=zi zUr (zi zUM zhy)
def zFE:Run:=rF2 dH dI fun b c=>(zBg b c,[aT .bare (zqI b c)])
def zMg (N:Nat)(b:Host)(c:Int):OA:=
 (oN (zsy b c) (cond (nB (zlg b c)) (some [(aT .bare (⟨[],[],[],0⟩:Bare))]) (iter (σ:=(Int×(Int×(Int×(Int×(lM×(lN×(lE×(lE×(lM×(lG×((List Int)×(lM×(lG×((List Int)×Unit))))))))))))))) N (fun h a=>let g:=a.2.2.2.2.2.2.2.2.2.2.2.2.1;let f:=a.2.2.2.2.2.2.2.2.2.2.2.2.2.1;let d:=(⟨a.2.2.2.2.1,a.2.2.2.2.2.1,a.2.2.2.2.2.2.1,a.2.2.2.2.2.2.2.1⟩:Host);let e:=(ap a.2.2.2.2.2.2.2.2.2.2.2.1 [(zBc d a.1 a.2.1)]); (cond (ilt a.2.1 8) (oN (zBd d a.1 a.2.1) (oN (few (ln e)) (h (a.1,((zL .i64 a.2.1 1),(a.2.2.1,(a.2.2.2.1,(a.2.2.2.2.1,(a.2.2.2.2.2.1,(a.2.2.2.2.2.2.1,(a.2.2.2.2.2.2.2.1,(a.2.2.2.2.2.2.2.2.1,(a.2.2.2.2.2.2.2.2.2.1,(a.2.2.2.2.2.2.2.2.2.2.1,(e,(g,(f,()))))))))))))))))) (some [(aT .bare (⟨a.2.2.2.2.2.2.2.2.2.2.2.1,g,f,a.2.2.2.1⟩:Bare))]))) (c,(0,(0,((zcG b c).Pending,(b.Memory,(b.Mons,(b.Buffer,(b.IoBuffer,([],([],([],([],((zcG b c).Guests,((zcG b c).Outs,())))))))))))))))))
def zZ1:FuncId->Nat->Option Tmpl:=zx [(113,0,{n:=39,tm:=[(1,ti),(2,.lp 0 0),(4,.lp 1 0),(7,.lp 2 0),(8,ti)],lo:=[(0,[.sl 0 [],.sl 1 [],.sl 2 [],.sl 3 []]),(1,[.sl 4 [],.sl 5 [],.sl 6 [],ti]),(2,[.sl 7 [],.sl 8 [],.sl 9 [],ti])],ro:=[(0,(.sl .int),false),(1,.mon,false),(2,.entry,false),(3,.entry,false),(4,(.sl .int),true),(5,.guest,true),(6,.int,true),(7,(.sl .int),true),(8,.guest,true),(9,.int,true)]})]
theorem zXY (a:Host)(b:Int)(f:zBg a b=true):∃N,zMg N a b=some [aT .bare (zqI a b)]:=by
 have e:=zN.1 f;refine zcw fun N d=>?_;unfold zMg zqI zG oN nB;conv=>zeta
 refine must (zbn e) ?_;rw[show zlg a b=hasB b (ln a.Mons) from rfl];cases g:hasB b (ln a.Mons);{rfl};{refine zdh rfl ?_;refine(zBp 8 (fun i (t:lM)=>(b,(i:Int),0,(zcG a b).Pending,a.Memory,a.Mons,a.Buffer,a.IoBuffer,[],[],[],t,(zcG a b).Guests,(zcG a b).Outs,())) _ (fun i (c:List (List Int)) j=>bif few (ln (ap c [zcM a b (i:Int)])) then j (ap c [zcM a b (i:Int)]) else none) (fun (t:lM)=>(some [(.agg (Ty.cells .bare (⟨t,(zcG a b).Guests,(zcG a b).Outs,(zcG a b).Pending⟩:Bare)))])) (fun i h t rec=>?_) (fun t rec=>?_) _ ([]) (d (by decide))).trans ?_;{simp only [show ilt (i:Int) 8=true from qJ (by omega),zbh h (show 8<=big by decide),cT];exact must (zbn e) rfl};{simp only [show ilt (((8:Nat)):Int) 8=false from qH (by omega),cF]};rw[zTD a b _ 8 0 [] (by decide)];simp only[zcG,g,cT,jS]}
theorem zQy:vL 113 zFE:=kF2 zWY zu zb9 zAt zZ1 zXY
theorem z1t:zco zB6=true:=by decide
theorem z2g {p:Nat->Bool}:∀{n i q:Nat},zoG p n i=true->i<=q->q<i+n->p q=true
 | 0,i,q,_,a,b=>by omega
 |n+1,i,q,h,a,b=>by simp only[zoG,qE]at h;by_cases c:i=q;{subst c;exact h.1};{exact z2g h.2 (by omega) (by omega)}
theorem z7R {h:Host}{m:Int}(e:zce h=true)(l:hasB m (ln h.Mons)=true){p:Int}(j:hasB p 8=true):zco (zcM h m p)=true:=by have i:=zg9 e _ (zbB l mZ);have s:=zLq i;have f:h.Memory.all zco=true:=(by unfold zce at e;simp only[zdj]at e;have b:=e.1;unfold zhT at b;simp only[zdj]at b;exact b.1);unfold zcM;rw[l,j];simp only[cT];have t:zbu (ix h.Mons m mZ).Outer p=ix (ix h.Mons m mZ).Outer p sZ:=(by unfold zbu;rw[zdC s.1 j];rfl);rw[t];have d:∀(g:List (List Int)) (q:Int),(hasB q (ln g)=true->zco (ix g q [])=true)->zco (zcv g q)=true:=(by intro g q k;unfold zcv;cases b:hasB q (ln g);{exact z1t};{exact k b});cases c:ine (ix (ix h.Mons m mZ).Outer p sZ).Page (-1);{refine d _ _ (fun k=>?_);obtain⟨q,rfl,u⟩:=zdX (n:=8) j;have a:fits (ix h.Mons m mZ) q=true:=(by unfold zef at i;simp only[zdj]at i;exact z2g i.2.2.2.2.2.2.2.2.2.2 (by omega) (by omega));unfold fits zmh at a;have r:zc4 (ix (ix h.Mons m mZ).Outer (q:Int) sZ) noSlot=true:=(by rw[(zt4 (zg9 e _ (zbB l mZ)) j).no];rw[zmd]at c;cases b:ieq (ix (ix h.Mons m mZ).Outer (q:Int) sZ).Page (-1);{rw [b]at c;cases c};{rfl});rw[r]at a;exact a};{exact d _ _ (fun k=>qM.1 f _ (zbB k _))}
theorem zTS {h:Host}{m:Int}(a:zce h=true)(b:hasB m (ln h.Mons)=true):∀(n i:Nat),i+n<=8->(zcz h m n i).all zco=true
 | 0,_,_=>rfl
 |n+1,i,c=>by simp only[zcz,kS,qE];exact⟨z7R a b (qJ (by omega)),zTS a b n (i+1) (by omega)⟩
theorem zyb {h:Host}{m:Int}(c:zce h=true)(b:hasB m (ln h.Mons)=true):zbR (zG h m)=true:=by have a:=zg9 c _ (zbB b mZ);unfold zef at a;simp only[zdj]at a;unfold zG zbR zhT;rw[b];simp only[cT,a.2.2.2.2.2.2.2.2.2.1,zTS c b 8 0 (by decide),ln,zBB];simp only[ln]at a;rw[a.1,a.2.2.2.2.2.1,a.2.2.2.2.2.2.1];rfl
def zns:zbb:=[(113,zFE)]++zbbS
theorem zhz:zM zns:=zi zQy zWY
def zei (l:List Mon):List (List Guest):=l.map fun x=>x.Guests
theorem zA2 {l:List Mon}{m:Int}{x:Mon}(b:hasB m (ln l)=true)(c:x.Guests=(ix l m mZ).Guests):zei (up l m x)=zei l:=by obtain⟨k,rfl,a⟩:=zdX (n:=l.length) b;unfold zei up;rw[List.map_set,kB,c,zbv a];have:=@u0 _ (l.map fun x=>x.Guests) k (by simpa using a);simpa using this
theorem zNq {l b:List Mon}(h:zei b=zei l)(m:Int):(ix b m mZ).Guests=(ix l m mZ).Guests:=by unfold zei at h;have a:(b.map fun x=>x.Guests)[m.toNat]?=(l.map fun x=>x.Guests)[m.toNat]?:=(by rw[h]);rw[qP,qP]at a;unfold ix;simp only[j5];cases c:b[m.toNat]? <;> cases d:l[m.toNat]? <;> rw [c,d]at a<;>simp at a ⊢;exact a
theorem zA1 {h:Host}{m p:Int}{s:Slot}(a:hasB m (ln h.Mons)=true):zei (zcp h m p s).Mons=zei h.Mons:=by rw[(zgv h m p s).1];exact zA2 a rfl
theorem zbdA {h:Host}{m p:Int}(a:hasB m (ln h.Mons)=true):zei (zdD h m p).Mons=zei h.Mons:=(zA1 (h:=zeV h m p) (zeD a)).trans (zA2 a rfl)
theorem zbdz {h:Host}(b:Fit h):zei (zdf h).Mons=zei h.Mons:=by unfold zdf;cases a:ieq (ln (zcj h)) 0;{rfl};{exact zbdA (zG5 b a).1}
theorem z4n {h:Host}{m p:Int}(a:Fit h)(c:hasB m (ln h.Mons)=true):zei (fetched h m p).Mons=zei h.Mons:=by have b:=zqQ a c;exact((zA1 (h:=landing (zdf h) m p (ix (zcj (zdf h)) 0 0)) (zeD b)).trans (zA2 b rfl)).trans (zbdz a)
theorem zXl {h:Host}{m p n:Int}(b:hasB m (ln h.Mons)=true):zei (zjP h m p n).Mons=zei h.Mons:=by have a:zei (zbE h m p).Mons=zei h.Mons:=zA2 b rfl;unfold zjP;cases ieq (wand .i64 n 2) 0;{unfold opened;cases ieq (wand .i64 (ix (ix (zbE h m p).Mons m mZ).Outer p sZ).Rights 2) 0;{exact a};{exact(zA1 (h:=zbE h m p) (zeD b)).trans a}};{rfl}
theorem z7e {h:Host}{m p n:Int}(b:Fit h)(a:hasB m (ln h.Mons)=true)(c:hasB p 8=true):zei (mended h m p n).Mons=zei h.Mons:=by unfold mended;cases ieq (ix (ix h.Mons m mZ).Outer p sZ).Page (-1);{exact zXl a};{exact(zXl (zks b a c).2).trans (z4n b a)}
theorem zbeL {l a:List Mon}(h:zei a=zei l):a.length=l.length:=by have:=congrArg List.length h;simpa [zei] using this
abbrev kZ:Kept:=Ty.dflt .kept
theorem zbfL {x:Guest}(f:zdd x=true){p n:Int}(d:zd2 x.Live p n=true):hasB (zcb x.Live p n) 8=true:=by have g:zc1 x.Live 4 8=true:=(by unfold zdd at f;simp only[qE]at f;exact f.2.2.2.2.1);unfold zcb;rw[d];simp only[cT];unfold zd2 at d;cases a:ieq (zbu x.Live p).Page (-1);{unfold zbu at a ⊢;cases e:hasB p (ln x.Live);{rw [e]at a;cases a};{rw [e]at a;simp only[cT]at a ⊢;unfold zc1 at g;simp only[zdj]at g;have c:=qM.1 g.1 _ (zbB e sZ);unfold zdQ at c;cases b:zc4 (ix x.Live p sZ) noSlot;{rw [b]at c;simp only[cF,zdj]at c;have:=ze4.1 c.2.1;rw[show wsub .i64 8 1=7 from rfl] at this;show hasB (ix x.Live p sZ).Page 8=true;exact qJ (by omega)};{unfold zc4 at b;rw[qE]at b;have:(ix x.Live p sZ).Page = -1:=qD b.1;rw[show ieq (ix x.Live p zW).Page (-1)=true from qJ this]at a;cases a}}};{rw [a]at d;cases d}
def zcn (h:Host)(m g:Int):List Slot:=(ix (ix h.Mons m mZ).Guests g gZ).Live
def zb4 (h:Host)(m g:Int):Kept:=ix (ix h.Mons m mZ).Tables g kZ
def ztS (h:Host)(a:Bool):List Entry:=bif a then h.IoBuffer else h.Buffer
def zsp (b:List Entry)(m g a:Int):Option Entry:=ztU b (zdT m g) a
def zhY (b:List Entry)(m g a c:Int):Bool:=bif (zsp b m g a).isSome then enough ((zsp b m g a).getD ⟨0,0,0,0⟩).Rights c else false
def zeq (h:Host)(m g a b:Int):Bool:=bif zi2 (zb4 h m g) a then (cond (ieq (zdO (zb4 h m g) a).Page (-1)) true (!enough (zdO (zb4 h m g) a).Rights b)) else true
def zcq (h:Host)(m g a:Int):Host:={h with Mons:=up h.Mons m {ix h.Mons m mZ with Tables:=up (ix h.Mons m mZ).Tables g (filled (zb4 h m g) (zcn h m g) (ix h.Mons m mZ).Outer a)}}
def zV3 (h:Host)(m g a:Int):Entry:=⟨zdT m g,a,(zdO (zb4 h m g) a).Page,(zdO (zb4 h m g) a).Rights⟩
def zw5 (h:Host)(m g a:Int)(b:Bool):Host:=bif b then {h with IoBuffer:=znY h.IoBuffer (zV3 h m g a)} else {h with Buffer:=znY h.Buffer (zV3 h m g a)}
def zeA (h:Host)(m g a:Int)(b:Bool):Host×Int×Bool:=(zw5 h m g a b,(zdO (zb4 h m g) a).Page,true)
def zgf (h:Host)(b:List Entry)(m g a c q:Int)(d:Bool):Host×Int×Bool :=
 bif zhY b m g a c then (h,((zsp b m g a).getD ⟨0,0,0,0⟩).Host,true)
 else (cond (zeq h m g a c) (zeA (zcq (mended h m q c) m g a) m g a d) (zeA h m g a d))
def zfU (a:Int):Bool:=bif ieq a 1 then true else ieq a 2
def zbW (h:Host)(m g page need:Int):Bool:=bif zbM h m g then (cond (zfU need) (zd2 (zcn h m g) page need) false) else false
def lookOf (h:Host)(b:List Entry)(m g page need:Int)(io:Bool):Host×Int×Bool :=
 bif zbW h m g page need then zgf (cond (ieq need 2) (zbE h m (zcb (zcn h m g) page need)) h) b m g page need (zcb (zcn h m g) page need) io else (h,-1,false)
structure Kp (h r:Host):Prop where
 shape:Shape r
 gs:zei r.Mons=zei h.Mons
theorem Kp.has {h r:Host}(k:Kp h r){m:Int}(a:hasB m (ln h.Mons)=true):hasB m (ln r.Mons)=true:=by rw[ln,zbeL k.gs];exact a
theorem z5D {h:Host}{m g c:Int}(d:Shape h)(e:hasB m (ln h.Mons)=true)(hg:hasB g (ln (ix h.Mons m mZ).Guests)=true):Shape (zcq h m g c):=by obtain⟨a,b⟩:=zcy d e;have f:hasB g (ln (ix h.Mons m mZ).Tables)=true:=(by rw[ln,b.2.2.2];exact hg);exact ziN d ⟨a.1,a.2.1,a.2.2.1,a.2.2.2.1,a.2.2.2.2.1,zAp a.2.2.2.2.2 (z5I (a.2.2.2.2.2.2 _ (zbB f _)))⟩ ⟨b.1,b.2.1,b.2.2.1,by simpa using b.2.2.2⟩
theorem z7n {h r:Host}{m g a:Int}{i:Bool}(k:Kp h r):Kp h (zw5 r m g a i):=by obtain⟨⟨b,c,d,e⟩,f⟩:=k.shape;unfold zw5;cases i;{exact⟨⟨⟨b,c,(zvB _ d).1,e⟩,f⟩,k.gs⟩};{exact⟨⟨⟨b,c,d,(zvB _ e).1⟩,f⟩,k.gs⟩}
structure LookAt (h:Host) (m g q need:Int):Prop where
 fit:Fit h
 hm:hasB m (ln h.Mons)=true
 hg:hasB g (ln (ix h.Mons m mZ).Guests)=true
 hq:hasB q 8=true
 hn:need=1\/need=2
 hs:SlotFit (ix (ix h.Mons m mZ).Outer q sZ)
theorem LookAt.mend {h:Host}{m g q a:Int}(A:LookAt h m g q a):zWs h m q a:=⟨A.fit,A.hm,A.hq,A.hn,A.hs⟩
theorem LookAt.kp {h:Host}{m g q a:Int}(A:LookAt h m g q a):Kp h (mended h m q a):=⟨(zv8 A.fit A.hm A.hq).1,z7e A.fit A.hm A.hq⟩
theorem LookAt.fill {h:Host}{m g q a:Int}(A:LookAt h m g q a)(b:Int):Kp h (zcq (mended h m q a) m g b):=by have k:=A.kp;have hg:hasB g (ln (ix (mended h m q a).Mons m mZ).Guests)=true:=(by rw[zNq k.gs];exact A.hg);have e:zei (zcq (mended h m q a) m g b).Mons=zei (mended h m q a).Mons:=zA2 (k.has A.hm) rfl;exact⟨z5D k.shape (k.has A.hm) hg,e.trans k.gs⟩
theorem zXC {h:Host}{b:List Entry}{m g page a q:Int}{io:Bool}(A:LookAt h m g q a):Kp h (zgf h b m g page a q io).1:=by unfold zgf;cases zhY b m g page a;{cases zeq h m g page a;{exact z7n ⟨A.fit.1,rfl⟩};{exact z7n (A.fill page)}};{exact⟨A.fit.1,rfl⟩}
theorem zc2 {h:Host}{m g:Int}(a:zbM h m g=true):zce h=true/\hasB m (ln h.Mons)=true/\hasB g (ln (ix h.Mons m mZ).Guests)=true:=by unfold zbM at a;simp only[zdj]at a;exact a
theorem z4o {h:Host}{m g:Int}(e:zbM h m g=true):zdd (ix (ix h.Mons m mZ).Guests g gZ)=true:=by obtain⟨b,c,d⟩:=zc2 e;have a:=zg9 b _ (zbB c mZ);unfold zef at a;simp only[zdj]at a;exact qM.1 a.2.2.2.2.2.2.2.2.2.1 _ (zbB d _)
theorem zOP {n:Int}(h:zfU n=true):n=1\/n=2:=by unfold zfU at h;cases a:ieq n 1;{rw [a]at h;exact .inr (qD h)};{exact .inl (qD a)}
theorem zE8 {h:Host}{m g page a:Int}(s:SmH h)(d:zbW h m g page a=true) :
 LookAt h m g (zcb (zcn h m g) page a) a/\LookAt (zbE h m (zcb (zcn h m g) page a)) m g (zcb (zcn h m g) page a) a:=by
 unfold zbW at d;simp only[zdj]at d;obtain⟨l,p,r⟩:=d;obtain⟨i,b,j⟩:=zc2 l;have f:hasB (zcb (zcn h m g) page a) 8=true:=zbfL (z4o l) r;have c:=zt4 (zg9 i _ (zbB b mZ)) f;have q:=zfx s i;refine⟨⟨q,b,j,f,zOP p,c⟩,⟨z0J q b,zeD b,?_,f,zOP p,?_⟩⟩
 .have e:zei (zbE h m (zcb (zcn h m g) page a)).Mons=zei h.Mons:=zA2 b rfl;rw[zNq e];exact j
 .obtain⟨k,rfl,hk⟩:=zdX (n:=h.Mons.length) b;unfold zbE;rw[zd3 hk];exact c
theorem zuz {h:Host}{b:List Entry}{m g page need:Int}{io:Bool}(a:SmH h)(f:zbM h m g=true):Kp h (lookOf h b m g page need io).1:=by have d:=zfx a (zc2 f).1;unfold lookOf;cases c:zbW h m g page need;{exact⟨d.1,rfl⟩};{obtain⟨A,B⟩:=zE8 a c;simp only[cT];cases ieq need 2;{exact zXC A};{have k:=zXC (b:=b) (page:=page) (io:=io) B;have e:zei (zbE h m (zcb (zcn h m g) page need)).Mons=zei h.Mons:=zA2 A.hm rfl;exact⟨k.shape,k.gs.trans e⟩}}
def zjU (x:Host×Int×Bool):List AV:=[.agg (zbi x.1),.one (.i .i64 x.2.1),.one (.b x.2.2)]
theorem zho {h:Host}{b:List Entry}{m g c a:Int}{e:Bool}(d:zbW h m g c a=false):lookOf h b m g c a e=(h,-1,false):=by unfold lookOf;rw[d];rfl
theorem zor {h:Host}{m g b a:Int}(c:zbM h m g=false):zbW h m g b a=false:=by unfold zbW;rw[c];rfl
theorem zQb {h:Host}{m g:Int}(a:zce h=false):zbM h m g=false:=by unfold zbM;rw[a];rfl
theorem zQc {h:Host}{m g:Int}(a:hasB m (ln h.Mons)=false):zbM h m g=false:=by unfold zbM;rw[a];cases zce h<;>rfl
theorem zQd {h:Host}{m g:Int}(a:hasB g (ln (ix h.Mons m mZ).Guests)=false):zbM h m g=false:=by unfold zbM;rw[a];cases zce h<;>cases hasB m (ln h.Mons)<;>rfl
theorem zQe {h:Host}{m g:Int}(a:zce h=true)(b:hasB m (ln h.Mons)=true)(c:hasB g (ln (ix h.Mons m mZ).Guests)=true):zbM h m g=true:=by unfold zbM;rw[a,b,c];rfl
structure LookF (r:Host) (m g:Int):Prop where
 hm:hasB m (ln r.Mons)=true
 hg:hasB g (ln (ix r.Mons m mZ).Guests)=true
 ht:hasB g (ln (ix r.Mons m mZ).Tables)=true
 hk:SmK (zb4 r m g)
 hb:r.Buffer.length<=1048576
 hi:r.IoBuffer.length<=1048576
theorem zmf {h r:Host}{m g:Int}(k:Kp h r)(b:hasB m (ln h.Mons)=true)(hg:hasB g (ln (ix h.Mons m mZ).Guests)=true):LookF r m g:=by obtain⟨d,e⟩:=zcy k.shape (k.has b);have a:hasB g (ln (ix r.Mons m mZ).Guests)=true:=(by rw[zNq k.gs];exact hg);have c:hasB g (ln (ix r.Mons m mZ).Tables)=true:=(by rw[ln,e.2.2.2];exact a);exact⟨k.has b,a,c,d.2.2.2.2.2.2 _ (zbB c _),k.shape.1.2.2.1,k.shape.1.2.2.2⟩
@[simp] abbrev zkQ (h:Host)(b:List Entry)(m g c a:Int)(d:Bool):Bool:=pc (zct h)
@[simp] abbrev zfq (h:Host)(b:List Entry)(m g page need:Int)(io:Bool):Host:=(lookOf h b m g page need io).1
@[simp] abbrev zkP (h:Host)(b:List Entry)(m g c a:Int)(d:Bool):Int:=(lookOf h b m g c a d).2.1
@[simp] abbrev zhg (h:Host)(b:List Entry)(m g c a:Int)(d:Bool):Bool:=(lookOf h b m g c a d).2.2
def ztq:List AV->Option (Bool×List AV)
 |[.agg [.s (.sl .int) c,.s .mon d,.s .entry e,.s .entry f],.one (.s .entry g),.one (.i .i64 h),.one (.i .i64 j),.one (.i .i64 k),.one (.i .i64 l),.one (.b m)]=>some ((zkQ (⟨c,d,e,f⟩:Host) g h j k l m),[aH (zfq (⟨c,d,e,f⟩:Host) g h j k l m),aI (zkP (⟨c,d,e,f⟩:Host) g h j k l m),aB (zhg (⟨c,d,e,f⟩:Host) g h j k l m)])
 |_=>none
abbrev zUi (b:lM)(c:lN)(d:lE)(e:lE)(a:Int)(g:Int)(f:Int):Mon :=
 (ix (zox (⟨b,c,d,e⟩:Host) a g f).Mons a zh)
abbrev zUj (a:Host)(b c:Int)(d e:Int):Int :=
 (zkk (ix (ix a.Mons b zh).Guests c zl).Live d e)
def zPW (N:Nat)(a:Int)(b:lM)(c:lN)(d:lE)(e:lE):OA:=
 (some [(aH (⟨b,c,d,e⟩:Host)),(aI a),(aB true)])
def zqp (N:Nat)(l:Int)(m:Bool)(n:Int)(c:Int)(d:Int)(k:lM)(e:lN)(a:lE)(b:lE)(f:lM)(g:lN)(h:lE)(i:lE):OA:=
 let q:=(⟨n,l,c,d⟩:Entry); (share (fun (j:(Int×(Int×(lM×(lN×(lE×(lE×(lM×(lN×(lE×(lE×Unit)))))))))))=>(zPW N j.1 j.2.2.1 j.2.2.2.1 j.2.2.2.2.1 j.2.2.2.2.2.1)) (fun p=>(cond m (oN (zlC b q) (p (c,(d,(k,(e,(a,((zmz b q),(f,(g,(h,(i,())))))))))))) (oN (zlC a q) (p (c,(d,(k,(e,((zmz a q),(b,(f,(g,(h,(i,())))))))))))))))
def zs5 (N:Nat)(d:lM)(e:lN)(f:lE)(g:lE)(b:Int)(i:Int)(h:Int)(a:Int)(c:Int)(y:((Int×(Bool×(Int×(Int×(Int×(Int×(Int×(Int×(Int×(lM×(lN×(lE×(lE×(lM×(lN×(lE×(lE×Unit))))))))))))))))))->OA)(r:Bool)(s:Int)(t:Int)(u:Int)(v:Int)(k:Int)(l:lM)(m:lN)(n:lE)(p:lE):OA:=
 let D:=(⟨d,e,f,g⟩:Host);let w:=(zox D b i h);let x:=(inb b (ln w.Mons));let j:=(zUi d e f g b i h);let C:=(ix j.Tables a zeU);let A:=(ix j.Guests a zl).Live; (oN (zno D b i h) (oN x (oN x (oN (inb a (ln j.Tables)) (oN x (oN (inb a (ln j.Guests)) (oN x (oN (zLH C A j.Outer c) (oN (inb a (ln j.Tables)) (share (up w.Mons b ({j with Tables:=(up j.Tables a (zPf C A j.Outer c))}:Mon)) (fun q=>let B:=(ix q b zh).Tables;let z:=(ix B a zeU); (oN (inb b (ln q)) (oN (inb a (ln B)) (oN (zHa z c) (y (c,(r,(s,(t,(u,(v,(k,((zuE z c).Page,((zuE z c).Rights,(w.Memory,(q,(w.Buffer,(w.IoBuffer,(l,(m,(n,(p,()))))))))))))))))))))))))))))))))
def zlX (N:Nat)(d:Int)(e:Int)(c:Int)(n:Int)(p:Bool)(v:Int)(q:Int)(r:Int)(s:Int)(t:Int)(f:Int)(g:lM)(b:lN)(h:lE)(i:lE)(j:lM)(k:lN)(l:lE)(m:lE):OA:=
 let z:=(ix b d zh).Tables;let x:=(ix z e zeU);let w:=(zuE x c); (oN (inb d (ln b)) (oN (inb e (ln z)) (oN (zHa x c) (share (fun (a:(Int×(Bool×(Int×(Int×(Int×(Int×(Int×(Int×(Int×(lM×(lN×(lE×(lE×(lM×(lN×(lE×(lE×Unit))))))))))))))))))=>(zqp N a.1 a.2.1 a.2.2.1 a.2.2.2.2.2.2.2.1 a.2.2.2.2.2.2.2.2.1 a.2.2.2.2.2.2.2.2.2.1 a.2.2.2.2.2.2.2.2.2.2.1 a.2.2.2.2.2.2.2.2.2.2.2.1 a.2.2.2.2.2.2.2.2.2.2.2.2.1 a.2.2.2.2.2.2.2.2.2.2.2.2.2.1 a.2.2.2.2.2.2.2.2.2.2.2.2.2.2.1 a.2.2.2.2.2.2.2.2.2.2.2.2.2.2.2.1 a.2.2.2.2.2.2.2.2.2.2.2.2.2.2.2.2.1)) (fun u=>let y:=(zs5 N g b h i d v n e c u p q r s t f j k l m); (cond (nB (zG9 x c)) y (cond (ieq w.Page (-1)) y (oN (zg4 w.Rights n) (cond (nB (zhL w.Rights n)) y (u (c,(p,(q,(r,(s,(t,(f,(w.Page,(w.Rights,(g,(b,(h,(i,(j,(k,(l,(m,())))))))))))))))))))))))))))
def zs6 (N:Nat)(g:Int)(a:Host)(h e f:Int)(l:lE)(n:Bool):OA:=
 let i:=(zuG g h);let k:=(zUj a g h e f);let m:=(ix a.Mons g zh);let s:=(ix m.Guests h zl).Live;let d:=(znx l i e);let j:=d.Rights; (oN (inb g (ln a.Mons)) (oN (inb h (ln m.Guests)) (oN (ztx s e f) (cond (nB (zkl s e f)) (some [(aH a),(aI (-1)),(aB false)]) (oN (zlD g h) (cond (ieq f 2) (oN (inb g (ln a.Mons)) (oN (inb k (ln m.Dirty)) (share (up a.Mons g ({m with Dirty:=(up m.Dirty k true)}:Mon)) (fun p=>(oN (zny l i e) (share (fun (c:(Int×(Int×(Int×(Int×(Bool×(Int×(Int×(Int×(Int×(Int×(Int×(lM×(lN×(lE×(lE×(lM×(lN×(lE×(lE×Unit))))))))))))))))))))=>(zlX N c.1 c.2.1 c.2.2.1 c.2.2.2.1 c.2.2.2.2.1 c.2.2.2.2.2.1 c.2.2.2.2.2.2.1 c.2.2.2.2.2.2.2.1 c.2.2.2.2.2.2.2.2.1 c.2.2.2.2.2.2.2.2.2.1 c.2.2.2.2.2.2.2.2.2.2.1 c.2.2.2.2.2.2.2.2.2.2.2.1 c.2.2.2.2.2.2.2.2.2.2.2.2.1 c.2.2.2.2.2.2.2.2.2.2.2.2.2.1 c.2.2.2.2.2.2.2.2.2.2.2.2.2.2.1 c.2.2.2.2.2.2.2.2.2.2.2.2.2.2.2.1 c.2.2.2.2.2.2.2.2.2.2.2.2.2.2.2.2.1 c.2.2.2.2.2.2.2.2.2.2.2.2.2.2.2.2.2.1 c.2.2.2.2.2.2.2.2.2.2.2.2.2.2.2.2.2.2.1)) (fun r=>(cond (zki l i e) (oN (zg4 j f) (cond (zhL j f) (some [(aH ({a with Mons:=p}:Host)),(aI d.Host),(aB true)]) (r (g,(h,(e,(f,(n,(k,(i,(d.Tag,(d.Page,(d.Host,(j,(a.Memory,(p,(a.Buffer,(a.IoBuffer,([],([],([],([],())))))))))))))))))))))) (r (g,(h,(e,(f,(n,(k,(i,(d.Tag,(d.Page,(d.Host,(j,(a.Memory,(p,(a.Buffer,(a.IoBuffer,([],([],([],([],())))))))))))))))))))))))))))) (oN (zny l i e) (share (fun (b:(Int×(Int×(Int×(Int×(Bool×(Int×(Int×(Int×(Int×(Int×(Int×(lM×(lN×(lE×(lE×(lM×(lN×(lE×(lE×Unit))))))))))))))))))))=>(zlX N b.1 b.2.1 b.2.2.1 b.2.2.2.1 b.2.2.2.2.1 b.2.2.2.2.2.1 b.2.2.2.2.2.2.1 b.2.2.2.2.2.2.2.1 b.2.2.2.2.2.2.2.2.1 b.2.2.2.2.2.2.2.2.2.1 b.2.2.2.2.2.2.2.2.2.2.1 b.2.2.2.2.2.2.2.2.2.2.2.1 b.2.2.2.2.2.2.2.2.2.2.2.2.1 b.2.2.2.2.2.2.2.2.2.2.2.2.2.1 b.2.2.2.2.2.2.2.2.2.2.2.2.2.2.1 b.2.2.2.2.2.2.2.2.2.2.2.2.2.2.2.1 b.2.2.2.2.2.2.2.2.2.2.2.2.2.2.2.2.1 b.2.2.2.2.2.2.2.2.2.2.2.2.2.2.2.2.2.1 b.2.2.2.2.2.2.2.2.2.2.2.2.2.2.2.2.2.2.1)) (fun q=>(cond (zki l i e) (oN (zg4 j f) (cond (zhL j f) (some [(aH a),(aI d.Host),(aB true)]) (q (g,(h,(e,(f,(n,(k,(i,(d.Tag,(d.Page,(d.Host,(j,(a.Memory,(a.Mons,(a.Buffer,(a.IoBuffer,([],([],([],([],())))))))))))))))))))))) (q (g,(h,(e,(f,(n,(k,(i,(d.Tag,(d.Page,(d.Host,(j,(a.Memory,(a.Mons,(a.Buffer,(a.IoBuffer,([],([],([],([],()))))))))))))))))))))))))))))))
def zrl (N:Nat)(a:Host)(g:lE)(b c:Int)(h d:Int)(i:Bool):OA:=
 let f:=(zs6 N b a c h d g i);let e:=(wsub .i64 (ln (ix a.Mons b zh).Guests) 1); (oN (zfD a) (cond (nB (zfC a)) (some [(aH a),(aI (-1)),(aB false)]) (oN (zO b 0 (wsub .i64 (ln a.Mons) 1)) (cond (nB (zU b 0 (wsub .i64 (ln a.Mons) 1))) (some [(aH a),(aI (-1)),(aB false)]) (oN (inb b (ln a.Mons)) (oN (zO c 0 e) (cond (nB (zU c 0 e)) (some [(aH a),(aI (-1)),(aB false)]) (cond (ine d 1) (cond (ine d 2) (some [(aH a),(aI (-1)),(aB false)]) f) f))))))))
def ztE:FuncId->Nat->Option Tmpl:=zx [(254,999999,{n:=0,tm:=[],lo:=[],ro:=[]}),(254,1007023,{n:=210,tm:=[(2,ti),(3,ti),(4,ti),(5,ti),(6,.b),(7,.lp 0 0),(14,.lp 1 0),(17,ti),(19,ti),(20,.lp 2 0)],lo:=[(0,[.sl 0 [],.sl 1 [],.sl 2 [],.sl 3 []]),(1,[.sl 4 [],.sl 5 [],.sl 6 [],.sl 7 []]),(2,[ti,ti,ti,ti])],ro:=[(0,(.sl .int),true),(1,.mon,true),(2,.entry,true),(3,.entry,true),(4,(.sl .int),true),(5,.mon,true),(6,.entry,true),(7,.entry,true)],kr:=1}),(254,1009011,{n:=210,tm:=[(4,ti),(6,.b),(7,.lp 0 0),(14,.lp 1 0),(19,ti),(20,.lp 2 0),(22,.lp 3 0)],lo:=[(0,[.sl 0 [],.sl 1 [],.sl 2 [],.sl 3 []]),(1,[.sl 4 [],.sl 5 [],.sl 6 [],.sl 7 []]),(2,[ti,ti,ti,ti]),(3,[ti,ti])],ro:=[(0,(.sl .int),true),(1,.mon,true),(2,.entry,true),(3,.entry,true),(4,(.sl .int),true),(5,.mon,true),(6,.entry,true),(7,.entry,true)],kr:=1}),(254,1005003,{n:=210,tm:=[(7,.lp 0 0),(14,.lp 1 0),(22,.lp 2 0)],lo:=[(0,[.sl 0 [],.sl 1 [],.sl 2 [],.sl 3 []]),(1,[.sl 4 [],.sl 5 [],.sl 6 [],.sl 7 []]),(2,[ti,ti])],ro:=[(0,(.sl .int),true),(1,.mon,true),(2,.entry,true),(3,.entry,true),(4,(.sl .int),true),(5,.mon,true),(6,.entry,true),(7,.entry,true)],kr:=1})]
theorem zSb (N:Nat)(a:Host)(b c:Int)(d e:Int)(f:Bool):zV4 (cQ zns zpd z4Z z5O) ztE N 12 254 [true,true,true,true,false,false,false,false,false,false] [(4,2)] 1 1 [[0],[1],[2],[4],[7]] .mon [aH a,aS .entry a.Buffer,aI b,aI c,aI d,aI e,aB f]=zrl N a a.Buffer b c d e f:=by kernel_rfl
theorem zSc (N:Nat)(a:Host)(b c:Int)(d e:Int)(f:Bool):zV4 (cQ zns zpd z4Z z5O) ztE N 12 254 [true,true,true,true,false,false,false,false,false,false] [(4,3)] 1 1 [[0],[1],[2],[4],[7]] .mon [aH a,aS .entry a.IoBuffer,aI b,aI c,aI d,aI e,aB f]=zrl N a a.IoBuffer b c d e f:=by kernel_rfl
theorem zGS {N:Nat}{r:Host}{m g a:Int}{b:Bool}{z1 z2 z3 z4}(c:r.Buffer.length<=1048576)(d:r.IoBuffer.length<=1048576) :
 zqp N a b (zdT m g) (zdO (zb4 r m g) a).Page (zdO (zb4 r m g) a).Rights r.Memory r.Mons r.Buffer r.IoBuffer z1 z2 z3 z4=some (zjU (zeA r m g a b)):=by
 unfold zqp oN
 conv=>zeta
 refine shr ?_;cases b
 .exact zdh rfl (must (zbn c) rfl)
 .exact must rfl (must (zbn d) rfl)
theorem zXc {N:Nat}{r:Host}{m g a b q:Int}{c:Bool}{R:OA}{r11}{u6 u7 u8 u9 u10 z1 z2 z3 z4}(A:LookAt r m g q b)(d:r11 (a,(c,(u6,(u7,(u8,(u9,(u10,((zdO (zb4 (zcq (mended r m q b) m g a) m g) a).Page,((zdO (zb4 (zcq (mended r m q b) m g a) m g) a).Rights,((zcq (mended r m q b) m g a).Memory,((zcq (mended r m q b) m g a).Mons,((zcq (mended r m q b) m g a).Buffer,((zcq (mended r m q b) m g a).IoBuffer,(z1,(z2,(z3,(z4,())))))))))))))))))=R) :
 zs5 N r.Memory r.Mons r.Buffer r.IoBuffer m q b g a r11 c u6 u7 u8 u9 u10 z1 z2 z3 z4=R:=by
 have M:=zmf A.kp A.hm A.hg;have F:=zmf (A.fill a) A.hm A.hg;unfold zs5 oN
 conv=>zeta
 exact must (zbn A.mend) (must (zy M.hm) (must (zy M.hm) (must (zy M.ht) (must (zy M.hm) (must (zy M.hg) (must (zy M.hm) (must (zbn M.hk) (must (zy M.ht) (shr (must (zy F.hm) (must (zy F.ht) (must (zbn F.hk) d))))))))))))
theorem z3e {r:Host}{m g a b:Int}(h:zi2 (zb4 r m g) a=false):zeq r m g a b=true:=by unfold zeq;rw[h];rfl
theorem z3f {r:Host}{m g a b:Int}(h:ieq (zdO (zb4 r m g) a).Page (-1)=true):zeq r m g a b=true:=by unfold zeq;rw[h];cases zi2 (zb4 r m g) a<;>rfl
theorem z3g {r:Host}{m g a b:Int}(h:enough (zdO (zb4 r m g) a).Rights b=false):zeq r m g a b=true:=by unfold zeq;rw[h];cases zi2 (zb4 r m g) a<;>cases ieq (zdO (zb4 r m g) a).Page (-1)<;>rfl
theorem z3h {r:Host}{m g a b:Int}(c:zi2 (zb4 r m g) a=true)(d:ieq (zdO (zb4 r m g) a).Page (-1)=false)(e:enough (zdO (zb4 r m g) a).Rights b=true):zeq r m g a b=false:=by unfold zeq;rw[c,d,e];rfl
theorem zuA {r:Host}{m g a b q:Int}{c:Bool}(h:zeq r m g a b=true):(cond (zeq r m g a b) (zeA (zcq (mended r m q b) m g a) m g a c) (zeA r m g a c))=zeA (zcq (mended r m q b) m g a) m g a c:=by rw[h];rfl
theorem z2F {r:Host}{m g a b q:Int}{c:Bool}(h:zeq r m g a b=false):(cond (zeq r m g a b) (zeA (zcq (mended r m q b) m g a) m g a c) (zeA r m g a c))=zeA r m g a c:=by rw[h];rfl
theorem zGT {N:Nat}{r:Host}{m g a b q:Int}{f:Bool}{u7 u8 u9 u10 z1 z2 z3 z4}(A:LookAt r m g q b) :
 zlX N m g a b f q (zdT m g) u7 u8 u9 u10 r.Memory r.Mons r.Buffer r.IoBuffer z1 z2 z3 z4=some (zjU (cond (zeq r m g a b) (zeA (zcq (mended r m q b) m g a) m g a f) (zeA r m g a f))):=by
 have M:=zmf ⟨A.fit.1,rfl⟩ A.hm A.hg;have F:=zmf (A.fill a) A.hm A.hg;unfold zlX oN nB
 conv=>zeta
 refine must (zy M.hm) (must (zy M.ht) (must (zbn M.hk) (shr (brN (fun c=>?_) (fun c=>br (fun d=>?_) (fun d=>must rfl (brN (fun e=>?_) (fun e=>?_))))))))
 .rw [zuA (z3e c)];exact zXc A (zGS (r:=zcq (mended r m q b) m g a) (m:=m) (g:=g) F.hb F.hi)
 .rw [zuA (z3f d)];exact zXc A (zGS (r:=zcq (mended r m q b) m g a) (m:=m) (g:=g) F.hb F.hi)
 .rw [zuA (z3g e)];exact zXc A (zGS (r:=zcq (mended r m q b) m g a) (m:=m) (g:=g) F.hb F.hi)
 .rw [z2F (z3h c d e)];exact zGS (r:=r) (m:=m) (g:=g) M.hb M.hi
theorem zGW {b:List Entry}{m g a c:Int}(h:(zsp b m g a).isSome=false):zhY b m g a c=false:=by unfold zhY;rw[h];rfl
theorem zok {b:List Entry}{m g a c:Int}{x:Bool}(d:(zsp b m g a).isSome=true)(h:enough ((zsp b m g a).getD ⟨0,0,0,0⟩).Rights c=x):zhY b m g a c=x:=by unfold zhY;rw[d,h];rfl
theorem zoq {r:Host}{b:List Entry}{m g a c q:Int}{d:Bool}(h:zhY b m g a c=false):zgf r b m g a c q d=bif zeq r m g a c then zeA (zcq (mended r m q c) m g a) m g a d else zeA r m g a d:=by unfold zgf;rw[h];rfl
theorem zG2 {r:Host}{b:List Entry}{m g a c q:Int}{d:Bool}(h:zhY b m g a c=true):zgf r b m g a c q d=(r,((zsp b m g a).getD ⟨0,0,0,0⟩).Host,true):=by unfold zgf;rw[h];rfl
theorem zLp {h:Host}{b:List Entry}{m g c a:Int}{d:Bool}(e:zbW h m g c a=true):lookOf h b m g c a d=zgf (cond (ieq a 2) (zbE h m (zcb (zcn h m g) c a)) h) b m g c a (zcb (zcn h m g) c a) d:=by unfold lookOf;rw[e];rfl
theorem z6Q {N:Nat}{r:Host}{b:List Entry}{m g c a:Int}{f:Bool}(p:SmH r)(hg:zbM r m g=true)(k:zfU a=true) :
 zs6 N m r g c a b f=some (zjU (lookOf r b m g c a f)):=by
 obtain⟨q,h,l⟩:=zc2 hg;unfold zs6 oN nB
 conv=>zeta
 refine must (zy h) (must (zy l) (must rfl (brN (fun j=>?_) (fun j=>must rfl ?_))))
 .have:zbW r m g c a=false:=by
   unfold zbW;rw[hg,k,show zd2 (zcn r m g) c a=false from j];rfl
  rw[zho this];rfl
 .have hl:zbW r m g c a=true:=by
   unfold zbW;rw[hg,k,show zd2 (zcn r m g) c a=true from j];rfl
  obtain⟨A,B⟩:=zE8 p hl;rw[zLp hl];have n:hasB (zcb (zcn r m g) c a) (ln (ix r.Mons m mZ).Dirty)=true:=zdC (zcy A.fit.1 h).2.2.2.1 A.hq;refine br (fun i=>?_) (fun i=>?_)
  .rw [i]
   show _=some (zjU (zgf (zbE r m (zcb (zcn r m g) c a)) b m g c a (zcb (zcn r m g) c a) f))
   refine must (zy h) (must (zy n) (shr (must rfl (shr (br (fun d=>must rfl (br (fun e=>?_) (fun e=>?_))) (fun d=>?_))))))
   .rw [zG2 (zok d e)];rfl
   .rw [zoq (zok d e)];exact zGT (r:=zbE r m (zcb (zcn r m g) c a)) B
   .rw [zoq (zGW d)];exact zGT (r:=zbE r m (zcb (zcn r m g) c a)) B
  .rw [i]
   show _=some (zjU (zgf r b m g c a (zcb (zcn r m g) c a) f))
   refine must rfl (shr (br (fun d=>must rfl (br (fun e=>?_) (fun e=>?_))) (fun d=>?_)))
   .rw [zG2 (zok d e)];rfl
   .rw [zoq (zok d e)];exact zGT A
   .rw [zoq (zGW d)];exact zGT A
theorem zVy (a:Host)(f:List Entry)(b c:Int)(e d:Int)(g:Bool)(t:zcE big [aH a,aS .entry f,aI b,aI c,aI e,aI d,aB g])(r:zkQ a f b c e d g=true):∃N,zrl N a f b c e d g=some [aH (zfq a f b c e d g),aI (zkP a f b c e d g),aB (zhg a f b c e d g)]:=by
 have j:=(zS a).1 (zN.1 r);refine⟨0,?_⟩;show _=some (zjU (lookOf a f b c e d g));unfold zrl oN nB;conv=>zeta
 refine must rfl (brN (fun k=>?_) (fun k=>must rfl ?_));{rw [zho (zor (zQb k))];rfl};rw[show zU b 0 (wsub .i64 (ln a.Mons) 1)=hasB b (ln a.Mons) from zri j.2.1.1 b];refine brN (fun i=>?_) (fun i=>must (zy i) (must rfl ?_));{rw [zho (zor (zQc i))];rfl};have s:(ix a.Mons b mZ).Guests.length<=1048576:=(j.2.1.2 _ (zbB i _)).2.2.2.1.1;rw[show zU c 0 (wsub .i64 (ln (ix a.Mons b zh).Guests) 1)=hasB c (ln (ix a.Mons b mZ).Guests) from zri s c];refine brN (fun l=>?_) (fun l=>?_);{rw [zho (zor (zQd l))];rfl};have hg:=zQe k i l;have p:∀{n:Int},zfU n=false->zbW a b c e n=false:=fun {n} h=>(by unfold zbW;rw[hg,h];rfl);rw[zmd,zmd];cases m:ieq d 1;{cases q:ieq d 2;{have:zfU d=false:=(by unfold zfU;rw[m,q];rfl);rw[zho (p this)];rfl};{exact z6Q j hg (by unfold zfU;rw[m,q];rfl)}};{exact z6Q j hg (by unfold zfU;rw[m];rfl)}
theorem zOf:zeh Tryz.prog 254 [true,true,true,true,false,false,false,false,false,false] (some (1,1,[[0],[1],[2],[4],[7]])) ztq:=by refine zQf (kt:=.mon) (zgF zhz zu zb9 zAt) (ziQ (by kernel_rfl)) ?_;intro p s x f i w v h;have t:=ziT v;have g:p=[(4,2)]\/p=[(4,3)]:=(by rw[show zh9 254=[[(4,2)],[(4,3)]] from by kernel_rfl]at f;simpa using f);unfold ztq at h;split at h;{rename_i a b c d r j k l m n;obtain⟨u,rfl⟩:=zd7 h;obtain⟨N,q⟩:=zVy (⟨a,b,c,d⟩:Host) r j k l m n t u;refine⟨⟨_,rfl⟩,rfl,ztE,N,12,?_⟩;rcases g with rfl|rfl;{have e:=i 4 2 (by simp);simp only[zF,j4,AV.cvs] at e;cases e;exact(zSb N (⟨a,b,c,d⟩:Host) j k l m n).trans q};{have e:=i 4 3 (by simp);simp only[zF,j4,AV.cvs] at e;cases e;exact(zSc N (⟨a,b,c,d⟩:Host) j k l m n).trans q}};{cases h}
def tctN:zfh:=[(254,([true,true,true,true,false,false,false,false,false,false],(some (1,1,[[0],[1],[2],[4],[7]])),ztq))]++z5O
theorem zgM:zec tctN:=zre zAt (by
 intro x a;simp only[qG,qN,or_false]at a;rcases a with rfl
 .exact zOf)
def gOf (h:Host)(m g:Int):Guest:=ix (ix h.Mons m mZ).Guests g gZ
def zek (h:Host)(m g:Int)(x:Guest):Host:={h with Mons:=up h.Mons m {ix h.Mons m mZ with Guests:=up (ix h.Mons m mZ).Guests g x}}
def zdZ (h:Host)(m g:Int)(x:Guest)(w:Bool):Host×Int×Bool:=lookOf h h.Buffer m g (zbe (address x)) (zbZ w) false
def zeH (L:Host×Int×Bool)(m g:Int)(x:Guest)(w:Bool):Host :=
 bif L.2.2 then (cond w (zek {L.1 with Memory:=zbF L.1.Memory L.2.1 (zcP (address x)) x.A} m g (zbG x)) (zek L.1 m g (loaded x (cellAt L.1.Memory L.2.1 (zcP (address x))))))
 else zek L.1 m g (stopped x (zoh (zbe (address x)) w))
def owned (h:Host)(m:Int):Host:=bif ilt (ix h.Mons m mZ).Own 1000000000 then {h with Mons:=up h.Mons m {ix h.Mons m mZ with Own:=zL .i64 (ix h.Mons m mZ).Own 1}} else h
def zhI (h:Host)(m n:Int):Host:=bif ilt (ln (ix h.Mons m mZ).Outs) 40 then {h with Mons:=up h.Mons m {ix h.Mons m mZ with Outs:=ap (ix h.Mons m mZ).Outs [n]}} else h
def zd0 (h:Host)(m:Int)(x:Guest)(w:Int):Host:=bif (cond (ine w 6) (ieq (zjR (ix h.Mons m mZ).Traps x.Ctl.Traps (zff w)) 2) false) then owned h m else h
def zfL (h:Host)(m:Int)(x:Guest)(w:Int):Host:=bif (cond (zgn x.Ctl.Traps w) (ieq w 5) false) then zhI h m (zbC x.Prog x.Pc).X else h
def ziu (h:Host)(m g:Int)(x:Guest)(w:Int):Host:=zek (zfL (zd0 h m x w) m x w) m g (zeO x x.Ctl.Traps w)
def zwd (h:Host)(m g:Int)(x:Guest)(w:Int):Host×Bool :=
 bif ieq w 0 then (h,false) else (bif ieq w 1 then (zek h m g (interrupted x),true) else (bif ieq w 2 then (zek h m g (plainly x),true) else
  (cond (cond (ieq w 3) true (ieq w 4)) (zeH (zdZ h m g x (ieq w 4)) m g x (ieq w 4),true) (ziu h m g x w,true))))
def zbd (h:Host)(m g:Int):Host×Bool:=bif zbM h m g then zwd h m g (gOf h m g) (zC (gOf h m g)) else (h,false)
def zeb (x:Host×Bool):List AV:=[.agg (zbi x.1),.one (.b x.2)]
theorem zkt {h:Host}{m g:Int}(b:SmH h)(a:hasB m (ln h.Mons)=true)(hg:hasB g (ln (ix h.Mons m mZ).Guests)=true):SmG (gOf h m g):=(b.2.1.2 _ (zbB a _)).2.2.2.1.2 _ (zbB hg _)
theorem z5E {h:Host}{m g:Int}{x:Guest}(c:Shape h)(d:hasB m (ln h.Mons)=true)(e:SmG x):Shape (zek h m g x):=by obtain⟨a,b⟩:=zcy c d;exact ziN c ⟨a.1,a.2.1,a.2.2.1,zHe a.2.2.2.1 e,a.2.2.2.2⟩ ⟨b.1,b.2.1,b.2.2.1,by simpa using b.2.2.2⟩
theorem zbe0 (o i t:Int):ieq (zjR o i t) 1=zde i t:=by unfold zjR;cases zde i t;{cases zde o t<;>rfl};{rfl}
theorem zbe1 {o i t:Int}(h:zde i t=true):ieq (zjR o i t) 2=false:=by unfold zjR;rw[h];rfl
theorem zpe {h:Host}{m:Int}(b:hasB m (ln h.Mons)=true)(x:Mon):ix (up h.Mons m x) m mZ=x:=by obtain⟨k,rfl,a⟩:=zdX (n:=h.Mons.length) b;exact zd3 a _ _
@[simp] abbrev zeR (h:Host)(m g:Int):Bool:=pc (zct h)
@[simp] abbrev zGi (h:Host)(m g:Int):Host:=(zbd h m g).1
@[simp] abbrev zGj (h:Host)(m g:Int):Bool:=(zbd h m g).2
theorem zV5 {a:Type}{l:List a}{x:a}(h:ilt (ln l) 40=true):few (ln (ap l [x]))=true:=by have:=qD h;simp only[ln] at this;exact zgV (by simp[ap];omega)
theorem z3k {h:Host}{m:Int}{x:Guest}{w:Int}(a:(cond (zgn x.Ctl.Traps w) (ieq w 5) false)=false):zfL h m x w=h:=by unfold zfL;rw[a];rfl
theorem zUd {h:Host}{m:Int}{x:Guest}{w:Int}(a:ilt (ln (ix h.Mons m mZ).Outs) 40=false):zfL h m x w=h:=by unfold zfL zhI;rw[a];cases (cond (zgn x.Ctl.Traps w) (ieq w 5) false)<;>rfl
theorem zZV {h:Host}{m:Int}{x:Guest}{w:Int}(a:zgn x.Ctl.Traps w=true)(b:ieq w 5=true)(c:ilt (ln (ix h.Mons m mZ).Outs) 40=true):zfL h m x w={h with Mons:=up h.Mons m {ix h.Mons m mZ with Outs:=ap (ix h.Mons m mZ).Outs [(zbC x.Prog x.Pc).X]}}:=by unfold zfL zhI;rw[a,b,c];rfl
theorem zPH {h:Host}{m:Int}{x:Guest}{w:Int}(a:zgn x.Ctl.Traps w=false):zfL h m x w=h:=z3k (by rw[a];rfl)
theorem zGz {h:Host}{m:Int}{x:Guest}{w:Int}(a:ieq w 5=false):zfL h m x w=h:=z3k (by rw[a];cases zgn x.Ctl.Traps w<;>rfl)
theorem zOl (a:Int):(cond (ieq a a) true false)=true:=by rw[zK8];rfl
theorem zh6 {h:Host}{m g:Int}(a:zbM h m g=false):zbd h m g=(h,false):=by unfold zbd;rw[a];rfl
theorem ziO {h:Host}{m g:Int}(a:zbM h m g=true):zbd h m g=zwd h m g (gOf h m g) (zC (gOf h m g)):=by unfold zbd;rw[a];rfl
theorem zmL {a b:Bool}(h:(cond a b false)=true):a=true/\b=true:=by cases a;{cases h};{exact⟨rfl,h⟩}
theorem ziP {a b:Bool}(c:a=true)(d:b=true):(cond a b false)=true:=by rw[c];exact d
theorem z3n {h:Host}{m:Int}{x:Guest}{w:Int}(b:ine w 6=true)(a:ieq (zjR (ix h.Mons m mZ).Traps x.Ctl.Traps (zff w)) 2=true)(c:ilt (ix h.Mons m mZ).Own 1000000000=true):zd0 h m x w={h with Mons:=up h.Mons m {ix h.Mons m mZ with Own:=zL .i64 (ix h.Mons m mZ).Own 1}}:=by unfold zd0 owned;rw[b,a,c];rfl
theorem z3l {h:Host}{m:Int}{x:Guest}{w:Int}(a:ieq (zjR (ix h.Mons m mZ).Traps x.Ctl.Traps (zff w)) 2=false):zd0 h m x w=h:=by unfold zd0;rw[a];cases ine w 6<;>rfl
theorem z3m {h:Host}{m:Int}{x:Guest}{w:Int}(a:ilt (ix h.Mons m mZ).Own 1000000000=false):zd0 h m x w=h:=by unfold zd0 owned;rw[a];cases (cond (ine w 6) (ieq (zjR (ix h.Mons m mZ).Traps x.Ctl.Traps (zff w)) 2) false)<;>rfl
theorem zbeb {h:Host}{m:Int}{x:Guest}:zd0 h m x 6=h:=rfl
theorem zod {h a:Host}{m g:Int}{x:Guest}{w:Int}(e:zd0 h m x w=a):ziu h m g x w=zek (zfL a m x w) m g (zeO x x.Ctl.Traps w):=by unfold ziu;rw[e]
theorem zbaS (x:Guest):ieq (zC x) 0=true\/ieq (zC x) 1=true\/ieq (zC x) 2=true\/ieq (zC x) 3=true\/ieq (zC x) 4=true\/ieq (zC x) 5=true\/ieq (zC x) 6=true\/ieq (zC x) 7=true:=by cases a:ieq (zC x) 0;{cases b:ieq (zC x) 1;{cases c:ieq (zC x) 2;{cases d:ieq (zC x) 3;{cases e:ieq (zC x) 4;{cases f:ieq (zC x) 5;{cases g:ieq (zC x) 6;{exact .inr (.inr (.inr (.inr (.inr (.inr (.inr (z5R x a b c d e f g)))))))};{exact .inr (.inr (.inr (.inr (.inr (.inr (.inl rfl))))))}};{exact .inr (.inr (.inr (.inr (.inr (.inl rfl)))))}};{exact .inr (.inr (.inr (.inr (.inl rfl))))}};{exact .inr (.inr (.inr (.inl rfl)))}};{exact .inr (.inr (.inl rfl))}};{exact .inr (.inl rfl)}};{exact .inl rfl}
abbrev zDh (x:Guest):Bool:=bif zeY x then ieq (zC x) 0 else false
def zpn:List AV->Option (Bool×List AV)
 |[.agg [.s .ins c,.i .i64 d,.i .i64 e,.s .slot f,.s .slot g,.i .i64 h,.i .i64 j,.b k,.i .i64 l,.i .i64 m,.i .i64 n,.b o,.i .i64 p,.b q,.s .int r]]=>some ((zDh (⟨c,d,e,f,g,⟨h,j,k⟩,l,⟨m,n,o,p⟩,q,r⟩:Guest)),[.one (.i .i64 0)])
 |_=>none
theorem zHA:vL 234 zpn:=by refine⟨zcm.1,fun w b g j a h=>?_⟩;unfold zpn at h;split at h;{obtain⟨f,rfl⟩:=zd7 h;obtain⟨d,e⟩:=zmL f;exact zcm.2 w _ g _ a (congr (congrArg (fun c v=>some (c,[AV.one (CV.i .i64 v)])) d) (qD e))};{cases h}
def zbc6:zbb:=[(234,zpn)]++zns
theorem z3M:zM zbc6:=zi zHA zhz
@[simp] abbrev zxs (h:Host)(m g:Int):Bool:=bif zeR h m g then ieq (zC (gOf h m g)) 0 else false
@[simp] abbrev zxq (h:Host)(m g:Int):Host:=(zbd h m g).1
@[simp] abbrev zxr (h:Host)(m g:Int):Bool:=(zbd h m g).2
def zH0:Run:=rF3 dH dI dI fun b c d=>(zxs b c d,[aH (zxq b c d),aB (zxr b c d)])
def zwj (N:Nat)(d:Host)(b c:Int):OA:=
 let a:=(zB d);let e:=(ix a.Mons b zh).Guests; (oN (zbV d) (oN (zhh a b c) (cond (nB (zjj a b c)) (some [(aH a),(aB false)]) (oN (inb b (ln a.Mons)) (oN (inb c (ln e)) (oN (zDh (ix e c zl)) (some [(aH a),(aB false)])))))))
abbrev zDi (x:Guest):Bool:=bif zeY x then ieq (zC x) 1 else false
def zpo:List AV->Option (Bool×List AV)
 |[.agg [.s .ins c,.i .i64 d,.i .i64 e,.s .slot f,.s .slot g,.i .i64 h,.i .i64 j,.b k,.i .i64 l,.i .i64 m,.i .i64 n,.b o,.i .i64 p,.b q,.s .int r]]=>some ((zDi (⟨c,d,e,f,g,⟨h,j,k⟩,l,⟨m,n,o,p⟩,q,r⟩:Guest)),[.one (.i .i64 1)])
 |_=>none
theorem zHB:vL 234 zpo:=by refine⟨zcm.1,fun w b g j a h=>?_⟩;unfold zpo at h;split at h;{obtain⟨f,rfl⟩:=zd7 h;obtain⟨d,e⟩:=zmL f;exact zcm.2 w _ g _ a (congr (congrArg (fun c v=>some (c,[AV.one (CV.i .i64 v)])) d) (qD e))};{cases h}
def zbc7:zbb:=[(234,zpo)]++zns
theorem z3N:zM zbc7:=zi zHB zhz
@[simp] abbrev zxv (h:Host)(m g:Int):Bool:=bif zeR h m g then ieq (zC (gOf h m g)) 1 else false
@[simp] abbrev zxt (h:Host)(m g:Int):Host:=(zbd h m g).1
@[simp] abbrev zxu (h:Host)(m g:Int):Bool:=(zbd h m g).2
def zH1:Run:=rF3 dH dI dI fun b c d=>(zxv b c d,[aH (zxt b c d),aB (zxu b c d)])
def zwk (N:Nat)(f:Host)(b c:Int):OA:=
 let a:=(zB f);let d:=(ix a.Mons b zh);let e:=(ix d.Guests c zl); (oN (zbV f) (oN (zhh a b c) (cond (nB (zjj a b c)) (some [(aH a),(aB false)]) (oN (inb b (ln a.Mons)) (oN (inb c (ln d.Guests)) (oN (zDi e) (oN (inb b (ln a.Mons)) (oN (zpK e) (oN (inb c (ln d.Guests)) (share (up a.Mons b ({d with Guests:=(up d.Guests c (zkj e))}:Mon)) (fun g=>(some [(aH ({a with Mons:=g}:Host)),(aB true)]))))))))))))
abbrev zDj (x:Guest):Bool:=bif zeY x then ieq (zC x) 2 else false
def zpp:List AV->Option (Bool×List AV)
 |[.agg [.s .ins c,.i .i64 d,.i .i64 e,.s .slot f,.s .slot g,.i .i64 h,.i .i64 j,.b k,.i .i64 l,.i .i64 m,.i .i64 n,.b o,.i .i64 p,.b q,.s .int r]]=>some ((zDj (⟨c,d,e,f,g,⟨h,j,k⟩,l,⟨m,n,o,p⟩,q,r⟩:Guest)),[.one (.i .i64 2)])
 |_=>none
theorem zHC:vL 234 zpp:=by refine⟨zcm.1,fun w b g j a h=>?_⟩;unfold zpp at h;split at h;{obtain⟨f,rfl⟩:=zd7 h;obtain⟨d,e⟩:=zmL f;exact zcm.2 w _ g _ a (congr (congrArg (fun c v=>some (c,[AV.one (CV.i .i64 v)])) d) (qD e))};{cases h}
def zbc8:zbb:=[(234,zpp)]++zns
theorem z3O:zM zbc8:=zi zHC zhz
@[simp] abbrev zxy (h:Host)(m g:Int):Bool:=bif zeR h m g then ieq (zC (gOf h m g)) 2 else false
@[simp] abbrev zxw (h:Host)(m g:Int):Host:=(zbd h m g).1
@[simp] abbrev zxx (h:Host)(m g:Int):Bool:=(zbd h m g).2
def zH2:Run:=rF3 dH dI dI fun b c d=>(zxy b c d,[aH (zxw b c d),aB (zxx b c d)])
def zwl (N:Nat)(f:Host)(b c:Int):OA:=
 let a:=(zB f);let d:=(ix a.Mons b zh);let e:=(ix d.Guests c zl); (oN (zbV f) (oN (zhh a b c) (cond (nB (zjj a b c)) (some [(aH a),(aB false)]) (oN (inb b (ln a.Mons)) (oN (inb c (ln d.Guests)) (oN (zDj e) (oN (inb b (ln a.Mons)) (oN (zyG e) (oN (inb c (ln d.Guests)) (share (up a.Mons b ({d with Guests:=(up d.Guests c (zsL e))}:Mon)) (fun g=>(some [(aH ({a with Mons:=g}:Host)),(aB true)]))))))))))))
abbrev zDk (x:Guest):Bool:=bif zeY x then ieq (zC x) 3 else false
def zpq:List AV->Option (Bool×List AV)
 |[.agg [.s .ins c,.i .i64 d,.i .i64 e,.s .slot f,.s .slot g,.i .i64 h,.i .i64 j,.b k,.i .i64 l,.i .i64 m,.i .i64 n,.b o,.i .i64 p,.b q,.s .int r]]=>some ((zDk (⟨c,d,e,f,g,⟨h,j,k⟩,l,⟨m,n,o,p⟩,q,r⟩:Guest)),[.one (.i .i64 3)])
 |_=>none
theorem zHD:vL 234 zpq:=by refine⟨zcm.1,fun w b g j a h=>?_⟩;unfold zpq at h;split at h;{obtain⟨f,rfl⟩:=zd7 h;obtain⟨d,e⟩:=zmL f;exact zcm.2 w _ g _ a (congr (congrArg (fun c v=>some (c,[AV.one (CV.i .i64 v)])) d) (qD e))};{cases h}
def zbc9:zbb:=[(234,zpq)]++zns
theorem z3P:zM zbc9:=zi zHD zhz
@[simp] abbrev zxB (h:Host)(m g:Int):Bool:=bif zeR h m g then ieq (zC (gOf h m g)) 3 else false
@[simp] abbrev zxz (h:Host)(m g:Int):Host:=(zbd h m g).1
@[simp] abbrev zxA (h:Host)(m g:Int):Bool:=(zbd h m g).2
def zH3:Run:=rF3 dH dI dI fun b c d=>(zxB b c d,[aH (zxz b c d),aB (zxA b c d)])
def zwm (N:Nat)(m:Host)(a b:Int):OA:=
 let c:=(zB m);let n:=(ix c.Mons a zh).Guests;let h:=(ix n b zl);let f:=(zjt h);let g:=(zcZ f);let l:=(zkP c c.Buffer a b g (zfE false) false);let d:=(zfq c c.Buffer a b g (zfE false) false);let e:=(ix d.Mons a zh);let j:=(ix e.Guests b zl);let i:=({h with Prog:=j.Prog,Written:=j.Written,Live:=j.Live,Seen:=j.Seen}:Guest); (oN (zbV m) (oN (zhh c a b) (cond (nB (zjj c a b)) (some [(aH c),(aB false)]) (oN (inb a (ln c.Mons)) (oN (inb b (ln n)) (oN (zDk h) (oN (zrI h) (oN (zgz f) (oN (zue false) (oN (zkQ c c.Buffer a b g (zfE false) false) (cond (nB (zhg c c.Buffer a b g (zfE false) false)) (oN (inb a (ln d.Mons)) (oN (zgz f) (oN (zkh g false) (oN (zet i (zfk g false)) (oN (inb b (ln e.Guests)) (share (up d.Mons a ({e with Guests:=(up e.Guests b (zdW i (zfk g false)))}:Mon)) (fun k=>(some [(aH ({d with Mons:=k}:Host)),(aB true)])))))))) (oN (inb a (ln d.Mons)) (oN (zi7 f) (oN (zt9 d.Memory l (zeB f)) (oN (zBG i (zn4 d.Memory l (zeB f))) (oN (inb b (ln e.Guests)) (share (up d.Mons a ({e with Guests:=(up e.Guests b (zvX i (zn4 d.Memory l (zeB f))))}:Mon)) (fun k=>(some [(aH ({d with Mons:=k}:Host)),(aB true)])))))))))))))))))))
abbrev zDl (x:Guest):Bool:=bif zeY x then ieq (zC x) 4 else false
def zpr:List AV->Option (Bool×List AV)
 |[.agg [.s .ins c,.i .i64 d,.i .i64 e,.s .slot f,.s .slot g,.i .i64 h,.i .i64 j,.b k,.i .i64 l,.i .i64 m,.i .i64 n,.b o,.i .i64 p,.b q,.s .int r]]=>some ((zDl (⟨c,d,e,f,g,⟨h,j,k⟩,l,⟨m,n,o,p⟩,q,r⟩:Guest)),[.one (.i .i64 4)])
 |_=>none
theorem zHE:vL 234 zpr:=by refine⟨zcm.1,fun w b g j a h=>?_⟩;unfold zpr at h;split at h;{obtain⟨f,rfl⟩:=zd7 h;obtain⟨d,e⟩:=zmL f;exact zcm.2 w _ g _ a (congr (congrArg (fun c v=>some (c,[AV.one (CV.i .i64 v)])) d) (qD e))};{cases h}
def zbda:zbb:=[(234,zpr)]++zns
theorem z3Q:zM zbda:=zi zHE zhz
@[simp] abbrev zxE (h:Host)(m g:Int):Bool:=bif zeR h m g then ieq (zC (gOf h m g)) 4 else false
@[simp] abbrev zxC (h:Host)(m g:Int):Host:=(zbd h m g).1
@[simp] abbrev zxD (h:Host)(m g:Int):Bool:=(zbd h m g).2
def zH4:Run:=rF3 dH dI dI fun b c d=>(zxE b c d,[aH (zxC b c d),aB (zxD b c d)])
def zwn (N:Nat)(l:Host)(a b:Int):OA:=
 let c:=(zB l);let n:=(ix c.Mons a zh).Guests;let g:=(ix n b zl);let h:=(zjt g);let f:=(zcZ h);let m:=(zkP c c.Buffer a b f (zfE true) false);let d:=(zfq c c.Buffer a b f (zfE true) false);let e:=(ix d.Mons a zh);let j:=(ix e.Guests b zl);let i:=({g with Prog:=j.Prog,Written:=j.Written,Live:=j.Live,Seen:=j.Seen}:Guest); (oN (zbV l) (oN (zhh c a b) (cond (nB (zjj c a b)) (some [(aH c),(aB false)]) (oN (inb a (ln c.Mons)) (oN (inb b (ln n)) (oN (zDl g) (oN (zrI g) (oN (zgz h) (oN (zue true) (oN (zkQ c c.Buffer a b f (zfE true) false) (cond (nB (zhg c c.Buffer a b f (zfE true) false)) (oN (inb a (ln d.Mons)) (oN (zgz h) (oN (zkh f true) (oN (zet i (zfk f true)) (oN (inb b (ln e.Guests)) (share (up d.Mons a ({e with Guests:=(up e.Guests b (zdW i (zfk f true)))}:Mon)) (fun k=>(some [(aH ({d with Mons:=k}:Host)),(aB true)])))))))) (oN (zi7 h) (oN (zjd d.Memory m (zeB h) g.A) (oN (inb a (ln d.Mons)) (oN (zBM i) (oN (inb b (ln e.Guests)) (share (up d.Mons a ({e with Guests:=(up e.Guests b (zv0 i))}:Mon)) (fun k=>(some [(aH ({d with Memory:=(zj0 d.Memory m (zeB h) g.A),Mons:=k}:Host)),(aB true)])))))))))))))))))))
abbrev zDm (x:Guest):Bool:=bif zeY x then ieq (zC x) 5 else false
def zps:List AV->Option (Bool×List AV)
 |[.agg [.s .ins c,.i .i64 d,.i .i64 e,.s .slot f,.s .slot g,.i .i64 h,.i .i64 j,.b k,.i .i64 l,.i .i64 m,.i .i64 n,.b o,.i .i64 p,.b q,.s .int r]]=>some ((zDm (⟨c,d,e,f,g,⟨h,j,k⟩,l,⟨m,n,o,p⟩,q,r⟩:Guest)),[.one (.i .i64 5)])
 |_=>none
theorem zHF:vL 234 zps:=by refine⟨zcm.1,fun w b g j a h=>?_⟩;unfold zps at h;split at h;{obtain⟨f,rfl⟩:=zd7 h;obtain⟨d,e⟩:=zmL f;exact zcm.2 w _ g _ a (congr (congrArg (fun c v=>some (c,[AV.one (CV.i .i64 v)])) d) (qD e))};{cases h}
def zbdb:zbb:=[(234,zps)]++zns
theorem z3R:zM zbdb:=zi zHF zhz
@[simp] abbrev zxH (h:Host)(m g:Int):Bool:=bif zeR h m g then ieq (zC (gOf h m g)) 5 else false
@[simp] abbrev zxF (h:Host)(m g:Int):Host:=(zbd h m g).1
@[simp] abbrev zxG (h:Host)(m g:Int):Bool:=(zbd h m g).2
def zH5:Run:=rF3 dH dI dI fun b c d=>(zxH b c d,[aH (zxF b c d),aB (zxG b c d)])
def zwo (N:Nat)(x:Host)(a e:Int):OA:=
 let d:=(zB x);let f:=(inb a (ln d.Mons));let g:=(ix d.Mons a zh);let j:=(inb e (ln g.Guests));let c:=(ix g.Guests e zl);let w:=(ap g.Outs [(zfc c.Prog c.Pc).X]);let s:=(up d.Mons a ({g with Outs:=w}:Mon));let h:=c.Ctl.Traps;let v:=(up d.Mons a ({g with Guests:=(up g.Guests e (zck c h 5))}:Mon)); (oN (zbV x) (oN (zhh d a e) (cond (nB (zjj d a e)) (some [(aH d),(aB false)]) (oN f (oN j (oN (zDm c) (oN f (oN (zrY g.Traps h 1) (cond (ieq (zou g.Traps h 1) 2) (oN f (cond (ilt g.Own 1000000000) (oN f (oN f (share (up d.Mons a ({g with Own:=(zL .i64 g.Own 1)}:Mon)) (fun b=>let k:=(inb a (ln b));let l:=(ix b a zh);let q:=(ix l.Guests e zl);let t:=(ap l.Outs [(zfc q.Prog c.Pc).X]);let u:=({c with Prog:=q.Prog,Written:=q.Written,Live:=q.Live,Seen:=q.Seen}:Guest);let r:=(up b a ({l with Guests:=(up l.Guests e (zck u h 5))}:Mon)); (oN (zd5 u h 5) (cond (zdB u h 5) (oN k (cond (ilt (ln l.Outs) 40) (oN k (oN (zfd q.Prog c.Pc) (oN (few (ln t)) (oN k (oN (cond (ieq a a) true false) (share (up b a ({l with Outs:=t}:Mon)) (fun i=>let m:=(ix i a zh); (oN (inb a (ln i)) (oN (inb e (ln m.Guests)) (share (up i a ({m with Guests:=(up m.Guests e (zck u h 5))}:Mon)) (fun y=>(some [(aH ({d with Mons:=y}:Host)),(aB true)])))))))))))) (oN k (oN (inb e (ln l.Guests)) (share r (fun i=>(some [(aH ({d with Mons:=i}:Host)),(aB true)]))))))) (oN k (oN (inb e (ln l.Guests)) (share r (fun i=>(some [(aH ({d with Mons:=i}:Host)),(aB true)]))))))))))) (oN (zd5 c h 5) (cond (zdB c h 5) (oN f (cond (ilt (ln g.Outs) 40) (oN f (oN (zfd c.Prog c.Pc) (oN (few (ln w)) (oN f (oN (cond (ieq a a) true false) (share s (fun b=>let n:=(ix b a zh); (oN (inb a (ln b)) (oN (inb e (ln n.Guests)) (share (up b a ({n with Guests:=(up n.Guests e (zck c h 5))}:Mon)) (fun i=>(some [(aH ({d with Mons:=i}:Host)),(aB true)])))))))))))) (oN f (oN j (share v (fun b=>(some [(aH ({d with Mons:=b}:Host)),(aB true)]))))))) (oN f (oN j (share v (fun b=>(some [(aH ({d with Mons:=b}:Host)),(aB true)]))))))))) (oN (zd5 c h 5) (cond (zdB c h 5) (oN f (cond (ilt (ln g.Outs) 40) (oN f (oN (zfd c.Prog c.Pc) (oN (few (ln w)) (oN f (oN (cond (ieq a a) true false) (share s (fun b=>let p:=(ix b a zh); (oN (inb a (ln b)) (oN (inb e (ln p.Guests)) (share (up b a ({p with Guests:=(up p.Guests e (zck c h 5))}:Mon)) (fun i=>(some [(aH ({d with Mons:=i}:Host)),(aB true)])))))))))))) (oN f (oN j (share v (fun b=>(some [(aH ({d with Mons:=b}:Host)),(aB true)]))))))) (oN f (oN j (share v (fun b=>(some [(aH ({d with Mons:=b}:Host)),(aB true)]))))))))))))))))
abbrev zDn (x:Guest):Bool:=bif zeY x then ieq (zC x) 6 else false
def zpt:List AV->Option (Bool×List AV)
 |[.agg [.s .ins c,.i .i64 d,.i .i64 e,.s .slot f,.s .slot g,.i .i64 h,.i .i64 j,.b k,.i .i64 l,.i .i64 m,.i .i64 n,.b o,.i .i64 p,.b q,.s .int r]]=>some ((zDn (⟨c,d,e,f,g,⟨h,j,k⟩,l,⟨m,n,o,p⟩,q,r⟩:Guest)),[.one (.i .i64 6)])
 |_=>none
theorem zHG:vL 234 zpt:=by refine⟨zcm.1,fun w b g j a h=>?_⟩;unfold zpt at h;split at h;{obtain⟨f,rfl⟩:=zd7 h;obtain⟨d,e⟩:=zmL f;exact zcm.2 w _ g _ a (congr (congrArg (fun c v=>some (c,[AV.one (CV.i .i64 v)])) d) (qD e))};{cases h}
def zbdc:zbb:=[(234,zpt)]++zns
theorem z3S:zM zbdc:=zi zHG zhz
@[simp] abbrev zxK (h:Host)(m g:Int):Bool:=bif zeR h m g then ieq (zC (gOf h m g)) 6 else false
@[simp] abbrev zxI (h:Host)(m g:Int):Host:=(zbd h m g).1
@[simp] abbrev zxJ (h:Host)(m g:Int):Bool:=(zbd h m g).2
def zH6:Run:=rF3 dH dI dI fun b c d=>(zxK b c d,[aH (zxI b c d),aB (zxJ b c d)])
def zwp (N:Nat)(i:Host)(c d:Int):OA:=
 let a:=(zB i);let g:=(inb c (ln a.Mons));let e:=(ix a.Mons c zh);let h:=(inb d (ln e.Guests));let b:=(ix e.Guests d zl);let j:=(up a.Mons c ({e with Guests:=(up e.Guests d (zck b b.Ctl.Traps 6))}:Mon)); (oN (zbV i) (oN (zhh a c d) (cond (nB (zjj a c d)) (some [(aH a),(aB false)]) (oN g (oN h (oN (zDn b) (oN (zd5 b b.Ctl.Traps 6) (cond (zdB b b.Ctl.Traps 6) (oN g (oN h (share j (fun f=>(some [(aH ({a with Mons:=f}:Host)),(aB true)]))))) (oN g (oN h (share j (fun f=>(some [(aH ({a with Mons:=f}:Host)),(aB true)])))))))))))))
abbrev zDo (x:Guest):Bool:=bif zeY x then ieq (zC x) 7 else false
def zpu:List AV->Option (Bool×List AV)
 |[.agg [.s .ins c,.i .i64 d,.i .i64 e,.s .slot f,.s .slot g,.i .i64 h,.i .i64 j,.b k,.i .i64 l,.i .i64 m,.i .i64 n,.b o,.i .i64 p,.b q,.s .int r]]=>some ((zDo (⟨c,d,e,f,g,⟨h,j,k⟩,l,⟨m,n,o,p⟩,q,r⟩:Guest)),[.one (.i .i64 7)])
 |_=>none
theorem zHH:vL 234 zpu:=by refine⟨zcm.1,fun w b g j a h=>?_⟩;unfold zpu at h;split at h;{obtain⟨f,rfl⟩:=zd7 h;obtain⟨d,e⟩:=zmL f;exact zcm.2 w _ g _ a (congr (congrArg (fun c v=>some (c,[AV.one (CV.i .i64 v)])) d) (qD e))};{cases h}
def zbdd:zbb:=[(234,zpu)]++zns
theorem z3T:zM zbdd:=zi zHH zhz
@[simp] abbrev zxN (h:Host)(m g:Int):Bool:=bif zeR h m g then ieq (zC (gOf h m g)) 7 else false
@[simp] abbrev zxL (h:Host)(m g:Int):Host:=(zbd h m g).1
@[simp] abbrev zxM (h:Host)(m g:Int):Bool:=(zbd h m g).2
def zH7:Run:=rF3 dH dI dI fun b c d=>(zxN b c d,[aH (zxL b c d),aB (zxM b c d)])
def zwq (N:Nat)(q:Host)(c e:Int):OA:=
 let a:=(zB q);let g:=(inb c (ln a.Mons));let f:=(ix a.Mons c zh);let k:=(inb e (ln f.Guests));let h:=(ix f.Guests e zl);let d:=h.Ctl.Traps;let l:=(up a.Mons c ({f with Guests:=(up f.Guests e (zck h d 7))}:Mon)); (oN (zbV q) (oN (zhh a c e) (cond (nB (zjj a c e)) (some [(aH a),(aB false)]) (oN g (oN k (oN (zDo h) (oN g (oN (zrY f.Traps d 2) (cond (ieq (zou f.Traps d 2) 2) (oN g (cond (ilt f.Own 1000000000) (oN g (oN g (share (up a.Mons c ({f with Own:=(zL .i64 f.Own 1)}:Mon)) (fun b=>let j:=(ix b c zh);let m:=(ix j.Guests e zl);let p:=({h with Prog:=m.Prog,Written:=m.Written,Live:=m.Live,Seen:=m.Seen}:Guest);let i:=(up b c ({j with Guests:=(up j.Guests e (zck p d 7))}:Mon)); (oN (zd5 p d 7) (cond (zdB p d 7) (oN (inb c (ln b)) (oN (inb e (ln j.Guests)) (share i (fun n=>(some [(aH ({a with Mons:=n}:Host)),(aB true)]))))) (oN (inb c (ln b)) (oN (inb e (ln j.Guests)) (share i (fun n=>(some [(aH ({a with Mons:=n}:Host)),(aB true)]))))))))))) (oN (zd5 h d 7) (cond (zdB h d 7) (oN g (oN k (share l (fun b=>(some [(aH ({a with Mons:=b}:Host)),(aB true)]))))) (oN g (oN k (share l (fun b=>(some [(aH ({a with Mons:=b}:Host)),(aB true)]))))))))) (oN (zd5 h d 7) (cond (zdB h d 7) (oN g (oN k (share l (fun b=>(some [(aH ({a with Mons:=b}:Host)),(aB true)]))))) (oN g (oN k (share l (fun b=>(some [(aH ({a with Mons:=b}:Host)),(aB true)]))))))))))))))))
theorem zHQ (a:Host)(b c:Int)(e:zxs a b c=true):∃N,zwj N a b c=some [aH (zxq a b c),aB (zxr a b c)]:=by
 obtain⟨e,i⟩:=zmL e;have f:=(zS a).1 (zN.1 e);refine⟨0,?_⟩;show _=some (zeb (zbd a b c));unfold zwj oN nB;conv=>zeta
 refine must (zbn ((zS _).2 f)) (must (zbn ((zS _).2 f)) (brN (fun d=>?_) (fun d=>?_)));{rw [zh6 d];rfl};obtain⟨k,g,h⟩:=zc2 d;have l:=zkt f g h;have j:zC (gOf a b c)=0:=qD i;rw[ziO d,j];refine must (zy g) (must (zy h) (must (ziP rfl i) ?_));rfl
theorem zqk:vL 156 zH0:=kF3 z3M zu zb9 zgM (zx []) zHQ
theorem zHR (a:Host)(b c:Int)(g:zxv a b c=true):∃N,zwk N a b c=some [aH (zxt a b c),aB (zxu a b c)]:=by
 obtain⟨g,i⟩:=zmL g;have h:=(zS a).1 (zN.1 g);refine⟨0,?_⟩;show _=some (zeb (zbd a b c));unfold zwk oN nB;conv=>zeta
 refine must (zbn ((zS _).2 h)) (must (zbn ((zS _).2 h)) (brN (fun d=>?_) (fun d=>?_)));{rw [zh6 d];rfl};obtain⟨l,e,f⟩:=zc2 d;have k:=zkt h e f;have j:zC (gOf a b c)=1:=qD i;rw[ziO d,j];refine must (zy e) (must (zy f) (must (ziP rfl i) ?_));show _=some (zeb (zek a b c (interrupted (gOf a b c)),true));exact must (zy e) (must (zbn k) (must (zy f) rfl))
theorem zDx:vL 156 zH1:=kF3 z3N zu zb9 zgM (zx []) zHR
theorem zHS (a:Host)(b c:Int)(g:zxy a b c=true):∃N,zwl N a b c=some [aH (zxw a b c),aB (zxx a b c)]:=by
 obtain⟨g,i⟩:=zmL g;have h:=(zS a).1 (zN.1 g);refine⟨0,?_⟩;show _=some (zeb (zbd a b c));unfold zwl oN nB;conv=>zeta
 refine must (zbn ((zS _).2 h)) (must (zbn ((zS _).2 h)) (brN (fun d=>?_) (fun d=>?_)));{rw [zh6 d];rfl};obtain⟨l,e,f⟩:=zc2 d;have k:=zkt h e f;have j:zC (gOf a b c)=2:=qD i;rw[ziO d,j];refine must (zy e) (must (zy f) (must (ziP rfl i) ?_));show _=some (zeb (zek a b c (plainly (gOf a b c)),true));exact must (zy e) (must (zbn k) (must (zy f) rfl))
theorem zDy:vL 156 zH2:=kF3 z3O zu zb9 zgM (zx []) zHS
theorem zHT (a:Host)(c d:Int)(j:zxB a c d=true):∃N,zwm N a c d=some [aH (zxz a c d),aB (zxA a c d)]:=by
 obtain⟨j,m⟩:=zmL j;have f:=(zS a).1 (zN.1 j);refine⟨0,?_⟩;show _=some (zeb (zbd a c d));unfold zwm oN nB;conv=>zeta
 refine must (zbn ((zS _).2 f)) (must (zbn ((zS _).2 f)) (brN (fun e=>?_) (fun e=>?_)));{rw [zh6 e];rfl};obtain⟨r,g,i⟩:=zc2 e;have n:=zkt f g i;have q:zC (gOf a c d)=3:=qD m;rw[ziO e,q];refine must (zy g) (must (zy i) (must (ziP rfl m) ?_));show _=some (zeb (zeH (zdZ a c d (gOf a c d) false) c d (gOf a c d) false,true));have k:=zuz (b:=a.Buffer) (page:=zbe (address (gOf a c d))) (need:=zbZ false) (io:=false) f e;have F:=zmf k g i;have p:(ix (ix (zfq (zB a) (zB a).Buffer c d (zcZ (zjt (ix (ix (zB a).Mons c zh).Guests d zl))) (zfE false) false).Mons c zh).Guests d zl)=(ix (ix (zB a).Mons c zh).Guests d zl):=congrArg (fun l=>ix l d gZ) (zNq k.gs c);rw[p];unfold zeH;refine must rfl (must rfl (must rfl (must (zbn ((zS _).2 f)) (brN (fun h=>?_) (fun h=>?_)))));{rw [show (zdZ a c d (gOf a c d) false).2.2=false from h];exact must (zy F.hm) (must rfl (must rfl (must (zbn n) (must (zy F.hg) rfl))))};{rw [show (zdZ a c d (gOf a c d) false).2.2=true from h];exact must (zy F.hm) (must rfl (must rfl (must (zbn n) (must (zy F.hg) rfl))))}
theorem zDz:vL 156 zH3:=kF3 z3P zu zb9 zgM (zx []) zHT
theorem zHU (a:Host)(c d:Int)(j:zxE a c d=true):∃N,zwn N a c d=some [aH (zxC a c d),aB (zxD a c d)]:=by
 obtain⟨j,m⟩:=zmL j;have f:=(zS a).1 (zN.1 j);refine⟨0,?_⟩;show _=some (zeb (zbd a c d));unfold zwn oN nB;conv=>zeta
 refine must (zbn ((zS _).2 f)) (must (zbn ((zS _).2 f)) (brN (fun e=>?_) (fun e=>?_)));{rw [zh6 e];rfl};obtain⟨r,g,i⟩:=zc2 e;have n:=zkt f g i;have q:zC (gOf a c d)=4:=qD m;rw[ziO e,q];refine must (zy g) (must (zy i) (must (ziP rfl m) ?_));show _=some (zeb (zeH (zdZ a c d (gOf a c d) true) c d (gOf a c d) true,true));have k:=zuz (b:=a.Buffer) (page:=zbe (address (gOf a c d))) (need:=zbZ true) (io:=false) f e;have F:=zmf k g i;have p:(ix (ix (zfq (zB a) (zB a).Buffer c d (zcZ (zjt (ix (ix (zB a).Mons c zh).Guests d zl))) (zfE true) false).Mons c zh).Guests d zl)=(ix (ix (zB a).Mons c zh).Guests d zl):=congrArg (fun l=>ix l d gZ) (zNq k.gs c);rw[p];unfold zeH;refine must rfl (must rfl (must rfl (must (zbn ((zS _).2 f)) (brN (fun h=>?_) (fun h=>?_)))));{rw [show (zdZ a c d (gOf a c d) true).2.2=false from h];exact must (zy F.hm) (must rfl (must rfl (must (zbn n) (must (zy F.hg) rfl))))};{rw [show (zdZ a c d (gOf a c d) true).2.2=true from h];exact must rfl (must (zbn k.shape.1.1) (must (zy F.hm) (must (zbn n) (must (zy F.hg) rfl))))}
theorem zDA:vL 156 zH4:=kF3 z3Q zu zb9 zgM (zx []) zHU
theorem zbb3 {c:Host}{a d:Int}(k:SmG (gOf c a d))(f:hasB a (ln c.Mons)=true)(i:hasB d (ln (ix c.Mons a mZ).Guests)=true) :
 (cond (zd5 (ix (ix (zB c).Mons a zh).Guests d zl) (ix (ix (zB c).Mons a zh).Guests d zl).Ctl.Traps 5) (cond (zdB (ix (ix (zB c).Mons a zh).Guests d zl) (ix (ix (zB c).Mons a zh).Guests d zl).Ctl.Traps 5) (cond (inb a (ln (zB c).Mons)) (cond (ilt (ln (ix (zB c).Mons a zh).Outs) 40) (cond (inb a (ln (zB c).Mons)) (cond (zfd (ix (ix (zB c).Mons a zh).Guests d zl).Prog (ix (ix (zB c).Mons a zh).Guests d zl).Pc) (cond (few (ln (ap (ix (zB c).Mons a zh).Outs [(zfc (ix (ix (zB c).Mons a zh).Guests d zl).Prog (ix (ix (zB c).Mons a zh).Guests d zl).Pc).X]))) (cond (inb a (ln (zB c).Mons)) (cond (cond (ieq a a) true false) (share (up (zB c).Mons a ({ (ix (zB c).Mons a zh) with Outs:=(ap (ix (zB c).Mons a zh).Outs [(zfc (ix (ix (zB c).Mons a zh).Guests d zl).Prog (ix (ix (zB c).Mons a zh).Guests d zl).Pc).X])}:Mon)) (fun e=>(cond (inb a (ln e)) (cond (inb d (ln (ix e a zh).Guests)) (share (up e a ({ (ix e a zh) with Guests:=(up (ix e a zh).Guests d (zck (ix (ix (zB c).Mons a zh).Guests d zl) (ix (ix (zB c).Mons a zh).Guests d zl).Ctl.Traps 5))}:Mon)) (fun l=>(some [(.agg (zbi ({ (zB c) with Mons:=l}:Host))),(.one (.b true))]))) none) none))) none) none) none) none) none) (cond (inb a (ln (zB c).Mons)) (cond (inb d (ln (ix (zB c).Mons a zh).Guests)) (share (up (zB c).Mons a ({ (ix (zB c).Mons a zh) with Guests:=(up (ix (zB c).Mons a zh).Guests d (zck (ix (ix (zB c).Mons a zh).Guests d zl) (ix (ix (zB c).Mons a zh).Guests d zl).Ctl.Traps 5))}:Mon)) (fun e=>(some [(.agg (zbi ({ (zB c) with Mons:=e}:Host))),(.one (.b true))]))) none) none)) none) (cond (inb a (ln (zB c).Mons)) (cond (inb d (ln (ix (zB c).Mons a zh).Guests)) (share (up (zB c).Mons a ({ (ix (zB c).Mons a zh) with Guests:=(up (ix (zB c).Mons a zh).Guests d (zck (ix (ix (zB c).Mons a zh).Guests d zl) (ix (ix (zB c).Mons a zh).Guests d zl).Ctl.Traps 5))}:Mon)) (fun e=>(some [(.agg (zbi ({ (zB c) with Mons:=e}:Host))),(.one (.b true))]))) none) none)) none)=some (zeb (zek (zfL c a (gOf c a d) 5) a d (zeO (gOf c a d) (gOf c a d).Ctl.Traps 5),true)):=by
 refine must (zbn k) (br (fun j=>must (zy f) (br (fun g=>?_) (fun g=>?_))) (fun j=>?_))
 .rw [zZV (h:=c) (m:=a) (x:=gOf c a d) (w:=5) j rfl g];refine must (zy f) (must rfl (must (zV5 g) (must (zy f) (must (zOl _) (shr (must (zy (zeD f)) (must ?_ rfl)))))));rw[zpe f];exact zy i
 .rw [zUd (h:=c) (m:=a) (x:=gOf c a d) (w:=5) g];exact must (zy f) (must (zy i) rfl)
 .rw [zPH (h:=c) (m:=a) (x:=gOf c a d) (w:=5) j];exact must (zy f) (must (zy i) rfl)
theorem zbfq {f:Host}{d:List Mon}{a c:Int}(n:SmG (gOf f a c))(i:hasB a (ln d)=true)(k:hasB c (ln (ix d a mZ).Guests)=true)(e:(ix (ix d a zh).Guests c zl)=gOf f a c) :
 (cond (zd5 ({ (ix (ix (zB f).Mons a zh).Guests c zl) with Prog:=(ix (ix d a zh).Guests c zl).Prog,Written:=(ix (ix d a zh).Guests c zl).Written,Live:=(ix (ix d a zh).Guests c zl).Live,Seen:=(ix (ix d a zh).Guests c zl).Seen}:Guest) (ix (ix (zB f).Mons a zh).Guests c zl).Ctl.Traps 5) (cond (zdB ({ (ix (ix (zB f).Mons a zh).Guests c zl) with Prog:=(ix (ix d a zh).Guests c zl).Prog,Written:=(ix (ix d a zh).Guests c zl).Written,Live:=(ix (ix d a zh).Guests c zl).Live,Seen:=(ix (ix d a zh).Guests c zl).Seen}:Guest) (ix (ix (zB f).Mons a zh).Guests c zl).Ctl.Traps 5) (cond (inb a (ln d)) (cond (ilt (ln (ix d a zh).Outs) 40) (cond (inb a (ln d)) (cond (zfd (ix (ix d a zh).Guests c zl).Prog (ix (ix (zB f).Mons a zh).Guests c zl).Pc) (cond (few (ln (ap (ix d a zh).Outs [(zfc (ix (ix d a zh).Guests c zl).Prog (ix (ix (zB f).Mons a zh).Guests c zl).Pc).X]))) (cond (inb a (ln d)) (cond (cond (ieq a a) true false) (share (up d a ({ (ix d a zh) with Outs:=(ap (ix d a zh).Outs [(zfc (ix (ix d a zh).Guests c zl).Prog (ix (ix (zB f).Mons a zh).Guests c zl).Pc).X])}:Mon)) (fun g=>(cond (inb a (ln g)) (cond (inb c (ln (ix g a zh).Guests)) (share (up g a ({ (ix g a zh) with Guests:=(up (ix g a zh).Guests c (zck ({ (ix (ix (zB f).Mons a zh).Guests c zl) with Prog:=(ix (ix d a zh).Guests c zl).Prog,Written:=(ix (ix d a zh).Guests c zl).Written,Live:=(ix (ix d a zh).Guests c zl).Live,Seen:=(ix (ix d a zh).Guests c zl).Seen}:Guest) (ix (ix (zB f).Mons a zh).Guests c zl).Ctl.Traps 5))}:Mon)) (fun p=>(some [(.agg (zbi ({ (zB f) with Mons:=p}:Host))),(.one (.b true))]))) none) none))) none) none) none) none) none) (cond (inb a (ln d)) (cond (inb c (ln (ix d a zh).Guests)) (share (up d a ({ (ix d a zh) with Guests:=(up (ix d a zh).Guests c (zck ({ (ix (ix (zB f).Mons a zh).Guests c zl) with Prog:=(ix (ix d a zh).Guests c zl).Prog,Written:=(ix (ix d a zh).Guests c zl).Written,Live:=(ix (ix d a zh).Guests c zl).Live,Seen:=(ix (ix d a zh).Guests c zl).Seen}:Guest) (ix (ix (zB f).Mons a zh).Guests c zl).Ctl.Traps 5))}:Mon)) (fun g=>(some [(.agg (zbi ({ (zB f) with Mons:=g}:Host))),(.one (.b true))]))) none) none)) none) (cond (inb a (ln d)) (cond (inb c (ln (ix d a zh).Guests)) (share (up d a ({ (ix d a zh) with Guests:=(up (ix d a zh).Guests c (zck ({ (ix (ix (zB f).Mons a zh).Guests c zl) with Prog:=(ix (ix d a zh).Guests c zl).Prog,Written:=(ix (ix d a zh).Guests c zl).Written,Live:=(ix (ix d a zh).Guests c zl).Live,Seen:=(ix (ix d a zh).Guests c zl).Seen}:Guest) (ix (ix (zB f).Mons a zh).Guests c zl).Ctl.Traps 5))}:Mon)) (fun g=>(some [(.agg (zbi ({ (zB f) with Mons:=g}:Host))),(.one (.b true))]))) none) none)) none)=some (zeb (zek (zfL {f with Mons:=d} a (gOf f a c) 5) a c (zeO (gOf f a c) (gOf f a c).Ctl.Traps 5),true)):=by
 rw[e];refine must (zbn n) (br (fun l=>must (zy i) (br (fun j=>?_) (fun j=>?_))) (fun l=>?_))
 .rw [zZV (h:={f with Mons:=d}) (m:=a) (x:=gOf f a c) (w:=5) l rfl j];refine must (zy i) (must rfl (must (zV5 j) (must (zy i) (must (zOl _) (shr (must (zy (zeD (h:={f with Mons:=d}) i)) (must ?_ rfl)))))));rw[zpe (h:={f with Mons:=d}) i];exact zy k
 .rw [zUd (h:={f with Mons:=d}) (m:=a) (x:=gOf f a c) (w:=5) j];exact must (zy i) (must (zy k) rfl)
 .rw [zPH (h:={f with Mons:=d}) (m:=a) (x:=gOf f a c) (w:=5) l];exact must (zy i) (must (zy k) rfl)
theorem zHV (b:Host)(a c:Int)(j:zxH b a c=true):∃N,zwo N b a c=some [aH (zxF b a c),aB (zxG b a c)]:=by
 obtain⟨j,p⟩:=zmL j;have k:=(zS b).1 (zN.1 j);refine⟨0,?_⟩;show _=some (zeb (zbd b a c));unfold zwo oN nB;conv=>zeta
 refine must (zbn ((zS _).2 k)) (must (zbn ((zS _).2 k)) (brN (fun f=>?_) (fun f=>?_)));{rw [zh6 f];rfl};obtain⟨r,d,e⟩:=zc2 f;have l:=zkt k d e;have q:zC (gOf b a c)=5:=qD p;rw[ziO f,q];refine must (zy d) (must (zy e) (must (ziP rfl p) ?_));show _=some (zeb (ziu b a c (gOf b a c) 5,true));refine must (zy d) (must rfl (br (fun g=>must (zy d) (br (fun i=>must (zy d) (must (zy d) (shr ?_))) (fun i=>?_))) (fun g=>?_)));{rw [zod (z3n (h:=b) (m:=a) (x:=gOf b a c) (w:=5) rfl g i)];have n:=zpe d {ix b.Mons a mZ with Own:=zL .i64 (ix b.Mons a mZ).Own 1};refine zbfq l (zeD d) ?_ ?_;{show hasB c (ln (ix (up b.Mons a _) a mZ).Guests)=true;rw[n];exact e};{show ix (ix (up b.Mons a _) a mZ).Guests c gZ=_;rw[n];rfl}};{rw [zod (z3m (h:=b) (m:=a) (x:=gOf b a c) (w:=5) i)];exact zbb3 l d e};{rw [zod (z3l (h:=b) (m:=a) (x:=gOf b a c) (w:=5) g)];exact zbb3 l d e}
theorem zDB:vL 156 zH5:=kF3 z3R zu zb9 zgM (zx []) zHV
theorem zHW (a:Host)(b c:Int)(g:zxK a b c=true):∃N,zwp N a b c=some [aH (zxI a b c),aB (zxJ a b c)]:=by
 obtain⟨g,j⟩:=zmL g;have i:=(zS a).1 (zN.1 g);refine⟨0,?_⟩;show _=some (zeb (zbd a b c));unfold zwp oN nB;conv=>zeta
 refine must (zbn ((zS _).2 i)) (must (zbn ((zS _).2 i)) (brN (fun f=>?_) (fun f=>?_)));{rw [zh6 f];rfl};obtain⟨p,d,e⟩:=zc2 f;have n:=zkt i d e;have l:zC (gOf a b c)=6:=qD j;rw[ziO f,l];refine must (zy d) (must (zy e) (must (ziP rfl j) ?_));show _=some (zeb (ziu a b c (gOf a b c) 6,true));rw[zod (zbeb (h:=a) (m:=b) (x:=gOf a b c)),zGz (w:=6) rfl];exact must (zbn n) (br (fun k=>must (zy d) (must (zy e) rfl)) (fun k=>must (zy d) (must (zy e) rfl)))
theorem zDC:vL 156 zH6:=kF3 z3S zu zb9 zgM (zx []) zHW
theorem zbb4 {a:Host}{c d:Int}(i:SmG (gOf a c d))(f:hasB c (ln a.Mons)=true)(g:hasB d (ln (ix a.Mons c mZ).Guests)=true) :
 (cond (zd5 (ix (ix (zB a).Mons c zh).Guests d zl) (ix (ix (zB a).Mons c zh).Guests d zl).Ctl.Traps 7) (cond (zdB (ix (ix (zB a).Mons c zh).Guests d zl) (ix (ix (zB a).Mons c zh).Guests d zl).Ctl.Traps 7) (cond (inb c (ln (zB a).Mons)) (cond (inb d (ln (ix (zB a).Mons c zh).Guests)) (share (up (zB a).Mons c ({ (ix (zB a).Mons c zh) with Guests:=(up (ix (zB a).Mons c zh).Guests d (zck (ix (ix (zB a).Mons c zh).Guests d zl) (ix (ix (zB a).Mons c zh).Guests d zl).Ctl.Traps 7))}:Mon)) (fun e=>(some [(.agg (zbi ({ (zB a) with Mons:=e}:Host))),(.one (.b true))]))) none) none) (cond (inb c (ln (zB a).Mons)) (cond (inb d (ln (ix (zB a).Mons c zh).Guests)) (share (up (zB a).Mons c ({ (ix (zB a).Mons c zh) with Guests:=(up (ix (zB a).Mons c zh).Guests d (zck (ix (ix (zB a).Mons c zh).Guests d zl) (ix (ix (zB a).Mons c zh).Guests d zl).Ctl.Traps 7))}:Mon)) (fun e=>(some [(.agg (zbi ({ (zB a) with Mons:=e}:Host))),(.one (.b true))]))) none) none)) none)=some (zeb (zek a c d (zeO (gOf a c d) (gOf a c d).Ctl.Traps 7),true)):=
 must (zbn i) (br (fun h=>must (zy f) (must (zy g) rfl)) (fun h=>must (zy f) (must (zy g) rfl)))
theorem zbfr {f:Host}{d:List Mon}{a c:Int}(k:SmG (gOf f a c))(h:hasB a (ln d)=true)(i:hasB c (ln (ix d a mZ).Guests)=true)(e:(ix (ix d a zh).Guests c zl)=gOf f a c) :
 (cond (zd5 ({ (ix (ix (zB f).Mons a zh).Guests c zl) with Prog:=(ix (ix d a zh).Guests c zl).Prog,Written:=(ix (ix d a zh).Guests c zl).Written,Live:=(ix (ix d a zh).Guests c zl).Live,Seen:=(ix (ix d a zh).Guests c zl).Seen}:Guest) (ix (ix (zB f).Mons a zh).Guests c zl).Ctl.Traps 7) (cond (zdB ({ (ix (ix (zB f).Mons a zh).Guests c zl) with Prog:=(ix (ix d a zh).Guests c zl).Prog,Written:=(ix (ix d a zh).Guests c zl).Written,Live:=(ix (ix d a zh).Guests c zl).Live,Seen:=(ix (ix d a zh).Guests c zl).Seen}:Guest) (ix (ix (zB f).Mons a zh).Guests c zl).Ctl.Traps 7) (cond (inb a (ln d)) (cond (inb c (ln (ix d a zh).Guests)) (share (up d a ({ (ix d a zh) with Guests:=(up (ix d a zh).Guests c (zck ({ (ix (ix (zB f).Mons a zh).Guests c zl) with Prog:=(ix (ix d a zh).Guests c zl).Prog,Written:=(ix (ix d a zh).Guests c zl).Written,Live:=(ix (ix d a zh).Guests c zl).Live,Seen:=(ix (ix d a zh).Guests c zl).Seen}:Guest) (ix (ix (zB f).Mons a zh).Guests c zl).Ctl.Traps 7))}:Mon)) (fun g=>(some [(.agg (zbi ({ (zB f) with Mons:=g}:Host))),(.one (.b true))]))) none) none) (cond (inb a (ln d)) (cond (inb c (ln (ix d a zh).Guests)) (share (up d a ({ (ix d a zh) with Guests:=(up (ix d a zh).Guests c (zck ({ (ix (ix (zB f).Mons a zh).Guests c zl) with Prog:=(ix (ix d a zh).Guests c zl).Prog,Written:=(ix (ix d a zh).Guests c zl).Written,Live:=(ix (ix d a zh).Guests c zl).Live,Seen:=(ix (ix d a zh).Guests c zl).Seen}:Guest) (ix (ix (zB f).Mons a zh).Guests c zl).Ctl.Traps 7))}:Mon)) (fun g=>(some [(.agg (zbi ({ (zB f) with Mons:=g}:Host))),(.one (.b true))]))) none) none)) none)=some (zeb (zek {f with Mons:=d} a c (zeO (gOf f a c) (gOf f a c).Ctl.Traps 7),true)):=by
 rw[e];exact must (zbn k) (br (fun j=>must (zy h) (must (zy i) rfl)) (fun j=>must (zy h) (must (zy i) rfl)))
theorem zHX (b:Host)(a c:Int)(j:zxN b a c=true):∃N,zwq N b a c=some [aH (zxL b a c),aB (zxM b a c)]:=by
 obtain⟨j,p⟩:=zmL j;have k:=(zS b).1 (zN.1 j);refine⟨0,?_⟩;show _=some (zeb (zbd b a c));unfold zwq oN nB;conv=>zeta
 refine must (zbn ((zS _).2 k)) (must (zbn ((zS _).2 k)) (brN (fun f=>?_) (fun f=>?_)));{rw [zh6 f];rfl};obtain⟨r,d,e⟩:=zc2 f;have l:=zkt k d e;have q:zC (gOf b a c)=7:=qD p;rw[ziO f,q];refine must (zy d) (must (zy e) (must (ziP rfl p) ?_));show _=some (zeb (ziu b a c (gOf b a c) 7,true));refine must (zy d) (must rfl (br (fun g=>must (zy d) (br (fun i=>must (zy d) (must (zy d) (shr ?_))) (fun i=>?_))) (fun g=>?_)));{rw [zod (z3n (h:=b) (m:=a) (x:=gOf b a c) (w:=7) rfl g i),zGz (w:=7) rfl];have n:=zpe d {ix b.Mons a mZ with Own:=zL .i64 (ix b.Mons a mZ).Own 1};refine zbfr l (zeD d) ?_ ?_;{show hasB c (ln (ix (up b.Mons a _) a mZ).Guests)=true;rw[n];exact e};{show ix (ix (up b.Mons a _) a mZ).Guests c gZ=_;rw[n];rfl}};{rw [zod (z3m (h:=b) (m:=a) (x:=gOf b a c) (w:=7) i),zGz (w:=7) rfl];exact zbb4 l d e};{rw [zod (z3l (h:=b) (m:=a) (x:=gOf b a c) (w:=7) g),zGz (w:=7) rfl];exact zbb4 l d e}
theorem zDD:vL 156 zH7:=kF3 z3T zu zb9 zgM (zx []) zHX
def zqV:List AV->Option (Bool×List AV)
 |[.agg [.s (.sl .int) b,.s .mon c,.s .entry d,.s .entry e],.one (.i .i64 f),.one (.i .i64 g)]=>some ((zeR (⟨b,c,d,e⟩:Host) f g),[aH (zGi (⟨b,c,d,e⟩:Host) f g),aB (zGj (⟨b,c,d,e⟩:Host) f g)])
 |_=>none
theorem zKL:vL 156 zqV:=by refine⟨zqk.1,fun w m l n g h=>?_⟩;unfold zqV at h;split at h;{rename_i a b d f i j;obtain⟨k,rfl⟩:=zd7 h;rcases zbaS (gOf (⟨a,b,d,f⟩:Host) i j) with e|e|e|e|e|e|e|e;{exact zqk.2 w _ l _ g (congrArg (fun c=>some (c,zeb (zbd (⟨a,b,d,f⟩:Host) i j))) (ziP k e))};{exact zDx.2 w _ l _ g (congrArg (fun c=>some (c,zeb (zbd (⟨a,b,d,f⟩:Host) i j))) (ziP k e))};{exact zDy.2 w _ l _ g (congrArg (fun c=>some (c,zeb (zbd (⟨a,b,d,f⟩:Host) i j))) (ziP k e))};{exact zDz.2 w _ l _ g (congrArg (fun c=>some (c,zeb (zbd (⟨a,b,d,f⟩:Host) i j))) (ziP k e))};{exact zDA.2 w _ l _ g (congrArg (fun c=>some (c,zeb (zbd (⟨a,b,d,f⟩:Host) i j))) (ziP k e))};{exact zDB.2 w _ l _ g (congrArg (fun c=>some (c,zeb (zbd (⟨a,b,d,f⟩:Host) i j))) (ziP k e))};{exact zDC.2 w _ l _ g (congrArg (fun c=>some (c,zeb (zbd (⟨a,b,d,f⟩:Host) i j))) (ziP k e))};{exact zDD.2 w _ l _ g (congrArg (fun c=>some (c,zeb (zbd (⟨a,b,d,f⟩:Host) i j))) (ziP k e))}};{cases h}
@[simp] abbrev zBm (h:Host)(m g b a:Int)(c:Bool):Bool:=pc (zct h)
@[simp] abbrev zBj (h:Host)(m g b a:Int)(c:Bool):Host:=(lookOf h (ztS h c) m g b a c).1
@[simp] abbrev zBk (h:Host)(m g b a:Int)(c:Bool):Int:=(lookOf h (ztS h c) m g b a c).2.1
@[simp] abbrev zBl (h:Host)(m g b a:Int)(c:Bool):Bool:=(lookOf h (ztS h c) m g b a c).2.2
def zFL:Run:=rF6 dH dI dI dI dI dB fun b c d e f g=>(zBm b c d e f g,[aH (zBj b c d e f g),aI (zBk b c d e f g),aB (zBl b c d e f g)])
abbrev zWi (b:lM)(c:lN)(d:lE)(e:lE)(a:Int)(g:Int)(f:Int):Mon :=
 (ix (zvo (⟨b,c,d,e⟩:Host) a g f).Mons a zh)
def zsR (N:Nat)(d:Int)(e:Int)(b:Int)(f:Int)(g:lM)(h:lN)(c:lE)(a:lE):OA:=
 let i:=(⟨e,d,b,f⟩:Entry); (oN (zo6 a i) (some [(aH (⟨g,h,c,(zo5 a i)⟩:Host)),(aI b),(aB true)]))
def zuL (N:Nat)(d:lM)(e:lN)(f:lE)(g:lE)(b:Int)(i:Int)(h:Int)(a:Int)(c:Int)(s:((Int×(Int×(Int×(Int×(lM×(lN×(lE×(lE×(lM×(lN×(lE×(lE×Unit)))))))))))))->OA)(k:Int)(l:lM)(m:lN)(n:lE)(p:lE):OA:=
 let x:=(⟨d,e,f,g⟩:Host);let r:=(zvo x b i h);let j:=(zWi d e f g b i h);let w:=(ix j.Tables a zeU);let u:=(ix j.Guests a zl).Live; (oN (zK3 x b i h) (oN (inb b (ln r.Mons)) (oN (inb a (ln j.Tables)) (oN (inb a (ln j.Guests)) (oN (zK2 w u j.Outer c) (oN (inb a (ln j.Tables)) (share (up r.Mons b ({j with Tables:=(up j.Tables a (zOk w u j.Outer c))}:Mon)) (fun q=>let v:=(ix q b zh).Tables;let t:=(ix v a zeU); (oN (inb a (ln v)) (oN (zzn t c) (s (c,(k,((zuw t c).Page,((zuw t c).Rights,(l,(m,(n,(p,(r.Memory,(q,(r.Buffer,(r.IoBuffer,())))))))))))))))))))))))
def zoC (N:Nat)(a:lN)(g:Int)(h:Int)(b:Int)(c:lM)(d:lE)(e:lE)(p:Int)(f:Int)(n:((Int×(Int×(Int×(Int×(lM×(lN×(lE×(lE×(lM×(lN×(lE×(lE×Unit)))))))))))))->OA)(i:Int)(j:lM)(k:lN)(l:lE)(m:lE):OA:=
 let r:=(zuL N c a d e g p f h b n i j k l m);let s:=(ix (ix a g zh).Tables h zeU);let q:=(zuw s b); (cond (nB (zGZ s b)) r (cond (ieq q.Page (-1)) r (oN (zdJ q.Rights f) (cond (nB (zea q.Rights f)) r (n (b,(i,(q.Page,(q.Rights,(j,(k,(l,(m,(c,(a,(d,(e,())))))))))))))))))
def zsS (N:Nat)(c:Int)(d:Int)(e:Int)(i:Int)(j:Int)(k:Int)(l:lM)(m:lN)(n:lE)(p:lE)(f:lM)(b:lN)(g:lE)(h:lE):OA:=
 let r:=(ix b c zh).Tables; (oN (inb c (ln b)) (oN (inb d (ln r)) (oN (zzn (ix r d zeU) e) (share (fun (a:(Int×(Int×(Int×(Int×(lM×(lN×(lE×(lE×(lM×(lN×(lE×(lE×Unit)))))))))))))=>(zsR N a.1 a.2.1 a.2.2.1 a.2.2.2.1 a.2.2.2.2.2.2.2.2.1 a.2.2.2.2.2.2.2.2.2.1 a.2.2.2.2.2.2.2.2.2.2.1 a.2.2.2.2.2.2.2.2.2.2.2.1)) (fun q=>(zoC N b c d e f g h j i q k l m n p))))))
def zsU (N:Nat)(d:Int)(e:Int)(b:Int)(f:Int)(g:lM)(h:lN)(a:lE)(c:lE):OA:=
 let i:=(⟨e,d,b,f⟩:Entry); (oN (zo6 a i) (some [(aH (⟨g,h,(zo5 a i),c⟩:Host)),(aI b),(aB true)]))
def zsV (N:Nat)(c:Int)(d:Int)(e:Int)(i:Int)(j:Int)(k:Int)(l:lM)(m:lN)(n:lE)(p:lE)(f:lM)(b:lN)(g:lE)(h:lE):OA:=
 let r:=(ix b c zh).Tables; (oN (inb c (ln b)) (oN (inb d (ln r)) (oN (zzn (ix r d zeU) e) (share (fun (a:(Int×(Int×(Int×(Int×(lM×(lN×(lE×(lE×(lM×(lN×(lE×(lE×Unit)))))))))))))=>(zsU N a.1 a.2.1 a.2.2.1 a.2.2.2.1 a.2.2.2.2.2.2.2.2.1 a.2.2.2.2.2.2.2.2.2.1 a.2.2.2.2.2.2.2.2.2.2.1 a.2.2.2.2.2.2.2.2.2.2.2.1)) (fun q=>(zoC N b c d e f g h j i q k l m n p))))))
def zsW (N:Nat)(f:Int)(g:Int)(c:Int)(e:Int)(r:Bool)(j:Int)(k:lM)(l:lN)(m:lE)(n:lE)(h:lM)(i:lN)(a:lE)(b:lE):OA:=
 let u:=(aH (⟨h,i,a,b⟩:Host));let p:=(zzq f g);let t:=(zkd a p c);let s:=(zkd b p c); (cond r (oN (zwR f g) (share (fun (d:(Int×(Int×(Int×(Int×(Int×(Int×(lM×(lN×(lE×(lE×(lM×(lN×(lE×(lE×Unit)))))))))))))))=>(zsS N d.1 d.2.1 d.2.2.1 d.2.2.2.1 d.2.2.2.2.1 d.2.2.2.2.2.1 d.2.2.2.2.2.2.1 d.2.2.2.2.2.2.2.1 d.2.2.2.2.2.2.2.2.1 d.2.2.2.2.2.2.2.2.2.1 d.2.2.2.2.2.2.2.2.2.2.1 d.2.2.2.2.2.2.2.2.2.2.2.1 d.2.2.2.2.2.2.2.2.2.2.2.2.1 d.2.2.2.2.2.2.2.2.2.2.2.2.2.1)) (fun q=>(oN (znv b p c) (cond (zke b p c) (oN (zdJ s.Rights e) (cond (zea s.Rights e) (some [u,(aI s.Host),(aB true)]) (q (f,(g,(c,(e,(j,(p,(k,(l,(m,(n,(h,(i,(a,(b,()))))))))))))))))) (q (f,(g,(c,(e,(j,(p,(k,(l,(m,(n,(h,(i,(a,(b,())))))))))))))))))))) (oN (zwR f g) (share (fun (d:(Int×(Int×(Int×(Int×(Int×(Int×(lM×(lN×(lE×(lE×(lM×(lN×(lE×(lE×Unit)))))))))))))))=>(zsV N d.1 d.2.1 d.2.2.1 d.2.2.2.1 d.2.2.2.2.1 d.2.2.2.2.2.1 d.2.2.2.2.2.2.1 d.2.2.2.2.2.2.2.1 d.2.2.2.2.2.2.2.2.1 d.2.2.2.2.2.2.2.2.2.1 d.2.2.2.2.2.2.2.2.2.2.1 d.2.2.2.2.2.2.2.2.2.2.2.1 d.2.2.2.2.2.2.2.2.2.2.2.2.1 d.2.2.2.2.2.2.2.2.2.2.2.2.2.1)) (fun q=>(oN (znv a p c) (cond (zke a p c) (oN (zdJ t.Rights e) (cond (zea t.Rights e) (some [u,(aI t.Host),(aB true)]) (q (f,(g,(c,(e,(j,(p,(k,(l,(m,(n,(h,(i,(a,(b,()))))))))))))))))) (q (f,(g,(c,(e,(j,(p,(k,(l,(m,(n,(h,(i,(a,(b,())))))))))))))))))))))
def zsX (N:Nat)(c:Int)(i:Int)(d:Int)(b:Int)(m:Bool)(n:lM)(p:lN)(j:lE)(k:lE)(e:lM)(a:lN)(f:lE)(g:lE)(l:lG):OA:=
 let s:=(ix a c zh);let r:=(ix l i zl).Live;let q:=(zh1 r d b); (oN (inb i (ln l)) (oN (zkf r d b) (cond (nB (zgP r d b)) (some [(aH (⟨e,a,f,g⟩:Host)),(aI (-1)),(aB false)]) (share (fun (h:(Int×(Int×(Int×(Int×(Bool×(Int×(lM×(lN×(lE×(lE×(lM×(lN×(lE×(lE×Unit)))))))))))))))=>(zsW N h.1 h.2.1 h.2.2.1 h.2.2.2.1 h.2.2.2.2.1 h.2.2.2.2.2.1 h.2.2.2.2.2.2.1 h.2.2.2.2.2.2.2.1 h.2.2.2.2.2.2.2.2.1 h.2.2.2.2.2.2.2.2.2.1 h.2.2.2.2.2.2.2.2.2.2.1 h.2.2.2.2.2.2.2.2.2.2.2.1 h.2.2.2.2.2.2.2.2.2.2.2.2.1 h.2.2.2.2.2.2.2.2.2.2.2.2.2.1)) (fun t=>(cond (ieq b 2) (oN (inb c (ln a)) (oN (inb q (ln s.Dirty)) (share (up a c ({s with Dirty:=(up s.Dirty q true)}:Mon)) (fun u=>t (c,(i,(d,(b,(m,(q,(n,(p,(j,(k,(e,(u,(f,(g,())))))))))))))))))) (t (c,(i,(d,(b,(m,(q,(n,(p,(j,(k,(e,(a,(f,(g,())))))))))))))))))))))
def zMn (N:Nat)(d:Host)(e f:Int)(h g:Int)(i:Bool):OA:=
 let c:=(zb3 d);let a:=(zcG d e); (oN (zo9 d) (oN (zsy d e) (share (fun (b:(Int×(Int×(Int×(Int×(Bool×(Int×(Int×(Int×(lM×(lN×(lE×(lE×(lM×(lN×(lE×(lE×(lS×(lM×(lB×(lG×((List Int)×(lK×Unit)))))))))))))))))))))))=>(zsX N b.1 b.2.1 b.2.2.1 b.2.2.2.1 b.2.2.2.2.1 b.2.2.2.2.2.2.2.2.1 b.2.2.2.2.2.2.2.2.2.1 b.2.2.2.2.2.2.2.2.2.2.1 b.2.2.2.2.2.2.2.2.2.2.2.1 b.2.2.2.2.2.2.2.2.2.2.2.2.1 b.2.2.2.2.2.2.2.2.2.2.2.2.2.1 b.2.2.2.2.2.2.2.2.2.2.2.2.2.2.1 b.2.2.2.2.2.2.2.2.2.2.2.2.2.2.2.1 b.2.2.2.2.2.2.2.2.2.2.2.2.2.2.2.2.2.2.2.1)) (fun j=>(oN (ztW d) (cond (nB (zvj d)) (some [(aH c),(aI (-1)),(aB false)]) (cond (nB (zlg d e)) (some [(aH c),(aI (-1)),(aB false)]) (oN (zcc f (ln a.Guests)) (cond (nB (zcU f (ln a.Guests))) (some [(aH c),(aI (-1)),(aB false)]) (cond (ine g 1) (cond (ine g 2) (some [(aH c),(aI (-1)),(aB false)]) (j (e,(f,(h,(g,(i,(a.Pending,(a.Traps,(a.Own,([],([],([],([],(c.Memory,(c.Mons,(c.Buffer,(c.IoBuffer,(a.Outer,(a.Out,(a.Dirty,(a.Guests,(a.Outs,(a.Tables,())))))))))))))))))))))))) (j (e,(f,(h,(g,(i,(a.Pending,(a.Traps,(a.Own,([],([],([],([],(c.Memory,(c.Mons,(c.Buffer,(c.IoBuffer,(a.Outer,(a.Out,(a.Dirty,(a.Guests,(a.Outs,(a.Tables,())))))))))))))))))))))))))))))))))
def zZ3:FuncId->Nat->Option Tmpl:=zx [(177,999999,{n:=0,tm:=[],lo:=[],ro:=[]}),(177,1007055,{n:=200,tm:=[(1,ti),(2,ti),(3,ti),(4,ti),(5,.b),(12,.lp 0 0),(15,.lp 1 0),(16,.lp 2 0)],lo:=[(0,[.sl 0 [],.sl 1 [],.sl 2 [],.sl 3 []]),(1,[.sl 4 [],.sl 5 [],.sl 6 [],.sl 7 []]),(2,[.sl 8 [],.sl 9 [],.sl 10 [],.sl 11 [],.sl 12 [],ti,ti,.sl 13 [],ti])],ro:=[(0,(.sl .int),true),(1,.mon,true),(2,.entry,true),(3,.entry,true),(4,(.sl .int),true),(5,.mon,true),(6,.entry,true),(7,.entry,true),(8,.slot,true),(9,(.sl .int),true),(10,.bool,true),(11,.guest,true),(12,.int,true),(13,.kept,true)]}),(177,1005039,{n:=200,tm:=[(1,ti),(2,ti),(3,ti),(4,ti),(5,.b),(12,.lp 0 0),(15,.lp 1 0),(18,ti)],lo:=[(0,[.sl 0 [],.sl 1 [],.sl 2 [],.sl 3 []]),(1,[.sl 4 [],.sl 5 [],.sl 6 [],.sl 7 []])],ro:=[(0,(.sl .int),true),(1,.mon,true),(2,.entry,true),(3,.entry,true),(4,(.sl .int),true),(5,.mon,true),(6,.entry,true),(7,.entry,true)]}),(177,1009019,{n:=200,tm:=[(1,ti),(2,ti),(3,ti),(4,ti),(12,.lp 0 0),(15,.lp 1 0),(18,ti),(20,.lp 1 3),(21,ti)],lo:=[(0,[.sl 0 [],.sl 1 [],.sl 2 [],.sl 3 []]),(1,[.sl 4 [],.sl 5 [],.sl 6 [],.sl 7 []])],ro:=[(0,(.sl .int),true),(1,.mon,true),(2,.entry,true),(3,.entry,true),(4,(.sl .int),true),(5,.mon,true),(6,.entry,true),(7,.entry,true)]}),(177,1011005,{n:=200,tm:=[(3,ti),(12,.lp 0 0),(15,.lp 1 0),(20,.lp 1 3),(21,ti),(24,.lp 2 0)],lo:=[(0,[.sl 0 [],.sl 1 [],.sl 2 [],.sl 3 []]),(1,[.sl 4 [],.sl 5 [],.sl 6 [],.sl 7 []]),(2,[ti,ti])],ro:=[(0,(.sl .int),true),(1,.mon,true),(2,.entry,true),(3,.entry,true),(4,(.sl .int),true),(5,.mon,true),(6,.entry,true),(7,.entry,true)]}),(177,1001009019,{n:=200,tm:=[(1,ti),(2,ti),(3,ti),(4,ti),(12,.lp 0 0),(15,.lp 1 0),(18,ti),(20,.lp 1 2),(21,ti)],lo:=[(0,[.sl 0 [],.sl 1 [],.sl 2 [],.sl 3 []]),(1,[.sl 4 [],.sl 5 [],.sl 6 [],.sl 7 []])],ro:=[(0,(.sl .int),true),(1,.mon,true),(2,.entry,true),(3,.entry,true),(4,(.sl .int),true),(5,.mon,true),(6,.entry,true),(7,.entry,true)]}),(177,1001011005,{n:=200,tm:=[(3,ti),(12,.lp 0 0),(15,.lp 1 0),(20,.lp 1 2),(21,ti),(24,.lp 2 0)],lo:=[(0,[.sl 0 [],.sl 1 [],.sl 2 [],.sl 3 []]),(1,[.sl 4 [],.sl 5 [],.sl 6 [],.sl 7 []]),(2,[ti,ti])],ro:=[(0,(.sl .int),true),(1,.mon,true),(2,.entry,true),(3,.entry,true),(4,(.sl .int),true),(5,.mon,true),(6,.entry,true),(7,.entry,true)]})]
theorem zbb7 {N:Nat}{r:Host}{m g a:Int}(b:r.IoBuffer.length<=1048576) :
 zsR N a (zdT m g) (zdO (zb4 r m g) a).Page (zdO (zb4 r m g) a).Rights r.Memory r.Mons r.Buffer r.IoBuffer=some (zjU (zeA r m g a true)):=by
 unfold zsR oN
 conv=>zeta
 exact must (zbn b) rfl
theorem zbb9 {N:Nat}{r:Host}{m g a:Int}(b:r.Buffer.length<=1048576) :
 zsU N a (zdT m g) (zdO (zb4 r m g) a).Page (zdO (zb4 r m g) a).Rights r.Memory r.Mons r.Buffer r.IoBuffer=some (zjU (zeA r m g a false)):=by
 unfold zsU oN
 conv=>zeta
 exact must (zbn b) rfl
theorem z9V {N:Nat}{r:Host}{m g a b q:Int}{R:OA}{r10}{u5 u6 u7 u8 u9}(A:LookAt r m g q b)(c:r10 (a,(u5,((zdO (zb4 (zcq (mended r m q b) m g a) m g) a).Page,((zdO (zb4 (zcq (mended r m q b) m g a) m g) a).Rights,(u6,(u7,(u8,(u9,((zcq (mended r m q b) m g a).Memory,((zcq (mended r m q b) m g a).Mons,((zcq (mended r m q b) m g a).Buffer,((zcq (mended r m q b) m g a).IoBuffer,()))))))))))))=R) :
 zuL N r.Memory r.Mons r.Buffer r.IoBuffer m q b g a r10 u5 u6 u7 u8 u9=R:=by
 have M:=zmf A.kp A.hm A.hg;have F:=zmf (A.fill a) A.hm A.hg;unfold zuL oN
 conv=>zeta
 exact must (zbn A.mend) (must (zy M.hm) (must (zy M.ht) (must (zy M.hg) (must (zbn M.hk) (must (zy M.ht) (shr (must (zy F.ht) (must rfl c))))))))
theorem lk_3 {N:Nat}{r:Host}{m g a b q:Int}{c:Bool}{r10}{u5 u6 u7 u8 u9}(A:LookAt r m g q b)(h:r10 (a,(u5,((zdO (zb4 (zcq (mended r m q b) m g a) m g) a).Page,((zdO (zb4 (zcq (mended r m q b) m g a) m g) a).Rights,(u6,(u7,(u8,(u9,((zcq (mended r m q b) m g a).Memory,((zcq (mended r m q b) m g a).Mons,((zcq (mended r m q b) m g a).Buffer,((zcq (mended r m q b) m g a).IoBuffer,()))))))))))))=some (zjU (zeA (zcq (mended r m q b) m g a) m g a c)))(i:r10 (a,(u5,((zdO (zb4 r m g) a).Page,((zdO (zb4 r m g) a).Rights,(u6,(u7,(u8,(u9,(r.Memory,(r.Mons,(r.Buffer,(r.IoBuffer,()))))))))))))=some (zjU (zeA r m g a c))) :
 zoC N r.Mons m g a r.Memory r.Buffer r.IoBuffer q b r10 u5 u6 u7 u8 u9=some (zjU (cond (zeq r m g a b) (zeA (zcq (mended r m q b) m g a) m g a c) (zeA r m g a c))):=by
 unfold zoC oN nB
 conv=>zeta
 refine brN (fun d=>?_) (fun d=>br (fun e=>?_) (fun e=>must rfl (brN (fun f=>?_) (fun f=>?_))))
 .rw [zuA (z3e d)];exact z9V A h
 .rw [zuA (z3f e)];exact z9V A h
 .rw [zuA (z3g f)];exact z9V A h
 .rw [z2F (z3h d e f)];exact i
theorem zbb8 {N:Nat}{r:Host}{m g a b q:Int}{u6 u7 u8 u9}(A:LookAt r m g q b) :
 zsS N m g a b q (zdT m g) u6 u7 u8 u9 r.Memory r.Mons r.Buffer r.IoBuffer=some (zjU (cond (zeq r m g a b) (zeA (zcq (mended r m q b) m g a) m g a true) (zeA r m g a true))):=by
 have M:=zmf ⟨A.fit.1,rfl⟩ A.hm A.hg;have F:=zmf (A.fill a) A.hm A.hg;unfold zsS oN
 conv=>zeta
 exact must (zy M.hm) (must (zy M.ht) (must rfl (shr (lk_3 A (zbb7 (r:=zcq (mended r m q b) m g a) (m:=m) (g:=g) F.hi) (zbb7 (r:=r) (m:=m) (g:=g) M.hi)))))
theorem zbca {N:Nat}{r:Host}{m g a b q:Int}{u6 u7 u8 u9}(A:LookAt r m g q b) :
 zsV N m g a b q (zdT m g) u6 u7 u8 u9 r.Memory r.Mons r.Buffer r.IoBuffer=some (zjU (cond (zeq r m g a b) (zeA (zcq (mended r m q b) m g a) m g a false) (zeA r m g a false))):=by
 have M:=zmf ⟨A.fit.1,rfl⟩ A.hm A.hg;have F:=zmf (A.fill a) A.hm A.hg;unfold zsV oN
 conv=>zeta
 exact must (zy M.hm) (must (zy M.ht) (must rfl (shr (lk_3 A (zbb9 (r:=zcq (mended r m q b) m g a) (m:=m) (g:=g) F.hb) (zbb9 (r:=r) (m:=m) (g:=g) M.hb)))))
theorem zbcb {N:Nat}{r:Host}{m g b a q:Int}{e:Bool}{u6 u7 u8 u9}(A:LookAt r m g q a) :
 zsW N m g b a e q u6 u7 u8 u9 r.Memory r.Mons r.Buffer r.IoBuffer=some (zjU (zgf r (ztS r e) m g b a q e)):=by
 unfold zsW oN
 conv=>zeta
 cases e
 .show _=some (zjU (zgf r r.Buffer m g b a q false))
  refine zdh rfl (must rfl (shr (must rfl (br (fun c=>must rfl (br (fun d=>?_) (fun d=>?_))) (fun c=>?_)))))
  .rw [zG2 (zok c d)];rfl
  .rw [zoq (zok c d)];exact zbca A
  .rw [zoq (zGW c)];exact zbca A
 .show _=some (zjU (zgf r r.IoBuffer m g b a q true))
  refine must rfl (must rfl (shr (must rfl (br (fun c=>must rfl (br (fun d=>?_) (fun d=>?_))) (fun c=>?_)))))
  .rw [zG2 (zok c d)];rfl
  .rw [zoq (zok c d)];exact zbb8 A
  .rw [zoq (zGW c)];exact zbb8 A
theorem zbfl (r:Host)(m q:Int)(a:Bool):ztS (zbE r m q) a=ztS r a:=by cases a<;>rfl
theorem zbcc {N:Nat}{r:Host}{m g b a:Int}{c:Bool}{z1 z2 z3 z4}(k:SmH r)(hg:zbM r m g=true)(h:zfU a=true) :
 zsX N m g b a c z1 z2 z3 z4 r.Memory r.Mons r.Buffer r.IoBuffer (ix r.Mons m mZ).Guests=some (zjU (lookOf r (ztS r c) m g b a c)):=by
 obtain⟨l,f,i⟩:=zc2 hg;unfold zsX oN nB
 conv=>zeta
 refine must (zy i) (must rfl (brN (fun e=>?_) (fun e=>?_)))
 .have:zbW r m g b a=false:=by
   unfold zbW;rw[hg,h,show zd2 (zcn r m g) b a=false from e];rfl
  rw[zho this];rfl
 .have hl:zbW r m g b a=true:=by
   unfold zbW;rw[hg,h,show zd2 (zcn r m g) b a=true from e];rfl
  obtain⟨A,B⟩:=zE8 k hl;rw[zLp hl];have j:hasB (zcb (zcn r m g) b a) (ln (ix r.Mons m mZ).Dirty)=true:=zdC (zcy A.fit.1 f).2.2.2.1 A.hq;refine shr (br (fun d=>?_) (fun d=>?_))
  .rw [d]
   show _=some (zjU (zgf (zbE r m (zcb (zcn r m g) b a)) (ztS r c) m g b a (zcb (zcn r m g) b a) c))
   rw[<- zbfl r m (zcb (zcn r m g) b a) c];exact must (zy f) (must (zy j) (shr (zbcb (r:=zbE r m (zcb (zcn r m g) b a)) B)))
  .rw [d];exact zbcb A
theorem zX5 (a:Host)(b d:Int)(e c:Int)(f:Bool)(s:zBm a b d e c f=true):∃N,zMn N a b d e c f=some [aH (zBj a b d e c f),aI (zBk a b d e c f),aB (zBl a b d e c f)]:=by
 have i:=(zS a).1 (zN.1 s);refine⟨0,?_⟩;show _=some (zjU (lookOf a (ztS a f) b d e c f));unfold zMn oN nB;conv=>zeta
 refine must (zbn ((zS _).2 i)) (must (zbn ((zS _).2 i)) (shr (must rfl (brN (fun j=>?_) (fun j=>?_)))));{rw [zho (zor (zQb j))];rfl};refine brN (fun g=>?_) (fun g=>?_);{rw [zho (zor (zQc g))];rfl};have q:zcG a b=ix a.Mons b mZ:=(by unfold zcG;rw[show hasB b (ln a.Mons)=true from g];rfl);rw[q];refine must rfl (brN (fun k=>?_) (fun k=>?_));{rw [zho (zor (zQd k))];rfl};have hg:=zQe j g k;have m:∀{n:Int},zfU n=false->zbW a b d e n=false:=fun {n} h=>(by unfold zbW;rw[hg,h];rfl);rw[zmd,zmd];cases l:ieq c 1;{cases p:ieq c 2;{have:zfU c=false:=(by unfold zfU;rw[l,p];rfl);rw[zho (m this)];rfl};{exact zbcc (r:=a) i hg (by unfold zfU;rw[l,p];rfl)}};{exact zbcc (r:=a) i hg (by unfold zfU;rw[l];rfl)}
theorem zQF:vL 177 zFL:=kF6 zhz zu zb9 zgM zZ3 zX5
def zbbT:zbb:=[(177,zFL),(156,zqV)]++zns
theorem zWZ:zM zbbT:=zi zQF (zi zKL zhz)
@[simp] abbrev zBb (h:Host)(m g b a:Int):Bool:=pc (zct h)
@[simp] abbrev ztX (h:Host)(m g page need:Int):Host:=(lookOf h h.Buffer m g page need false).1
@[simp] abbrev ztY (h:Host)(m g page need:Int):Int:=(lookOf h h.Buffer m g page need false).2.1
@[simp] abbrev zBa (h:Host)(m g b a:Int):Bool:=(lookOf h h.Buffer m g b a false).2.2
def zFv:Run:=rF5 dH dI dI dI dI fun b c d e f=>(zBb b c d e f,[aH (ztX b c d e f),aI (ztY b c d e f),aB (zBa b c d e f)])
def zL8 (N:Nat)(a:Host)(b c:Int)(d e:Int):OA:=
 (oN (zBm a b c d e false) (some [(aH (zBj a b c d e false)),(aI (zBk a b c d e false)),(aB (zBl a b c d e false))]))
theorem zXP (a:Host)(b c:Int)(d e:Int)(f:zBb a b c d e=true):∃N,zL8 N a b c d e=some [aH (ztX a b c d e),aI (ztY a b c d e),aB (zBa a b c d e)]:=by refine⟨0,?_⟩;unfold zL8 oN;exact must f rfl
theorem zQp:vL 101 zFv:=kF5 zWZ zu zb9 zgM (zx []) zXP
def zbbU:zbb:=[(101,zFv)]++zbbT
theorem z9w:zM zbbU:=zi zQp zWZ
def brought (n a b:Int):Int:=bif ilt n a then a else (cond (ilt b a) a (zRi n b))
@[simp] abbrev zrM (_ _ _:Int):Bool:=true
@[simp] abbrev zsG (n a b:Int):Int:=brought n a b
def ztl:Run:=rF3 dI dI dI fun b c d=>(zrM b c d,[aI (zsG b c d)])
def zIr (N:Nat)(b a c:Int):OA:=
 (cond (ilt c a) (some [(aI a)]) (cond (ilt b a) (some [(aI a)]) (cond (igt b c) (some [(aI c)]) (some [(aI b)]))))
theorem zU6 (a b c:Int)(g:zrM a b c=true):∃N,zIr N a b c=some [aI (zsG a b c)]:=by refine⟨0,?_⟩;unfold zIr;unfold zsG brought zRi;cases d:ilt c b<;>cases e:ilt a b<;>cases f:igt a c<;>simp [igt] at * <;> omega
theorem zwO:vL 143 ztl:=kF3 zqv zu zA zo (zx []) zU6
structure RI (a:List Bare) (i:Nat) (l:List Bare):Prop where
 len:l.length=a.length
 sm:z3t l
 eq:∀k,i<=k->l[k]?=a[k]?
theorem RI.up {a l:List Bare}{i:Nat}(h:RI a i l)(x:Bare)(b:SmB x):RI a (i+1) (up l (i:Int) x):=
 ⟨by rw[zgX];exact h.len,zbd6 h.sm b,fun k c=>by rw[zbeK (by omega)];exact h.eq k (by omega)⟩
structure RJ (l:List Bare) (i:Nat) (l':List Bare):Prop where
 len:l'.length=l.length
 sm:SmB (ix l' (i:Int) z0p)
 up:∀x,E.up l' (i:Int) x=E.up l (i:Int) x
theorem RJ.next {l a:List Bare}{i:Nat}(h:RJ l i a)(b:i<l.length)(x:Bare)(c:SmB x):RJ l i (E.up a (i:Int) x):=
 ⟨by rw[zgX];exact h.len,by rw[zd3 (by rw[h.len];exact b)];exact c,fun y=>by rw[zxW];exact h.up y⟩
def z6I:zbb:=[(112,zqR)]++zbbU
theorem zTv:zM z6I:=zi zu7 z9w
@[simp] abbrev zvl (h:Host)(m g:Int):Bool:=pc (zct h)
@[simp] abbrev zoZ (h:Host)(m g:Int):Host:=(zbd h m g).1
@[simp] abbrev zvk (h:Host)(m g:Int):Bool:=(zbd h m g).2
def zqS:Run:=rF3 dH dI dI fun b c d=>(zvl b c d,[aH (zoZ b c d),aB (zvk b c d)])
abbrev zhk (a:Host)(b c:Int):Int :=
 (zld (ix (zcG a b).Guests c zl))
abbrev zdc (a:Host)(b c:Int):Int :=
 (zhF (ix (zcG a b).Guests c zl))
abbrev zyU (a:Host)(b c:Int):Host :=
 (ztX a b c (zed (zhk a b c)) (ze1 (ieq (zdc a b c) 4)))
abbrev zhj (a:Host)(b c:Int):Guest :=
 (ix (ix (zb3 a).Mons b zh).Guests c zl)
abbrev zlR (c:lN)(a b:Int):Guest :=
 (ix (ix c a zh).Guests b zl)
abbrev zyV (a:Host)(b c:Int):Int :=
 (ztY a b c (zed (zhk a b c)) (ze1 (ieq (zdc a b c) 4)))
def zlS (N:Nat)(f:Host)(c d:Int):OA:=
 let j:=(zyV f c d);let h:=(ieq (zdc f c d) 4);let a:=(zhk f c d);let b:=(zyU f c d);let k:=(inb c (ln b.Mons));let e:=(ix (zcG f c).Guests d zl);let g:=(ix b.Mons c zh);let l:=(inb d (ln g.Guests)); (oN (zgr a) (oN (zo2 h) (oN (zBb f c d (zed a) (ze1 h)) (cond (nB (zBa f c d (zed a) (ze1 h))) (oN (zgr a) (oN (zkc (zed a) h) (oN (zgd e (ziA (zed a) h)) (oN k (oN l (share (up b.Mons c ({g with Guests:=(up g.Guests d (zgt e (ziA (zed a) h)))}:Mon)) (fun i=>(some [(aH ({b with Mons:=i}:Host)),(aB true)])))))))) (cond h (oN (zgq a) (oN (zlj b.Memory j (zgc a) e.A) (oN (zo7 e) (oN k (oN l (share (up b.Mons c ({g with Guests:=(up g.Guests d (zlh e))}:Mon)) (fun i=>(some [(aH ({b with Memory:=(zmb b.Memory j (zgc a) e.A),Mons:=i}:Host)),(aB true)])))))))) (oN (zgq a) (oN (zoY b.Memory j (zgc a)) (oN (zo1 e (znQ b.Memory j (zgc a))) (oN k (oN l (share (up b.Mons c ({g with Guests:=(up g.Guests d (zlf e (znQ b.Memory j (zgc a))))}:Mon)) (fun i=>(some [(aH ({b with Mons:=i}:Host)),(aB true)])))))))))))))
def zlT (N:Nat)(f:Host)(a b:Int)(d:lN):OA:=
 let c:=(zlR d a b);let e:=(ix d a zh);let g:=({ (zhj f a b) with Prog:=c.Prog,Written:=c.Written,Live:=c.Live,Seen:=c.Seen}:Guest); (oN (zeK g) (oN (inb b (ln e.Guests)) (share (up d a ({e with Guests:=(up e.Guests b (zew g))}:Mon)) (fun h=>(some [(aH ({ (zb3 f) with Mons:=h}:Host)),(aB true)])))))
def zlU (N:Nat)(e:Host)(a d:Int):OA:=
 let g:=(zb3 e).Mons;let c:=(zhj e a d);let b:=(ix g a zh);let h:=(ap b.Outs [(zgH c.Prog c.Pc).X]); (cond (ieq (zdc e a d) 7) (oN (znR c) (oN (inb d (ln b.Guests)) (share (up g a ({b with Guests:=(up b.Guests d (zmX c))}:Mon)) (fun f=>(some [(aH ({ (zb3 e) with Mons:=f}:Host)),(aB true)]))))) (cond (ilt (ln b.Outs) 40) (oN (zgs c.Prog c.Pc) (oN (few (ln h)) (oN (cond (ieq a a) true false) (share (up g a ({b with Outs:=h}:Mon)) (fun f=>(zlT N e a d f)))))) (oN (zeK c) (oN (inb d (ln b.Guests)) (share (up g a ({b with Guests:=(up b.Guests d (zew c))}:Mon)) (fun f=>(some [(aH ({ (zb3 e) with Mons:=f}:Host)),(aB true)])))))))
def zlV (N:Nat)(a:Int)(g:Host)(b:Int):OA:=
 let f:=(zb3 g);let j:=(zdc g a b);let d:=(zhj g a b);let c:=(ix f.Mons a zh);let l:=(zon c.Traps d.Ctl.Traps (zhH j)); (oN (inb a (ln f.Mons)) (oN (inb b (ln c.Guests)) (oN (zpb j) (oN (zyk c.Traps d.Ctl.Traps (zhH j)) (cond (ieq l 1) (oN (zm1 d j) (oN (inb b (ln c.Guests)) (share (up f.Mons a ({c with Guests:=(up c.Guests b (zjr d j))}:Mon)) (fun e=>(some [(aH ({f with Mons:=e}:Host)),(aB true)]))))) (cond (ieq l 2) (cond (ilt c.Own 1000000000) (share (up f.Mons a ({c with Own:=(zL .i64 c.Own 1)}:Mon)) (fun e=>let i:=(ix e a zh);let h:=(zlR e a b);let k:=(ap i.Outs [(zgH h.Prog d.Pc).X]);let q:=({d with Prog:=h.Prog,Written:=h.Written,Live:=h.Live,Seen:=h.Seen}:Guest); (cond (ieq j 7) (oN (znR q) (oN (inb b (ln i.Guests)) (share (up e a ({i with Guests:=(up i.Guests b (zmX q))}:Mon)) (fun m=>(some [(aH ({f with Mons:=m}:Host)),(aB true)]))))) (cond (ilt (ln i.Outs) 40) (oN (zgs h.Prog d.Pc) (oN (few (ln k)) (oN (cond (ieq a a) true false) (share (up e a ({i with Outs:=k}:Mon)) (fun m=>let p:=(ix m a zh);let n:=(ix p.Guests b zl);let r:=({d with Prog:=n.Prog,Written:=n.Written,Live:=n.Live,Seen:=n.Seen}:Guest); (oN (zeK r) (oN (inb b (ln p.Guests)) (share (up m a ({p with Guests:=(up p.Guests b (zew r))}:Mon)) (fun s=>(some [(aH ({f with Mons:=s}:Host)),(aB true)])))))))))) (zlT N g a b e))))) (zlU N g a b)) (zlU N g a b)))))))
def ziR (N:Nat)(a:Host)(b c:Int):OA:=
 (oN (zBg a b) (oN (zvf (zqI a b) c) (oN (inb b (ln (zb3 a).Mons)) (share (up (zb3 a).Mons b ({ (ix (zb3 a).Mons b zh) with Guests:=(ziY (zqI a b) c).Guests}:Mon)) (fun d=>(some [(aH ({ (zb3 a) with Mons:=d}:Host)),(aB true)]))))))
def zfV (N:Nat)(a:Host)(b c:Int):OA:=
 let d:=(zdc a b c); (cond (ieq d 5) (cond (ieq d 5) (zlV N b a c) (ziR N a b c)) (cond (ieq d 7) (zlV N b a c) (ziR N a b c)))
def zDN (N:Nat)(a:Host)(c b:Int):OA:=
 let f:=(aH (zb3 a));let e:=(zdc a c b);let d:=(zcG a c).Guests;let g:=(ix d b zl); (oN (zo9 a) (oN (zsy a c) (oN (ztW a) (cond (nB (zvj a)) (some [f,(aB false)]) (cond (nB (zlg a c)) (some [f,(aB false)]) (oN (zcc b (ln d)) (cond (nB (zcU b (ln d))) (some [f,(aB false)]) (oN (inb b (ln d)) (oN (zjM g) (cond (ieq e 0) (some [f,(aB false)]) (oN (inb b (ln d)) (oN (zjM g) (oN (zry g) (cond (ieq e 3) (cond (ieq e 3) (zlS N a c b) (zfV N a c b)) (cond (ieq e 4) (zlS N a c b) (zfV N a c b))))))))))))))))
theorem zYL {h:Host}{m:Int}(a:hasB m (ln h.Mons)=true):zcG h m=ix h.Mons m mZ:=by unfold zcG;rw[a];rfl
theorem is_1 {N:Nat}{a:Host}{c d:Int}(l:SmH a)(p:zbM a c d=true) :
 zlS N a c d=some (zeb (zeH (zdZ a c d (gOf a c d) (ieq (zC (gOf a c d)) 4)) c d (gOf a c d) (ieq (zC (gOf a c d)) 4),true)):=by
 obtain⟨s,i,n⟩:=zc2 p;have m:=zkt l i n;have k:=zuz (b:=a.Buffer) (page:=zbe (address (gOf a c d))) (need:=zbZ (ieq (zC (gOf a c d)) 4)) (io:=false) l p;have F:=zmf k i n;have g:=zYL i;have e:zdc a c d=zC (gOf a c d):=by show zhF (ix (zcG a c).Guests d gZ)=_;rw[g];rfl
 have f:zhk a c d=address (gOf a c d):=by show zld (ix (zcG a c).Guests d gZ)=_;rw[g];rfl
 have q:zyU a c d=(zdZ a c d (gOf a c d) (ieq (zC (gOf a c d)) 4)).1:=by show ztX a c d (zed (zhk a c d)) (ze1 (ieq (zdc a c d) 4))=_;rw[e,f];rfl
 have r:zyV a c d=(zdZ a c d (gOf a c d) (ieq (zC (gOf a c d)) 4)).2.1:=by show ztY a c d (zed (zhk a c d)) (ze1 (ieq (zdc a c d) 4))=_;rw[e,f];rfl
 unfold zlS oN nB
 conv=>zeta
 rw[q,e,f,r,g];unfold zeH;refine must rfl (must rfl (must (zbn ((zS _).2 l)) (brN (fun h=>?_) (fun h=>?_))))
 .rw [show (zdZ a c d (gOf a c d) (ieq (zC (gOf a c d)) 4)).2.2=false from h]
  exact must rfl (must rfl (must (zbn m) (must (zy F.hm) (must (zy F.hg) rfl))))
 .rw [show (zdZ a c d (gOf a c d) (ieq (zC (gOf a c d)) 4)).2.2=true from h]
  refine br (fun j=>?_) (fun j=>?_)
  .have kk:=k.shape.1.1;rw[j] at F kk ⊢;exact must rfl (must (zbn kk) (must (zbn m) (must (zy F.hm) (must (zy F.hg) rfl))))
  .rw [j] at F ⊢;exact must rfl (must rfl (must (zbn m) (must (zy F.hm) (must (zy F.hg) rfl))))
theorem is_2 {N:Nat}{c:Host}{d:List Mon}{a b:Int}(g:SmG (gOf c a b))(f:hasB b (ln (ix d a mZ).Guests)=true)(e:zlR d a b=zhj c a b) :
 zlT N c a b d=some (zeb (zek {c with Mons:=d} a b (zbG (gOf c a b)),true)):=by
 unfold zlT oN
 conv=>zeta
 rw[e];exact must (zbn g) (must (zy f) rfl)
def leftG (x:Guest)(w:Int):Guest:=bif ieq w 7 then held x else zbG x
def zBu (h:Host)(m:Int)(x:Guest)(w:Int):Host:=bif ieq w 7 then h else zhI h m (zbC x.Prog x.Pc).X
theorem zzv {h:Host}{m:Int}{x:Guest}{w:Int}(a:ieq w 7=true):leftG x w=held x/\zBu h m x w=h:=by unfold leftG zBu;rw[a];exact⟨rfl,rfl⟩
theorem zm4 {h:Host}{m:Int}{x:Guest}{w:Int}(a:ieq w 7=false):leftG x w=zbG x/\zBu h m x w=zhI h m (zbC x.Prog x.Pc).X:=by unfold leftG zBu;rw[a];exact⟨rfl,rfl⟩
theorem z2M {h:Host}{m n:Int}(a:ilt (ln (ix h.Mons m mZ).Outs) 40=true):zhI h m n={h with Mons:=up h.Mons m {ix h.Mons m mZ with Outs:=ap (ix h.Mons m mZ).Outs [n]}}:=by unfold zhI;rw[a];rfl
theorem z2L {h:Host}{m n:Int}(a:ilt (ln (ix h.Mons m mZ).Outs) 40=false):zhI h m n=h:=by unfold zhI;rw[a];rfl
theorem is_3 {N:Nat}{b:Host}{a c:Int}(k:SmH b)(g:hasB a (ln b.Mons)=true)(e:hasB c (ln (ix b.Mons a mZ).Guests)=true)(j:zdc b a c=zC (gOf b a c)) :
 zlU N b a c=some (zeb (zek (zBu b a (gOf b a c) (zC (gOf b a c))) a c (leftG (gOf b a c) (zC (gOf b a c))),true)):=by
 have i:=zkt k g e;unfold zlU oN
 conv=>zeta
 rw[j];refine br (fun d=>?_) (fun d=>br (fun f=>?_) (fun f=>?_))
 .rw [(zzv (x:=gOf b a c) (h:=b) (m:=a) d).1,(zzv (x:=gOf b a c) d).2];exact must (zbn i) (must (zy e) rfl)
 .rw [(zm4 (x:=gOf b a c) (h:=b) (m:=a) d).1,(zm4 (x:=gOf b a c) d).2,z2M f];refine must rfl (must (zV5 f) (must (zOl _) (shr (is_2 i ?_ ?_))))
  .rw [zpe g];exact e
  .show ix (ix (up b.Mons a _) a mZ).Guests c gZ=_
   rw[zpe g]
 .rw [(zm4 (x:=gOf b a c) (h:=b) (m:=a) d).1,(zm4 (x:=gOf b a c) d).2,z2L f];exact must (zbn i) (must (zy e) rfl)
theorem zbfd {h:Host}{m g:Int}{x:Guest}{w:Int}(d:ieq w 6=false)(c:ieq w 5=false->ieq w 6=false->ieq w 7=true)(e:zde x.Ctl.Traps (zff w)=false):ziu h m g x w=zek (zBu (zd0 h m x w) m x w) m g (leftG x w):=by unfold ziu;cases b:ieq w 7;{have a:ieq w 5=true:=(by cases a:ieq w 5;{have:=c a d;rw[b] at this;cases this};{rfl});obtain⟨f,i⟩:=tr3 x x.Ctl.Traps w d b e a;rw[(zm4 (x:=x) (h:=zd0 h m x w) (m:=m) b).1,(zm4 (x:=x) b).2,f];unfold zfL;rw[i,a];rfl};{have a:ieq w 5=false:=(by have:w=7:=qD b;rw[this];rfl);rw[(zzv (x:=x) (h:=zd0 h m x w) (m:=m) b).1,(zzv (x:=x) b).2,tr4 x x.Ctl.Traps w d c e a,zGz a]}
theorem is_p {f:Host}{d:List Mon}{a c:Int}(h:SmG (gOf f a c))(g:hasB c (ln (ix d a mZ).Guests)=true)(e:(ix (ix d a zh).Guests c zl)=gOf f a c) :
 (cond (zeK ({ (ix (ix (zb3 f).Mons a zh).Guests c zl) with Prog:=(ix (ix d a zh).Guests c zl).Prog,Written:=(ix (ix d a zh).Guests c zl).Written,Live:=(ix (ix d a zh).Guests c zl).Live,Seen:=(ix (ix d a zh).Guests c zl).Seen}:Guest)) (cond (inb c (ln (ix d a zh).Guests)) (share (up d a ({ (ix d a zh) with Guests:=(up (ix d a zh).Guests c (zew ({ (ix (ix (zb3 f).Mons a zh).Guests c zl) with Prog:=(ix (ix d a zh).Guests c zl).Prog,Written:=(ix (ix d a zh).Guests c zl).Written,Live:=(ix (ix d a zh).Guests c zl).Live,Seen:=(ix (ix d a zh).Guests c zl).Seen}:Guest)))}:Mon)) (fun i=>(some [(.agg (zbi ({ (zb3 f) with Mons:=i}:Host))),(.one (.b true))]))) none) none)=some (zeb (zek {f with Mons:=d} a c (zbG (gOf f a c)),true)):=by
 rw[e];exact must (zbn h) (must (zy g) rfl)
theorem is_o {f:Host}{d:List Mon}{a c:Int}(l:SmG (gOf f a c))(n:hasB a (ln d)=true)(k:hasB c (ln (ix d a mZ).Guests)=true)(e:(ix (ix d a zh).Guests c zl)=gOf f a c) :
 (cond (ieq (zC (gOf f a c)) 7) (cond (znR ({ (ix (ix (zb3 f).Mons a zh).Guests c zl) with Prog:=(ix (ix d a zh).Guests c zl).Prog,Written:=(ix (ix d a zh).Guests c zl).Written,Live:=(ix (ix d a zh).Guests c zl).Live,Seen:=(ix (ix d a zh).Guests c zl).Seen}:Guest)) (cond (inb c (ln (ix d a zh).Guests)) (share (up d a ({ (ix d a zh) with Guests:=(up (ix d a zh).Guests c (zmX ({ (ix (ix (zb3 f).Mons a zh).Guests c zl) with Prog:=(ix (ix d a zh).Guests c zl).Prog,Written:=(ix (ix d a zh).Guests c zl).Written,Live:=(ix (ix d a zh).Guests c zl).Live,Seen:=(ix (ix d a zh).Guests c zl).Seen}:Guest)))}:Mon)) (fun g=>(some [(.agg (zbi ({ (zb3 f) with Mons:=g}:Host))),(.one (.b true))]))) none) none) (cond (ilt (ln (ix d a zh).Outs) 40) (cond (zgs (ix (ix d a zh).Guests c zl).Prog (ix (ix (zb3 f).Mons a zh).Guests c zl).Pc) (cond (few (ln (ap (ix d a zh).Outs [(zgH (ix (ix d a zh).Guests c zl).Prog (ix (ix (zb3 f).Mons a zh).Guests c zl).Pc).X]))) (cond (cond (ieq a a) true false) (share (up d a ({ (ix d a zh) with Outs:=(ap (ix d a zh).Outs [(zgH (ix (ix d a zh).Guests c zl).Prog (ix (ix (zb3 f).Mons a zh).Guests c zl).Pc).X])}:Mon)) (fun g=>(cond (zeK ({ (ix (ix (zb3 f).Mons a zh).Guests c zl) with Prog:=(ix (ix g a zh).Guests c zl).Prog,Written:=(ix (ix g a zh).Guests c zl).Written,Live:=(ix (ix g a zh).Guests c zl).Live,Seen:=(ix (ix g a zh).Guests c zl).Seen}:Guest)) (cond (inb c (ln (ix g a zh).Guests)) (share (up g a ({ (ix g a zh) with Guests:=(up (ix g a zh).Guests c (zew ({ (ix (ix (zb3 f).Mons a zh).Guests c zl) with Prog:=(ix (ix g a zh).Guests c zl).Prog,Written:=(ix (ix g a zh).Guests c zl).Written,Live:=(ix (ix g a zh).Guests c zl).Live,Seen:=(ix (ix g a zh).Guests c zl).Seen}:Guest)))}:Mon)) (fun p=>(some [(.agg (zbi ({ (zb3 f) with Mons:=p}:Host))),(.one (.b true))]))) none) none))) none) none) none) (cond (zeK ({ (ix (ix (zb3 f).Mons a zh).Guests c zl) with Prog:=(ix (ix d a zh).Guests c zl).Prog,Written:=(ix (ix d a zh).Guests c zl).Written,Live:=(ix (ix d a zh).Guests c zl).Live,Seen:=(ix (ix d a zh).Guests c zl).Seen}:Guest)) (cond (inb c (ln (ix d a zh).Guests)) (share (up d a ({ (ix d a zh) with Guests:=(up (ix d a zh).Guests c (zew ({ (ix (ix (zb3 f).Mons a zh).Guests c zl) with Prog:=(ix (ix d a zh).Guests c zl).Prog,Written:=(ix (ix d a zh).Guests c zl).Written,Live:=(ix (ix d a zh).Guests c zl).Live,Seen:=(ix (ix d a zh).Guests c zl).Seen}:Guest)))}:Mon)) (fun g=>(some [(.agg (zbi ({ (zb3 f) with Mons:=g}:Host))),(.one (.b true))]))) none) none)))=some (zeb (zek (zBu {f with Mons:=d} a (gOf f a c) (zC (gOf f a c))) a c (leftG (gOf f a c) (zC (gOf f a c))),true)):=by
 rw[e];refine br (fun i=>?_) (fun i=>br (fun j=>?_) (fun j=>?_))
 .rw [(zzv (x:=gOf f a c) (h:={f with Mons:=d}) (m:=a) i).1,(zzv (x:=gOf f a c) i).2];exact must (zbn l) (must (zy k) rfl)
 .rw [(zm4 (x:=gOf f a c) (h:={f with Mons:=d}) (m:=a) i).1,(zm4 (x:=gOf f a c) i).2,z2M (h:={f with Mons:=d}) j];refine must rfl (must (zV5 j) (must (zOl _) (shr (is_p l ?_ ?_))))
  .rw [zpe (h:={f with Mons:=d}) n];exact k
  .show ix (ix (up d a _) a mZ).Guests c gZ=_
   rw[zpe (h:={f with Mons:=d}) n];exact e
 .rw [(zm4 (x:=gOf f a c) (h:={f with Mons:=d}) (m:=a) i).1,(zm4 (x:=gOf f a c) i).2,z2L (h:={f with Mons:=d}) j];exact must (zbn l) (must (zy k) rfl)
theorem tf (b:Bool):b=false\/b=true:=by cases b<;>simp
theorem is_4 {N:Nat}{a:Host}{b c:Int}(r:SmH a)(d:hasB b (ln a.Mons)=true)(e:hasB c (ln (ix a.Mons b mZ).Guests)=true)(q:zdc a b c=zC (gOf a b c))(l:ieq (zC (gOf a b c)) 6=false)(f:ieq (zC (gOf a b c)) 5=false->ieq (zC (gOf a b c)) 6=false->ieq (zC (gOf a b c)) 7=true) :
 zlV N b a c=some (zeb (ziu a b c (gOf a b c) (zC (gOf a b c)),true)):=by
 have s:=zkt r d e;have n:=is_3 (N:=N) r d e q;have g:ine (zC (gOf a b c)) 6=true:=by rw[zmd,l];rfl
 unfold zlV oN
 conv=>zeta
 rw[q];refine must (zy d) (must (zy e) (must rfl (must rfl ?_)));rw[show ieq (zon (ix a.Mons b zh).Traps (zhj a b c).Ctl.Traps (zhH (zC (gOf a b c)))) 1=zde (gOf a b c).Ctl.Traps (zff (zC (gOf a b c))) from zbe0 _ _ _]
 refine br (fun h=>?_) (fun h=>?_)
 .obtain⟨e1,e2⟩:=tr2 (gOf a b c) (gOf a b c).Ctl.Traps _ l f h;have i:zd0 a b (gOf a b c) (zC (gOf a b c))=a:=by unfold zd0;rw[g,zbe1 h];rfl
  unfold ziu;rw[i,zPH e2,e1];exact must (zbn s) (must (zy e) rfl)
 .rw [zbfd l f h];have i:zd0 a b (gOf a b c) (zC (gOf a b c))=bif ieq (zjR (ix a.Mons b mZ).Traps (gOf a b c).Ctl.Traps (zff (zC (gOf a b c)))) 2 then owned a b else a:=by unfold zd0;rw[g];rfl
  rw[i];refine br (fun m=>?_) (fun m=>?_)
  .rw [show ieq (zjR (ix a.Mons b mZ).Traps (gOf a b c).Ctl.Traps (zff (zC (gOf a b c)))) 2=true from m]
   simp only[cT];unfold owned;refine br (fun k=>?_) (fun k=>?_)
   rotate_left
   .rw [k];exact n
   rw[k];refine shr ?_;have p:=zpe d {ix a.Mons b mZ with Own:=zL .i64 (ix a.Mons b mZ).Own 1};have j:hasB b (ln (up a.Mons b {ix a.Mons b mZ with Own:=zL .i64 (ix a.Mons b mZ).Own 1}))=true:=zeD d;have t:zlR (up a.Mons b {ix a.Mons b mZ with Own:=zL .i64 (ix a.Mons b mZ).Own 1}) b c=zhj a b c:=by show ix (ix (up a.Mons b _) b mZ).Guests c gZ=_;rw[p]
   refine is_o s j ?_ t;rw[p];exact e
  .rw [show ieq (zjR (ix a.Mons b mZ).Traps (gOf a b c).Ctl.Traps (zff (zC (gOf a b c)))) 2=false from m]
   exact n
theorem z9R {N:Nat}{a:Host}{b c:Int}(r:SmH a)(q:zbM a b c=true)(m:ieq (zC (gOf a b c)) 0=false){y:Guest}{o:List Int}(s:(stepped (zG a b) c (gOf a b c) (zC (gOf a b c))).Guests=up (ix a.Mons b mZ).Guests c y)(p:SmB (zG a b)) :
 ziR N a b c=some (zeb (zek a b c y,true)):=by
 obtain⟨k,f,l⟩:=zc2 q;have g:=zyb k f;have i:(zG a b).Guests=(ix a.Mons b mZ).Guests:=by unfold zG;rw[f];rfl
 have e:hasB c (ln (zG a b).Guests)=true:=by rw[i];exact l
 have h:gAt (zG a b) c=gOf a b c:=by unfold gAt;rw[e,i];rfl
 have d:zfW (zG a b) c=true:=by unfold zfW;rw[e,g,h,m];rfl
 have j:zd8 (zG a b) c=stepped (zG a b) c (gOf a b c) (zC (gOf a b c)):=by unfold zd8;rw[d,h];rfl
 have n:(ziY (zqI a b) c).Guests=up (ix a.Mons b mZ).Guests c y:=by show (zd8 (zG a b) c).Guests=_;rw[j,s]
 unfold ziR oN;rw[n];exact must (zbn ((zS _).2 r)) (must (zbn p) (must (zy f) rfl))
theorem zLM {h:Host}{m:Int}(g:SmH h)(f:hasB m (ln h.Mons)=true):SmB (zG h m):=by
 have b:=g.2.1.2 _ (zbB f mZ);have e:∀(d:List (List Int)) (q:Int),SmM d->(zcv d q).length<=1048576:=fun d q h=>zZH h;have c:∀p:Int,(zcM h m p).length<=1048576:=by intro p;unfold zcM;cases hasB m (ln h.Mons);{exact(by decide:zB6.length<=1048576)};{cases hasB p 8;{exact(by decide:zB6.length<=1048576)};{simp only [cT];cases ine (zbu (ix h.Mons m zh).Outer p).Page (-1);{exact e _ _ b.2.1};{exact e _ _ g.1}}}
 have j:∀(n i:Nat),∀x∈zcz h m n i,x.length<=1048576:=by
  intro n
  induction n with
  |zero=>intro i x a;cases a
  |succ n k=>intro i x a;rcases qG.1 a with rfl|a;{exact c _};{exact k (i+1) x a}
 unfold zG;rw[f];exact⟨⟨by show (zcz h m 8 0).length<=1048576;rw[zBB];decide,j 8 0⟩,b.2.2.2.1,b.2.2.2.2.1⟩
theorem zyh (b:Bare)(g:Int)(x:Guest):(zdG b g x).Guests=up b.Guests g x:=rfl
theorem zRr (a:Host)(b c:Int)(q:zcE big [aH a,aI b,aI c])(B:zvl a b c=true):∃N,zDN N a b c=some [aH (zoZ a b c),aB (zvk a b c)]:=by
 have g:=(zS a).1 (zN.1 B);refine⟨0,?_⟩;show _=some (zeb (zbd a b c));unfold zDN oN nB;conv=>zeta
 refine must (zbn ((zS _).2 g)) (must (zbn ((zS _).2 g)) (must rfl (brN (fun u=>?_) (fun u=>brN (fun l=>?_) (fun l=>?_)))));{rw [zh6 (zQb u)];rfl};{rw [zh6 (zQc l)];rfl};have y:=zYL (h:=a) (m:=b) l;have n:zdc a b c=zC (gOf a b c):=(by show zhF (ix (zcG a b).Guests c gZ)=_;rw[y];rfl);rw[y,n];refine must rfl (brN (fun p=>?_) (fun p=>?_));{rw [zh6 (zQd p)];rfl};have j:=zQe u l p;have s:hasB b (ln a.Mons)=true:=l;have t:hasB c (ln (ix a.Mons b mZ).Guests)=true:=p;have q:=zLM g s;have r:(zG a b).Guests=(ix a.Mons b mZ).Guests:=(by unfold zG;rw[s];rfl);rw[ziO j];unfold zwd;refine must (zy t) (must rfl (br (fun d=>?_) (fun d=>must (zy t) (must rfl (must rfl (br (fun i=>must i ?_) (fun i=>br (fun k=>?_) (fun k=>?_))))))));{rw [d];rfl};{have e:zC (gOf a b c)=3:=qD i;have T:=is_1 (N:=0) g j;rw[T];rw[e];rfl};{have e:zC (gOf a b c)=4:=qD k;have T:=is_1 (N:=0) g j;rw[T];rw[e];rfl}
 .have fin:∀{R:Host×Bool},zfV 0 a b c=some (zeb R)->R=(bif ieq (zC (gOf a b c)) 0 then (a,false) else (bif ieq (zC (gOf a b c)) 1 then (zek a b c (interrupted (gOf a b c)),true) else (bif ieq (zC (gOf a b c)) 2 then (zek a b c (plainly (gOf a b c)),true) else
   (cond (cond (ieq (zC (gOf a b c)) 3) true (ieq (zC (gOf a b c)) 4)) (zeH (zdZ a b c (gOf a b c) (ieq (zC (gOf a b c)) 4)) b c (gOf a b c) (ieq (zC (gOf a b c)) 4),true) (ziu a b c (gOf a b c) (zC (gOf a b c)),true)))))->zfV 0 a b c=_:=fun h e=>h.trans (congrArg (fun x=>some (zeb x)) e)
  have w:ieq (zC (gOf a b c)) 5=false->ieq (zC (gOf a b c)) 7=false->zfV 0 a b c=ziR 0 a b c:=by
   intro v A;unfold zfV;conv=>zeta
   rw[n];exact zdh v (zdh A rfl)
  rcases tf (ieq (zC (gOf a b c)) 1) with f|f
  .rcases tf (ieq (zC (gOf a b c)) 2) with w2|w2
   .rcases tf (ieq (zC (gOf a b c)) 6) with w6|w6
    .have h57:ieq (zC (gOf a b c)) 5=false->ieq (zC (gOf a b c)) 6=false->ieq (zC (gOf a b c)) 7=true:=fun v z=>z5R _ d f w2 i k v z;have T:=is_4 (N:=0) g s t n w6 h57;refine fin (R:=(ziu a b c (gOf a b c) (zC (gOf a b c)),true)) ?_ (by rw[d,f,w2,i,k];rfl);unfold zfV;conv=>zeta
     rw[n];cases C:ieq (zC (gOf a b c)) 5;{exact zdh rfl (must (h57 C w6) T)};{exact must rfl (must rfl T)}
    {have e:zC (gOf a b c)=6:=qD w6;refine fin (R:=(zek a b c (zeO (gOf a b c) (gOf a b c).Ctl.Traps (zC (gOf a b c))),true)) ?_ ?_;{rw [w (by rw[e];rfl) (by rw[e];rfl)];refine z9R (o:=[]) g j d ?_ q;unfold stepped zoz;rw[f,w2,i,k,(tr1 (gOf a b c) (gOf a b c).Ctl.Traps _ w6).2];show (zdG (zG a b) c _).Guests=_;rw[zyh,r]};{rw [d,f,w2,i,k];unfold ziu zd0;rw[zPH (tr1 (gOf a b c) (gOf a b c).Ctl.Traps _ w6).2,zmd,w6];rfl}}
   {have e:zC (gOf a b c)=2:=qD w2;refine fin (R:=(zek a b c (plainly (gOf a b c)),true)) ?_ (by rw[d,f,w2];rfl);rw[w (by rw[e];rfl) (by rw[e];rfl)];refine z9R (o:=[]) g j d ?_ q;unfold stepped;rw[f,w2];show (zdG (zG a b) c _).Guests=_;rw[zyh,r]}
  {have e:zC (gOf a b c)=1:=qD f;refine fin (R:=(zek a b c (interrupted (gOf a b c)),true)) ?_ (by rw[d,f];rfl);rw[w (by rw[e];rfl) (by rw[e];rfl)];refine z9R (o:=[]) g j d ?_ q;unfold stepped;rw[f];show (zdG (zG a b) c _).Guests=_;rw[zyh,r]}
theorem zu8:vL 42 zqS:=hF3 zTv zu zb9 zgM (zx []) zRr
def zbbV:zbb:=[(42,zqS)]++z6I
theorem z9x:zM zbbV:=zi zu8 zTv
def zbbW:zbb:=[(143,ztl)]++zbbV
theorem z9y:zM zbbW:=zi zwO z9x
def cnt (l:List Mon):List Nat:=l.map fun x=>x.Guests.length
theorem zbeq {l a:List Mon}(h:zei a=zei l):cnt a=cnt l:=by have e:∀l:List Mon,cnt l=(zei l).map List.length:=fun l=>(by simp[cnt,zei]);rw[e,e,h]
theorem zWH {l:List Mon}{m:Int}{x:Mon}(b:hasB m (ln l)=true)(c:x.Guests.length=(ix l m mZ).Guests.length):cnt (up l m x)=cnt l:=by obtain⟨k,rfl,a⟩:=zdX (n:=l.length) b;unfold cnt up;rw[List.map_set,kB,c,zbv a];have:=@u0 _ (l.map fun x=>x.Guests.length) k (by simpa using a);simpa using this
theorem zbcX {l a:List Mon}(h:cnt a=cnt l):a.length=l.length:=by have:=congrArg List.length h;simpa [cnt] using this
theorem zber {l b:List Mon}(h:cnt b=cnt l)(m:Int):(ix b m mZ).Guests.length=(ix l m mZ).Guests.length:=by have a:(cnt b)[m.toNat]?=(cnt l)[m.toNat]?:=(by rw[h]);unfold cnt at a;rw[qP,qP]at a;unfold ix;simp only[j5];cases c:b[m.toNat]? <;> cases d:l[m.toNat]? <;> rw [c,d]at a<;>simp at a ⊢;exact a
theorem zbdN (h:Host)(m p:Int):(zdD h m p).Memory=h.Memory:=(zgv (zeV h m p) m p noSlot).2
theorem zbdM (h:Host):(zdf h).Memory=h.Memory:=by unfold zdf;cases ieq (ln (zcj h)) 0;{rfl};{exact zbdN _ _ _}
theorem zbdL (m:List (List Int))(p:Int)(c:List Int):(zhQ m p c).length=m.length:=by unfold zhQ;cases hasB p (ln m);{rfl};{cases zco c;{rfl};{simp}}
theorem zbdJ (m:List (List Int))(p c v:Int):(zbF m p c v).length=m.length:=by unfold zbF;cases zfT m p c;{rfl};{cases win v 0 99;{rfl};{simp}}
theorem z4M (h:Host)(m p:Int):(fetched h m p).Memory.length=h.Memory.length:=by unfold fetched ze5;rw[(zgv _ _ _ _).2];unfold landing;rw[zbdL,zbdM]
theorem zYK (h:Host)(m p n:Int):(zjP h m p n).Memory=h.Memory:=by unfold zjP;cases ieq (wand .i64 n 2) 0;{unfold opened;cases ieq (wand .i64 (ix (ix (zbE h m p).Mons m mZ).Outer p sZ).Rights 2) 0;{rfl};{exact(zgv _ _ _ _).2}};{rfl}
theorem z7B (h:Host)(m p n:Int):(mended h m p n).Memory.length=h.Memory.length:=by unfold mended;cases ieq (ix (ix h.Mons m mZ).Outer p sZ).Page (-1);{exact congrArg List.length (zYK _ _ _ _)};{exact(congrArg List.length (zYK _ _ _ _)).trans (z4M _ _ _)}
theorem z7C (h:Host)(m g p:Int)(a:Bool):(zw5 h m g p a).Memory=h.Memory:=by cases a<;>rfl
theorem z97 (h:Host)(b:List Entry)(m g c a q:Int)(d:Bool):(zgf h b m g c a q d).1.Memory.length=h.Memory.length:=by unfold zgf;cases zhY b m g c a;{cases zeq h m g c a;{exact congrArg List.length (z7C _ _ _ _ _)};{exact(congrArg List.length (z7C _ _ _ _ _)).trans (z7B h m q a)}};{rfl}
theorem zbdK (h:Host)(b:List Entry)(m g page need:Int)(io:Bool):(lookOf h b m g page need io).1.Memory.length=h.Memory.length:=by unfold lookOf;cases zbW h m g page need;{rfl};{simp only [cT];rw[z97];cases ieq need 2<;>rfl}
structure Keep (h r:Host):Prop where
 shape:Shape r
 cnt:cnt r.Mons=cnt h.Mons
 mem:r.Memory.length=h.Memory.length
theorem Keep.has {h r:Host}(k:Keep h r){m:Int}(a:hasB m (ln h.Mons)=true):hasB m (ln r.Mons)=true:=by rw[ln,zbcX k.cnt];exact a
theorem Keep.hg {h r:Host}(k:Keep h r){m g:Int}(hg:hasB g (ln (ix h.Mons m mZ).Guests)=true):hasB g (ln (ix r.Mons m mZ).Guests)=true:=by rw[ln,zber k.cnt];exact hg
theorem Keep.trans {a b c:Host}(h:Keep a b)(k:Keep b c):Keep a c:=⟨k.shape,k.cnt.trans h.cnt,k.mem.trans h.mem⟩
theorem Keep.rfl' {h:Host}(a:Shape h):Keep h h:=⟨a,rfl,rfl⟩
theorem zop {h:Host}{m g:Int}{x:Guest}(b:Shape h)(a:hasB m (ln h.Mons)=true)(c:SmG x):Keep h (zek h m g x):=⟨z5E b a c,zWH a (by simp),rfl⟩
theorem zE1 {h:Host}{b:List Entry}{m g page need:Int}{io:Bool}(c:SmH h)(a:zbM h m g=true):Keep h (lookOf h b m g page need io).1:=by have k:=zuz (b:=b) (page:=page) (need:=need) (io:=io) c a;exact⟨k.shape,zbeq k.gs,zbdK _ _ _ _ _ _ _⟩
theorem z7k {h:Host}{p c v:Int}(a:Shape h):Keep h {h with Memory:=zbF h.Memory p c v}:=⟨zT7 a (zB0 a.1.1),rfl,zbdJ _ _ _ _⟩
theorem z4w {h:Host}{m:Int}(a:Shape h)(b:hasB m (ln h.Mons)=true):Keep h (owned h m):=by obtain⟨c,d⟩:=zcy a b;unfold owned;cases ilt (ix h.Mons m mZ).Own 1000000000;{exact Keep.rfl' a};{exact⟨ziN a c d,zWH b rfl,rfl⟩}
theorem z4v {h:Host}{m n:Int}(b:Shape h)(c:hasB m (ln h.Mons)=true):Keep h (zhI h m n):=by obtain⟨a,d⟩:=zcy b c;unfold zhI;cases e:ilt (ln (ix h.Mons m mZ).Outs) 40;{exact Keep.rfl' b};{have f:=qD e;simp only[ln]at f;refine⟨ziN b ⟨a.1,a.2.1,a.2.2.1,a.2.2.2.1,?_,a.2.2.2.2.2⟩ d,zWH c rfl,rfl⟩;simp[ap];omega}
theorem z7m {h:Host}{m g:Int}{x:Guest}{w:Int}(d:Shape h)(b:hasB m (ln h.Mons)=true)(e:SmG x):Keep h (ziu h m g x w):=by have a:Keep h (zd0 h m x w):=(by unfold zd0;cases (cond (ine w 6) (ieq (zjR (ix h.Mons m mZ).Traps x.Ctl.Traps (zff w)) 2) false);{exact Keep.rfl' d};{exact z4w d b});have f:Keep (zd0 h m x w) (zfL (zd0 h m x w) m x w):=(by unfold zfL;cases (cond (zgn x.Ctl.Traps w) (ieq w 5) false);{exact Keep.rfl' a.shape};{exact z4v a.shape (a.has b)});have c:=a.trans f;exact c.trans (zop c.shape (c.has b) (zGt _ _ e))
theorem z7l {h:Host}{m g:Int}(f:SmH h)(e:zbM h m g=true):Keep h (zbd h m g).1:=by obtain⟨l,a,n⟩:=zc2 e;have d:=zkt f a n;have i:=(zfx f l).1;rw[ziO e];unfold zwd;cases ieq (zC (gOf h m g)) 0;{cases ieq (zC (gOf h m g)) 1;{cases ieq (zC (gOf h m g)) 2;{cases (cond (ieq (zC (gOf h m g)) 3) true (ieq (zC (gOf h m g)) 4));{exact z7m i a d};{have k:=zE1 (b:=h.Buffer) (page:=zbe (address (gOf h m g))) (need:=zbZ (ieq (zC (gOf h m g)) 4)) (io:=false) f e;show Keep h (zeH (zdZ h m g (gOf h m g) (ieq (zC (gOf h m g)) 4)) m g (gOf h m g) (ieq (zC (gOf h m g)) 4));unfold zeH;cases (zdZ h m g (gOf h m g) (ieq (zC (gOf h m g)) 4)).2.2;{exact k.trans (zop k.shape (k.has a) d)};{cases ieq (zC (gOf h m g)) 4;{have k:=zE1 (b:=h.Buffer) (page:=zbe (address (gOf h m g))) (need:=zbZ false) (io:=false) f e;exact k.trans (zop k.shape (k.has a) (zPx _ d))};{have k:=zE1 (b:=h.Buffer) (page:=zbe (address (gOf h m g))) (need:=zbZ true) (io:=false) f e;have q:=z7k (p:=(zdZ h m g (gOf h m g) true).2.1) (c:=zcP (address (gOf h m g))) (v:=(gOf h m g).A) k.shape;have j:=k.trans q;exact j.trans (zop j.shape (j.has a) (zlO d))}}}};{exact zop i a (zJH d)}};{exact zop i a (z3a d)}};{exact Keep.rfl' i}
structure Same (h r:Host):Prop where
 sm:SmH r
 cnt:cnt r.Mons=cnt h.Mons
 mem:r.Memory.length=h.Memory.length
 st:r=h\/Shape r
theorem Same.rfl' {h:Host}(a:SmH h):Same h h:=⟨a,rfl,rfl,.inl rfl⟩
theorem Same.trans {a b c:Host}(h:Same a b)(k:Same b c):Same a c:=⟨k.sm,k.cnt.trans h.cnt,k.mem.trans h.mem,by
 rcases k.st with e|e
 .rw [e];exact h.st
 .exact .inr e⟩
theorem z8m {h:Host}(m g:Int)(b:SmH h):Same h (zbd h m g).1:=by cases a:zbM h m g;{rw [zh6 a];exact Same.rfl' b};{have k:=z7l b a;exact⟨k.shape.1,k.cnt,k.mem,.inr k.shape⟩}
def zbbX:zbb:=[(112,zqR),(143,ztl)]++z3L
theorem zuZ:zM zbbX:=zi zu7 (zi zwO zqv)
theorem zWC {a b:Bool}(h:(a=true)↔(b=true)):a=b:=by cases a<;>cases b<;>simp_all
@[simp] theorem zbff (x:Int):win x 0 3=hasB x 4:=zWC (by rw[ze4];unfold hasB;rw[decide_eq_true_iff];omega)
@[simp] theorem z8H (x:Int):win x 0 7=hasB x 8:=zWC (by rw[ze4];unfold hasB;rw[decide_eq_true_iff];omega)
def zes (t:List Slot)(p:Int)(s:Slot):List Slot:=bif hasB p (ln t) then up t p s else t
@[simp] theorem zbfg (t:List Slot)(p:Int)(s:Slot):(zes t p s).length=t.length:=by unfold zes;cases hasB p (ln t)<;>simp
@[simp] abbrev zpQ (t:List Slot)(p:Int)(s:Slot):Bool:=pc (t.length<=1048576)
@[simp] abbrev zmA (t:List Slot)(p:Int)(s:Slot):List Slot:=zes t p s
def zAd:Run:=rF3 (dS .slot) dI (dT .slot) fun b c d=>(zpQ b c d,[aS .slot (zmA b c d)])
def zEg (N:Nat)(a:lS)(b:Int)(c:Slot):OA:=
 (oN (few (ln (ap [] a))) (oN (zO b 0 (wsub .i64 (ln a) 1)) (cond (zU b 0 (wsub .i64 (ln a) 1)) (oN (inb b (ln (ap [] a))) (share (up (ap [] a) b c) (fun d=>(some [(aS .slot d)])))) (some [(aS .slot (ap [] a))]))))
theorem zRX (a:List Slot)(b:Int)(c:Slot)(d:zpQ a b c=true):∃N,zEg N a b c=some [aS .slot (zmA a b c)]:=by have e:=zN.1 d;refine⟨0,?_⟩;unfold zEg oN;refine mu (must rfl (br (fun _=>mu (shr ?_)) (fun _=>?_)));all_goals first|rfl|(simp only [*,zmA,zes,cT,cF]<;>rfl)|simp_all[Ty.cells,zmA,zes]
theorem zKS:vL 300 zAd:=kF3 zuZ zu zA zo (zx []) zRX
def zgx (p n:Int):Bool:=bif zc3 p then win n 0 7 else false
def zt7 (p n:Int):Int:=bif zgx p n then wor .i64 p (zlQ .i64 1 n) else p
theorem cv7 {n:Int}(h:hasB n 8=true):wcv .u64 n=n/\ile 0 n=true:=by have:=qD h;exact⟨zSK (by omega) (by omega),qJ (by omega)⟩
@[simp] abbrev zkL (p n:Int):Bool:=true
@[simp] abbrev zhc (p n:Int):Int:=zt7 p n
@[simp] abbrev znh (p n:Int):Bool:=zgx p n
def zC6:Run:=rF2 dI dI fun b c=>(zkL b c,[aI (zhc b c),aB (znh b c)])
def zIF (N:Nat)(a b:Int):OA:=
 (oN (zfH a) (cond (nB (zfG a)) (some [(aI a),(aB false)]) (oN (zO b 0 7) (cond (nB (zU b 0 7)) (some [(aI a),(aB false)]) (oN (ile 0 (wcv .u64 b)) (some [(aI (wor .i64 a (zlQ .i64 1 (wcv .u64 b)))),(aB true)]))))))
theorem zVm (b a:Int)(c:zkL b a=true):∃N,zIF N b a=some [aI (zhc b a),aB (znh b a)]:=by have d:=@cv7 a;refine⟨0,?_⟩;unfold zIF oN nB;refine must rfl (brN (fun _=>?_) (fun _=>must rfl (brN (fun _=>?_) (fun _=>mu ?_))));all_goals first|rfl|(simp only [*,zhc,znh,zt7,zgx,cT,cF]<;>rfl)|simp_all[Ty.cells,zhc,znh,zt7,zgx]
theorem zNU:vL 302 zC6:=kF2 zuZ zu zA zo (zx []) zVm
def posts (c:Ctl)(n:Int):Bool:=bif zhR c then (cond (win n 0 7) (ieq (wand .i64 (zj8 .i64 c.Post n) 1) 1) false) else false
@[simp] abbrev zGm (c:Ctl)(n:Int):Bool:=true
@[simp] abbrev zAk (c:Ctl)(n:Int):Bool:=posts c n
def zJt:Run:=rF2 dC dI fun b c=>(zGm b c,[aB (zAk b c)])
def zS5 (N:Nat)(b:Ctl)(a:Int):OA:=
 (oN (zsH b) (cond (zq1 b) (oN (zO a 0 7) (cond (zU a 0 7) (oN (ile 0 (wcv .u64 a)) (some [(aB (ieq (wand .i64 (zj8 .i64 b.Post (wcv .u64 a)) 1) 1))])) oF)) oF))
theorem z1d (b:Ctl)(a:Int)(c:zGm b a=true):∃N,zS5 N b a=some [aB (zAk b a)]:=by have d:=@cv7 a;refine⟨0,?_⟩;unfold zS5 oN;refine must rfl (br (fun _=>must rfl (br (fun _=>mu ?_) (fun _=>?_))) (fun _=>?_));all_goals first|rfl|(simp only [*,zAk,posts,cT,cF]<;>rfl)|simp_all[Ty.cells,zAk,posts]
theorem zUF:vL 323 zJt:=kF2 zuZ zu zA zo (zx []) z1d
def zci (b:Bare)(g:Int):Bool:=bif zbR b then hasB g (ln b.Guests) else false
theorem zdR {b:Bare}{g:Int}:(zci b g=true)↔zbR b=true/\hasB g (ln b.Guests)=true:=by unfold zci;cases zbR b<;>simp
@[simp] abbrev zjv (b:Bare)(g:Int):Bool:=pc (SmB b)
@[simp] abbrev zkO (b:Bare)(g:Int):Bool:=zci b g
def zJw:Run:=rF2 (dT .bare) dI fun b c=>(zjv b c,[aB (zkO b c)])
def zS8 (N:Nat)(a:Bare)(b:Int):OA:=
 (oN (zpw a) (cond (ze2 a) (oN (zO b 0 (wsub .i64 (ln a.Guests) 1)) (some [(aB (zU b 0 (wsub .i64 (ln a.Guests) 1)))])) oF))
theorem z1g (a:Bare)(b:Int)(c:zjv a b=true):∃N,zS8 N a b=some [aB (zkO a b)]:=by have d:=zN.1 c;have e:a.Guests.length<=1048576:=d.2.1.1;refine⟨0,?_⟩;unfold zS8 oN;refine must rfl (br (fun _=>must rfl ?_) (fun _=>?_));all_goals first|rfl|(simp only [*,zkO,zci,cT,cF]<;>rfl)|simp_all[Ty.cells,zkO,zci]
theorem zUJ:vL 299 zJw:=kF2 zuZ zu zA zo (zx []) z1g
def zbbY:zbb:=[(300,zAd),(302,zC6),(323,zJt),(299,zJw)]++zbbX
theorem zk9:zM zbbY:=zi zKS (zi zNU (zi zUF (zi zUJ zuZ)))
theorem zbaR {b:Type}{l:List b}{i:Int}{d:b}(h:hasB i (ln l)=true):up l i (ix l i d)=l:=by obtain⟨k,rfl,a⟩:=zdX (n:=l.length) h;unfold up;rw[zbv a,kB];exact u0 a
theorem zu3 {b:Bare}{g:Int}(h:hasB g (ln b.Guests)=true):gAt b g=ix b.Guests g zl:=by unfold gAt;rw[h];rfl
theorem z8o {b:Bare}{g:Int}(h:hasB g (ln b.Guests)=true):zdG b g (gAt b g)=b:=by unfold zdG;rw[zu3 h,zbaR h]
def chg (b:Bare)(g:Int)(c:Bool)(x:Guest):Bare:=bif (cond (zci b g) c false) then zdG b g x else b
def zb7 (b:Bare)(g:Int)(c:Bool):Bool:=bif zci b g then c else false
def ztA (p:Int)(s:Slot):Bool:=bif hasB p 4 then zdQ s 8 else false
def zBX (x:Guest)(p:Int)(s:Slot):Guest:={x with Written:=zes x.Written p s}
def zd1 (x:Guest)(p:Int):Guest:={x with Live:=zes x.Live p (zbu x.Written p)}
def zlp:GExit:=⟨0,0,false,0⟩
def zs8 (x:Guest)(v:Int):Bool:=bif win v 0 99 then (cond (ieq x.Exit.Kind 2) true (ieq x.Exit.Kind 3)) else false
def zya (x:Guest)(v:Int):Guest:=zbG (stopped (cond (ieq x.Exit.Kind 2) {x with A:=v} x) zlp)
def zyt (x:Guest):Bool:=bif ieq x.Exit.Kind 1 then true else ieq x.Exit.Kind 4
def zyu (x:Guest):Guest:=bif ieq x.Exit.Kind 1 then stopped x zlp else held (stopped x zlp)
def znV (x:Guest)(n:Int):Guest:={x with Pending:=zt7 x.Pending n}
def zJ2 (x:Guest)(c:Ctl):Guest:={x with Ctl:=c}
theorem zbdD {x:Guest}{n:Int}(h:zgx x.Pending n=false):znV x n=x:=by unfold znV zt7;rw[h];rfl
theorem zbaC {x:Guest}(p:Int)(s:Slot)(h:SmG x):SmG (zBX x p s):=⟨h.1,by simpa [zBX] using h.2.1,h.2.2.1,h.2.2.2⟩
theorem zPw {x:Guest}(p:Int)(h:SmG x):SmG (zd1 x p):=⟨h.1,h.2.1,by simpa [zd1] using h.2.2.1,h.2.2.2⟩
theorem zbaA {x:Guest}(v:Int)(h:SmG x):SmG (zya x v):=by unfold zya;cases ieq x.Exit.Kind 2<;>exact zlO h
theorem zbaB {x:Guest}(h:SmG x):SmG (zyu x):=by unfold zyu;cases ieq x.Exit.Kind 1;{exact zZF (g:=stopped x zlp) h};{exact h}
theorem zrb {b:Bare}{g:Int}{c:Bool}{x:Guest}(h:SmB b)(a:SmG x):SmB (chg b g c x):=by unfold chg;cases (cond (zci b g) c false);{exact h};{exact zob h a}
@[simp] abbrev zrL (b:Bare)(g p:Int)(s:Slot):Bool:=pc (SmB b)
@[simp] abbrev ziD (b:Bare)(g p:Int)(s:Slot):Bare:=chg b g (ztA p s) (zBX (gAt b g) p s)
@[simp] abbrev zkJ (b:Bare)(g p:Int)(s:Slot):Bool:=zb7 b g (ztA p s)
def ztk:Run:=rF4 (dT .bare) dI dI (dT .slot) fun b c d e=>(zrL b c d e,[aT .bare (ziD b c d e),aB (zkJ b c d e)])
def zIq (N:Nat)(f:Bare)(b c:Int)(d:Slot):OA:=
 let a:=(zcx f);let e:=(ix a.Guests b zl); (oN (zfn f) (oN (zjv a b) (cond (nB (zkO a b)) (some [(aT .bare a),(aB false)]) (oN (zO c 0 3) (cond (nB (zU c 0 3)) (some [(aT .bare a),(aB false)]) (oN (zui d 8) (cond (nB (zq5 d 8)) (some [(aT .bare a),(aB false)]) (oN (inb b (ln a.Guests)) (oN (zpQ e.Written c d) (oN (inb b (ln a.Guests)) (share (up a.Guests b ({e with Written:=(zmA e.Written c d)}:Guest)) (fun g=>(some [(aT .bare ({a with Guests:=g}:Bare)),(aB true)])))))))))))))
theorem zU5 (b:Bare)(a c:Int)(d:Slot)(e:zrL b a c d=true):∃N,zIq N b a c d=some [aT .bare (ziD b a c d),aB (zkJ b a c d)]:=by
 have f:=zN.1 e;have g:=zjm a f;have k:zci b a=true->hasB a (ln b.Guests)=true:=fun h=>(zdR.1 h).2;have i:zci b a=true->gAt b a=ix b.Guests a zl:=fun h=>zu3 (zdR.1 h).2;have j:=g.2.1;refine⟨0,?_⟩;unfold zIq oN nB;conv=>zeta
 refine mu (mu (brN (fun _=>?_) (fun _=>must rfl (brN (fun _=>?_) (fun _=>must rfl (brN (fun _=>?_) (fun _=>mu (mu (mu (shr ?_))))))))));all_goals first|rfl|(simp only [*,ziD,zkJ,chg,zb7,ztA,zBX,zdG,cT,cF]<;>rfl)|simp_all[Ty.cells,ziD,zkJ,chg,zb7,ztA,zBX,zdG]
theorem zwN:vL 240 ztk:=kF4 zk9 zu zA zo (zx []) zU5
@[simp] abbrev zts (b:Bare)(g p:Int):Bool:=pc (SmB b)
@[simp] abbrev zeX (b:Bare)(g p:Int):Bare:=chg b g (hasB p 4) (zd1 (gAt b g) p)
@[simp] abbrev zh2 (b:Bare)(g p:Int):Bool:=zb7 b g (hasB p 4)
def zpk:Run:=rF3 (dT .bare) dI dI fun b c d=>(zts b c d,[aT .bare (zeX b c d),aB (zh2 b c d)])
def zCh (N:Nat)(f:Bare)(d b:Int):OA:=
 let a:=(zcx f);let e:=(inb d (ln a.Guests));let c:=(ix a.Guests d zl); (oN (zfn f) (oN (zjv a d) (cond (nB (zkO a d)) (some [(aT .bare a),(aB false)]) (oN (zO b 0 3) (cond (nB (zU b 0 3)) (some [(aT .bare a),(aB false)]) (oN e (oN e (oN (zpP c.Written b) (oN (zpQ c.Live b (zjY c.Written b)) (oN e (share (up a.Guests d ({c with Live:=(zmA c.Live b (zjY c.Written b))}:Guest)) (fun g=>(some [(aT .bare ({a with Guests:=g}:Bare)),(aB true)])))))))))))))
theorem zOC (b:Bare)(a c:Int)(d:zts b a c=true):∃N,zCh N b a c=some [aT .bare (zeX b a c),aB (zh2 b a c)]:=by
 have e:=zN.1 d;have f:=zjm a e;have j:zci b a=true->hasB a (ln b.Guests)=true:=fun h=>(zdR.1 h).2;have g:zci b a=true->gAt b a=ix b.Guests a zl:=fun h=>zu3 (zdR.1 h).2;have i:=f.2.2.1;refine⟨0,?_⟩;unfold zCh oN nB;conv=>zeta
 refine mu (mu (brN (fun _=>?_) (fun _=>must rfl (brN (fun _=>?_) (fun _=>mu (mu (must rfl (mu (mu (shr ?_))))))))));all_goals first|rfl|(simp only [*,zeX,zh2,chg,zb7,zd1,zdG,cT,cF]<;>rfl)|simp_all[Ty.cells,zeX,zh2,chg,zb7,zd1,zdG]
theorem ztF:vL 243 zpk:=kF3 zk9 zu zA zo (zx []) zOC
@[simp] abbrev zml (b:Bare)(g v:Int):Bool:=pc (SmB b)
@[simp] abbrev zf4 (b:Bare)(g v:Int):Bare:=chg b g (zs8 (gAt b g) v) (zya (gAt b g) v)
@[simp] abbrev zht (b:Bare)(g v:Int):Bool:=zb7 b g (zs8 (gAt b g) v)
def zn0:Run:=rF3 (dT .bare) dI dI fun b c d=>(zml b c d,[aT .bare (zf4 b c d),aB (zht b c d)])
def zyZ (N:Nat)(i:Bare)(b e:Int):OA:=
 let a:=(zcx i);let h:=(inb b (ln a.Guests));let d:=(⟨0,0,false,0⟩:GExit);let c:=(ix a.Guests b zl);let g:=({c with A:=e}:Guest); (oN (zfn i) (oN (zjv a b) (cond (nB (zkO a b)) (some [(aT .bare a),(aB false)]) (oN (zO e 0 99) (cond (nB (zU e 0 99)) (some [(aT .bare a),(aB false)]) (oN h (cond (ieq c.Exit.Kind 2) (oN (zet g d) (oN (zep (zdW g d)) (oN h (share (up a.Guests b (zgJ (zdW g d))) (fun f=>(some [(aT .bare ({a with Guests:=f}:Bare)),(aB true)])))))) (cond (ieq c.Exit.Kind 3) (oN (zet c d) (oN (zep (zdW c d)) (oN h (share (up a.Guests b (zgJ (zdW c d))) (fun f=>(some [(aT .bare ({a with Guests:=f}:Bare)),(aB true)])))))) (some [(aT .bare a),(aB false)])))))))))
theorem zLd (b:Bare)(a c:Int)(d:zml b a c=true):∃N,zyZ N b a c=some [aT .bare (zf4 b a c),aB (zht b a c)]:=by
 have e:=zN.1 d;have f:=zjm a e;have j:zci b a=true->hasB a (ln b.Guests)=true:=fun h=>(zdR.1 h).2;have g:zci b a=true->gAt b a=ix b.Guests a zl:=fun h=>zu3 (zdR.1 h).2;have i:_/\_/\_/\_:=f;refine⟨0,?_⟩;unfold zyZ oN nB;conv=>zeta
 refine mu (mu (brN (fun _=>?_) (fun _=>must rfl (brN (fun _=>?_) (fun _=>mu (br (fun _=>mu (mu (mu (shr ?_)))) (fun _=>br (fun _=>mu (mu (mu (shr ?_)))) (fun _=>?_))))))));all_goals first|rfl|(simp only [*,zf4,zht,chg,zb7,zs8,zya,zlp,zdG,SmG,stopped,cT,cF]<;>rfl)|simp_all[Ty.cells,zf4,zht,chg,zb7,zs8,zya,zlp,zdG,SmG,stopped]
theorem zss:vL 246 zn0:=kF3 zk9 zu zA zo (zx []) zLd
@[simp] abbrev zmn (b:Bare)(g:Int):Bool:=pc (SmB b)
@[simp] abbrev zf6 (b:Bare)(g:Int):Bare:=chg b g (zyt (gAt b g)) (zyu (gAt b g))
@[simp] abbrev zhv (b:Bare)(g:Int):Bool:=zb7 b g (zyt (gAt b g))
def zn2:Run:=rF2 (dT .bare) dI fun b c=>(zmn b c,[aT .bare (zf6 b c),aB (zhv b c)])
def zy1 (N:Nat)(g:Bare)(c:Int):OA:=
 let a:=(zcx g);let f:=(inb c (ln a.Guests));let d:=(⟨0,0,false,0⟩:GExit);let b:=(ix a.Guests c zl); (oN (zfn g) (oN (zjv a c) (cond (nB (zkO a c)) (some [(aT .bare a),(aB false)]) (oN f (cond (ieq b.Exit.Kind 1) (oN (zet b d) (oN f (share (up a.Guests c (zdW b d)) (fun e=>(some [(aT .bare ({a with Guests:=e}:Bare)),(aB true)]))))) (cond (ieq b.Exit.Kind 4) (oN (zet b d) (oN (zn5 (zdW b d)) (oN f (share (up a.Guests c (zAi (zdW b d))) (fun e=>(some [(aT .bare ({a with Guests:=e}:Bare)),(aB true)])))))) (some [(aT .bare a),(aB false)])))))))
theorem zLf (b:Bare)(a:Int)(c:zmn b a=true):∃N,zy1 N b a=some [aT .bare (zf6 b a),aB (zhv b a)]:=by
 have d:=zN.1 c;have e:=zjm a d;have i:zci b a=true->hasB a (ln b.Guests)=true:=fun h=>(zdR.1 h).2;have f:zci b a=true->gAt b a=ix b.Guests a zl:=fun h=>zu3 (zdR.1 h).2;have g:_/\_/\_/\_:=e;refine⟨0,?_⟩;unfold zy1 oN nB;conv=>zeta
 refine mu (mu (brN (fun _=>?_) (fun _=>mu (br (fun _=>mu (mu (shr ?_))) (fun _=>br (fun _=>mu (mu (mu (shr ?_)))) (fun _=>?_))))));all_goals first|rfl|(simp only [*,zf6,zhv,chg,zb7,zyt,zyu,zlp,zdG,SmG,stopped,cT,cF]<;>rfl)|simp_all[Ty.cells,zf6,zhv,chg,zb7,zyt,zyu,zlp,zdG,SmG,stopped]
theorem zsu:vL 247 zn2:=kF2 zk9 zu zA zo (zx []) zLf
theorem zben {b:Bare}{g:Int}{c:Bool}{x:Guest}(h:zci b g=false):chg b g c x=b:=by unfold chg;rw[h];rfl
theorem zbcV {b:Bare}{g n:Int}(h:zci b g=true):chg b g (zgx (gAt b g).Pending n) (znV (gAt b g) n)=zdG b g (znV (gAt b g) n):=by unfold chg;rw[h];cases a:zgx (gAt b g).Pending n;{rw [zbdD a,z8o (zdR.1 h).2];rfl};{rfl}
@[simp] abbrev zmm (b:Bare)(g n:Int):Bool:=pc (SmB b)
@[simp] abbrev zf5 (b:Bare)(g n:Int):Bare:=chg b g (zgx (gAt b g).Pending n) (znV (gAt b g) n)
@[simp] abbrev zhu (b:Bare)(g n:Int):Bool:=zb7 b g (zgx (gAt b g).Pending n)
def zn1:Run:=rF3 (dT .bare) dI dI fun b c d=>(zmm b c d,[aT .bare (zf5 b c d),aB (zhu b c d)])
def zy0 (N:Nat)(e:Bare)(b d:Int):OA:=
 let a:=(zcx e);let c:=(ix a.Guests b zl); (oN (zfn e) (oN (zjv a b) (cond (nB (zkO a b)) (some [(aT .bare a),(aB false)]) (oN (inb b (ln a.Guests)) (oN (zkL c.Pending d) (oN (inb b (ln a.Guests)) (share (up a.Guests b ({c with Pending:=(zhc c.Pending d)}:Guest)) (fun f=>(some [(aT .bare ({a with Guests:=f}:Bare)),(aB (znh c.Pending d))])))))))))
theorem zLe (a:Bare)(b c:Int)(d:zmm a b c=true):∃N,zy0 N a b c=some [aT .bare (zf5 a b c),aB (zhu a b c)]:=by
 have i:=zN.1 d;have j:zci a b=true->hasB b (ln a.Guests)=true:=fun h=>(zdR.1 h).2;have f:zci a b=true->gAt a b=ix a.Guests b zl:=fun h=>zu3 (zdR.1 h).2;have g:=@zbcV a b c;have e:=@zben a b (zgx (gAt a b).Pending c) (znV (gAt a b) c);refine⟨0,?_⟩;unfold zy0 oN nB;conv=>zeta
 refine mu (mu (brN (fun _=>?_) (fun _=>mu (must rfl (mu (shr ?_))))));all_goals first|rfl|(simp only [*,zf5,zhu,zb7,zdG,znV,cT,cF]<;>rfl)|simp_all[Ty.cells,zf5,zhu,zb7,zdG,znV]
theorem zst:vL 248 zn1:=kF3 zk9 zu zA zo (zx []) zLe
@[simp] abbrev zrK (b:Bare)(g:Int)(c:Ctl):Bool:=pc (SmB b)
@[simp] abbrev ziC (b:Bare)(g:Int)(c:Ctl):Bare:=chg b g (zhR c) (zJ2 (gAt b g) c)
@[simp] abbrev zkI (b:Bare)(g:Int)(c:Ctl):Bool:=zb7 b g (zhR c)
def ztj:Run:=rF3 (dT .bare) dI dC fun b c d=>(zrK b c d,[aT .bare (ziC b c d),aB (zkI b c d)])
def zIp (N:Nat)(d:Bare)(b:Int)(c:Ctl):OA:=
 let a:=(zcx d); (oN (zfn d) (oN (zjv a b) (cond (nB (zkO a b)) (some [(aT .bare a),(aB false)]) (oN (zsH c) (cond (nB (zq1 c)) (some [(aT .bare a),(aB false)]) (oN (inb b (ln a.Guests)) (share (up a.Guests b ({ (ix a.Guests b zl) with Ctl:=c}:Guest)) (fun e=>(some [(aT .bare ({a with Guests:=e}:Bare)),(aB true)])))))))))
theorem zU4 (a:Bare)(b:Int)(c:Ctl)(d:zrK a b c=true):∃N,zIp N a b c=some [aT .bare (ziC a b c),aB (zkI a b c)]:=by
 have f:=zN.1 d;have g:zci a b=true->hasB b (ln a.Guests)=true:=fun h=>(zdR.1 h).2;have e:zci a b=true->gAt a b=ix a.Guests b zl:=fun h=>zu3 (zdR.1 h).2;refine⟨0,?_⟩;unfold zIp oN nB;conv=>zeta
 refine mu (mu (brN (fun _=>?_) (fun _=>must rfl (brN (fun _=>?_) (fun _=>mu (shr ?_))))));all_goals first|rfl|(simp only [*,ziC,zkI,chg,zb7,zJ2,zdG,cT,cF]<;>rfl)|simp_all[Ty.cells,ziC,zkI,chg,zb7,zJ2,zdG]
theorem zwM:vL 249 ztj:=kF3 zk9 zu zA zo (zx []) zU4
def zbcA (p c v:Int):Bool:=bif hasB p 8 then (cond (hasB c 4) (win v 0 99) false) else false
def zzx (b:Bare)(p c v:Int):Bool:=bif zbR b then zbcA p c v else false
def zV8 (b:Bare)(p c v:Int):Bare:=bif zzx b p c v then {b with Memory:=zbF b.Memory p c v} else b
def zmK (b:Bare):Bare:=bif zbR b then {b with Pending:=zf3 b.Pending} else b
def zs7 (b:Bare):Int:=bif zbR b then zm2 b.Pending else -1
def zlY (b:Bare):Bool:=bif zbR b then !ilt (zc6 b.Pending) 0 else false
def zoP (b:Bare)(g a n:Int):Bool:=bif zci b g then (cond (win a 0 15) (zd2 (gAt b g).Live (zbe a) n) false) else false
def zGN (b:Bare)(g a n:Int):Int:=zcb (gAt b g).Live (zbe a) n
def zAS (b:Bare)(g a v:Int):Bool:=bif zoP b g a 2 then win v 0 99 else false
def z3Y (b:Bare)(g a v:Int):Bare:=bif zAS b g a v then {b with Memory:=zbF b.Memory (zGN b g a 2) (zcP a) v} else b
def zWc (b:Bare)(g a:Int):Int:=bif zoP b g a 1 then cellAt b.Memory (zGN b g a 1) (zcP a) else 0
@[simp] abbrev zrJ (b:Bare):Bool:=pc (SmB b)
@[simp] abbrev ziB (b:Bare):Bare:=zmK b
@[simp] abbrev zkG (b:Bare):Int:=zs7 b
@[simp] abbrev zkH (b:Bare):Bool:=zlY b
def zti:Run:=rF1 (dT .bare) fun b=>(zrJ b,[aT .bare (ziB b),aI (zkG b),aB (zkH b)])
def zIo (N:Nat)(b:Bare):OA:=
 let a:=(zcx b); (oN (zfn b) (oN (zpw a) (cond (nB (ze2 a)) (some [(aT .bare a),(aI (-1)),(aB false)]) (oN (zr1 a.Pending) (some [(aT .bare ({a with Pending:=(zkM a.Pending)}:Bare)),(aI (zkN a.Pending)),(aB (znj a.Pending))])))))
theorem zU3 (a:Bare)(b:zrJ a=true):∃N,zIo N a=some [aT .bare (ziB a),aI (zkG a),aB (zkH a)]:=by
 have c:=zN.1 b;refine⟨0,?_⟩;unfold zIo oN nB;conv=>zeta
 refine mu (must rfl (brN (fun _=>?_) (fun _=>must rfl ?_)));all_goals first|rfl|(simp only [*,ziB,zkG,zkH,zmK,zs7,zlY,zf3,zm2,cT,cF]<;>rfl)|simp_all[Ty.cells,ziB,zkG,zkH,zmK,zs7,zlY,zf3,zm2]
theorem zwL:vL 253 zti:=kF1 zk9 zu zA zo (zx []) zU3
def zbbZ:zbb:=zbbY
theorem zW0:zM zbbZ:=zk9
def zej (l:List Guest)(n:Int):List Int:=idxs (fun (x:Guest)=>posts x.Ctl n) l 0
theorem zXy {d:Type}(p:d->Bool):∀(l:List d) (i:Nat),∀k∈idxs p l i,(i:Int)<=k/\k<(i:Int)+l.length
 |[],_,k,a=>by cases a
 |x::l,i,k,a=>by have c:=zXy p l (i+1);simp only[qZ];unfold idxs at a;cases b:p x;{rw [b]at a;have:=c k a;omega};{rw [b]at a;rcases qG.1 a with rfl|a;{omega};{have:=c k a;omega}}
@[simp] abbrev zvY (b:Bare)(n:Int):Bool:=pc (SmB b)
@[simp] abbrev zmy (b:Bare)(n:Int):List Int:=zej b.Guests n
def zz7:Run:=rF2 (dT .bare) dI fun b c=>(zvY b c,[aS .int (zmy b c)])
def zD9 (N:Nat)(c:Bare)(f:Int):OA:=
 (iter (σ:=(Int×(Int×(Int×((List Int)×(lM×(lG×((List Int)×Unit)))))))) N (fun d a=>let b:=a.2.2.2.2.2.1;let e:=(ix b a.2.1 zl).Ctl; (cond (ilt a.2.1 (ln b)) (oN (inb a.2.1 (ln b)) (oN (zGm e a.1) (cond (zAk e a.1) (oN (few (ln (ap a.2.2.2.1 [a.2.1]))) (d (a.1,((zL .i64 a.2.1 1),(a.2.2.1,((ap a.2.2.2.1 [a.2.1]),(a.2.2.2.2.1,(b,(a.2.2.2.2.2.2.1,()))))))))) (d (a.1,((zL .i64 a.2.1 1),(a.2.2.1,(a.2.2.2.1,(a.2.2.2.2.1,(b,(a.2.2.2.2.2.2.1,()))))))))))) (some [(aS .int a.2.2.2.1)]))) (f,(0,(c.Pending,([],(c.Memory,(c.Guests,(c.Outs,()))))))))
def zSz:FuncId->Nat->Option Tmpl:=zx [(305,0,{n:=28,tm:=[(1,ti),(2,.lp 0 0),(5,.sl 0 []),(6,ti)],lo:=[(0,[.sl 1 [],.sl 2 [],.sl 3 [],ti])],ro:=[(0,.int,true),(1,(.sl .int),false),(2,.guest,false),(3,.int,false)]})]
theorem zRO (a:Bare)(b:Int)(g:zvY a b=true):∃N,zD9 N a b=some [aS .int (zmy a b)]:=by
 have h:=zN.1 g;have e:=zc5 h.2.1.1;refine zcw fun N d=>?_;unfold zD9 oN;conv=>zeta
 refine(zbj a.Guests (fun i (t:(List Int))=>(b,(i:Int),a.Pending,t,a.Memory,a.Guests,a.Outs,())) _ (fun i (x:Guest) (t:List Int) f=>bif posts x.Ctl b then (cond (few (ln (ap t [(i:Int)]))) (f (ap t [(i:Int)])) none) else f t) (fun (t:(List Int))=>(some [(.one (.s .int t))])) (fun i c t rec=>?_) (fun t rec=>?_) _ ([]) (d e.1)).trans ?_;{simp only [zbS c,zbl c,zbv c,zbh c e.1,cT]};{simp only [zbK,cF]};exact zu5 (fun (x:Guest)=>posts x.Ctl b) _ a.Guests 0 [] (by simpa using e.2)
theorem zKM:vL 305 zz7:=kF2 zW0 zu zA zo zSz zRO
def zbb0:zbb:=[(305,zz7)]++zbbZ
theorem zW1:zM zbb0:=zi zKM zW0
def zG7 (n:Int)(l:List Guest)(k:Int):List Guest:=up l k (znV (ix l k zl) n)
def zmi (n:Int)(a:List Int)(l:List Guest):List Guest:=a.foldl (zG7 n) l
theorem zFh (n:Int)(l:List Guest)(k:Int):(zG7 n l k).length=l.length:=zgX _ _ _
theorem z5H {n:Int}{l:List Guest}{k:Int}(a:hasB k (ln l)=true)(h:zk3 l):zk3 (zG7 n l k):=zHe h (zZG h a _)
theorem zGu {n:Int}:∀(a:List Int) {l:List Guest},(∀k∈a,hasB k (ln l)=true)->zk3 l->zk3 (zmi n a l)/\(zmi n a l).length=l.length
 |[],_,_,h=>⟨h,rfl⟩
 |k::a,l,b,h=>by have e:=z5H (n:=n) (b k (by simp)) h;obtain⟨c,d⟩:=zGu (n:=n) a (l:=zG7 n l k) (fun j f=>by rw[ln,zFh];exact b j (by simp[f])) e;exact⟨c,d.trans (zFh _ _ _)⟩
theorem zXj {e:Type}(n:Int)(K:List Guest->Option e):∀(a:List Int) (i:Nat) (l:List Guest),(∀k∈a,hasB k (ln l)=true)->
 goL (fun _ k (t:List Guest) d=>bif inb k (ln t) then (cond (inb k (ln t)) (d (up t k (znV (ix t k zl) n))) none) else none) K a i l=K (zmi n a l)
 |[],_,_,_=>rfl
 |k::a,i,l,h=>by have c:inb k (ln l)=true:=h k (by simp);simp only[goL,c,cT];exact zXj n K a (i+1) (zG7 n l k) (fun j b=>by rw[ln,zFh];exact h j (by simp[b]))
def zG8 (b:Bare)(n:Int):Bare:=bif ieq (ln (zej b.Guests n)) 0 then {b with Pending:=zt7 b.Pending n} else {b with Guests:=zmi n (zej b.Guests n) b.Guests}
def zfb (b:Bare)(n:Int):Bool:=bif zbR b then hasB n 8 else false
def zjT (b:Bare)(n:Int):Bare:=bif zfb b n then zG8 b n else b
theorem zO3 {b:Bare}{n:Int}:∀k∈zej b.Guests n,hasB k (ln b.Guests)=true:=fun k a=>by have:=zXy _ _ _ k a;exact qJ (by simp only[ln];omega)
theorem z5b {b:Bare}{n:Int}(h:ieq (ln (zej b.Guests n)) 0=true):zmi n (zej b.Guests n) b.Guests=b.Guests:=by have a:((zej b.Guests n).length:Int)=0:=qD h;have:zej b.Guests n=[]:=uP.1 (by omega);rw[this];rfl
theorem z5a {b:Bare}{n:Int}:(cond (ieq (ln (zej b.Guests n)) 0) (some [AV.agg (Ty.cells .bare ⟨b.Memory,zmi n (zej b.Guests n) b.Guests,b.Outs,zt7 b.Pending n⟩),AV.one (.b true)]) (some [AV.agg (Ty.cells .bare ⟨b.Memory,zmi n (zej b.Guests n) b.Guests,b.Outs,b.Pending⟩),AV.one (.b true)]))=some [AV.agg (Ty.cells .bare (zG8 b n)),AV.one (.b true)]:=by unfold zG8;cases h:ieq (ln (zej b.Guests n)) 0;{rfl};{simp only [cT,z5b h]}
@[simp] abbrev zpx (b:Bare)(n:Int):Bool:=pc (SmB b)
@[simp] abbrev zi8 (b:Bare)(n:Int):Bare:=zjT b n
@[simp] abbrev zly (b:Bare)(n:Int):Bool:=zfb b n
def zqT:Run:=rF2 (dT .bare) dI fun b c=>(zpx b c,[aT .bare (zi8 b c),aB (zly b c)])
def zD1 (N:Nat)(i:Bare)(e:Int):OA:=
 let b:=(zcx i); (oN (zfn i) (oN (zpw b) (cond (nB (ze2 b)) (some [(aT .bare b),(aB false)]) (oN (zO e 0 7) (cond (nB (zU e 0 7)) (some [(aT .bare b),(aB false)]) (oN (zvY b e) (iter (σ:=(Int×(Int×(Int×(Int×((List Int)×(lM×(lG×((List Int)×(lM×(lG×((List Int)×Unit)))))))))))) N (fun j a=>let h:=a.2.2.2.2.2.2.2.1;let d:=a.2.2.2.2.1;let c:=a.2.2.2.2.2.2.1;let f:=(ix d a.2.1 0);let g:=(ix c f zl); (cond (ilt a.2.1 (ln d)) (oN (inb a.2.1 (ln d)) (oN (inb a.2.1 (ln d)) (oN (inb f (ln c)) (oN (zkL g.Pending a.1) (oN (inb f (ln c)) (j (a.1,((zL .i64 a.2.1 1),(a.2.2.1,(a.2.2.2.1,(d,(a.2.2.2.2.2.1,((up c f ({g with Pending:=(zhc g.Pending a.1)}:Guest)),(h,(a.2.2.2.2.2.2.2.2.1,(a.2.2.2.2.2.2.2.2.2.1,(a.2.2.2.2.2.2.2.2.2.2.1,()))))))))))))))))) (cond (ieq (ln d) 0) (oN (zkL a.2.2.1 a.1) (some [(aT .bare (⟨a.2.2.2.2.2.1,c,h,(zhc a.2.2.1 a.1)⟩:Bare)),(aB true)])) (some [(aT .bare (⟨a.2.2.2.2.2.1,c,h,a.2.2.1⟩:Bare)),(aB true)])))) (e,(0,(b.Pending,(0,((zmy b e),(b.Memory,(b.Guests,(b.Outs,([],([],([],()))))))))))))))))))
def zSv:FuncId->Nat->Option Tmpl:=zx [(252,0,{n:=62,tm:=[(1,ti),(2,.lp 0 0),(4,.lp 1 0),(6,.sl 0 []),(7,ti)],lo:=[(0,[.sl 1 [],.sl 2 [],.sl 3 [],ti]),(1,[.sl 4 [],.sl 5 [],.sl 6 [],ti])],ro:=[(0,.int,true),(1,(.sl .int),true),(2,.guest,true),(3,.int,true),(4,(.sl .int),true),(5,.guest,true),(6,.int,true)]})]
theorem zRF (a:Bare)(c:Int)(l:zpx a c=true):∃N,zD1 N a c=some [aT .bare (zi8 a c),aB (zly a c)]:=by
 have h:=zN.1 l;have j:(zej a.Guests c).length<=big:=qU (zBn _ _ _) (zc5 h.2.1.1).1;refine zcw fun N g=>?_;unfold zD1 zi8 zly zjT zfb oN nB;conv=>zeta
 refine must (zby h) (must rfl (brN (fun e=>?_) (fun e=>must rfl (brN (fun d=>?_) (fun d=>must (zby h) ?_)))));{simp only [show zbR a=false from e,cF]};{simp only [show zbR a=true from e,show hasB c 8=false from by first|exact d|exact(z8H c).symm.trans d,cT,cF]};simp only[show zbR a=true from e,show hasB c 8=true from by first|exact d|exact(z8H c).symm.trans d,cT];refine(zbj (zmy (zcx a) c) (fun i (t:lG)=>(c,(i:Int),(zcx a).Pending,0,(zmy (zcx a) c),(zcx a).Memory,t,(zcx a).Outs,[],[],[],())) _ (fun _ k (t:List Guest) m=>bif inb k (ln t) then (cond (inb k (ln t)) (m (up t k (znV (ix t k zl) c))) none) else none) (fun (t:lG)=>(cond (ieq (ln (zmy (zcx a) c)) 0) (cond (zkL (zcx a).Pending c) (some [(.agg (Ty.cells .bare (⟨(zcx a).Memory,t,(zcx a).Outs,(zhc (zcx a).Pending c)⟩:Bare))),(.one (.b true))]) none) (some [(.agg (Ty.cells .bare (⟨(zcx a).Memory,t,(zcx a).Outs,(zcx a).Pending⟩:Bare))),(.one (.b true))]))) (fun i f t rec=>?_) (fun t rec=>?_) _ ((zcx a).Guests) (g j)).trans ?_;{simp only [zbS f,zbl f,zbv f,zbh f j,cT];rfl};{simp only [zbK,cF];rfl};exact(zXj c _ _ 0 _ zO3).trans z5a
theorem zu9:vL 252 zqT:=kF2 zW1 zu zA zo zSv zRF
def z6g:zbb:=[(240,ztk),(243,zpk),(246,zn0),(247,zn2),(248,zn1),(249,ztj),(253,zti),(252,zqT)]++zbb0
theorem zEv:zM z6g:=zi zwN (zi ztF (zi zss (zi zsu (zi zst (zi zwM (zi zwL (zi zu9 zW1)))))))
theorem z8B {n:Int}(h:(ieq n 4||ieq n 8)=true):n=4\/n=8:=by rcases j7 _ _ ▸ h with h|h;{exact .inl (qD h)};{exact .inr (qD h)}
theorem z7z {n:Int}(h:(ieq n 8||ieq n 12)=true):n=8\/n=12:=by rcases j7 _ _ ▸ h with h|h;{exact .inl (qD h)};{exact .inr (qD h)}
@[simp] abbrev zjc (n:Int):Bool:=ieq n 4||ieq n 8
@[simp] abbrev zg6 (n:Int):List Slot:=List.replicate n.toNat ⟨-1,0⟩
def zqX:Run:=rF1 dI fun b=>(zjc b,[aS .slot (zg6 b)])
def zWq (N:Nat)(b:Int):OA:=
 (oN (zrM b 0 24) (iter (σ:=(Int×(lS×Unit))) N (fun c a=>(cond (igt a.1 0) (oN zcA (oN (few (ln (ap a.2.1 [zbw]))) (c ((wsub .i64 a.1 1),((ap a.2.1 [zbw]),()))))) (some [(aS .slot a.2.1)]))) ((zsG b 0 24),([],()))))
def zSA:FuncId->Nat->Option Tmpl:=zx [(144,0,{n:=17,tm:=[(3,.sl 0 []),(4,ti)],lo:=[],ro:=[(0,.slot,true)]})]
theorem zRT (a:Int)(b:zjc a=true):∃N,zWq N a=some [aS .slot (zg6 a)]:=by refine⟨30,?_⟩;have h:a=4\/a=8:=z8B b;rcases h with rfl|rfl<;>(change _=_;kernel_rfl)
theorem zvc:vL 144 zqX:=kF1 zEv zu zA zo zSA zRT
@[simp] abbrev zpL (n:Int):Bool:=ieq n 8||ieq n 12
@[simp] abbrev zjX (n:Int):List (List Int):=List.replicate n.toNat [0,0,0,0]
def zvM:Run:=rF1 dI fun b=>(zpL b,[aS (.sl .int) (zjX b)])
def z3r (N:Nat)(b:Int):OA:=
 (oN (zrM b 0 24) (iter (σ:=(Int×(lM×Unit))) N (fun c a=>(cond (igt a.1 0) (oN (cond (few 4) (ieq 4 4) false) (oN (few (ln (ap a.2.1 [(rp 4 0)]))) (c ((wsub .i64 a.1 1),((ap a.2.1 [(rp 4 0)]),()))))) (some [(aS (.sl .int) a.2.1)]))) ((zsG b 0 24),([],()))))
def zZ7:FuncId->Nat->Option Tmpl:=zx [(84,0,{n:=17,tm:=[(3,.sl 0 []),(4,ti)],lo:=[],ro:=[(0,(.sl .int),true)]})]
theorem zYh (a:Int)(b:zpL a=true):∃N,z3r N a=some [aS (.sl .int) (zjX a)]:=by refine⟨30,?_⟩;have h:a=8\/a=12:=z7z b;rcases h with rfl|rfl<;>(change _=_;kernel_rfl)
theorem zzk:vL 84 zvM:=kF1 zEv zu zA zo zZ7 zYh
def z6h:zbb:=[(144,zqX),(84,zvM)]++z6g
theorem zTk:zM z6h:=zi zvc (zi zzk zEv)
def zlN:List Slot:=List.replicate 4 ⟨-1,0⟩
def ze0 (p:List Ins):Guest:=⟨p,0,0,zlN,zlN,⟨0,0,false⟩,0,⟨0,0,false,0⟩,false,[]⟩
@[simp] abbrev zja (p:List Ins):Bool:=pc (p.length<=1048576)
@[simp] abbrev zcr (p:List Ins):Guest:=ze0 p
def zmk:Run:=rF1 (dS .ins) fun b=>(zja b,[aT .guest (zcr b)])
def zD4 (N:Nat)(a:lI):OA:=
 (oN (few (ln (ap [] a))) (oN (zjc 4) (oN (zjc 4) (some [(aT .guest (⟨(ap [] a),0,0,(zg6 4),(zg6 4),⟨0,0,false⟩,0,⟨0,0,false,0⟩,false,[]⟩:Guest))]))))
theorem zRJ (a:List Ins)(b:zja a=true):∃N,zD4 N a=some [aT .guest (zcr a)]:=by have c:=zN.1 b;refine⟨0,?_⟩;unfold zD4 oN;refine mu (must rfl (must rfl ?_));first|rfl|(simp only [*,zcr,ze0,zlN,cT,cF]<;>rfl)|simp_all[Ty.cells,zcr,ze0,zlN]
theorem znN:vL 145 zmk:=kF1 zTk zu zA zo (zx []) zRJ
def zbez:zbb:=[(145,zmk)]++z6h
theorem zEw:zM zbez:=zi znN zTk
def zR9:List (List Int):=List.replicate 8 [0,0,0,0]
def SmPs (a:List (List Ins)):Prop:=a.length<=1048576/\∀p∈a,p.length<=1048576
theorem zTK {d c j:Type}(m:Nat)(f:d->c)(K:List c->Option j):∀(l:List d) (i:Nat) (a:List c),a.length+l.length<=2147483648->
 goL (fun (i:Nat) x a k=>bif ilt (i:Int) (m:Int) then (cond (few (ln (ap a [f x]))) (k (ap a [f x])) none) else K a) K l i a=K (a++(l.take (m-i)).map f)
 |[],i,a,_=>by simp[goL]
 |x::l,i,a,g=>by simp only[qZ]at g;have e:few (ln (ap a [f x]))=true:=zgV (by simp[ap];omega);by_cases h:i<m;{have b:ilt (i:Int) (m:Int)=true:=qJ (by omega);simp only[goL,b,e,cT];rw[zTK m f K l (i+1) (ap a [f x]) (by simp[ap];omega)];rw[show m-i=m-(i+1)+1 by omega];simp[ap]};{have b:ilt (i:Int) (m:Int)=false:=qH (by omega);simp only[goL,b,cF];rw[show m-i=0 by omega];simp}
@[simp] abbrev zGd (a:GAct):Bool:=true
@[simp] abbrev zAg (a:GAct):Bool:=win a.Kind 1 17
def zJk:Run:=rF1 (dT .act) fun b=>(zGd b,[aB (zAg b)])
def zSV (N:Nat)(a:GAct):OA:=
 (oN (zO a.Kind 1 17) (some [(aB (zU a.Kind 1 17))]))
theorem z03 (a:GAct)(b:zGd a=true):∃N,zSV N a=some [aB (zAg a)]:=by refine⟨0,?_⟩;unfold zSV oN;refine must rfl ?_;first|rfl|(simp only [*,zAg,cT,cF]<;>rfl)|simp_all[Ty.cells,zAg]
theorem zUw:vL 153 zJk:=kF1 zEw zu zA zo (zx []) z03
@[simp] abbrev zyD (k:Int):Bool:=true
@[simp] abbrev zsI (k:Int):Bool:=win k 13 17
def zC1:Run:=rF1 dI fun b=>(zyD b,[aB (zsI b)])
def zIA (N:Nat)(a:Int):OA:=
 (oN (zO a 13 17) (some [(aB (zU a 13 17))]))
theorem zVf (a:Int)(b:zyD a=true):∃N,zIA N a=some [aB (zsI a)]:=by refine⟨0,?_⟩;unfold zIA oN;refine must rfl ?_;first|rfl|(simp only [*,zsI,cT,cF]<;>rfl)|simp_all[Ty.cells,zsI]
theorem zNP:vL 154 zC1:=kF1 zEw zu zA zo (zx []) zVf
@[simp] abbrev zGe (a:GAct):Bool:=true
@[simp] abbrev zq0 (a:GAct):Ctl:=⟨a.X,a.Y,ieq a.Z 1⟩
def zJl:Run:=rF1 (dT .act) fun b=>(zGe b,[.agg (zoM (zq0 b))])
def zSW (N:Nat)(a:GAct):OA:=
 (some [(.agg [(.i .i64 a.X),(.i .i64 a.Y),(.b (ieq a.Z 1))])])
theorem z04 (a:GAct)(b:zGe a=true):∃N,zSW N a=some [.agg (zoM (zq0 a))]:=by refine⟨0,?_⟩;unfold zSW;first|rfl|(simp only [*,zq0,cT,cF]<;>rfl)|simp_all[Ty.cells,zq0]
theorem zUx:vL 163 zJl:=kF1 zEw zu zA zo (zx []) z04
end
end Go.Proofs.YthdlghbibaoabaaGreat.E
