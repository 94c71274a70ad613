/- What is proved here: a part of the proof that the statement of this claim holds (several texts of wip/, laid together). -/
import Derived.Test.YtnnmbkjhakbicaaGreatX3
namespace Go.Proofs.YtnnmbkjhakbicaaGreat.E
open Go
set_option linter.constructorNameAsVariable false
set_option linter.unusedVariables false
set_option maxRecDepth 100000
set_option linter.unusedSimpArgs false
set_option linter.unusedSectionVars false
noncomputable section
theorem must {d:Type}{c:Bool}{a b r:Option d}(h:c=true)(k:a=r):(cond c a b)=r:=by rw[h];exact k
theorem mu {d:Type}{c:Bool}{a b r:Option d}(k:a=r)(h:c=true:=by first|assumption|(simp_all<;>omega)):(cond c a b)=r:=must h k
theorem zbA {d:Type}{c:Bool}{a b r:Option d}(h:c=false)(k:b=r):(cond c a b)=r:=by rw[h];exact k
theorem br {f:Type}{c:Bool}{a b r:Option f}(d:c=true->a=r)(e:c=false->b=r):(cond c a b)=r:=by cases c;{exact e rfl};{exact d rfl}
theorem brN {f:Type}{c:Bool}{a b r:Option f}(d:c=false->a=r)(e:c=true->b=r):(cond (cond c false true) a b)=r:=by cases c;{exact d rfl};{exact e rfl}
theorem shr {a b:Type}{x:a}{f:a->Option b}{r:Option b}(h:f x=r):share x f=r:=h
theorem zka {e:Type}{c p:Bool}{a b:Option e}(d:c=true):(cond c (cond (cond p false true) a b) none)=bif p then b else a:=by rw[d];cases p<;>rfl
attribute [simp] zB
@[simp] theorem z6T {a:Type}(l:List a):(few (ln l)=true)↔l.length<=2147483648:=by unfold few ln;rw[decide_eq_true_iff];omega
@[simp] theorem z90 {a:Type}(l m:List a):(ap l m).length=l.length+m.length:=by simp[ap]
attribute [simp] zn4 zf4
@[simp] theorem z5u (n:Nat)(k:IntKind)(x:Int):CVB n (.i k x)↔True:=⟨λ_=>trivial,λ_=>.i k x⟩
@[simp] theorem z96 (n:Nat)(x:Bool):CVB n (.b x)↔True:=⟨λ_=>trivial,λ_=>.b x⟩
theorem znf {n:Nat}{t:Ty}(l:List t.den):CVB n (.s t l)↔l.length<=n/\∀x∈l,∀c∈t.cells x,CVB n c:=⟨λh=>h.inv,λh=>.s t l h.1 h.2⟩
@[simp] theorem zXZ (n:Nat)(l:List Int):CVB n (.s .int l)↔l.length<=n:=by rw[znf];simp[Ty.cells]
@[simp] theorem z8p (n:Nat)(l:List Int):CVB n (.s .u8 l)↔l.length<=n:=by rw[znf];simp[Ty.cells]
@[simp] theorem z3e (n:Nat)(l:List Bool):CVB n (.s .bool l)↔l.length<=n:=by rw[znf];simp[Ty.cells]
@[simp] theorem z3g (n:Nat)(l:List Slot):CVB n (.s .slot l)↔l.length<=n:=by rw[znf];simp[Ty.cells]
@[simp] theorem z6K (n:Nat)(l:List Ins):CVB n (.s .ins l)↔l.length<=n:=by rw[znf];simp[Ty.cells]
@[simp] theorem z05 (n:Nat)(l:List Entry):CVB n (.s .entry l)↔l.length<=n:=by rw[znf];simp[Ty.cells]
@[simp] theorem z6J (n:Nat)(l:List GAct):CVB n (.s .act l)↔l.length<=n:=by rw[znf];simp[Ty.cells]
@[simp] theorem z3h (n:Nat)(l:List Told):CVB n (.s .told l)↔l.length<=n:=by rw[znf];simp[Ty.cells]
def SmM (m:List (List Int)):Prop:=m.length<=1048576/\∀x∈m,x.length<=1048576
def SmG (g:Guest):Prop:=g.Prog.length<=1048576/\g.Written.length<=1048576/\g.Live.length<=1048576/\g.Seen.length<=1048576
def zoV (l:List Guest):Prop:=l.length<=1048576/\∀x∈l,SmG x
def SmB (b:Bare):Prop:=SmM b.Memory/\zoV b.Guests/\b.Outs.length<=1048576
def znT (l:List Bare):Prop:=l.length<=1048576/\∀x∈l,SmB x
theorem z3X:sm=1048576:=rfl
@[simp] theorem zY1 (l:List Int):CVB sm (.s .int l)↔l.length<=1048576:=zXZ sm l
@[simp] theorem z9D (l:List Int):CVB sm (.s .u8 l)↔l.length<=1048576:=z8p sm l
@[simp] theorem zWC (l:List Bool):CVB sm (.s .bool l)↔l.length<=1048576:=z3e sm l
@[simp] theorem zWD (l:List Slot):CVB sm (.s .slot l)↔l.length<=1048576:=z3g sm l
@[simp] theorem z9j (l:List Ins):CVB sm (.s .ins l)↔l.length<=1048576:=z6K sm l
@[simp] theorem zTO (l:List Entry):CVB sm (.s .entry l)↔l.length<=1048576:=z05 sm l
@[simp] theorem z9i (l:List GAct):CVB sm (.s .act l)↔l.length<=1048576:=z6J sm l
@[simp] theorem z8V (l:List Told):CVB sm (.s .told l)↔l.length<=1048576:=z3h sm l
@[simp] theorem zq4 (l:List (List Int)):CVB sm (.s (.sl .int) l)↔SmM l:=by rw[znf];simp[Ty.cells,SmM,z3X]
@[simp] theorem z6o (g:Guest):(∀c∈Ty.cells .guest g,CVB sm c)↔SmG g:=by simp[Ty.cells,SmG,z3X]
@[simp] theorem zvC (l:List Guest):CVB sm (.s .guest l)↔zoV l:=by rw[znf];simp only[z6o];rfl
@[simp] theorem z6n (b:Bare):(∀c∈Ty.cells .bare b,CVB sm c)↔SmB b:=by simp only[Ty.cells,qH,qY,or_false,vE,forall_eq,zq4,zvC,zXZ,z5u,and_true];rfl
@[simp] theorem z9I (l:List Bare):CVB sm (.s .bare l)↔znT l:=by rw[znf];simp only[z6n];rfl
@[simp] theorem z95 (a:List Ins)(b c:Int)(d e:List Slot)(f:Ctl)(g:Int)(h:GExit)(i:Bool)(j:List Int):SmG ⟨a,b,c,d,e,f,g,h,i,j⟩↔a.length<=1048576/\d.length<=1048576/\e.length<=1048576/\j.length<=1048576:=Iff.rfl
@[simp] theorem z94 (m:List (List Int))(g:List Guest)(o:List Int)(p:Int):SmB ⟨m,g,o,p⟩↔SmM m/\zoV g/\o.length<=1048576:=Iff.rfl
theorem zMf {m:List (List Int)}{i:Int}{x:List Int}(h:SmM m)(b:x.length<=1048576):SmM (up m i x):=by refine⟨by simpa using h.1,λy a=>?_⟩;rcases jU a with a|rfl;{exact h.2 y a};{exact b}
theorem zDJ {m:List Guest}{i:Int}{x:Guest}(h:zoV m)(b:SmG x):zoV (up m i x):=by refine⟨by simpa using h.1,λy a=>?_⟩;rcases jU a with a|rfl;{exact h.2 y a};{exact b}
theorem zYn {m:List Bare}{i:Int}{x:Bare}(h:znT m)(b:SmB x):znT (up m i x):=by refine⟨by simpa using h.1,λy a=>?_⟩;rcases jU a with a|rfl;{exact h.2 y a};{exact b}
theorem zMc {l:List Guest}{i:Int}(h:zoV l)(a:hasB i (ln l)=true)(d:Guest):SmG (ix l i d):=h.2 _ (zbz a d)
theorem zMa {l:List Bare}{i:Int}(h:znT l)(a:hasB i (ln l)=true)(d:Bare):SmB (ix l i d):=h.2 _ (zbz a d)
theorem z8O {l:List (List Int)}{i:Int}(h:SmM l)(a:hasB i (ln l)=true)(d:List Int):(ix l i d).length<=1048576:=h.2 _ (zbz a d)
@[simp] theorem z9z:SmG zu:=⟨by decide,by decide,by decide,by decide⟩
@[simp] theorem zTc (x a b:Int):zk x a b=zk x a b:=rfl
@[simp] theorem zUb (i n:Int):inb i n=hasB i n:=rfl
attribute [simp] zbH
@[simp] theorem zrv {a:Type}{l:List a}(h:l.length<=1048576)(i:Int):zk i 0 (wsub .i64 (ln l) 1)=hasB i (ln l):=zQF (zbV h).1 i
theorem zIH {a:Type}{l:List a}(h:l.length<=big)(i:Int):zk i 0 (wsub .i64 (ln l) 1)=hasB i (ln l):=zQF h i
theorem ze4 {x a b:Int}:(zk x a b=true)↔a<=x/\x<=b:=by unfold zk ige ile;simp only[qE,decide_eq_true_iff]
theorem z6X (a b:Int):ilt a b = !ige a b:=by unfold ilt ige;by_cases h:a<b;{rw [qL h,qI (by omega)];rfl};{rw [qI h,qL (by omega)];rfl}
attribute [simp] zbj zbj zhq zhq zhM zhM zcW zcW ze1 ze1 zpc zpc zbE zbE
attribute [simp] zfx zda zhv zd5
attribute [simp] zht zdy zgK zd9
def zcj (a:Int):Int:=bif ilt a 0 then -1 else zWr .i64 a 4
def zgO (a:Int):Int:=bif ilt a 0 then -1 else zrx a 4
@[simp] abbrev zbi (a:Int):Bool:=true
@[simp] abbrev zbm (a:Int):Int:=zcj a
def znz:Run:=rF1 dI λb=>(zbi b,[aI<|zbm b])
def zBk (N:Nat)(a:Int):OA:=
 (cond (ilt a 0) (some [aI<|-1])<|oN (ine 4 0)<|some [aI<|zWr .i64 a 4])
theorem zxw (a:Int)(b:zbt big [aI a])(c:zbi a=true):∃N,zBk N a=some [aI<|zbm a]:=by refine⟨0,?_⟩;unfold zBk oN;refine br (λ_=>?_) (λ_=>must rfl ?_);all_goals first|rfl|(simp only [*,zbm,zcj,cT,cF]<;>rfl)|simp_all[Ty.cells,zbm,zcj]
theorem zHz:vF 212 znz:=hF1 zdq zl zn zo (zq []) zxw
theorem zG5:vF 164 znz:=hF1 zdq zl zn zo (zq []) zxw
@[simp] abbrev zbX (a:Int):Int:=zgO a
def zny:Run:=rF1 dI λb=>(zbi b,[aI<|zbX b])
def zBj (N:Nat)(a:Int):OA:=
 (cond (ilt a 0) (some [aI<|-1])<|oN (ine 4 0)<|some [aI<|zrx a 4])
theorem zxv (a:Int)(b:zbt big [aI a])(c:zbi a=true):∃N,zBj N a=some [aI<|zbX a]:=by refine⟨0,?_⟩;unfold zBj oN;refine br (λ_=>?_) (λ_=>must rfl ?_);all_goals first|rfl|(simp only [*,zbX,zgO,cT,cF]<;>rfl)|simp_all[Ty.cells,zbX,zgO]
theorem zHy:vF 217 zny:=hF1 zdq zl zn zo (zq []) zxv
theorem zG4:vF 169 zny:=hF1 zdq zl zn zo (zq []) zxv
def zgM (w:Bool):Int:=bif w then 2 else 1
@[simp] abbrev ziq (w:Bool):Bool:=true
@[simp] abbrev zco (w:Bool):Int:=zgM w
def zql:Run:=rF1 dB λb=>(ziq b,[aI<|zco b])
def zJe (N:Nat)(a:Bool):OA:=
 (cond a (some [aI 2])<|some [aI 1])
theorem zCG (a:Bool)(b:zbt big [aB a])(c:ziq a=true):∃N,zJe N a=some [aI<|zco a]:=by refine⟨0,?_⟩;unfold zJe;refine br (λ_=>?_) (λ_=>?_);all_goals first|rfl|(simp only [*,zco,zgM,cT,cF]<;>rfl)|simp_all[Ty.cells,zco,zgM]
theorem zNQ:vF 213 zql:=hF1 zdq zl zn zo (zq []) zCG
theorem zNn:vF 165 zql:=hF1 zdq zl zn zo (zq []) zCG
def zB9 (p:Int)(w:Bool):GExit:=⟨1,p,w,0⟩
def zGJ (n:Int):GExit:=⟨2,0,false,n⟩
def zPi (n:Int):GExit:=⟨3,0,false,n⟩
@[simp] abbrev zfQ (p:Int)(w:Bool):Bool:=true
@[simp] abbrev zej (p:Int)(w:Bool):GExit:=zB9 p w
def zmn:Run:=rF2 dI dB λb c=>(zfQ b c,[.agg<|zto<|zej b c])
def zzE (N:Nat)(a:Int)(c:Bool):OA:=
 (some [.agg [.i .i64 1,.i .i64 a,.b c,.i .i64 0]])
theorem zv0 (a:Int)(b:Bool)(c:zbt big [aI a,aB b])(d:zfQ a b=true):∃N,zzE N a b=some [.agg<|zto<|zej a b]:=by refine⟨0,?_⟩;unfold zzE;first|rfl|(simp only [*,zej,cT,cF]<;>rfl)|simp_all[Ty.cells,zej]
theorem zD8:vF 215 zmn:=hF2 zdq zl zn zo (zq []) zv0
theorem zDP:vF 167 zmn:=hF2 zdq zl zn zo (zq []) zv0
@[simp] abbrev zgo (n:Int):Bool:=true
@[simp] abbrev zio (n:Int):GExit:=zGJ n
def znB:Run:=rF1 dI λb=>(zgo b,[.agg<|zto<|zio b])
def zBr (N:Nat)(a:Int):OA:=
 (some [.agg [.i .i64 2,.i .i64 0,.b false,.i .i64 a]])
theorem zxx (a:Int)(b:zbt big [aI a])(c:zgo a=true):∃N,zBr N a=some [.agg<|zto<|zio a]:=by refine⟨0,?_⟩;unfold zBr;first|rfl|(simp only [*,zio,cT,cF]<;>rfl)|simp_all[Ty.cells,zio]
theorem zHD:vF 317 znB:=hF1 zdq zl zn zo (zq []) zxx
theorem zG8:vF 289 znB:=hF1 zdq zl zn zo (zq []) zxx
@[simp] abbrev zlg (n:Int):GExit:=zPi n
def zoK:Run:=rF1 dI λb=>(zgo b,[.agg<|zto<|zlg b])
def zFy (N:Nat)(a:Int):OA:=
 (some [.agg [.i .i64 3,.i .i64 0,.b false,.i .i64 a]])
theorem zzX (a:Int)(b:zbt big [aI a])(c:zgo a=true):∃N,zFy N a=some [.agg<|zto<|zlg a]:=by refine⟨0,?_⟩;unfold zFy;first|rfl|(simp only [*,zlg,cT,cF]<;>rfl)|simp_all[Ty.cells,zlg]
theorem zKI:vF 319 zoK:=hF1 zdq zl zn zo (zq []) zzX
theorem zKg:vF 347 zoK:=hF1 zdq zl zn zo (zq []) zzX
def zeo (t x:Int):Bool:=bif zk t 0 3 then (cond (zk x 1 2) (ine (wand .i64 t x) 0) false) else false
theorem z6e (x:Int):zk x 1 2=(ieq x 1||ieq x 2):=by have h:(zk x 1 2=true)↔(ieq x 1||ieq x 2)=true:=(by rw[ze4];simp only[ieq,jW,qK];omega);cases a:zk x 1 2<;>cases b:(ieq x 1||ieq x 2)<;>simp_all
@[simp] abbrev zga (t x:Int):Bool:=true
@[simp] abbrev zfw (t x:Int):Bool:=zeo t x
def zoC:Run:=rF2 dI dI λb c=>(zga b c,[aB<|zfw b c])
def zFq (N:Nat)(a b:Int):OA:=
 (oN (zD a 0 3)<|cond (zk a 0 3) (oN (zD b 1 2)<|cond (zk b 1 2) (some [aB<|ine (wand .i64 a b) 0]) oF) oF)
theorem zSd (a b:Int)(c:zga a b=true):∃N,zFq N a b=some [aB<|zfw a b]:=by refine⟨0,?_⟩;unfold zFq oN;refine must rfl (br (λ_=>must rfl (br (λ_=>?_) λ_=>?_)) λ_=>?_);all_goals first|rfl|(simp only [*,zfw,zeo,cT,cF]<;>rfl)|simp_all[Ty.cells,zfw,zeo]
theorem zKA:vF 318 zoC:=kF2 zdq zl zn zo (zq []) zSd
def zEX (N:Nat)(a b:Int):OA:=
 let c:=aB<|ine (wand .i64 a b) 0; (oN (zD a 0 3)<|cond (zk a 0 3) (cond (ieq b 1) (some [c])<|cond (ieq b 2) (some [c]) oF) oF)
theorem zRL (a b:Int)(c:zga a b=true):∃N,zEX N a b=some [aB<|zfw a b]:=by
 refine⟨0,?_⟩;unfold zEX oN;conv=>zeta
 refine must rfl (br (λ_=>br (λ_=>?_) λ_=>br (λ_=>?_) λ_=>?_) λ_=>?_);all_goals first|rfl|(simp only [*,zfw,zeo,z6e,cT,cF]<;>rfl)|simp_all[Ty.cells,zfw,zeo,z6e]
theorem zJ8:vF 290 zoC:=kF2 zdq zl zn zo (zq []) zRL
def zhG (p:Int):Bool:=zk p 0 255
@[simp] abbrev zbY (p:Int):Bool:=true
@[simp] abbrev zes (p:Int):Bool:=zhG p
def zqq:Run:=rF1 dI λb=>(zbY b,[aB<|zes b])
def zJi (N:Nat)(a:Int):OA:=
 (oN (zD a 0 255)<|some [aB<|zk a 0 255])
theorem zCI (a:Int)(b:zbt big [aI a])(c:zbY a=true):∃N,zJi N a=some [aB<|zes a]:=by refine⟨0,?_⟩;unfold zJi oN;refine must rfl ?_;first|rfl|(simp only [*,zes,zhG,cT,cF]<;>rfl)|simp_all[Ty.cells,zes,zhG]
theorem zNV:vF 314 zqq:=hF1 zdq zl zn zo (zq []) zCI
theorem zNt:vF 296 zqq:=hF1 zdq zl zn zo (zq []) zCI
def zeO (l:List Ins)(p:Int):Ins:=bif hasB p (ln l) then ix l p zsg else ⟨7,0⟩
@[simp] abbrev zdi (l:List Ins)(p:Int):Bool:=true
@[simp] abbrev zdr (l:List Ins)(p:Int):Ins:=zeO l p
def zrZ:Run:=rF2 (dS .ins) dI λb c=>(zdi b c,[aT .ins<|zdr b c])
def zP7 (N:Nat)(a:lI)(b:Int):OA:=
 (oN (zD b 0<|wsub .i64 (ln a) 1)<|cond (nB<|zk b 0<|wsub .i64 (ln a) 1) (some [.agg [.i .i64 7,.i .i64 0]])<|oN (inb b<|ln a)<|some [.agg [.i .i64 (ix a b zsg).Op,.i .i64 (ix a b zsg).X]])
theorem zW1 (a:List Ins)(b:Int)(c:zbt big [aS .ins a,aI b])(e:zdi a b=true):∃N,zP7 N a b=some [aT .ins<|zdr a b]:=by have d:=((zbv c).1 _ (qF.2 rfl)).len;have f:=zIH d;refine⟨0,?_⟩;unfold zP7 oN nB;refine must rfl (brN (λ_=>?_) λ_=>mu ?_);all_goals first|rfl|(simp only [*,zdr,zeO,cT,cF]<;>rfl)|simp_all[Ty.cells,zdr,zeO]
theorem zRp:vF 222 zrZ:=hF2 zdq zl zn zo (zq []) zW1
def zPV (N:Nat)(a:lI)(b:Int):OA:=
 (oN (zZ b<|ln a)<|cond (nB<|zbH b<|ln a) (some [.agg [.i .i64 7,.i .i64 0]])<|oN (inb b<|ln a)<|some [.agg [.i .i64 (ix a b zsg).Op,.i .i64 (ix a b zsg).X]])
theorem zWR (a:List Ins)(b:Int)(c:zdi a b=true):∃N,zPV N a b=some [aT .ins<|zdr a b]:=by refine⟨0,?_⟩;unfold zPV oN nB;refine must rfl (brN (λ_=>?_) λ_=>mu ?_);all_goals first|rfl|(simp only [*,zdr,zeO,cT,cF]<;>rfl)|simp_all[Ty.cells,zdr,zeO]
theorem zRd:vF 279 zrZ:=kF2 zdq zl zn zo (zq []) zWR
def zgw (w:Int):Int:=bif ieq w 5 then 1 else 2
@[simp] abbrev zpZ (w:Int):Bool:=true
@[simp] abbrev zi7 (w:Int):Int:=zgw w
def zC1:Run:=rF1 dI λb=>(zpZ b,[aI<|zi7 b])
def zI3 (N:Nat)(a:Int):OA:=
 (cond (ieq a 5) (some [aI 1])<|some [aI 2])
theorem zUD (a:Int)(b:zpZ a=true):∃N,zI3 N a=some [aI<|zi7 a]:=by refine⟨0,?_⟩;unfold zI3;refine br (λ_=>?_) (λ_=>?_);all_goals first|rfl|(simp only [*,zi7,zgw,cT,cF]<;>rfl)|simp_all[Ty.cells,zi7,zgw]
theorem zNE:vF 283 zC1:=kF1 zdq zl zn zo (zq []) zUD
def zgv (s:Slot)(n:Int):Bool:=bif zdP s noSlot then true else (cond (igt n 0) (cond (zk s.Page 0<|wsub .i64 n 1) (zk s.Rights 1 3) false) false)
@[simp] abbrev zlE (s:Slot)(n:Int):Bool:=true
@[simp] abbrev zjt (s:Slot)(n:Int):Bool:=zgv s n
def zqv:Run:=rF2 (dT .slot) dI λb c=>(zlE b c,[aB<|zjt b c])
def zJm (N:Nat)(a:Slot)(b:Int):OA:=
 (oN zbE<|cond (cond (ieq a.Page zbj.Page) (ieq a.Rights zbj.Rights) false) oT<|oN (zD a.Page 0<|wsub .i64 b 1)<|cond (zk a.Page 0<|wsub .i64 b 1) (cond (igt b 0) (oN (zD a.Rights 1 3)<|some [aB<|zk a.Rights 1 3]) oF) oF)
theorem zUS (a:Slot)(b:Int)(c:zlE a b=true):∃N,zJm N a b=some [aB<|zjt a b]:=by refine⟨0,?_⟩;unfold zJm oN;refine must rfl (br (λ_=>?_) λ_=>must rfl (br (λ_=>br (λ_=>must rfl ?_) λ_=>?_) λ_=>?_));all_goals first|rfl|(simp only [*,zjt,zgv,zdP,cT,cF]<;>rfl)|simp_all[Ty.cells,zjt,zgv,zdP]
theorem zNZ:vF 224 zqv:=kF2 zdq zl zn zo (zq []) zUS
def zIZ (N:Nat)(a:Slot)(b:Int):OA:=
 (oN zbE<|cond (cond (ieq a.Page zbj.Page) (ieq a.Rights zbj.Rights) false) oT<|cond (igt b 0) (oN (zD a.Page 0<|wsub .i64 b 1)<|cond (zk a.Page 0<|wsub .i64 b 1) (oN (zD a.Rights 1 3)<|some [aB<|zk a.Rights 1 3]) oF) oF)
theorem zUz (a:Slot)(b:Int)(c:zlE a b=true):∃N,zIZ N a b=some [aB<|zjt a b]:=by refine⟨0,?_⟩;unfold zIZ oN;refine must rfl (br (λ_=>?_) λ_=>br (λ_=>must rfl (br (λ_=>must rfl ?_) λ_=>?_)) λ_=>?_);all_goals first|rfl|(simp only [*,zjt,zgv,zdP,cT,cF]<;>rfl)|simp_all[Ty.cells,zjt,zgv,zdP]
theorem zNy:vF 149 zqv:=kF2 zdq zl zn zo (zq []) zUz
@[simp] abbrev zgA (l:List Slot):Bool:=pc (l.length<=2147483648)
@[simp] abbrev zeB (l:List Slot):List Slot:=l
def zwb:Run:=rF1 (dS .slot) λb=>(zgA b,[aS .slot<|zeB b])
def zzt (N:Nat)(a:lS):OA:=
 (oN (few<|ln<|ap [] a)<|some [aS .slot<|ap [] a])
theorem zLn (a:List Slot)(b:zgA a=true):∃N,zzt N a=some [aS .slot<|zeB a]:=by have c:=zB.1 b;refine⟨0,?_⟩;unfold zzt oN;refine mu ?_;first|rfl|(simp only [*,zeB,cT,cF]<;>rfl)|simp_all[Ty.cells,zeB]
theorem zD0:vF 276 zwb:=kF1 zdq zl zn zo (zq []) zLn
@[simp] abbrev zpY (l:List Ins):Bool:=pc (l.length<=2147483648)
@[simp] abbrev znl (l:List Ins):List Ins:=l
def zxS:Run:=rF1 (dS .ins) λb=>(zpY b,[aS .ins<|znl b])
def zBa (N:Nat)(a:lI):OA:=
 (oN (few<|ln<|ap [] a)<|some [aS .ins<|ap [] a])
theorem zOJ (a:List Ins)(b:zpY a=true):∃N,zBa N a=some [aS .ins<|znl a]:=by have c:=zB.1 b;refine⟨0,?_⟩;unfold zBa oN;refine mu ?_;first|rfl|(simp only [*,znl,cT,cF]<;>rfl)|simp_all[Ty.cells,znl]
theorem zHr:vF 194 zxS:=kF1 zdq zl zn zo (zq []) zOJ
def zkN (m:List (List Int))(p c:Int):Bool:=bif hasB p (ln m) then hasB c (ln<|ix m p []) else false
def cellAt (m:List (List Int))(p c:Int):Int:=bif zkN m p c then ix (ix m p []) c 0 else 0
def zfs (m:List (List Int))(p c v:Int):List (List Int):=bif zkN m p c then (cond (zk v 0 99) (up m p<|up (ix m p []) c v) m) else m
theorem zyV (m:List (List Int))(p c:Int):(zkN m p c=true)↔hasB p (ln m)=true/\hasB c (ln<|ix m p [])=true:=by unfold zkN;cases hasB p (ln m)<;>simp
theorem z8o {n:Nat}{m:List (List Int)}(h:CVB n (.s (.sl .int) m)):m.length<=n/\∀p:Int,hasB p (ln m)=true->(ix m p []).length<=n :=
 ⟨h.len,λp a=>(h.inv.2 _ (zbz a []) _ (qF.2 rfl)).len⟩
@[simp] abbrev zdO (m:List (List Int))(p c:Int):Bool:=true
@[simp] abbrev zrp (m:List (List Int))(p c:Int):Bool:=zkN m p c
def zC2:Run:=rF3 (dS<|.sl .int) dI dI λb c d=>(zdO b c d,[aB<|zrp b c d])
def zJr (N:Nat)(a:lM)(b c:Int):OA:=
 let d:=wsub .i64 (ln<|ix a b []) 1; (oN (zD b 0<|wsub .i64 (ln a) 1)<|cond (zk b 0<|wsub .i64 (ln a) 1) (oN (inb b<|ln a)<|oN (zD c 0 d)<|some [aB<|zk c 0 d]) oF)
theorem zUV (a:List (List Int))(b c:Int)(e:zbt big [aS (.sl .int) a,aI b,aI c])(g:zdO a b c=true):∃N,zJr N a b c=some [aB<|zrp a b c]:=by
 have d:=z8o ((zbv e).1 _ (qF.2 rfl));have j:=zIH d.1;have f:∀p i:Int,hasB p (ln a)=true->zk i 0 (wsub .i64 (ln<|ix a p []) 1)=hasB i (ln<|ix a p []):=λp i h=>zIH (d.2 p h) i;refine⟨0,?_⟩;unfold zJr oN;conv=>zeta
 refine must rfl (br (λ_=>mu (must rfl ?_)) λ_=>?_);all_goals first|rfl|(simp only [*,zrp,zkN,cT,cF]<;>rfl)|simp_all[Ty.cells,zrp,zkN]
theorem zN3:vF 179 zC2:=hF3 zdq zl zn zo (zq []) zUV
@[simp] abbrev zeV (m:List (List Int))(p c:Int):Int:=cellAt m p c
def zp7:Run:=rF3 (dS<|.sl .int) dI dI λb c d=>(zdO b c d,[aI<|zeV b c d])
def zIJ (N:Nat)(a:lM)(b c:Int):OA:=
 let d:=ix a b []; (oN (zZ b<|ln a)<|cond (nB<|zbH b<|ln a) (some [aI 0])<|oN (inb b<|ln a)<|oN (zZ c<|ln d)<|cond (nB<|zbH c<|ln d) (some [aI 0])<|oN (inb b<|ln a)<|oN (inb c<|ln d)<|some [aI<|ix d c 0])
theorem zUi (a:List (List Int))(b c:Int)(d:zdO a b c=true):∃N,zIJ N a b c=some [aI<|zeV a b c]:=by
 refine⟨0,?_⟩;unfold zIJ oN nB;conv=>zeta
 refine must rfl (brN (λ_=>?_) λ_=>mu (must rfl (brN (λ_=>?_) λ_=>mu (mu ?_))));all_goals first|rfl|(simp only [*,zeV,cellAt,zkN,cT,cF]<;>rfl)|simp_all[Ty.cells,zeV,cellAt,zkN]
theorem zNd:vF 172 zp7:=kF3 zdq zl zn zo (zq []) zUi
def zYR:zY:=[(310,zqe),(277,zqe),(212,znz),(164,znz),(217,zny),(169,zny),(213,zql),(165,zql),(215,zmn),(167,zmn),(317,znB),(289,znB),(319,zoK),(347,zoK),(318,zoC),(290,zoC),(314,zqq),(296,zqq),(222,zrZ),(279,zrZ),(283,zC1),(224,zqv),(149,zqv),(276,zwb),(194,zxS),(179,zC2),(172,zp7)]++z8j
theorem zgS:zK zYR:=zf zNH (zf zNc<|zf zHz<|zf zG5<|zf zHy<|zf zG4<|zf zNQ<|zf zNn<|zf zD8<|zf zDP<|zf zHD<|zf zG8<|zf zKI<|zf zKg<|zf zKA<|zf zJ8<|zf zNV<|zf zNt<|zf zRp<|zf zRd<|zf zNE<|zf zNZ<|zf zNy<|zf zD0<|zf zHr<|zf zN3<|zf zNd zdq)
def zI6 (N:Nat)(a:lM)(b c:Int):OA:=
 (oN (zdO a b c)<|cond (nB<|zrp a b c) (some [aI 0])<|oN (inb b<|ln a)<|oN (inb c<|ln<|ix a b [])<|some [aI<|ix (ix a b []) c 0])
theorem zUF (a:List (List Int))(b c:Int)(d:zdO a b c=true):∃N,zI6 N a b c=some [aI<|zeV a b c]:=by have e:=(zyV a b c).1;refine⟨0,?_⟩;unfold zI6 oN nB;refine must rfl (brN (λ_=>?_) λ_=>mu (mu ?_));all_goals first|rfl|(simp only [*,zeV,cellAt,cT,cF]<;>rfl)|simp_all[Ty.cells,zeV,cellAt]
theorem zNI:vF 73 zp7:=kF3 zgS zl zn zo (zq []) zUF
def zeg (t:List Slot)(n p:Int):Bool:=bif t.all (λs=>zgv s p) then ieq (ln t) n else false
@[simp] abbrev zkn (t:List Slot)(n p:Int):Bool:=true
@[simp] abbrev ze2 (t:List Slot)(n p:Int):Bool:=zeg t n p
def zoP:Run:=rF3 (dS .slot) dI dI λb c d=>(zkn b c d,[aB<|ze2 b c d])
def zFE (N:Nat)(d:lS)(e f:Int):OA:=
 (iter (σ:=(Int×Int×Int×lS×Unit)) N (λg a=>let b:=a.2.2.2.1;let c:=ix b a.2.2.1 zT; (cond (ilt a.2.2.1<|ln b) (oN (inb a.2.2.1<|ln b)<|oN (zlE c a.2.1)<|cond (nB<|zjt c a.2.1) oF<|g (a.1,a.2.1,zG .i64 a.2.2.1 1,b,()))<|some [aB<|ieq (ln b) a.1])) (e,f,0,d,()))
def zSO:=zq [(356,0,{n:=25,tm:=[(0,.sl 0 []),(1,ti),(2,ti),(7,ti)],lo:=[],ro:=[(0,.slot,false)]})]
theorem zSp (a:List Slot)(d c:Int)(j:zbt big [aS .slot a,aI d,aI c])(l:zkn a d c=true):∃N,zFE N a d c=some [aB<|ze2 a d c]:=by
 have h:(_:List _).length<=big:=((zbv j).1 _ (qF.2 rfl)).len;refine zbG λN g=>?_;unfold zFE oN nB;conv=>zeta
 refine(zW a (λi (t:Unit)=>(d,c,(i:Int),a,())) _ (λ_ x (_:Unit) k=>bif (λs=>zgv s c) x then k () else oF) (λ(t:Unit)=>some [.one<|.b<|ieq (ln a) d]) (λi e t rec=>?_) (λt rec=>?_) _ ()<|g h).trans ?_;{simp only [zbf e,zO e,zX e,zV e h,cT];exact zka rfl};{simp only [zbc,cF]};rw[zhX λs=>zgv s c];refine br (λf=>?_) (λf=>?_);{first|rfl|(simp only [f,ze2,zeg,cT,cF]<;>rfl)|(simp_all [Ty.cells,ze2,zeg];done)};{first|rfl|(simp only [f,ze2,zeg,cT,cF]<;>rfl)|(simp_all [Ty.cells,ze2,zeg];done)}
theorem zKO:vF 356 zoP:=hF3 zgS zl zn zo zSO zSp
def zE8 (N:Nat)(c:lS)(e f:Int):OA:=
 (iter (σ:=(Int×Int×Int×Int×lS×Unit)) N (λg a=>let b:=a.2.2.2.2.1;let d:=ix b a.2.2.2.1 zT; (cond (ilt a.2.2.2.1 a.2.2.1) (oN (inb a.2.2.2.1<|ln b)<|oN (zlE d a.2.1)<|cond (nB<|zjt d a.2.1) oF<|g (a.1,a.2.1,a.2.2.1,zG .i64 a.2.2.2.1 1,b,()))<|some [aB<|ieq (ln b) a.1])) (e,f,ln c,0,c,()))
def zSJ:=zq [(295,0,{n:=24,tm:=[(0,.sl 0 []),(1,ti),(2,ti),(9,.sl 0 []),(10,ti),(11,ti)],lo:=[],ro:=[(0,.slot,false)]})]
theorem zRX (a:List Slot)(d c:Int)(j:zbt big [aS .slot a,aI d,aI c])(l:zkn a d c=true):∃N,zE8 N a d c=some [aB<|ze2 a d c]:=by
 have h:(_:List _).length<=big:=((zbv j).1 _ (qF.2 rfl)).len;refine zbG λN g=>?_;unfold zE8 oN nB;conv=>zeta
 refine(zW a (λi (t:Unit)=>(d,c,ln a,(i:Int),a,())) _ (λ_ x (_:Unit) k=>bif (λs=>zgv s c) x then k () else oF) (λ(t:Unit)=>some [.one<|.b<|ieq (ln a) d]) (λi e t rec=>?_) (λt rec=>?_) _ ()<|g h).trans ?_;{simp only [zbf e,zO e,zX e,zV e h,cT];exact zka rfl};{simp only [zbc,cF]};rw[zhX λs=>zgv s c];refine br (λf=>?_) (λf=>?_);{first|rfl|(simp only [f,ze2,zeg,cT,cF]<;>rfl)|(simp_all [Ty.cells,ze2,zeg];done)};{first|rfl|(simp only [f,ze2,zeg,cT,cF]<;>rfl)|(simp_all [Ty.cells,ze2,zeg];done)}
theorem zKm:vF 295 zoP:=hF3 zgS zl zn zo zSJ zRX
def zdB (c:List Int):Bool:=bif c.all (λx=>zk x 0 99) then ieq (ln c) 4 else false
@[simp] abbrev zdN (c:List Int):Bool:=true
@[simp] abbrev zc9 (c:List Int):Bool:=zdB c
def zqp:Run:=rF1 (dS .int) λb=>(zdN b,[aB<|zc9 b])
def zJh (N:Nat)(b:List Int):OA:=
 (iter (σ:=(Int×(List Int)×Unit)) N (λc a=>cond (ilt a.1<|ln a.2.1) (oN (inb a.1<|ln a.2.1)<|oN (zD (ix a.2.1 a.1 0) 0 99)<|cond (nB<|zk (ix a.2.1 a.1 0) 0 99) oF<|c (zG .i64 a.1 1,a.2.1,()))<|some [aB<|ieq (ln a.2.1) 4]) (0,b,()))
def zWe:=zq [(358,0,{n:=19,tm:=[(0,.sl 0 []),(3,ti)],lo:=[],ro:=[(0,.int,false)]})]
theorem zUO (a:List Int)(g:zbt big [aS .int a])(j:zdN a=true):∃N,zJh N a=some [aB<|zc9 a]:=by have f:(_:List _).length<=big:=((zbv g).1 _ (qF.2 rfl)).len;refine zbG λN e=>?_;unfold zJh oN nB;refine(zW a (λi (t:Unit)=>((i:Int),a,())) _ (λ_ x (_:Unit) h=>bif (λx=>zk x 0 99) x then h () else oF) (λ(t:Unit)=>some [.one<|.b<|ieq (ln a) 4]) (λi c t rec=>?_) (λt rec=>?_) _ ()<|e f).trans ?_;{simp only [zbf c,zO c,zX c,zV c f,cT];exact zka rfl};{simp only [zbc,cF]};rw[zhX λx=>zk x 0 99];refine br (λd=>?_) (λd=>?_);{first|rfl|(simp only [d,zc9,zdB,cT,cF]<;>rfl)|(simp_all [Ty.cells,zc9,zdB];done)};{first|rfl|(simp only [d,zc9,zdB,cT,cF]<;>rfl)|(simp_all [Ty.cells,zc9,zdB];done)}
theorem zNU:vF 358 zqp:=hF1 zgS zl zn zo zWe zUO
def zIU (N:Nat)(b:List Int):OA:=
 (iter (σ:=(Int×Int×(List Int)×Unit)) N (λc a=>cond (ilt a.2.1 a.1) (oN (inb a.2.1<|ln a.2.2.1)<|oN (zD (ix a.2.2.1 a.2.1 0) 0 99)<|cond (nB<|zk (ix a.2.2.1 a.2.1 0) 0 99) oF<|c (a.1,zG .i64 a.2.1 1,a.2.2.1,()))<|some [aB<|ieq (ln a.2.2.1) 4]) (ln b,0,b,()))
def zV4:=zq [(294,0,{n:=18,tm:=[(0,.sl 0 []),(5,.sl 0 []),(6,ti),(7,ti)],lo:=[],ro:=[(0,.int,false)]})]
theorem zUu (a:List Int)(g:zbt big [aS .int a])(j:zdN a=true):∃N,zIU N a=some [aB<|zc9 a]:=by have f:(_:List _).length<=big:=((zbv g).1 _ (qF.2 rfl)).len;refine zbG λN e=>?_;unfold zIU oN nB;refine(zW a (λi (t:Unit)=>(ln a,(i:Int),a,())) _ (λ_ x (_:Unit) h=>bif (λx=>zk x 0 99) x then h () else oF) (λ(t:Unit)=>some [.one<|.b<|ieq (ln a) 4]) (λi c t rec=>?_) (λt rec=>?_) _ ()<|e f).trans ?_;{simp only [zbf c,zO c,zX c,zV c f,cT];exact zka rfl};{simp only [zbc,cF]};rw[zhX λx=>zk x 0 99];refine br (λd=>?_) (λd=>?_);{first|rfl|(simp only [d,zc9,zdB,cT,cF]<;>rfl)|(simp_all [Ty.cells,zc9,zdB];done)};{first|rfl|(simp only [d,zc9,zdB,cT,cF]<;>rfl)|(simp_all [Ty.cells,zc9,zdB];done)}
theorem zNs:vF 294 zqp:=hF1 zgS zl zn zo zV4 zUu
def zjW (i:Ins):Bool:=bif (ieq i.Op 1||ieq i.Op 2||ieq i.Op 5||ieq i.Op 6) then zk i.X 0 99 else (cond (ieq i.Op 3||ieq i.Op 4) (zk i.X 0 15)<|cond (ieq i.Op 7) (ieq i.X 0)<|cond (ieq i.Op 8) (zk i.X 0 11) false)
@[simp] abbrev zwt (i:Ins):Bool:=true
@[simp] abbrev zt2 (i:Ins):Bool:=zjW i
def zr0:Run:=rF1 (dT .ins) λb=>(zwt b,[aB<|zt2 b])
def zP8 (N:Nat)(a:Ins):OA:=
 let b:=ieq a.Op 4;let l:=zD a.X 0 99;let k:=aB<|zk a.X 0 99;let j:=ieq a.Op 8;let i:=ieq a.Op 7;let h:=ieq a.Op 3;let g:=zD a.X 0 11;let f:=zD a.X 0 15;let e:=aB<|ieq a.X 0;let d:=aB<|zk a.X 0 11;let c:=aB<|zk a.X 0 15; (cond (ieq a.Op 1) (cond (ieq a.Op 1) (oN l<|some [k])<|cond h (cond h (oN f<|some [c])<|cond i (some [e])<|cond j (oN g<|some [d]) oF)<|cond b (oN f<|some [c])<|cond i (some [e])<|cond j (oN g<|some [d]) oF)<|cond (ieq a.Op 2) (cond (ieq a.Op 2) (oN l<|some [k])<|cond h (cond h (oN f<|some [c])<|cond i (some [e])<|cond j (oN g<|some [d]) oF)<|cond b (oN f<|some [c])<|cond i (some [e])<|cond j (oN g<|some [d]) oF)<|cond (ieq a.Op 5) (cond (ieq a.Op 5) (oN l<|some [k])<|cond h (cond h (oN f<|some [c])<|cond i (some [e])<|cond j (oN g<|some [d]) oF)<|cond b (oN f<|some [c])<|cond i (some [e])<|cond j (oN g<|some [d]) oF)<|cond (ieq a.Op 6) (oN l<|some [k])<|cond h (cond h (oN f<|some [c])<|cond i (some [e])<|cond j (oN g<|some [d]) oF)<|cond b (oN f<|some [c])<|cond i (some [e])<|cond j (oN g<|some [d]) oF)
theorem zF4 (a:Ins)(b:zbt big [aT .ins a])(c:zwt a=true):∃N,zP8 N a=some [aB<|zt2 a]:=by
 refine⟨0,?_⟩;unfold zP8 oN;conv=>zeta
 refine br (λ_=>br (λ_=>must rfl ?_) λ_=>br (λ_=>br (λ_=>must rfl ?_) λ_=>br (λ_=>?_) λ_=>br (λ_=>must rfl ?_) λ_=>?_) λ_=>br (λ_=>must rfl ?_) λ_=>br (λ_=>?_) λ_=>br (λ_=>must rfl ?_) λ_=>?_) (λ_=>br (λ_=>br (λ_=>must rfl ?_) λ_=>br (λ_=>br (λ_=>must rfl ?_) λ_=>br (λ_=>?_) λ_=>br (λ_=>must rfl ?_) λ_=>?_) λ_=>br (λ_=>must rfl ?_) λ_=>br (λ_=>?_) λ_=>br (λ_=>must rfl ?_) λ_=>?_) λ_=>br (λ_=>br (λ_=>must rfl ?_) λ_=>br (λ_=>br (λ_=>must rfl ?_) λ_=>br (λ_=>?_) λ_=>br (λ_=>must rfl ?_) λ_=>?_) λ_=>br (λ_=>must rfl ?_) λ_=>br (λ_=>?_) λ_=>br (λ_=>must rfl ?_) λ_=>?_) λ_=>br (λ_=>must rfl ?_) λ_=>br (λ_=>br (λ_=>must rfl ?_) λ_=>br (λ_=>?_) λ_=>br (λ_=>must rfl ?_) λ_=>?_) λ_=>br (λ_=>must rfl ?_) λ_=>br (λ_=>?_) λ_=>br (λ_=>must rfl ?_) λ_=>?_);all_goals first|rfl|(simp only [*,zt2,zjW,cT,cF]<;>rfl)|simp_all[Ty.cells,zt2,zjW]
theorem zRq:vF 375 zr0:=hF1 zgS zl zn zo (zq []) zF4
theorem zRe:vF 372 zr0:=hF1 zgS zl zn zo (zq []) zF4
def zuo (e:GExit):Bool:=bif (ieq e.Kind 0||ieq e.Kind 4) then (ieq e.Page 0&&(!e.Write&&ieq e.N 0)) else (cond (ieq e.Kind 1) (zk e.Page 0 3&&ieq e.N 0)<|cond (ieq e.Kind 2||ieq e.Kind 3) (zk e.N 0 99&&(ieq e.Page 0 && !e.Write)) false)
@[simp] theorem z92 (x:Bool):zkD x false = !x:=by cases x<;>rfl
attribute [simp] zuH
@[simp] abbrev ztM (e:GExit):Bool:=true
@[simp] abbrev zmV (e:GExit):Bool:=zuo e
def zqg:Run:=rF1 dE λb=>(ztM b,[aB<|zmV b])
def zI8 (N:Nat)(a:GExit):OA:=
 let f:=zk a.N 0 99;let e:=zD a.N 0 99;let d:=ieq a.Kind 2;let b:=ieq a.Page 0;let c:=aB<|nB a.Write;let g:=aB<|cond (ieq a.Kind a.Kind) (cond b (cond (zkD a.Write false) (ieq a.N 0) false) false) false; (cond (ieq a.Kind 0) (cond (ieq a.Kind 0) (some [g])<|cond (ieq a.Kind 1) (oN (zD a.Page 0 3)<|cond (zk a.Page 0 3) (some [aB<|ieq a.N 0]) oF)<|cond d (cond d (oN e<|cond f (cond b (some [c]) oF) oF) oF)<|cond (ieq a.Kind 3) (oN e<|cond f (cond b (some [c]) oF) oF) oF)<|cond (ieq a.Kind 4) (some [g])<|cond (ieq a.Kind 1) (oN (zD a.Page 0 3)<|cond (zk a.Page 0 3) (some [aB<|ieq a.N 0]) oF)<|cond d (cond d (oN e<|cond f (cond b (some [c]) oF) oF) oF)<|cond (ieq a.Kind 3) (oN e<|cond f (cond b (some [c]) oF) oF) oF)
theorem zUG (a:GExit)(b:ztM a=true):∃N,zI8 N a=some [aB<|zmV a]:=by
 refine⟨0,?_⟩;unfold zI8 oN nB;conv=>zeta
 refine br (λ_=>br (λ_=>?_) λ_=>br (λ_=>must rfl (br (λ_=>?_) λ_=>?_)) λ_=>br (λ_=>br (λ_=>must rfl (br (λ_=>br (λ_=>?_) λ_=>?_) λ_=>?_)) λ_=>?_) λ_=>br (λ_=>must rfl (br (λ_=>br (λ_=>?_) λ_=>?_) λ_=>?_)) λ_=>?_) (λ_=>br (λ_=>?_) λ_=>br (λ_=>must rfl (br (λ_=>?_) λ_=>?_)) λ_=>br (λ_=>br (λ_=>must rfl (br (λ_=>br (λ_=>?_) λ_=>?_) λ_=>?_)) λ_=>?_) λ_=>br (λ_=>must rfl (br (λ_=>br (λ_=>?_) λ_=>?_) λ_=>?_)) λ_=>?_);all_goals first|rfl|(simp only [*,zmV,zuo,cT,cF]<;>rfl)|simp_all[Ty.cells,zmV,zuo]
theorem zNK:vF 357 zqg:=kF1 zgS zl zn zo (zq []) zUG
def zIL (N:Nat)(a:GExit):OA:=
 let g:=zk a.N 0 99;let f:=zD a.N 0 99;let e:=ieq a.Kind 2;let d:=aB<|ieq a.N 0;let b:=ieq a.Page 0;let c:=aB<|nB a.Write; (cond (ieq a.Kind 0) (cond (ieq a.Kind 0) (cond b (cond (nB a.Write) (some [d]) oF) oF)<|cond (ieq a.Kind 1) (oN (zD a.Page 0 3)<|cond (zk a.Page 0 3) (some [d]) oF)<|cond e (cond e (oN f<|cond g (cond b (some [c]) oF) oF) oF)<|cond (ieq a.Kind 3) (oN f<|cond g (cond b (some [c]) oF) oF) oF)<|cond (ieq a.Kind 4) (cond b (cond (nB a.Write) (some [d]) oF) oF)<|cond (ieq a.Kind 1) (oN (zD a.Page 0 3)<|cond (zk a.Page 0 3) (some [d]) oF)<|cond e (cond e (oN f<|cond g (cond b (some [c]) oF) oF) oF)<|cond (ieq a.Kind 3) (oN f<|cond g (cond b (some [c]) oF) oF) oF)
theorem zUk (a:GExit)(b:ztM a=true):∃N,zIL N a=some [aB<|zmV a]:=by
 refine⟨0,?_⟩;unfold zIL oN nB;conv=>zeta
 refine br (λ_=>br (λ_=>br (λ_=>brN (λ_=>?_) λ_=>?_) λ_=>?_) λ_=>br (λ_=>must rfl (br (λ_=>?_) λ_=>?_)) λ_=>br (λ_=>br (λ_=>must rfl (br (λ_=>br (λ_=>?_) λ_=>?_) λ_=>?_)) λ_=>?_) λ_=>br (λ_=>must rfl (br (λ_=>br (λ_=>?_) λ_=>?_) λ_=>?_)) λ_=>?_) (λ_=>br (λ_=>br (λ_=>brN (λ_=>?_) λ_=>?_) λ_=>?_) λ_=>br (λ_=>must rfl (br (λ_=>?_) λ_=>?_)) λ_=>br (λ_=>br (λ_=>must rfl (br (λ_=>br (λ_=>?_) λ_=>?_) λ_=>?_)) λ_=>?_) λ_=>br (λ_=>must rfl (br (λ_=>br (λ_=>?_) λ_=>?_) λ_=>?_)) λ_=>?_);all_goals first|rfl|(simp only [*,zmV,zuo,cT,cF]<;>rfl)|simp_all[Ty.cells,zmV,zuo]
theorem zNg:vF 349 zqg:=kF1 zgS zl zn zo (zq []) zUk
def zvw (c:Ctl):List Int:=(cond (zk c.Traps 0 3) [] [1])++((cond (zk c.Post 0 255) [] [2])++((cond (ine c.Post 0) (cond c.Open [] [3]) [])++(cond (ieq c.Traps 2) (cond (ine c.Post 0) [4] []) [])))
@[simp] theorem z9Y {a:Type}(x:a)(l m:List a):ap (x::l) m=x::ap l m:=rfl
@[simp] abbrev ze5 (c:Ctl):Bool:=true
@[simp] abbrev zod (c:Ctl):List Int:=zvw c
def zmm:Run:=rF1 dC λb=>(ze5 b,[aS .int<|zod b])
def zzD (N:Nat)(b:Ctl):OA:=
 let e:=aS .int [];let k:=ap (ap [] [2]) [4];let j:=ap (ap [] [1]) [4];let i:=aS .int<|ap [] [2];let h:=aS .int<|ap [] [1];let g:=ap (ap [] [2]) [3];let f:=ap (ap [] [1]) [3];let c:=ieq b.Traps 2;let a:=ine b.Post 0;let d:=ap (ap [] [1]) [2];let l:=aS .int d; (oN (zD b.Traps 0 3)<|cond (nB<|zk b.Traps 0 3) (oN (few<|ln<|ap [] [1])<|oN (zD b.Post 0 255)<|cond (nB<|zk b.Post 0 255) (oN (few<|ln d)<|cond a (cond (nB b.Open) (oN (few<|ln<|ap d [3])<|cond c (cond a (oN (few<|ln<|ap (ap d [3]) [4])<|some [aS .int<|ap (ap d [3]) [4]])<|some [aS .int<|ap d [3]])<|some [aS .int<|ap d [3]])<|cond c (cond a (oN (few<|ln<|ap d [4])<|some [aS .int<|ap d [4]])<|some [l])<|some [l])<|cond c (cond a (oN (few<|ln<|ap d [4])<|some [aS .int<|ap d [4]])<|some [l])<|some [l])<|cond a (cond (nB b.Open) (oN (few<|ln f)<|cond c (cond a (oN (few<|ln<|ap f [4])<|some [aS .int<|ap f [4]])<|some [aS .int f])<|some [aS .int f])<|cond c (cond a (oN (few<|ln j)<|some [aS .int j])<|some [h])<|some [h])<|cond c (cond a (oN (few<|ln j)<|some [aS .int j])<|some [h])<|some [h])<|oN (zD b.Post 0 255)<|cond (nB<|zk b.Post 0 255) (oN (few<|ln<|ap [] [2])<|cond a (cond (nB b.Open) (oN (few<|ln g)<|cond c (cond a (oN (few<|ln<|ap g [4])<|some [aS .int<|ap g [4]])<|some [aS .int g])<|some [aS .int g])<|cond c (cond a (oN (few<|ln k)<|some [aS .int k])<|some [i])<|some [i])<|cond c (cond a (oN (few<|ln k)<|some [aS .int k])<|some [i])<|some [i])<|cond a (cond (nB b.Open) (oN (few<|ln<|ap [] [3])<|cond c (cond a (oN (few<|ln<|ap (ap [] [3]) [4])<|some [aS .int<|ap (ap [] [3]) [4]])<|some [aS .int<|ap [] [3]])<|some [aS .int<|ap [] [3]])<|cond c (cond a (oN (few<|ln<|ap [] [4])<|some [aS .int<|ap [] [4]])<|some [e])<|some [e])<|cond c (cond a (oN (few<|ln<|ap [] [4])<|some [aS .int<|ap [] [4]])<|some [e])<|some [e])
theorem zvZ (a:Ctl)(b:zbt big [.agg<|zym a])(c:ze5 a=true):∃N,zzD N a=some [aS .int<|zod a]:=by
 refine⟨0,?_⟩;unfold zzD oN nB;conv=>zeta
 refine must rfl (brN (λ_=>mu (must rfl (brN (λ_=>mu (br (λ_=>brN (λ_=>mu (br (λ_=>br (λ_=>mu ?_) λ_=>?_) λ_=>?_)) λ_=>br (λ_=>br (λ_=>mu ?_) λ_=>?_) λ_=>?_) λ_=>br (λ_=>br (λ_=>mu ?_) λ_=>?_) λ_=>?_)) λ_=>br (λ_=>brN (λ_=>mu (br (λ_=>br (λ_=>mu ?_) λ_=>?_) λ_=>?_)) λ_=>br (λ_=>br (λ_=>mu ?_) λ_=>?_) λ_=>?_) λ_=>br (λ_=>br (λ_=>mu ?_) λ_=>?_) λ_=>?_))) λ_=>must rfl (brN (λ_=>mu (br (λ_=>brN (λ_=>mu (br (λ_=>br (λ_=>mu ?_) λ_=>?_) λ_=>?_)) λ_=>br (λ_=>br (λ_=>mu ?_) λ_=>?_) λ_=>?_) λ_=>br (λ_=>br (λ_=>mu ?_) λ_=>?_) λ_=>?_)) λ_=>br (λ_=>brN (λ_=>mu (br (λ_=>br (λ_=>mu ?_) λ_=>?_) λ_=>?_)) λ_=>br (λ_=>br (λ_=>mu ?_) λ_=>?_) λ_=>?_) λ_=>br (λ_=>br (λ_=>mu ?_) λ_=>?_) λ_=>?_));all_goals first|rfl|(simp only [*,zod,zvw,cT,cF]<;>rfl)|simp_all[Ty.cells,zod,zvw]
theorem zD7:vF 320 zmm:=hF1 zgS zl zn zo (zq []) zvZ
theorem zDO:vF 353 zmm:=hF1 zgS zl zn zo (zq []) zvZ
def len8tab:ByteArray:=⟨⟨[0,1,2,2,3,3,3,3,4,4,4,4,4,4,4,4,5,5,5,5,5,5,5,5,5,5,5,5,5,5,5,5,6,6,6,6,6,6,6,6,6,6,6,6,6,6,6,6,6,6,6,6,6,6,6,6,6,6,6,6,6,6,6,6,7,7,7,7,7,7,7,7,7,7,7,7,7,7,7,7,7,7,7,7,7,7,7,7,7,7,7,7,7,7,7,7,7,7,7,7,7,7,7,7,7,7,7,7,7,7,7,7,7,7,7,7,7,7,7,7,7,7,7,7,7,7,7,7,8,8,8,8,8,8,8,8,8,8,8,8,8,8,8,8,8,8,8,8,8,8,8,8,8,8,8,8,8,8,8,8,8,8,8,8,8,8,8,8,8,8,8,8,8,8,8,8,8,8,8,8,8,8,8,8,8,8,8,8,8,8,8,8,8,8,8,8,8,8,8,8,8,8,8,8,8,8,8,8,8,8,8,8,8,8,8,8,8,8,8,8,8,8,8,8,8,8,8,8,8,8,8,8,8,8,8,8,8,8,8,8,8,8,8,8,8,8,8,8,8,8,8,8,8,8,8,8]⟩⟩
def zih (p n:Int):Bool:=ieq (wand .i64 (zk9 .i64 p n) 1) 1
def scan (p:Int):Int:=bif zih p 7 then 7 else (cond (zih p 6) 6<|cond (zih p 5) 5<|cond (zih p 4) 4<|cond (zih p 3) 3<|cond (zih p 2) 2<|cond (zih p 1) 1<|cond (zih p 0) 0<|-1)
theorem z3Q:∀n:Fin 256,zG .i64 0 (wcv .i64<|byteAt len8tab<|wcv .u8 (n.val:Int))=scan (n.val:Int)+1:=by decide +kernel
theorem zVF:∀n:Fin 256,-1<=scan (n.val:Int)/\scan (n.val:Int)<=7/\(0<=scan (n.val:Int)->wsub .i64 (n.val:Int) (zn1 .i64 1<|scan (n.val:Int))=zzg .i64 (n.val:Int) (zn1 .i64 1<|scan (n.val:Int))):=by decide +kernel
theorem zCP {P:Int->Prop}(h:∀n:Fin 256,P (n.val:Int)){x:Int}(a:0<=x)(b:x<=255):P x:=by have:=h ⟨x.toNat,by omega⟩;have e:((x.toNat:Nat):Int)=x:=(by omega);simpa [e] using this
def zn2 (x:Int):Bool:=pc (0<=x/\x<=255)
def zj9 (x:Int):Int:=scan x+1
def zjw:List AV->Option (Bool×List AV)
 |[.one<|.i .u64 b]=>some (zn2 b,[aI<|zj9 b])
 |_=>none
def znS (N:Nat)(a:Int):OA:=
 let d:=zk9 .u64 a 16;let b:=zk9 .u64 a 32;let c:=zk9 .u64 b 16; (cond (ige a 4294967296) (oN (ile 0 32)<|cond (ige b 65536) (oN (ile 0 16)<|cond (ige c 256) (oN (ile 0 8)<|oN (inb (wcv .u8<|zk9 .u64 c 8) 256)<|some [aI<|zG .i64 (zG .i64 (zG .i64 32 16) 8)<|wcv .i64<|byteAt len8tab<|wcv .u8<|zk9 .u64 c 8])<|oN (inb (wcv .u8 c) 256)<|some [aI<|zG .i64 (zG .i64 32 16)<|wcv .i64<|byteAt len8tab<|wcv .u8 c])<|cond (ige b 256) (oN (ile 0 8)<|oN (inb (wcv .u8<|zk9 .u64 b 8) 256)<|some [aI<|zG .i64 (zG .i64 32 8)<|wcv .i64<|byteAt len8tab<|wcv .u8<|zk9 .u64 b 8])<|oN (inb (wcv .u8 b) 256)<|some [aI<|zG .i64 32<|wcv .i64<|byteAt len8tab<|wcv .u8 b])<|cond (ige a 65536) (oN (ile 0 16)<|cond (ige d 256) (oN (ile 0 8)<|oN (inb (wcv .u8<|zk9 .u64 d 8) 256)<|some [aI<|zG .i64 (zG .i64 (zG .i64 0 16) 8)<|wcv .i64<|byteAt len8tab<|wcv .u8<|zk9 .u64 d 8])<|oN (inb (wcv .u8 d) 256)<|some [aI<|zG .i64 (zG .i64 0 16)<|wcv .i64<|byteAt len8tab<|wcv .u8 d])<|cond (ige a 256) (oN (ile 0 8)<|oN (inb (wcv .u8<|zk9 .u64 a 8) 256)<|some [aI<|zG .i64 (zG .i64 0 8)<|wcv .i64<|byteAt len8tab<|wcv .u8<|zk9 .u64 a 8])<|oN (inb (wcv .u8 a) 256)<|some [aI<|zG .i64 0<|wcv .i64<|byteAt len8tab<|wcv .u8 a])
theorem zCO (N:Nat)(a:Int):evalFn (cQ zYR znW zyZ zIA) (zq []) N 12 371 [.one<|.i .u64 a]=znS N a:=by kernel_rfl
theorem zAI (a:Int)(g:zbt big [.one<|.i .u64 a])(f:zn2 a=true):∃N,znS N a=some [aI<|zj9 a]:=by
 obtain⟨b,c⟩:=zB.1 f;refine⟨0,?_⟩;unfold znS oN;conv=>zeta
 refine zbA (qI (by omega)) ?_;refine zbA (qI (by omega)) ?_;refine zbA (qI (by omega)) ?_;have e:inb (wcv .u8 a) 256=true:=zCP (P:=λx=>inb (wcv .u8 x) 256=true) (by decide +kernel) b c;refine must e ?_;have d:=zCP (P:=λx=>zG .i64 0 (wcv .i64<|byteAt len8tab<|wcv .u8 x)=scan x+1) z3Q b c;rw[d];rfl
theorem zpu:vF 371 zjw:=zyF zgS zl zn zo (zij (by kernel_rfl)) λa d b h=>by unfold zjw at h;split at h;{obtain⟨c,rfl⟩:=zds h;exact(zAI _ b c).elim λN e=>⟨zq [],N,(zCO N _).trans e⟩};{cases h}
def z5e:zY:=[(73,zp7),(356,zoP),(295,zoP),(358,zqp),(294,zqp),(375,zr0),(372,zr0),(357,zqg),(349,zqg),(320,zmm),(353,zmm),(371,zjw)]++zYR
theorem zgT:zK z5e:=zf zNI (zf zKO<|zf zKm<|zf zNU<|zf zNs<|zf zRq<|zf zRe<|zf zNK<|zf zNg<|zf zD7<|zf zDO<|zf zpu zgS)
def zlu (m:List (List Int))(n:Int):Bool:=bif m.all zdB then ieq (ln m) n else false
@[simp] abbrev zj1 (m:List (List Int))(n:Int):Bool:=true
@[simp] abbrev zf1 (m:List (List Int))(n:Int):Bool:=zlu m n
def zr1:Run:=rF2 (dS<|.sl .int) dI λb c=>(zj1 b c,[aB<|zf1 b c])
def zP9 (N:Nat)(c:lM)(d:Int):OA:=
 (iter (σ:=(Int×Int×lM×Unit)) N (λe a=>let b:=a.2.2.1; (cond (ilt a.2.1<|ln b) (oN (inb a.2.1<|ln b)<|oN (zdN<|ix b a.2.1 [])<|cond (nB<|zc9<|ix b a.2.1 []) oF<|e (a.1,zG .i64 a.2.1 1,b,()))<|some [aB<|ieq (ln b) a.1])) (d,0,c,()))
def zXL:=zq [(313,0,{n:=22,tm:=[(0,.sl 0 []),(1,ti),(5,ti)],lo:=[],ro:=[(0,.sl .int,false)]})]
theorem zW2 (a:List (List Int))(c:Int)(h:zbt big [aS (.sl .int) a,aI c])(k:zj1 a c=true):∃N,zP9 N a c=some [aB<|zf1 a c]:=by
 have g:(_:List _).length<=big:=((zbv h).1 _ (qF.2 rfl)).len;refine zbG λN f=>?_;unfold zP9 oN nB;conv=>zeta
 refine(zW a (λi (t:Unit)=>(c,(i:Int),a,())) _ (λ_ x (_:Unit) j=>bif (zdB) x then j () else oF) (λ(t:Unit)=>some [.one<|.b<|ieq (ln a) c]) (λi d t rec=>?_) (λt rec=>?_) _ ()<|f g).trans ?_;{simp only [zbf d,zO d,zX d,zV d g,cT];exact zka rfl};{simp only [zbc,cF]};rw[zhX<|zdB];refine br (λe=>?_) (λe=>?_);{first|rfl|(simp only [e,zf1,zlu,cT,cF]<;>rfl)|(simp_all [Ty.cells,zf1,zlu];done)};{first|rfl|(simp only [e,zf1,zlu,cT,cF]<;>rfl)|(simp_all [Ty.cells,zf1,zlu];done)}
theorem zRr:vF 313 zr1:=hF2 zgT zl zn zo zXL zW2
def zPW (N:Nat)(c:lM)(d:Int):OA:=
 (iter (σ:=(Int×Int×Int×lM×Unit)) N (λe a=>let b:=a.2.2.2.1; (cond (ilt a.2.2.1 a.2.1) (oN (inb a.2.2.1<|ln b)<|oN (zdN<|ix b a.2.2.1 [])<|cond (nB<|zc9<|ix b a.2.2.1 []) oF<|e (a.1,a.2.1,zG .i64 a.2.2.1 1,b,()))<|some [aB<|ieq (ln b) a.1])) (d,ln c,0,c,()))
def zXJ:=zq [(180,0,{n:=21,tm:=[(0,.sl 0 []),(1,ti),(7,.sl 0 []),(8,ti),(9,ti)],lo:=[],ro:=[(0,.sl .int,false)]})]
theorem zWS (a:List (List Int))(c:Int)(h:zbt big [aS (.sl .int) a,aI c])(k:zj1 a c=true):∃N,zPW N a c=some [aB<|zf1 a c]:=by
 have g:(_:List _).length<=big:=((zbv h).1 _ (qF.2 rfl)).len;refine zbG λN f=>?_;unfold zPW oN nB;conv=>zeta
 refine(zW a (λi (t:Unit)=>(c,ln a,(i:Int),a,())) _ (λ_ x (_:Unit) j=>bif (zdB) x then j () else oF) (λ(t:Unit)=>some [.one<|.b<|ieq (ln a) c]) (λi d t rec=>?_) (λt rec=>?_) _ ()<|f g).trans ?_;{simp only [zbf d,zO d,zX d,zV d g,cT];exact zka rfl};{simp only [zbc,cF]};rw[zhX<|zdB];refine br (λe=>?_) (λe=>?_);{first|rfl|(simp only [e,zf1,zlu,cT,cF]<;>rfl)|(simp_all [Ty.cells,zf1,zlu];done)};{first|rfl|(simp only [e,zf1,zlu,cT,cF]<;>rfl)|(simp_all [Ty.cells,zf1,zlu];done)}
theorem zRf:vF 180 zr1:=hF2 zgT zl zn zo zXJ zWS
def zeP (p:List Ins):Bool:=bif p.all zjW then zk (ln p) 1 12 else false
@[simp] abbrev ztN (p:List Ins):Bool:=true
@[simp] abbrev zib (p:List Ins):Bool:=zeP p
def zqr:Run:=rF1 (dS .ins) λb=>(ztN b,[aB<|zib b])
def zJj (N:Nat)(c:lI):OA:=
 (iter (σ:=(Int×lI×Unit)) N (λd a=>let b:=ix a.2.1 a.1 zsg; (cond (ilt a.1<|ln a.2.1) (oN (inb a.1<|ln a.2.1)<|oN (zwt b)<|cond (nB<|zt2 b) oF<|d (zG .i64 a.1 1,a.2.1,()))<|oN (zD (ln a.2.1) 1 12)<|some [aB<|zk (ln a.2.1) 1 12])) (0,c,()))
def zWf:=zq [(355,0,{n:=19,tm:=[(0,.sl 0 []),(3,ti)],lo:=[],ro:=[(0,.ins,false)]})]
theorem zUP (a:List Ins)(g:zbt big [aS .ins a])(j:ztN a=true):∃N,zJj N a=some [aB<|zib a]:=by
 have f:(_:List _).length<=big:=((zbv g).1 _ (qF.2 rfl)).len;refine zbG λN e=>?_;unfold zJj oN nB;conv=>zeta
 refine(zW a (λi (t:Unit)=>((i:Int),a,())) _ (λ_ x (_:Unit) h=>bif (zjW) x then h () else oF) (λ(t:Unit)=>cond (zD (ln a) 1 12) (some [.one<|.b<|zk (ln a) 1 12]) none) (λi c t rec=>?_) (λt rec=>?_) _ ()<|e f).trans ?_;{simp only [zbf c,zO c,zX c,zV c f,cT];exact zka rfl};{simp only [zbc,cF]};rw[zhX<|zjW];refine br (λd=>?_) (λd=>?_);{refine must rfl ?_;first|rfl|(simp only [d,zib,zeP,cT,cF]<;>rfl)|(simp_all [Ty.cells,zib,zeP];done)};{first|rfl|(simp only [d,zib,zeP,cT,cF]<;>rfl)|(simp_all [Ty.cells,zib,zeP];done)}
theorem zNW:vF 355 zqr:=hF1 zgT zl zn zo zWf zUP
def zIV (N:Nat)(b:lI):OA:=
 (iter (σ:=(Int×Int×lI×Unit)) N (λd a=>let c:=ix a.2.2.1 a.2.1 zsg; (cond (ilt a.2.1 a.1) (oN (inb a.2.1<|ln a.2.2.1)<|oN (zwt c)<|cond (nB<|zt2 c) oF<|d (a.1,zG .i64 a.2.1 1,a.2.2.1,()))<|oN (zD (ln a.2.2.1) 1 12)<|some [aB<|zk (ln a.2.2.1) 1 12])) (ln b,0,b,()))
def zV5:=zq [(348,0,{n:=18,tm:=[(0,.sl 0 []),(5,.sl 0 []),(6,ti),(7,ti)],lo:=[],ro:=[(0,.ins,false)]})]
theorem zUv (a:List Ins)(g:zbt big [aS .ins a])(j:ztN a=true):∃N,zIV N a=some [aB<|zib a]:=by
 have f:(_:List _).length<=big:=((zbv g).1 _ (qF.2 rfl)).len;refine zbG λN e=>?_;unfold zIV oN nB;conv=>zeta
 refine(zW a (λi (t:Unit)=>(ln a,(i:Int),a,())) _ (λ_ x (_:Unit) h=>bif (zjW) x then h () else oF) (λ(t:Unit)=>cond (zD (ln a) 1 12) (some [.one<|.b<|zk (ln a) 1 12]) none) (λi c t rec=>?_) (λt rec=>?_) _ ()<|e f).trans ?_;{simp only [zbf c,zO c,zX c,zV c f,cT];exact zka rfl};{simp only [zbc,cF]};rw[zhX<|zjW];refine br (λd=>?_) (λd=>?_);{refine must rfl ?_;first|rfl|(simp only [d,zib,zeP,cT,cF]<;>rfl)|(simp_all [Ty.cells,zib,zeP];done)};{first|rfl|(simp only [d,zib,zeP,cT,cF]<;>rfl)|(simp_all [Ty.cells,zib,zeP];done)}
theorem zNu:vF 348 zqr:=hF1 zgT zl zn zo zV5 zUv
def zrI (c:Ctl):Bool:=ieq (ln<|zvw c) 0
@[simp] abbrev znN (c:Ctl):Bool:=zrI c
def zrY:Run:=rF1 dC λb=>(ze5 b,[aB<|znN b])
def zP5 (N:Nat)(a:Ctl):OA:=
 (oN (ze5 a)<|some [aB<|ieq (ln<|zod a) 0])
theorem zF3 (a:Ctl)(b:zbt big [.agg<|zym a])(c:ze5 a=true):∃N,zP5 N a=some [aB<|znN a]:=by refine⟨0,?_⟩;unfold zP5 oN;refine must rfl ?_;first|rfl|(simp only [*,znN,zrI,cT,cF]<;>rfl)|simp_all[Ty.cells,znN,zrI]
theorem zRn:vF 229 zrY:=hF1 zgT zl zn zo (zq []) zF3
theorem zRb:vF 305 zrY:=hF1 zgT zl zn zo (zq []) zF3
def zd1 (p:Int):Int:=bif zhG p then scan p else -1
theorem zPS {x:Int}(a:0<=x)(b:x<=255):wcv .u64 x=x:=zCP (P:=λx=>wcv .u64 x=x) (by decide +kernel) a b
@[simp] abbrev zh4 (p:Int):Int:=zd1 p
def zp9:Run:=rF1 dI λb=>(zbY b,[aI<|zh4 b])
def zI0 (N:Nat)(a:Int):OA:=
 (oN (zbY a)<|cond (nB<|zes a) (some [aI<|-1])<|oN (zn2<|wcv .u64 a)<|some [aI<|wsub .i64 (zj9<|wcv .u64 a) 1])
theorem zUA (a:Int)(d:zbY a=true):∃N,zI0 N a=some [aI<|zh4 a]:=by refine⟨0,?_⟩;unfold zI0 oN nB;refine must rfl ?_;cases h:zhG a;{refine must (by simp[h]) ?_;simp[zd1,h]};{obtain⟨b,c⟩:=ze4.1 h;have r:=zCP (P:=λx=>-1<=scan x/\scan x<=7/\(0<=scan x->wsub .i64 x (zn1 .i64 1<|scan x)=zzg .i64 x (zn1 .i64 1<|scan x))) zVF b c;refine zbA (by simp[h]) ?_;rw[zPS b c];refine must (zN ⟨b,c⟩) ?_;have e:wsub .i64 (zj9 a) 1=scan a:=(by unfold zj9;rw[zt6 (by omega) (by omega)];omega);rw[e];simp[zd1,h]}
theorem zNA:vF 342 zp9:=kF1 zgT zl zn zo (zq []) zUA
def zJo (N:Nat)(b:Int):OA:=
 (iter (σ:=(Int×Int×Unit)) N (λc a=>cond (ige a.2.1 0) (oN (zbY a.1)<|cond (zes a.1) (oN (ile 0<|wcv .u64 a.2.1)<|cond (ieq (wand .i64 (zk9 .i64 a.1<|wcv .u64 a.2.1) 1) 1) (some [aI a.2.1])<|c (a.1,wsub .i64 a.2.1 1,()))<|some [aI<|-1])<|some [aI<|-1]) (b,7,()))
def zWg:=zq [(322,0,{n:=19,tm:=[(0,ti),(3,ti)],lo:=[],ro:=[]})]
theorem zUT (a:Int)(C:zbY a=true):∃N,zJo N a=some [aI<|zh4 a]:=by refine⟨10,?_⟩;unfold zJo oN;cases h:zhG a;{rw [zd3];refine must rfl ?_;refine must rfl ?_;refine zbA h ?_;simp[zd1,h]};{have c:zes a=true:=h;rw[zd3];refine must rfl (must rfl (must c (must rfl (br (λr=>?_) λr=>?_))));{have A:zih a 7=true:=r;simp[zd1,h,scan,A]};have b:zih a 7=false:=r;show iter 9 _ (a,6,())=_;rw[zd3];refine must rfl (must rfl (must c (must rfl (br (λq=>?_) λq=>?_))));{have z:zih a 6=true:=q;simp[zd1,h,scan,z,b]};have d:zih a 6=false:=q;show iter 8 _ (a,5,())=_;rw[zd3];refine must rfl (must rfl (must c (must rfl (br (λp=>?_) λp=>?_))));{have y:zih a 5=true:=p;simp[zd1,h,scan,y,b,d]};have e:zih a 5=false:=p;show iter 7 _ (a,4,())=_;rw[zd3];refine must rfl (must rfl (must c (must rfl (br (λn=>?_) λn=>?_))));{have x:zih a 4=true:=n;simp[zd1,h,scan,x,b,d,e]};have f:zih a 4=false:=n;show iter 6 _ (a,3,())=_;rw[zd3];refine must rfl (must rfl (must c (must rfl (br (λm=>?_) λm=>?_))));{have w:zih a 3=true:=m;simp[zd1,h,scan,w,b,d,e,f]};have g:zih a 3=false:=m;show iter 5 _ (a,2,())=_;rw[zd3];refine must rfl (must rfl (must c (must rfl (br (λl=>?_) λl=>?_))));{have v:zih a 2=true:=l;simp[zd1,h,scan,v,b,d,e,f,g]};have i:zih a 2=false:=l;show iter 4 _ (a,1,())=_;rw[zd3];refine must rfl (must rfl (must c (must rfl (br (λk=>?_) λk=>?_))));{have u:zih a 1=true:=k;simp[zd1,h,scan,u,b,d,e,f,g,i]};have s:zih a 1=false:=k;show iter 3 _ (a,0,())=_;rw[zd3];refine must rfl (must rfl (must c (must rfl (br (λj=>?_) λj=>?_))));{have t:zih a 0=true:=j;simp[zd1,h,scan,t,b,d,e,f,g,i,s]};have B:zih a 0=false:=j;show iter 2 _ (a,-1,())=_;rw[zd3];refine zbA rfl ?_;simp[zd1,h,scan,b,d,e,f,g,i,s,B]}
theorem zN1:vF 322 zp9:=kF1 zgT zl zn zo zWg zUT
@[simp] abbrev zg8 (l:List (List Int)):Bool:=pc (SmM l)
@[simp] abbrev zd2 (l:List (List Int)):List (List Int):=l
def zz6:Run:=rF1 (dS<|.sl .int) λb=>(zg8 b,[aS (.sl .int)<|zd2 b])
def zFb (N:Nat)(c:lM):OA:=
 (iter (σ:=(Int×Int×lM×lM×Unit)) N (λd a=>let b:=ix a.2.2.2.1 a.2.1 []; (cond (ilt a.2.1 a.1) (oN (inb a.2.1<|ln a.2.2.2.1)<|oN (zd9 b)<|oN (few<|ln<|ap a.2.2.1 [zd5 b])<|d (a.1,zG .i64 a.2.1 1,ap a.2.2.1 [zd5 b],a.2.2.2.1,()))<|some [aS (.sl .int) a.2.2.1])) (ln c,0,[],c,()))
def zSK:=zq [(158,0,{n:=20,tm:=[(3,.sl 0 []),(7,.sl 1 []),(8,ti),(9,ti)],lo:=[],ro:=[(0,.sl .int,true),(1,.sl .int,false)]})]
theorem zR0 (a:List (List Int))(g:zg8 a=true):∃N,zFb N a=some [aS (.sl .int)<|zd2 a]:=by
 have f:=zB.1 g;have e:=zbV f.1;refine zbG λN d=>?_;unfold zFb oN;conv=>zeta
 refine(zW a (λi (t:lM)=>(ln a,(i:Int),t,a,())) _ (λ_ x b j=>bif zd9 x then (cond (few<|ln<|ap b [zd5 x]) (j<|ap b [zd5 x]) none) else none) (λ(t:lM)=>some [.one<|.s (.sl .int) t]) (λi c t rec=>?_) (λt rec=>?_) _ ([])<|d e.1).trans ?_;{simp only [zbf c,zO c,zX c,zV c e.1,cT]};{simp only [zbc,cF]};exact zi1 zd9 zd5 _ a 0 [] (λx h=>⟨by exact zN (qX (f.2 x h) (by decide)),rfl⟩) (by simpa using e.2)
theorem zKp:vF 158 zz6:=kF1 zgT zl zn zo zSK zR0
@[simp] abbrev zF (g:Guest):Bool:=pc (SmG g)
@[simp] abbrev zcC (g:Guest):Guest:=g
def zwa:Run:=rF1 (dT .guest) λb=>(zF b,[aT .guest<|zcC b])
def zzs (N:Nat)(a:Guest):OA:=
 (oN (zpY a.Prog)<|oN (zgA a.Written)<|oN (zgA a.Live)<|oN (zd9 a.Seen)<|some [aT .guest ({a with Prog:=(znl a.Prog),Written:=(zeB a.Written),Live:=(zeB a.Live),Seen:=(zd5 a.Seen)}:Guest)])
theorem zLm (a:Guest)(b:zF a=true):∃N,zzs N a=some [aT .guest<|zcC a]:=by have c:=zB.1 b;obtain⟨h,i,j,k⟩:=c;have d:a.Prog.length<=2147483648:=(by omega);have e:a.Written.length<=2147483648:=(by omega);have f:a.Live.length<=2147483648:=(by omega);have g:a.Seen.length<=2147483648:=(by omega);refine⟨0,?_⟩;unfold zzs oN;refine mu (mu<|mu<|mu ?_);first|rfl|(simp only [*,zcC,cT,cF]<;>rfl)|simp_all[Ty.cells,zcC]
theorem zDZ:vF 272 zwa:=kF1 zgT zl zn zo (zq []) zLm
def zie (t:List Slot)(p n:Int):Bool:=bif ieq (ze3 t p).Page (-1) then false else (cond (enough (ze3 t p).Rights n) (zk n 1 3) false)
def zde (t:List Slot)(p n:Int):Int:=bif zie t p n then (ze3 t p).Page else -1
theorem z3K {r:Int}(h:zh8 r=true):0<=r/\r<=3:=ze4.1 h
theorem zY5 {a n:Int}(h:enough a n=true):zk n 1 3 = !ieq n 0:=by unfold enough at h;cases b:zh8 a;{rw [b]at h;cases h};{cases c:zh8 n;{rw [b,c]at h;cases h};{have:=z3K c;have e:(zk n 1 3=true)↔(!ieq n 0)=true:=(by rw[ze4];simp[ieq];omega);cases d:zk n 1 3<;>cases f:(!ieq n 0)<;>simp_all}}
@[simp] abbrev zew (t:List Slot)(p n:Int):Bool:=true
@[simp] abbrev zdG (t:List Slot)(p n:Int):Int:=zde t p n
@[simp] abbrev zc7 (t:List Slot)(p n:Int):Bool:=zie t p n
def zmk:Run:=rF3 (dS .slot) dI dI λb c d=>(zew b c d,[aI<|zdG b c d,aB<|zc7 b c d])
def zzp (N:Nat)(c:lS)(d a:Int):OA:=
 let b:=ze1 c d; (oN (zhr c d)<|cond (ieq b.Page<|-1) (some [aI<|-1,aB false])<|oN (zZ b.Rights a)<|cond (nB<|zcW b.Rights a) (some [aI<|-1,aB false])<|oN (zD a 1 3)<|cond (nB<|zk a 1 3) (some [aI<|-1,aB false])<|some [aI b.Page,aB true])
theorem zLj (a:List Slot)(b c:Int)(d:zew a b c=true):∃N,zzp N a b c=some [aI<|zdG a b c,aB<|zc7 a b c]:=by
 refine⟨0,?_⟩;unfold zzp oN nB;conv=>zeta
 refine must rfl (br (λ_=>?_) λ_=>must rfl (brN (λ_=>?_) λ_=>must rfl (brN (λ_=>?_) λ_=>?_)));all_goals first|rfl|(simp only [*,zdG,zc7,zde,zie,cT,cF]<;>rfl)|simp_all[Ty.cells,zdG,zc7,zde,zie]
theorem zDW:vF 288 zmk:=kF3 zgT zl zn zo (zq []) zLj
def zzL (N:Nat)(c:lS)(d b:Int):OA:=
 let a:=ze1 c d; (oN (zhr c d)<|cond (ieq a.Page<|-1) (some [aI<|-1,aB false])<|oN (zZ a.Rights b)<|cond (nB<|zcW a.Rights b) (some [aI<|-1,aB false])<|cond (ieq b 0) (some [aI<|-1,aB false])<|some [aI a.Page,aB true])
theorem zLD (a:List Slot)(b c:Int)(d:zew a b c=true):∃N,zzL N a b c=some [aI<|zdG a b c,aB<|zc7 a b c]:=by
 have e:=@zY5 (ze3 a b).Rights c;refine⟨0,?_⟩;unfold zzL oN nB;conv=>zeta
 refine must rfl (br (λ_=>?_) λ_=>must rfl (brN (λ_=>?_) λ_=>br (λ_=>?_) λ_=>?_));all_goals first|rfl|(simp only [*,zdG,zc7,zde,zie,cT,cF]<;>rfl)|simp_all[Ty.cells,zdG,zc7,zde,zie]
theorem zEf:vF 211 zmk:=kF3 zgT zl zn zo (zq []) zLD
def z5f:zY:=[(371,zjw),(158,zz6),(272,zwa),(211,zmk),(288,zmk),(313,zr1),(180,zr1),(355,zqr),(348,zqr),(229,zrY),(305,zrY),(322,zp9),(342,zp9)]++z5e
theorem zgU:zK z5f:=zf zpu (zf zKp<|zf zDZ<|zf zEf<|zf zDW<|zf zRr<|zf zRf<|zf zNW<|zf zNu<|zf zRn<|zf zRb<|zf zN1<|zf zNA zgT)
@[simp] abbrev zcL (m:List (List Int))(p c v:Int):Bool:=pc (SmM m)
@[simp] abbrev zcS (m:List (List Int))(p c v:Int):List (List Int):=zfs m p c v
def znK:Run:=rF4 (dS<|.sl .int) dI dI dI λb c d e=>(zcL b c d e,[aS (.sl .int)<|zcS b c d e])
def zBB (N:Nat)(c:lM)(a d e:Int):OA:=
 let b:=zfx c; (oN (zht c)<|oN (zdO c a d)<|cond (zrp c a d) (oN (zD e 0 99)<|cond (zk e 0 99) (oN (inb a<|ln b)<|oN (inb d<|ln<|ix b a [])<|share (up b a<|up (ix b a []) d e) λf=>some [aS (.sl .int) f])<|some [aS (.sl .int) b])<|some [aS (.sl .int) b])
theorem zO6 (a:List (List Int))(b c d:Int)(e:zcL a b c d=true):∃N,zBB N a b c d=some [aS (.sl .int)<|zcS a b c d]:=by
 have g:=zB.1 e;have f:=(zyV a b c).1;refine⟨0,?_⟩;unfold zBB oN;conv=>zeta
 refine mu (must rfl (br (λ_=>must rfl (br (λ_=>mu (mu<|shr ?_)) λ_=>?_)) λ_=>?_));all_goals first|rfl|(simp only [*,zcS,zfs,cT,cF]<;>rfl)|simp_all[Ty.cells,zcS,zfs]
theorem zHN:vF 216 znK:=kF4 zgU zl zn zo (zq []) zO6
def zA3 (N:Nat)(a:lM)(b c d:Int):OA:=
 let e:=aS (.sl .int)<|zd2 a; (oN (zg8 a)<|oN (zZ b<|ln a)<|cond (zbH b<|ln a) (oN (inb b<|ln a)<|oN (zZ c<|ln<|ix a b [])<|cond (zbH c<|ln<|ix a b []) (oN (zD d 0 99)<|cond (zk d 0 99) (oN (inb b<|ln<|zd2 a)<|oN (inb c<|ln<|ix (zd2 a) b [])<|share (up (zd2 a) b<|up (ix (zd2 a) b []) c d) λf=>some [aS (.sl .int) f])<|some [e])<|some [e])<|some [e])
theorem zOC (a:List (List Int))(b c d:Int)(e:zcL a b c d=true):∃N,zA3 N a b c d=some [aS (.sl .int)<|zcS a b c d]:=by
 have f:=zB.1 e;refine⟨0,?_⟩;unfold zA3 oN;conv=>zeta
 refine mu (must rfl (br (λ_=>mu (must rfl (br (λ_=>must rfl (br (λ_=>mu (mu<|shr ?_)) λ_=>?_)) λ_=>?_))) λ_=>?_));all_goals first|rfl|(simp only [*,zcS,zfs,zkN,cT,cF]<;>rfl)|simp_all[Ty.cells,zcS,zfs,zkN]
theorem zHk:vF 168 znK:=kF4 zgU zl zn zo (zq []) zOC
def zpl (g:Guest):Bool:=bif canRun g then (cond g.Ctl.Open (ige (zd1 g.Pending) 0) false) else false
@[simp] abbrev zbo (g:Guest):Bool:=true
@[simp] abbrev zlF (g:Guest):Bool:=zpl g
def znJ:Run:=rF1 (dT .guest) λb=>(zbo b,[aB<|zlF b])
def zBA (N:Nat)(a:Guest):OA:=
 (oN (ztL a)<|cond (zpc a) (cond a.Ctl.Open (oN (zbY a.Pending)<|some [aB<|ige (zh4 a.Pending) 0]) oF) oF)
theorem zxA (a:Guest)(b:zbt big [aT .guest a])(c:zbo a=true):∃N,zBA N a=some [aB<|zlF a]:=by refine⟨0,?_⟩;unfold zBA oN;refine must rfl (br (λ_=>br (λ_=>must rfl ?_) λ_=>?_) λ_=>?_);all_goals first|rfl|(simp only [*,zlF,zpl,cT,cF]<;>rfl)|simp_all[Ty.cells,zlF,zpl]
theorem zHM:vF 311 znJ:=hF1 zgU zl zn zo (zq []) zxA
theorem zHj:vF 278 znJ:=hF1 zgU zl zn zo (zq []) zxA
def ziS (p:Int):Int:=bif ilt (zd1 p) 0 then p else wsub .i64 p (zn1 .i64 1<|zd1 p)
def zmL (p:Int):Int:=bif ilt (zd1 p) 0 then -1 else zd1 p
theorem zQ4 {p:Int}(h:ilt (zd1 p) 0=false):wcv .u64 (zd1 p)=zd1 p/\ile 0 (zd1 p)=true/\zzg .i64 p (zn1 .i64 1<|zd1 p)=wsub .i64 p (zn1 .i64 1<|zd1 p):=by unfold zd1 at *;cases a:zhG p;{rw [a]at h;cases h};{simp only [a,cT]at h ⊢;obtain⟨c,d⟩:=ze4.1 a;have r:=zCP (P:=λx=>-1<=scan x/\scan x<=7/\(0<=scan x->wsub .i64 x (zn1 .i64 1<|scan x)=zzg .i64 x (zn1 .i64 1<|scan x))) zVF c d;have b:0<=scan p:=(by unfold ilt at h;have:=qM h;omega);exact⟨zPS b (by omega),qL b,(r.2.2 b).symm⟩}
@[simp] abbrev zfH (p:Int):Int:=ziS p
@[simp] abbrev zfI (p:Int):Int:=zmL p
@[simp] abbrev zhs (p:Int):Bool:=!ilt (zd1 p) 0
def zoQ:Run:=rF1 dI λb=>(zbY b,[aI<|zfH b,aI<|zfI b,aB<|zhs b])
def zFF (N:Nat)(a:Int):OA:=
 (oN (zbY a)<|cond (ilt (zh4 a) 0) (some [aI a,aI<|-1,aB false])<|oN (ile 0<|wcv .u64<|zh4 a)<|some [aI<|wsub .i64 a<|zn1 .i64 1<|wcv .u64<|zh4 a,aI<|zh4 a,aB true])
theorem zSq (a:Int)(b:zbY a=true):∃N,zFF N a=some [aI<|zfH a,aI<|zfI a,aB<|zhs a]:=by have c:=@zQ4 a;refine⟨0,?_⟩;unfold zFF oN;refine must rfl (br (λ_=>?_) λ_=>mu ?_);all_goals first|rfl|(simp only [*,zfH,zfI,zhs,ziS,zmL,cT,cF]<;>rfl)|simp_all[Ty.cells,zfH,zfI,zhs,ziS,zmL]
theorem zKP:vF 231 zoQ:=kF1 zgU zl zn zo (zq []) zSq
def zE9 (N:Nat)(a:Int):OA:=
 (oN (zbY a)<|cond (ilt (zh4 a) 0) (some [aI a,aI<|-1,aB false])<|oN (ile 0<|zh4 a)<|some [aI<|zzg .i64 a<|zn1 .i64 1<|zh4 a,aI<|zh4 a,aB true])
theorem zRY (a:Int)(b:zbY a=true):∃N,zE9 N a=some [aI<|zfH a,aI<|zfI a,aB<|zhs a]:=by have c:=@zQ4 a;refine⟨0,?_⟩;unfold zE9 oN;refine must rfl (br (λ_=>?_) λ_=>mu ?_);all_goals first|rfl|(simp only [*,zfH,zfI,zhs,ziS,zmL,cT,cF]<;>rfl)|simp_all[Ty.cells,zfH,zfI,zhs,ziS,zmL]
theorem zKn:vF 308 zoQ:=kF1 zgU zl zn zo (zq []) zRY
def saw (g:Guest)(n:Int):Guest:=bif ilt (ln g.Seen) 40 then {g with Seen:=ap g.Seen [n]} else g
@[simp] theorem zPs {g:Guest}(n:Int)(h:SmG g):SmG (saw g n):=by unfold saw;cases a:ilt (ln g.Seen) 40;{exact h};{have:=qD a;refine⟨h.1,h.2.1,h.2.2.1,?_⟩;simp[ln] at *;omega}
@[simp] abbrev zt3 (g:Guest)(n:Int):Bool:=pc (SmG g)
@[simp] abbrev zqH (g:Guest)(n:Int):Guest:=saw g n
def zwi:Run:=rF2 (dT .guest) dI λb c=>(zt3 b c,[aT .guest<|zqH b c])
def zXU (N:Nat)(a:Guest)(b:Int):OA:=
 (oN (zdy a)<|cond (ilt (ln (zda a).Seen) 40) (oN (few<|ln<|ap (zda a).Seen [b])<|some [aT .guest ({ (zda a) with Seen:=(ap (zda a).Seen [b])}:Guest)])<|some [aT .guest<|zda a])
theorem z1w (a:Guest)(b:Int)(c:zt3 a b=true):∃N,zXU N a b=some [aT .guest<|zqH a b]:=by have d:=zB.1 c;have e:a.Seen.length<=1048576:=d.2.2.2;refine⟨0,?_⟩;unfold zXU oN;refine mu (br (λ_=>mu ?_) λ_=>?_);all_goals first|rfl|(simp only [*,zqH,saw,cT,cF]<;>rfl)|simp_all[Ty.cells,zqH,saw]
theorem zWP:vF 315 zwi:=kF2 zgU zl zn zo (zq []) z1w
def zXQ (N:Nat)(a:Guest)(b:Int):OA:=
 (oN (zF a)<|cond (ilt (ln a.Seen) 40) (oN (few<|ln<|ap (zcC a).Seen [b])<|some [aT .guest ({ (zcC a) with Seen:=(ap (zcC a).Seen [b])}:Guest)])<|some [aT .guest<|zcC a])
theorem z1s (a:Guest)(b:Int)(c:zt3 a b=true):∃N,zXQ N a b=some [aT .guest<|zqH a b]:=by have d:=zB.1 c;have e:a.Seen.length<=1048576:=d.2.2.2;refine⟨0,?_⟩;unfold zXQ oN;refine mu (br (λ_=>mu ?_) λ_=>?_);all_goals first|rfl|(simp only [*,zqH,saw,cT,cF]<;>rfl)|simp_all[Ty.cells,zqH,saw]
theorem zWL:vF 281 zwi:=kF2 zgU zl zn zo (zq []) z1s
def stopped (g:Guest)(e:GExit):Guest:={g with Exit:=e}
@[simp] theorem zXH {g:Guest}(e:GExit)(h:SmG g):SmG (stopped g e):=h
@[simp] abbrev zbZ (g:Guest)(e:GExit):Bool:=pc (SmG g)
@[simp] abbrev zca (g:Guest)(e:GExit):Guest:=stopped g e
def zoO:Run:=rF2 (dT .guest) dE λb c=>(zbZ b c,[aT .guest<|zca b c])
def zFD (N:Nat)(a:Guest)(b:GExit):OA:=
 (oN (zdy a)<|some [aT .guest ({ (zda a) with Exit:=b}:Guest)])
theorem zSo (a:Guest)(b:GExit)(c:zbZ a b=true):∃N,zFD N a b=some [aT .guest<|zca a b]:=by have d:=zB.1 c;refine⟨0,?_⟩;unfold zFD oN;refine mu ?_;first|rfl|(simp only [*,zca,stopped,cT,cF]<;>rfl)|simp_all[Ty.cells,zca,stopped]
theorem zKN:vF 214 zoO:=kF2 zgU zl zn zo (zq []) zSo
def zE7 (N:Nat)(a:Guest)(b:GExit):OA:=
 (oN (zF a)<|some [aT .guest ({ (zcC a) with Exit:=b}:Guest)])
theorem zRW (a:Guest)(b:GExit)(c:zbZ a b=true):∃N,zE7 N a b=some [aT .guest<|zca a b]:=by have d:=zB.1 c;refine⟨0,?_⟩;unfold zE7 oN;refine mu ?_;first|rfl|(simp only [*,zca,stopped,cT,cF]<;>rfl)|simp_all[Ty.cells,zca,stopped]
theorem zKl:vF 166 zoO:=kF2 zgU zl zn zo (zq []) zRW
def zb3 (g:Guest):Guest:=bif ige g.Pc 12 then {g with Pc:=12} else {g with Pc:=zG .i64 g.Pc 1}
@[simp] theorem zlm {g:Guest}(h:SmG g):SmG (zb3 g):=by unfold zb3;cases ige g.Pc 12<;>exact h
@[simp] abbrev zbO (g:Guest):Guest:=zb3 g
def ziD:Run:=rF1 (dT .guest) λb=>(zF b,[aT .guest<|zbO b])
def zQb (N:Nat)(a:Guest):OA:=
 (oN (zdy a)<|cond (ige (zda a).Pc 12) (some [aT .guest ({ (zda a) with Pc:=12}:Guest)])<|some [aT .guest ({ (zda a) with Pc:=(zG .i64 (zda a).Pc 1)}:Guest)])
theorem zW4 (a:Guest)(b:zF a=true):∃N,zQb N a=some [aT .guest<|zbO a]:=by have c:=zB.1 b;refine⟨0,?_⟩;unfold zQb oN;refine mu (br (λ_=>?_) λ_=>?_);all_goals first|rfl|(simp only [*,zbO,zb3,cT,cF]<;>rfl)|simp_all[Ty.cells,zbO,zb3]
theorem zRt:vF 226 ziD:=kF1 zgU zl zn zo (zq []) zW4
def zPZ (N:Nat)(a:Guest):OA:=
 (oN (zF a)<|cond (ige a.Pc 12) (some [aT .guest ({ (zcC a) with Pc:=12}:Guest)])<|some [aT .guest ({ (zcC a) with Pc:=(zG .i64 a.Pc 1)}:Guest)])
theorem zWV (a:Guest)(b:zF a=true):∃N,zPZ N a=some [aT .guest<|zbO a]:=by have c:=zB.1 b;refine⟨0,?_⟩;unfold zPZ oN;refine mu (br (λ_=>?_) λ_=>?_);all_goals first|rfl|(simp only [*,zbO,zb3,cT,cF]<;>rfl)|simp_all[Ty.cells,zbO,zb3]
theorem zRi:vF 190 ziD:=kF1 zgU zl zn zo (zq []) zWV
def z5g:zY:=[(216,znK),(168,znK),(311,znJ),(278,znJ),(231,zoQ),(308,zoQ),(315,zwi),(281,zwi),(214,zoO),(166,zoO),(226,ziD),(190,ziD)]++z5f
theorem zeS:zK z5g:=zf zHN (zf zHk<|zf zHM<|zf zHj<|zf zKP<|zf zKn<|zf zWP<|zf zWL<|zf zKN<|zf zKl<|zf zRt<|zf zRi zgU)
def interrupted (g:Guest):Guest:=bif zpl g then saw {g with Pending:=ziS g.Pending} (zG .i64 100<|zmL g.Pending) else g
@[simp] theorem zYo {g:Guest}(h:SmG g):SmG (interrupted g):=by unfold interrupted;cases zpl g;{exact h};{exact zPs (g:={g with Pending:=ziS g.Pending}) _ h}
@[simp] abbrev zey (g:Guest):Guest:=interrupted g
def zkz:Run:=rF1 (dT .guest) λb=>(zF b,[aT .guest<|zey b])
def zvq (N:Nat)(a:Guest):OA:=
 let c:=zG .i64 100<|zfI a.Pending;let b:=({a with Pending:=(zfH a.Pending)}:Guest); (oN (zbo a)<|cond (nB<|zlF a) (oN (zdy a)<|some [aT .guest<|zda a])<|oN (zbY a.Pending)<|oN (zt3 b c)<|some [aT .guest<|zqH b c])
theorem zEA (a:Guest)(b:zF a=true):∃N,zvq N a=some [aT .guest<|zey a]:=by
 have c:=zB.1 b;have d:_/\_/\_/\_:=c;refine⟨0,?_⟩;unfold zvq oN nB;conv=>zeta
 refine must rfl (brN (λ_=>mu ?_) λ_=>must rfl (mu ?_));all_goals first|rfl|(simp only [*,zey,interrupted,cT,cF]<;>rfl)|simp_all[Ty.cells,zey,interrupted]
theorem zAE:vF 208 zkz:=kF1 zeS zl zn zo (zq []) zEA
def zve (N:Nat)(a:Guest):OA:=
 let c:=zG .i64 100<|zfI a.Pending;let b:=({a with Pending:=(zfH a.Pending)}:Guest); (oN (zbo a)<|cond (nB<|zlF a) (oN (zF a)<|some [aT .guest<|zcC a])<|oN (zbY a.Pending)<|oN (zt3 b c)<|some [aT .guest<|zqH b c])
theorem zEp (a:Guest)(b:zF a=true):∃N,zve N a=some [aT .guest<|zey a]:=by
 have c:=zB.1 b;have d:_/\_/\_/\_:=c;refine⟨0,?_⟩;unfold zve oN nB;conv=>zeta
 refine must rfl (brN (λ_=>mu ?_) λ_=>must rfl (mu ?_));all_goals first|rfl|(simp only [*,zey,interrupted,cT,cF]<;>rfl)|simp_all[Ty.cells,zey,interrupted]
theorem zAt:vF 286 zkz:=kF1 zeS zl zn zo (zq []) zEp
def zLP (o:Int):Int:=bif ieq o 3 then 3 else (cond (ieq o 4) 4<|cond (ieq o 5) 5<|cond (ieq o 6) 6<|cond (ieq o 7) 7 2)
def zM (g:Guest):Int:=bif canRun g then (cond (zpl g) 1<|zLP (zeO g.Prog g.Pc).Op) else 0
@[simp] abbrev zg3 (g:Guest):Int:=zM g
def zqx:Run:=rF1 (dT .guest) λb=>(zbo b,[aI<|zg3 b])
def zJq (N:Nat)(a:Guest):OA:=
 let b:=(zdr a.Prog a.Pc).Op; (oN (ztL a)<|cond (nB<|zpc a) (some [aI 0])<|oN (zbo a)<|cond (zlF a) (some [aI 1])<|oN (zdi a.Prog a.Pc)<|cond (ieq b 3) (some [aI 3])<|cond (ieq b 4) (some [aI 4])<|cond (ieq b 5) (some [aI 5])<|cond (ieq b 6) (some [aI 6])<|cond (ieq b 7) (some [aI 7])<|some [aI 2])
theorem zCK (a:Guest)(b:zbt big [aT .guest a])(c:zbo a=true):∃N,zJq N a=some [aI<|zg3 a]:=by
 refine⟨0,?_⟩;unfold zJq oN nB;conv=>zeta
 refine must rfl (brN (λ_=>?_) λ_=>must rfl (br (λ_=>?_) λ_=>must rfl (br (λ_=>?_) λ_=>br (λ_=>?_) λ_=>br (λ_=>?_) λ_=>br (λ_=>?_) λ_=>br (λ_=>?_) λ_=>?_)));all_goals first|rfl|(simp only [*,zg3,zM,zLP,cT,cF]<;>rfl)|simp_all[Ty.cells,zg3,zM,zLP]
theorem zcm:vF 206 zqx:=hF1 zeS zl zn zo (zq []) zCK
theorem zNC:vF 161 zqx:=hF1 zeS zl zn zo (zq []) zCK
def held (g:Guest):Guest:=zb3 {g with Halted:=true}
@[simp] theorem zVL {g:Guest}(h:SmG g):SmG (held g):=zlm (g:={g with Halted:=true}) h
@[simp] abbrev zji (g:Guest):Guest:=held g
def ztK:Run:=rF1 (dT .guest) λb=>(zF b,[aT .guest<|zji b])
def zTj (N:Nat)(b:Guest):OA:=
 let a:=({b with Halted:=true}:Guest); (oN (zF a)<|some [aT .guest<|zbO a])
theorem zLB (a:Guest)(d:zbt big [aT .guest a])(b:zF a=true):∃N,zTj N a=some [aT .guest<|zji a]:=by
 have c:=zB.1 b;have e:_/\_/\_/\_:=c;refine⟨0,?_⟩;unfold zTj oN;conv=>zeta
 refine mu ?_;first|rfl|(simp only [*,zji,held,cT,cF]<;>rfl)|simp_all[Ty.cells,zji,held]
theorem zT7:vF 227 ztK:=hF1 zeS zl zn zo (zq []) zLB
theorem zT2:vF 285 ztK:=hF1 zeS zl zn zo (zq []) zLB
def zJn (N:Nat)(a:Guest):OA:=
 (oN (zF a)<|some [aT .guest<|zbO a])
theorem zCJ (a:Guest)(c:zbt big [aT .guest a])(b:zF a=true):∃N,zJn N a=some [aT .guest<|zbO a]:=by have d:=zB.1 b;refine⟨0,?_⟩;unfold zJn oN;refine mu ?_;first|rfl|(simp only [*,zbO,cT,cF]<;>rfl)|simp_all[Ty.cells,zbO]
theorem zN0:vF 218 ziD:=hF1 zeS zl zn zo (zq []) zCJ
theorem zNz:vF 170 ziD:=hF1 zeS zl zn zo (zq []) zCJ
def loaded (g:Guest)(v:Int):Guest:=zb3 (saw {g with A:=v} v)
@[simp] theorem zMd {g:Guest}(v:Int)(h:SmG g):SmG (loaded g v):=zlm (zPs (g:={g with A:=v}) v h)
@[simp] abbrev zj0 (g:Guest)(v:Int):Bool:=pc (SmG g)
@[simp] abbrev zjq (g:Guest)(v:Int):Guest:=loaded g v
def zqj:Run:=rF2 (dT .guest) dI λb c=>(zj0 b c,[aT .guest<|zjq b c])
def zJc (N:Nat)(c:Guest)(a:Int):OA:=
 let b:=({c with A:=a}:Guest); (oN (zt3 b a)<|oN (zF<|zqH b a)<|some [aT .guest<|zbO<|zqH b a])
theorem zCF (b:Guest)(a:Int)(e:zbt big [aT .guest b,aI a])(d:zj0 b a=true):∃N,zJc N b a=some [aT .guest<|zjq b a]:=by
 have c:=zB.1 d;have h:_/\_/\_/\_:=c;have f:SmG (saw {b with A:=a} a):=zPs (g:={b with A:=a}) a c;refine⟨0,?_⟩;unfold zJc oN;conv=>zeta
 refine mu (mu ?_);first|rfl|(simp only [*,zjq,loaded,cT,cF]<;>rfl)|simp_all[Ty.cells,zjq,loaded]
theorem zNO:vF 219 zqj:=hF2 zeS zl zn zo (zq []) zCF
theorem zNk:vF 171 zqj:=hF2 zeS zl zn zo (zq []) zCF
def zrt (g:Guest)(w:Int):Guest:=bif ieq w 5 then stopped g (zPi (zeO g.Prog g.Pc).X) else stopped g ⟨4,0,false,0⟩
@[simp] theorem z8W {g:Guest}(w:Int)(h:SmG g):SmG (zrt g w):=by unfold zrt;cases ieq w 5<;>exact h
@[simp] abbrev zn7 (g:Guest)(w:Int):Bool:=pc (SmG g)
@[simp] abbrev zle (g:Guest)(w:Int):Guest:=zrt g w
def zz8:Run:=rF2 (dT .guest) dI λb c=>(zn7 b c,[aT .guest<|zle b c])
def zFe (N:Nat)(a:Guest)(c:Int):OA:=
 let b:=(zdr a.Prog a.Pc).X; (cond (ieq c 5) (oN (zdi a.Prog a.Pc)<|oN (zgo b)<|oN (zbZ a<|zlg b)<|some [aT .guest<|zca a<|zlg b])<|oN (zbZ a (⟨4,0,false,0⟩:GExit))<|some [aT .guest<|zca a (⟨4,0,false,0⟩:GExit)])
theorem zR3 (a:Guest)(b:Int)(c:zn7 a b=true):∃N,zFe N a b=some [aT .guest<|zle a b]:=by
 have d:=zB.1 c;refine⟨0,?_⟩;unfold zFe oN;conv=>zeta
 refine br (λ_=>must rfl (must rfl (mu ?_))) (λ_=>mu ?_);all_goals first|rfl|(simp only [*,zle,zrt,cT,cF]<;>rfl)|simp_all[Ty.cells,zle,zrt]
theorem zKs:vF 284 zz8:=kF2 zeS zl zn zo (zq []) zR3
def zd7 (g:Guest):Bool:=zeP g.Prog&&(zk g.A 0 99&&(zk g.Pc 0 12&&(zeg g.Written 4 8&&(zeg g.Live 4 8&&(zrI g.Ctl&&(zhG g.Pending&&(zuo g.Exit&&ile (ln g.Seen) 40)))))))
@[simp] abbrev ziE (g:Guest):Bool:=zd7 g
def zoB:Run:=rF1 (dT .guest) λb=>(zbo b,[aB<|ziE b])
def zFp (N:Nat)(a:Guest):OA:=
 (oN (ztN a.Prog)<|cond (zib a.Prog) (oN (zD a.A 0 99)<|cond (zk a.A 0 99) (oN (zD a.Pc 0 12)<|cond (zk a.Pc 0 12) (oN (zkn a.Written 4 8)<|cond (ze2 a.Written 4 8) (oN (zkn a.Live 4 8)<|cond (ze2 a.Live 4 8) (oN (ze5 a.Ctl)<|cond (znN a.Ctl) (oN (zbY a.Pending)<|cond (zes a.Pending) (oN (ztM a.Exit)<|cond (zmV a.Exit) (some [aB<|ile (ln a.Seen) 40]) oF) oF) oF) oF) oF) oF) oF) oF)
theorem zzV (a:Guest)(b:zbt big [aT .guest a])(c:zbo a=true):∃N,zFp N a=some [aB<|ziE a]:=by refine⟨0,?_⟩;unfold zFp oN;refine must rfl (br (λ_=>must rfl (br (λ_=>must rfl (br (λ_=>must rfl (br (λ_=>must rfl (br (λ_=>must rfl (br (λ_=>must rfl (br (λ_=>must rfl (br (λ_=>?_) λ_=>?_)) λ_=>?_)) λ_=>?_)) λ_=>?_)) λ_=>?_)) λ_=>?_)) λ_=>?_)) λ_=>?_);all_goals first|rfl|(simp only [*,ziE,zd7,cT,cF]<;>rfl)|simp_all[Ty.cells,ziE,zd7]
theorem zKz:vF 312 zoB:=hF1 zeS zl zn zo (zq []) zzV
theorem zJ7:vF 297 zoB:=hF1 zeS zl zn zo (zq []) zzV
@[simp] abbrev zcM (l:List Guest):Bool:=pc (zoV l)
@[simp] abbrev zdm (l:List Guest):List Guest:=l
def zuV:Run:=rF1 (dS .guest) λb=>(zcM b,[aS .guest<|zdm b])
def zw5 (N:Nat)(c:lG):OA:=
 (iter (σ:=(Int×Int×lG×lG×Unit)) N (λd a=>let b:=ix a.2.2.2.1 a.2.1 zu; (cond (ilt a.2.1 a.1) (oN (inb a.2.1<|ln a.2.2.2.1)<|oN (zF b)<|oN (few<|ln<|ap a.2.2.1 [zcC b])<|d (a.1,zG .i64 a.2.1 1,ap a.2.2.1 [zcC b],a.2.2.2.1,()))<|some [aS .guest a.2.2.1])) (ln c,0,[],c,()))
def zIC:=zq [(147,0,{n:=20,tm:=[(3,.sl 0 []),(7,.sl 1 []),(8,ti),(9,ti)],lo:=[],ro:=[(0,.guest,true),(1,.guest,false)]})]
theorem zH5 (a:List Guest)(g:zcM a=true):∃N,zw5 N a=some [aS .guest<|zdm a]:=by
 have f:=zB.1 g;have e:=zbV f.1;refine zbG λN d=>?_;unfold zw5 oN;conv=>zeta
 refine(zW a (λi (t:lG)=>(ln a,(i:Int),t,a,())) _ (λ_ x b j=>bif zF x then (cond (few<|ln<|ap b [zcC x]) (j<|ap b [zcC x]) none) else none) (λ(t:lG)=>some [.one<|.s .guest t]) (λi c t rec=>?_) (λt rec=>?_) _ ([])<|d e.1).trans ?_;{simp only [zbf c,zO c,zX c,zV c e.1,cT]};{simp only [zbc,cF]};exact zi1 zF zcC _ a 0 [] (λx h=>⟨by exact zN (f.2 x h),rfl⟩) (by simpa using e.2)
theorem zCk:vF 147 zuV:=kF1 zeS zl zn zo zIC zH5
def gAt (b:Bare)(i:Int):Guest:=bif hasB i (ln b.Guests) then ix b.Guests i zu else Ty.dflt .guest
@[simp] theorem zfn {b:Bare}(i:Int)(h:SmB b):SmG (gAt b i):=by unfold gAt;cases a:hasB i (ln b.Guests);{exact z9z};{exact zMc h.2.1 a _}
@[simp] abbrev zc6 (b:Bare)(i:Int):Bool:=pc (SmB b)
@[simp] abbrev zcG (b:Bare)(i:Int):Guest:=gAt b i
@[simp] abbrev zcH (b:Bare)(i:Int):Bool:=hasB i (ln b.Guests)
def zoA:Run:=rF2 (dT .bare) dI λb c=>(zc6 b c,[aT .guest<|zcG b c,aB<|zcH b c])
def zFo (N:Nat)(a:Bare)(b:Int):OA:=
 let c:=ix a.Guests b zu; (oN (zD b 0<|wsub .i64 (ln a.Guests) 1)<|cond (nB<|zk b 0<|wsub .i64 (ln a.Guests) 1) (some [aT .guest (⟨[],0,0,[],[],⟨0,0,false⟩,0,⟨0,0,false,0⟩,false,[]⟩:Guest),aB false])<|oN (inb b<|ln a.Guests)<|oN (zdy c)<|some [aT .guest<|zda c,aB true])
theorem zSc (a:Bare)(b:Int)(d:zc6 a b=true):∃N,zFo N a b=some [aT .guest<|zcG a b,aB<|zcH a b]:=by
 have c:=zB.1 d;have e:a.Guests.length<=1048576:=c.2.1.1;have f:hasB b (ln a.Guests)=true->SmG (ix a.Guests b zu):=λh=>zMc c.2.1 h _;refine⟨0,?_⟩;unfold zFo oN nB;conv=>zeta
 refine must rfl (brN (λ_=>?_) λ_=>mu (mu ?_));all_goals first|rfl|(simp only [*,zcG,zcH,gAt,Ty.dflt,cT,cF]<;>rfl)|simp_all[Ty.cells,zcG,zcH,gAt,Ty.dflt]
theorem zKx:vF 70 zoA:=kF2 zeS zl zn zo (zq []) zSc
def zEW (N:Nat)(a:Bare)(b:Int):OA:=
 let c:=ix a.Guests b zu; (oN (zZ b<|ln a.Guests)<|cond (nB<|zbH b<|ln a.Guests) (some [aT .guest (⟨[],0,0,[],[],⟨0,0,false⟩,0,⟨0,0,false,0⟩,false,[]⟩:Guest),aB false])<|oN (inb b<|ln a.Guests)<|oN (zF c)<|some [aT .guest<|zcC c,aB true])
theorem zRK (a:Bare)(b:Int)(d:zc6 a b=true):∃N,zEW N a b=some [aT .guest<|zcG a b,aB<|zcH a b]:=by
 have c:=zB.1 d;have e:a.Guests.length<=1048576:=c.2.1.1;have f:hasB b (ln a.Guests)=true->SmG (ix a.Guests b zu):=λh=>zMc c.2.1 h _;refine⟨0,?_⟩;unfold zEW oN nB;conv=>zeta
 refine must rfl (brN (λ_=>?_) λ_=>mu (mu ?_));all_goals first|rfl|(simp only [*,zcG,zcH,gAt,Ty.dflt,cT,cF]<;>rfl)|simp_all[Ty.cells,zcG,zcH,gAt,Ty.dflt]
theorem zJ6:vF 273 zoA:=kF2 zeS zl zn zo (zq []) zRK
def z5h:zY:=[(208,zkz),(286,zkz),(206,zqx),(161,zqx),(227,ztK),(285,ztK),(218,ziD),(170,ziD),(219,zqj),(171,zqj),(284,zz8),(312,zoB),(297,zoB),(147,zuV),(70,zoA),(273,zoA)]++z5g
theorem zkd:zK z5h:=zf zAE (zf zAt<|zf zcm<|zf zNC<|zf zT7<|zf zT2<|zf zN0<|zf zNz<|zf zNO<|zf zNk<|zf zKs<|zf zKz<|zf zJ7<|zf zCk<|zf zKx<|zf zJ6 zeS)
def plainly (g:Guest):Guest:=bif ine (zM g) 2 then g else (cond (zk g.A 0 99) (cond (zk (zeO g.Prog g.Pc).X 0 99) (cond (ieq (zeO g.Prog g.Pc).Op 1) {zb3 g with A:=(zeO g.Prog g.Pc).X}<|cond (ieq (zeO g.Prog g.Pc).Op 2) {zb3 g with A:=zrx (zG .i64 g.A (zeO g.Prog g.Pc).X) 100}<|cond (ieq (zeO g.Prog g.Pc).Op 8) (cond (ieq g.A 0) {zb3 g with Pc:=(zeO g.Prog g.Pc).X}<|zb3 g)<|zb3 g)<|zb3 g)<|zb3 g)
@[simp] theorem z9s (g:Guest):(zb3 g).Prog=g.Prog:=by unfold zb3;cases ige g.Pc 12<;>rfl
@[simp] theorem z9Z (g:Guest):(zb3 g).A=g.A:=by unfold zb3;cases ige g.Pc 12<;>rfl
@[simp] theorem z7E (g:Guest):(zb3 g).Written=g.Written:=by unfold zb3;cases ige g.Pc 12<;>rfl
@[simp] theorem z9r (g:Guest):(zb3 g).Live=g.Live:=by unfold zb3;cases ige g.Pc 12<;>rfl
@[simp] theorem z9E (g:Guest):(zb3 g).Ctl=g.Ctl:=by unfold zb3;cases ige g.Pc 12<;>rfl
@[simp] theorem z7D (g:Guest):(zb3 g).Pending=g.Pending:=by unfold zb3;cases ige g.Pc 12<;>rfl
@[simp] theorem z9q (g:Guest):(zb3 g).Exit=g.Exit:=by unfold zb3;cases ige g.Pc 12<;>rfl
@[simp] theorem z8D (g:Guest):(zb3 g).Halted=g.Halted:=by unfold zb3;cases ige g.Pc 12<;>rfl
@[simp] theorem z9t (g:Guest):(zb3 g).Seen=g.Seen:=by unfold zb3;cases ige g.Pc 12<;>rfl
@[simp] theorem z9F (g:Guest)(x:Int):(zb3 {g with A:=x}).Pc=(zb3 g).Pc:=by unfold zb3;cases ige g.Pc 12<;>rfl
@[simp] theorem zGt {g:Guest}(h:SmG g):SmG (plainly g):=by have a:=zlm h;unfold plainly;cases ine (zM g) 2;{cases zk g.A 0 99;{exact a};{cases zk (zeO g.Prog g.Pc).X 0 99;{exact a};{cases ieq (zeO g.Prog g.Pc).Op 1;{cases ieq (zeO g.Prog g.Pc).Op 2;{cases ieq (zeO g.Prog g.Pc).Op 8;{exact a};{cases ieq g.A 0<;>exact a}};{exact a}};{exact a}}}};{exact h}
@[simp] abbrev zhC (g:Guest):Guest:=plainly g
def zox:Run:=rF1 (dT .guest) λb=>(zF b,[aT .guest<|zhC b])
def zE5 (N:Nat)(a:Guest):OA:=
 let c:=aT .guest<|zbO a;let b:=zdr a.Prog a.Pc; (oN (zbo a)<|cond (ine (zg3 a) 2) (oN (zF a)<|some [aT .guest<|zcC a])<|oN (zdi a.Prog a.Pc)<|oN (zF a)<|oN (zD a.A 0 99)<|cond (nB<|zk a.A 0 99) (some [c])<|oN (zD b.X 0 99)<|cond (nB<|zk b.X 0 99) (some [c])<|cond (ieq b.Op 1) (some [aT .guest ({ (zbO a) with A:=b.X}:Guest)])<|cond (ieq b.Op 2) (oN (ine 100 0)<|some [aT .guest ({ (zbO a) with A:=(zrx (zG .i64 a.A b.X) 100)}:Guest)])<|cond (ieq b.Op 8) (cond (ieq a.A 0) (some [aT .guest ({ (zbO a) with Pc:=b.X}:Guest)])<|some [c])<|some [c])
theorem zRU (a:Guest)(b:zF a=true):∃N,zE5 N a=some [aT .guest<|zhC a]:=by
 have c:=zB.1 b;refine⟨0,?_⟩;unfold zE5 oN nB;conv=>zeta
 refine must rfl (br (λ_=>mu ?_) λ_=>must rfl (mu (must rfl (brN (λ_=>?_) λ_=>must rfl (brN (λ_=>?_) λ_=>br (λ_=>?_) λ_=>br (λ_=>must rfl ?_) λ_=>br (λ_=>br (λ_=>?_) λ_=>?_) λ_=>?_)))));all_goals first|rfl|(simp only [*,zhC,plainly,cT,cF]<;>rfl)|simp_all[Ty.cells,zhC,plainly]
theorem zKj:vF 287 zox:=kF1 zkd zl zn zo (zq []) zRU
def zFB (N:Nat)(a:Guest):OA:=
 let i:=ieq a.A 0;let c:=zF a;let b:=aT .guest<|zbO a;let d:=zdr a.Prog a.Pc;let j:=({a with A:=d.X}:Guest);let h:=ieq d.Op 8;let e:=zk d.X 0 99;let g:=aT .guest ({ (zda a) with Pc:=d.X}:Guest);let f:=({a with A:=(zrx (zG .i64 a.A d.X) 100)}:Guest); (oN (zbo a)<|cond (ine (zg3 a) 2) (oN (zdy a)<|some [aT .guest<|zda a])<|oN (zdi a.Prog a.Pc)<|oN (zD a.A 0 99)<|cond (zk a.A 0 99) (oN (zD d.X 0 99)<|cond e (cond (ieq d.Op 1) (oN (zF j)<|some [aT .guest<|zbO j])<|cond e (cond (ieq d.Op 2) (oN (ine 100 0)<|oN (zF f)<|some [aT .guest<|zbO f])<|cond e (cond h (cond i (oN (zdy a)<|some [g])<|oN c<|some [b])<|oN c<|some [b])<|oN c<|some [b])<|cond e (cond h (cond i (oN (zdy a)<|some [g])<|oN c<|some [b])<|oN c<|some [b])<|oN c<|some [b])<|cond e (cond (ieq d.Op 2) (oN (ine 100 0)<|oN (zF f)<|some [aT .guest<|zbO f])<|cond e (cond h (cond i (oN (zdy a)<|some [g])<|oN c<|some [b])<|oN c<|some [b])<|oN c<|some [b])<|cond e (cond h (cond i (oN (zdy a)<|some [g])<|oN c<|some [b])<|oN c<|some [b])<|oN c<|some [b])<|oN c<|some [b])
theorem zSm (a:Guest)(b:zF a=true):∃N,zFB N a=some [aT .guest<|zhC a]:=by
 have c:=zB.1 b;have d:_/\_/\_/\_:=c;refine⟨0,?_⟩;unfold zFB oN;conv=>zeta
 refine must rfl (br (λ_=>mu ?_) λ_=>must rfl (must rfl (br (λ_=>must rfl (br (λ_=>br (λ_=>mu ?_) λ_=>br (λ_=>br (λ_=>must rfl (mu ?_)) λ_=>br (λ_=>br (λ_=>br (λ_=>mu ?_) λ_=>mu ?_) λ_=>mu ?_) λ_=>mu ?_) λ_=>br (λ_=>br (λ_=>br (λ_=>mu ?_) λ_=>mu ?_) λ_=>mu ?_) λ_=>mu ?_) λ_=>br (λ_=>br (λ_=>must rfl (mu ?_)) λ_=>br (λ_=>br (λ_=>br (λ_=>mu ?_) λ_=>mu ?_) λ_=>mu ?_) λ_=>mu ?_) λ_=>br (λ_=>br (λ_=>br (λ_=>mu ?_) λ_=>mu ?_) λ_=>mu ?_) λ_=>mu ?_)) λ_=>mu ?_)));all_goals first|rfl|(simp only [*,zhC,plainly,cT,cF]<;>rfl)|simp_all[Ty.cells,zhC,plainly]
theorem zKL:vF 209 zox:=kF1 zkd zl zn zo (zq []) zSm
def address (g:Guest):Int:=bif ine (zM g) 3 then (cond (ine (zM g) 4) (-1)<|(zeO g.Prog g.Pc).X) else (zeO g.Prog g.Pc).X
@[simp] abbrev zgG (g:Guest):Int:=address g
def zoy:Run:=rF1 (dT .guest) λb=>(zbo b,[aI<|zgG b])
def zFg (N:Nat)(a:Guest):OA:=
 (oN (zbo a)<|cond (ine (zg3 a) 3) (cond (ine (zg3 a) 4) (some [aI<|-1])<|oN (zdi a.Prog a.Pc)<|some [aI (zdr a.Prog a.Pc).X])<|oN (zdi a.Prog a.Pc)<|some [aI (zdr a.Prog a.Pc).X])
theorem zzU (a:Guest)(b:zbt big [aT .guest a])(c:zbo a=true):∃N,zFg N a=some [aI<|zgG a]:=by refine⟨0,?_⟩;unfold zFg oN;refine must rfl (br (λ_=>br (λ_=>?_) λ_=>must rfl ?_) λ_=>must rfl ?_);all_goals first|rfl|(simp only [*,zgG,address,cT,cF]<;>rfl)|simp_all[Ty.cells,zgG,address]
theorem zKu:vF 210 zoy:=hF1 zkd zl zn zo (zq []) zzU
theorem zJ3:vF 162 zoy:=hF1 zkd zl zn zo (zq []) zzU
def zhy (g:Guest)(t w:Int):Guest:=bif ieq w 6 then stopped g (zGJ (zeO g.Prog g.Pc).X) else (cond (ieq w 5&&zeo t 1) (stopped g<|zPi (zeO g.Prog g.Pc).X)<|cond (ieq w 7&&zeo t 2) (stopped g ⟨4,0,false,0⟩)<|cond (ieq w 7) (held g)<|zb3 g)
def zjx (t w:Int):Bool:=bif ieq w 6 then false else (cond (ieq w 5&&zeo t 1) false<|cond (ieq w 7&&zeo t 2) false true)
@[simp] theorem zDa {g:Guest}(t w:Int)(h:SmG g):SmG (zhy g t w):=by unfold zhy;cases ieq w 6;{cases (ieq w 5&&zeo t 1);{cases (ieq w 7&&zeo t 2);{cases ieq w 7;{exact zlm h};{exact zVL h}};{exact h}};{exact h}};{exact h}
@[simp] abbrev zdW (g:Guest)(t w:Int):Bool:=pc (SmG g)
@[simp] abbrev zci (g:Guest)(t w:Int):Guest:=zhy g t w
@[simp] abbrev zdj (g:Guest)(t w:Int):Bool:=zjx t w
def zAe:Run:=rF3 (dT .guest) dI dI λb c d=>(zdW b c d,[aT .guest<|zci b c d,aB<|zdj b c d])
def zFK (N:Nat)(a:Guest)(c b:Int):OA:=
 let g:=aT .guest<|zbO a;let f:=aT .guest<|zji a;let e:=(⟨4,0,false,0⟩:GExit);let d:=(zdr a.Prog a.Pc).X; (oN (zdi a.Prog a.Pc)<|cond (ieq b 6) (oN (zgo d)<|oN (zbZ a<|zio d)<|some [aT .guest<|zca a<|zio d,aB false])<|cond (ieq b 5) (oN (zga c 1)<|cond (zfw c 1) (oN (zgo d)<|oN (zbZ a<|zlg d)<|some [aT .guest<|zca a<|zlg d,aB false])<|cond (ieq b 7) (oN (zga c 2)<|cond (zfw c 2) (oN (zbZ a e)<|some [aT .guest<|zca a e,aB false])<|cond (ieq b 7) (oN (zF a)<|some [f,aB true])<|oN (zF a)<|some [g,aB true])<|cond (ieq b 7) (oN (zF a)<|some [f,aB true])<|oN (zF a)<|some [g,aB true])<|cond (ieq b 7) (oN (zga c 2)<|cond (zfw c 2) (oN (zbZ a e)<|some [aT .guest<|zca a e,aB false])<|cond (ieq b 7) (oN (zF a)<|some [f,aB true])<|oN (zF a)<|some [g,aB true])<|cond (ieq b 7) (oN (zF a)<|some [f,aB true])<|oN (zF a)<|some [g,aB true])
theorem zSv (a:Guest)(b c:Int)(d:zdW a b c=true):∃N,zFK N a b c=some [aT .guest<|zci a b c,aB<|zdj a b c]:=by
 have e:=zB.1 d;refine⟨0,?_⟩;unfold zFK oN;conv=>zeta
 refine must rfl (br (λ_=>must rfl (mu ?_)) λ_=>br (λ_=>must rfl (br (λ_=>must rfl (mu ?_)) λ_=>br (λ_=>must rfl (br (λ_=>mu ?_) λ_=>br (λ_=>mu ?_) λ_=>mu ?_)) λ_=>br (λ_=>mu ?_) λ_=>mu ?_)) λ_=>br (λ_=>must rfl (br (λ_=>mu ?_) λ_=>br (λ_=>mu ?_) λ_=>mu ?_)) λ_=>br (λ_=>mu ?_) λ_=>mu ?_);all_goals first|rfl|(simp only [*,zci,zdj,zhy,zjx,cT,cF]<;>rfl)|simp_all[Ty.cells,zci,zdj,zhy,zjx]
theorem zKX:vF 220 zAe:=kF3 zkd zl zn zo (zq []) zSv
def zb7 (b:Bare):Bool:=bif b.Guests.all zd7 then (zlu b.Memory 8&&(zk (ln b.Guests) 1 2&&(ile (ln b.Outs) 40&&zhG b.Pending))) else false
@[simp] abbrev zcv (b:Bare):Bool:=true
@[simp] abbrev zbD (b:Bare):Bool:=zb7 b
def zqd:Run:=rF1 (dT .bare) λb=>(zcv b,[aB<|zbD b])
def zI4 (N:Nat)(c:Bare):OA:=
 (iter (σ:=(Int×Int×lM×lG×(List Int)×Unit)) N (λd a=>let b:=a.2.2.2.1; (cond (ilt a.1<|ln b) (oN (inb a.1<|ln b)<|oN (zbo<|ix b a.1 zu)<|cond (nB<|ziE<|ix b a.1 zu) oF<|d (zG .i64 a.1 1,a.2.1,a.2.2.1,b,a.2.2.2.2.1,()))<|oN (zj1 a.2.2.1 8)<|cond (zf1 a.2.2.1 8) (oN (zD (ln b) 1 2)<|cond (zk (ln b) 1 2) (cond (ile (ln a.2.2.2.2.1) 40) (oN (zbY a.2.1)<|some [aB<|zes a.2.1]) oF) oF) oF)) (0,c.Pending,c.Memory,c.Guests,c.Outs,()))
def zV9:=zq [(207,0,{n:=38,tm:=[(1,.lp 0 0),(3,ti)],lo:=[(0,[.sl 0 [],.sl 1 [],.sl 2 [],ti])],ro:=[(0,.sl .int,false),(1,.guest,false),(2,.int,false)]})]
theorem zUE (a:Bare)(k:zbt big [aT .bare a])(m:zcv a=true):∃N,zI4 N a=some [aB<|zbD a]:=by
 have j:(_:List _).length<=big:=((zbv k).1 (.s .guest a.Guests) (by simp[AV.cvs,Ty.cells])).len;refine zbG λN h=>?_;unfold zI4 oN nB;conv=>zeta
 refine(zW a.Guests (λi (t:Unit)=>((i:Int),a.Pending,a.Memory,a.Guests,a.Outs,())) _ (λ_ x (_:Unit) l=>bif (zd7) x then l () else oF) (λ(t:Unit)=>cond (zj1 a.Memory 8) (cond (zf1 a.Memory 8) (cond (zD (ln a.Guests) 1 2) (cond (zk (ln a.Guests) 1 2) (cond (ile (ln a.Outs) 40) (cond (zbY a.Pending) (some [.one<|.b<|zes a.Pending]) none) oF) oF) none) oF) none) (λi f t rec=>?_) (λt rec=>?_) _ ()<|h j).trans ?_;{simp only [zbf f,zO f,zX f,zV f j,cT];exact zka rfl};{simp only [zbc,cF]};rw[zhX<|zd7];refine br (λc=>?_) (λc=>?_);{refine must rfl ?_;refine br (λd=>?_) (λd=>?_);{refine must rfl ?_;refine br (λe=>?_) (λe=>?_);{refine br (λg=>?_) (λg=>?_);{refine must rfl ?_;first|rfl|(simp only [c,d,e,g,zbD,zb7,cT,cF]<;>rfl)|(simp_all [Ty.cells,zbD,zb7];done)};{first|rfl|(simp only [c,d,e,g,zbD,zb7,cT,cF]<;>rfl)|(simp_all [Ty.cells,zbD,zb7];done)}};{first|rfl|(simp only [c,d,e,zbD,zb7,cT,cF]<;>rfl)|(simp_all [Ty.cells,zbD,zb7];done)}};{first|rfl|(simp only [c,d,zbD,zb7,cT,cF]<;>rfl)|(simp_all [Ty.cells,zbD,zb7];done)}};{first|rfl|(simp only [c,zbD,zb7,cT,cF]<;>rfl)|(simp_all [Ty.cells,zbD,zb7];done)}
theorem zNG:vF 207 zqd:=hF1 zkd zl zn zo zV9 zUE
def zII (N:Nat)(b:Bare):OA:=
 (iter (σ:=(Int×Int×Int×lG×lM×(List Int)×Unit)) N (λe a=>let c:=a.2.2.2.1;let d:=ix c a.2.1 zu; (cond (ilt a.2.1 a.1) (oN (inb a.2.1<|ln c)<|oN (zbo d)<|cond (nB<|ziE d) oF<|e (a.1,zG .i64 a.2.1 1,a.2.2.1,c,a.2.2.2.2.1,a.2.2.2.2.2.1,()))<|oN (zj1 a.2.2.2.2.1 8)<|cond (zf1 a.2.2.2.2.1 8) (oN (zD (ln c) 1 2)<|cond (zk (ln c) 1 2) (cond (ile (ln a.2.2.2.2.2.1) 40) (oN (zbY a.2.2.1)<|some [aB<|zes a.2.2.1]) oF) oF) oF)) (ln b.Guests,0,b.Pending,b.Guests,b.Memory,b.Outs,()))
def zVY:=zq [(274,0,{n:=36,tm:=[(1,.lp 0 0),(6,.sl 0 []),(7,ti),(8,ti)],lo:=[(0,[.sl 1 [],.sl 0 [],.sl 2 [],ti])],ro:=[(0,.guest,false),(1,.sl .int,false),(2,.int,false)]})]
theorem zUh (a:Bare)(k:zbt big [aT .bare a])(m:zcv a=true):∃N,zII N a=some [aB<|zbD a]:=by
 have j:(_:List _).length<=big:=((zbv k).1 (.s .guest a.Guests) (by simp[AV.cvs,Ty.cells])).len;refine zbG λN h=>?_;unfold zII oN nB;conv=>zeta
 refine(zW a.Guests (λi (t:Unit)=>(ln a.Guests,(i:Int),a.Pending,a.Guests,a.Memory,a.Outs,())) _ (λ_ x (_:Unit) l=>bif (zd7) x then l () else oF) (λ(t:Unit)=>cond (zj1 a.Memory 8) (cond (zf1 a.Memory 8) (cond (zD (ln a.Guests) 1 2) (cond (zk (ln a.Guests) 1 2) (cond (ile (ln a.Outs) 40) (cond (zbY a.Pending) (some [.one<|.b<|zes a.Pending]) none) oF) oF) none) oF) none) (λi f t rec=>?_) (λt rec=>?_) _ ()<|h j).trans ?_;{simp only [zbf f,zO f,zX f,zV f j,cT];exact zka rfl};{simp only [zbc,cF]};rw[zhX<|zd7];refine br (λc=>?_) (λc=>?_);{refine must rfl ?_;refine br (λd=>?_) (λd=>?_);{refine must rfl ?_;refine br (λe=>?_) (λe=>?_);{refine br (λg=>?_) (λg=>?_);{refine must rfl ?_;first|rfl|(simp only [c,d,e,g,zbD,zb7,cT,cF]<;>rfl)|(simp_all [Ty.cells,zbD,zb7];done)};{first|rfl|(simp only [c,d,e,g,zbD,zb7,cT,cF]<;>rfl)|(simp_all [Ty.cells,zbD,zb7];done)}};{first|rfl|(simp only [c,d,e,zbD,zb7,cT,cF]<;>rfl)|(simp_all [Ty.cells,zbD,zb7];done)}};{first|rfl|(simp only [c,d,zbD,zb7,cT,cF]<;>rfl)|(simp_all [Ty.cells,zbD,zb7];done)}};{first|rfl|(simp only [c,zbD,zb7,cT,cF]<;>rfl)|(simp_all [Ty.cells,zbD,zb7];done)}
theorem zNb:vF 274 zqd:=hF1 zkd zl zn zo zVY zUh
@[simp] abbrev zQ (b:Bare):Bool:=pc (SmB b)
@[simp] abbrev zI (b:Bare):Bare:=b
def znx:Run:=rF1 (dT .bare) λb=>(zQ b,[aT .bare<|zI b])
def zA6 (N:Nat)(a:Bare):OA:=
 (oN (zg8 a.Memory)<|oN (zcM a.Guests)<|oN (zd9 a.Outs)<|some [aT .bare (⟨zd2 a.Memory,zdm a.Guests,zd5 a.Outs,a.Pending⟩:Bare)])
theorem zOF (a:Bare)(b:zQ a=true):∃N,zA6 N a=some [aT .bare<|zI a]:=by have c:=zB.1 b;have d:_/\_/\_:=c;refine⟨0,?_⟩;unfold zA6 oN;refine mu (mu<|mu ?_);first|rfl|(simp only [*,zI,cT,cF]<;>rfl)|simp_all[Ty.cells,zI]
theorem zHn:vF 89 znx:=kF1 zkd zl zn zo (zq []) zOF
def zFJ (N:Nat)(a:Bare):OA:=
 (oN (zht a.Memory)<|oN (zgK a.Guests)<|oN (few<|ln<|ap [] a.Outs)<|some [aT .bare (⟨zfx a.Memory,zhv a.Guests,ap [] a.Outs,a.Pending⟩:Bare)])
theorem zSu (a:Bare)(b:zQ a=true):∃N,zFJ N a=some [aT .bare<|zI a]:=by have c:=zB.1 b;have d:_/\_/\_:=c;refine⟨0,?_⟩;unfold zFJ oN;refine mu (mu<|mu ?_);first|rfl|(simp only [*,zI,cT,cF]<;>rfl)|simp_all[Ty.cells,zI]
theorem zKW:vF 205 znx:=kF1 zkd zl zn zo (zq []) zSu
def z5i:zY:=[(209,zox),(287,zox),(210,zoy),(162,zoy),(220,zAe),(207,zqd),(274,zqd),(89,znx),(205,znx)]++z5h
theorem zyq:zK z5i:=zf zKL (zf zKj<|zf zKu<|zf zJ3<|zf zKX<|zf zNG<|zf zNb<|zf zHn<|zf zKW zkd)
def zfr (b:Bare)(i:Int)(x:Guest):Bare:={b with Guests:=up b.Guests i x}
def zdQ (b:Bare)(i:Int)(x:Guest):Bare:=bif hasB i (ln b.Guests) then zfr b i x else b
def zmS (b:Bare)(n:Int):Bare:=bif ilt (ln b.Outs) 40 then {b with Outs:=ap b.Outs [n]} else b
@[simp] theorem zph {b:Bare}{i:Int}{x:Guest}(h:SmB b)(a:SmG x):SmB (zfr b i x):=⟨h.1,zDJ h.2.1 a,h.2.2⟩
@[simp] theorem zMb {b:Bare}{n:Int}(h:SmB b):SmB (zmS b n):=by unfold zmS;cases a:ilt (ln b.Outs) 40;{exact h};{have:=qD a;refine⟨h.1,h.2.1,?_⟩;simp[ln] at *;omega}
@[simp] theorem z9U (b:Bare)(n:Int):(zmS b n).Guests=b.Guests:=by unfold zmS;cases ilt (ln b.Outs) 40<;>rfl
@[simp] theorem zpj {m:List (List Int)}{p c v:Int}(h:SmM m):SmM (zfs m p c v):=by unfold zfs;cases a:zkN m p c;{exact h};{cases b:zk v 0 99;{exact h};{exact zMf h (by simpa using z8O h ((zyV m p c).1 a).1 [])}}
@[simp] abbrev zbx (b:Bare)(i:Int)(x:Guest):Bool:=pc (SmB b/\SmG x)
@[simp] abbrev zcg (b:Bare)(i:Int)(x:Guest):Bare:=zdQ b i x
def zv9:Run:=rF3 (dT .bare) dI (dT .guest) λb c d=>(zbx b c d,[aT .bare<|zcg b c d])
def zzq (N:Nat)(a:Bare)(b:Int)(c:Guest):OA:=
 (oN (zQ a)<|oN (zZ b<|ln a.Guests)<|cond (zbH b<|ln a.Guests) (oN (zF c)<|oN (inb b<|ln (zI a).Guests)<|share (up (zI a).Guests b<|zcC c) λd=>some [aT .bare ({ (zI a) with Guests:=d}:Bare)])<|some [aT .bare<|zI a])
theorem zLk (a:Bare)(b:Int)(c:Guest)(d:zbx a b c=true):∃N,zzq N a b c=some [aT .bare<|zcg a b c]:=by have e:=zB.1 d;refine⟨0,?_⟩;unfold zzq oN;refine mu (must rfl (br (λ_=>mu (mu<|shr ?_)) λ_=>?_));all_goals first|rfl|(simp only [*,zcg,zdQ,zfr,cT,cF]<;>rfl)|simp_all[Ty.cells,zcg,zdQ,zfr]
theorem zDX:vF 275 zv9:=kF3 zyq zl zn zo (zq []) zLk
@[simp] abbrev zcR (b:Bare)(n:Int):Bool:=pc (SmB b)
@[simp] abbrev zkm (b:Bare)(n:Int):Bare:=zmS b n
def zqs:Run:=rF2 (dT .bare) dI λb c=>(zcR b c,[aT .bare<|zkm b c])
def zJk (N:Nat)(a:Bare)(b:Int):OA:=
 (oN (zQ a)<|cond (ilt (ln (zI a).Outs) 40) (oN (few<|ln<|ap (zI a).Outs [b])<|some [aT .bare ({ (zI a) with Outs:=(ap (zI a).Outs [b])}:Bare)])<|some [aT .bare<|zI a])
theorem zUQ (a:Bare)(b:Int)(c:zcR a b=true):∃N,zJk N a b=some [aT .bare<|zkm a b]:=by have d:=zB.1 c;have e:a.Outs.length<=1048576:=d.2.2;refine⟨0,?_⟩;unfold zJk oN;refine mu (br (λ_=>mu ?_) λ_=>?_);all_goals first|rfl|(simp only [*,zkm,zmS,cT,cF]<;>rfl)|simp_all[Ty.cells,zkm,zmS]
theorem zNX:vF 221 zqs:=kF2 zyq zl zn zo (zq []) zUQ
def zIW (N:Nat)(a:Bare)(b:Int):OA:=
 (oN (zQ a)<|cond (ilt (ln a.Outs) 40) (oN (few<|ln<|ap (zI a).Outs [b])<|some [aT .bare ({ (zI a) with Outs:=(ap (zI a).Outs [b])}:Bare)])<|some [aT .bare<|zI a])
theorem zUw (a:Bare)(b:Int)(c:zcR a b=true):∃N,zIW N a b=some [aT .bare<|zkm a b]:=by have d:=zB.1 c;have e:a.Outs.length<=1048576:=d.2.2;refine⟨0,?_⟩;unfold zIW oN;refine mu (br (λ_=>mu ?_) λ_=>?_);all_goals first|rfl|(simp only [*,zkm,zmS,cT,cF]<;>rfl)|simp_all[Ty.cells,zkm,zmS]
theorem zNv:vF 291 zqs:=kF2 zyq zl zn zo (zq []) zUw
def zYS:zY:=[(275,zv9),(221,zqs),(291,zqs)]++z5i
theorem zke:zK zYS:=zf zDX (zf zNX<|zf zNv zyq)
def zpE (b:Bare)(g:Int)(x:Guest)(w:Bool):Bare :=
 bif zie x.Live (zcj<|address x) (zgM w) then
  (bif w then zfr {b with Memory:=zfs b.Memory (zde x.Live (zcj<|address x)<|zgM w) (zgO<|address x) x.A} g (zb3 x)
  else zfr b g (loaded x<|cellAt b.Memory (zde x.Live (zcj<|address x)<|zgM w)<|zgO<|address x))
 else zfr b g (stopped x<|zB9 (zcj<|address x) w)
def zpF (b:Bare)(g:Int)(x:Guest)(w:Int):Bare :=
 zfr (cond (cond (zjx x.Ctl.Traps w) (ieq w 5) false) (zmS b (zeO x.Prog x.Pc).X) b) g (zhy x x.Ctl.Traps w)
def stepped (b:Bare)(g:Int)(x:Guest)(w:Int):Bare :=
 bif ieq w 1 then zfr b g (interrupted x) else (cond (ieq w 2) (zfr b g<|plainly x)<|cond (ieq w 3) (zpE b g x false)<|cond (ieq w 4) (zpE b g x true)<|zpF b g x w)
theorem tr1 (x:Guest)(t w:Int):ieq w 6=true->zhy x t w=stopped x (zGJ (zeO x.Prog x.Pc).X)/\zjx t w=false:=by intro h;simp[zhy,zjx,h]
theorem tr2 (x:Guest)(t w:Int):ieq w 6=false->(ieq w 5=false->ieq w 6=false->ieq w 7=true)->zeo t (zgw w)=true->zhy x t w=zrt x w/\zjx t w=false:=by intro b c h;unfold zhy zjx zrt zgw at *;cases a:ieq w 5<;>simp_all
theorem tr3 (x:Guest)(t w:Int):ieq w 6=false->ieq w 7=false->zeo t (zgw w)=false->ieq w 5=true->zhy x t w=zb3 x/\zjx t w=true:=by intro b c h a;unfold zhy zjx zgw at *;simp_all
theorem tr4 (x:Guest)(t w:Int):ieq w 6=false->(ieq w 5=false->ieq w 6=false->ieq w 7=true)->zeo t (zgw w)=false->ieq w 5=false->zhy x t w=held x:=by intro b c h a;unfold zhy zgw at *;simp_all
def zlY (b:Bare)(g:Int):Bool:=bif hasB g (ln b.Guests) then (cond (zb7 b) (!ieq (zM<|gAt b g) 0) false) else false
def zi2 (b:Bare)(g:Int):Bare:=bif zlY b g then stepped b g (gAt b g) (zM<|gAt b g) else b
@[simp] theorem zYm {b:Bare}{g:Int}{x:Guest}{w:Bool}(h:SmB b)(a:SmG x):SmB (zpE b g x w):=by unfold zpE;cases zie x.Live (zcj<|address x) (zgM w);{exact zph h a};{cases w;{exact zph h (zMd _ a)};{exact⟨zpj h.1,zDJ h.2.1<|zlm a,h.2.2⟩}}
@[simp] theorem z7x {b:Bare}{g:Int}{x:Guest}{w:Int}(h:SmB b)(a:SmG x):SmB (zpF b g x w):=by unfold zpF;cases (cond (zjx x.Ctl.Traps w) (ieq w 5) false);{exact zph h (zDa _ _ a)};{exact zph (zMb h) (zDa _ _ a)}
@[simp] theorem zXG {b:Bare}{g:Int}{x:Guest}{w:Int}(h:SmB b)(a:SmG x):SmB (stepped b g x w):=by unfold stepped;cases ieq w 1;{cases ieq w 2;{cases ieq w 3;{cases ieq w 4;{exact z7x h a};{exact zYm h a}};{exact zYm h a}};{exact zph h (zGt a)}};{exact zph h (zYo a)}
@[simp] theorem z3S {b:Bare}{g:Int}(h:SmB b):SmB (zi2 b g):=by unfold zi2;cases zlY b g;{exact h};{exact zXG h (zfn g h)}
theorem zTb (x:Guest):ieq (zM x) 0=false->ieq (zM x) 1=false->ieq (zM x) 2=false->ieq (zM x) 3=false->ieq (zM x) 4=false->ieq (zM x) 5=false->ieq (zM x) 6=false->ieq (zM x) 7=true:=by unfold zM zLP;cases canRun x;{intro h;cases h};{cases zpl x;{simp only [cT,cF];generalize (zeO x.Prog x.Pc).Op=o;cases ieq o 3<;>cases ieq o 4<;>cases ieq o 5<;>cases ieq o 6<;>cases ieq o 7<;>simp [ieq]};{intro _ h;cases h}}
theorem zDz {x:Int}{a b:Int}(h:ieq x a=true)(c:ieq a b=false):ieq x b=false:=by have:x=a:=(by simpa [ieq] using h);rw[this];exact c
@[simp] abbrev zbF (b:Bare)(g:Int):Bool:=pc (SmB b)
@[simp] abbrev zeU (b:Bare)(g:Int):Bare:=zi2 b g
@[simp] abbrev zgh (b:Bare)(g:Int):Bool:=zlY b g
def zkS:Run:=rF2 (dT .bare) dI λb c=>(zbF b c,[aT .bare<|zeU b c,aB<|zgh b c])
def zAQ (N:Nat)(b:Bare)(c:Int):OA:=
 let g:=b.Memory;let l:=aT .bare<|zI b;let a:=zcG b c;let k:=a.Ctl.Traps;let t:=aT .bare<|zcg b c<|zji a;let d:=zg3 a;let r:=aT .bare<|zcg b c<|zle a d;let i:=zgG a;let f:=zbX i;let e:=zbm i;let h:=ieq d 4;let w:=zej e h;let p:=aT .bare<|zcg b c<|zca a w;let j:=(zdr a.Prog a.Pc).X;let u:=zbx (zkm b j) c<|zbO a;let n:=aT .bare<|zcg (zkm b j) c<|zbO a;let x:=zca a<|zio j;let m:=zdG a.Live e<|zco h;let v:=zeV g m f;let q:=aT .bare<|zcg b c<|zjq a v;let y:=({b with Memory:=(zcS g m f a.A)}:Bare);let s:=aT .bare<|zcg y c<|zbO a; (oN (zc6 b c)<|oN (zbo a)<|oN (zcv b)<|cond (nB<|zbD b) (oN (zQ b)<|some [l,aB false])<|cond (nB<|zcH b c) (oN (zQ b)<|some [l,aB false])<|cond (ieq d 0) (oN (zQ b)<|some [l,aB false])<|oN (zbo a)<|oN (zdi a.Prog a.Pc)<|cond (ieq d 1) (oN (zF a)<|oN (zbx b c<|zey a)<|some [aT .bare<|zcg b c<|zey a,aB true])<|cond (ieq d 2) (oN (zF a)<|oN (zbx b c<|zhC a)<|some [aT .bare<|zcg b c<|zhC a,aB true])<|cond (ieq d 3) (cond (ieq d 3) (oN (zbi i)<|oN (ziq h)<|oN (zew a.Live e<|zco h)<|cond (nB<|zc7 a.Live e<|zco h) (oN (zbi i)<|oN (zfQ e h)<|oN (zbZ a w)<|oN (zbx b c<|zca a w)<|some [p,aB true])<|cond h (oN (zbi i)<|oN (zcL g m f a.A)<|oN (zF a)<|oN (zbx y c<|zbO a)<|some [s,aB true])<|oN (zbi i)<|oN (zdO g m f)<|oN (zj0 a v)<|oN (zbx b c<|zjq a v)<|some [q,aB true])<|cond (ieq d 6) (oN (zgo j)<|oN (zbZ a<|zio j)<|oN (zbx b c x)<|some [aT .bare<|zcg b c x,aB true])<|oN (zpZ d)<|oN (zga k<|zi7 d)<|cond (zfw k<|zi7 d) (oN (zn7 a d)<|oN (zbx b c<|zle a d)<|some [r,aB true])<|cond (ieq d 5) (oN (zcR b j)<|oN (zF a)<|oN u<|some [n,aB true])<|oN (zF a)<|oN (zbx b c<|zji a)<|some [t,aB true])<|cond h (oN (zbi i)<|oN (ziq h)<|oN (zew a.Live e<|zco h)<|cond (nB<|zc7 a.Live e<|zco h) (oN (zbi i)<|oN (zfQ e h)<|oN (zbZ a w)<|oN (zbx b c<|zca a w)<|some [p,aB true])<|cond h (oN (zbi i)<|oN (zcL g m f a.A)<|oN (zF a)<|oN (zbx y c<|zbO a)<|some [s,aB true])<|oN (zbi i)<|oN (zdO g m f)<|oN (zj0 a v)<|oN (zbx b c<|zjq a v)<|some [q,aB true])<|cond (ieq d 6) (oN (zgo j)<|oN (zbZ a<|zio j)<|oN (zbx b c x)<|some [aT .bare<|zcg b c x,aB true])<|oN (zpZ d)<|oN (zga k<|zi7 d)<|cond (zfw k<|zi7 d) (oN (zn7 a d)<|oN (zbx b c<|zle a d)<|some [r,aB true])<|cond (ieq d 5) (oN (zcR b j)<|oN (zF a)<|oN u<|some [n,aB true])<|oN (zF a)<|oN (zbx b c<|zji a)<|some [t,aB true])
theorem zOp (a:Bare)(b:Int)(f:zbF a b=true):∃N,zAQ N a b=some [aT .bare<|zeU a b,aB<|zgh a b]:=by
 have c:=zB.1 f;have j:=zfn b c;have k:_/\_/\_:=c;have hg:a.Guests.length<=1048576:=c.2.1.1;have g:=zTb (gAt a b);have d:ieq (zM<|gAt a b) 3=true->ieq (zM<|gAt a b) 4=false:=λh=>zDz h rfl;have e:ieq (zM<|gAt a b) 5=true->ieq (zM<|gAt a b) 7=false:=λh=>zDz h rfl;have l:=tr1 (gAt a b) (gAt a b).Ctl.Traps (zM<|gAt a b);have m:=tr2 (gAt a b) (gAt a b).Ctl.Traps (zM<|gAt a b);have p:=tr3 (gAt a b) (gAt a b).Ctl.Traps (zM<|gAt a b);have q:=tr4 (gAt a b) (gAt a b).Ctl.Traps (zM<|gAt a b);have i:∀n,SmB (zmS a n):=λn=>zMb c;refine⟨0,?_⟩;unfold zAQ oN nB;conv=>zeta
 refine mu (must rfl (must rfl (brN (λ_=>mu ?_) λ_=>brN (λ_=>mu ?_) λ_=>br (λ_=>mu ?_) λ_=>must rfl (must rfl (br (λ_=>mu (mu ?_)) λ_=>br (λ_=>mu (mu ?_)) λ_=>br (λ_=>br (λ_=>must rfl (must rfl (must rfl (brN (λ_=>must rfl (must rfl (mu<|mu ?_))) λ_=>br (λ_=>must rfl (mu<|mu<|mu ?_)) λ_=>must rfl (must rfl (mu<|mu ?_)))))) λ_=>br (λ_=>must rfl (mu<|mu ?_)) λ_=>must rfl (must rfl (br (λ_=>mu (mu ?_)) λ_=>br (λ_=>mu (mu<|mu ?_)) λ_=>mu (mu ?_)))) λ_=>br (λ_=>must rfl (must rfl (must rfl (brN (λ_=>must rfl (must rfl (mu<|mu ?_))) λ_=>br (λ_=>must rfl (mu<|mu<|mu ?_)) λ_=>must rfl (must rfl (mu<|mu ?_)))))) λ_=>br (λ_=>must rfl (mu<|mu ?_)) λ_=>must rfl (must rfl (br (λ_=>mu (mu ?_)) λ_=>br (λ_=>mu (mu<|mu ?_)) λ_=>mu (mu ?_))))))));all_goals first|rfl|(simp only [*,zeU,zgh,zi2,zlY,stepped,zpE,zpF,zdQ,zgM,cT,cF]<;>rfl)|simp_all[Ty.cells,zeU,zgh,zi2,zlY,stepped,zpE,zpF,zdQ,zgM]
theorem zuv:vF 174 zkS:=kF2 zke zl zn zo (zq []) zOp
def zBp (N:Nat)(v:Bare)(f:Int):OA:=
 let c:=zI v;let h:=c.Memory;let e:=c.Guests;let k:=inb f<|ln e;let a:=zcG c f;let l:=a.Ctl.Traps;let q:=(zdr a.Prog a.Pc).X;let j:=zg3 a;let u:=zci a l j;let n:=up e f u;let r:=zkm c q;let m:=zgG a;let g:=zbX m;let d:=zbm m;let i:=ieq j 4;let s:=up e f<|zca a<|zej d i;let p:=zdG a.Live d<|zco i;let t:=zeV h p g; (oN (zQ v)<|oN (zc6 c f)<|oN (zbo a)<|cond (nB<|zcH c f) (some [aT .bare c,aB false])<|oN (zcv c)<|cond (nB<|zbD c) (some [aT .bare c,aB false])<|cond (ieq j 0) (some [aT .bare c,aB false])<|cond (ieq j 1) (oN (zF a)<|oN k<|share (up e f<|zey a) λb=>some [aT .bare ({c with Guests:=b}:Bare),aB true])<|cond (ieq j 2) (oN (zF a)<|oN k<|share (up e f<|zhC a) λb=>some [aT .bare ({c with Guests:=b}:Bare),aB true])<|cond (ieq j 3) (cond (ieq j 3) (oN (zbo a)<|oN (zbi m)<|oN (ziq i)<|oN (zew a.Live d<|zco i)<|cond (nB<|zc7 a.Live d<|zco i) (oN (zbi m)<|oN (zfQ d i)<|oN (zbZ a<|zej d i)<|oN k<|share s λb=>some [aT .bare ({c with Guests:=b}:Bare),aB true])<|cond i (oN (zbi m)<|oN (zcL h p g a.A)<|oN (zF a)<|oN k<|share (up e f<|zbO a) λb=>some [aT .bare ({c with Memory:=(zcS h p g a.A),Guests:=b}:Bare),aB true])<|oN (zbi m)<|oN (zdO h p g)<|oN (zj0 a t)<|oN k<|share (up e f<|zjq a t) λb=>some [aT .bare ({c with Guests:=b}:Bare),aB true])<|oN (zdW a l j)<|cond (zdj a l j) (cond (ieq j 5) (oN (zdi a.Prog a.Pc)<|oN (zcR c q)<|oN (inb f<|ln r.Guests)<|share (up r.Guests f u) λb=>some [aT .bare ({r with Guests:=b}:Bare),aB true])<|oN k<|share n λb=>some [aT .bare ({c with Guests:=b}:Bare),aB true])<|oN k<|share n λb=>some [aT .bare ({c with Guests:=b}:Bare),aB true])<|cond i (oN (zbo a)<|oN (zbi m)<|oN (ziq i)<|oN (zew a.Live d<|zco i)<|cond (nB<|zc7 a.Live d<|zco i) (oN (zbi m)<|oN (zfQ d i)<|oN (zbZ a<|zej d i)<|oN k<|share s λb=>some [aT .bare ({c with Guests:=b}:Bare),aB true])<|cond i (oN (zbi m)<|oN (zcL h p g a.A)<|oN (zF a)<|oN k<|share (up e f<|zbO a) λb=>some [aT .bare ({c with Memory:=(zcS h p g a.A),Guests:=b}:Bare),aB true])<|oN (zbi m)<|oN (zdO h p g)<|oN (zj0 a t)<|oN k<|share (up e f<|zjq a t) λb=>some [aT .bare ({c with Guests:=b}:Bare),aB true])<|oN (zdW a l j)<|cond (zdj a l j) (cond (ieq j 5) (oN (zdi a.Prog a.Pc)<|oN (zcR c q)<|oN (inb f<|ln r.Guests)<|share (up r.Guests f u) λb=>some [aT .bare ({r with Guests:=b}:Bare),aB true])<|oN k<|share n λb=>some [aT .bare ({c with Guests:=b}:Bare),aB true])<|oN k<|share n λb=>some [aT .bare ({c with Guests:=b}:Bare),aB true])
theorem zOV (a:Bare)(b:Int)(e:zbF a b=true):∃N,zBp N a b=some [aT .bare<|zeU a b,aB<|zgh a b]:=by
 have c:=zB.1 e;have g:=zfn b c;have i:_/\_/\_:=c;have hg:a.Guests.length<=1048576:=c.2.1.1;have f:=zTb (gAt a b);have d:ieq (zM<|gAt a b) 3=true->ieq (zM<|gAt a b) 4=false:=λh=>zDz h rfl;refine⟨0,?_⟩;unfold zBp oN nB;conv=>zeta
 refine mu (mu (must rfl (brN (λ_=>?_) λ_=>must rfl (brN (λ_=>?_) λ_=>br (λ_=>?_) λ_=>br (λ_=>mu (mu<|shr ?_)) λ_=>br (λ_=>mu (mu<|shr ?_)) λ_=>br (λ_=>br (λ_=>must rfl (must rfl (must rfl (must rfl (brN (λ_=>must rfl (must rfl (mu<|mu<|shr ?_))) λ_=>br (λ_=>must rfl (mu<|mu<|mu<|shr ?_)) λ_=>must rfl (must rfl (mu<|mu<|shr ?_))))))) λ_=>mu (br (λ_=>br (λ_=>must rfl (mu<|mu<|shr ?_)) λ_=>mu (shr ?_)) λ_=>mu (shr ?_))) λ_=>br (λ_=>must rfl (must rfl (must rfl (must rfl (brN (λ_=>must rfl (must rfl (mu<|mu<|shr ?_))) λ_=>br (λ_=>must rfl (mu<|mu<|mu<|shr ?_)) λ_=>must rfl (must rfl (mu<|mu<|shr ?_))))))) λ_=>mu (br (λ_=>br (λ_=>must rfl (mu<|mu<|shr ?_)) λ_=>mu (shr ?_)) λ_=>mu (shr ?_))))));all_goals first|rfl|(simp only [*,zeU,zgh,zi2,zlY,stepped,zpE,zpF,zdQ,zgM,zfr,cT,cF]<;>rfl)|simp_all[Ty.cells,zeU,zgh,zi2,zlY,stepped,zpE,zpF,zdQ,zgM,zfr]
theorem zHB:vF 94 zkS:=kF2 zke zl zn zo (zq []) zOV
def SmK (k:Kept):Prop:=k.Known.length<=1048576/\k.Slots.length<=1048576
def zBI (l:List Kept):Prop:=l.length<=1048576/\∀x∈l,SmK x
def zft (m:Mon):Prop:=m.Outer.length<=1048576/\SmM m.Out/\m.Dirty.length<=1048576/\zoV m.Guests/\m.Outs.length<=1048576/\zBI m.Tables
def zpL (l:List Mon):Prop:=l.length<=1048576/\∀x∈l,zft x
def SmH (h:Host):Prop:=SmM h.Memory/\zpL h.Mons/\h.Buffer.length<=1048576/\h.IoBuffer.length<=1048576
@[simp] theorem zxh (k:Kept):(∀c∈Ty.cells .kept k,CVB sm c)↔SmK k:=by simp[Ty.cells,SmK,z3X]
@[simp] theorem z3f (l:List Kept):CVB sm (.s .kept l)↔zBI l:=by rw[znf];simp only[zxh];rfl
@[simp] theorem zXX (m:Mon):(∀c∈Ty.cells .mon m,CVB sm c)↔zft m:=by simp only[Ty.cells,qH,qY,or_false,vE,forall_eq,zq4,zvC,z3f,zY1,zWD,zWC,z5u,and_true,true_and];rfl
@[simp] theorem z6L (l:List Mon):CVB sm (.s .mon l)↔zpL l:=by rw[znf];simp only[zXX];rfl
@[simp] theorem zJ (h:Host):zdJ h↔SmH h:=by unfold zdJ;simp only[zbb,qH,qY,or_false,vE,forall_eq,zq4,z6L,zTO];rfl
theorem zbp {p:Prop}(h:p):pc p=true:=zN h
theorem zt4 {l:List Kept}{i:Int}{x:Kept}(h:zBI l)(b:SmK x):zBI (up l i x):=by refine⟨by simpa using h.1,λy a=>?_⟩;rcases jU a with a|rfl;{exact h.2 y a};{exact b}
theorem zj7 {l:List Mon}{i:Int}{x:Mon}(h:zpL l)(b:zft x):zpL (up l i x):=by refine⟨by simpa using h.1,λy a=>?_⟩;rcases jU a with a|rfl;{exact h.2 y a};{exact b}
theorem zpq {a:Type}{l:List a}(h:l.length<=1048576):few (ln<|ap [] l)=true:=by rw[zn4,z6T];omega
@[simp] abbrev zL (h:Host):Bool:=pc (zdJ h)
@[simp] abbrev zi (h:Host):Host:=h
def zoR:Run:=rF1 dH λb=>(zL b,[aH<|zi b])
def zFL (N:Nat)(b:Host):OA:=
 (oN (zht b.Memory)<|oN (few<|ln<|ap [] b.Buffer)<|oN (few<|ln<|ap [] b.IoBuffer)<|iter (σ:=(Int×lM×lN×lE×lE×lM×lN×lE×lE×lM×lN×lE×lE×Unit)) N (λf a=>let e:=a.2.2.2.2.2.2.2.2.2.2.2.2.1;let d:=ix a.2.2.1 a.1 zh;let c:=ap a.2.2.2.2.2.2.2.2.2.2.1 [zrq d]; (cond (ilt a.1<|ln a.2.2.1) (oN (inb a.1<|ln a.2.2.1)<|oN (zqQ d)<|oN (few<|ln c)<|f (zG .i64 a.1 1,a.2.1,a.2.2.1,a.2.2.2.1,a.2.2.2.2.1,a.2.2.2.2.2.1,a.2.2.2.2.2.2.1,a.2.2.2.2.2.2.2.1,a.2.2.2.2.2.2.2.2.1,a.2.2.2.2.2.2.2.2.2.1,c,a.2.2.2.2.2.2.2.2.2.2.2.1,e,()))<|some [aH (⟨a.2.2.2.2.2.2.2.2.2.1,a.2.2.2.2.2.2.2.2.2.2.1,a.2.2.2.2.2.2.2.2.2.2.2.1,e⟩:Host)])) (0,b.Memory,b.Mons,b.Buffer,b.IoBuffer,[],[],[],[],zfx b.Memory,[],ap [] b.Buffer,ap [] b.IoBuffer,()))
def zSR:=zq [(127,0,{n:=36,tm:=[(1,.lp 0 0),(2,.lp 1 0),(3,.lp 2 0),(4,ti)],lo:=[(0,[.sl 0 [],.sl 1 [],.sl 2 [],.sl 3 []]),(1,[.sl 4 [],.sl 5 [],.sl 6 [],.sl 7 []]),(2,[.sl 8 [],.sl 9 [],.sl 10 [],.sl 11 []])],ro:=[(0,.sl .int,false),(1,.mon,false),(2,.entry,false),(3,.entry,false),(4,.sl .int,true),(5,.mon,true),(6,.entry,true),(7,.entry,true),(8,.sl .int,true),(9,.mon,true),(10,.entry,true),(11,.entry,true)]})]
theorem zSw (a:Host)(k:zL a=true):∃N,zFL N a=some [aH<|zi a]:=by
 obtain⟨g,f,h,j⟩:=(zJ a).1 (zB.1 k);have e:=zbV f.1;refine zbG λN d=>?_;unfold zFL oN;conv=>zeta
 refine must (zbp<|(zq4 _).2 g) (must (zpq h)<|must (zpq j) ?_);refine(zW a.Mons (λi (t:lN)=>((i:Int),a.Memory,a.Mons,a.Buffer,a.IoBuffer,[],[],[],[],zfx a.Memory,t,ap [] a.Buffer,ap [] a.IoBuffer,())) _ (λ_ x b m=>bif zqQ x then (cond (few<|ln<|ap b [zrq x]) (m<|ap b [zrq x]) none) else none) (λ(t:lN)=>some [.agg<|zbb (⟨zfx a.Memory,t,ap [] a.Buffer,ap [] a.IoBuffer⟩:Host)]) (λi c t rec=>?_) (λt rec=>?_) _ ([])<|d e.1).trans ?_;{simp only [zbf c,zO c,zX c,zV c e.1,cT]};{simp only [zbc,cF]};exact zi1 zqQ zrq _ a.Mons 0 [] (λx l=>⟨zbp<|(zXX x).2 (f.2 x l),rfl⟩) (by simpa using e.2)
theorem zKY:vF 127 zoR:=kF1 zke zl zn zo zSR zSw
@[simp] abbrev zdL (k:Kept):Bool:=pc (SmK k)
@[simp] abbrev zcP (k:Kept):Kept:=k
def zxR:Run:=rF1 (dT .kept) λb=>(zdL b,[aT .kept<|zcP b])
def zA9 (N:Nat)(a:Kept):OA:=
 (oN (few<|ln<|ap [] a.Known)<|oN (zgA a.Slots)<|some [aT .kept (⟨ap [] a.Known,zeB a.Slots⟩:Kept)])
theorem zOI (a:Kept)(b:zdL a=true):∃N,zA9 N a=some [aT .kept<|zcP a]:=by have c:=zB.1 b;obtain⟨f,g⟩:=c;have d:a.Known.length<=2147483648:=(by omega);have e:a.Slots.length<=2147483648:=(by omega);refine⟨0,?_⟩;unfold zA9 oN;refine mu (mu ?_);first|rfl|(simp only [*,zcP,cT,cF]<;>rfl)|simp_all[Ty.cells,zcP]
theorem zHq:vF 154 zxR:=kF1 zke zl zn zo (zq []) zOI
def z4T:zY:=[(127,zoR),(154,zxR)]++zYS
theorem zTI:zK z4T:=zf zKY (zf zHq zke)
@[simp] abbrev zl2 (m:Mon):Bool:=pc (zft m)
@[simp] abbrev zmK (m:Mon):Mon:=m
def zz7:Run:=rF1 (dT .mon) λb=>(zl2 b,[aT .mon<|zmK b])
def zFc (N:Nat)(b:Mon):OA:=
 (oN (zgA b.Outer)<|oN (zg8 b.Out)<|oN (few<|ln<|ap [] b.Dirty)<|oN (zcM b.Guests)<|oN (zd9 b.Outs)<|iter (σ:=(Int×Int×Int×Int×Int×Int×Int×Int×lK×lK×lS×lM×lB×lG×(List Int)×lS×lM×lB×lG×(List Int)×lK×Unit)) N (λi a=>let h:=a.2.2.2.2.2.2.2.2.2.2.2.2.1;let g:=a.2.2.2.2.2.2.2.2.2.2.2.2.2.1;let f:=a.2.2.2.2.2.2.2.2.2.2.2.2.2.2.1;let e:=a.2.2.2.2.2.2.2.2.1;let d:=a.2.2.2.2.2.2.2.2.2.1;let c:=ix d a.2.1 zdC; (cond (ilt a.2.1 a.1) (oN (inb a.2.1<|ln d)<|oN (zdL c)<|oN (few<|ln<|ap e [zcP c])<|i (a.1,zG .i64 a.2.1 1,a.2.2.1,a.2.2.2.1,a.2.2.2.2.1,a.2.2.2.2.2.1,a.2.2.2.2.2.2.1,a.2.2.2.2.2.2.2.1,ap e [zcP c],d,a.2.2.2.2.2.2.2.2.2.2.1,a.2.2.2.2.2.2.2.2.2.2.2.1,h,g,f,a.2.2.2.2.2.2.2.2.2.2.2.2.2.2.2.1,a.2.2.2.2.2.2.2.2.2.2.2.2.2.2.2.2.1,a.2.2.2.2.2.2.2.2.2.2.2.2.2.2.2.2.2.1,a.2.2.2.2.2.2.2.2.2.2.2.2.2.2.2.2.2.2.1,a.2.2.2.2.2.2.2.2.2.2.2.2.2.2.2.2.2.2.2.1,a.2.2.2.2.2.2.2.2.2.2.2.2.2.2.2.2.2.2.2.2.1,()))<|some [aT .mon (⟨a.2.2.2.2.2.2.2.2.2.2.1,a.2.2.2.2.2.2.2.2.2.2.2.1,h,g,f,a.2.2.1,a.2.2.2.1,e,a.2.2.2.2.1⟩:Mon)])) (ln b.Tables,0,b.Pending,b.Traps,b.Own,0,0,0,[],b.Tables,zeB b.Outer,zd2 b.Out,ap [] b.Dirty,zdm b.Guests,zd5 b.Outs,[],[],[],[],[],[],()))
def zSL:=zq [(159,0,{n:=44,tm:=[(1,.lp 0 0),(2,.lp 1 0),(3,.sl 0 []),(29,.sl 1 []),(30,ti),(31,ti)],lo:=[(0,[.sl 2 [],.sl 3 [],.sl 4 [],.sl 5 [],.sl 6 [],ti,ti,.sl 1 [],ti]),(1,[.sl 7 [],.sl 8 [],.sl 9 [],.sl 10 [],.sl 11 [],ti,ti,.sl 12 [],ti])],ro:=[(0,.kept,true),(1,.kept,false),(2,.slot,true),(3,.sl .int,true),(4,.bool,true),(5,.guest,true),(6,.int,true),(7,.slot,true),(8,.sl .int,true),(9,.bool,true),(10,.guest,true),(11,.int,true),(12,.kept,true)]})]
theorem zR1 (a:Mon)(p:zl2 a=true):∃N,zFc N a=some [aT .mon<|zmK a]:=by
 obtain⟨s,l,m,n,u,f⟩:=zB.1 p;have e:=zbV f.1;refine zbG λN d=>?_;unfold zFc oN;conv=>zeta
 have g:zgA a.Outer=true:=(by simp;omega);have h:zg8 a.Out=true:=(by simp;exact l);have j:zcM a.Guests=true:=(by simp;exact n);have k:zd9 a.Outs=true:=(by simp;omega);refine must g (must h<|must (zpq m)<|must j<|must k ?_);refine(zW a.Tables (λi (t:lK)=>(ln a.Tables,(i:Int),a.Pending,a.Traps,a.Own,0,0,0,t,a.Tables,zeB a.Outer,zd2 a.Out,ap [] a.Dirty,zdm a.Guests,zd5 a.Outs,[],[],[],[],[],[],())) _ (λ_ x b r=>bif zdL x then (cond (few<|ln<|ap b [zcP x]) (r<|ap b [zcP x]) none) else none) (λ(t:lK)=>some [.agg<|Ty.cells .mon (⟨zeB a.Outer,zd2 a.Out,ap [] a.Dirty,zdm a.Guests,zd5 a.Outs,a.Pending,a.Traps,t,a.Own⟩:Mon)]) (λi c t rec=>?_) (λt rec=>?_) _ ([])<|d e.1).trans ?_;{simp only [zbf c,zO c,zX c,zV c e.1,cT]};{simp only [zbc,cF]};exact zi1 zdL zcP _ a.Tables 0 [] (λx q=>⟨zbp<|f.2 x q,rfl⟩) (by simpa using e.2)
theorem zKq:vF 159 zz7:=kF1 zTI zl zn zo zSL zR1
def z4U:zY:=[(159,zz7)]++z4T
theorem zyn:zK z4U:=zf zKq zTI
def zA7 (N:Nat)(b:Host):OA:=
 (oN (zg8 b.Memory)<|oN (few<|ln<|ap [] b.Buffer)<|oN (few<|ln<|ap [] b.IoBuffer)<|iter (σ:=(Int×Int×lN×lM×lN×lE×lE×lM×lN×lE×lE×Unit)) N (λe a=>let d:=ix a.2.2.1 a.2.1 zh;let c:=ap a.2.2.2.2.2.2.2.2.1 [zmK d]; (cond (ilt a.2.1 a.1) (oN (inb a.2.1<|ln a.2.2.1)<|oN (zl2 d)<|oN (few<|ln c)<|e (a.1,zG .i64 a.2.1 1,a.2.2.1,a.2.2.2.1,a.2.2.2.2.1,a.2.2.2.2.2.1,a.2.2.2.2.2.2.1,a.2.2.2.2.2.2.2.1,c,a.2.2.2.2.2.2.2.2.2.1,a.2.2.2.2.2.2.2.2.2.2.1,()))<|some [aH (⟨a.2.2.2.2.2.2.2.1,a.2.2.2.2.2.2.2.2.1,a.2.2.2.2.2.2.2.2.2.1,a.2.2.2.2.2.2.2.2.2.2.1⟩:Host)])) (ln b.Mons,0,b.Mons,[],[],[],[],zd2 b.Memory,[],ap [] b.Buffer,ap [] b.IoBuffer,()))
def zPD:=zq [(68,0,{n:=34,tm:=[(2,.lp 0 0),(3,.lp 1 0),(19,.sl 0 []),(20,ti),(21,ti)],lo:=[(0,[.sl 1 [],.sl 2 [],.sl 3 [],.sl 4 []]),(1,[.sl 5 [],.sl 6 [],.sl 7 [],.sl 8 []])],ro:=[(0,.mon,false),(1,.sl .int,true),(2,.mon,true),(3,.entry,true),(4,.entry,true),(5,.sl .int,true),(6,.mon,true),(7,.entry,true),(8,.entry,true)]})]
theorem zOG (a:Host)(l:zL a=true):∃N,zA7 N a=some [aH<|zi a]:=by
 obtain⟨h,f,j,k⟩:=(zJ a).1 (zB.1 l);have e:=zbV f.1;refine zbG λN d=>?_;unfold zA7 oN;conv=>zeta
 have g:zg8 a.Memory=true:=(by simp;exact h);refine must g (must (zpq j)<|must (zpq k) ?_);refine(zW a.Mons (λi (t:lN)=>(ln a.Mons,(i:Int),a.Mons,[],[],[],[],zd2 a.Memory,t,ap [] a.Buffer,ap [] a.IoBuffer,())) _ (λ_ x b n=>bif zl2 x then (cond (few<|ln<|ap b [zmK x]) (n<|ap b [zmK x]) none) else none) (λ(t:lN)=>some [.agg<|zbb (⟨zd2 a.Memory,t,ap [] a.Buffer,ap [] a.IoBuffer⟩:Host)]) (λi c t rec=>?_) (λt rec=>?_) _ ([])<|d e.1).trans ?_;{simp only [zbf c,zO c,zX c,zV c e.1,cT]};{simp only [zbc,cF]};exact zi1 zl2 zmK _ a.Mons 0 [] (λx m=>⟨zbp<|f.2 x m,rfl⟩) (by simpa using e.2)
theorem zHo:vF 68 zoR:=kF1 zyn zl zn zo zPD zOG
def allI {a:Type}(p:Nat->a->Bool):List a->Nat->Bool
 |[],_=>true
 |x::l,i=>p i x&&allI p l (i+1)
theorem zGY {a b:Type}(p:Nat->a->Bool)(r:Option b)(K:Unit->Option b):∀(l:List a) (i:Nat),goL (λi x (_:Unit) k=>bif p i x then k () else r) K l i ()=bif allI p l i then K () else r
 |[],_=>rfl
 |x::l,i=>by simp only[goL,allI];cases p i x;{rfl};{simp only [cT,uS];exact zGY p r K l (i+1)}
theorem zQj {a:Type}(q:a->Bool)(l:List a)(d:a):∀(n i:Nat),i+n<=l.length->zuf (λj=>q (ix l (j:Int) d)) n i=((l.drop i).take n).all q
 | 0,i,_=>by simp[zuf]
 |n+1,i,h=>by have b:i<l.length:=(by omega);rw[jZ b,List.take_succ_cons,kW,<- zQj q l d n (i+1) (by omega)];simp only[zuf,zX b]
def sameKey (a b:Entry):Bool:=bif ieq a.Tag b.Tag then ieq a.Page b.Page else false
def alone (l:List Entry)(i:Nat)(x:Entry):Bool:=(l.take i).all λy=>!sameKey x y
def ztm (l:List Entry):Bool:=bif allI (alone l) l 0 then ile (ln l) 6 else false
theorem z3m {a:Type}{l:List a}{i:Nat}(h:i<=l.length):inr 0 (i:Int) (ln l)=true:=qL (by simp only[ln];omega)
@[simp] abbrev zi6 (l:List Entry):Bool:=true
@[simp] abbrev zim (l:List Entry):Bool:=ztm l
def znv:Run:=rF1 (dS .entry) λb=>(zi6 b,[aB<|zim b])
def zAR (N:Nat)(g:lE):OA:=
 (iter (σ:=(Int×Int×lE×Unit)) N (λi b=>let c:=b.2.2.1;let e:=ix c b.2.1 zfl; (cond (ilt b.2.1 b.1) (oN (inb b.2.1<|ln c)<|oN (inr 0 b.2.1<|ln c)<|iter (σ:=(Int×Int×Int×Int×Int×Int×Int×Int×lE×lE×Unit)) N (λj a=>let d:=a.2.2.2.1;let f:=a.2.2.2.2.2.2.2.2.2.1;let h:=j (a.1,a.2.1,a.2.2.1,zG .i64 d 1,a.2.2.2.2.1,a.2.2.2.2.2.1,a.2.2.2.2.2.2.1,a.2.2.2.2.2.2.2.1,a.2.2.2.2.2.2.2.2.1,f,()); (cond (ilt d a.2.2.1) (oN (inb d<|ln f)<|cond (ieq a.2.2.2.2.1 (ix f d zfl).Tag) (cond (ieq a.2.2.2.2.2.1 (ix f d zfl).Page) oF h) h)<|i (a.1,zG .i64 a.2.1 1,a.2.2.2.2.2.2.2.2.1,()))) (b.1,b.2.1,ln<|tk c b.2.1,0,e.Tag,e.Page,e.Host,e.Rights,c,tk c b.2.1,()))<|some [aB<|ile (ln c) 6])) (ln g,0,g,()))
def zPA:=zq [(181,0,{n:=39,tm:=[(0,.sl 0 []),(7,.sl 0 []),(8,ti),(9,ti)],lo:=[],ro:=[(0,.entry,false)]}),(181,2,{n:=39,tm:=[(0,.sl 0 []),(4,.lp 0 0),(7,.sl 0 []),(8,ti),(9,ti),(16,.sl 1 []),(17,ti),(18,ti)],lo:=[(0,[ti,ti,ti,ti])],ro:=[(0,.entry,false),(1,.entry,false)]})]
theorem zOq (a:List Entry)(l:zbt big [aS .entry a])(m:zi6 a=true):∃N,zAR N a=some [aB<|zim a]:=by
 have e:=len0 l;refine zbG λN d=>?_;unfold zAR oN;conv=>zeta
 refine(zW a (λi (t:Unit)=>(ln a,(i:Int),a,())) _ (λi (x:Entry) (_:Unit) h=>bif alone a i x then h () else oF) (λ(t:Unit)=>some [.one<|.b<|ile (ln a) 6]) (λi c t rec=>?_) (λt rec=>?_) _ ()<|d e).trans ?_;{simp only [zbf c,zO c,zX c,zV c e,cT];rw[z3m<|Nat.le_of_lt c,cT];have k:(tk a (i:Int)).length<=big:=qX (by simp[tk];omega) e;refine(zW (tk a (i:Int)) (λj (u:Unit)=>(ln a,(i:Int),ln<|tk a (i:Int),(j:Int),a[i].Tag,a[i].Page,a[i].Host,a[i].Rights,a,tk a (i:Int),())) _ (λ_ (y:Entry) (_:Unit) h=>bif !sameKey a[i] y then h () else oF) (λ(u:Unit)=>rec (ln a,((i+1:Nat):Int),a,())) (λj g u f=>?_) (λu f=>?_) _ ()<|d k).trans ?_;{simp only [zbf g,zO g,zX g,zV g k,cT,zV c e];unfold sameKey;cases ieq a[i].Tag (tk a (i:Int))[j].Tag<;>cases ieq a[i].Page (tk a (i:Int))[j].Page<;>rfl};{simp only [zbc,cF,zV c e]};rw[zhX λy=>!sameKey a[i] y];rfl};{simp only [zbc,cF]};rw[zGY<|alone a];unfold zim ztm;cases allI (alone a) a 0<;>rfl
theorem zG7:vF 181 znv:=hF1 zyn zl zn zo zPA zOq
def zBq (N:Nat)(f:lE):OA:=
 (iter (σ:=(Int×lE×Unit)) N (λg c=>cond (ilt c.1<|ln c.2.1) (iter (σ:=(Int×Int×lE×Unit)) N (λh a=>let b:=a.2.2.1;let e:=ix b a.2.1 zfl;let d:=h (a.1,zG .i64 a.2.1 1,b,()); (cond (ilt a.2.1 a.1) (oN (inb a.1<|ln b)<|oN (inb a.2.1<|ln b)<|cond (ieq (ix b a.1 zfl).Tag e.Tag) (oN (inb a.1<|ln b)<|oN (inb a.2.1<|ln b)<|cond (ieq (ix b a.1 zfl).Page e.Page) oF d) d)<|g (zG .i64 a.1 1,b,()))) (c.1,0,c.2.1,()))<|some [aB<|ile (ln c.2.1) 6]) (0,f,()))
def zPK:=zq [(368,0,{n:=43,tm:=[(0,.sl 0 []),(3,ti)],lo:=[],ro:=[(0,.entry,false)]}),(368,2,{n:=43,tm:=[(0,.sl 0 []),(3,ti),(4,ti)],lo:=[],ro:=[(0,.entry,false)]})]
theorem zOW (a:List Entry)(k:zbt big [aS .entry a])(l:zi6 a=true):∃N,zBq N a=some [aB<|zim a]:=by
 have g:=len0 k;refine zbG λN d=>?_;unfold zBq oN;conv=>zeta
 refine(zW a (λi (t:Unit)=>((i:Int),a,())) _ (λi (x:Entry) (_:Unit) h=>bif alone a i x then h () else oF) (λ(t:Unit)=>some [.one<|.b<|ile (ln a) 6]) (λi c t rec=>?_) (λt rec=>?_) _ ()<|d g).trans ?_;{simp only [zbf c,zO c,zX c,zV c g,cT];refine(zyO i (λ(j:Nat) (_:Unit)=>((i:Int),(j:Int),a,())) _ (λj (_:Unit) h=>bif !sameKey a[i] (ix a (j:Int) zfl) then h () else oF) (λ_=>rec (((i+1:Nat):Int),a,())) (λj m u f=>?_) (λu f=>?_) _ ()<|d (by omega)).trans ?_;{have e:j<a.length:=(by omega);simp only[show ilt (j:Int) (i:Int)=true from qL (by omega),zO c,zO e,zX c,zV e g,cT];unfold sameKey;cases ieq a[i].Tag (ix a (j:Int) zfl).Tag<;>cases ieq a[i].Page (ix a (j:Int) zfl).Page<;>rfl};{simp only [show ilt (i:Int) (i:Int)=false from qI (by omega),zV c g,cF]};rw[zDx λj=>!sameKey a[i] (ix a (j:Int) zfl),zQj (λy=>!sameKey a[i] y) a _ i 0 (by omega)];rfl};{simp only [zbc,cF]};rw[zGY<|alone a];unfold zim ztm;cases allI (alone a) a 0<;>rfl
theorem zHC:vF 368 znv:=hF1 zyn zl zn zo zPK zOW
def z4V:zY:=[(68,zoR),(368,znv),(181,znv)]++z4U
theorem zGP:zK z4V:=zf zHo (zf zHC<|zf zG7 zyn)
theorem zOe (a b:Int):igt a b = !ile a b:=by unfold igt ile;by_cases h:a<=b;{rw [qL h,qI (by omega)];rfl};{rw [qI h,qL (by omega)];rfl}
theorem stB {c M:Bool}{E:OA}(h:c=true->E=some [AV.one<|.b M]):(cond (cond c false true) (some [AV.one<|.b false]) E)=some [AV.one<|.b<|cond c M false]:=by cases c;{rfl};{exact h rfl}
theorem stI {a b:Int}{M:Bool}{E:OA}(h:ieq a b=true->E=some [AV.one<|.b M]):(cond (ine a b) (some [AV.one<|.b false]) E)=some [AV.one<|.b<|cond (ieq a b) M false]:=by rw[zjE];cases c:ieq a b;{rfl};{exact h c}
theorem stG {a b:Int}{M:Bool}{E:OA}(h:ile a b=true->E=some [AV.one<|.b M]):(cond (igt a b) (some [AV.one<|.b false]) E)=some [AV.one<|.b<|cond (ile a b) M false]:=by rw[zOe];cases c:ile a b;{rfl};{exact h c}
def zt0 (s:Slot)(p:List Int):Bool:=bif zdP s noSlot then zdB p else (cond (enough s.Rights 1) (ile (ln p) 0) false)
def fits (m:Mon)(j:Nat):Bool:=zt0 (ix m.Outer (j:Int) zT) (ix m.Out (j:Int) [])
def zfP (m:Mon):Bool:=bif zk (ln m.Guests) 1 2 then (cond (ieq (ln m.Tables)<|ln m.Guests) (cond (zeg m.Outer 8 12) (cond (ieq (ln m.Out) 8) (cond (ieq (ln m.Dirty) 8) (cond (ile (ln m.Outs) 40) (cond (zhG m.Pending) (cond (zk m.Traps 0 3) (cond (zk m.Own 0 1000000000) (cond (m.Guests.all zd7) (zuf (fits m) 8 0) false) false) false) false) false) false) false) false) false) else false
theorem zsI {t:List Slot}{n p:Int}(h:zeg t n p=true):ln t=n:=by unfold zeg at h;cases a:t.all (λs=>zgv s p);{rw [a]at h;cases h};{rw [a]at h;exact qD h}
@[simp] abbrev zjU (m:Mon):Bool:=true
@[simp] abbrev zkJ (m:Mon):Bool:=zfP m
def zrX:Run:=rF1 (dT .mon) λb=>(zjU b,[aB<|zkJ b])
def zPY (N:Nat)(a:Mon):OA:=
 let h:=ln a.Guests; (oN (zD h 1 2)<|cond (nB<|zk h 1 2) oF<|cond (ine (ln a.Tables) h) oF<|oN (zkn a.Outer 8 12)<|cond (nB<|ze2 a.Outer 8 12) oF<|cond (ine (ln a.Out) 8) oF<|cond (ine (ln a.Dirty) 8) oF<|cond (igt (ln a.Outs) 40) oF<|oN (zbY a.Pending)<|cond (nB<|zes a.Pending) oF<|oN (zD a.Traps 0 3)<|cond (nB<|zk a.Traps 0 3) oF<|oN (zD a.Own 0 1000000000)<|cond (nB<|zk a.Own 0 1000000000) oF<|iter (σ:=(Int×Int×Int×Int×Int×lG×lS×lM×lB×(List Int)×lK×Unit)) N (λl b=>let i:=b.2.2.2.2.2.2.1;let g:=b.2.2.2.2.2.1;let k:=ix g b.2.1 zu; (cond (ilt b.2.1 b.1) (oN (inb b.2.1<|ln g)<|oN (zbo k)<|cond (nB<|ziE k) oF<|l (b.1,zG .i64 b.2.1 1,b.2.2.1,b.2.2.2.1,b.2.2.2.2.1,g,i,b.2.2.2.2.2.2.2.1,b.2.2.2.2.2.2.2.2.1,b.2.2.2.2.2.2.2.2.2.1,b.2.2.2.2.2.2.2.2.2.2.1,()))<|iter (σ:=(Int×Int×Int×Int×Int×lS×lM×lB×lG×(List Int)×lK×Unit)) N (λm c=>let d:=c.2.1;let e:=c.2.2.2.2.2.2.1;let f:=ix c.2.2.2.2.2.1 d zT;let j:=m (c.1,zG .i64 d 1,c.2.2.1,c.2.2.2.1,c.2.2.2.2.1,c.2.2.2.2.2.1,e,c.2.2.2.2.2.2.2.1,c.2.2.2.2.2.2.2.2.1,c.2.2.2.2.2.2.2.2.2.1,c.2.2.2.2.2.2.2.2.2.2.1,()); (cond (ilt d c.1) (oN (inb d<|ln c.2.2.2.2.2.1)<|oN zbE<|cond (cond (ieq f.Page zbj.Page) (ieq f.Rights zbj.Rights) false) (oN (inb d<|ln e)<|oN (zdN<|ix e d [])<|cond (nB<|zc9<|ix e d []) oF j)<|oN (zZ f.Rights 1)<|cond (nB<|zcW f.Rights 1) oF<|oN (inb d<|ln e)<|cond (igt (ln<|ix e d []) 0) oF j) oT)) (ln i,0,b.2.2.1,b.2.2.2.1,b.2.2.2.2.1,i,b.2.2.2.2.2.2.2.1,b.2.2.2.2.2.2.2.2.1,g,b.2.2.2.2.2.2.2.2.2.1,b.2.2.2.2.2.2.2.2.2.2.1,()))) (h,0,a.Pending,a.Traps,a.Own,a.Guests,a.Outer,a.Out,a.Dirty,a.Outs,a.Tables,()))
def zXK:=zq [(182,0,{n:=106,tm:=[(1,.lp 0 0),(64,.sl 0 []),(65,ti),(66,ti)],lo:=[(0,[.sl 1 [],.sl 2 [],.sl 3 [],.sl 0 [],.sl 4 [],ti,ti,.sl 5 [],ti])],ro:=[(0,.guest,false),(1,.slot,false),(2,.sl .int,false),(3,.bool,false),(4,.int,false),(5,.kept,false)]}),(182,2,{n:=106,tm:=[(1,.lp 0 0),(75,.sl 0 []),(76,ti),(77,ti)],lo:=[(0,[.sl 0 [],.sl 1 [],.sl 2 [],.sl 3 [],.sl 4 [],ti,ti,.sl 5 [],ti])],ro:=[(0,.slot,false),(1,.sl .int,false),(2,.bool,false),(3,.guest,false),(4,.int,false),(5,.kept,false)]})]
theorem zWU (a:Mon)(l:zbt big [aT .mon a])(E:zjU a=true):∃N,zPY N a=some [aB<|zkJ a]:=by
 have hg:a.Guests.length<=big:=((zbv l).1 (.s .guest a.Guests) (by simp[AV.cvs,Ty.cells])).len;have m:a.Outer.length<=big:=((zbv l).1 (.s .slot a.Outer) (by simp[AV.cvs,Ty.cells])).len;refine zbG λN d=>?_;unfold zPY zkJ zfP oN nB;conv=>zeta
 refine must rfl (stB λw=>stI λy=>must rfl (stB λr=>stI λv=>stI λz=>stG λA=>must rfl (stB λB=>must rfl (stB λC=>must rfl (stB λD=>?_)))));have p:=zsI r;have q:ln a.Out=8:=qD v;simp only[ln] at p q;refine(zW a.Guests (λi (t:Unit)=>(ln a.Guests,(i:Int),a.Pending,a.Traps,a.Own,a.Guests,a.Outer,a.Out,a.Dirty,a.Outs,a.Tables,())) _ (λ_ (x:Guest) (_:Unit) g=>bif zd7 x then g () else oF) (λ(t:Unit)=>iter (σ:=(Int×Int×Int×Int×Int×lS×lM×lB×lG×(List Int)×lK×Unit)) N (λn c=>cond (ilt c.2.1 c.1) (cond (inb c.2.1<|ln c.2.2.2.2.2.1) (cond zbE (cond (cond (ieq (ix c.2.2.2.2.2.1 c.2.1 zT).Page zbj.Page) (ieq (ix c.2.2.2.2.2.1 c.2.1 zT).Rights zbj.Rights) false) (cond (inb c.2.1<|ln c.2.2.2.2.2.2.1) (cond (zdN<|ix c.2.2.2.2.2.2.1 c.2.1 []) (cond (cond (zc9<|ix c.2.2.2.2.2.2.1 c.2.1 []) false true) oF<|n (c.1,zG .i64 c.2.1 1,c.2.2.1,c.2.2.2.1,c.2.2.2.2.1,c.2.2.2.2.2.1,c.2.2.2.2.2.2.1,c.2.2.2.2.2.2.2.1,c.2.2.2.2.2.2.2.2.1,c.2.2.2.2.2.2.2.2.2.1,c.2.2.2.2.2.2.2.2.2.2.1,())) none) none)<|cond (zZ (ix c.2.2.2.2.2.1 c.2.1 zT).Rights 1) (cond (cond (zcW (ix c.2.2.2.2.2.1 c.2.1 zT).Rights 1) false true) oF<|cond (inb c.2.1<|ln c.2.2.2.2.2.2.1) (cond (igt (ln<|ix c.2.2.2.2.2.2.1 c.2.1 []) 0) oF<|n (c.1,zG .i64 c.2.1 1,c.2.2.1,c.2.2.2.1,c.2.2.2.2.1,c.2.2.2.2.2.1,c.2.2.2.2.2.2.1,c.2.2.2.2.2.2.2.1,c.2.2.2.2.2.2.2.2.1,c.2.2.2.2.2.2.2.2.2.1,c.2.2.2.2.2.2.2.2.2.2.1,())) none) none) none) none)<|some [.one<|.b true]) (ln a.Outer,0,a.Pending,a.Traps,a.Own,a.Outer,a.Out,a.Dirty,a.Guests,a.Outs,a.Tables,())) (λi h t rec=>?_) (λt rec=>?_) _ ()<|d hg).trans ?_;{simp only [zbf h,zO h,zX h,zV h hg,cT];simp only[zbo,ziE,cT];cases zd7 a.Guests[i]<;>rfl};{simp only [zbc,cF]};rw[zhX zd7];cases a.Guests.all zd7;{rfl};simp only[cT];refine(zW a.Outer (λj (u:Unit)=>(ln a.Outer,(j:Int),a.Pending,a.Traps,a.Own,a.Outer,a.Out,a.Dirty,a.Guests,a.Outs,a.Tables,())) _ (λj (_:Slot) (_:Unit) g=>bif fits a j then g () else oF) (λ(u:Unit)=>some [.one<|.b true]) (λj e u f=>?_) (λu f=>?_) _ ()<|d m).trans ?_;{simp only [zbf e,zO e,zX e,zV e m,cT];have k:j<a.Out.length:=(by omega);simp only[zbE,zbj,zdN,zc9,zZ,zcW,zO k,zOe,cT];unfold fits zt0;simp only[zX e,zdP];cases ieq a.Outer[j].Page noSlot.Page<;>cases ieq a.Outer[j].Rights noSlot.Rights<;>cases enough a.Outer[j].Rights 1<;>cases ile (ln<|ix a.Out (j:Int) []) 0<;>cases zdB (ix a.Out (j:Int) [])<;>rfl};{simp only [zbc,cF]};rw[zxm λj (_:Unit) g=>bif fits a j then g () else oF,zDx<|fits a,show a.Outer.length=8 by omega];cases zuf (fits a) 8 0<;>rfl
theorem zRh:vF 182 zrX:=hF1 zGP zl zn zo zXK zWU
def zQa (N:Nat)(c:Mon):OA:=
 (oN (zD (ln c.Guests) 1 2)<|cond (nB<|zk (ln c.Guests) 1 2) oF<|cond (ine (ln c.Tables)<|ln c.Guests) oF<|oN (zkn c.Outer 8 12)<|cond (nB<|ze2 c.Outer 8 12) oF<|cond (ine (ln c.Out) 8) oF<|cond (ine (ln c.Dirty) 8) oF<|iter (σ:=(Int×Int×Int×Int×lS×lM×lB×lG×(List Int)×lK×Unit)) N (λl b=>let d:=b.2.2.2.2.2.2.2.1; (cond (ilt b.1<|ln d) (oN (inb b.1<|ln d)<|oN (zbo<|ix d b.1 zu)<|cond (nB<|ziE<|ix d b.1 zu) oF<|l (zG .i64 b.1 1,b.2.1,b.2.2.1,b.2.2.2.1,b.2.2.2.2.1,b.2.2.2.2.2.1,b.2.2.2.2.2.2.1,d,b.2.2.2.2.2.2.2.2.1,b.2.2.2.2.2.2.2.2.2.1,()))<|iter (σ:=(Int×Int×Int×Int×lS×lM×lB×lG×(List Int)×lK×Unit)) N (λm a=>let h:=a.2.2.2.2.1;let i:=inb a.1<|ln a.2.2.2.2.2.1;let e:=ix a.2.2.2.2.2.1 a.1 [];let g:=ix h a.1 zT;let k:=ieq g.Rights zbj.Rights;let j:=ieq g.Page zbj.Page;let f:=m (zG .i64 a.1 1,a.2.1,a.2.2.1,a.2.2.2.1,h,a.2.2.2.2.2.1,a.2.2.2.2.2.2.1,a.2.2.2.2.2.2.2.1,a.2.2.2.2.2.2.2.2.1,a.2.2.2.2.2.2.2.2.2.1,()); (cond (ilt a.1 8) (oN (inb a.1<|ln h)<|oN zbE<|cond (nB<|cond j k false) (oN i<|cond (igt (ln e) 0) oF<|oN (inb a.1<|ln h)<|oN (zZ g.Rights 1)<|cond (nB<|zcW g.Rights 1) oF<|cond (nB<|nB<|cond j k false) (oN i<|oN (zdN e)<|cond (nB<|zc9 e) oF f) f)<|cond (nB<|nB<|cond j k false) (oN i<|oN (zdN e)<|cond (nB<|zc9 e) oF f) f)<|cond (ile (ln a.2.2.2.2.2.2.2.2.1) 40) (oN (zbY a.2.1)<|cond (zes a.2.1) (oN (zD a.2.2.1 0 3)<|cond (zk a.2.2.1 0 3) (oN (zD a.2.2.2.1 0 1000000000)<|some [aB<|zk a.2.2.2.1 0 1000000000]) oF) oF) oF)) (0,b.2.1,b.2.2.1,b.2.2.2.1,b.2.2.2.2.1,b.2.2.2.2.2.1,b.2.2.2.2.2.2.1,d,b.2.2.2.2.2.2.2.2.1,b.2.2.2.2.2.2.2.2.2.1,()))) (0,c.Pending,c.Traps,c.Own,c.Outer,c.Out,c.Dirty,c.Guests,c.Outs,c.Tables,()))
def zXM:=zq [(369,0,{n:=115,tm:=[(1,.lp 0 0),(3,ti)],lo:=[(0,[.sl 0 [],.sl 1 [],.sl 2 [],.sl 3 [],.sl 4 [],ti,ti,.sl 5 [],ti])],ro:=[(0,.slot,false),(1,.sl .int,false),(2,.bool,false),(3,.guest,false),(4,.int,false),(5,.kept,false)]}),(369,2,{n:=115,tm:=[(1,.lp 0 0),(4,ti)],lo:=[(0,[.sl 0 [],.sl 1 [],.sl 2 [],.sl 3 [],.sl 4 [],ti,ti,.sl 5 [],ti])],ro:=[(0,.slot,false),(1,.sl .int,false),(2,.bool,false),(3,.guest,false),(4,.int,false),(5,.kept,false)]})]
theorem zW3 (c:Mon)(r:zbt big [aT .mon c])(A:zjU c=true):∃N,zQa N c=some [aB<|zkJ c]:=by
 have hg:c.Guests.length<=big:=((zbv r).1 (.s .guest c.Guests) (by simp[AV.cvs,Ty.cells])).len;refine zbG λN d=>?_;unfold zQa zkJ zfP oN nB;conv=>zeta
 refine must rfl (stB λw=>stI λy=>must rfl (stB λp=>stI λq=>stI λz=>?_));have m:=zsI p;have n:ln c.Out=8:=qD q;simp only[ln] at m n;refine(zW c.Guests (λi (t:Unit)=>((i:Int),c.Pending,c.Traps,c.Own,c.Outer,c.Out,c.Dirty,c.Guests,c.Outs,c.Tables,())) _ (λ_ (x:Guest) (_:Unit) l=>bif zd7 x then l () else oF) (λ(t:Unit)=>iter (σ:=(Int×Int×Int×Int×lS×lM×lB×lG×(List Int)×lK×Unit)) N (λh a=>cond (ilt a.1 8) (cond (inb a.1<|ln a.2.2.2.2.1) (cond zbE (cond (cond (cond (ieq (ix a.2.2.2.2.1 a.1 zT).Page zbj.Page) (ieq (ix a.2.2.2.2.1 a.1 zT).Rights zbj.Rights) false) false true) (cond (inb a.1<|ln a.2.2.2.2.2.1) (cond (igt (ln<|ix a.2.2.2.2.2.1 a.1 []) 0) oF<|cond (inb a.1<|ln a.2.2.2.2.1) (cond (zZ (ix a.2.2.2.2.1 a.1 zT).Rights 1) (cond (cond (zcW (ix a.2.2.2.2.1 a.1 zT).Rights 1) false true) oF<|cond (cond (cond (cond (ieq (ix a.2.2.2.2.1 a.1 zT).Page zbj.Page) (ieq (ix a.2.2.2.2.1 a.1 zT).Rights zbj.Rights) false) false true) false true) (cond (inb a.1<|ln a.2.2.2.2.2.1) (cond (zdN<|ix a.2.2.2.2.2.1 a.1 []) (cond (cond (zc9<|ix a.2.2.2.2.2.1 a.1 []) false true) oF<|h (zG .i64 a.1 1,a.2.1,a.2.2.1,a.2.2.2.1,a.2.2.2.2.1,a.2.2.2.2.2.1,a.2.2.2.2.2.2.1,a.2.2.2.2.2.2.2.1,a.2.2.2.2.2.2.2.2.1,a.2.2.2.2.2.2.2.2.2.1,())) none) none)<|h (zG .i64 a.1 1,a.2.1,a.2.2.1,a.2.2.2.1,a.2.2.2.2.1,a.2.2.2.2.2.1,a.2.2.2.2.2.2.1,a.2.2.2.2.2.2.2.1,a.2.2.2.2.2.2.2.2.1,a.2.2.2.2.2.2.2.2.2.1,())) none) none) none)<|cond (cond (cond (cond (ieq (ix a.2.2.2.2.1 a.1 zT).Page zbj.Page) (ieq (ix a.2.2.2.2.1 a.1 zT).Rights zbj.Rights) false) false true) false true) (cond (inb a.1<|ln a.2.2.2.2.2.1) (cond (zdN<|ix a.2.2.2.2.2.1 a.1 []) (cond (cond (zc9<|ix a.2.2.2.2.2.1 a.1 []) false true) oF<|h (zG .i64 a.1 1,a.2.1,a.2.2.1,a.2.2.2.1,a.2.2.2.2.1,a.2.2.2.2.2.1,a.2.2.2.2.2.2.1,a.2.2.2.2.2.2.2.1,a.2.2.2.2.2.2.2.2.1,a.2.2.2.2.2.2.2.2.2.1,())) none) none)<|h (zG .i64 a.1 1,a.2.1,a.2.2.1,a.2.2.2.1,a.2.2.2.2.1,a.2.2.2.2.2.1,a.2.2.2.2.2.2.1,a.2.2.2.2.2.2.2.1,a.2.2.2.2.2.2.2.2.1,a.2.2.2.2.2.2.2.2.2.1,())) none) none)<|cond (ile (ln a.2.2.2.2.2.2.2.2.1) 40) (cond (zbY a.2.1) (cond (zes a.2.1) (cond (zD a.2.2.1 0 3) (cond (zk a.2.2.1 0 3) (cond (zD a.2.2.2.1 0 1000000000) (some [.one<|.b<|zk a.2.2.2.1 0 1000000000]) none) oF) none) oF) none) oF) (0,c.Pending,c.Traps,c.Own,c.Outer,c.Out,c.Dirty,c.Guests,c.Outs,c.Tables,())) (λi g t rec=>?_) (λt rec=>?_) _ ()<|d hg).trans ?_;{simp only [zbf g,zO g,zX g,zV g hg,cT];simp only[zbo,ziE,cT];cases zd7 c.Guests[i]<;>rfl};{simp only [zbc,cF]};rw[zhX zd7];cases B:c.Guests.all zd7;{simp only [cF];cases ile (ln c.Outs) 40<;>cases zhG c.Pending<;>cases zk c.Traps 0 3<;>cases zk c.Own 0 1000000000<;>rfl};simp only[cT];refine(zyO 8 (λj (u:Unit)=>((j:Int),c.Pending,c.Traps,c.Own,c.Outer,c.Out,c.Dirty,c.Guests,c.Outs,c.Tables,())) _ (λj (_:Unit) l=>bif fits c j then l () else oF) (λ(u:Unit)=>cond (ile (ln c.Outs) 40) (cond (zbY c.Pending) (cond (zes c.Pending) (cond (zD c.Traps 0 3) (cond (zk c.Traps 0 3) (cond (zD c.Own 0 1000000000) (some [.one<|.b<|zk c.Own 0 1000000000]) none) oF) none) oF) none) oF) (λj v u f=>?_) (λu f=>?_) _ ()<|d (by decide)).trans ?_;{simp only [show ilt (j:Int) 8=true from qL (by omega),zV v (show 8<=big by decide),cT];have e:j<c.Outer.length:=(by omega);have k:j<c.Out.length:=(by omega);simp only[zbE,zbj,zdN,zc9,zZ,zcW,zO e,zO k,zOe,cT];unfold fits zt0;simp only[zX e,zdP];cases ieq c.Outer[j].Page noSlot.Page<;>cases ieq c.Outer[j].Rights noSlot.Rights<;>cases enough c.Outer[j].Rights 1<;>cases ile (ln<|ix c.Out (j:Int) []) 0<;>cases zdB (ix c.Out (j:Int) [])<;>rfl};{simp only [show ilt ((8:Nat):Int) 8=false from qI (by omega),cF];rfl};rw[zDx<|fits c];simp only[zbY,zes,zD,zTc,cT];cases zuf (fits c) 8 0<;>cases ile (ln c.Outs) 40<;>cases zhG c.Pending<;>cases zk c.Traps 0 3<;>cases zk c.Own 0 1000000000<;>rfl
theorem zRs:vF 369 zrX:=hF1 zGP zl zn zo zXM zW3
def z4W:zY:=[(369,zrX),(182,zrX)]++z4V
theorem zGQ:zK z4W:=zf zRs (zf zRh zGP)
def zk8:List Slot->List Bool->Option (List Bool)
 |[],u=>some u
 |s::l,u=>bif ilt s.Page 0 then zk8 l u else (cond (ix u s.Page false) none<|zk8 l<|up u s.Page true)
def zn6:List Mon->List Bool->Bool
 |[],_=>true
 |m::l,u=>bif zfP m then (match zk8 m.Outer u with|some a=>zn6 l a|none=>false) else false
def zbP (h:Host):Bool:=bif zlu h.Memory 12 then (cond (zk (ln h.Mons) 1 3) (cond (ztm h.Buffer) (cond (ztm h.IoBuffer) (zn6 h.Mons<|rp 12 false) false) false) false) else false
theorem zqW:∀(l:List Slot) (u a:List Bool),zk8 l u=some a->a.length=u.length
 |[],u,a,h=>by cases h;rfl
 |s::l,u,a,h=>by simp only[zk8]at h;cases b:ilt s.Page 0;{rw [b]at h;cases c:ix u s.Page false;{rw [c]at h;simpa using zqW l _ a h};{rw [c]at h;cases h}};{rw [b]at h;exact zqW l u a h}
theorem zDI {t:List Slot}{n:Int}(h:zeg t n 12=true):∀s∈t,s.Page<12:=by intro s d;unfold zeg at h;cases b:t.all (λs=>zgv s 12);{rw [b]at h;cases h};{have:=qQ.1 b s d;unfold zgv at this;cases a:zdP s noSlot;{rw [a] at this;simp only[cF,show igt 12 0=true from rfl,cT] at this;cases c:zk s.Page 0 (wsub .i64 12 1);{rw [c] at this;cases this};{have:=(ze4.1 c).2;rw[show wsub .i64 12 1=11 from rfl] at this;omega}};{unfold zdP at a;rw[qE]at a;have a:s.Page = -1:=qD a.1;omega}}
theorem zWp {s:Slot}{u:List Bool}(h:s.Page<12)(b:u.length=12)(a:ilt s.Page 0=false):inb s.Page (ln u)=true:=by have:=qM a;exact qL (by simp only[ln];omega)
def zug {a:Type}(r:Option a)(y:Slot)(u:List Bool)(b:List Bool->Option a):Option a:=bif ilt y.Page 0 then b u else (cond (inb y.Page<|ln u) (cond (ix u y.Page false) r<|cond (inb y.Page<|ln u) (share (up u y.Page true) λc=>b c) none) none)
theorem zyB {c:Type}(r:Option c)(K:List Bool->Option c):∀(l:List Slot) (i:Nat) (u:List Bool),(∀s∈l,s.Page<12)->u.length=12->
 goL (λ_ y u g=>zug r y u g) K l i u=match zk8 l u with|some f=>K f|none=>r
 |[],_,_,_,_=>rfl
 |s::l,i,u,h,b=>by simp only[goL,zk8,zug];cases d:ilt s.Page 0;{have e:=zWp (h s (by simp)) b d;rw[e];cases ix u s.Page false;{simp only [cF,cT,share];exact zyB r K l (i+1) _ (λs a=>h s (by simp[a])) (by simpa using b)};{rfl}};{simp only [cT];exact zyB r K l (i+1) u (λs a=>h s (by simp[a])) b}
def zYJ {b:Type}(r:Option b)(m:Mon)(u:List Bool)(a:List Bool->Option b):Option b:=bif zfP m then goL (λ_ y u a=>zug r y u a) a m.Outer 0 u else r
theorem zdo {c x:Bool}:((cond c x false)=true)↔c=true/\x=true:=by cases c<;>simp
theorem zn9 {m:Mon}(h:zfP m=true):zeg m.Outer 8 12=true:=by unfold zfP at h;simp only[zdo]at h;exact h.2.2.1
theorem zTW {K:Bool->OA}(k:List Bool->OA)(a:∀u,k u=K true):∀(l:List Mon) (i:Nat) (u:List Bool),u.length=12->
 goL (λ_ m u g=>zYJ (K false) m u g) k l i u=K (zn6 l u)
 |[],_,u,_=>a u
 |m::l,i,u,b=>by simp only[goL,zn6,zYJ];cases c:zfP m;{rfl};{simp only [cT];have e:=zn9 c;rw[zyB _ _ _ _ _ (zDI e) b];cases d:zk8 m.Outer u with|none=>rfl|some f=>exact zTW k a l (i+1) f ((zqW _ _ _ d).trans b)}
@[simp] abbrev zb2 (h:Host):Bool:=true
@[simp] abbrev zb0 (h:Host):Bool:=zbP h
def zp8:Run:=rF1 dH λb=>(zb2 b,[aB<|zb0 b])
def zIO (N:Nat)(c:Host):OA:=
 (oN (zj1 c.Memory 12)<|cond (nB<|zf1 c.Memory 12) oF<|oN (zD (ln c.Mons) 1 3)<|cond (nB<|zk (ln c.Mons) 1 3) oF<|oN (zi6 c.Buffer)<|cond (nB<|zim c.Buffer) oF<|oN (zi6 c.IoBuffer)<|cond (nB<|zim c.IoBuffer) oF<|oN (cond (few 12) (ieq 12 12) false)<|iter (σ:=(Int×Int×lB×lN×Unit)) N (λk b=>let h:=ix b.2.2.2.1 b.2.1 zh; (cond (ilt b.2.1 b.1) (oN (inb b.2.1<|ln b.2.2.2.1)<|oN (zjU h)<|cond (nB<|zkJ h) oF<|iter (σ:=(Int×Int×Int×Int×Int×lB×lN×Unit)) N (λi a=>let f:=a.2.2.2.2.1;let g:=a.2.2.2.2.2.2.1;let j:=(ix g a.2.2.1 zh).Outer;let d:=a.2.2.2.2.2.1;let e:=(ix j f zT).Page; (cond (ilt f a.2.2.2.1) (oN (inb f<|ln j)<|cond (ilt e 0) (i (a.1,a.2.1,a.2.2.1,a.2.2.2.1,zG .i64 f 1,d,g,()))<|oN (inb e<|ln d)<|cond (ix d e false) oF<|oN (inb e<|ln d)<|share (up d e true) λl=>i (a.1,a.2.1,a.2.2.1,a.2.2.2.1,zG .i64 f 1,l,g,()))<|k (a.1,zG .i64 a.2.1 1,d,g,()))) (b.1,b.2.1,b.2.1,ln h.Outer,0,b.2.2.1,b.2.2.2.1,())) oT)) (ln c.Mons,0,rp 12 false,c.Mons,()))
def zV1:=zq [(74,0,{n:=63,tm:=[(3,.sl 0 []),(33,.sl 1 []),(34,ti),(35,ti)],lo:=[],ro:=[(0,.bool,true),(1,.mon,false)]}),(74,2,{n:=63,tm:=[(3,.sl 0 []),(33,.sl 1 []),(34,ti),(35,ti),(43,.sl 1 [0]),(44,ti),(45,ti)],lo:=[],ro:=[(0,.bool,true),(1,.mon,false)]})]
theorem zUn (a:Host)(n:zbt big [aH a])(w:zb2 a=true):∃N,zIO N a=some [aB<|zb0 a]:=by
 have l:CVB big (.s .mon a.Mons):=(zbv n).1 _ (by simp[AV.cvs,zbb]);have g:=l.len;refine zbG λN d=>?_;unfold zIO zb0 zbP oN nB;conv=>zeta
 refine must rfl (stB λp=>must rfl (stB λq=>must rfl (stB λr=>must rfl (stB λv=>must rfl ?_))));refine(zW a.Mons (λi (t:lB)=>(ln a.Mons,(i:Int),t,a.Mons,())) _ (λ_ (x:Mon) (u:List Bool) h=>zYJ (oF) x u h) (λ(t:lB)=>some [.one<|.b true]) (λi c t rec=>?_) (λt rec=>?_) _ (rp 12 false)<|d g).trans ?_;{simp only [zbf c,zO c,zX c,zV c g,cT];unfold zYJ;cases k:zfP a.Mons[i];{simp only [zjU,zkJ,k,cT,cF]};simp only[zjU,zkJ,k,cT,cF];have m:a.Mons[i].Outer.length<=big:=(l.inv.2 _ (jA c) (.s .slot _) (by simp[Ty.cells])).len;refine(zW a.Mons[i].Outer (λj (u:lB)=>(ln a.Mons,(i:Int),(i:Int),ln a.Mons[i].Outer,(j:Int),u,a.Mons,())) _ (λ_ (y:Slot) (u:List Bool) h=>zug (oF) y u h) (λ(u:lB)=>rec (ln a.Mons,((i+1:Nat):Int),u,a.Mons,())) (λj f u e=>?_) (λu e=>?_) _ (t)<|d m).trans ?_;{simp only [zbf f,zO f,zX f,zV f m,cT,zO c,zX c,zV c g];rfl};{simp only [zbc,cF,zO c,zX c,zV c g]};rfl};{simp only [zbc,cF]};exact zTW (K:=λb=>some [AV.one<|.b b]) _ (λ_=>rfl) _ _ _ rfl
theorem zNj:vF 74 zp8:=hF1 zGQ zl zn zo zV1 zUn
theorem zG1 {e:Type}(r:Option e)(k:List Bool->Option e)(m:Mon):∀(n i:Nat) (u:List Bool),(∀s∈m.Outer,s.Page<12)->u.length=12->i+n=m.Outer.length->
 goN (λj u d=>bif inb (j:Int) (ln m.Outer) then zug r (ix m.Outer (j:Int) zT) u d else none) k n i u=goL (λ_ y u d=>zug r y u d) k (m.Outer.drop i) i u
 | 0,i,u,_,_,h=>by have:i=m.Outer.length:=(by omega);subst this;simp[goN,goL]
 |n+1,i,u,b,c,h=>by have a:i<m.Outer.length:=(by omega);rw[jZ a];simp only[goN,goL,zO a,zX a,cT,zug];cases f:ilt m.Outer[i].Page 0;{rw [zWp (b _<|jA a) c f];cases ix u m.Outer[i].Page false;{simp only [cF,cT,share];exact zG1 r k m n (i+1) _ b (by simpa using c) (by omega)};{rfl}};{simp only [cT];exact zG1 r k m n (i+1) u b c (by omega)}
def zJb (N:Nat)(b:Host):OA:=
 (oN (zj1 b.Memory 12)<|cond (nB<|zf1 b.Memory 12) oF<|oN (zD (ln b.Mons) 1 3)<|cond (nB<|zk (ln b.Mons) 1 3) oF<|oN (zi6 b.Buffer)<|cond (nB<|zim b.Buffer) oF<|oN (zi6 b.IoBuffer)<|cond (nB<|zim b.IoBuffer) oF<|oN (cond (few 12) (ieq 12 12) false)<|iter (σ:=(Int×lB×lM×lN×lE×lE×Unit)) N (λq c=>let n:=ix c.2.2.2.1 c.1 zh; (cond (ilt c.1<|ln c.2.2.2.1) (oN (inb c.1<|ln c.2.2.2.1)<|oN (zjU n)<|cond (nB<|zkJ n) oF<|iter (σ:=(Int×Int×lB×lM×lN×lE×lE×Unit)) N (λi a=>let k:=zG .i64 a.2.1 1;let h:=a.2.2.2.2.2.1;let g:=a.2.2.2.2.2.2.1;let f:=a.2.2.1;let e:=a.2.2.2.2.1;let p:=(ix e a.1 zh).Outer;let m:=i (a.1,k,f,a.2.2.2.1,e,h,g,());let d:=(ix p a.2.1 zT).Page;let l:=inb d<|ln f; (cond (ilt a.2.1 8) (oN (inb a.1<|ln e)<|oN (inb a.2.1<|ln p)<|cond (ige d 0) (oN l<|cond (ix f d false) oF<|cond (ige d 0) (oN l<|share (up f d true) λj=>i (a.1,k,j,a.2.2.2.1,e,h,g,())) m)<|cond (ige d 0) (oN l<|share (up f d true) λj=>i (a.1,k,j,a.2.2.2.1,e,h,g,())) m)<|q (zG .i64 a.1 1,f,a.2.2.2.1,e,h,g,()))) (c.1,0,c.2.1,c.2.2.1,c.2.2.2.1,c.2.2.2.2.1,c.2.2.2.2.2.1,())) oT)) (0,rp 12 false,b.Memory,b.Mons,b.Buffer,b.IoBuffer,()))
def zWb:=zq [(332,0,{n:=72,tm:=[(1,.lp 0 0),(3,.sl 0 []),(4,ti)],lo:=[(0,[.sl 1 [],.sl 2 [],.sl 3 [],.sl 4 []])],ro:=[(0,.bool,true),(1,.sl .int,false),(2,.mon,false),(3,.entry,false),(4,.entry,false)]}),(332,2,{n:=72,tm:=[(1,.lp 0 0),(3,.sl 0 []),(4,ti),(5,ti)],lo:=[(0,[.sl 1 [],.sl 2 [],.sl 3 [],.sl 4 []])],ro:=[(0,.bool,true),(1,.sl .int,false),(2,.mon,false),(3,.entry,false),(4,.entry,false)]})]
theorem zUJ (a:Host)(y:zbt big [aH a])(F:zb2 a=true):∃N,zJb N a=some [aB<|zb0 a]:=by
 have A:CVB big (.s .mon a.Mons):=(zbv y).1 _ (by simp[AV.cvs,zbb]);have h:=A.len;refine zbG λN f=>?_;unfold zJb zb0 zbP oN nB;conv=>zeta
 refine must rfl (stB λD=>must rfl (stB λq=>must rfl (stB λr=>must rfl (stB λE=>must rfl ?_))));refine(zW a.Mons (λi (t:lB)=>((i:Int),t,a.Memory,a.Mons,a.Buffer,a.IoBuffer,())) _ (λ_ (x:Mon) (u:List Bool) d=>bif zfP x then goN (λj u d=>bif inb (j:Int) (ln x.Outer) then zug (oF) (ix x.Outer (j:Int) zT) u d else none) d 8 0 u else oF) (λ(t:lB)=>some [.one<|.b true]) (λi c t rec=>?_) (λt rec=>?_) _ (rp 12 false)<|f h).trans ?_;{simp only [zbf c,zO c,zX c,zV c h,cT];cases v:zfP a.Mons[i];{simp only [zjU,zkJ,v,cT,cF]};simp only[zjU,zkJ,v,cT,cF];refine(zyO 8 (λj (u:lB)=>((i:Int),(j:Int),u,a.Memory,a.Mons,a.Buffer,a.IoBuffer,())) _ (λj (u:List Bool) d=>bif inb (j:Int) (ln a.Mons[i].Outer) then zug (oF) (ix a.Mons[i].Outer (j:Int) zT) u d else none) (λ(u:lB)=>rec (((i+1:Nat):Int),u,a.Memory,a.Mons,a.Buffer,a.IoBuffer,())) (λj z u g=>?_) (λu g=>?_) _ (t)<|f (by decide)).trans ?_;{simp only [show ilt (j:Int) 8=true from qL (by omega),zV z (show 8<=big by decide),cT,zO c,zX c,zV c h];unfold zug;have e:ige (ix a.Mons[i].Outer (j:Int) zT).Page 0 = !ilt (ix a.Mons[i].Outer (j:Int) zT).Page 0:=(by rw[z6X,Bool.not_not]);simp only[e];cases ilt (ix a.Mons[i].Outer (j:Int) zT).Page 0<;>cases inb (j:Int) (ln a.Mons[i].Outer)<;>cases inb (ix a.Mons[i].Outer (j:Int) zT).Page (ln u)<;>cases ix u (ix a.Mons[i].Outer (j:Int) zT).Page false<;>rfl};{simp only [show ilt ((8:Nat):Int) 8=false from qI (by omega),cF,zO c,zX c,zV c h]};rfl};{simp only [zbc,cF]};have p:∀(l:List Mon) (i:Nat) (u:List Bool),u.length=12->goL (λ_ (x:Mon) (u:List Bool) d=>bif zfP x then goN (λj u d=>bif inb (j:Int) (ln x.Outer) then zug (oF) (ix x.Outer (j:Int) zT) u d else none) d 8 0 u else oF) (λ_=>oT) l i u=some [AV.one<|.b<|zn6 l u]:=(by intro l;induction l with|nil=>intro i u _;rfl|cons m l B=>intro i u n;simp only[goL,zn6];cases q:zfP m;{rfl};{have k:=zn9 q;have w:0+8=m.Outer.length:=(by have:=zsI k;simp only[ln] at this;omega);simp only[cT];rw[zG1 _ _ m 8 0 u (zDI k) n w,List.drop_zero,zyB _ _ _ _ _ (zDI k) n];cases r:zk8 m.Outer u with|none=>rfl|some C=>exact B (i+1) C ((zqW _ _ _ r).trans n)});exact p _ _ _ rfl
theorem zNN:vF 332 zp8:=hF1 zGQ zl zn zo zWb zUJ
def z4X:zY:=[(332,zp8),(74,zp8)]++z4W
theorem zyo:zK z4X:=zf zNN (zf zNj zGQ)
theorem zZh {h:Host}(a:zbP h=true):(h.Mons.length:Int)<=3:=by unfold zbP at a;simp only[zdo]at a;exact(ze4.1 a.2.1).2
def zcc (h:Host)(m:Int):Bool:=bif zbP h then hasB m (ln h.Mons) else false
def zb6 (h:Host)(m p:Int):Bool:=bif zbP h then (cond (hasB m<|ln h.Mons) (hasB p 8) false) else false
theorem zPT {h:Host}(a:zbP h=true)(m:Int):zk m 0 (wsub .i64 (ln h.Mons) 1)=hasB m (ln h.Mons):=zrv (by have:=zZh a;omega) m
theorem z9X (p:Int):zk p 0 7=hasB p 8:=by unfold zk ige ile hasB;by_cases a:0<=p<;>by_cases b:p<8;{rw [qL (p:=p≥0) (by omega),qL (p:=p<=7) (by omega),qL (p:=0<=p/\p<8) ⟨a,b⟩];rfl};{rw [qI (p:=p<=7) (by omega),qI (p:=0<=p/\p<8) (by omega)];simp};{rw [qI (p:=p≥0) (by omega),qI (p:=0<=p/\p<8) (by omega)];simp};{rw [qI (p:=p≥0) (by omega),qI (p:=0<=p/\p<8) (by omega)];simp}
@[simp] abbrev zgu (h:Host)(m:Int):Bool:=true
@[simp] abbrev zgt (h:Host)(m:Int):Bool:=zcc h m
def zC5:Run:=rF2 dH dI λb c=>(zgu b c,[aB<|zgt b c])
def zJu (N:Nat)(a:Host)(b:Int):OA:=
 (oN (zb2 a)<|cond (zb0 a) (oN (zD b 0<|wsub .i64 (ln a.Mons) 1)<|some [aB<|zk b 0<|wsub .i64 (ln a.Mons) 1]) oF)
theorem zUZ (a:Host)(b:Int)(d:zgu a b=true):∃N,zJu N a b=some [aB<|zgt a b]:=by refine⟨0,?_⟩;unfold zJu zgt zcc oN;cases c:zbP a;{simp only [zb2,zb0,c,cT,cF]};{simp only [zb2,zb0,c,cT,zD,zTc,zPT c]}
theorem zOa:vF 257 zC5:=kF2 zyo zl zn zo (zq []) zUZ
@[simp] abbrev ziH (h:Host)(m p:Int):Bool:=true
@[simp] abbrev zdY (h:Host)(m p:Int):Bool:=zb6 h m p
def zr5:Run:=rF3 dH dI dI λb c d=>(ziH b c d,[aB<|zdY b c d])
def zQh (N:Nat)(a:Host)(b c:Int):OA:=
 (oN (zb2 a)<|cond (zb0 a) (oN (zD b 0<|wsub .i64 (ln a.Mons) 1)<|cond (zk b 0<|wsub .i64 (ln a.Mons) 1) (oN (zD c 0 7)<|some [aB<|zk c 0 7]) oF) oF)
theorem zXa (a:Host)(b c:Int)(e:ziH a b c=true):∃N,zQh N a b c=some [aB<|zdY a b c]:=by refine⟨0,?_⟩;unfold zQh zdY zb6 oN;cases d:zbP a;{simp only [zb2,zb0,d,cT,cF]};{simp only [zb2,zb0,d,cT,zD,zTc,zPT d,z9X];cases hasB b (ln a.Mons)<;>rfl}
theorem zRB:vF 263 zr5:=kF3 zyo zl zn zo (zq []) zXa
def zFd (N:Nat)(a:Host)(b c:Int):OA:=
 (oN (zb2 a)<|cond (zb0 a) (oN (zZ b<|ln a.Mons)<|cond (zbH b<|ln a.Mons) (oN (zZ c 8)<|some [aB<|zbH c 8]) oF) oF)
theorem zR2 (a:Host)(b c:Int)(e:ziH a b c=true):∃N,zFd N a b c=some [aB<|zdY a b c]:=by refine⟨0,?_⟩;unfold zFd zdY zb6 oN;cases d:zbP a;{simp only [zb2,zb0,d,cT,cF]};{simp only [zb2,zb0,d,cT,zZ,zbH];cases hasB b (ln a.Mons)<;>rfl}
theorem zKr:vF 243 zr5:=kF3 zyo zl zn zo (zq []) zR2
def z4Y:zY:=[(257,zC5),(263,zr5),(243,zr5)]++z4X
theorem zTJ:zK z4Y:=zf zOa (zf zRB<|zf zKr zyo)
theorem zv5 {p:Prop}(h:¬ p):pc p=false:=by cases e:pc p with|false=>rfl|true=>exact absurd (zB.1 e) h
theorem zh7 {p q:Prop}(h:p↔q):pc p=pc q:=by rw[propext h]
theorem pcI (a b:Int):ieq a b=pc (a=b):=by unfold ieq;by_cases h:a=b;{rw [zN h];exact qL h};{rw [zv5 h];exact qI h}
theorem zjV {a b:Int}(h:a≠b):ine a b=true:=by unfold ine;simp[h]
theorem pcN (a b:Int):ine a b = !pc (a=b):=by by_cases h:a=b;{rw [zN h];subst h;exact zgj a};{rw [zv5 h];exact zjV h}
theorem pcB (a b:Bool):zkD a b=pc (a=b):=by by_cases h:a=b;{subst h;rw[zN rfl];cases a<;>rfl};{rw [zv5 h];cases a<;>cases b<;>first|rfl|exact absurd rfl h}
theorem pcA (p q:Prop):(cond (pc p) (pc q) false)=pc (p/\q):=by by_cases h:p;{rw [zN h,cT];exact zh7 ⟨λk=>⟨h,k⟩,λk=>k.2⟩};{rw [zv5 h,cF,zv5 λk=>h k.1]}
theorem pcE:∀(a b:List Int),eqI a b=pc (a=b)
 |[],[]=>by rw[zN rfl];rfl
 |[],y::b=>by rw[zv5 (λh=>by cases h)];rfl
 |x::a,[]=>by rw[zv5 (λh=>by cases h)];rfl
 |x::a,y::b=>by have c:=pcE a b;unfold eqI at c ⊢;rw[all2,pcI,c,zh7<|Iff.of_eq<|List.cons.injEq x a y b,<- pcA];cases pc (x=y)<;>rfl
theorem zlO (a b:Slot):pc (a.Page=b.Page/\a.Rights=b.Rights)=pc (a=b):=zh7 (by cases a;cases b;simp)
theorem zjG (a b:Entry):pc (a.Tag=b.Tag/\a.Page=b.Page/\a.Host=b.Host/\a.Rights=b.Rights)=pc (a=b):=zh7 (by cases a;cases b;simp)
theorem zow (a b:Ins):pc (a.Op=b.Op/\a.X=b.X)=pc (a=b):=zh7 (by cases a;cases b;simp)
theorem zkR (a b:Told):pc (a.Ok=b.Ok/\a.N=b.N)=pc (a=b):=zh7 (by cases a;cases b;simp)
theorem zov (a b:GAct):pc (a.Kind=b.Kind/\a.M=b.M/\a.G=b.G/\a.X=b.X/\a.Y=b.Y/\a.Z=b.Z)=pc (a=b):=zh7 (by cases a;cases b;simp)
theorem zLT (a b:Ctl):pc (a.Traps=b.Traps/\a.Post=b.Post/\a.Open=b.Open)=pc (a=b):=zh7 (by cases a;cases b;simp)
theorem zCQ (a b:GExit):pc (a.Kind=b.Kind/\a.Page=b.Page/\a.Write=b.Write/\a.N=b.N)=pc (a=b):=zh7 (by cases a;cases b;simp)
theorem drop_eq {b:Type}{l m:List b}(d:b){i:Nat}(c:i<l.length)(a:i<m.length):l.drop i=m.drop i↔l[i]=ix m (i:Int) d/\l.drop (i+1)=m.drop (i+1):=by rw[jZ c,jZ a,List.cons.injEq,zX a]
theorem zh3 {s p j:Type}(l m:List s)(d:s)(mk:Int->p)(F:(p->Option j)->p->Option j)(h g:Option j)(t:l.length<=big)(r:l.length=m.length)(b:∀(i:Nat) (q:i<l.length) rec,F rec (mk (i:Int))=bif pc (l[i]=ix m (i:Int) d) then rec (mk<|zG .i64 (i:Int) 1) else g)(c:∀rec,F rec (mk (l.length:Int))=h){N:Nat}(e:l.length<N) :
 iter N F (mk 0)=bif pc (l=m) then h else g:=by
 have f:∀(n i N:Nat),l.length-i=n->i<=l.length->n<N->iter N F (mk (i:Int))=bif pc (l.drop i=m.drop i) then h else g:=by intro n;induction n with|zero=>intro i N u q e;have:i=l.length:=(by omega);subst this;obtain⟨n,rfl⟩:∃n,N=n+1:=⟨N-1,by omega⟩;rw[zd3,c,zN (by rw[vD,r,vD]),cT]|succ n v=>intro i N u q e;obtain⟨k,rfl⟩:∃k,N=k+1:=⟨N-1,by omega⟩;have a:i<l.length:=(by omega);rw[zd3,b i a,zV a t,v (i+1) k (by omega) (by omega) (by omega),zh7<|drop_eq d a<|r ▸ a,<- pcA];(cases pc (l[i]=ix m (i:Int) d) with|true=>rw[cT,cT]|false=>rw[cF,cF,cF])
 have:=f l.length 0 N (by omega) (jX _) e
 simpa using this
theorem ziN (p:Prop):(cond (pc p) (some [AV.one<|.b true])<|some [AV.one<|.b false])=some [AV.one<|.b<|pc p]:=by cases pc p<;>rfl
theorem ziO {c:Type}(p:Prop){a b:c}:(cond (!pc p) a b)=(cond (pc p) b a):=by cases pc p<;>rfl
theorem zgR {c:Type}(p:Prop){a b:c}:(cond (cond (pc p) false true) a b)=(cond (pc p) b a):=by cases pc p<;>rfl
theorem zkF {p:Prop}(h:¬ p):(some [AV.one<|.b false]:OA)=some [AV.one<|.b<|pc p]:=by rw[zv5 h]
theorem zui (p q:Prop):(cond (pc p) (some [AV.one<|.b<|pc q]:OA)<|some [AV.one<|.b false])=some [AV.one<|.b<|pc<|p/\q]:=by rw[<- pcA];cases pc p<;>rfl
theorem zuj {p q:Prop}(h:p↔q):(some [AV.one<|.b<|pc p]:OA)=some [AV.one<|.b<|pc q]:=by rw[zh7 h]
def zfC (_ _:List Int):Bool:=true
def zg9 (x y:List Int):Bool:=pc (x=y)
def zxW:Run:=rF2 (dS .int) (dS .int) λb c=>(zfC b c,[aB<|zg9 b c])
def zBg (N:Nat)(b c:List Int):OA:=
 (cond (ine (ln b)<|ln c) oF<|iter (σ:=(Int×(List Int)×(List Int)×Unit)) N (λd a=>cond (ilt a.1<|ln a.2.1) (oN (inb a.1<|ln a.2.1)<|oN (inb a.1<|ln a.2.2.1)<|cond (ine (ix a.2.1 a.1 0)<|ix a.2.2.1 a.1 0) oF<|d (zG .i64 a.1 1,a.2.1,a.2.2.1,())) oT) (0,b,c,()))
def zPG:=zq [(29,0,{n:=26,tm:=[(0,.sl 0 []),(1,.sl 1 []),(5,ti)],lo:=[],ro:=[(0,.int,false),(1,.int,false)]})]
theorem zOO (a c:List Int)(h:zbt big [aS .int a,aS .int c])(l:zfC a c=true):∃N,zBg N a c=some [aB<|zg9 a c]:=by have j:a.length<=big:=len0 h;have k:c.length<=big:=((zbv (zbv h).2).1 _ (qF.2 rfl)).len;refine⟨a.length+1,?_⟩;unfold zBg oN;by_cases g:a.length=c.length;{have d:ine (ln a) (ln c)=false:=(by unfold ln;rw[g];exact zgj _);refine zbA d ?_;refine(zh3 a c 0 (λi=>(i,a,c,())) _ (some [.one<|.b true]) (some [.one<|.b false]) j g (λi f rec=>?_) (λrec=>?_)<|jV _).trans (ziN _);{dsimp only;simp only[zbf f,zO f,zO<|g ▸ f,zX f,pcI,pcN,pcB,pcE,pcA,zlO,zjG,zow,zkR,zov,cT,cF];first|exact ziO _|exact zgR _};{dsimp only;simp only[zbc,cF]}};{have d:ine (ln a) (ln c)=true:=zjV (by unfold ln;omega);refine must d ?_;exact zkF (λe=>g (by rw[e]))}
theorem zHv:vF 29 zxW:=hF2 zen zbk zn zo zPG zOO
def zjF (_ _:List Bool):Bool:=true
def zl3 (x y:List Bool):Bool:=pc (x=y)
def zwd:Run:=rF2 (dS .bool) (dS .bool) λb c=>(zjF b c,[aB<|zl3 b c])
def zzv (N:Nat)(b c:lB):OA:=
 (cond (ine (ln b)<|ln c) oF<|iter (σ:=(Int×lB×lB×Unit)) N (λd a=>cond (ilt a.1<|ln a.2.1) (oN (inb a.1<|ln a.2.1)<|oN (inb a.1<|ln a.2.2.1)<|cond (nB<|zkD (ix a.2.1 a.1 false)<|ix a.2.2.1 a.1 false) oF<|d (zG .i64 a.1 1,a.2.1,a.2.2.1,())) oT) (0,b,c,()))
def zMy:=zq [(268,0,{n:=26,tm:=[(0,.sl 0 []),(1,.sl 1 []),(5,ti)],lo:=[],ro:=[(0,.bool,false),(1,.bool,false)]})]
theorem zLq (a c:List Bool)(h:zbt big [aS .bool a,aS .bool c])(l:zjF a c=true):∃N,zzv N a c=some [aB<|zl3 a c]:=by have j:a.length<=big:=len0 h;have k:c.length<=big:=((zbv (zbv h).2).1 _ (qF.2 rfl)).len;refine⟨a.length+1,?_⟩;unfold zzv oN nB;by_cases g:a.length=c.length;{have d:ine (ln a) (ln c)=false:=(by unfold ln;rw[g];exact zgj _);refine zbA d ?_;refine(zh3 a c false (λi=>(i,a,c,())) _ (some [.one<|.b true]) (some [.one<|.b false]) j g (λi f rec=>?_) (λrec=>?_)<|jV _).trans (ziN _);{dsimp only;simp only[zbf f,zO f,zO<|g ▸ f,zX f,pcI,pcN,pcB,pcE,pcA,zlO,zjG,zow,zkR,zov,cT,cF];first|exact ziO _|exact zgR _};{dsimp only;simp only[zbc,cF]}};{have d:ine (ln a) (ln c)=true:=zjV (by unfold ln;omega);refine must d ?_;exact zkF (λe=>g (by rw[e]))}
theorem zD2:vF 268 zwd:=hF2 zen zbk zn zo zMy zLq
def zfN (_ _:List Slot):Bool:=true
def zha (x y:List Slot):Bool:=pc (x=y)
def zwh:Run:=rF2 (dS .slot) (dS .slot) λb c=>(zfN b c,[aB<|zha b c])
def zzA (N:Nat)(b c:lS):OA:=
 (cond (ine (ln b)<|ln c) oF<|iter (σ:=(Int×lS×lS×Unit)) N (λf a=>let e:=ix a.2.1 a.1 zT;let d:=ix a.2.2.1 a.1 zT; (cond (ilt a.1<|ln a.2.1) (oN (inb a.1<|ln a.2.1)<|oN (inb a.1<|ln a.2.2.1)<|cond (nB<|cond (ieq e.Page d.Page) (ieq e.Rights d.Rights) false) oF<|f (zG .i64 a.1 1,a.2.1,a.2.2.1,())) oT)) (0,b,c,()))
def zMB:=zq [(267,0,{n:=26,tm:=[(0,.sl 0 []),(1,.sl 1 []),(5,ti)],lo:=[],ro:=[(0,.slot,false),(1,.slot,false)]})]
theorem zLu (a c:List Slot)(h:zbt big [aS .slot a,aS .slot c])(l:zfN a c=true):∃N,zzA N a c=some [aB<|zha a c]:=by
 have j:a.length<=big:=len0 h;have k:c.length<=big:=((zbv (zbv h).2).1 _ (qF.2 rfl)).len;refine⟨a.length+1,?_⟩;unfold zzA oN nB;conv=>zeta
 by_cases g:a.length=c.length;{have d:ine (ln a) (ln c)=false:=(by unfold ln;rw[g];exact zgj _);refine zbA d ?_;refine(zh3 a c zT (λi=>(i,a,c,())) _ (some [.one<|.b true]) (some [.one<|.b false]) j g (λi f rec=>?_) (λrec=>?_)<|jV _).trans (ziN _);{dsimp only;simp only[zbf f,zO f,zO<|g ▸ f,zX f,pcI,pcN,pcB,pcE,pcA,zlO,zjG,zow,zkR,zov,cT,cF];first|exact ziO _|exact zgR _};{dsimp only;simp only[zbc,cF]}};{have d:ine (ln a) (ln c)=true:=zjV (by unfold ln;omega);refine must d ?_;exact zkF (λe=>g (by rw[e]))}
theorem zD6:vF 267 zwh:=hF2 zen zbk zn zo zMB zLu
def zkL (_ _:List Entry):Bool:=true
def zmM (x y:List Entry):Bool:=pc (x=y)
def zuW:Run:=rF2 (dS .entry) (dS .entry) λb c=>(zkL b c,[aB<|zmM b c])
def zw6 (N:Nat)(d e:lE):OA:=
 (cond (ine (ln d)<|ln e) oF<|iter (σ:=(Int×lE×lE×Unit)) N (λf a=>let c:=ix a.2.1 a.1 zfl;let b:=ix a.2.2.1 a.1 zfl; (cond (ilt a.1<|ln a.2.1) (oN (inb a.1<|ln a.2.1)<|oN (inb a.1<|ln a.2.2.1)<|cond (nB<|cond (ieq c.Tag b.Tag) (cond (ieq c.Page b.Page) (cond (ieq c.Host b.Host) (ieq c.Rights b.Rights) false) false) false) oF<|f (zG .i64 a.1 1,a.2.1,a.2.2.1,())) oT)) (0,d,e,()))
def zIE:=zq [(57,0,{n:=26,tm:=[(0,.sl 0 []),(1,.sl 1 []),(5,ti)],lo:=[],ro:=[(0,.entry,false),(1,.entry,false)]})]
theorem zH7 (a c:List Entry)(h:zbt big [aS .entry a,aS .entry c])(l:zkL a c=true):∃N,zw6 N a c=some [aB<|zmM a c]:=by
 have j:a.length<=big:=len0 h;have k:c.length<=big:=((zbv (zbv h).2).1 _ (qF.2 rfl)).len;refine⟨a.length+1,?_⟩;unfold zw6 oN nB;conv=>zeta
 by_cases g:a.length=c.length;{have d:ine (ln a) (ln c)=false:=(by unfold ln;rw[g];exact zgj _);refine zbA d ?_;refine(zh3 a c zfl (λi=>(i,a,c,())) _ (some [.one<|.b true]) (some [.one<|.b false]) j g (λi f rec=>?_) (λrec=>?_)<|jV _).trans (ziN _);{dsimp only;simp only[zbf f,zO f,zO<|g ▸ f,zX f,pcI,pcN,pcB,pcE,pcA,zlO,zjG,zow,zkR,zov,cT,cF];first|exact ziO _|exact zgR _};{dsimp only;simp only[zbc,cF]}};{have d:ine (ln a) (ln c)=true:=zjV (by unfold ln;omega);refine must d ?_;exact zkF (λe=>g (by rw[e]))}
theorem zCm:vF 57 zuW:=hF2 zen zbk zn zo zIE zH7
def zp2 (_ _:List Ins):Bool:=true
def zty (x y:List Ins):Bool:=pc (x=y)
def zxV:Run:=rF2 (dS .ins) (dS .ins) λb c=>(zp2 b c,[aB<|zty b c])
def zBf (N:Nat)(b c:lI):OA:=
 (cond (ine (ln b)<|ln c) oF<|iter (σ:=(Int×lI×lI×Unit)) N (λf a=>let e:=ix a.2.1 a.1 zsg;let d:=ix a.2.2.1 a.1 zsg; (cond (ilt a.1<|ln a.2.1) (oN (inb a.1<|ln a.2.1)<|oN (inb a.1<|ln a.2.2.1)<|cond (nB<|cond (ieq e.Op d.Op) (ieq e.X d.X) false) oF<|f (zG .i64 a.1 1,a.2.1,a.2.2.1,())) oT)) (0,b,c,()))
def zPF:=zq [(340,0,{n:=26,tm:=[(0,.sl 0 []),(1,.sl 1 []),(5,ti)],lo:=[],ro:=[(0,.ins,false),(1,.ins,false)]})]
theorem zON (a c:List Ins)(h:zbt big [aS .ins a,aS .ins c])(l:zp2 a c=true):∃N,zBf N a c=some [aB<|zty a c]:=by
 have j:a.length<=big:=len0 h;have k:c.length<=big:=((zbv (zbv h).2).1 _ (qF.2 rfl)).len;refine⟨a.length+1,?_⟩;unfold zBf oN nB;conv=>zeta
 by_cases g:a.length=c.length;{have d:ine (ln a) (ln c)=false:=(by unfold ln;rw[g];exact zgj _);refine zbA d ?_;refine(zh3 a c zsg (λi=>(i,a,c,())) _ (some [.one<|.b true]) (some [.one<|.b false]) j g (λi f rec=>?_) (λrec=>?_)<|jV _).trans (ziN _);{dsimp only;simp only[zbf f,zO f,zO<|g ▸ f,zX f,pcI,pcN,pcB,pcE,pcA,zlO,zjG,zow,zkR,zov,cT,cF];first|exact ziO _|exact zgR _};{dsimp only;simp only[zbc,cF]}};{have d:ine (ln a) (ln c)=true:=zjV (by unfold ln;omega);refine must d ?_;exact zkF (λe=>g (by rw[e]))}
theorem zHu:vF 340 zxV:=hF2 zen zbk zn zo zPF zON
def zex (_ _:List Told):Bool:=true
def zfD (x y:List Told):Bool:=pc (x=y)
def zgn:Run:=rF2 (dS .told) (dS .told) λb c=>(zex b c,[aB<|zfD b c])
def zzB (N:Nat)(b c:lT):OA:=
 (cond (ine (ln b)<|ln c) oF<|iter (σ:=(Int×lT×lT×Unit)) N (λf a=>let e:=ix a.2.1 a.1 zlX;let d:=ix a.2.2.1 a.1 zlX; (cond (ilt a.1<|ln a.2.1) (oN (inb a.1<|ln a.2.1)<|oN (inb a.1<|ln a.2.2.1)<|cond (nB<|cond (zkD e.Ok d.Ok) (ieq e.N d.N) false) oF<|f (zG .i64 a.1 1,a.2.1,a.2.2.1,())) oT)) (0,b,c,()))
def zMC:=zq [(17,0,{n:=26,tm:=[(0,.sl 0 []),(1,.sl 1 []),(5,ti)],lo:=[],ro:=[(0,.told,false),(1,.told,false)]})]
theorem zLv (a c:List Told)(h:zbt big [aS .told a,aS .told c])(l:zex a c=true):∃N,zzB N a c=some [aB<|zfD a c]:=by
 have j:a.length<=big:=len0 h;have k:c.length<=big:=((zbv (zbv h).2).1 _ (qF.2 rfl)).len;refine⟨a.length+1,?_⟩;unfold zzB oN nB;conv=>zeta
 by_cases g:a.length=c.length;{have d:ine (ln a) (ln c)=false:=(by unfold ln;rw[g];exact zgj _);refine zbA d ?_;refine(zh3 a c zlX (λi=>(i,a,c,())) _ (some [.one<|.b true]) (some [.one<|.b false]) j g (λi f rec=>?_) (λrec=>?_)<|jV _).trans (ziN _);{dsimp only;simp only[zbf f,zO f,zO<|g ▸ f,zX f,pcI,pcN,pcB,pcE,pcA,zlO,zjG,zow,zkR,zov,cT,cF];first|exact ziO _|exact zgR _};{dsimp only;simp only[zbc,cF]}};{have d:ine (ln a) (ln c)=true:=zjV (by unfold ln;omega);refine must d ?_;exact zkF (λe=>g (by rw[e]))}
theorem zte:vF 17 zgn:=hF2 zen zbk zn zo zMC zLv
def zuJ (_ _:List GAct):Bool:=true
def zyP (x y:List GAct):Bool:=pc (x=y)
def zrm:Run:=rF2 (dS .act) (dS .act) λb c=>(zuJ b c,[aB<|zyP b c])
def zBc (N:Nat)(d e:lA):OA:=
 (cond (ine (ln d)<|ln e) oF<|iter (σ:=(Int×lA×lA×Unit)) N (λf a=>let c:=ix a.2.1 a.1 ziv;let b:=ix a.2.2.1 a.1 ziv; (cond (ilt a.1<|ln a.2.1) (oN (inb a.1<|ln a.2.1)<|oN (inb a.1<|ln a.2.2.1)<|cond (nB<|cond (ieq c.Kind b.Kind) (cond (ieq c.M b.M) (cond (ieq c.G b.G) (cond (ieq c.X b.X) (cond (ieq c.Y b.Y) (ieq c.Z b.Z) false) false) false) false) false) oF<|f (zG .i64 a.1 1,a.2.1,a.2.2.1,())) oT)) (0,d,e,()))
def zPE:=zq [(21,0,{n:=26,tm:=[(0,.sl 0 []),(1,.sl 1 []),(5,ti)],lo:=[],ro:=[(0,.act,false),(1,.act,false)]})]
theorem zOK (a c:List GAct)(h:zbt big [aS .act a,aS .act c])(l:zuJ a c=true):∃N,zBc N a c=some [aB<|zyP a c]:=by
 have j:a.length<=big:=len0 h;have k:c.length<=big:=((zbv (zbv h).2).1 _ (qF.2 rfl)).len;refine⟨a.length+1,?_⟩;unfold zBc oN nB;conv=>zeta
 by_cases g:a.length=c.length;{have d:ine (ln a) (ln c)=false:=(by unfold ln;rw[g];exact zgj _);refine zbA d ?_;refine(zh3 a c ziv (λi=>(i,a,c,())) _ (some [.one<|.b true]) (some [.one<|.b false]) j g (λi f rec=>?_) (λrec=>?_)<|jV _).trans (ziN _);{dsimp only;simp only[zbf f,zO f,zO<|g ▸ f,zX f,pcI,pcN,pcB,pcE,pcA,zlO,zjG,zow,zkR,zov,cT,cF];first|exact ziO _|exact zgR _};{dsimp only;simp only[zbc,cF]}};{have d:ine (ln a) (ln c)=true:=zjV (by unfold ln;omega);refine must d ?_;exact zkF (λe=>g (by rw[e]))}
theorem zuz:vF 21 zrm:=hF2 zen zbk zn zo zPE zOK
def z0Y:zY:=[(29,zxW),(268,zwd),(267,zwh),(57,zuW),(340,zxV),(17,zgn),(21,zrm)]++zTz
theorem zvB:zK z0Y:=zf zHv (zf zD2<|zf zD6<|zf zCm<|zf zHu<|zf zte<|zf zuz zen)
def zgC (_ _:List (List Int)):Bool:=true
def ziA (x y:List (List Int)):Bool:=pc (x=y)
def zwg:Run:=rF2 (dS<|.sl .int) (dS<|.sl .int) λb c=>(zgC b c,[aB<|ziA b c])
def zzy (N:Nat)(b:lM)(c:lM):OA:=
 (cond (ine (ln b)<|ln c) oF<|iter (σ:=(Int×lM×lM×Unit)) N (λd a=>cond (ilt a.1<|ln a.2.1) (oN (inb a.1<|ln a.2.1)<|oN (inb a.1<|ln a.2.2.1)<|oN (zfC (ix a.2.1 a.1 [])<|ix a.2.2.1 a.1 [])<|cond (nB<|zg9 (ix a.2.1 a.1 [])<|ix a.2.2.1 a.1 []) oF<|d (zG .i64 a.1 1,a.2.1,a.2.2.1,())) oT) (0,b,c,()))
def zMA:=zq [(55,0,{n:=27,tm:=[(0,.sl 0 []),(1,.sl 1 []),(5,ti)],lo:=[],ro:=[(0,.sl .int,false),(1,.sl .int,false)]})]
theorem zLt (a:List (List Int))(c:List (List Int))(h:zbt big [aS (.sl .int) a,aS (.sl .int) c])(l:zgC a c=true):∃N,zzy N a c=some [aB<|ziA a c]:=by have j:a.length<=big:=len0 h;have k:c.length<=big:=((zbv (zbv h).2).1 _ (qF.2 rfl)).len;refine⟨a.length+1,?_⟩;unfold zzy oN nB;by_cases g:a.length=c.length;{have d:ine (ln a) (ln c)=false:=(by unfold ln;rw[g];exact zgj _);refine zbA d ?_;refine(zh3 a c [] (λi=>(i,a,c,())) _ (some [.one<|.b true]) (some [.one<|.b false]) j g (λi f rec=>?_) (λrec=>?_)<|jV _).trans (ziN _);{dsimp only;simp only[zbf f,zO f,zO<|g ▸ f,zX f,zfC,zg9,pcI,pcN,pcB,pcE,pcA,zlO,zjG,zow,zkR,zov,cT,cF];first|exact ziO _|exact zgR _};{dsimp only;simp only[zbc,cF]}};{have d:ine (ln a) (ln c)=true:=zjV (by unfold ln;omega);refine must d ?_;exact zkF (λe=>g (by rw[e]))}
theorem zD5:vF 55 zwg:=hF2 zvB zbk zn zo zMA zLt
def zp3 (_ _:Kept):Bool:=true
def ztz (x y:Kept):Bool:=pc (x=y)
def zxX:Run:=rF2 (dT .kept) (dT .kept) λb c=>(zp3 b c,[aB<|ztz b c])
def zBh (N:Nat)(a b:Kept):OA:=
 (oN (zjF a.Known b.Known)<|cond (zl3 a.Known b.Known) (oN (zfN a.Slots b.Slots)<|some [aB<|zha a.Slots b.Slots]) oF)
theorem zOP (a b:Kept)(c:zp3 a b=true):∃N,zBh N a b=some [aB<|ztz a b]:=by refine⟨0,?_⟩;simp only[zBh,zjF,zl3,zfN,zha,pcI,pcN,pcB,pcE,pcA,zLT,zCQ,cT,cF,zui];exact zuj (by cases a;cases b;simp[Kept.mk.injEq,and_assoc])
theorem zHw:vF 341 zxX:=kF2 zvB zbk zn zo (zq []) zOP
def zor (_ _:Guest):Bool:=true
def zrR (x y:Guest):Bool:=pc (x=y)
def zwe:Run:=rF2 (dT .guest) (dT .guest) λb c=>(zor b c,[aB<|zrR b c])
def zzw (N:Nat)(a b:Guest):OA:=
 (oN (zp2 a.Prog b.Prog)<|cond (zty a.Prog b.Prog) (cond (ieq a.A b.A) (cond (ieq a.Pc b.Pc) (oN (zfN a.Written b.Written)<|cond (zha a.Written b.Written) (oN (zfN a.Live b.Live)<|cond (zha a.Live b.Live) (cond (cond (ieq a.Ctl.Traps b.Ctl.Traps) (cond (ieq a.Ctl.Post b.Ctl.Post) (zkD a.Ctl.Open b.Ctl.Open) false) false) (cond (ieq a.Pending b.Pending) (cond (cond (ieq a.Exit.Kind b.Exit.Kind) (cond (ieq a.Exit.Page b.Exit.Page) (cond (zkD a.Exit.Write b.Exit.Write) (ieq a.Exit.N b.Exit.N) false) false) false) (cond (zkD a.Halted b.Halted) (oN (zfC a.Seen b.Seen)<|some [aB<|zg9 a.Seen b.Seen]) oF) oF) oF) oF) oF) oF) oF) oF) oF)
theorem zLr (a b:Guest)(c:zor a b=true):∃N,zzw N a b=some [aB<|zrR a b]:=by refine⟨0,?_⟩;simp only[zzw,zp2,zty,zfN,zha,zfC,zg9,pcI,pcN,pcB,pcE,pcA,zLT,zCQ,cT,cF,zui];exact zuj (by cases a;cases b;simp[Guest.mk.injEq,and_assoc])
theorem zD3:vF 266 zwe:=kF2 zvB zbk zn zo (zq []) zLr
def z0Z:zY:=[(55,zwg),(341,zxX),(266,zwe)]++z0Y
theorem zB2:zK z0Z:=zf zD5 (zf zHw<|zf zD3 zvB)
def zos (_ _:List Kept):Bool:=true
def zrS (x y:List Kept):Bool:=pc (x=y)
def zwf:Run:=rF2 (dS .kept) (dS .kept) λb c=>(zos b c,[aB<|zrS b c])
def zzx (N:Nat)(b c:lK):OA:=
 (cond (ine (ln b)<|ln c) oF<|iter (σ:=(Int×lK×lK×Unit)) N (λf a=>let e:=ix a.2.1 a.1 zdC;let d:=ix a.2.2.1 a.1 zdC; (cond (ilt a.1<|ln a.2.1) (oN (inb a.1<|ln a.2.1)<|oN (inb a.1<|ln a.2.2.1)<|oN (zp3 e d)<|cond (nB<|ztz e d) oF<|f (zG .i64 a.1 1,a.2.1,a.2.2.1,())) oT)) (0,b,c,()))
def zMz:=zq [(269,0,{n:=27,tm:=[(0,.sl 0 []),(1,.sl 1 []),(5,ti)],lo:=[],ro:=[(0,.kept,false),(1,.kept,false)]})]
theorem zLs (a c:List Kept)(h:zbt big [aS .kept a,aS .kept c])(l:zos a c=true):∃N,zzx N a c=some [aB<|zrS a c]:=by
 have j:a.length<=big:=len0 h;have k:c.length<=big:=((zbv (zbv h).2).1 _ (qF.2 rfl)).len;refine⟨a.length+1,?_⟩;unfold zzx oN nB;conv=>zeta
 by_cases g:a.length=c.length;{have d:ine (ln a) (ln c)=false:=(by unfold ln;rw[g];exact zgj _);refine zbA d ?_;refine(zh3 a c zdC (λi=>(i,a,c,())) _ (some [.one<|.b true]) (some [.one<|.b false]) j g (λi f rec=>?_) (λrec=>?_)<|jV _).trans (ziN _);{dsimp only;simp only[zbf f,zO f,zO<|g ▸ f,zX f,zp3,ztz,pcI,pcN,pcB,pcE,pcA,zlO,zjG,zow,zkR,zov,cT,cF];first|exact ziO _|exact zgR _};{dsimp only;simp only[zbc,cF]}};{have d:ine (ln a) (ln c)=true:=zjV (by unfold ln;omega);refine must d ?_;exact zkF (λe=>g (by rw[e]))}
theorem zD4:vF 269 zwf:=hF2 zB2 zbk zn zo zMz zLs
def ziT (_ _:List Guest):Bool:=true
def zkM (x y:List Guest):Bool:=pc (x=y)
def zuX:Run:=rF2 (dS .guest) (dS .guest) λb c=>(ziT b c,[aB<|zkM b c])
def zw7 (N:Nat)(b c:lG):OA:=
 (cond (ine (ln b)<|ln c) oF<|iter (σ:=(Int×lG×lG×Unit)) N (λf a=>let e:=ix a.2.1 a.1 zu;let d:=ix a.2.2.1 a.1 zu; (cond (ilt a.1<|ln a.2.1) (oN (inb a.1<|ln a.2.1)<|oN (inb a.1<|ln a.2.2.1)<|oN (zor e d)<|cond (nB<|zrR e d) oF<|f (zG .i64 a.1 1,a.2.1,a.2.2.1,())) oT)) (0,b,c,()))
def zIF:=zq [(141,0,{n:=27,tm:=[(0,.sl 0 []),(1,.sl 1 []),(5,ti)],lo:=[],ro:=[(0,.guest,false),(1,.guest,false)]})]
theorem zH8 (a c:List Guest)(h:zbt big [aS .guest a,aS .guest c])(l:ziT a c=true):∃N,zw7 N a c=some [aB<|zkM a c]:=by
 have j:a.length<=big:=len0 h;have k:c.length<=big:=((zbv (zbv h).2).1 _ (qF.2 rfl)).len;refine⟨a.length+1,?_⟩;unfold zw7 oN nB;conv=>zeta
 by_cases g:a.length=c.length;{have d:ine (ln a) (ln c)=false:=(by unfold ln;rw[g];exact zgj _);refine zbA d ?_;refine(zh3 a c zu (λi=>(i,a,c,())) _ (some [.one<|.b true]) (some [.one<|.b false]) j g (λi f rec=>?_) (λrec=>?_)<|jV _).trans (ziN _);{dsimp only;simp only[zbf f,zO f,zO<|g ▸ f,zX f,zor,zrR,pcI,pcN,pcB,pcE,pcA,zlO,zjG,zow,zkR,zov,cT,cF];first|exact ziO _|exact zgR _};{dsimp only;simp only[zbc,cF]}};{have d:ine (ln a) (ln c)=true:=zjV (by unfold ln;omega);refine must d ?_;exact zkF (λe=>g (by rw[e]))}
theorem zCn:vF 141 zuX:=hF2 zB2 zbk zn zo zIF zH8
def z00:zY:=[(269,zwf),(141,zuX)]++z0Z
theorem zB3:zK z00:=zf zD4 (zf zCn zB2)
def zrT (_ _:Mon):Bool:=true
def zvY (x y:Mon):Bool:=pc (x=y)
def zz9:Run:=rF2 (dT .mon) (dT .mon) λb c=>(zrT b c,[aB<|zvY b c])
def zFf (N:Nat)(a b:Mon):OA:=
 (oN (zfN a.Outer b.Outer)<|cond (zha a.Outer b.Outer) (oN (zgC a.Out b.Out)<|cond (ziA a.Out b.Out) (oN (zjF a.Dirty b.Dirty)<|cond (zl3 a.Dirty b.Dirty) (oN (ziT a.Guests b.Guests)<|cond (zkM a.Guests b.Guests) (oN (zfC a.Outs b.Outs)<|cond (zg9 a.Outs b.Outs) (cond (ieq a.Pending b.Pending) (cond (ieq a.Traps b.Traps) (oN (zos a.Tables b.Tables)<|cond (zrS a.Tables b.Tables) (some [aB<|ieq a.Own b.Own]) oF) oF) oF) oF) oF) oF) oF) oF)
theorem zR4 (a b:Mon)(c:zrT a b=true):∃N,zFf N a b=some [aB<|zvY a b]:=by refine⟨0,?_⟩;simp only[zFf,zfN,zha,zgC,ziA,zjF,zl3,ziT,zkM,zfC,zg9,zos,zrS,pcI,pcN,pcB,pcE,pcA,zLT,zCQ,cT,cF,zui];exact zuj (by cases a;cases b;simp[Mon.mk.injEq,and_assoc])
theorem zKt:vF 142 zz9:=kF2 zB3 zbk zn zo (zq []) zR4
def zp1 (_ _:Bare):Bool:=true
def ztx (x y:Bare):Bool:=pc (x=y)
def zxT:Run:=rF2 (dT .bare) (dT .bare) λb c=>(zp1 b c,[aB<|ztx b c])
def zBd (N:Nat)(a b:Bare):OA:=
 (oN (zgC a.Memory b.Memory)<|cond (ziA a.Memory b.Memory) (oN (ziT a.Guests b.Guests)<|cond (zkM a.Guests b.Guests) (oN (zfC a.Outs b.Outs)<|cond (zg9 a.Outs b.Outs) (some [aB<|ieq a.Pending b.Pending]) oF) oF) oF)
theorem zOL (a b:Bare)(c:zp1 a b=true):∃N,zBd N a b=some [aB<|ztx a b]:=by refine⟨0,?_⟩;simp only[zBd,zgC,ziA,ziT,zkM,zfC,zg9,pcI,pcN,pcB,pcE,pcA,zLT,zCQ,cT,cF,zui];exact zuj (by cases a;cases b;simp[Bare.mk.injEq,and_assoc])
theorem zHs:vF 52 zxT:=kF2 zB3 zbk zn zo (zq []) zOL
def z01:zY:=[(142,zz9),(52,zxT)]++z00
theorem zB4:zK z01:=zf zKt (zf zHs zB3)
def zp4 (_ _:List Mon):Bool:=true
def ztA (x y:List Mon):Bool:=pc (x=y)
def zxY:Run:=rF2 (dS .mon) (dS .mon) λb c=>(zp4 b c,[aB<|ztA b c])
def zBi (N:Nat)(b c:lN):OA:=
 (cond (ine (ln b)<|ln c) oF<|iter (σ:=(Int×lN×lN×Unit)) N (λf a=>let e:=ix a.2.1 a.1 zh;let d:=ix a.2.2.1 a.1 zh; (cond (ilt a.1<|ln a.2.1) (oN (inb a.1<|ln a.2.1)<|oN (inb a.1<|ln a.2.2.1)<|oN (zrT e d)<|cond (nB<|zvY e d) oF<|f (zG .i64 a.1 1,a.2.1,a.2.2.1,())) oT)) (0,b,c,()))
def zPH:=zq [(56,0,{n:=27,tm:=[(0,.sl 0 []),(1,.sl 1 []),(5,ti)],lo:=[],ro:=[(0,.mon,false),(1,.mon,false)]})]
theorem zOQ (a c:List Mon)(h:zbt big [aS .mon a,aS .mon c])(l:zp4 a c=true):∃N,zBi N a c=some [aB<|ztA a c]:=by
 have j:a.length<=big:=len0 h;have k:c.length<=big:=((zbv (zbv h).2).1 _ (qF.2 rfl)).len;refine⟨a.length+1,?_⟩;unfold zBi oN nB;conv=>zeta
 by_cases g:a.length=c.length;{have d:ine (ln a) (ln c)=false:=(by unfold ln;rw[g];exact zgj _);refine zbA d ?_;refine(zh3 a c zh (λi=>(i,a,c,())) _ (some [.one<|.b true]) (some [.one<|.b false]) j g (λi f rec=>?_) (λrec=>?_)<|jV _).trans (ziN _);{dsimp only;simp only[zbf f,zO f,zO<|g ▸ f,zX f,zrT,zvY,pcI,pcN,pcB,pcE,pcA,zlO,zjG,zow,zkR,zov,cT,cF];first|exact ziO _|exact zgR _};{dsimp only;simp only[zbc,cF]}};{have d:ine (ln a) (ln c)=true:=zjV (by unfold ln;omega);refine must d ?_;exact zkF (λe=>g (by rw[e]))}
theorem zHx:vF 56 zxY:=hF2 zB4 zbk zn zo zPH zOQ
def zoq (_ _:List Bare):Bool:=true
def zrQ (x y:List Bare):Bool:=pc (x=y)
def zqa:Run:=rF2 (dS .bare) (dS .bare) λb c=>(zoq b c,[aB<|zrQ b c])
def zzu (N:Nat)(b c:lR):OA:=
 (cond (ine (ln b)<|ln c) oF<|iter (σ:=(Int×lR×lR×Unit)) N (λf a=>let e:=ix a.2.1 a.1 zcO;let d:=ix a.2.2.1 a.1 zcO; (cond (ilt a.1<|ln a.2.1) (oN (inb a.1<|ln a.2.1)<|oN (inb a.1<|ln a.2.2.1)<|oN (zp1 e d)<|cond (nB<|ztx e d) oF<|f (zG .i64 a.1 1,a.2.1,a.2.2.1,())) oT)) (0,b,c,()))
def zMx:=zq [(16,0,{n:=27,tm:=[(0,.sl 0 []),(1,.sl 1 []),(5,ti)],lo:=[],ro:=[(0,.bare,false),(1,.bare,false)]})]
theorem zLp (a c:List Bare)(h:zbt big [aS .bare a,aS .bare c])(l:zoq a c=true):∃N,zzu N a c=some [aB<|zrQ a c]:=by
 have j:a.length<=big:=len0 h;have k:c.length<=big:=((zbv (zbv h).2).1 _ (qF.2 rfl)).len;refine⟨a.length+1,?_⟩;unfold zzu oN nB;conv=>zeta
 by_cases g:a.length=c.length;{have d:ine (ln a) (ln c)=false:=(by unfold ln;rw[g];exact zgj _);refine zbA d ?_;refine(zh3 a c zcO (λi=>(i,a,c,())) _ (some [.one<|.b true]) (some [.one<|.b false]) j g (λi f rec=>?_) (λrec=>?_)<|jV _).trans (ziN _);{dsimp only;simp only[zbf f,zO f,zO<|g ▸ f,zX f,zp1,ztx,pcI,pcN,pcB,pcE,pcA,zlO,zjG,zow,zkR,zov,cT,cF];first|exact ziO _|exact zgR _};{dsimp only;simp only[zbc,cF]}};{have d:ine (ln a) (ln c)=true:=zjV (by unfold ln;omega);refine must d ?_;exact zkF (λe=>g (by rw[e]))}
theorem ztd:vF 16 zqa:=hF2 zB4 zbk zn zo zMx zLp
def z8h:zY:=[(56,zxY),(16,zqa)]++z01
theorem z02:zK z8h:=zf zHx (zf ztd zB4)
def zuK (_ _:Host):Bool:=true
def zyQ (x y:Host):Bool:=pc (x=y)
def zxU:Run:=rF2 dH dH λb c=>(zuK b c,[aB<|zyQ b c])
def zBe (N:Nat)(a b:Host):OA:=
 (oN (zgC a.Memory b.Memory)<|cond (ziA a.Memory b.Memory) (oN (zp4 a.Mons b.Mons)<|cond (ztA a.Mons b.Mons) (oN (zkL a.Buffer b.Buffer)<|cond (zmM a.Buffer b.Buffer) (oN (zkL a.IoBuffer b.IoBuffer)<|some [aB<|zmM a.IoBuffer b.IoBuffer]) oF) oF) oF)
theorem zOM (a b:Host)(c:zuK a b=true):∃N,zBe N a b=some [aB<|zyQ a b]:=by refine⟨0,?_⟩;simp only[zBe,zgC,ziA,zp4,ztA,zkL,zmM,pcI,pcN,pcB,pcE,pcA,zLT,zCQ,cT,cF,zui];exact zuj (by cases a;cases b;simp[Host.mk.injEq,and_assoc])
theorem zHt:vF 23 zxU:=kF2 z02 zbk zn zo (zq []) zOM
def brought (n a b:Int):Int:=bif ilt n a then a else (cond (ilt b a) a<|zcJ n b)
@[simp] abbrev zkh (_ _ _:Int):Bool:=true
@[simp] abbrev zix (n a b:Int):Int:=brought n a b
def zjH:Run:=rF3 dI dI dI λb c d=>(zkh b c d,[aI<|zix b c d])
def zEV (N:Nat)(b a c:Int):OA:=
 (cond (ilt b a) (some [aI a])<|cond (ilt c a) (some [aI a])<|some [aI<|zcJ b c])
theorem zRJ (a b c:Int)(d:zkh a b c=true):∃N,zEV N a b c=some [aI<|zix a b c]:=by refine⟨0,?_⟩;unfold zEV;refine br (λ_=>?_) (λ_=>br (λ_=>?_) λ_=>?_);all_goals first|rfl|(simp only [*,zix,brought,cT,cF]<;>rfl)|simp_all[Ty.cells,zix,brought]
theorem zvR:vF 193 zjH:=kF3 zke zl zn zo (zq []) zRJ
def zFn (N:Nat)(b a c:Int):OA:=
 (cond (ilt c a) (some [aI a])<|cond (ilt b a) (some [aI a])<|cond (igt b c) (some [aI c])<|some [aI b])
theorem zSb (a b c:Int)(g:zkh a b c=true):∃N,zFn N a b c=some [aI<|zix a b c]:=by refine⟨0,?_⟩;unfold zFn;unfold zix brought zcJ;cases d:ilt c b<;>cases e:ilt a b<;>cases f:igt a c<;>simp [igt] at * <;> omega
theorem zvW:vF 143 zjH:=kF3 zke zl zn zo (zq []) zSb
@[simp] abbrev zjD (l:List Bare):Bool:=pc (znT l)
@[simp] abbrev zck (l:List Bare):List Bare:=l
def zml:Run:=rF1 (dS .bare) λb=>(zjD b,[aS .bare<|zck b])
def zzr (N:Nat)(c:lR):OA:=
 (iter (σ:=(Int×Int×lR×lR×Unit)) N (λd a=>let b:=ix a.2.2.2.1 a.2.1 zcO; (cond (ilt a.2.1 a.1) (oN (inb a.2.1<|ln a.2.2.2.1)<|oN (zQ b)<|oN (few<|ln<|ap a.2.2.1 [zI b])<|d (a.1,zG .i64 a.2.1 1,ap a.2.2.1 [zI b],a.2.2.2.1,()))<|some [aS .bare a.2.2.1])) (ln c,0,[],c,()))
def zMw:=zq [(85,0,{n:=20,tm:=[(3,.sl 0 []),(7,.sl 1 []),(8,ti),(9,ti)],lo:=[],ro:=[(0,.bare,true),(1,.bare,false)]})]
theorem zLl (a:List Bare)(g:zjD a=true):∃N,zzr N a=some [aS .bare<|zck a]:=by
 have f:=zB.1 g;have e:=zbV f.1;refine zbG λN d=>?_;unfold zzr oN;conv=>zeta
 refine(zW a (λi (t:lR)=>(ln a,(i:Int),t,a,())) _ (λ_ x b j=>bif zQ x then (cond (few<|ln<|ap b [zI x]) (j<|ap b [zI x]) none) else none) (λ(t:lR)=>some [.one<|.s .bare t]) (λi c t rec=>?_) (λt rec=>?_) _ ([])<|d e.1).trans ?_;{simp only [zbf c,zO c,zX c,zV c e.1,cT]};{simp only [zbc,cF]};exact zi1 zQ zI _ a 0 [] (λx h=>⟨zN<|f.2 x h,rfl⟩) (by simpa using e.2)
theorem zDY:vF 85 zml:=kF1 zke zl zn zo zMw zLl
def zBG (N:Nat)(c:lR):OA:=
 (iter (σ:=(Int×lR×lR×Unit)) N (λd a=>let b:=ix a.2.1 a.1 zcO; (cond (ilt a.1<|ln a.2.1) (oN (inb a.1<|ln a.2.1)<|oN (zQ b)<|oN (few<|ln<|ap a.2.2.1 [zI b])<|d (zG .i64 a.1 1,a.2.1,ap a.2.2.1 [zI b],()))<|some [aS .bare a.2.2.1])) (0,c,[],()))
def zPP:=zq [(91,0,{n:=21,tm:=[(0,.sl 0 []),(3,.sl 1 []),(4,ti)],lo:=[],ro:=[(0,.bare,false),(1,.bare,true)]})]
theorem zO9 (a:List Bare)(g:zjD a=true):∃N,zBG N a=some [aS .bare<|zck a]:=by
 have f:=zB.1 g;have e:=zbV f.1;refine zbG λN d=>?_;unfold zBG oN;conv=>zeta
 refine(zW a (λi (t:lR)=>((i:Int),a,t,())) _ (λ_ x b j=>bif zQ x then (cond (few<|ln<|ap b [zI x]) (j<|ap b [zI x]) none) else none) (λ(t:lR)=>some [.one<|.s .bare t]) (λi c t rec=>?_) (λt rec=>?_) _ ([])<|d e.1).trans ?_;{simp only [zbf c,zO c,zX c,zV c e.1,cT]};{simp only [zbc,cF]};exact zi1 zQ zI _ a 0 [] (λx h=>⟨zN<|f.2 x h,rfl⟩) (by simpa using e.2)
theorem zHS:vF 91 zml:=kF1 zke zl zn zo zPP zO9
structure RI (a:List Bare) (i:Nat) (l:List Bare):Prop where
 len:l.length=a.length
 sm:znT l
 eq:∀k,i<=k->l[k]?=a[k]?
theorem RI.up {a l:List Bare}{i:Nat}(h:RI a i l)(x:Bare)(b:SmB x):RI a (i+1) (up l (i:Int) x):=
 ⟨by rw[zf4];exact h.len,zYn h.sm b,λk c=>by rw[z8r (by omega)];exact h.eq k (by omega)⟩
structure RJ (l:List Bare) (i:Nat) (l':List Bare):Prop where
 len:l'.length=l.length
 sm:SmB (ix l' (i:Int) zcO)
 up:∀x,E.up l' (i:Int) x=E.up l (i:Int) x
theorem RJ.next {l a:List Bare}{i:Nat}(h:RJ l i a)(b:i<l.length)(x:Bare)(c:SmB x):RJ l i (E.up a (i:Int) x):=
 ⟨by rw[zf4];exact h.len,by rw[zdE (by rw[h.len];exact b)];exact c,λy=>by rw[zqV];exact h.up y⟩
end
end Go.Proofs.YtnnmbkjhakbicaaGreat.E
