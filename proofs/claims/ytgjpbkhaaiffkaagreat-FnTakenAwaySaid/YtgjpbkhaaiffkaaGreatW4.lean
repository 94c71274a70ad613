/- What is proved here: a part of the proof that the statement of this claim holds (several texts of wip/, laid together). -/
import Derived.Test.YtgjpbkhaaiffkaaGreatW3
namespace Go.Proofs.YtgjpbkhaaiffkaaGreat.E
open Go
set_option linter.constructorNameAsVariable false
set_option linter.unusedVariables false
set_option maxRecDepth 100000
set_option linter.unusedSimpArgs false
set_option linter.unusedSectionVars false
noncomputable section
theorem must {d:Type}{c:Bool}{a b r:Option d}(h:c=true)(k:a=r):(cond c a b)=r:=by rw[h];exact k
theorem mu {d:Type}{c:Bool}{a b r:Option d}(k:a=r)(h:c=true:=by first|assumption|(simp_all<;>omega)):(cond c a b)=r:=must h k
theorem zcQ {d:Type}{c:Bool}{a b r:Option d}(h:c=false)(k:b=r):(cond c a b)=r:=by rw[h];exact k
theorem br {f:Type}{c:Bool}{a b r:Option f}(d:c=true->a=r)(e:c=false->b=r):(cond c a b)=r:=by cases c;{exact e rfl};{exact d rfl}
theorem brN {f:Type}{c:Bool}{a b r:Option f}(d:c=false->a=r)(e:c=true->b=r):(cond (cond c false true) a b)=r:=by cases c;{exact d rfl};{exact e rfl}
theorem shr {a b:Type}{x:a}{f:a->Option b}{r:Option b}(h:f x=r):share x f=r:=h
theorem ziq {e:Type}{c p:Bool}{a b:Option e}(d:c=true):(cond c (cond (cond p false true) a b) none)=bif p then b else a:=by rw[d];cases p<;>rfl
attribute [simp] zJ
@[simp] theorem z6i {a:Type}(l:List a):(few (ln l)=true)↔l.length<=2147483648:=by unfold few ln;rw[decide_eq_true_iff];omega
@[simp] theorem z9v {a:Type}(l m:List a):(ap l m).length=l.length+m.length:=by simp[ap]
attribute [simp] zh6 zg5
@[simp] theorem z4D (n:Nat)(k:IntKind)(x:Int):CVB n (.i k x)↔True:=⟨λ_=>trivial,λ_=>.i k x⟩
@[simp] theorem z9B (n:Nat)(x:Bool):CVB n (.b x)↔True:=⟨λ_=>trivial,λ_=>.b x⟩
theorem zlo {n:Nat}{t:Ty}(l:List t.den):CVB n (.s t l)↔l.length<=n/\∀x∈l,∀c∈t.cells x,CVB n c:=⟨λh=>h.inv,λh=>.s t l h.1 h.2⟩
@[simp] theorem zVE (n:Nat)(l:List Int):CVB n (.s .int l)↔l.length<=n:=by rw[zlo];simp[Ty.cells]
@[simp] theorem z7J (n:Nat)(l:List Int):CVB n (.s .u8 l)↔l.length<=n:=by rw[zlo];simp[Ty.cells]
@[simp] theorem z1R (n:Nat)(l:List Bool):CVB n (.s .bool l)↔l.length<=n:=by rw[zlo];simp[Ty.cells]
@[simp] theorem z1T (n:Nat)(l:List Slot):CVB n (.s .slot l)↔l.length<=n:=by rw[zlo];simp[Ty.cells]
@[simp] theorem z5Z (n:Nat)(l:List Ins):CVB n (.s .ins l)↔l.length<=n:=by rw[zlo];simp[Ty.cells]
@[simp] theorem zZm (n:Nat)(l:List Entry):CVB n (.s .entry l)↔l.length<=n:=by rw[zlo];simp[Ty.cells]
@[simp] theorem z5Y (n:Nat)(l:List GAct):CVB n (.s .act l)↔l.length<=n:=by rw[zlo];simp[Ty.cells]
@[simp] theorem z1U (n:Nat)(l:List Told):CVB n (.s .told l)↔l.length<=n:=by rw[zlo];simp[Ty.cells]
def SmM (m:List (List Int)):Prop:=m.length<=1048576/\∀x∈m,x.length<=1048576
def SmG (g:Guest):Prop:=g.Prog.length<=1048576/\g.Written.length<=1048576/\g.Live.length<=1048576/\g.Seen.length<=1048576
def zmR (l:List Guest):Prop:=l.length<=1048576/\∀x∈l,SmG x
def SmB (b:Bare):Prop:=SmM b.Memory/\zmR b.Guests/\b.Outs.length<=1048576
def zWK (l:List Bare):Prop:=l.length<=1048576/\∀x∈l,SmB x
theorem z3d:sm=1048576:=rfl
@[simp] theorem zXa (l:List Int):CVB sm (.s .int l)↔l.length<=1048576:=zVE sm l
@[simp] theorem z81 (l:List Int):CVB sm (.s .u8 l)↔l.length<=1048576:=z7J sm l
@[simp] theorem zUg (l:List Bool):CVB sm (.s .bool l)↔l.length<=1048576:=z1R sm l
@[simp] theorem zUh (l:List Slot):CVB sm (.s .slot l)↔l.length<=1048576:=z1T sm l
@[simp] theorem z8D (l:List Ins):CVB sm (.s .ins l)↔l.length<=1048576:=z5Z sm l
@[simp] theorem zRe (l:List Entry):CVB sm (.s .entry l)↔l.length<=1048576:=zZm sm l
@[simp] theorem z8C (l:List GAct):CVB sm (.s .act l)↔l.length<=1048576:=z5Y sm l
@[simp] theorem z8s (l:List Told):CVB sm (.s .told l)↔l.length<=1048576:=z1U sm l
@[simp] theorem zpk (l:List (List Int)):CVB sm (.s (.sl .int) l)↔SmM l:=by rw[zlo];simp[Ty.cells,SmM,z3d]
@[simp] theorem z5D (g:Guest):(∀c∈Ty.cells .guest g,CVB sm c)↔SmG g:=by simp[Ty.cells,SmG,z3d]
@[simp] theorem ztS (l:List Guest):CVB sm (.s .guest l)↔zmR l:=by rw[zlo];simp only[z5D];rfl
@[simp] theorem z5C (b:Bare):(∀c∈Ty.cells .bare b,CVB sm c)↔SmB b:=by simp only[Ty.cells,qG,qW,or_false,vM,forall_eq,zpk,ztS,zVE,z4D,and_true];rfl
@[simp] theorem z9b (l:List Bare):CVB sm (.s .bare l)↔zWK l:=by rw[zlo];simp only[z5C];rfl
@[simp] theorem z9y (a:List Ins)(b c:Int)(d e:List Slot)(f:Ctl)(g:Int)(h:GExit)(i:Bool)(j:List Int):SmG ⟨a,b,c,d,e,f,g,h,i,j⟩↔a.length<=1048576/\d.length<=1048576/\e.length<=1048576/\j.length<=1048576:=Iff.rfl
@[simp] theorem z9x (m:List (List Int))(g:List Guest)(o:List Int)(p:Int):SmB ⟨m,g,o,p⟩↔SmM m/\zmR g/\o.length<=1048576:=Iff.rfl
theorem zJY {m:List (List Int)}{i:Int}{x:List Int}(h:SmM m)(b:x.length<=1048576):SmM (up m i x):=by refine⟨by simpa using h.1,λy a=>?_⟩;rcases q0 a with a|rfl;{exact h.2 y a};{exact b}
theorem zCd {m:List Guest}{i:Int}{x:Guest}(h:zmR m)(b:SmG x):zmR (up m i x):=by refine⟨by simpa using h.1,λy a=>?_⟩;rcases q0 a with a|rfl;{exact h.2 y a};{exact b}
theorem z6Z {m:List Bare}{i:Int}{x:Bare}(h:zWK m)(b:SmB x):zWK (up m i x):=by refine⟨by simpa using h.1,λy a=>?_⟩;rcases q0 a with a|rfl;{exact h.2 y a};{exact b}
theorem zTm {l:List Guest}{i:Int}(h:zmR l)(a:hasB i (ln l)=true)(d:Guest):SmG (ix l i d):=h.2 _ (zbv a d)
theorem z8m {l:List (List Int)}{i:Int}(h:SmM l)(a:hasB i (ln l)=true)(d:List Int):(ix l i d).length<=1048576:=h.2 _ (zbv a d)
@[simp] theorem z8U:SmG zl:=⟨by decide,by decide,by decide,by decide⟩
@[simp] theorem zQn (x a b:Int):zi x a b=zi x a b:=rfl
@[simp] theorem zRL (i n:Int):inb i n=hasB i n:=rfl
attribute [simp] zcq
@[simp] theorem zpT {a:Type}{l:List a}(h:l.length<=1048576)(i:Int):zi i 0 (wsub .i64 (ln l) 1)=hasB i (ln l):=zAI (zcu h).1 i
theorem zGB {a:Type}{l:List a}(h:l.length<=big)(i:Int):zi i 0 (wsub .i64 (ln l) 1)=hasB i (ln l):=zAI h i
theorem zfj {x a b:Int}:(zi x a b=true)↔a<=x/\x<=b:=by unfold zi ige ile;simp only[qE,decide_eq_true_iff]
theorem z6p (a b:Int):ilt a b = !ige a b:=by unfold ilt ige;by_cases h:a<b;{rw [qK h,qI (by omega)];rfl};{rw [qI h,qK (by omega)];rfl}
attribute [simp] zU zU zgp zgp zgF zgF zcF zcF zd7 zd7 zm4 zm4 zbA zbA
attribute [simp] zeY zc2 zgs zdP
attribute [simp] zgq zdD zf1 zdQ
def zbb (a:Int):Int:=bif ilt a 0 then -1 else zNa .i64 a 4
def zdh (a:Int):Int:=bif ilt a 0 then -1 else zlc a 4
@[simp] abbrev zbL (a:Int):Bool:=true
@[simp] abbrev zbP (a:Int):Int:=zbb a
def zlF:Run:=rF1 dI λb=>(zbL b,[aI<|zbP b])
def zzC (N:Nat)(a:Int):OA:=
 (cond (ilt a 0) (some [aI<|-1])<|oN (ine 4 0)<|some [aI<|zNa .i64 a 4])
theorem zv1 (a:Int)(b:zbB big [aI a])(c:zbL a=true):∃N,zzC N a=some [aI<|zbP a]:=by refine⟨0,?_⟩;unfold zzC oN;refine br (λ_=>?_) (λ_=>must rfl ?_);all_goals first|rfl|(simp only [*,zbP,zbb,cT,cF]<;>rfl)|simp_all[Ty.cells,zbP,zbb]
theorem zFA:vQ 207 zlF:=hF1 zdb zq zo zu (zx []) zv1
theorem zFj:vQ 73 zlF:=hF1 zdb zq zo zu (zx []) zv1
@[simp] abbrev zc0 (a:Int):Int:=zdh a
def zlE:Run:=rF1 dI λb=>(zbL b,[aI<|zc0 b])
def zzB (N:Nat)(a:Int):OA:=
 (cond (ilt a 0) (some [aI<|-1])<|oN (ine 4 0)<|some [aI<|zlc a 4])
theorem zv0 (a:Int)(b:zbB big [aI a])(c:zbL a=true):∃N,zzB N a=some [aI<|zc0 a]:=by refine⟨0,?_⟩;unfold zzB oN;refine br (λ_=>?_) (λ_=>must rfl ?_);all_goals first|rfl|(simp only [*,zc0,zdh,cT,cF]<;>rfl)|simp_all[Ty.cells,zc0,zdh]
theorem zFz:vQ 212 zlE:=hF1 zdb zq zo zu (zx []) zv0
theorem zFi:vQ 78 zlE:=hF1 zdb zq zo zu (zx []) zv0
def zbY (w:Bool):Int:=bif w then 2 else 1
@[simp] abbrev zjL (w:Bool):Bool:=true
@[simp] abbrev zcW (w:Bool):Int:=zbY w
def zoh:Run:=rF1 dB λb=>(zjL b,[aI<|zcW b])
def zG7 (N:Nat)(a:Bool):OA:=
 (cond a (some [aI 2])<|some [aI 1])
theorem zAP (a:Bool)(b:zbB big [aB a])(c:zjL a=true):∃N,zG7 N a=some [aI<|zcW a]:=by refine⟨0,?_⟩;unfold zG7;refine br (λ_=>?_) (λ_=>?_);all_goals first|rfl|(simp only [*,zcW,zbY,cT,cF]<;>rfl)|simp_all[Ty.cells,zcW,zbY]
theorem zLq:vQ 208 zoh:=hF1 zdb zq zo zu (zx []) zAP
theorem zKX:vQ 74 zoh:=hF1 zdb zq zo zu (zx []) zAP
def zqG (p:Int)(w:Bool):GExit:=⟨1,p,w,0⟩
def zsB (n:Int):GExit:=⟨2,0,false,n⟩
def zwb (n:Int):GExit:=⟨3,0,false,n⟩
@[simp] abbrev zgX (p:Int)(w:Bool):Bool:=true
@[simp] abbrev ze4 (p:Int)(w:Bool):GExit:=zqG p w
def zkq:Run:=rF2 dI dB λb c=>(zgX b c,[.agg<|zxc<|ze4 b c])
def zyd (N:Nat)(a:Int)(c:Bool):OA:=
 (some [.agg [.i .i64 1,.i .i64 a,.b c,.i .i64 0]])
theorem zt9 (a:Int)(b:Bool)(c:zbB big [aI a,aB b])(d:zgX a b=true):∃N,zyd N a b=some [.agg<|zxc<|ze4 a b]:=by refine⟨0,?_⟩;unfold zyd;first|rfl|(simp only [*,ze4,cT,cF]<;>rfl)|simp_all[Ty.cells,ze4]
theorem zCu:vQ 210 zkq:=hF2 zdb zq zo zu (zx []) zt9
theorem zCi:vQ 76 zkq:=hF2 zdb zq zo zu (zx []) zt9
@[simp] abbrev zfO (n:Int):Bool:=true
@[simp] abbrev zha (n:Int):GExit:=zsB n
def zlG:Run:=rF1 dI λb=>(zfO b,[.agg<|zxc<|zha b])
def zzF (N:Nat)(a:Int):OA:=
 (some [.agg [.i .i64 2,.i .i64 0,.b false,.i .i64 a]])
theorem zv2 (a:Int)(b:zbB big [aI a])(c:zfO a=true):∃N,zzF N a=some [.agg<|zxc<|zha a]:=by refine⟨0,?_⟩;unfold zzF;first|rfl|(simp only [*,zha,cT,cF]<;>rfl)|simp_all[Ty.cells,zha]
theorem zFC:vQ 298 zlG:=hF1 zdb zq zo zu (zx []) zv2
theorem zFl:vQ 182 zlG:=hF1 zdb zq zo zu (zx []) zv2
@[simp] abbrev zjj (n:Int):GExit:=zwb n
def zmG:Run:=rF1 dI λb=>(zfO b,[.agg<|zxc<|zjj b])
def zDz (N:Nat)(a:Int):OA:=
 (some [.agg [.i .i64 3,.i .i64 0,.b false,.i .i64 a]])
theorem zyt (a:Int)(b:zbB big [aI a])(c:zfO a=true):∃N,zDz N a=some [.agg<|zxc<|zjj a]:=by refine⟨0,?_⟩;unfold zDz;first|rfl|(simp only [*,zjj,cT,cF]<;>rfl)|simp_all[Ty.cells,zjj]
theorem zIt:vQ 300 zmG:=hF1 zdb zq zo zu (zx []) zyt
theorem zH8:vQ 275 zmG:=hF1 zdb zq zo zu (zx []) zyt
def zdH (t x:Int):Bool:=bif zi t 0 3 then (cond (zi x 1 2) (ine (wand .i64 t x) 0) false) else false
theorem z5j (x:Int):zi x 1 2=(ieq x 1||ieq x 2):=by have h:(zi x 1 2=true)↔(ieq x 1||ieq x 2)=true:=(by rw[zfj];simp only[ieq,kA,qM];omega);cases a:zi x 1 2<;>cases b:(ieq x 1||ieq x 2)<;>simp_all
@[simp] abbrev zfA (t x:Int):Bool:=true
@[simp] abbrev zeX (t x:Int):Bool:=zdH t x
def zmF:Run:=rF2 dI dI λb c=>(zfA b c,[aB<|zeX b c])
def zDr (N:Nat)(a b:Int):OA:=
 (oN (zG a 0 3)<|cond (zi a 0 3) (oN (zG b 1 2)<|cond (zi b 1 2) (some [aB<|ine (wand .i64 a b) 0]) oF) oF)
theorem zPp (a b:Int)(c:zfA a b=true):∃N,zDr N a b=some [aB<|zeX a b]:=by refine⟨0,?_⟩;unfold zDr oN;refine must rfl (br (λ_=>must rfl (br (λ_=>?_) λ_=>?_)) λ_=>?_);all_goals first|rfl|(simp only [*,zeX,zdH,cT,cF]<;>rfl)|simp_all[Ty.cells,zeX,zdH]
theorem zIk:vQ 299 zmF:=kF2 zdb zq zo zu (zx []) zPp
def zDb (N:Nat)(a b:Int):OA:=
 let c:=aB<|ine (wand .i64 a b) 0; (oN (zG a 0 3)<|cond (zi a 0 3) (cond (ieq b 1) (some [c])<|cond (ieq b 2) (some [c]) oF) oF)
theorem zPb (a b:Int)(c:zfA a b=true):∃N,zDb N a b=some [aB<|zeX a b]:=by
 refine⟨0,?_⟩;unfold zDb oN;conv=>zeta
 refine must rfl (br (λ_=>br (λ_=>?_) λ_=>br (λ_=>?_) λ_=>?_) λ_=>?_);all_goals first|rfl|(simp only [*,zeX,zdH,z5j,cT,cF]<;>rfl)|simp_all[Ty.cells,zeX,zdH,z5j]
theorem zH7:vQ 183 zmF:=kF2 zdb zq zo zu (zx []) zPb
def zdu (p:Int):Bool:=zi p 0 255
@[simp] abbrev zb2 (p:Int):Bool:=true
@[simp] abbrev zeo (p:Int):Bool:=zdu p
def zol:Run:=rF1 dI λb=>(zb2 b,[aB<|zeo b])
def zHc (N:Nat)(a:Int):OA:=
 (oN (zG a 0 255)<|some [aB<|zi a 0 255])
theorem zAR (a:Int)(b:zbB big [aI a])(c:zb2 a=true):∃N,zHc N a=some [aB<|zeo a]:=by refine⟨0,?_⟩;unfold zHc oN;refine must rfl ?_;first|rfl|(simp only [*,zeo,zdu,cT,cF]<;>rfl)|simp_all[Ty.cells,zeo,zdu]
theorem zLv:vQ 294 zol:=hF1 zdb zq zo zu (zx []) zAR
theorem zK3:vQ 258 zol:=hF1 zdb zq zo zu (zx []) zAR
def zb8 (l:List Ins)(p:Int):Ins:=bif hasB p (ln l) then ix l p zqz else ⟨7,0⟩
@[simp] abbrev zdw (l:List Ins)(p:Int):Bool:=true
@[simp] abbrev zdn (l:List Ins)(p:Int):Ins:=zb8 l p
def zqf:Run:=rF2 (dS .ins) dI λb c=>(zdw b c,[aT .ins<|zdn b c])
def zNn (N:Nat)(a:lI)(b:Int):OA:=
 (oN (zG b 0<|wsub .i64 (ln a) 1)<|cond (nB<|zi b 0<|wsub .i64 (ln a) 1) (some [.agg [.i .i64 7,.i .i64 0]])<|oN (inb b<|ln a)<|some [.agg [.i .i64 (ix a b zqz).Op,.i .i64 (ix a b zqz).X]])
theorem zUH (a:List Ins)(b:Int)(c:zbB big [aS .ins a,aI b])(e:zdw a b=true):∃N,zNn N a b=some [aT .ins<|zdn a b]:=by have d:=((zcv c).1 _ (qF.2 rfl)).len;have f:=zGB d;refine⟨0,?_⟩;unfold zNn oN nB;refine must rfl (brN (λ_=>?_) λ_=>mu ?_);all_goals first|rfl|(simp only [*,zdn,zb8,cT,cF]<;>rfl)|simp_all[Ty.cells,zdn,zb8]
theorem zOW:vQ 218 zqf:=hF2 zdb zq zo zu (zx []) zUH
def zNc (N:Nat)(a:lI)(b:Int):OA:=
 (oN (zbg b<|ln a)<|cond (nB<|zcq b<|ln a) (some [.agg [.i .i64 7,.i .i64 0]])<|oN (inb b<|ln a)<|some [.agg [.i .i64 (ix a b zqz).Op,.i .i64 (ix a b zqz).X]])
theorem zUw (a:List Ins)(b:Int)(c:zdw a b=true):∃N,zNc N a b=some [aT .ins<|zdn a b]:=by refine⟨0,?_⟩;unfold zNc oN nB;refine must rfl (brN (λ_=>?_) λ_=>mu ?_);all_goals first|rfl|(simp only [*,zdn,zb8,cT,cF]<;>rfl)|simp_all[Ty.cells,zdn,zb8]
theorem zOJ:vQ 166 zqf:=kF2 zdb zq zo zu (zx []) zUw
def ze8 (w:Int):Int:=bif ieq w 5 then 1 else 2
@[simp] abbrev znT (w:Int):Bool:=true
@[simp] abbrev zhL (w:Int):Int:=ze8 w
def zBg:Run:=rF1 dI λb=>(znT b,[aI<|zhL b])
def zGW (N:Nat)(a:Int):OA:=
 (cond (ieq a 5) (some [aI 1])<|some [aI 2])
theorem zSb (a:Int)(b:znT a=true):∃N,zGW N a=some [aI<|zhL a]:=by refine⟨0,?_⟩;unfold zGW;refine br (λ_=>?_) (λ_=>?_);all_goals first|rfl|(simp only [*,zhL,ze8,cT,cF]<;>rfl)|simp_all[Ty.cells,zhL,ze8]
theorem zLe:vQ 172 zBg:=kF1 zdb zq zo zu (zx []) zSb
def zdT (s:Slot)(n:Int):Bool:=bif zct s noSlot then true else (cond (igt n 0) (cond (zi s.Page 0<|wsub .i64 n 1) (zi s.Rights 1 3) false) false)
@[simp] abbrev zlQ (s:Slot)(n:Int):Bool:=true
@[simp] abbrev ziy (s:Slot)(n:Int):Bool:=zdT s n
def zoo:Run:=rF2 (dT .slot) dI λb c=>(zlQ b c,[aB<|ziy b c])
def zHg (N:Nat)(a:Slot)(b:Int):OA:=
 (oN zbA<|cond (cond (ieq a.Page zU.Page) (ieq a.Rights zU.Rights) false) oT<|oN (zG a.Page 0<|wsub .i64 b 1)<|cond (zi a.Page 0<|wsub .i64 b 1) (cond (igt b 0) (oN (zG a.Rights 1 3)<|some [aB<|zi a.Rights 1 3]) oF) oF)
theorem zSr (a:Slot)(b:Int)(c:zlQ a b=true):∃N,zHg N a b=some [aB<|ziy a b]:=by refine⟨0,?_⟩;unfold zHg oN;refine must rfl (br (λ_=>?_) λ_=>must rfl (br (λ_=>br (λ_=>must rfl ?_) λ_=>?_) λ_=>?_));all_goals first|rfl|(simp only [*,ziy,zdT,zct,cT,cF]<;>rfl)|simp_all[Ty.cells,ziy,zdT,zct]
theorem zLz:vQ 220 zoo:=kF2 zdb zq zo zu (zx []) zSr
def zGR (N:Nat)(a:Slot)(b:Int):OA:=
 (oN zbA<|cond (cond (ieq a.Page zU.Page) (ieq a.Rights zU.Rights) false) oT<|cond (igt b 0) (oN (zG a.Page 0<|wsub .i64 b 1)<|cond (zi a.Page 0<|wsub .i64 b 1) (oN (zG a.Rights 1 3)<|some [aB<|zi a.Rights 1 3]) oF) oF)
theorem zR6 (a:Slot)(b:Int)(c:zlQ a b=true):∃N,zGR N a b=some [aB<|ziy a b]:=by refine⟨0,?_⟩;unfold zGR oN;refine must rfl (br (λ_=>?_) λ_=>br (λ_=>must rfl (br (λ_=>must rfl ?_) λ_=>?_)) λ_=>?_);all_goals first|rfl|(simp only [*,ziy,zdT,zct,cT,cF]<;>rfl)|simp_all[Ty.cells,ziy,zdT,zct]
theorem zK8:vQ 232 zoo:=kF2 zdb zq zo zu (zx []) zR6
@[simp] abbrev zgU (l:List Slot):Bool:=pc (l.length<=2147483648)
@[simp] abbrev zfx (l:List Slot):List Slot:=l
def zum:Run:=rF1 (dS .slot) λb=>(zgU b,[aS .slot<|zfx b])
def zx9 (N:Nat)(a:lS):OA:=
 (oN (few<|ln<|ap [] a)<|some [aS .slot<|ap [] a])
theorem zI6 (a:List Slot)(b:zgU a=true):∃N,zx9 N a=some [aS .slot<|zfx a]:=by have c:=zJ.1 b;refine⟨0,?_⟩;unfold zx9 oN;refine mu ?_;first|rfl|(simp only [*,zfx,cT,cF]<;>rfl)|simp_all[Ty.cells,zfx]
theorem zCq:vQ 255 zum:=kF1 zdb zq zo zu (zx []) zI6
@[simp] abbrev zsV (l:List Ins):Bool:=pc (l.length<=2147483648)
@[simp] abbrev znS (l:List Ins):List Ins:=l
def zwo:Run:=rF1 (dS .ins) λb=>(zsV b,[aS .ins<|znS b])
def zzy (N:Nat)(a:lI):OA:=
 (oN (few<|ln<|ap [] a)<|some [aS .ins<|ap [] a])
theorem zL6 (a:List Ins)(b:zsV a=true):∃N,zzy N a=some [aS .ins<|znS a]:=by have c:=zJ.1 b;refine⟨0,?_⟩;unfold zzy oN;refine mu ?_;first|rfl|(simp only [*,znS,cT,cF]<;>rfl)|simp_all[Ty.cells,znS]
theorem zFy:vQ 196 zwo:=kF1 zdb zq zo zu (zx []) zL6
def zf7 (m:List (List Int))(p c:Int):Bool:=bif hasB p (ln m) then hasB c (ln<|ix m p []) else false
def cellAt (m:List (List Int))(p c:Int):Int:=bif zf7 m p c then ix (ix m p []) c 0 else 0
def zbD (m:List (List Int))(p c v:Int):List (List Int):=bif zf7 m p c then (cond (zi v 0 99) (up m p<|up (ix m p []) c v) m) else m
theorem zxE (m:List (List Int))(p c:Int):(zf7 m p c=true)↔hasB p (ln m)=true/\hasB c (ln<|ix m p [])=true:=by unfold zf7;cases hasB p (ln m)<;>simp
theorem z7I {n:Nat}{m:List (List Int)}(h:CVB n (.s (.sl .int) m)):m.length<=n/\∀p:Int,hasB p (ln m)=true->(ix m p []).length<=n :=
 ⟨h.len,λp a=>(h.inv.2 _ (zbv a []) _ (qF.2 rfl)).len⟩
@[simp] abbrev zff (m:List (List Int))(p c:Int):Bool:=true
@[simp] abbrev zpL (m:List (List Int))(p c:Int):Bool:=zf7 m p c
def zBk:Run:=rF3 (dS<|.sl .int) dI dI λb c d=>(zff b c d,[aB<|zpL b c d])
def zHl (N:Nat)(a:lM)(b c:Int):OA:=
 let d:=wsub .i64 (ln<|ix a b []) 1; (oN (zG b 0<|wsub .i64 (ln a) 1)<|cond (zi b 0<|wsub .i64 (ln a) 1) (oN (inb b<|ln a)<|oN (zG c 0 d)<|some [aB<|zi c 0 d]) oF)
theorem zSu (a:List (List Int))(b c:Int)(e:zbB big [aS (.sl .int) a,aI b,aI c])(g:zff a b c=true):∃N,zHl N a b c=some [aB<|zpL a b c]:=by
 have d:=z7I ((zcv e).1 _ (qF.2 rfl));have j:=zGB d.1;have f:∀p i:Int,hasB p (ln a)=true->zi i 0 (wsub .i64 (ln<|ix a p []) 1)=hasB i (ln<|ix a p []):=λp i h=>zGB (d.2 p h) i;refine⟨0,?_⟩;unfold zHl oN;conv=>zeta
 refine must rfl (br (λ_=>mu (must rfl ?_)) λ_=>?_);all_goals first|rfl|(simp only [*,zpL,zf7,cT,cF]<;>rfl)|simp_all[Ty.cells,zpL,zf7]
theorem zLD:vQ 297 zBk:=hF3 zdb zq zo zu (zx []) zSu
@[simp] abbrev zgf (m:List (List Int))(p c:Int):Int:=cellAt m p c
def zn2:Run:=rF3 (dS<|.sl .int) dI dI λb c d=>(zff b c d,[aI<|zgf b c d])
def zGD (N:Nat)(a:lM)(b c:Int):OA:=
 let d:=ix a b []; (oN (zbg b<|ln a)<|cond (nB<|zcq b<|ln a) (some [aI 0])<|oN (inb b<|ln a)<|oN (zbg c<|ln d)<|cond (nB<|zcq c<|ln d) (some [aI 0])<|oN (inb b<|ln a)<|oN (inb c<|ln d)<|some [aI<|ix d c 0])
theorem zRS (a:List (List Int))(b c:Int)(d:zff a b c=true):∃N,zGD N a b c=some [aI<|zgf a b c]:=by
 refine⟨0,?_⟩;unfold zGD oN nB;conv=>zeta
 refine must rfl (brN (λ_=>?_) λ_=>mu (must rfl (brN (λ_=>?_) λ_=>mu (mu ?_))));all_goals first|rfl|(simp only [*,zgf,cellAt,zf7,cT,cF]<;>rfl)|simp_all[Ty.cells,zgf,cellAt,zf7]
theorem zKO:vQ 81 zn2:=kF3 zdb zq zo zu (zx []) zRS
def zW0:zV:=[(290,zob),(164,zob),(207,zlF),(73,zlF),(212,zlE),(78,zlE),(208,zoh),(74,zoh),(210,zkq),(76,zkq),(298,zlG),(182,zlG),(300,zmG),(275,zmG),(299,zmF),(183,zmF),(294,zol),(258,zol),(218,zqf),(166,zqf),(172,zBg),(220,zoo),(232,zoo),(255,zum),(196,zwo),(297,zBk),(81,zn2)]++z7D
theorem zgc:zL zW0:=zh zLh (zh zKN<|zh zFA<|zh zFj<|zh zFz<|zh zFi<|zh zLq<|zh zKX<|zh zCu<|zh zCi<|zh zFC<|zh zFl<|zh zIt<|zh zH8<|zh zIk<|zh zH7<|zh zLv<|zh zK3<|zh zOW<|zh zOJ<|zh zLe<|zh zLz<|zh zK8<|zh zCq<|zh zFy<|zh zLD<|zh zKO zdb)
def zGZ (N:Nat)(a:lM)(b c:Int):OA:=
 (oN (zff a b c)<|cond (nB<|zpL a b c) (some [aI 0])<|oN (inb b<|ln a)<|oN (inb c<|ln<|ix a b [])<|some [aI<|ix (ix a b []) c 0])
theorem zSd (a:List (List Int))(b c:Int)(d:zff a b c=true):∃N,zGZ N a b c=some [aI<|zgf a b c]:=by have e:=(zxE a b c).1;refine⟨0,?_⟩;unfold zGZ oN nB;refine must rfl (brN (λ_=>?_) λ_=>mu (mu ?_));all_goals first|rfl|(simp only [*,zgf,cellAt,cT,cF]<;>rfl)|simp_all[Ty.cells,zgf,cellAt]
theorem zLi:vQ 215 zn2:=kF3 zgc zq zo zu (zx []) zSd
def zcJ (t:List Slot)(n p:Int):Bool:=bif t.all (λs=>zdT s p) then ieq (ln t) n else false
@[simp] abbrev ziz (t:List Slot)(n p:Int):Bool:=true
@[simp] abbrev zew (t:List Slot)(n p:Int):Bool:=zcJ t n p
def zmJ:Run:=rF3 (dS .slot) dI dI λb c d=>(ziz b c d,[aB<|zew b c d])
def zDG (N:Nat)(d:lS)(e f:Int):OA:=
 (iter (σ:=(Int×Int×Int×lS×Unit)) N (λg a=>let b:=a.2.2.2.1;let c:=ix b a.2.2.1 zN; (cond (ilt a.2.2.1<|ln b) (oN (inb a.2.2.1<|ln b)<|oN (zlQ c a.2.1)<|cond (nB<|ziy c a.2.1) oF<|g (a.1,a.2.1,zI .i64 a.2.2.1 1,b,()))<|some [aB<|ieq (ln b) a.1])) (e,f,0,d,()))
def zPZ:=zx [(349,0,{n:=25,tm:=[(0,.sl 0 []),(1,ti),(2,ti),(7,ti)],lo:=[],ro:=[(0,.slot,false)]})]
theorem zPD (a:List Slot)(d c:Int)(j:zbB big [aS .slot a,aI d,aI c])(l:ziz a d c=true):∃N,zDG N a d c=some [aB<|zew a d c]:=by
 have h:(_:List _).length<=big:=((zcv j).1 _ (qF.2 rfl)).len;refine zbZ λN g=>?_;unfold zDG oN nB;conv=>zeta
 refine(zX a (λi (t:Unit)=>(d,c,(i:Int),a,())) _ (λ_ x (_:Unit) k=>bif (λs=>zdT s c) x then k () else oF) (λ(t:Unit)=>some [.one<|.b<|ieq (ln a) d]) (λi e t rec=>?_) (λt rec=>?_) _ ()<|g h).trans ?_;{simp only [zbq e,zS e,zba e,zQ e h,cT];exact ziq rfl};{simp only [zbl,cF]};rw[zfU λs=>zdT s c];refine br (λf=>?_) (λf=>?_);{first|rfl|(simp only [f,zew,zcJ,cT,cF]<;>rfl)|(simp_all [Ty.cells,zew,zcJ];done)};{first|rfl|(simp only [f,zew,zcJ,cT,cF]<;>rfl)|(simp_all [Ty.cells,zew,zcJ];done)}
theorem zIA:vQ 349 zmJ:=hF3 zgc zq zo zu zPZ zPD
def zDf (N:Nat)(c:lS)(e f:Int):OA:=
 (iter (σ:=(Int×Int×Int×Int×lS×Unit)) N (λg a=>let b:=a.2.2.2.2.1;let d:=ix b a.2.2.2.1 zN; (cond (ilt a.2.2.2.1 a.2.2.1) (oN (inb a.2.2.2.1<|ln b)<|oN (zlQ d a.2.1)<|cond (nB<|ziy d a.2.1) oF<|g (a.1,a.2.1,a.2.2.1,zI .i64 a.2.2.2.1 1,b,()))<|some [aB<|ieq (ln b) a.1])) (e,f,ln c,0,c,()))
def zPU:=zx [(257,0,{n:=24,tm:=[(0,.sl 0 []),(1,ti),(2,ti),(9,.sl 0 []),(10,ti),(11,ti)],lo:=[],ro:=[(0,.slot,false)]})]
theorem zPf (a:List Slot)(d c:Int)(j:zbB big [aS .slot a,aI d,aI c])(l:ziz a d c=true):∃N,zDf N a d c=some [aB<|zew a d c]:=by
 have h:(_:List _).length<=big:=((zcv j).1 _ (qF.2 rfl)).len;refine zbZ λN g=>?_;unfold zDf oN nB;conv=>zeta
 refine(zX a (λi (t:Unit)=>(d,c,ln a,(i:Int),a,())) _ (λ_ x (_:Unit) k=>bif (λs=>zdT s c) x then k () else oF) (λ(t:Unit)=>some [.one<|.b<|ieq (ln a) d]) (λi e t rec=>?_) (λt rec=>?_) _ ()<|g h).trans ?_;{simp only [zbq e,zS e,zba e,zQ e h,cT];exact ziq rfl};{simp only [zbl,cF]};rw[zfU λs=>zdT s c];refine br (λf=>?_) (λf=>?_);{first|rfl|(simp only [f,zew,zcJ,cT,cF]<;>rfl)|(simp_all [Ty.cells,zew,zcJ];done)};{first|rfl|(simp only [f,zew,zcJ,cT,cF]<;>rfl)|(simp_all [Ty.cells,zew,zcJ];done)}
theorem zIc:vQ 257 zmJ:=hF3 zgc zq zo zu zPU zPf
def zcn (c:List Int):Bool:=bif c.all (λx=>zi x 0 99) then ieq (ln c) 4 else false
@[simp] abbrev zdx (c:List Int):Bool:=true
@[simp] abbrev zcX (c:List Int):Bool:=zcn c
def zok:Run:=rF1 (dS .int) λb=>(zdx b,[aB<|zcX b])
def zHb (N:Nat)(b:List Int):OA:=
 (iter (σ:=(Int×(List Int)×Unit)) N (λc a=>cond (ilt a.1<|ln a.2.1) (oN (inb a.1<|ln a.2.1)<|oN (zG (ix a.2.1 a.1 0) 0 99)<|cond (nB<|zi (ix a.2.1 a.1 0) 0 99) oF<|c (zI .i64 a.1 1,a.2.1,()))<|some [aB<|ieq (ln a.2.1) 4]) (0,b,()))
def zTS:=zx [(351,0,{n:=19,tm:=[(0,.sl 0 []),(3,ti)],lo:=[],ro:=[(0,.int,false)]})]
theorem zSn (a:List Int)(g:zbB big [aS .int a])(j:zdx a=true):∃N,zHb N a=some [aB<|zcX a]:=by have f:(_:List _).length<=big:=((zcv g).1 _ (qF.2 rfl)).len;refine zbZ λN e=>?_;unfold zHb oN nB;refine(zX a (λi (t:Unit)=>((i:Int),a,())) _ (λ_ x (_:Unit) h=>bif (λx=>zi x 0 99) x then h () else oF) (λ(t:Unit)=>some [.one<|.b<|ieq (ln a) 4]) (λi c t rec=>?_) (λt rec=>?_) _ ()<|e f).trans ?_;{simp only [zbq c,zS c,zba c,zQ c f,cT];exact ziq rfl};{simp only [zbl,cF]};rw[zfU λx=>zi x 0 99];refine br (λd=>?_) (λd=>?_);{first|rfl|(simp only [d,zcX,zcn,cT,cF]<;>rfl)|(simp_all [Ty.cells,zcX,zcn];done)};{first|rfl|(simp only [d,zcX,zcn,cT,cF]<;>rfl)|(simp_all [Ty.cells,zcX,zcn];done)}
theorem zLu:vQ 351 zok:=hF1 zgc zq zo zu zTS zSn
def zGM (N:Nat)(b:List Int):OA:=
 (iter (σ:=(Int×Int×(List Int)×Unit)) N (λc a=>cond (ilt a.2.1 a.1) (oN (inb a.2.1<|ln a.2.2.1)<|oN (zG (ix a.2.2.1 a.2.1 0) 0 99)<|cond (nB<|zi (ix a.2.2.1 a.2.1 0) 0 99) oF<|c (a.1,zI .i64 a.2.1 1,a.2.2.1,()))<|some [aB<|ieq (ln a.2.2.1) 4]) (ln b,0,b,()))
def zTI:=zx [(256,0,{n:=18,tm:=[(0,.sl 0 []),(5,.sl 0 []),(6,ti),(7,ti)],lo:=[],ro:=[(0,.int,false)]})]
theorem zR1 (a:List Int)(g:zbB big [aS .int a])(j:zdx a=true):∃N,zGM N a=some [aB<|zcX a]:=by have f:(_:List _).length<=big:=((zcv g).1 _ (qF.2 rfl)).len;refine zbZ λN e=>?_;unfold zGM oN nB;refine(zX a (λi (t:Unit)=>(ln a,(i:Int),a,())) _ (λ_ x (_:Unit) h=>bif (λx=>zi x 0 99) x then h () else oF) (λ(t:Unit)=>some [.one<|.b<|ieq (ln a) 4]) (λi c t rec=>?_) (λt rec=>?_) _ ()<|e f).trans ?_;{simp only [zbq c,zS c,zba c,zQ c f,cT];exact ziq rfl};{simp only [zbl,cF]};rw[zfU λx=>zi x 0 99];refine br (λd=>?_) (λd=>?_);{first|rfl|(simp only [d,zcX,zcn,cT,cF]<;>rfl)|(simp_all [Ty.cells,zcX,zcn];done)};{first|rfl|(simp only [d,zcX,zcn,cT,cF]<;>rfl)|(simp_all [Ty.cells,zcX,zcn];done)}
theorem zK2:vQ 256 zok:=hF1 zgc zq zo zu zTI zR1
def zeJ (i:Ins):Bool:=bif (ieq i.Op 1||ieq i.Op 2||ieq i.Op 5||ieq i.Op 6) then zi i.X 0 99 else (cond (ieq i.Op 3||ieq i.Op 4) (zi i.X 0 15)<|cond (ieq i.Op 7) (ieq i.X 0)<|cond (ieq i.Op 8) (zi i.X 0 11) false)
@[simp] abbrev zuE (i:Ins):Bool:=true
@[simp] abbrev zso (i:Ins):Bool:=zeJ i
def zqg:Run:=rF1 (dT .ins) λb=>(zuE b,[aB<|zso b])
def zNo (N:Nat)(a:Ins):OA:=
 let b:=ieq a.Op 4;let l:=zG a.X 0 99;let k:=aB<|zi a.X 0 99;let j:=ieq a.Op 8;let i:=ieq a.Op 7;let h:=ieq a.Op 3;let g:=zG a.X 0 11;let f:=zG a.X 0 15;let e:=aB<|ieq a.X 0;let d:=aB<|zi a.X 0 11;let c:=aB<|zi a.X 0 15; (cond (ieq a.Op 1) (cond (ieq a.Op 1) (oN l<|some [k])<|cond h (cond h (oN f<|some [c])<|cond i (some [e])<|cond j (oN g<|some [d]) oF)<|cond b (oN f<|some [c])<|cond i (some [e])<|cond j (oN g<|some [d]) oF)<|cond (ieq a.Op 2) (cond (ieq a.Op 2) (oN l<|some [k])<|cond h (cond h (oN f<|some [c])<|cond i (some [e])<|cond j (oN g<|some [d]) oF)<|cond b (oN f<|some [c])<|cond i (some [e])<|cond j (oN g<|some [d]) oF)<|cond (ieq a.Op 5) (cond (ieq a.Op 5) (oN l<|some [k])<|cond h (cond h (oN f<|some [c])<|cond i (some [e])<|cond j (oN g<|some [d]) oF)<|cond b (oN f<|some [c])<|cond i (some [e])<|cond j (oN g<|some [d]) oF)<|cond (ieq a.Op 6) (oN l<|some [k])<|cond h (cond h (oN f<|some [c])<|cond i (some [e])<|cond j (oN g<|some [d]) oF)<|cond b (oN f<|some [c])<|cond i (some [e])<|cond j (oN g<|some [d]) oF)
theorem zEb (a:Ins)(b:zbB big [aT .ins a])(c:zuE a=true):∃N,zNo N a=some [aB<|zso a]:=by
 refine⟨0,?_⟩;unfold zNo oN;conv=>zeta
 refine br (λ_=>br (λ_=>must rfl ?_) λ_=>br (λ_=>br (λ_=>must rfl ?_) λ_=>br (λ_=>?_) λ_=>br (λ_=>must rfl ?_) λ_=>?_) λ_=>br (λ_=>must rfl ?_) λ_=>br (λ_=>?_) λ_=>br (λ_=>must rfl ?_) λ_=>?_) (λ_=>br (λ_=>br (λ_=>must rfl ?_) λ_=>br (λ_=>br (λ_=>must rfl ?_) λ_=>br (λ_=>?_) λ_=>br (λ_=>must rfl ?_) λ_=>?_) λ_=>br (λ_=>must rfl ?_) λ_=>br (λ_=>?_) λ_=>br (λ_=>must rfl ?_) λ_=>?_) λ_=>br (λ_=>br (λ_=>must rfl ?_) λ_=>br (λ_=>br (λ_=>must rfl ?_) λ_=>br (λ_=>?_) λ_=>br (λ_=>must rfl ?_) λ_=>?_) λ_=>br (λ_=>must rfl ?_) λ_=>br (λ_=>?_) λ_=>br (λ_=>must rfl ?_) λ_=>?_) λ_=>br (λ_=>must rfl ?_) λ_=>br (λ_=>br (λ_=>must rfl ?_) λ_=>br (λ_=>?_) λ_=>br (λ_=>must rfl ?_) λ_=>?_) λ_=>br (λ_=>must rfl ?_) λ_=>br (λ_=>?_) λ_=>br (λ_=>must rfl ?_) λ_=>?_);all_goals first|rfl|(simp only [*,zso,zeJ,cT,cF]<;>rfl)|simp_all[Ty.cells,zso,zeJ]
theorem zOX:vQ 382 zqg:=hF1 zgc zq zo zu (zx []) zEb
theorem zOK:vQ 353 zqg:=hF1 zgc zq zo zu (zx []) zEb
def zh9 (e:GExit):Bool:=bif (ieq e.Kind 0||ieq e.Kind 4) then (ieq e.Page 0&&(!e.Write&&ieq e.N 0)) else (cond (ieq e.Kind 1) (zi e.Page 0 3&&ieq e.N 0)<|cond (ieq e.Kind 2||ieq e.Kind 3) (zi e.N 0 99&&(ieq e.Page 0 && !e.Write)) false)
@[simp] theorem z9w (x:Bool):zlZ x false = !x:=by cases x<;>rfl
attribute [simp] ziu
@[simp] abbrev zr4 (e:GExit):Bool:=true
@[simp] abbrev zk2 (e:GExit):Bool:=zh9 e
def zod:Run:=rF1 dE λb=>(zr4 b,[aB<|zk2 b])
def zG1 (N:Nat)(a:GExit):OA:=
 let f:=zi a.N 0 99;let e:=zG a.N 0 99;let d:=ieq a.Kind 2;let b:=ieq a.Page 0;let c:=aB<|nB a.Write;let g:=aB<|cond (ieq a.Kind a.Kind) (cond b (cond (zlZ a.Write false) (ieq a.N 0) false) false) false; (cond (ieq a.Kind 0) (cond (ieq a.Kind 0) (some [g])<|cond (ieq a.Kind 1) (oN (zG a.Page 0 3)<|cond (zi a.Page 0 3) (some [aB<|ieq a.N 0]) oF)<|cond d (cond d (oN e<|cond f (cond b (some [c]) oF) oF) oF)<|cond (ieq a.Kind 3) (oN e<|cond f (cond b (some [c]) oF) oF) oF)<|cond (ieq a.Kind 4) (some [g])<|cond (ieq a.Kind 1) (oN (zG a.Page 0 3)<|cond (zi a.Page 0 3) (some [aB<|ieq a.N 0]) oF)<|cond d (cond d (oN e<|cond f (cond b (some [c]) oF) oF) oF)<|cond (ieq a.Kind 3) (oN e<|cond f (cond b (some [c]) oF) oF) oF)
theorem zSe (a:GExit)(b:zr4 a=true):∃N,zG1 N a=some [aB<|zk2 a]:=by
 refine⟨0,?_⟩;unfold zG1 oN nB;conv=>zeta
 refine br (λ_=>br (λ_=>?_) λ_=>br (λ_=>must rfl (br (λ_=>?_) λ_=>?_)) λ_=>br (λ_=>br (λ_=>must rfl (br (λ_=>br (λ_=>?_) λ_=>?_) λ_=>?_)) λ_=>?_) λ_=>br (λ_=>must rfl (br (λ_=>br (λ_=>?_) λ_=>?_) λ_=>?_)) λ_=>?_) (λ_=>br (λ_=>?_) λ_=>br (λ_=>must rfl (br (λ_=>?_) λ_=>?_)) λ_=>br (λ_=>br (λ_=>must rfl (br (λ_=>br (λ_=>?_) λ_=>?_) λ_=>?_)) λ_=>?_) λ_=>br (λ_=>must rfl (br (λ_=>br (λ_=>?_) λ_=>?_) λ_=>?_)) λ_=>?_);all_goals first|rfl|(simp only [*,zk2,zh9,cT,cF]<;>rfl)|simp_all[Ty.cells,zk2,zh9]
theorem zLk:vQ 350 zod:=kF1 zgc zq zo zu (zx []) zSe
def zGE (N:Nat)(a:GExit):OA:=
 let g:=zi a.N 0 99;let f:=zG a.N 0 99;let e:=ieq a.Kind 2;let d:=aB<|ieq a.N 0;let b:=ieq a.Page 0;let c:=aB<|nB a.Write; (cond (ieq a.Kind 0) (cond (ieq a.Kind 0) (cond b (cond (nB a.Write) (some [d]) oF) oF)<|cond (ieq a.Kind 1) (oN (zG a.Page 0 3)<|cond (zi a.Page 0 3) (some [d]) oF)<|cond e (cond e (oN f<|cond g (cond b (some [c]) oF) oF) oF)<|cond (ieq a.Kind 3) (oN f<|cond g (cond b (some [c]) oF) oF) oF)<|cond (ieq a.Kind 4) (cond b (cond (nB a.Write) (some [d]) oF) oF)<|cond (ieq a.Kind 1) (oN (zG a.Page 0 3)<|cond (zi a.Page 0 3) (some [d]) oF)<|cond e (cond e (oN f<|cond g (cond b (some [c]) oF) oF) oF)<|cond (ieq a.Kind 3) (oN f<|cond g (cond b (some [c]) oF) oF) oF)
theorem zRT (a:GExit)(b:zr4 a=true):∃N,zGE N a=some [aB<|zk2 a]:=by
 refine⟨0,?_⟩;unfold zGE oN nB;conv=>zeta
 refine br (λ_=>br (λ_=>br (λ_=>brN (λ_=>?_) λ_=>?_) λ_=>?_) λ_=>br (λ_=>must rfl (br (λ_=>?_) λ_=>?_)) λ_=>br (λ_=>br (λ_=>must rfl (br (λ_=>br (λ_=>?_) λ_=>?_) λ_=>?_)) λ_=>?_) λ_=>br (λ_=>must rfl (br (λ_=>br (λ_=>?_) λ_=>?_) λ_=>?_)) λ_=>?_) (λ_=>br (λ_=>br (λ_=>brN (λ_=>?_) λ_=>?_) λ_=>?_) λ_=>br (λ_=>must rfl (br (λ_=>?_) λ_=>?_)) λ_=>br (λ_=>br (λ_=>must rfl (br (λ_=>br (λ_=>?_) λ_=>?_) λ_=>?_)) λ_=>?_) λ_=>br (λ_=>must rfl (br (λ_=>br (λ_=>?_) λ_=>?_) λ_=>?_)) λ_=>?_);all_goals first|rfl|(simp only [*,zk2,zh9,cT,cF]<;>rfl)|simp_all[Ty.cells,zk2,zh9]
theorem zKQ:vQ 311 zod:=kF1 zgc zq zo zu (zx []) zRT
def ztR (c:Ctl):List Int:=(cond (zi c.Traps 0 3) [] [1])++((cond (zi c.Post 0 255) [] [2])++((cond (ine c.Post 0) (cond c.Open [] [3]) [])++(cond (ieq c.Traps 2) (cond (ine c.Post 0) [4] []) [])))
@[simp] theorem z9t {a:Type}(x:a)(l m:List a):ap (x::l) m=x::ap l m:=rfl
@[simp] abbrev zfZ (c:Ctl):Bool:=true
@[simp] abbrev zmm (c:Ctl):List Int:=ztR c
def zkp:Run:=rF1 dC λb=>(zfZ b,[aS .int<|zmm b])
def zyc (N:Nat)(b:Ctl):OA:=
 let e:=aS .int [];let k:=ap (ap [] [2]) [4];let j:=ap (ap [] [1]) [4];let i:=aS .int<|ap [] [2];let h:=aS .int<|ap [] [1];let g:=ap (ap [] [2]) [3];let f:=ap (ap [] [1]) [3];let c:=ieq b.Traps 2;let a:=ine b.Post 0;let d:=ap (ap [] [1]) [2];let l:=aS .int d; (oN (zG b.Traps 0 3)<|cond (nB<|zi b.Traps 0 3) (oN (few<|ln<|ap [] [1])<|oN (zG b.Post 0 255)<|cond (nB<|zi b.Post 0 255) (oN (few<|ln d)<|cond a (cond (nB b.Open) (oN (few<|ln<|ap d [3])<|cond c (cond a (oN (few<|ln<|ap (ap d [3]) [4])<|some [aS .int<|ap (ap d [3]) [4]])<|some [aS .int<|ap d [3]])<|some [aS .int<|ap d [3]])<|cond c (cond a (oN (few<|ln<|ap d [4])<|some [aS .int<|ap d [4]])<|some [l])<|some [l])<|cond c (cond a (oN (few<|ln<|ap d [4])<|some [aS .int<|ap d [4]])<|some [l])<|some [l])<|cond a (cond (nB b.Open) (oN (few<|ln f)<|cond c (cond a (oN (few<|ln<|ap f [4])<|some [aS .int<|ap f [4]])<|some [aS .int f])<|some [aS .int f])<|cond c (cond a (oN (few<|ln j)<|some [aS .int j])<|some [h])<|some [h])<|cond c (cond a (oN (few<|ln j)<|some [aS .int j])<|some [h])<|some [h])<|oN (zG b.Post 0 255)<|cond (nB<|zi b.Post 0 255) (oN (few<|ln<|ap [] [2])<|cond a (cond (nB b.Open) (oN (few<|ln g)<|cond c (cond a (oN (few<|ln<|ap g [4])<|some [aS .int<|ap g [4]])<|some [aS .int g])<|some [aS .int g])<|cond c (cond a (oN (few<|ln k)<|some [aS .int k])<|some [i])<|some [i])<|cond c (cond a (oN (few<|ln k)<|some [aS .int k])<|some [i])<|some [i])<|cond a (cond (nB b.Open) (oN (few<|ln<|ap [] [3])<|cond c (cond a (oN (few<|ln<|ap (ap [] [3]) [4])<|some [aS .int<|ap (ap [] [3]) [4]])<|some [aS .int<|ap [] [3]])<|some [aS .int<|ap [] [3]])<|cond c (cond a (oN (few<|ln<|ap [] [4])<|some [aS .int<|ap [] [4]])<|some [e])<|some [e])<|cond c (cond a (oN (few<|ln<|ap [] [4])<|some [aS .int<|ap [] [4]])<|some [e])<|some [e])
theorem zt8 (a:Ctl)(b:zbB big [.agg<|zw5 a])(c:zfZ a=true):∃N,zyc N a=some [aS .int<|zmm a]:=by
 refine⟨0,?_⟩;unfold zyc oN nB;conv=>zeta
 refine must rfl (brN (λ_=>mu (must rfl (brN (λ_=>mu (br (λ_=>brN (λ_=>mu (br (λ_=>br (λ_=>mu ?_) λ_=>?_) λ_=>?_)) λ_=>br (λ_=>br (λ_=>mu ?_) λ_=>?_) λ_=>?_) λ_=>br (λ_=>br (λ_=>mu ?_) λ_=>?_) λ_=>?_)) λ_=>br (λ_=>brN (λ_=>mu (br (λ_=>br (λ_=>mu ?_) λ_=>?_) λ_=>?_)) λ_=>br (λ_=>br (λ_=>mu ?_) λ_=>?_) λ_=>?_) λ_=>br (λ_=>br (λ_=>mu ?_) λ_=>?_) λ_=>?_))) λ_=>must rfl (brN (λ_=>mu (br (λ_=>brN (λ_=>mu (br (λ_=>br (λ_=>mu ?_) λ_=>?_) λ_=>?_)) λ_=>br (λ_=>br (λ_=>mu ?_) λ_=>?_) λ_=>?_) λ_=>br (λ_=>br (λ_=>mu ?_) λ_=>?_) λ_=>?_)) λ_=>br (λ_=>brN (λ_=>mu (br (λ_=>br (λ_=>mu ?_) λ_=>?_) λ_=>?_)) λ_=>br (λ_=>br (λ_=>mu ?_) λ_=>?_) λ_=>?_) λ_=>br (λ_=>br (λ_=>mu ?_) λ_=>?_) λ_=>?_));all_goals first|rfl|(simp only [*,zmm,ztR,cT,cF]<;>rfl)|simp_all[Ty.cells,zmm,ztR]
theorem zCt:vQ 301 zkp:=hF1 zgc zq zo zu (zx []) zt8
theorem zCh:vQ 304 zkp:=hF1 zgc zq zo zu (zx []) zt8
def len8tab:ByteArray:=⟨⟨[0,1,2,2,3,3,3,3,4,4,4,4,4,4,4,4,5,5,5,5,5,5,5,5,5,5,5,5,5,5,5,5,6,6,6,6,6,6,6,6,6,6,6,6,6,6,6,6,6,6,6,6,6,6,6,6,6,6,6,6,6,6,6,6,7,7,7,7,7,7,7,7,7,7,7,7,7,7,7,7,7,7,7,7,7,7,7,7,7,7,7,7,7,7,7,7,7,7,7,7,7,7,7,7,7,7,7,7,7,7,7,7,7,7,7,7,7,7,7,7,7,7,7,7,7,7,7,7,8,8,8,8,8,8,8,8,8,8,8,8,8,8,8,8,8,8,8,8,8,8,8,8,8,8,8,8,8,8,8,8,8,8,8,8,8,8,8,8,8,8,8,8,8,8,8,8,8,8,8,8,8,8,8,8,8,8,8,8,8,8,8,8,8,8,8,8,8,8,8,8,8,8,8,8,8,8,8,8,8,8,8,8,8,8,8,8,8,8,8,8,8,8,8,8,8,8,8,8,8,8,8,8,8,8,8,8,8,8,8,8,8,8,8,8,8,8,8,8,8,8,8,8,8,8,8,8]⟩⟩
def zg7 (p n:Int):Bool:=ieq (wand .i64 (zjR .i64 p n) 1) 1
def scan (p:Int):Int:=bif zg7 p 7 then 7 else (cond (zg7 p 6) 6<|cond (zg7 p 5) 5<|cond (zg7 p 4) 4<|cond (zg7 p 3) 3<|cond (zg7 p 2) 2<|cond (zg7 p 1) 1<|cond (zg7 p 0) 0<|-1)
theorem z2R:∀n:Fin 256,zI .i64 0 (wcv .i64<|byteAt len8tab<|wcv .u8 (n.val:Int))=scan (n.val:Int)+1:=by decide +kernel
theorem zTg:∀n:Fin 256,-1<=scan (n.val:Int)/\scan (n.val:Int)<=7/\(0<=scan (n.val:Int)->wsub .i64 (n.val:Int) (zld .i64 1<|scan (n.val:Int))=zx0 .i64 (n.val:Int) (zld .i64 1<|scan (n.val:Int))):=by decide +kernel
theorem zAZ {P:Int->Prop}(h:∀n:Fin 256,P (n.val:Int)){x:Int}(a:0<=x)(b:x<=255):P x:=by have:=h ⟨x.toNat,by omega⟩;have e:((x.toNat:Nat):Int)=x:=(by omega);simpa [e] using this
def zl4 (x:Int):Bool:=pc (0<=x/\x<=255)
def zio (x:Int):Int:=scan x+1
def zhT:List AV->Option (Bool×List AV)
 |[.one<|.i .u64 b]=>some (zl4 b,[aI<|zio b])
 |_=>none
def zlW (N:Nat)(a:Int):OA:=
 let d:=zjR .u64 a 16;let b:=zjR .u64 a 32;let c:=zjR .u64 b 16; (cond (ige a 4294967296) (oN (ile 0 32)<|cond (ige b 65536) (oN (ile 0 16)<|cond (ige c 256) (oN (ile 0 8)<|oN (inb (wcv .u8<|zjR .u64 c 8) 256)<|some [aI<|zI .i64 (zI .i64 (zI .i64 32 16) 8)<|wcv .i64<|byteAt len8tab<|wcv .u8<|zjR .u64 c 8])<|oN (inb (wcv .u8 c) 256)<|some [aI<|zI .i64 (zI .i64 32 16)<|wcv .i64<|byteAt len8tab<|wcv .u8 c])<|cond (ige b 256) (oN (ile 0 8)<|oN (inb (wcv .u8<|zjR .u64 b 8) 256)<|some [aI<|zI .i64 (zI .i64 32 8)<|wcv .i64<|byteAt len8tab<|wcv .u8<|zjR .u64 b 8])<|oN (inb (wcv .u8 b) 256)<|some [aI<|zI .i64 32<|wcv .i64<|byteAt len8tab<|wcv .u8 b])<|cond (ige a 65536) (oN (ile 0 16)<|cond (ige d 256) (oN (ile 0 8)<|oN (inb (wcv .u8<|zjR .u64 d 8) 256)<|some [aI<|zI .i64 (zI .i64 (zI .i64 0 16) 8)<|wcv .i64<|byteAt len8tab<|wcv .u8<|zjR .u64 d 8])<|oN (inb (wcv .u8 d) 256)<|some [aI<|zI .i64 (zI .i64 0 16)<|wcv .i64<|byteAt len8tab<|wcv .u8 d])<|cond (ige a 256) (oN (ile 0 8)<|oN (inb (wcv .u8<|zjR .u64 a 8) 256)<|some [aI<|zI .i64 (zI .i64 0 8)<|wcv .i64<|byteAt len8tab<|wcv .u8<|zjR .u64 a 8])<|oN (inb (wcv .u8 a) 256)<|some [aI<|zI .i64 0<|wcv .i64<|byteAt len8tab<|wcv .u8 a])
theorem zAY (N:Nat)(a:Int):evalFn (cQ zW0 znW zMB zMO) (zx []) N 12 277 [.one<|.i .u64 a]=zlW N a:=by kernel_rfl
theorem zzi (a:Int)(g:zbB big [.one<|.i .u64 a])(f:zl4 a=true):∃N,zlW N a=some [aI<|zio a]:=by
 obtain⟨b,c⟩:=zJ.1 f;refine⟨0,?_⟩;unfold zlW oN;conv=>zeta
 refine zcQ (qI (by omega)) ?_;refine zcQ (qI (by omega)) ?_;refine zcQ (qI (by omega)) ?_;have e:inb (wcv .u8 a) 256=true:=zAZ (P:=λx=>inb (wcv .u8 x) 256=true) (by decide +kernel) b c;refine must e ?_;have d:=zAZ (P:=λx=>zI .i64 0 (wcv .i64<|byteAt len8tab<|wcv .u8 x)=scan x+1) z2R b c;rw[d];rfl
theorem znk:vQ 277 zhT:=zRA zgc zq zo zu (zia (by kernel_rfl)) λa d b h=>by unfold zhT at h;split at h;{obtain⟨c,rfl⟩:=zel h;exact(zzi _ b c).elim λN e=>⟨zx [],N,(zAY N _).trans e⟩};{cases h}
def z4f:zV:=[(215,zn2),(349,zmJ),(257,zmJ),(351,zok),(256,zok),(382,zqg),(353,zqg),(350,zod),(311,zod),(301,zkp),(304,zkp),(277,zhT)]++zW0
theorem zgd:zL z4f:=zh zLi (zh zIA<|zh zIc<|zh zLu<|zh zK2<|zh zOX<|zh zOK<|zh zLk<|zh zKQ<|zh zCt<|zh zCh<|zh znk zgc)
def zid (m:List (List Int))(n:Int):Bool:=bif m.all zcn then ieq (ln m) n else false
@[simp] abbrev zih (m:List (List Int))(n:Int):Bool:=true
@[simp] abbrev zfs (m:List (List Int))(n:Int):Bool:=zid m n
def zqh:Run:=rF2 (dS<|.sl .int) dI λb c=>(zih b c,[aB<|zfs b c])
def zNp (N:Nat)(c:lM)(d:Int):OA:=
 (iter (σ:=(Int×Int×lM×Unit)) N (λe a=>let b:=a.2.2.1; (cond (ilt a.2.1<|ln b) (oN (inb a.2.1<|ln b)<|oN (zdx<|ix b a.2.1 [])<|cond (nB<|zcX<|ix b a.2.1 []) oF<|e (a.1,zI .i64 a.2.1 1,b,()))<|some [aB<|ieq (ln b) a.1])) (d,0,c,()))
def zVm:=zx [(293,0,{n:=22,tm:=[(0,.sl 0 []),(1,ti),(5,ti)],lo:=[],ro:=[(0,.sl .int,false)]})]
theorem zUI (a:List (List Int))(c:Int)(h:zbB big [aS (.sl .int) a,aI c])(k:zih a c=true):∃N,zNp N a c=some [aB<|zfs a c]:=by
 have g:(_:List _).length<=big:=((zcv h).1 _ (qF.2 rfl)).len;refine zbZ λN f=>?_;unfold zNp oN nB;conv=>zeta
 refine(zX a (λi (t:Unit)=>(c,(i:Int),a,())) _ (λ_ x (_:Unit) j=>bif (zcn) x then j () else oF) (λ(t:Unit)=>some [.one<|.b<|ieq (ln a) c]) (λi d t rec=>?_) (λt rec=>?_) _ ()<|f g).trans ?_;{simp only [zbq d,zS d,zba d,zQ d g,cT];exact ziq rfl};{simp only [zbl,cF]};rw[zfU<|zcn];refine br (λe=>?_) (λe=>?_);{first|rfl|(simp only [e,zfs,zid,cT,cF]<;>rfl)|(simp_all [Ty.cells,zfs,zid];done)};{first|rfl|(simp only [e,zfs,zid,cT,cF]<;>rfl)|(simp_all [Ty.cells,zfs,zid];done)}
theorem zOY:vQ 293 zqh:=hF2 zgd zq zo zu zVm zUI
def zNd (N:Nat)(c:lM)(d:Int):OA:=
 (iter (σ:=(Int×Int×Int×lM×Unit)) N (λe a=>let b:=a.2.2.2.1; (cond (ilt a.2.2.1 a.2.1) (oN (inb a.2.2.1<|ln b)<|oN (zdx<|ix b a.2.2.1 [])<|cond (nB<|zcX<|ix b a.2.2.1 []) oF<|e (a.1,a.2.1,zI .i64 a.2.2.1 1,b,()))<|some [aB<|ieq (ln b) a.1])) (d,ln c,0,c,()))
def zVi:=zx [(146,0,{n:=21,tm:=[(0,.sl 0 []),(1,ti),(7,.sl 0 []),(8,ti),(9,ti)],lo:=[],ro:=[(0,.sl .int,false)]})]
theorem zUx (a:List (List Int))(c:Int)(h:zbB big [aS (.sl .int) a,aI c])(k:zih a c=true):∃N,zNd N a c=some [aB<|zfs a c]:=by
 have g:(_:List _).length<=big:=((zcv h).1 _ (qF.2 rfl)).len;refine zbZ λN f=>?_;unfold zNd oN nB;conv=>zeta
 refine(zX a (λi (t:Unit)=>(c,ln a,(i:Int),a,())) _ (λ_ x (_:Unit) j=>bif (zcn) x then j () else oF) (λ(t:Unit)=>some [.one<|.b<|ieq (ln a) c]) (λi d t rec=>?_) (λt rec=>?_) _ ()<|f g).trans ?_;{simp only [zbq d,zS d,zba d,zQ d g,cT];exact ziq rfl};{simp only [zbl,cF]};rw[zfU<|zcn];refine br (λe=>?_) (λe=>?_);{first|rfl|(simp only [e,zfs,zid,cT,cF]<;>rfl)|(simp_all [Ty.cells,zfs,zid];done)};{first|rfl|(simp only [e,zfs,zid,cT,cF]<;>rfl)|(simp_all [Ty.cells,zfs,zid];done)}
theorem zOL:vQ 146 zqh:=hF2 zgd zq zo zu zVi zUx
def zdv (p:List Ins):Bool:=bif p.all zeJ then zi (ln p) 1 12 else false
@[simp] abbrev zr8 (p:List Ins):Bool:=true
@[simp] abbrev zg0 (p:List Ins):Bool:=zdv p
def zom:Run:=rF1 (dS .ins) λb=>(zr8 b,[aB<|zg0 b])
def zHd (N:Nat)(c:lI):OA:=
 (iter (σ:=(Int×lI×Unit)) N (λd a=>let b:=ix a.2.1 a.1 zqz; (cond (ilt a.1<|ln a.2.1) (oN (inb a.1<|ln a.2.1)<|oN (zuE b)<|cond (nB<|zso b) oF<|d (zI .i64 a.1 1,a.2.1,()))<|oN (zG (ln a.2.1) 1 12)<|some [aB<|zi (ln a.2.1) 1 12])) (0,c,()))
def zTT:=zx [(348,0,{n:=19,tm:=[(0,.sl 0 []),(3,ti)],lo:=[],ro:=[(0,.ins,false)]})]
theorem zSo (a:List Ins)(g:zbB big [aS .ins a])(j:zr8 a=true):∃N,zHd N a=some [aB<|zg0 a]:=by
 have f:(_:List _).length<=big:=((zcv g).1 _ (qF.2 rfl)).len;refine zbZ λN e=>?_;unfold zHd oN nB;conv=>zeta
 refine(zX a (λi (t:Unit)=>((i:Int),a,())) _ (λ_ x (_:Unit) h=>bif (zeJ) x then h () else oF) (λ(t:Unit)=>cond (zG (ln a) 1 12) (some [.one<|.b<|zi (ln a) 1 12]) none) (λi c t rec=>?_) (λt rec=>?_) _ ()<|e f).trans ?_;{simp only [zbq c,zS c,zba c,zQ c f,cT];exact ziq rfl};{simp only [zbl,cF]};rw[zfU<|zeJ];refine br (λd=>?_) (λd=>?_);{refine must rfl ?_;first|rfl|(simp only [d,zg0,zdv,cT,cF]<;>rfl)|(simp_all [Ty.cells,zg0,zdv];done)};{first|rfl|(simp only [d,zg0,zdv,cT,cF]<;>rfl)|(simp_all [Ty.cells,zg0,zdv];done)}
theorem zLw:vQ 348 zom:=hF1 zgd zq zo zu zTT zSo
def zGN (N:Nat)(b:lI):OA:=
 (iter (σ:=(Int×Int×lI×Unit)) N (λd a=>let c:=ix a.2.2.1 a.2.1 zqz; (cond (ilt a.2.1 a.1) (oN (inb a.2.1<|ln a.2.2.1)<|oN (zuE c)<|cond (nB<|zso c) oF<|d (a.1,zI .i64 a.2.1 1,a.2.2.1,()))<|oN (zG (ln a.2.2.1) 1 12)<|some [aB<|zi (ln a.2.2.1) 1 12])) (ln b,0,b,()))
def zTJ:=zx [(310,0,{n:=18,tm:=[(0,.sl 0 []),(5,.sl 0 []),(6,ti),(7,ti)],lo:=[],ro:=[(0,.ins,false)]})]
theorem zR2 (a:List Ins)(g:zbB big [aS .ins a])(j:zr8 a=true):∃N,zGN N a=some [aB<|zg0 a]:=by
 have f:(_:List _).length<=big:=((zcv g).1 _ (qF.2 rfl)).len;refine zbZ λN e=>?_;unfold zGN oN nB;conv=>zeta
 refine(zX a (λi (t:Unit)=>(ln a,(i:Int),a,())) _ (λ_ x (_:Unit) h=>bif (zeJ) x then h () else oF) (λ(t:Unit)=>cond (zG (ln a) 1 12) (some [.one<|.b<|zi (ln a) 1 12]) none) (λi c t rec=>?_) (λt rec=>?_) _ ()<|e f).trans ?_;{simp only [zbq c,zS c,zba c,zQ c f,cT];exact ziq rfl};{simp only [zbl,cF]};rw[zfU<|zeJ];refine br (λd=>?_) (λd=>?_);{refine must rfl ?_;first|rfl|(simp only [d,zg0,zdv,cT,cF]<;>rfl)|(simp_all [Ty.cells,zg0,zdv];done)};{first|rfl|(simp only [d,zg0,zdv,cT,cF]<;>rfl)|(simp_all [Ty.cells,zg0,zdv];done)}
theorem zK4:vQ 310 zom:=hF1 zgd zq zo zu zTJ zR2
def zlm (c:Ctl):Bool:=ieq (ln<|ztR c) 0
@[simp] abbrev zpH (c:Ctl):Bool:=zlm c
def zqe:Run:=rF1 dC λb=>(zfZ b,[aB<|zpH b])
def zNl (N:Nat)(a:Ctl):OA:=
 (oN (zfZ a)<|some [aB<|ieq (ln<|zmm a) 0])
theorem zEa (a:Ctl)(b:zbB big [.agg<|zw5 a])(c:zfZ a=true):∃N,zNl N a=some [aB<|zpH a]:=by refine⟨0,?_⟩;unfold zNl oN;refine must rfl ?_;first|rfl|(simp only [*,zpH,zlm,cT,cF]<;>rfl)|simp_all[Ty.cells,zpH,zlm]
theorem zOU:vQ 226 zqe:=hF1 zgd zq zo zu (zx []) zEa
theorem zOI:vQ 244 zqe:=hF1 zgd zq zo zu (zx []) zEa
def zdU (p:Int):Int:=bif zdu p then scan p else -1
theorem zM8 {x:Int}(a:0<=x)(b:x<=255):wcv .u64 x=x:=zAZ (P:=λx=>wcv .u64 x=x) (by decide +kernel) a b
@[simp] abbrev zgS (p:Int):Int:=zdU p
def zn5:Run:=rF1 dI λb=>(zb2 b,[aI<|zgS b])
def zGT (N:Nat)(a:Int):OA:=
 (oN (zb2 a)<|cond (nB<|zeo a) (some [aI<|-1])<|oN (zl4<|wcv .u64 a)<|some [aI<|wsub .i64 (zio<|wcv .u64 a) 1])
theorem zR8 (a:Int)(d:zb2 a=true):∃N,zGT N a=some [aI<|zgS a]:=by refine⟨0,?_⟩;unfold zGT oN nB;refine must rfl ?_;cases h:zdu a;{refine must (by simp[h]) ?_;simp[zdU,h]};{obtain⟨b,c⟩:=zfj.1 h;have r:=zAZ (P:=λx=>-1<=scan x/\scan x<=7/\(0<=scan x->wsub .i64 x (zld .i64 1<|scan x)=zx0 .i64 x (zld .i64 1<|scan x))) zTg b c;refine zcQ (by simp[h]) ?_;rw[zM8 b c];refine must (zbo ⟨b,c⟩) ?_;have e:wsub .i64 (zio a) 1=scan a:=(by unfold zio;rw[zsr (by omega) (by omega)];omega);rw[e];simp[zdU,h]}
theorem zLa:vQ 271 zn5:=kF1 zgd zq zo zu (zx []) zR8
def zHi (N:Nat)(b:Int):OA:=
 (iter (σ:=(Int×Int×Unit)) N (λc a=>cond (ige a.2.1 0) (oN (zb2 a.1)<|cond (zeo a.1) (oN (ile 0<|wcv .u64 a.2.1)<|cond (ieq (wand .i64 (zjR .i64 a.1<|wcv .u64 a.2.1) 1) 1) (some [aI a.2.1])<|c (a.1,wsub .i64 a.2.1 1,()))<|some [aI<|-1])<|some [aI<|-1]) (b,7,()))
def zTV:=zx [(303,0,{n:=19,tm:=[(0,ti),(3,ti)],lo:=[],ro:=[]})]
theorem zSs (a:Int)(C:zb2 a=true):∃N,zHi N a=some [aI<|zgS a]:=by refine⟨10,?_⟩;unfold zHi oN;cases h:zdu a;{rw [zdN];refine must rfl ?_;refine must rfl ?_;refine zcQ h ?_;simp[zdU,h]};{have c:zeo a=true:=h;rw[zdN];refine must rfl (must rfl (must c (must rfl (br (λr=>?_) λr=>?_))));{have A:zg7 a 7=true:=r;simp[zdU,h,scan,A]};have b:zg7 a 7=false:=r;show iter 9 _ (a,6,())=_;rw[zdN];refine must rfl (must rfl (must c (must rfl (br (λq=>?_) λq=>?_))));{have z:zg7 a 6=true:=q;simp[zdU,h,scan,z,b]};have d:zg7 a 6=false:=q;show iter 8 _ (a,5,())=_;rw[zdN];refine must rfl (must rfl (must c (must rfl (br (λp=>?_) λp=>?_))));{have y:zg7 a 5=true:=p;simp[zdU,h,scan,y,b,d]};have e:zg7 a 5=false:=p;show iter 7 _ (a,4,())=_;rw[zdN];refine must rfl (must rfl (must c (must rfl (br (λn=>?_) λn=>?_))));{have x:zg7 a 4=true:=n;simp[zdU,h,scan,x,b,d,e]};have f:zg7 a 4=false:=n;show iter 6 _ (a,3,())=_;rw[zdN];refine must rfl (must rfl (must c (must rfl (br (λm=>?_) λm=>?_))));{have w:zg7 a 3=true:=m;simp[zdU,h,scan,w,b,d,e,f]};have g:zg7 a 3=false:=m;show iter 5 _ (a,2,())=_;rw[zdN];refine must rfl (must rfl (must c (must rfl (br (λl=>?_) λl=>?_))));{have v:zg7 a 2=true:=l;simp[zdU,h,scan,v,b,d,e,f,g]};have i:zg7 a 2=false:=l;show iter 4 _ (a,1,())=_;rw[zdN];refine must rfl (must rfl (must c (must rfl (br (λk=>?_) λk=>?_))));{have u:zg7 a 1=true:=k;simp[zdU,h,scan,u,b,d,e,f,g,i]};have s:zg7 a 1=false:=k;show iter 3 _ (a,0,())=_;rw[zdN];refine must rfl (must rfl (must c (must rfl (br (λj=>?_) λj=>?_))));{have t:zg7 a 0=true:=j;simp[zdU,h,scan,t,b,d,e,f,g,i,s]};have B:zg7 a 0=false:=j;show iter 2 _ (a,-1,())=_;rw[zdN];refine zcQ rfl ?_;simp[zdU,h,scan,b,d,e,f,g,i,s,B]}
theorem zLB:vQ 303 zn5:=kF1 zgd zq zo zu zTV zSs
@[simp] abbrev zgl (l:List (List Int)):Bool:=pc (SmM l)
@[simp] abbrev zdM (l:List (List Int)):List (List Int):=l
def zyB:Run:=rF1 (dS<|.sl .int) λb=>(zgl b,[aS (.sl .int)<|zdM b])
def zDh (N:Nat)(c:lM):OA:=
 (iter (σ:=(Int×Int×lM×lM×Unit)) N (λd a=>let b:=ix a.2.2.2.1 a.2.1 []; (cond (ilt a.2.1 a.1) (oN (inb a.2.1<|ln a.2.2.2.1)<|oN (zdQ b)<|oN (few<|ln<|ap a.2.2.1 [zdP b])<|d (a.1,zI .i64 a.2.1 1,ap a.2.2.1 [zdP b],a.2.2.2.1,()))<|some [aS (.sl .int) a.2.2.1])) (ln c,0,[],c,()))
def zPV:=zx [(144,0,{n:=20,tm:=[(3,.sl 0 []),(7,.sl 1 []),(8,ti),(9,ti)],lo:=[],ro:=[(0,.sl .int,true),(1,.sl .int,false)]})]
theorem zPh (a:List (List Int))(g:zgl a=true):∃N,zDh N a=some [aS (.sl .int)<|zdM a]:=by
 have f:=zJ.1 g;have e:=zcu f.1;refine zbZ λN d=>?_;unfold zDh oN;conv=>zeta
 refine(zX a (λi (t:lM)=>(ln a,(i:Int),t,a,())) _ (λ_ x b j=>bif zdQ x then (cond (few<|ln<|ap b [zdP x]) (j<|ap b [zdP x]) none) else none) (λ(t:lM)=>some [.one<|.s (.sl .int) t]) (λi c t rec=>?_) (λt rec=>?_) _ ([])<|d e.1).trans ?_;{simp only [zbq c,zS c,zba c,zQ c e.1,cT]};{simp only [zbl,cF]};exact zjr zdQ zdP _ a 0 [] (λx h=>⟨by exact zbo (jC (f.2 x h) (by decide)),rfl⟩) (by simpa using e.2)
theorem zIe:vQ 144 zyB:=kF1 zgd zq zo zu zPV zPh
@[simp] abbrev zK (g:Guest):Bool:=pc (SmG g)
@[simp] abbrev zcA (g:Guest):Guest:=g
def zul:Run:=rF1 (dT .guest) λb=>(zK b,[aT .guest<|zcA b])
def zx8 (N:Nat)(a:Guest):OA:=
 (oN (zsV a.Prog)<|oN (zgU a.Written)<|oN (zgU a.Live)<|oN (zdQ a.Seen)<|some [aT .guest ({a with Prog:=(znS a.Prog),Written:=(zfx a.Written),Live:=(zfx a.Live),Seen:=(zdP a.Seen)}:Guest)])
theorem zI5 (a:Guest)(b:zK a=true):∃N,zx8 N a=some [aT .guest<|zcA a]:=by have c:=zJ.1 b;obtain⟨h,i,j,k⟩:=c;have d:a.Prog.length<=2147483648:=(by omega);have e:a.Written.length<=2147483648:=(by omega);have f:a.Live.length<=2147483648:=(by omega);have g:a.Seen.length<=2147483648:=(by omega);refine⟨0,?_⟩;unfold zx8 oN;refine mu (mu<|mu<|mu ?_);first|rfl|(simp only [*,zcA,cT,cF]<;>rfl)|simp_all[Ty.cells,zcA]
theorem zCp:vQ 168 zul:=kF1 zgd zq zo zu (zx []) zI5
def zez (t:List Slot)(p n:Int):Bool:=bif ieq (zbn t p).Page (-1) then false else (cond (enough (zbn t p).Rights n) (zi n 1 3) false)
def zb4 (t:List Slot)(p n:Int):Int:=bif zez t p n then (zbn t p).Page else -1
theorem z2J {r:Int}(h:zdB r=true):0<=r/\r<=3:=zfj.1 h
theorem zXf {a n:Int}(h:enough a n=true):zi n 1 3 = !ieq n 0:=by unfold enough at h;cases b:zdB a;{rw [b]at h;cases h};{cases c:zdB n;{rw [b,c]at h;cases h};{have:=z2J c;have e:(zi n 1 3=true)↔(!ieq n 0)=true:=(by rw[zfj];simp[ieq];omega);cases d:zi n 1 3<;>cases f:(!ieq n 0)<;>simp_all}}
@[simp] abbrev zgT (t:List Slot)(p n:Int):Bool:=true
@[simp] abbrev zeB (t:List Slot)(p n:Int):Int:=zb4 t p n
@[simp] abbrev zec (t:List Slot)(p n:Int):Bool:=zez t p n
def zko:Run:=rF3 (dS .slot) dI dI λb c d=>(zgT b c d,[aI<|zeB b c d,aB<|zec b c d])
def zx6 (N:Nat)(c:lS)(d a:Int):OA:=
 let b:=zd7 c d; (oN (zeN c d)<|cond (ieq b.Page<|-1) (some [aI<|-1,aB false])<|oN (zbg b.Rights a)<|cond (nB<|zcF b.Rights a) (some [aI<|-1,aB false])<|oN (zG a 1 3)<|cond (nB<|zi a 1 3) (some [aI<|-1,aB false])<|some [aI b.Page,aB true])
theorem zI3 (a:List Slot)(b c:Int)(d:zgT a b c=true):∃N,zx6 N a b c=some [aI<|zeB a b c,aB<|zec a b c]:=by
 refine⟨0,?_⟩;unfold zx6 oN nB;conv=>zeta
 refine must rfl (br (λ_=>?_) λ_=>must rfl (brN (λ_=>?_) λ_=>must rfl (brN (λ_=>?_) λ_=>?_)));all_goals first|rfl|(simp only [*,zeB,zec,zb4,zez,cT,cF]<;>rfl)|simp_all[Ty.cells,zeB,zec,zb4,zez]
theorem zCm:vQ 181 zko:=kF3 zgd zq zo zu (zx []) zI3
def zyl (N:Nat)(c:lS)(d b:Int):OA:=
 let a:=zd7 c d; (oN (zeN c d)<|cond (ieq a.Page<|-1) (some [aI<|-1,aB false])<|oN (zbg a.Rights b)<|cond (nB<|zcF a.Rights b) (some [aI<|-1,aB false])<|cond (ieq b 0) (some [aI<|-1,aB false])<|some [aI a.Page,aB true])
theorem zJi (a:List Slot)(b c:Int)(d:zgT a b c=true):∃N,zyl N a b c=some [aI<|zeB a b c,aB<|zec a b c]:=by
 have e:=@zXf (zbn a b).Rights c;refine⟨0,?_⟩;unfold zyl oN nB;conv=>zeta
 refine must rfl (br (λ_=>?_) λ_=>must rfl (brN (λ_=>?_) λ_=>br (λ_=>?_) λ_=>?_));all_goals first|rfl|(simp only [*,zeB,zec,zb4,zez,cT,cF]<;>rfl)|simp_all[Ty.cells,zeB,zec,zb4,zez]
theorem zCC:vQ 206 zko:=kF3 zgd zq zo zu (zx []) zJi
def z4g:zV:=[(277,zhT),(144,zyB),(168,zul),(206,zko),(181,zko),(293,zqh),(146,zqh),(348,zom),(310,zom),(226,zqe),(244,zqe),(303,zn5),(271,zn5)]++z4f
theorem zge:zL z4g:=zh znk (zh zIe<|zh zCp<|zh zCC<|zh zCm<|zh zOY<|zh zOL<|zh zLw<|zh zK4<|zh zOU<|zh zOI<|zh zLB<|zh zLa zgd)
@[simp] abbrev ze5 (m:List (List Int))(p c v:Int):Bool:=pc (SmM m)
@[simp] abbrev zfe (m:List (List Int))(p c v:Int):List (List Int):=zbD m p c v
def zlK:Run:=rF4 (dS<|.sl .int) dI dI dI λb c d e=>(ze5 b c d e,[aS (.sl .int)<|zfe b c d e])
def zzT (N:Nat)(c:lM)(a d e:Int):OA:=
 let b:=zeY c; (oN (zgq c)<|oN (zff c a d)<|cond (zpL c a d) (oN (zG e 0 99)<|cond (zi e 0 99) (oN (inb a<|ln b)<|oN (inb d<|ln<|ix b a [])<|share (up b a<|up (ix b a []) d e) λf=>some [aS (.sl .int) f])<|some [aS (.sl .int) b])<|some [aS (.sl .int) b])
theorem zMn (a:List (List Int))(b c d:Int)(e:ze5 a b c d=true):∃N,zzT N a b c d=some [aS (.sl .int)<|zfe a b c d]:=by
 have g:=zJ.1 e;have f:=(zxE a b c).1;refine⟨0,?_⟩;unfold zzT oN;conv=>zeta
 refine mu (must rfl (br (λ_=>must rfl (br (λ_=>mu (mu<|shr ?_)) λ_=>?_)) λ_=>?_));all_goals first|rfl|(simp only [*,zfe,zbD,cT,cF]<;>rfl)|simp_all[Ty.cells,zfe,zbD]
theorem zFS:vQ 211 zlK:=kF4 zge zq zo zu (zx []) zMn
def zzs (N:Nat)(a:lM)(b c d:Int):OA:=
 let e:=aS (.sl .int)<|zdM a; (oN (zgl a)<|oN (zbg b<|ln a)<|cond (zcq b<|ln a) (oN (inb b<|ln a)<|oN (zbg c<|ln<|ix a b [])<|cond (zcq c<|ln<|ix a b []) (oN (zG d 0 99)<|cond (zi d 0 99) (oN (inb b<|ln<|zdM a)<|oN (inb c<|ln<|ix (zdM a) b [])<|share (up (zdM a) b<|up (ix (zdM a) b []) c d) λf=>some [aS (.sl .int) f])<|some [e])<|some [e])<|some [e])
theorem zL0 (a:List (List Int))(b c d:Int)(e:ze5 a b c d=true):∃N,zzs N a b c d=some [aS (.sl .int)<|zfe a b c d]:=by
 have f:=zJ.1 e;refine⟨0,?_⟩;unfold zzs oN;conv=>zeta
 refine mu (must rfl (br (λ_=>mu (must rfl (br (λ_=>must rfl (br (λ_=>mu (mu<|shr ?_)) λ_=>?_)) λ_=>?_))) λ_=>?_));all_goals first|rfl|(simp only [*,zfe,zbD,zf7,cT,cF]<;>rfl)|simp_all[Ty.cells,zfe,zbD,zf7]
theorem zFs:vQ 77 zlK:=kF4 zge zq zo zu (zx []) zL0
def ziE (g:Guest):Bool:=bif canRun g then (cond g.Ctl.Open (ige (zdU g.Pending) 0) false) else false
@[simp] abbrev zbp (g:Guest):Bool:=true
@[simp] abbrev zjM (g:Guest):Bool:=ziE g
def zlJ:Run:=rF1 (dT .guest) λb=>(zbp b,[aB<|zjM b])
def zzS (N:Nat)(a:Guest):OA:=
 (oN (zr3 a)<|cond (zm4 a) (cond a.Ctl.Open (oN (zb2 a.Pending)<|some [aB<|ige (zgS a.Pending) 0]) oF) oF)
theorem zv4 (a:Guest)(b:zbB big [aT .guest a])(c:zbp a=true):∃N,zzS N a=some [aB<|zjM a]:=by refine⟨0,?_⟩;unfold zzS oN;refine must rfl (br (λ_=>br (λ_=>must rfl ?_) λ_=>?_) λ_=>?_);all_goals first|rfl|(simp only [*,zjM,ziE,cT,cF]<;>rfl)|simp_all[Ty.cells,zjM,ziE]
theorem zFR:vQ 291 zlJ:=hF1 zge zq zo zu (zx []) zv4
theorem zFr:vQ 165 zlJ:=hF1 zge zq zo zu (zx []) zv4
def zhZ (p:Int):Int:=bif ilt (zdU p) 0 then p else wsub .i64 p (zld .i64 1<|zdU p)
def znV (p:Int):Int:=bif ilt (zdU p) 0 then -1 else zdU p
theorem zOx {p:Int}(h:ilt (zdU p) 0=false):wcv .u64 (zdU p)=zdU p/\ile 0 (zdU p)=true/\zx0 .i64 p (zld .i64 1<|zdU p)=wsub .i64 p (zld .i64 1<|zdU p):=by unfold zdU at *;cases a:zdu p;{rw [a]at h;cases h};{simp only [a,cT]at h ⊢;obtain⟨c,d⟩:=zfj.1 a;have r:=zAZ (P:=λx=>-1<=scan x/\scan x<=7/\(0<=scan x->wsub .i64 x (zld .i64 1<|scan x)=zx0 .i64 x (zld .i64 1<|scan x))) zTg c d;have b:0<=scan p:=(by unfold ilt at h;have:=jR h;omega);exact⟨zM8 b (by omega),qK b,(r.2.2 b).symm⟩}
@[simp] abbrev zfB (p:Int):Int:=zhZ p
@[simp] abbrev zfC (p:Int):Int:=znV p
@[simp] abbrev zhn (p:Int):Bool:=!ilt (zdU p) 0
def zmK:Run:=rF1 dI λb=>(zb2 b,[aI<|zfB b,aI<|zfC b,aB<|zhn b])
def zDH (N:Nat)(a:Int):OA:=
 (oN (zb2 a)<|cond (ilt (zgS a) 0) (some [aI a,aI<|-1,aB false])<|oN (ile 0<|wcv .u64<|zgS a)<|some [aI<|wsub .i64 a<|zld .i64 1<|wcv .u64<|zgS a,aI<|zgS a,aB true])
theorem zPE (a:Int)(b:zb2 a=true):∃N,zDH N a=some [aI<|zfB a,aI<|zfC a,aB<|zhn a]:=by have c:=@zOx a;refine⟨0,?_⟩;unfold zDH oN;refine must rfl (br (λ_=>?_) λ_=>mu ?_);all_goals first|rfl|(simp only [*,zfB,zfC,zhn,zhZ,znV,cT,cF]<;>rfl)|simp_all[Ty.cells,zfB,zfC,zhn,zhZ,znV]
theorem zIB:vQ 228 zmK:=kF1 zge zq zo zu (zx []) zPE
def zDg (N:Nat)(a:Int):OA:=
 (oN (zb2 a)<|cond (ilt (zgS a) 0) (some [aI a,aI<|-1,aB false])<|oN (ile 0<|zgS a)<|some [aI<|zx0 .i64 a<|zld .i64 1<|zgS a,aI<|zgS a,aB true])
theorem zPg (a:Int)(b:zb2 a=true):∃N,zDg N a=some [aI<|zfB a,aI<|zfC a,aB<|zhn a]:=by have c:=@zOx a;refine⟨0,?_⟩;unfold zDg oN;refine must rfl (br (λ_=>?_) λ_=>mu ?_);all_goals first|rfl|(simp only [*,zfB,zfC,zhn,zhZ,znV,cT,cF]<;>rfl)|simp_all[Ty.cells,zfB,zfC,zhn,zhZ,znV]
theorem zId:vQ 248 zmK:=kF1 zge zq zo zu (zx []) zPg
def saw (g:Guest)(n:Int):Guest:=bif ilt (ln g.Seen) 40 then {g with Seen:=ap g.Seen [n]} else g
@[simp] theorem zMK {g:Guest}(n:Int)(h:SmG g):SmG (saw g n):=by unfold saw;cases a:ilt (ln g.Seen) 40;{exact h};{have:=qD a;refine⟨h.1,h.2.1,h.2.2.1,?_⟩;simp[ln] at *;omega}
@[simp] abbrev zsp (g:Guest)(n:Int):Bool:=pc (SmG g)
@[simp] abbrev zoN (g:Guest)(n:Int):Guest:=saw g n
def zut:Run:=rF2 (dT .guest) dI λb c=>(zsp b c,[aT .guest<|zoN b c])
def zVw (N:Nat)(a:Guest)(b:Int):OA:=
 (oN (zdD a)<|cond (ilt (ln (zc2 a).Seen) 40) (oN (few<|ln<|ap (zc2 a).Seen [b])<|some [aT .guest ({ (zc2 a) with Seen:=(ap (zc2 a).Seen [b])}:Guest)])<|some [aT .guest<|zc2 a])
theorem zZW (a:Guest)(b:Int)(c:zsp a b=true):∃N,zVw N a b=some [aT .guest<|zoN a b]:=by have d:=zJ.1 c;have e:a.Seen.length<=1048576:=d.2.2.2;refine⟨0,?_⟩;unfold zVw oN;refine mu (br (λ_=>mu ?_) λ_=>?_);all_goals first|rfl|(simp only [*,zoN,saw,cT,cF]<;>rfl)|simp_all[Ty.cells,zoN,saw]
theorem zUu:vQ 295 zut:=kF2 zge zq zo zu (zx []) zZW
def zVs (N:Nat)(a:Guest)(b:Int):OA:=
 (oN (zK a)<|cond (ilt (ln a.Seen) 40) (oN (few<|ln<|ap (zcA a).Seen [b])<|some [aT .guest ({ (zcA a) with Seen:=(ap (zcA a).Seen [b])}:Guest)])<|some [aT .guest<|zcA a])
theorem zZS (a:Guest)(b:Int)(c:zsp a b=true):∃N,zVs N a b=some [aT .guest<|zoN a b]:=by have d:=zJ.1 c;have e:a.Seen.length<=1048576:=d.2.2.2;refine⟨0,?_⟩;unfold zVs oN;refine mu (br (λ_=>mu ?_) λ_=>?_);all_goals first|rfl|(simp only [*,zoN,saw,cT,cF]<;>rfl)|simp_all[Ty.cells,zoN,saw]
theorem zUs:vQ 170 zut:=kF2 zge zq zo zu (zx []) zZS
def stopped (g:Guest)(e:GExit):Guest:={g with Exit:=e}
@[simp] theorem z8t {g:Guest}(e:GExit)(h:SmG g):SmG (stopped g e):=h
@[simp] abbrev zcB (g:Guest)(e:GExit):Bool:=pc (SmG g)
@[simp] abbrev zck (g:Guest)(e:GExit):Guest:=stopped g e
def zmI:Run:=rF2 (dT .guest) dE λb c=>(zcB b c,[aT .guest<|zck b c])
def zDF (N:Nat)(a:Guest)(b:GExit):OA:=
 (oN (zdD a)<|some [aT .guest ({ (zc2 a) with Exit:=b}:Guest)])
theorem zPC (a:Guest)(b:GExit)(c:zcB a b=true):∃N,zDF N a b=some [aT .guest<|zck a b]:=by have d:=zJ.1 c;refine⟨0,?_⟩;unfold zDF oN;refine mu ?_;first|rfl|(simp only [*,zck,stopped,cT,cF]<;>rfl)|simp_all[Ty.cells,zck,stopped]
theorem zIz:vQ 209 zmI:=kF2 zge zq zo zu (zx []) zPC
def zDe (N:Nat)(a:Guest)(b:GExit):OA:=
 (oN (zK a)<|some [aT .guest ({ (zcA a) with Exit:=b}:Guest)])
theorem zPe (a:Guest)(b:GExit)(c:zcB a b=true):∃N,zDe N a b=some [aT .guest<|zck a b]:=by have d:=zJ.1 c;refine⟨0,?_⟩;unfold zDe oN;refine mu ?_;first|rfl|(simp only [*,zck,stopped,cT,cF]<;>rfl)|simp_all[Ty.cells,zck,stopped]
theorem zIb:vQ 75 zmI:=kF2 zge zq zo zu (zx []) zPe
def zbT (g:Guest):Guest:=bif ige g.Pc 12 then {g with Pc:=12} else {g with Pc:=zI .i64 g.Pc 1}
@[simp] theorem zla {g:Guest}(h:SmG g):SmG (zbT g):=by unfold zbT;cases ige g.Pc 12<;>exact h
@[simp] abbrev zb5 (g:Guest):Guest:=zbT g
def zhh:Run:=rF1 (dT .guest) λb=>(zK b,[aT .guest<|zb5 b])
def zNs (N:Nat)(a:Guest):OA:=
 (oN (zdD a)<|cond (ige (zc2 a).Pc 12) (some [aT .guest ({ (zc2 a) with Pc:=12}:Guest)])<|some [aT .guest ({ (zc2 a) with Pc:=(zI .i64 (zc2 a).Pc 1)}:Guest)])
theorem zUL (a:Guest)(b:zK a=true):∃N,zNs N a=some [aT .guest<|zb5 a]:=by have c:=zJ.1 b;refine⟨0,?_⟩;unfold zNs oN;refine mu (br (λ_=>?_) λ_=>?_);all_goals first|rfl|(simp only [*,zb5,zbT,cT,cF]<;>rfl)|simp_all[Ty.cells,zb5,zbT]
theorem zO0:vQ 223 zhh:=kF1 zge zq zo zu (zx []) zUL
def zNg (N:Nat)(a:Guest):OA:=
 (oN (zK a)<|cond (ige a.Pc 12) (some [aT .guest ({ (zcA a) with Pc:=12}:Guest)])<|some [aT .guest ({ (zcA a) with Pc:=(zI .i64 a.Pc 1)}:Guest)])
theorem zUA (a:Guest)(b:zK a=true):∃N,zNg N a=some [aT .guest<|zb5 a]:=by have c:=zJ.1 b;refine⟨0,?_⟩;unfold zNg oN;refine mu (br (λ_=>?_) λ_=>?_);all_goals first|rfl|(simp only [*,zb5,zbT,cT,cF]<;>rfl)|simp_all[Ty.cells,zb5,zbT]
theorem zOO:vQ 169 zhh:=kF1 zge zq zo zu (zx []) zUA
def z4h:zV:=[(211,zlK),(77,zlK),(291,zlJ),(165,zlJ),(228,zmK),(248,zmK),(295,zut),(170,zut),(209,zmI),(75,zmI),(223,zhh),(169,zhh)]++z4g
theorem zeT:zL z4h:=zh zFS (zh zFs<|zh zFR<|zh zFr<|zh zIB<|zh zId<|zh zUu<|zh zUs<|zh zIz<|zh zIb<|zh zO0<|zh zOO zge)
def interrupted (g:Guest):Guest:=bif ziE g then saw {g with Pending:=zhZ g.Pending} (zI .i64 100<|znV g.Pending) else g
@[simp] theorem zWm {g:Guest}(h:SmG g):SmG (interrupted g):=by unfold interrupted;cases ziE g;{exact h};{exact zMK (g:={g with Pending:=zhZ g.Pending}) _ h}
@[simp] abbrev zeE (g:Guest):Guest:=interrupted g
def ziK:Run:=rF1 (dT .guest) λb=>(zK b,[aT .guest<|zeE b])
def ztK (N:Nat)(a:Guest):OA:=
 let c:=zI .i64 100<|zfC a.Pending;let b:=({a with Pending:=(zfB a.Pending)}:Guest); (oN (zbp a)<|cond (nB<|zjM a) (oN (zdD a)<|some [aT .guest<|zc2 a])<|oN (zb2 a.Pending)<|oN (zsp b c)<|some [aT .guest<|zoN b c])
theorem zCX (a:Guest)(b:zK a=true):∃N,ztK N a=some [aT .guest<|zeE a]:=by
 have c:=zJ.1 b;have d:_/\_/\_/\_:=c;refine⟨0,?_⟩;unfold ztK oN nB;conv=>zeta
 refine must rfl (brN (λ_=>mu ?_) λ_=>must rfl (mu ?_));all_goals first|rfl|(simp only [*,zeE,interrupted,cT,cF]<;>rfl)|simp_all[Ty.cells,zeE,interrupted]
theorem zzf:vQ 203 ziK:=kF1 zeT zq zo zu (zx []) zCX
def zty (N:Nat)(a:Guest):OA:=
 let c:=zI .i64 100<|zfC a.Pending;let b:=({a with Pending:=(zfB a.Pending)}:Guest); (oN (zbp a)<|cond (nB<|zjM a) (oN (zK a)<|some [aT .guest<|zcA a])<|oN (zb2 a.Pending)<|oN (zsp b c)<|some [aT .guest<|zoN b c])
theorem zCM (a:Guest)(b:zK a=true):∃N,zty N a=some [aT .guest<|zeE a]:=by
 have c:=zJ.1 b;have d:_/\_/\_/\_:=c;refine⟨0,?_⟩;unfold zty oN nB;conv=>zeta
 refine must rfl (brN (λ_=>mu ?_) λ_=>must rfl (mu ?_));all_goals first|rfl|(simp only [*,zeE,interrupted,cT,cF]<;>rfl)|simp_all[Ty.cells,zeE,interrupted]
theorem zy5:vQ 179 ziK:=kF1 zeT zq zo zu (zx []) zCM
def zwa (o:Int):Int:=bif ieq o 3 then 3 else (cond (ieq o 4) 4<|cond (ieq o 5) 5<|cond (ieq o 6) 6<|cond (ieq o 7) 7 2)
def zD (g:Guest):Int:=bif canRun g then (cond (ziE g) 1<|zwa (zb8 g.Prog g.Pc).Op) else 0
@[simp] abbrev zg1 (g:Guest):Int:=zD g
def zoq:Run:=rF1 (dT .guest) λb=>(zbp b,[aI<|zg1 b])
def zHk (N:Nat)(a:Guest):OA:=
 let b:=(zdn a.Prog a.Pc).Op; (oN (zr3 a)<|cond (nB<|zm4 a) (some [aI 0])<|oN (zbp a)<|cond (zjM a) (some [aI 1])<|oN (zdw a.Prog a.Pc)<|cond (ieq b 3) (some [aI 3])<|cond (ieq b 4) (some [aI 4])<|cond (ieq b 5) (some [aI 5])<|cond (ieq b 6) (some [aI 6])<|cond (ieq b 7) (some [aI 7])<|some [aI 2])
theorem zAT (a:Guest)(b:zbB big [aT .guest a])(c:zbp a=true):∃N,zHk N a=some [aI<|zg1 a]:=by
 refine⟨0,?_⟩;unfold zHk oN nB;conv=>zeta
 refine must rfl (brN (λ_=>?_) λ_=>must rfl (br (λ_=>?_) λ_=>must rfl (br (λ_=>?_) λ_=>br (λ_=>?_) λ_=>br (λ_=>?_) λ_=>br (λ_=>?_) λ_=>br (λ_=>?_) λ_=>?_)));all_goals first|rfl|(simp only [*,zg1,zD,zwa,cT,cF]<;>rfl)|simp_all[Ty.cells,zg1,zD,zwa]
theorem zch:vQ 201 zoq:=hF1 zeT zq zo zu (zx []) zAT
theorem zLc:vQ 70 zoq:=hF1 zeT zq zo zu (zx []) zAT
def held (g:Guest):Guest:=zbT {g with Halted:=true}
@[simp] theorem zTl {g:Guest}(h:SmG g):SmG (held g):=zla (g:={g with Halted:=true}) h
@[simp] abbrev zjX (g:Guest):Guest:=held g
def zr2:Run:=rF1 (dT .guest) λb=>(zK b,[aT .guest<|zjX b])
def zQt (N:Nat)(b:Guest):OA:=
 let a:=({b with Halted:=true}:Guest); (oN (zK a)<|some [aT .guest<|zb5 a])
theorem zJe (a:Guest)(d:zbB big [aT .guest a])(b:zK a=true):∃N,zQt N a=some [aT .guest<|zjX a]:=by
 have c:=zJ.1 b;have e:_/\_/\_/\_:=c;refine⟨0,?_⟩;unfold zQt oN;conv=>zeta
 refine mu ?_;first|rfl|(simp only [*,zjX,held,cT,cF]<;>rfl)|simp_all[Ty.cells,zjX,held]
theorem zRH:vQ 224 zr2:=hF1 zeT zq zo zu (zx []) zJe
theorem zRC:vQ 174 zr2:=hF1 zeT zq zo zu (zx []) zJe
def zHh (N:Nat)(a:Guest):OA:=
 (oN (zK a)<|some [aT .guest<|zb5 a])
theorem zAS (a:Guest)(c:zbB big [aT .guest a])(b:zK a=true):∃N,zHh N a=some [aT .guest<|zb5 a]:=by have d:=zJ.1 b;refine⟨0,?_⟩;unfold zHh oN;refine mu ?_;first|rfl|(simp only [*,zb5,cT,cF]<;>rfl)|simp_all[Ty.cells,zb5]
theorem zLA:vQ 213 zhh:=hF1 zeT zq zo zu (zx []) zAS
theorem zK9:vQ 79 zhh:=hF1 zeT zq zo zu (zx []) zAS
def loaded (g:Guest)(v:Int):Guest:=zbT (saw {g with A:=v} v)
@[simp] theorem zJW {g:Guest}(v:Int)(h:SmG g):SmG (loaded g v):=zla (zMK (g:={g with A:=v}) v h)
@[simp] abbrev zlO (g:Guest)(v:Int):Bool:=pc (SmG g)
@[simp] abbrev zjJ (g:Guest)(v:Int):Guest:=loaded g v
def zog:Run:=rF2 (dT .guest) dI λb c=>(zlO b c,[aT .guest<|zjJ b c])
def zG5 (N:Nat)(c:Guest)(a:Int):OA:=
 let b:=({c with A:=a}:Guest); (oN (zsp b a)<|oN (zK<|zoN b a)<|some [aT .guest<|zb5<|zoN b a])
theorem zAO (b:Guest)(a:Int)(e:zbB big [aT .guest b,aI a])(d:zlO b a=true):∃N,zG5 N b a=some [aT .guest<|zjJ b a]:=by
 have c:=zJ.1 d;have h:_/\_/\_/\_:=c;have f:SmG (saw {b with A:=a} a):=zMK (g:={b with A:=a}) a c;refine⟨0,?_⟩;unfold zG5 oN;conv=>zeta
 refine mu (mu ?_);first|rfl|(simp only [*,zjJ,loaded,cT,cF]<;>rfl)|simp_all[Ty.cells,zjJ,loaded]
theorem zLo:vQ 214 zog:=hF2 zeT zq zo zu (zx []) zAO
theorem zKV:vQ 80 zog:=hF2 zeT zq zo zu (zx []) zAO
def zpS (g:Guest)(w:Int):Guest:=bif ieq w 5 then stopped g (zwb (zb8 g.Prog g.Pc).X) else stopped g ⟨4,0,false,0⟩
@[simp] theorem z8u {g:Guest}(w:Int)(h:SmG g):SmG (zpS g w):=by unfold zpS;cases ieq w 5<;>exact h
@[simp] abbrev zl9 (g:Guest)(w:Int):Bool:=pc (SmG g)
@[simp] abbrev zjh (g:Guest)(w:Int):Guest:=zpS g w
def zyD:Run:=rF2 (dT .guest) dI λb c=>(zl9 b c,[aT .guest<|zjh b c])
def zDk (N:Nat)(a:Guest)(c:Int):OA:=
 let b:=(zdn a.Prog a.Pc).X; (cond (ieq c 5) (oN (zdw a.Prog a.Pc)<|oN (zfO b)<|oN (zcB a<|zjj b)<|some [aT .guest<|zck a<|zjj b])<|oN (zcB a (⟨4,0,false,0⟩:GExit))<|some [aT .guest<|zck a (⟨4,0,false,0⟩:GExit)])
theorem zPk (a:Guest)(b:Int)(c:zl9 a b=true):∃N,zDk N a b=some [aT .guest<|zjh a b]:=by
 have d:=zJ.1 c;refine⟨0,?_⟩;unfold zDk oN;conv=>zeta
 refine br (λ_=>must rfl (must rfl (mu ?_))) (λ_=>mu ?_);all_goals first|rfl|(simp only [*,zjh,zpS,cT,cF]<;>rfl)|simp_all[Ty.cells,zjh,zpS]
theorem zIh:vQ 173 zyD:=kF2 zeT zq zo zu (zx []) zPk
def zdG (g:Guest):Bool:=zdv g.Prog&&(zi g.A 0 99&&(zi g.Pc 0 12&&(zcJ g.Written 4 8&&(zcJ g.Live 4 8&&(zlm g.Ctl&&(zdu g.Pending&&(zh9 g.Exit&&ile (ln g.Seen) 40)))))))
@[simp] abbrev zhj (g:Guest):Bool:=zdG g
def zmE:Run:=rF1 (dT .guest) λb=>(zbp b,[aB<|zhj b])
def zDq (N:Nat)(a:Guest):OA:=
 (oN (zr8 a.Prog)<|cond (zg0 a.Prog) (oN (zG a.A 0 99)<|cond (zi a.A 0 99) (oN (zG a.Pc 0 12)<|cond (zi a.Pc 0 12) (oN (ziz a.Written 4 8)<|cond (zew a.Written 4 8) (oN (ziz a.Live 4 8)<|cond (zew a.Live 4 8) (oN (zfZ a.Ctl)<|cond (zpH a.Ctl) (oN (zb2 a.Pending)<|cond (zeo a.Pending) (oN (zr4 a.Exit)<|cond (zk2 a.Exit) (some [aB<|ile (ln a.Seen) 40]) oF) oF) oF) oF) oF) oF) oF) oF)
theorem zys (a:Guest)(b:zbB big [aT .guest a])(c:zbp a=true):∃N,zDq N a=some [aB<|zhj a]:=by refine⟨0,?_⟩;unfold zDq oN;refine must rfl (br (λ_=>must rfl (br (λ_=>must rfl (br (λ_=>must rfl (br (λ_=>must rfl (br (λ_=>must rfl (br (λ_=>must rfl (br (λ_=>must rfl (br (λ_=>?_) λ_=>?_)) λ_=>?_)) λ_=>?_)) λ_=>?_)) λ_=>?_)) λ_=>?_)) λ_=>?_)) λ_=>?_);all_goals first|rfl|(simp only [*,zhj,zdG,cT,cF]<;>rfl)|simp_all[Ty.cells,zhj,zdG]
theorem zIj:vQ 292 zmE:=hF1 zeT zq zo zu (zx []) zys
theorem zH6:vQ 259 zmE:=hF1 zeT zq zo zu (zx []) zys
@[simp] abbrev ziX (l:List Guest):Bool:=pc (zmR l)
@[simp] abbrev ziW (l:List Guest):List Guest:=l
def zs7:Run:=rF1 (dS .guest) λb=>(ziX b,[aS .guest<|ziW b])
def zvx (N:Nat)(c:lG):OA:=
 (iter (σ:=(Int×Int×lG×lG×Unit)) N (λd a=>let b:=ix a.2.2.2.1 a.2.1 zl; (cond (ilt a.2.1 a.1) (oN (inb a.2.1<|ln a.2.2.2.1)<|oN (zK b)<|oN (few<|ln<|ap a.2.2.1 [zcA b])<|d (a.1,zI .i64 a.2.1 1,ap a.2.2.1 [zcA b],a.2.2.2.1,()))<|some [aS .guest a.2.2.1])) (ln c,0,[],c,()))
def zGv:=zx [(230,0,{n:=20,tm:=[(3,.sl 0 []),(7,.sl 1 []),(8,ti),(9,ti)],lo:=[],ro:=[(0,.guest,true),(1,.guest,false)]})]
theorem zF2 (a:List Guest)(g:ziX a=true):∃N,zvx N a=some [aS .guest<|ziW a]:=by
 have f:=zJ.1 g;have e:=zcu f.1;refine zbZ λN d=>?_;unfold zvx oN;conv=>zeta
 refine(zX a (λi (t:lG)=>(ln a,(i:Int),t,a,())) _ (λ_ x b j=>bif zK x then (cond (few<|ln<|ap b [zcA x]) (j<|ap b [zcA x]) none) else none) (λ(t:lG)=>some [.one<|.s .guest t]) (λi c t rec=>?_) (λt rec=>?_) _ ([])<|d e.1).trans ?_;{simp only [zbq c,zS c,zba c,zQ c e.1,cT]};{simp only [zbl,cF]};exact zjr zK zcA _ a 0 [] (λx h=>⟨by exact zbo (f.2 x h),rfl⟩) (by simpa using e.2)
theorem zAq:vQ 230 zs7:=kF1 zeT zq zo zu zGv zF2
def gAt (b:Bare)(i:Int):Guest:=bif hasB i (ln b.Guests) then ix b.Guests i zl else Ty.dflt .guest
@[simp] theorem zje {b:Bare}(i:Int)(h:SmB b):SmG (gAt b i):=by unfold gAt;cases a:hasB i (ln b.Guests);{exact z8U};{exact zTm h.2.1 a _}
@[simp] abbrev zu5 (b:Bare)(i:Int):Bool:=pc (SmB b)
@[simp] abbrev zl7 (b:Bare)(i:Int):Guest:=gAt b i
@[simp] abbrev zl8 (b:Bare)(i:Int):Bool:=hasB i (ln b.Guests)
def zyA:Run:=rF2 (dT .bare) dI λb c=>(zu5 b c,[aT .guest<|zl7 b c,aB<|zl8 b c])
def zDa (N:Nat)(a:Bare)(b:Int):OA:=
 let c:=ix a.Guests b zl; (oN (zbg b<|ln a.Guests)<|cond (nB<|zcq b<|ln a.Guests) (some [aT .guest (⟨[],0,0,[],[],⟨0,0,false⟩,0,⟨0,0,false,0⟩,false,[]⟩:Guest),aB false])<|oN (inb b<|ln a.Guests)<|oN (zK c)<|some [aT .guest<|zcA c,aB true])
theorem zPa (a:Bare)(b:Int)(d:zu5 a b=true):∃N,zDa N a b=some [aT .guest<|zl7 a b,aB<|zl8 a b]:=by
 have c:=zJ.1 d;have e:a.Guests.length<=1048576:=c.2.1.1;have f:hasB b (ln a.Guests)=true->SmG (ix a.Guests b zl):=λh=>zTm c.2.1 h _;refine⟨0,?_⟩;unfold zDa oN nB;conv=>zeta
 refine must rfl (brN (λ_=>?_) λ_=>mu (mu ?_));all_goals first|rfl|(simp only [*,zl7,zl8,gAt,Ty.dflt,cT,cF]<;>rfl)|simp_all[Ty.cells,zl7,zl8,gAt,Ty.dflt]
theorem zH5:vQ 175 zyA:=kF2 zeT zq zo zu (zx []) zPa
def z4i:zV:=[(203,ziK),(179,ziK),(201,zoq),(70,zoq),(224,zr2),(174,zr2),(213,zhh),(79,zhh),(214,zog),(80,zog),(173,zyD),(292,zmE),(259,zmE),(230,zs7),(175,zyA)]++z4h
theorem zis:zL z4i:=zh zzf (zh zy5<|zh zch<|zh zLc<|zh zRH<|zh zRC<|zh zLA<|zh zK9<|zh zLo<|zh zKV<|zh zIh<|zh zIj<|zh zH6<|zh zAq<|zh zH5 zeT)
def plainly (g:Guest):Guest:=bif ine (zD g) 2 then g else (cond (zi g.A 0 99) (cond (zi (zb8 g.Prog g.Pc).X 0 99) (cond (ieq (zb8 g.Prog g.Pc).Op 1) {zbT g with A:=(zb8 g.Prog g.Pc).X}<|cond (ieq (zb8 g.Prog g.Pc).Op 2) {zbT g with A:=zlc (zI .i64 g.A (zb8 g.Prog g.Pc).X) 100}<|cond (ieq (zb8 g.Prog g.Pc).Op 8) (cond (ieq g.A 0) {zbT g with Pc:=(zb8 g.Prog g.Pc).X}<|zbT g)<|zbT g)<|zbT g)<|zbT g)
@[simp] theorem z8N (g:Guest):(zbT g).Prog=g.Prog:=by unfold zbT;cases ige g.Pc 12<;>rfl
@[simp] theorem z9u (g:Guest):(zbT g).A=g.A:=by unfold zbT;cases ige g.Pc 12<;>rfl
@[simp] theorem z7e (g:Guest):(zbT g).Written=g.Written:=by unfold zbT;cases ige g.Pc 12<;>rfl
@[simp] theorem z8M (g:Guest):(zbT g).Live=g.Live:=by unfold zbT;cases ige g.Pc 12<;>rfl
@[simp] theorem z88 (g:Guest):(zbT g).Ctl=g.Ctl:=by unfold zbT;cases ige g.Pc 12<;>rfl
@[simp] theorem z7d (g:Guest):(zbT g).Pending=g.Pending:=by unfold zbT;cases ige g.Pc 12<;>rfl
@[simp] theorem z8L (g:Guest):(zbT g).Exit=g.Exit:=by unfold zbT;cases ige g.Pc 12<;>rfl
@[simp] theorem z7Z (g:Guest):(zbT g).Halted=g.Halted:=by unfold zbT;cases ige g.Pc 12<;>rfl
@[simp] theorem z8O (g:Guest):(zbT g).Seen=g.Seen:=by unfold zbT;cases ige g.Pc 12<;>rfl
@[simp] theorem z9a (g:Guest)(x:Int):(zbT {g with A:=x}).Pc=(zbT g).Pc:=by unfold zbT;cases ige g.Pc 12<;>rfl
@[simp] theorem zEC {g:Guest}(h:SmG g):SmG (plainly g):=by have a:=zla h;unfold plainly;cases ine (zD g) 2;{cases zi g.A 0 99;{exact a};{cases zi (zb8 g.Prog g.Pc).X 0 99;{exact a};{cases ieq (zb8 g.Prog g.Pc).Op 1;{cases ieq (zb8 g.Prog g.Pc).Op 2;{cases ieq (zb8 g.Prog g.Pc).Op 8;{exact a};{cases ieq g.A 0<;>exact a}};{exact a}};{exact a}}}};{exact h}
@[simp] abbrev zhf (g:Guest):Guest:=plainly g
def zmC:Run:=rF1 (dT .guest) λb=>(zK b,[aT .guest<|zhf b])
def zDd (N:Nat)(a:Guest):OA:=
 let c:=aT .guest<|zb5 a;let b:=zdn a.Prog a.Pc; (oN (zbp a)<|cond (ine (zg1 a) 2) (oN (zK a)<|some [aT .guest<|zcA a])<|oN (zdw a.Prog a.Pc)<|oN (zK a)<|oN (zG a.A 0 99)<|cond (nB<|zi a.A 0 99) (some [c])<|oN (zG b.X 0 99)<|cond (nB<|zi b.X 0 99) (some [c])<|cond (ieq b.Op 1) (some [aT .guest ({ (zb5 a) with A:=b.X}:Guest)])<|cond (ieq b.Op 2) (oN (ine 100 0)<|some [aT .guest ({ (zb5 a) with A:=(zlc (zI .i64 a.A b.X) 100)}:Guest)])<|cond (ieq b.Op 8) (cond (ieq a.A 0) (some [aT .guest ({ (zb5 a) with Pc:=b.X}:Guest)])<|some [c])<|some [c])
theorem zPd (a:Guest)(b:zK a=true):∃N,zDd N a=some [aT .guest<|zhf a]:=by
 have c:=zJ.1 b;refine⟨0,?_⟩;unfold zDd oN nB;conv=>zeta
 refine must rfl (br (λ_=>mu ?_) λ_=>must rfl (mu (must rfl (brN (λ_=>?_) λ_=>must rfl (brN (λ_=>?_) λ_=>br (λ_=>?_) λ_=>br (λ_=>must rfl ?_) λ_=>br (λ_=>br (λ_=>?_) λ_=>?_) λ_=>?_)))));all_goals first|rfl|(simp only [*,zhf,plainly,cT,cF]<;>rfl)|simp_all[Ty.cells,zhf,plainly]
theorem zIa:vQ 180 zmC:=kF1 zis zq zo zu (zx []) zPd
def zDC (N:Nat)(a:Guest):OA:=
 let i:=ieq a.A 0;let c:=zK a;let b:=aT .guest<|zb5 a;let d:=zdn a.Prog a.Pc;let j:=({a with A:=d.X}:Guest);let h:=ieq d.Op 8;let e:=zi d.X 0 99;let g:=aT .guest ({ (zc2 a) with Pc:=d.X}:Guest);let f:=({a with A:=(zlc (zI .i64 a.A d.X) 100)}:Guest); (oN (zbp a)<|cond (ine (zg1 a) 2) (oN (zdD a)<|some [aT .guest<|zc2 a])<|oN (zdw a.Prog a.Pc)<|oN (zG a.A 0 99)<|cond (zi a.A 0 99) (oN (zG d.X 0 99)<|cond e (cond (ieq d.Op 1) (oN (zK j)<|some [aT .guest<|zb5 j])<|cond e (cond (ieq d.Op 2) (oN (ine 100 0)<|oN (zK f)<|some [aT .guest<|zb5 f])<|cond e (cond h (cond i (oN (zdD a)<|some [g])<|oN c<|some [b])<|oN c<|some [b])<|oN c<|some [b])<|cond e (cond h (cond i (oN (zdD a)<|some [g])<|oN c<|some [b])<|oN c<|some [b])<|oN c<|some [b])<|cond e (cond (ieq d.Op 2) (oN (ine 100 0)<|oN (zK f)<|some [aT .guest<|zb5 f])<|cond e (cond h (cond i (oN (zdD a)<|some [g])<|oN c<|some [b])<|oN c<|some [b])<|oN c<|some [b])<|cond e (cond h (cond i (oN (zdD a)<|some [g])<|oN c<|some [b])<|oN c<|some [b])<|oN c<|some [b])<|oN c<|some [b])
theorem zPz (a:Guest)(b:zK a=true):∃N,zDC N a=some [aT .guest<|zhf a]:=by
 have c:=zJ.1 b;have d:_/\_/\_/\_:=c;refine⟨0,?_⟩;unfold zDC oN;conv=>zeta
 refine must rfl (br (λ_=>mu ?_) λ_=>must rfl (must rfl (br (λ_=>must rfl (br (λ_=>br (λ_=>mu ?_) λ_=>br (λ_=>br (λ_=>must rfl (mu ?_)) λ_=>br (λ_=>br (λ_=>br (λ_=>mu ?_) λ_=>mu ?_) λ_=>mu ?_) λ_=>mu ?_) λ_=>br (λ_=>br (λ_=>br (λ_=>mu ?_) λ_=>mu ?_) λ_=>mu ?_) λ_=>mu ?_) λ_=>br (λ_=>br (λ_=>must rfl (mu ?_)) λ_=>br (λ_=>br (λ_=>br (λ_=>mu ?_) λ_=>mu ?_) λ_=>mu ?_) λ_=>mu ?_) λ_=>br (λ_=>br (λ_=>br (λ_=>mu ?_) λ_=>mu ?_) λ_=>mu ?_) λ_=>mu ?_)) λ_=>mu ?_)));all_goals first|rfl|(simp only [*,zhf,plainly,cT,cF]<;>rfl)|simp_all[Ty.cells,zhf,plainly]
theorem zIw:vQ 204 zmC:=kF1 zis zq zo zu (zx []) zPz
def address (g:Guest):Int:=bif ine (zD g) 3 then (cond (ine (zD g) 4) (-1)<|(zb8 g.Prog g.Pc).X) else (zb8 g.Prog g.Pc).X
@[simp] abbrev zgD (g:Guest):Int:=address g
def zmD:Run:=rF1 (dT .guest) λb=>(zbp b,[aI<|zgD b])
def zDl (N:Nat)(a:Guest):OA:=
 (oN (zbp a)<|cond (ine (zg1 a) 3) (cond (ine (zg1 a) 4) (some [aI<|-1])<|oN (zdw a.Prog a.Pc)<|some [aI (zdn a.Prog a.Pc).X])<|oN (zdw a.Prog a.Pc)<|some [aI (zdn a.Prog a.Pc).X])
theorem zyr (a:Guest)(b:zbB big [aT .guest a])(c:zbp a=true):∃N,zDl N a=some [aI<|zgD a]:=by refine⟨0,?_⟩;unfold zDl oN;refine must rfl (br (λ_=>br (λ_=>?_) λ_=>must rfl ?_) λ_=>must rfl ?_);all_goals first|rfl|(simp only [*,zgD,address,cT,cF]<;>rfl)|simp_all[Ty.cells,zgD,address]
theorem zIi:vQ 205 zmD:=hF1 zis zq zo zu (zx []) zyr
theorem zH4:vQ 71 zmD:=hF1 zis zq zo zu (zx []) zyr
def zfv (g:Guest)(t w:Int):Guest:=bif ieq w 6 then stopped g (zsB (zb8 g.Prog g.Pc).X) else (cond (ieq w 5&&zdH t 1) (stopped g<|zwb (zb8 g.Prog g.Pc).X)<|cond (ieq w 7&&zdH t 2) (stopped g ⟨4,0,false,0⟩)<|cond (ieq w 7) (held g)<|zbT g)
def zgv (t w:Int):Bool:=bif ieq w 6 then false else (cond (ieq w 5&&zdH t 1) false<|cond (ieq w 7&&zdH t 2) false true)
@[simp] theorem zBw {g:Guest}(t w:Int)(h:SmG g):SmG (zfv g t w):=by unfold zfv;cases ieq w 6;{cases (ieq w 5&&zdH t 1);{cases (ieq w 7&&zdH t 2);{cases ieq w 7;{exact zla h};{exact zTl h}};{exact h}};{exact h}};{exact h}
@[simp] abbrev zek (g:Guest)(t w:Int):Bool:=pc (SmG g)
@[simp] abbrev zcf (g:Guest)(t w:Int):Guest:=zfv g t w
@[simp] abbrev zdE (g:Guest)(t w:Int):Bool:=zgv t w
def zyR:Run:=rF3 (dT .guest) dI dI λb c d=>(zek b c d,[aT .guest<|zcf b c d,aB<|zdE b c d])
def zDN (N:Nat)(a:Guest)(c b:Int):OA:=
 let g:=aT .guest<|zb5 a;let f:=aT .guest<|zjX a;let e:=(⟨4,0,false,0⟩:GExit);let d:=(zdn a.Prog a.Pc).X; (oN (zdw a.Prog a.Pc)<|cond (ieq b 6) (oN (zfO d)<|oN (zcB a<|zha d)<|some [aT .guest<|zck a<|zha d,aB false])<|cond (ieq b 5) (oN (zfA c 1)<|cond (zeX c 1) (oN (zfO d)<|oN (zcB a<|zjj d)<|some [aT .guest<|zck a<|zjj d,aB false])<|cond (ieq b 7) (oN (zfA c 2)<|cond (zeX c 2) (oN (zcB a e)<|some [aT .guest<|zck a e,aB false])<|cond (ieq b 7) (oN (zK a)<|some [f,aB true])<|oN (zK a)<|some [g,aB true])<|cond (ieq b 7) (oN (zK a)<|some [f,aB true])<|oN (zK a)<|some [g,aB true])<|cond (ieq b 7) (oN (zfA c 2)<|cond (zeX c 2) (oN (zcB a e)<|some [aT .guest<|zck a e,aB false])<|cond (ieq b 7) (oN (zK a)<|some [f,aB true])<|oN (zK a)<|some [g,aB true])<|cond (ieq b 7) (oN (zK a)<|some [f,aB true])<|oN (zK a)<|some [g,aB true])
theorem zPK (a:Guest)(b c:Int)(d:zek a b c=true):∃N,zDN N a b c=some [aT .guest<|zcf a b c,aB<|zdE a b c]:=by
 have e:=zJ.1 d;refine⟨0,?_⟩;unfold zDN oN;conv=>zeta
 refine must rfl (br (λ_=>must rfl (mu ?_)) λ_=>br (λ_=>must rfl (br (λ_=>must rfl (mu ?_)) λ_=>br (λ_=>must rfl (br (λ_=>mu ?_) λ_=>br (λ_=>mu ?_) λ_=>mu ?_)) λ_=>br (λ_=>mu ?_) λ_=>mu ?_)) λ_=>br (λ_=>must rfl (br (λ_=>mu ?_) λ_=>br (λ_=>mu ?_) λ_=>mu ?_)) λ_=>br (λ_=>mu ?_) λ_=>mu ?_);all_goals first|rfl|(simp only [*,zcf,zdE,zfv,zgv,cT,cF]<;>rfl)|simp_all[Ty.cells,zcf,zdE,zfv,zgv]
theorem zIJ:vQ 216 zyR:=kF3 zis zq zo zu (zx []) zPK
def zbK (b:Bare):Bool:=bif b.Guests.all zdG then (zid b.Memory 8&&(zi (ln b.Guests) 1 2&&(ile (ln b.Outs) 40&&zdu b.Pending))) else false
@[simp] abbrev zjI (b:Bare):Bool:=true
@[simp] abbrev zcE (b:Bare):Bool:=zbK b
def zoa:Run:=rF1 (dT .bare) λb=>(zjI b,[aB<|zcE b])
def zGX (N:Nat)(c:Bare):OA:=
 (iter (σ:=(Int×Int×lM×lG×(List Int)×Unit)) N (λd a=>let b:=a.2.2.2.1; (cond (ilt a.1<|ln b) (oN (inb a.1<|ln b)<|oN (zbp<|ix b a.1 zl)<|cond (nB<|zhj<|ix b a.1 zl) oF<|d (zI .i64 a.1 1,a.2.1,a.2.2.1,b,a.2.2.2.2.1,()))<|oN (zih a.2.2.1 8)<|cond (zfs a.2.2.1 8) (oN (zG (ln b) 1 2)<|cond (zi (ln b) 1 2) (cond (ile (ln a.2.2.2.2.1) 40) (oN (zb2 a.2.1)<|some [aB<|zeo a.2.1]) oF) oF) oF)) (0,c.Pending,c.Memory,c.Guests,c.Outs,()))
def zTN:=zx [(202,0,{n:=38,tm:=[(1,.lp 0 0),(3,ti)],lo:=[(0,[.sl 0 [],.sl 1 [],.sl 2 [],ti])],ro:=[(0,.sl .int,false),(1,.guest,false),(2,.int,false)]})]
theorem zSc (a:Bare)(k:zbB big [aT .bare a])(m:zjI a=true):∃N,zGX N a=some [aB<|zcE a]:=by
 have j:(_:List _).length<=big:=((zcv k).1 (.s .guest a.Guests) (by simp[AV.cvs,Ty.cells])).len;refine zbZ λN h=>?_;unfold zGX oN nB;conv=>zeta
 refine(zX a.Guests (λi (t:Unit)=>((i:Int),a.Pending,a.Memory,a.Guests,a.Outs,())) _ (λ_ x (_:Unit) l=>bif (zdG) x then l () else oF) (λ(t:Unit)=>cond (zih a.Memory 8) (cond (zfs a.Memory 8) (cond (zG (ln a.Guests) 1 2) (cond (zi (ln a.Guests) 1 2) (cond (ile (ln a.Outs) 40) (cond (zb2 a.Pending) (some [.one<|.b<|zeo a.Pending]) none) oF) oF) none) oF) none) (λi f t rec=>?_) (λt rec=>?_) _ ()<|h j).trans ?_;{simp only [zbq f,zS f,zba f,zQ f j,cT];exact ziq rfl};{simp only [zbl,cF]};rw[zfU<|zdG];refine br (λc=>?_) (λc=>?_);{refine must rfl ?_;refine br (λd=>?_) (λd=>?_);{refine must rfl ?_;refine br (λe=>?_) (λe=>?_);{refine br (λg=>?_) (λg=>?_);{refine must rfl ?_;first|rfl|(simp only [c,d,e,g,zcE,zbK,cT,cF]<;>rfl)|(simp_all [Ty.cells,zcE,zbK];done)};{first|rfl|(simp only [c,d,e,g,zcE,zbK,cT,cF]<;>rfl)|(simp_all [Ty.cells,zcE,zbK];done)}};{first|rfl|(simp only [c,d,e,zcE,zbK,cT,cF]<;>rfl)|(simp_all [Ty.cells,zcE,zbK];done)}};{first|rfl|(simp only [c,d,zcE,zbK,cT,cF]<;>rfl)|(simp_all [Ty.cells,zcE,zbK];done)}};{first|rfl|(simp only [c,zcE,zbK,cT,cF]<;>rfl)|(simp_all [Ty.cells,zcE,zbK];done)}
theorem zLg:vQ 202 zoa:=hF1 zis zq zo zu zTN zSc
def zGC (N:Nat)(b:Bare):OA:=
 (iter (σ:=(Int×Int×Int×lG×lM×(List Int)×Unit)) N (λe a=>let c:=a.2.2.2.1;let d:=ix c a.2.1 zl; (cond (ilt a.2.1 a.1) (oN (inb a.2.1<|ln c)<|oN (zbp d)<|cond (nB<|zhj d) oF<|e (a.1,zI .i64 a.2.1 1,a.2.2.1,c,a.2.2.2.2.1,a.2.2.2.2.2.1,()))<|oN (zih a.2.2.2.2.1 8)<|cond (zfs a.2.2.2.2.1 8) (oN (zG (ln c) 1 2)<|cond (zi (ln c) 1 2) (cond (ile (ln a.2.2.2.2.2.1) 40) (oN (zb2 a.2.2.1)<|some [aB<|zeo a.2.2.1]) oF) oF) oF)) (ln b.Guests,0,b.Pending,b.Guests,b.Memory,b.Outs,()))
def zTE:=zx [(176,0,{n:=36,tm:=[(1,.lp 0 0),(6,.sl 0 []),(7,ti),(8,ti)],lo:=[(0,[.sl 1 [],.sl 0 [],.sl 2 [],ti])],ro:=[(0,.guest,false),(1,.sl .int,false),(2,.int,false)]})]
theorem zRR (a:Bare)(k:zbB big [aT .bare a])(m:zjI a=true):∃N,zGC N a=some [aB<|zcE a]:=by
 have j:(_:List _).length<=big:=((zcv k).1 (.s .guest a.Guests) (by simp[AV.cvs,Ty.cells])).len;refine zbZ λN h=>?_;unfold zGC oN nB;conv=>zeta
 refine(zX a.Guests (λi (t:Unit)=>(ln a.Guests,(i:Int),a.Pending,a.Guests,a.Memory,a.Outs,())) _ (λ_ x (_:Unit) l=>bif (zdG) x then l () else oF) (λ(t:Unit)=>cond (zih a.Memory 8) (cond (zfs a.Memory 8) (cond (zG (ln a.Guests) 1 2) (cond (zi (ln a.Guests) 1 2) (cond (ile (ln a.Outs) 40) (cond (zb2 a.Pending) (some [.one<|.b<|zeo a.Pending]) none) oF) oF) none) oF) none) (λi f t rec=>?_) (λt rec=>?_) _ ()<|h j).trans ?_;{simp only [zbq f,zS f,zba f,zQ f j,cT];exact ziq rfl};{simp only [zbl,cF]};rw[zfU<|zdG];refine br (λc=>?_) (λc=>?_);{refine must rfl ?_;refine br (λd=>?_) (λd=>?_);{refine must rfl ?_;refine br (λe=>?_) (λe=>?_);{refine br (λg=>?_) (λg=>?_);{refine must rfl ?_;first|rfl|(simp only [c,d,e,g,zcE,zbK,cT,cF]<;>rfl)|(simp_all [Ty.cells,zcE,zbK];done)};{first|rfl|(simp only [c,d,e,g,zcE,zbK,cT,cF]<;>rfl)|(simp_all [Ty.cells,zcE,zbK];done)}};{first|rfl|(simp only [c,d,e,zcE,zbK,cT,cF]<;>rfl)|(simp_all [Ty.cells,zcE,zbK];done)}};{first|rfl|(simp only [c,d,zcE,zbK,cT,cF]<;>rfl)|(simp_all [Ty.cells,zcE,zbK];done)}};{first|rfl|(simp only [c,zcE,zbK,cT,cF]<;>rfl)|(simp_all [Ty.cells,zcE,zbK];done)}
theorem zKM:vQ 176 zoa:=hF1 zis zq zo zu zTE zRR
@[simp] abbrev zci (b:Bare):Bool:=pc (SmB b)
@[simp] abbrev zby (b:Bare):Bare:=b
def zlD:Run:=rF1 (dT .bare) λb=>(zci b,[aT .bare<|zby b])
def zzu (N:Nat)(a:Bare):OA:=
 (oN (zgl a.Memory)<|oN (ziX a.Guests)<|oN (zdQ a.Outs)<|some [aT .bare (⟨zdM a.Memory,ziW a.Guests,zdP a.Outs,a.Pending⟩:Bare)])
theorem zL2 (a:Bare)(b:zci a=true):∃N,zzu N a=some [aT .bare<|zby a]:=by have c:=zJ.1 b;have d:_/\_/\_:=c;refine⟨0,?_⟩;unfold zzu oN;refine mu (mu<|mu ?_);first|rfl|(simp only [*,zby,cT,cF]<;>rfl)|simp_all[Ty.cells,zby]
theorem zFu:vQ 177 zlD:=kF1 zis zq zo zu (zx []) zL2
def zDM (N:Nat)(a:Bare):OA:=
 (oN (zgq a.Memory)<|oN (zf1 a.Guests)<|oN (few<|ln<|ap [] a.Outs)<|some [aT .bare (⟨zeY a.Memory,zgs a.Guests,ap [] a.Outs,a.Pending⟩:Bare)])
theorem zPJ (a:Bare)(b:zci a=true):∃N,zDM N a=some [aT .bare<|zby a]:=by have c:=zJ.1 b;have d:_/\_/\_:=c;refine⟨0,?_⟩;unfold zDM oN;refine mu (mu<|mu ?_);first|rfl|(simp only [*,zby,cT,cF]<;>rfl)|simp_all[Ty.cells,zby]
theorem zII:vQ 199 zlD:=kF1 zis zq zo zu (zx []) zPJ
def z4j:zV:=[(204,zmC),(180,zmC),(205,zmD),(71,zmD),(216,zyR),(202,zoa),(176,zoa),(177,zlD),(199,zlD)]++z4i
theorem zE8:zL z4j:=zh zIw (zh zIa<|zh zIi<|zh zH4<|zh zIJ<|zh zLg<|zh zKM<|zh zFu<|zh zII zis)
def zdS (b:Bare)(i:Int)(x:Guest):Bare:={b with Guests:=up b.Guests i x}
def zq2 (b:Bare)(i:Int)(x:Guest):Bare:=bif hasB i (ln b.Guests) then zdS b i x else b
def zi6 (b:Bare)(n:Int):Bare:=bif ilt (ln b.Outs) 40 then {b with Outs:=ap b.Outs [n]} else b
@[simp] theorem zna {b:Bare}{i:Int}{x:Guest}(h:SmB b)(a:SmG x):SmB (zdS b i x):=⟨h.1,zCd h.2.1 a,h.2.2⟩
@[simp] theorem zJU {b:Bare}{n:Int}(h:SmB b):SmB (zi6 b n):=by unfold zi6;cases a:ilt (ln b.Outs) 40;{exact h};{have:=qD a;refine⟨h.1,h.2.1,?_⟩;simp[ln] at *;omega}
@[simp] theorem z9o (b:Bare)(n:Int):(zi6 b n).Guests=b.Guests:=by unfold zi6;cases ilt (ln b.Outs) 40<;>rfl
@[simp] theorem zxW {m:List (List Int)}{p c v:Int}(h:SmM m):SmM (zbD m p c v):=by unfold zbD;cases a:zf7 m p c;{exact h};{cases b:zi v 0 99;{exact h};{exact zJY h (by simpa using z8m h ((zxE m p c).1 a).1 [])}}
@[simp] abbrev zcx (b:Bare)(i:Int)(x:Guest):Bool:=pc (SmB b/\SmG x)
@[simp] abbrev zdW (b:Bare)(i:Int)(x:Guest):Bare:=zq2 b i x
def zuk:Run:=rF3 (dT .bare) dI (dT .guest) λb c d=>(zcx b c d,[aT .bare<|zdW b c d])
def zx7 (N:Nat)(a:Bare)(b:Int)(c:Guest):OA:=
 (oN (zci a)<|oN (zbg b<|ln a.Guests)<|cond (zcq b<|ln a.Guests) (oN (zK c)<|oN (inb b<|ln (zby a).Guests)<|share (up (zby a).Guests b<|zcA c) λd=>some [aT .bare ({ (zby a) with Guests:=d}:Bare)])<|some [aT .bare<|zby a])
theorem zI4 (a:Bare)(b:Int)(c:Guest)(d:zcx a b c=true):∃N,zx7 N a b c=some [aT .bare<|zdW a b c]:=by have e:=zJ.1 d;refine⟨0,?_⟩;unfold zx7 oN;refine mu (must rfl (br (λ_=>mu (mu<|shr ?_)) λ_=>?_));all_goals first|rfl|(simp only [*,zdW,zq2,zdS,cT,cF]<;>rfl)|simp_all[Ty.cells,zdW,zq2,zdS]
theorem zCn:vQ 178 zuk:=kF3 zE8 zq zo zu (zx []) zI4
@[simp] abbrev zfL (b:Bare)(n:Int):Bool:=pc (SmB b)
@[simp] abbrev zpq (b:Bare)(n:Int):Bare:=zi6 b n
def zBd:Run:=rF2 (dT .bare) dI λb c=>(zfL b c,[aT .bare<|zpq b c])
def zGO (N:Nat)(a:Bare)(b:Int):OA:=
 (oN (zci a)<|cond (ilt (ln a.Outs) 40) (oN (few<|ln<|ap (zby a).Outs [b])<|some [aT .bare ({ (zby a) with Outs:=(ap (zby a).Outs [b])}:Bare)])<|some [aT .bare<|zby a])
theorem zR3 (a:Bare)(b:Int)(c:zfL a b=true):∃N,zGO N a b=some [aT .bare<|zpq a b]:=by have d:=zJ.1 c;have e:a.Outs.length<=1048576:=d.2.2;refine⟨0,?_⟩;unfold zGO oN;refine mu (br (λ_=>mu ?_) λ_=>?_);all_goals first|rfl|(simp only [*,zpq,zi6,cT,cF]<;>rfl)|simp_all[Ty.cells,zpq,zi6]
theorem zK5:vQ 184 zBd:=kF2 zE8 zq zo zu (zx []) zR3
def zW1:zV:=[(178,zuk),(184,zBd)]++z4j
theorem zpj:zL zW1:=zh zCn (zh zK5 zE8)
def zki (b:Bare)(g:Int)(x:Guest)(w:Bool):Bare :=
 bif zez x.Live (zbb<|address x) (zbY w) then
  (bif w then zdS {b with Memory:=zbD b.Memory (zb4 x.Live (zbb<|address x)<|zbY w) (zdh<|address x) x.A} g (zbT x)
  else zdS b g (loaded x<|cellAt b.Memory (zb4 x.Live (zbb<|address x)<|zbY w)<|zdh<|address x))
 else zdS b g (stopped x<|zqG (zbb<|address x) w)
def zpP (b:Bare)(g:Int)(x:Guest)(w:Int):Bare :=
 zdS (cond (cond (zgv x.Ctl.Traps w) (ieq w 5) false) (zi6 b (zb8 x.Prog x.Pc).X) b) g (zfv x x.Ctl.Traps w)
def stepped (b:Bare)(g:Int)(x:Guest)(w:Int):Bare :=
 bif ieq w 1 then zdS b g (interrupted x) else (cond (ieq w 2) (zdS b g<|plainly x)<|cond (ieq w 3) (zki b g x false)<|cond (ieq w 4) (zki b g x true)<|zpP b g x w)
theorem tr1 (x:Guest)(t w:Int):ieq w 6=true->zfv x t w=stopped x (zsB (zb8 x.Prog x.Pc).X)/\zgv t w=false:=by intro h;simp[zfv,zgv,h]
theorem tr2 (x:Guest)(t w:Int):ieq w 6=false->(ieq w 5=false->ieq w 6=false->ieq w 7=true)->zdH t (ze8 w)=true->zfv x t w=zpS x w/\zgv t w=false:=by intro b c h;unfold zfv zgv zpS ze8 at *;cases a:ieq w 5<;>simp_all
theorem tr3 (x:Guest)(t w:Int):ieq w 6=false->ieq w 7=false->zdH t (ze8 w)=false->ieq w 5=true->zfv x t w=zbT x/\zgv t w=true:=by intro b c h a;unfold zfv zgv ze8 at *;simp_all
theorem tr4 (x:Guest)(t w:Int):ieq w 6=false->(ieq w 5=false->ieq w 6=false->ieq w 7=true)->zdH t (ze8 w)=false->ieq w 5=false->zfv x t w=held x:=by intro b c h a;unfold zfv ze8 at *;simp_all
def zga (b:Bare)(g:Int):Bool:=bif hasB g (ln b.Guests) then (cond (zbK b) (!ieq (zD<|gAt b g) 0) false) else false
def zd4 (b:Bare)(g:Int):Bare:=bif zga b g then stepped b g (gAt b g) (zD<|gAt b g) else b
@[simp] theorem zWl {b:Bare}{g:Int}{x:Guest}{w:Bool}(h:SmB b)(a:SmG x):SmB (zki b g x w):=by unfold zki;cases zez x.Live (zbb<|address x) (zbY w);{exact zna h a};{cases w;{exact zna h (zJW _ a)};{exact⟨zxW h.1,zCd h.2.1<|zla a,h.2.2⟩}}
@[simp] theorem z6Y {b:Bare}{g:Int}{x:Guest}{w:Int}(h:SmB b)(a:SmG x):SmB (zpP b g x w):=by unfold zpP;cases (cond (zgv x.Ctl.Traps w) (ieq w 5) false);{exact zna h (zBw _ _ a)};{exact zna (zJU h) (zBw _ _ a)}
@[simp] theorem zVg {b:Bare}{g:Int}{x:Guest}{w:Int}(h:SmB b)(a:SmG x):SmB (stepped b g x w):=by unfold stepped;cases ieq w 1;{cases ieq w 2;{cases ieq w 3;{cases ieq w 4;{exact z6Y h a};{exact zWl h a}};{exact zWl h a}};{exact zna h (zEC a)}};{exact zna h (zWm a)}
@[simp] theorem z9q {b:Bare}{g:Int}(h:SmB b):SmB (zd4 b g):=by unfold zd4;cases zga b g;{exact h};{exact zVg h (zje g h)}
theorem zYx (x:Guest):ieq (zD x) 0=false->ieq (zD x) 1=false->ieq (zD x) 2=false->ieq (zD x) 3=false->ieq (zD x) 4=false->ieq (zD x) 5=false->ieq (zD x) 6=false->ieq (zD x) 7=true:=by unfold zD zwa;cases canRun x;{intro h;cases h};{cases ziE x;{simp only [cT,cF];generalize (zb8 x.Prog x.Pc).Op=o;cases ieq o 3<;>cases ieq o 4<;>cases ieq o 5<;>cases ieq o 6<;>cases ieq o 7<;>simp [ieq]};{intro _ h;cases h}}
theorem zVT {x:Int}{a b:Int}(h:ieq x a=true)(c:ieq a b=false):ieq x b=false:=by have:x=a:=(by simpa [ieq] using h);rw[this];exact c
@[simp] abbrev zc5 (b:Bare)(g:Int):Bool:=pc (SmB b)
@[simp] abbrev ziU (b:Bare)(g:Int):Bare:=zd4 b g
@[simp] abbrev znP (b:Bare)(g:Int):Bool:=zga b g
def zpA:Run:=rF2 (dT .bare) dI λb c=>(zc5 b c,[aT .bare<|ziU b c,aB<|znP b c])
def zzl (N:Nat)(b:Bare)(c:Int):OA:=
 let g:=b.Memory;let l:=aT .bare<|zby b;let a:=zl7 b c;let k:=a.Ctl.Traps;let t:=aT .bare<|zdW b c<|zjX a;let d:=zg1 a;let r:=aT .bare<|zdW b c<|zjh a d;let i:=zgD a;let f:=zc0 i;let e:=zbP i;let h:=ieq d 4;let w:=ze4 e h;let p:=aT .bare<|zdW b c<|zck a w;let j:=(zdn a.Prog a.Pc).X;let u:=zcx (zpq b j) c<|zb5 a;let n:=aT .bare<|zdW (zpq b j) c<|zb5 a;let x:=zck a<|zha j;let m:=zeB a.Live e<|zcW h;let v:=zgf g m f;let q:=aT .bare<|zdW b c<|zjJ a v;let y:=({b with Memory:=(zfe g m f a.A)}:Bare);let s:=aT .bare<|zdW y c<|zb5 a; (oN (zu5 b c)<|oN (zbp a)<|oN (zjI b)<|cond (nB<|zcE b) (oN (zci b)<|some [l,aB false])<|cond (nB<|zl8 b c) (oN (zci b)<|some [l,aB false])<|cond (ieq d 0) (oN (zci b)<|some [l,aB false])<|oN (zbp a)<|oN (zdw a.Prog a.Pc)<|cond (ieq d 1) (oN (zK a)<|oN (zcx b c<|zeE a)<|some [aT .bare<|zdW b c<|zeE a,aB true])<|cond (ieq d 2) (oN (zK a)<|oN (zcx b c<|zhf a)<|some [aT .bare<|zdW b c<|zhf a,aB true])<|cond (ieq d 3) (cond (ieq d 3) (oN (zbL i)<|oN (zjL h)<|oN (zgT a.Live e<|zcW h)<|cond (nB<|zec a.Live e<|zcW h) (oN (zbL i)<|oN (zgX e h)<|oN (zcB a w)<|oN (zcx b c<|zck a w)<|some [p,aB true])<|cond h (oN (zbL i)<|oN (ze5 g m f a.A)<|oN (zK a)<|oN (zcx y c<|zb5 a)<|some [s,aB true])<|oN (zbL i)<|oN (zff g m f)<|oN (zlO a v)<|oN (zcx b c<|zjJ a v)<|some [q,aB true])<|cond (ieq d 6) (oN (zfO j)<|oN (zcB a<|zha j)<|oN (zcx b c x)<|some [aT .bare<|zdW b c x,aB true])<|oN (znT d)<|oN (zfA k<|zhL d)<|cond (zeX k<|zhL d) (oN (zl9 a d)<|oN (zcx b c<|zjh a d)<|some [r,aB true])<|cond (ieq d 5) (oN (zfL b j)<|oN (zK a)<|oN u<|some [n,aB true])<|oN (zK a)<|oN (zcx b c<|zjX a)<|some [t,aB true])<|cond h (oN (zbL i)<|oN (zjL h)<|oN (zgT a.Live e<|zcW h)<|cond (nB<|zec a.Live e<|zcW h) (oN (zbL i)<|oN (zgX e h)<|oN (zcB a w)<|oN (zcx b c<|zck a w)<|some [p,aB true])<|cond h (oN (zbL i)<|oN (ze5 g m f a.A)<|oN (zK a)<|oN (zcx y c<|zb5 a)<|some [s,aB true])<|oN (zbL i)<|oN (zff g m f)<|oN (zlO a v)<|oN (zcx b c<|zjJ a v)<|some [q,aB true])<|cond (ieq d 6) (oN (zfO j)<|oN (zcB a<|zha j)<|oN (zcx b c x)<|some [aT .bare<|zdW b c x,aB true])<|oN (znT d)<|oN (zfA k<|zhL d)<|cond (zeX k<|zhL d) (oN (zl9 a d)<|oN (zcx b c<|zjh a d)<|some [r,aB true])<|cond (ieq d 5) (oN (zfL b j)<|oN (zK a)<|oN u<|some [n,aB true])<|oN (zK a)<|oN (zcx b c<|zjX a)<|some [t,aB true])
theorem zLT (a:Bare)(b:Int)(f:zc5 a b=true):∃N,zzl N a b=some [aT .bare<|ziU a b,aB<|znP a b]:=by
 have c:=zJ.1 f;have j:=zje b c;have k:_/\_/\_:=c;have hg:a.Guests.length<=1048576:=c.2.1.1;have g:=zYx (gAt a b);have d:ieq (zD<|gAt a b) 3=true->ieq (zD<|gAt a b) 4=false:=λh=>zVT h rfl;have e:ieq (zD<|gAt a b) 5=true->ieq (zD<|gAt a b) 7=false:=λh=>zVT h rfl;have l:=tr1 (gAt a b) (gAt a b).Ctl.Traps (zD<|gAt a b);have m:=tr2 (gAt a b) (gAt a b).Ctl.Traps (zD<|gAt a b);have p:=tr3 (gAt a b) (gAt a b).Ctl.Traps (zD<|gAt a b);have q:=tr4 (gAt a b) (gAt a b).Ctl.Traps (zD<|gAt a b);have i:∀n,SmB (zi6 a n):=λn=>zJU c;refine⟨0,?_⟩;unfold zzl oN nB;conv=>zeta
 refine mu (must rfl (must rfl (brN (λ_=>mu ?_) λ_=>brN (λ_=>mu ?_) λ_=>br (λ_=>mu ?_) λ_=>must rfl (must rfl (br (λ_=>mu (mu ?_)) λ_=>br (λ_=>mu (mu ?_)) λ_=>br (λ_=>br (λ_=>must rfl (must rfl (must rfl (brN (λ_=>must rfl (must rfl (mu<|mu ?_))) λ_=>br (λ_=>must rfl (mu<|mu<|mu ?_)) λ_=>must rfl (must rfl (mu<|mu ?_)))))) λ_=>br (λ_=>must rfl (mu<|mu ?_)) λ_=>must rfl (must rfl (br (λ_=>mu (mu ?_)) λ_=>br (λ_=>mu (mu<|mu ?_)) λ_=>mu (mu ?_)))) λ_=>br (λ_=>must rfl (must rfl (must rfl (brN (λ_=>must rfl (must rfl (mu<|mu ?_))) λ_=>br (λ_=>must rfl (mu<|mu<|mu ?_)) λ_=>must rfl (must rfl (mu<|mu ?_)))))) λ_=>br (λ_=>must rfl (mu<|mu ?_)) λ_=>must rfl (must rfl (br (λ_=>mu (mu ?_)) λ_=>br (λ_=>mu (mu<|mu ?_)) λ_=>mu (mu ?_))))))));all_goals first|rfl|(simp only [*,ziU,znP,zd4,zga,stepped,zki,zpP,zq2,zbY,cT,cF]<;>rfl)|simp_all[Ty.cells,ziU,znP,zd4,zga,stepped,zki,zpP,zq2,zbY]
theorem zsN:vQ 83 zpA:=kF2 zpj zq zo zu (zx []) zLT
def SmK (k:Kept):Prop:=k.Known.length<=1048576/\k.Slots.length<=1048576
def zzY (l:List Kept):Prop:=l.length<=1048576/\∀x∈l,SmK x
def zf2 (m:Mon):Prop:=m.Outer.length<=1048576/\SmM m.Out/\m.Dirty.length<=1048576/\zmR m.Guests/\m.Outs.length<=1048576/\zzY m.Tables
def zqA (l:List Mon):Prop:=l.length<=1048576/\∀x∈l,zf2 x
def SmH (h:Host):Prop:=SmM h.Memory/\zqA h.Mons/\h.Buffer.length<=1048576/\h.IoBuffer.length<=1048576
@[simp] theorem zvH (k:Kept):(∀c∈Ty.cells .kept k,CVB sm c)↔SmK k:=by simp[Ty.cells,SmK,z3d]
@[simp] theorem z1S (l:List Kept):CVB sm (.s .kept l)↔zzY l:=by rw[zlo];simp only[zvH];rfl
@[simp] theorem zVC (m:Mon):(∀c∈Ty.cells .mon m,CVB sm c)↔zf2 m:=by simp only[Ty.cells,qG,qW,or_false,vM,forall_eq,zpk,ztS,z1S,zXa,zUh,zUg,z4D,and_true,true_and];rfl
@[simp] theorem z6a (l:List Mon):CVB sm (.s .mon l)↔zqA l:=by rw[zlo];simp only[zVC];rfl
@[simp] theorem zM (h:Host):zbX h↔SmH h:=by unfold zbX;simp only[zbe,qG,qW,or_false,vM,forall_eq,zpk,z6a,zRe];rfl
theorem zbj {p:Prop}(h:p):pc p=true:=zbo h
theorem zwJ {l:List Kept}{i:Int}{x:Kept}(h:zzY l)(b:SmK x):zzY (up l i x):=by refine⟨by simpa using h.1,λy a=>?_⟩;rcases q0 a with a|rfl;{exact h.2 y a};{exact b}
theorem zjn {l:List Mon}{i:Int}{x:Mon}(h:zqA l)(b:zf2 x):zqA (up l i x):=by refine⟨by simpa using h.1,λy a=>?_⟩;rcases q0 a with a|rfl;{exact h.2 y a};{exact b}
theorem znh {a:Type}{l:List a}(h:l.length<=1048576):few (ln<|ap [] l)=true:=by rw[zh6,z6i];omega
@[simp] abbrev zbi (h:Host):Bool:=pc (zbX h)
@[simp] abbrev zk (h:Host):Host:=h
def zmL:Run:=rF1 dH λb=>(zbi b,[aH<|zk b])
def zDO (N:Nat)(b:Host):OA:=
 (oN (zgq b.Memory)<|oN (few<|ln<|ap [] b.Buffer)<|oN (few<|ln<|ap [] b.IoBuffer)<|iter (σ:=(Int×lM×lN×lE×lE×lM×lN×lE×lE×lM×lN×lE×lE×Unit)) N (λf a=>let e:=a.2.2.2.2.2.2.2.2.2.2.2.2.1;let d:=ix a.2.2.1 a.1 zf;let c:=ap a.2.2.2.2.2.2.2.2.2.2.1 [zm7 d]; (cond (ilt a.1<|ln a.2.2.1) (oN (inb a.1<|ln a.2.2.1)<|oN (zjO d)<|oN (few<|ln c)<|f (zI .i64 a.1 1,a.2.1,a.2.2.1,a.2.2.2.1,a.2.2.2.2.1,a.2.2.2.2.2.1,a.2.2.2.2.2.2.1,a.2.2.2.2.2.2.2.1,a.2.2.2.2.2.2.2.2.1,a.2.2.2.2.2.2.2.2.2.1,c,a.2.2.2.2.2.2.2.2.2.2.2.1,e,()))<|some [aH (⟨a.2.2.2.2.2.2.2.2.2.1,a.2.2.2.2.2.2.2.2.2.2.1,a.2.2.2.2.2.2.2.2.2.2.2.1,e⟩:Host)])) (0,b.Memory,b.Mons,b.Buffer,b.IoBuffer,[],[],[],[],zeY b.Memory,[],ap [] b.Buffer,ap [] b.IoBuffer,()))
def zP3:=zx [(317,0,{n:=36,tm:=[(1,.lp 0 0),(2,.lp 1 0),(3,.lp 2 0),(4,ti)],lo:=[(0,[.sl 0 [],.sl 1 [],.sl 2 [],.sl 3 []]),(1,[.sl 4 [],.sl 5 [],.sl 6 [],.sl 7 []]),(2,[.sl 8 [],.sl 9 [],.sl 10 [],.sl 11 []])],ro:=[(0,.sl .int,false),(1,.mon,false),(2,.entry,false),(3,.entry,false),(4,.sl .int,true),(5,.mon,true),(6,.entry,true),(7,.entry,true),(8,.sl .int,true),(9,.mon,true),(10,.entry,true),(11,.entry,true)]})]
theorem zPL (a:Host)(k:zbi a=true):∃N,zDO N a=some [aH<|zk a]:=by
 obtain⟨g,f,h,j⟩:=(zM a).1 (zJ.1 k);have e:=zcu f.1;refine zbZ λN d=>?_;unfold zDO oN;conv=>zeta
 refine must (zbj<|(zpk _).2 g) (must (znh h)<|must (znh j) ?_);refine(zX a.Mons (λi (t:lN)=>((i:Int),a.Memory,a.Mons,a.Buffer,a.IoBuffer,[],[],[],[],zeY a.Memory,t,ap [] a.Buffer,ap [] a.IoBuffer,())) _ (λ_ x b m=>bif zjO x then (cond (few<|ln<|ap b [zm7 x]) (m<|ap b [zm7 x]) none) else none) (λ(t:lN)=>some [.agg<|zbe (⟨zeY a.Memory,t,ap [] a.Buffer,ap [] a.IoBuffer⟩:Host)]) (λi c t rec=>?_) (λt rec=>?_) _ ([])<|d e.1).trans ?_;{simp only [zbq c,zS c,zba c,zQ c e.1,cT]};{simp only [zbl,cF]};exact zjr zjO zm7 _ a.Mons 0 [] (λx l=>⟨zbj<|(zVC x).2 (f.2 x l),rfl⟩) (by simpa using e.2)
theorem zIK:vQ 317 zmL:=kF1 zpj zq zo zu zP3 zPL
@[simp] abbrev zeu (k:Kept):Bool:=pc (SmK k)
@[simp] abbrev zds (k:Kept):Kept:=k
def zwn:Run:=rF1 (dT .kept) λb=>(zeu b,[aT .kept<|zds b])
def zzx (N:Nat)(a:Kept):OA:=
 (oN (few<|ln<|ap [] a.Known)<|oN (zgU a.Slots)<|some [aT .kept (⟨ap [] a.Known,zfx a.Slots⟩:Kept)])
theorem zL5 (a:Kept)(b:zeu a=true):∃N,zzx N a=some [aT .kept<|zds a]:=by have c:=zJ.1 b;obtain⟨f,g⟩:=c;have d:a.Known.length<=2147483648:=(by omega);have e:a.Slots.length<=2147483648:=(by omega);refine⟨0,?_⟩;unfold zzx oN;refine mu (mu ?_);first|rfl|(simp only [*,zds,cT,cF]<;>rfl)|simp_all[Ty.cells,zds]
theorem zFx:vQ 236 zwn:=kF1 zpj zq zo zu (zx []) zL5
def z3Y:zV:=[(317,zmL),(236,zwn)]++zW1
theorem zQ1:zL z3Y:=zh zIK (zh zFx zpj)
@[simp] abbrev zj5 (m:Mon):Bool:=pc (zf2 m)
@[simp] abbrev zkI (m:Mon):Mon:=m
def zyC:Run:=rF1 (dT .mon) λb=>(zj5 b,[aT .mon<|zkI b])
def zDi (N:Nat)(b:Mon):OA:=
 (oN (zgU b.Outer)<|oN (zgl b.Out)<|oN (few<|ln<|ap [] b.Dirty)<|oN (ziX b.Guests)<|oN (zdQ b.Outs)<|iter (σ:=(Int×Int×Int×Int×Int×Int×Int×Int×lK×lK×lS×lM×lB×lG×(List Int)×lS×lM×lB×lG×(List Int)×lK×Unit)) N (λi a=>let h:=a.2.2.2.2.2.2.2.2.2.2.2.2.1;let g:=a.2.2.2.2.2.2.2.2.2.2.2.2.2.1;let f:=a.2.2.2.2.2.2.2.2.2.2.2.2.2.2.1;let e:=a.2.2.2.2.2.2.2.2.1;let d:=a.2.2.2.2.2.2.2.2.2.1;let c:=ix d a.2.1 zc3; (cond (ilt a.2.1 a.1) (oN (inb a.2.1<|ln d)<|oN (zeu c)<|oN (few<|ln<|ap e [zds c])<|i (a.1,zI .i64 a.2.1 1,a.2.2.1,a.2.2.2.1,a.2.2.2.2.1,a.2.2.2.2.2.1,a.2.2.2.2.2.2.1,a.2.2.2.2.2.2.2.1,ap e [zds c],d,a.2.2.2.2.2.2.2.2.2.2.1,a.2.2.2.2.2.2.2.2.2.2.2.1,h,g,f,a.2.2.2.2.2.2.2.2.2.2.2.2.2.2.2.1,a.2.2.2.2.2.2.2.2.2.2.2.2.2.2.2.2.1,a.2.2.2.2.2.2.2.2.2.2.2.2.2.2.2.2.2.1,a.2.2.2.2.2.2.2.2.2.2.2.2.2.2.2.2.2.2.1,a.2.2.2.2.2.2.2.2.2.2.2.2.2.2.2.2.2.2.2.1,a.2.2.2.2.2.2.2.2.2.2.2.2.2.2.2.2.2.2.2.2.1,()))<|some [aT .mon (⟨a.2.2.2.2.2.2.2.2.2.2.1,a.2.2.2.2.2.2.2.2.2.2.2.1,h,g,f,a.2.2.1,a.2.2.2.1,e,a.2.2.2.2.1⟩:Mon)])) (ln b.Tables,0,b.Pending,b.Traps,b.Own,0,0,0,[],b.Tables,zfx b.Outer,zdM b.Out,ap [] b.Dirty,ziW b.Guests,zdP b.Outs,[],[],[],[],[],[],()))
def zPW:=zx [(145,0,{n:=44,tm:=[(1,.lp 0 0),(2,.lp 1 0),(3,.sl 0 []),(29,.sl 1 []),(30,ti),(31,ti)],lo:=[(0,[.sl 2 [],.sl 3 [],.sl 4 [],.sl 5 [],.sl 6 [],ti,ti,.sl 1 [],ti]),(1,[.sl 7 [],.sl 8 [],.sl 9 [],.sl 10 [],.sl 11 [],ti,ti,.sl 12 [],ti])],ro:=[(0,.kept,true),(1,.kept,false),(2,.slot,true),(3,.sl .int,true),(4,.bool,true),(5,.guest,true),(6,.int,true),(7,.slot,true),(8,.sl .int,true),(9,.bool,true),(10,.guest,true),(11,.int,true),(12,.kept,true)]})]
theorem zPi (a:Mon)(p:zj5 a=true):∃N,zDi N a=some [aT .mon<|zkI a]:=by
 obtain⟨s,l,m,n,u,f⟩:=zJ.1 p;have e:=zcu f.1;refine zbZ λN d=>?_;unfold zDi oN;conv=>zeta
 have g:zgU a.Outer=true:=(by simp;omega);have h:zgl a.Out=true:=(by simp;exact l);have j:ziX a.Guests=true:=(by simp;exact n);have k:zdQ a.Outs=true:=(by simp;omega);refine must g (must h<|must (znh m)<|must j<|must k ?_);refine(zX a.Tables (λi (t:lK)=>(ln a.Tables,(i:Int),a.Pending,a.Traps,a.Own,0,0,0,t,a.Tables,zfx a.Outer,zdM a.Out,ap [] a.Dirty,ziW a.Guests,zdP a.Outs,[],[],[],[],[],[],())) _ (λ_ x b r=>bif zeu x then (cond (few<|ln<|ap b [zds x]) (r<|ap b [zds x]) none) else none) (λ(t:lK)=>some [.agg<|Ty.cells .mon (⟨zfx a.Outer,zdM a.Out,ap [] a.Dirty,ziW a.Guests,zdP a.Outs,a.Pending,a.Traps,t,a.Own⟩:Mon)]) (λi c t rec=>?_) (λt rec=>?_) _ ([])<|d e.1).trans ?_;{simp only [zbq c,zS c,zba c,zQ c e.1,cT]};{simp only [zbl,cF]};exact zjr zeu zds _ a.Tables 0 [] (λx q=>⟨zbj<|f.2 x q,rfl⟩) (by simpa using e.2)
theorem zIf:vQ 145 zyC:=kF1 zQ1 zq zo zu zPW zPi
def z3Z:zV:=[(145,zyC)]++z3Y
theorem zw6:zL z3Z:=zh zIf zQ1
def zzv (N:Nat)(b:Host):OA:=
 (oN (zgl b.Memory)<|oN (few<|ln<|ap [] b.Buffer)<|oN (few<|ln<|ap [] b.IoBuffer)<|iter (σ:=(Int×Int×lN×lM×lN×lE×lE×lM×lN×lE×lE×Unit)) N (λe a=>let d:=ix a.2.2.1 a.2.1 zf;let c:=ap a.2.2.2.2.2.2.2.2.1 [zkI d]; (cond (ilt a.2.1 a.1) (oN (inb a.2.1<|ln a.2.2.1)<|oN (zj5 d)<|oN (few<|ln c)<|e (a.1,zI .i64 a.2.1 1,a.2.2.1,a.2.2.2.1,a.2.2.2.2.1,a.2.2.2.2.2.1,a.2.2.2.2.2.2.1,a.2.2.2.2.2.2.2.1,c,a.2.2.2.2.2.2.2.2.2.1,a.2.2.2.2.2.2.2.2.2.2.1,()))<|some [aH (⟨a.2.2.2.2.2.2.2.1,a.2.2.2.2.2.2.2.2.1,a.2.2.2.2.2.2.2.2.2.1,a.2.2.2.2.2.2.2.2.2.2.1⟩:Host)])) (ln b.Mons,0,b.Mons,[],[],[],[],zdM b.Memory,[],ap [] b.Buffer,ap [] b.IoBuffer,()))
def zMS:=zx [(49,0,{n:=34,tm:=[(2,.lp 0 0),(3,.lp 1 0),(19,.sl 0 []),(20,ti),(21,ti)],lo:=[(0,[.sl 1 [],.sl 2 [],.sl 3 [],.sl 4 []]),(1,[.sl 5 [],.sl 6 [],.sl 7 [],.sl 8 []])],ro:=[(0,.mon,false),(1,.sl .int,true),(2,.mon,true),(3,.entry,true),(4,.entry,true),(5,.sl .int,true),(6,.mon,true),(7,.entry,true),(8,.entry,true)]})]
theorem zL3 (a:Host)(l:zbi a=true):∃N,zzv N a=some [aH<|zk a]:=by
 obtain⟨h,f,j,k⟩:=(zM a).1 (zJ.1 l);have e:=zcu f.1;refine zbZ λN d=>?_;unfold zzv oN;conv=>zeta
 have g:zgl a.Memory=true:=(by simp;exact h);refine must g (must (znh j)<|must (znh k) ?_);refine(zX a.Mons (λi (t:lN)=>(ln a.Mons,(i:Int),a.Mons,[],[],[],[],zdM a.Memory,t,ap [] a.Buffer,ap [] a.IoBuffer,())) _ (λ_ x b n=>bif zj5 x then (cond (few<|ln<|ap b [zkI x]) (n<|ap b [zkI x]) none) else none) (λ(t:lN)=>some [.agg<|zbe (⟨zdM a.Memory,t,ap [] a.Buffer,ap [] a.IoBuffer⟩:Host)]) (λi c t rec=>?_) (λt rec=>?_) _ ([])<|d e.1).trans ?_;{simp only [zbq c,zS c,zba c,zQ c e.1,cT]};{simp only [zbl,cF]};exact zjr zj5 zkI _ a.Mons 0 [] (λx m=>⟨zbj<|f.2 x m,rfl⟩) (by simpa using e.2)
theorem zFv:vQ 49 zmL:=kF1 zw6 zq zo zu zMS zL3
def allI {a:Type}(p:Nat->a->Bool):List a->Nat->Bool
 |[],_=>true
 |x::l,i=>p i x&&allI p l (i+1)
theorem zFe {a b:Type}(p:Nat->a->Bool)(r:Option b)(K:Unit->Option b):∀(l:List a) (i:Nat),goL (λi x (_:Unit) k=>bif p i x then k () else r) K l i ()=bif allI p l i then K () else r
 |[],_=>rfl
 |x::l,i=>by simp only[goL,allI];cases p i x;{rfl};{simp only [cT,uN];exact zFe p r K l (i+1)}
theorem zNz {a:Type}(q:a->Bool)(l:List a)(d:a):∀(n i:Nat),i+n<=l.length->zlX (λj=>q (ix l (j:Int) d)) n i=((l.drop i).take n).all q
 | 0,i,_=>by simp[zlX]
 |n+1,i,h=>by have b:i<l.length:=(by omega);rw[j3 b,List.take_succ_cons,kX,<- zNz q l d n (i+1) (by omega)];simp only[zlX,zba b]
def sameKey (a b:Entry):Bool:=bif ieq a.Tag b.Tag then ieq a.Page b.Page else false
def alone (l:List Entry)(i:Nat)(x:Entry):Bool:=(l.take i).all λy=>!sameKey x y
def zfH (l:List Entry):Bool:=bif allI (alone l) l 0 then ile (ln l) 6 else false
theorem z2c {a:Type}{l:List a}{i:Nat}(h:i<=l.length):inr 0 (i:Int) (ln l)=true:=qK (by simp only[ln];omega)
@[simp] abbrev zhK (l:List Entry):Bool:=true
@[simp] abbrev zg9 (l:List Entry):Bool:=zfH l
def zlC:Run:=rF1 (dS .entry) λb=>(zhK b,[aB<|zg9 b])
def zzm (N:Nat)(g:lE):OA:=
 (iter (σ:=(Int×Int×lE×Unit)) N (λi b=>let c:=b.2.2.1;let e:=ix c b.2.1 zd2; (cond (ilt b.2.1 b.1) (oN (inb b.2.1<|ln c)<|oN (inr 0 b.2.1<|ln c)<|iter (σ:=(Int×Int×Int×Int×Int×Int×Int×Int×lE×lE×Unit)) N (λj a=>let d:=a.2.2.2.1;let f:=a.2.2.2.2.2.2.2.2.2.1;let h:=j (a.1,a.2.1,a.2.2.1,zI .i64 d 1,a.2.2.2.2.1,a.2.2.2.2.2.1,a.2.2.2.2.2.2.1,a.2.2.2.2.2.2.2.1,a.2.2.2.2.2.2.2.2.1,f,()); (cond (ilt d a.2.2.1) (oN (inb d<|ln f)<|cond (ieq a.2.2.2.2.1 (ix f d zd2).Tag) (cond (ieq a.2.2.2.2.2.1 (ix f d zd2).Page) oF h) h)<|i (a.1,zI .i64 a.2.1 1,a.2.2.2.2.2.2.2.2.1,()))) (b.1,b.2.1,ln<|tk c b.2.1,0,e.Tag,e.Page,e.Host,e.Rights,c,tk c b.2.1,()))<|some [aB<|ile (ln c) 6])) (ln g,0,g,()))
def zMQ:=zx [(147,0,{n:=39,tm:=[(0,.sl 0 []),(7,.sl 0 []),(8,ti),(9,ti)],lo:=[],ro:=[(0,.entry,false)]}),(147,2,{n:=39,tm:=[(0,.sl 0 []),(4,.lp 0 0),(7,.sl 0 []),(8,ti),(9,ti),(16,.sl 1 []),(17,ti),(18,ti)],lo:=[(0,[ti,ti,ti,ti])],ro:=[(0,.entry,false),(1,.entry,false)]})]
theorem zLU (a:List Entry)(l:zbB big [aS .entry a])(m:zhK a=true):∃N,zzm N a=some [aB<|zg9 a]:=by
 have e:=len0 l;refine zbZ λN d=>?_;unfold zzm oN;conv=>zeta
 refine(zX a (λi (t:Unit)=>(ln a,(i:Int),a,())) _ (λi (x:Entry) (_:Unit) h=>bif alone a i x then h () else oF) (λ(t:Unit)=>some [.one<|.b<|ile (ln a) 6]) (λi c t rec=>?_) (λt rec=>?_) _ ()<|d e).trans ?_;{simp only [zbq c,zS c,zba c,zQ c e,cT];rw[z2c<|Nat.le_of_lt c,cT];have k:(tk a (i:Int)).length<=big:=jC (by simp[tk];omega) e;refine(zX (tk a (i:Int)) (λj (u:Unit)=>(ln a,(i:Int),ln<|tk a (i:Int),(j:Int),a[i].Tag,a[i].Page,a[i].Host,a[i].Rights,a,tk a (i:Int),())) _ (λ_ (y:Entry) (_:Unit) h=>bif !sameKey a[i] y then h () else oF) (λ(u:Unit)=>rec (ln a,((i+1:Nat):Int),a,())) (λj g u f=>?_) (λu f=>?_) _ ()<|d k).trans ?_;{simp only [zbq g,zS g,zba g,zQ g k,cT,zQ c e];unfold sameKey;cases ieq a[i].Tag (tk a (i:Int))[j].Tag<;>cases ieq a[i].Page (tk a (i:Int))[j].Page<;>rfl};{simp only [zbl,cF,zQ c e]};rw[zfU λy=>!sameKey a[i] y];rfl};{simp only [zbl,cF]};rw[zFe<|alone a];unfold zg9 zfH;cases allI (alone a) a 0<;>rfl
theorem zFk:vQ 147 zlC:=hF1 zw6 zq zo zu zMQ zLU
def zzE (N:Nat)(f:lE):OA:=
 (iter (σ:=(Int×lE×Unit)) N (λg c=>cond (ilt c.1<|ln c.2.1) (iter (σ:=(Int×Int×lE×Unit)) N (λh a=>let b:=a.2.2.1;let e:=ix b a.2.1 zd2;let d:=h (a.1,zI .i64 a.2.1 1,b,()); (cond (ilt a.2.1 a.1) (oN (inb a.1<|ln b)<|oN (inb a.2.1<|ln b)<|cond (ieq (ix b a.1 zd2).Tag e.Tag) (oN (inb a.1<|ln b)<|oN (inb a.2.1<|ln b)<|cond (ieq (ix b a.1 zd2).Page e.Page) oF d) d)<|g (zI .i64 a.1 1,b,()))) (c.1,0,c.2.1,()))<|some [aB<|ile (ln c.2.1) 6]) (0,f,()))
def zMU:=zx [(400,0,{n:=43,tm:=[(0,.sl 0 []),(3,ti)],lo:=[],ro:=[(0,.entry,false)]}),(400,2,{n:=43,tm:=[(0,.sl 0 []),(3,ti),(4,ti)],lo:=[],ro:=[(0,.entry,false)]})]
theorem zL8 (a:List Entry)(k:zbB big [aS .entry a])(l:zhK a=true):∃N,zzE N a=some [aB<|zg9 a]:=by
 have g:=len0 k;refine zbZ λN d=>?_;unfold zzE oN;conv=>zeta
 refine(zX a (λi (t:Unit)=>((i:Int),a,())) _ (λi (x:Entry) (_:Unit) h=>bif alone a i x then h () else oF) (λ(t:Unit)=>some [.one<|.b<|ile (ln a) 6]) (λi c t rec=>?_) (λt rec=>?_) _ ()<|d g).trans ?_;{simp only [zbq c,zS c,zba c,zQ c g,cT];refine(zsW i (λ(j:Nat) (_:Unit)=>((i:Int),(j:Int),a,())) _ (λj (_:Unit) h=>bif !sameKey a[i] (ix a (j:Int) zd2) then h () else oF) (λ_=>rec (((i+1:Nat):Int),a,())) (λj m u f=>?_) (λu f=>?_) _ ()<|d (by omega)).trans ?_;{have e:j<a.length:=(by omega);simp only[show ilt (j:Int) (i:Int)=true from qK (by omega),zS c,zS e,zba c,zQ e g,cT];unfold sameKey;cases ieq a[i].Tag (ix a (j:Int) zd2).Tag<;>cases ieq a[i].Page (ix a (j:Int) zd2).Page<;>rfl};{simp only [show ilt (i:Int) (i:Int)=false from qI (by omega),zQ c g,cF]};rw[zvP λj=>!sameKey a[i] (ix a (j:Int) zd2),zNz (λy=>!sameKey a[i] y) a _ i 0 (by omega)];rfl};{simp only [zbl,cF]};rw[zFe<|alone a];unfold zg9 zfH;cases allI (alone a) a 0<;>rfl
theorem zFB:vQ 400 zlC:=hF1 zw6 zq zo zu zMU zL8
def z4a:zV:=[(49,zmL),(400,zlC),(147,zlC)]++z3Z
theorem zE4:zL z4a:=zh zFv (zh zFB<|zh zFk zw6)
theorem zLN (a b:Int):igt a b = !ile a b:=by unfold igt ile;by_cases h:a<=b;{rw [qK h,qI (by omega)];rfl};{rw [qI h,qK (by omega)];rfl}
theorem stB {c M:Bool}{E:OA}(h:c=true->E=some [AV.one<|.b M]):(cond (cond c false true) (some [AV.one<|.b false]) E)=some [AV.one<|.b<|cond c M false]:=by cases c;{rfl};{exact h rfl}
theorem stI {a b:Int}{M:Bool}{E:OA}(h:ieq a b=true->E=some [AV.one<|.b M]):(cond (ine a b) (some [AV.one<|.b false]) E)=some [AV.one<|.b<|cond (ieq a b) M false]:=by rw[zj6];cases c:ieq a b;{rfl};{exact h c}
theorem stG {a b:Int}{M:Bool}{E:OA}(h:ile a b=true->E=some [AV.one<|.b M]):(cond (igt a b) (some [AV.one<|.b false]) E)=some [AV.one<|.b<|cond (ile a b) M false]:=by rw[zLN];cases c:ile a b;{rfl};{exact h c}
def zlz (s:Slot)(p:List Int):Bool:=bif zct s noSlot then zcn p else (cond (enough s.Rights 1) (ile (ln p) 0) false)
def fits (m:Mon)(j:Nat):Bool:=zlz (ix m.Outer (j:Int) zN) (ix m.Out (j:Int) [])
def zd6 (m:Mon):Bool:=bif zi (ln m.Guests) 1 2 then (cond (ieq (ln m.Tables)<|ln m.Guests) (cond (zcJ m.Outer 8 12) (cond (ieq (ln m.Out) 8) (cond (ieq (ln m.Dirty) 8) (cond (ile (ln m.Outs) 40) (cond (zdu m.Pending) (cond (zi m.Traps 0 3) (cond (zi m.Own 0 1000000000) (cond (m.Guests.all zdG) (zlX (fits m) 8 0) false) false) false) false) false) false) false) false) false) else false
theorem znu {t:List Slot}{n p:Int}(h:zcJ t n p=true):ln t=n:=by unfold zcJ at h;cases a:t.all (λs=>zdT s p);{rw [a]at h;cases h};{rw [a]at h;exact qD h}
@[simp] abbrev zic (m:Mon):Bool:=true
@[simp] abbrev ziV (m:Mon):Bool:=zd6 m
def zqd:Run:=rF1 (dT .mon) λb=>(zic b,[aB<|ziV b])
def zNf (N:Nat)(a:Mon):OA:=
 let h:=ln a.Guests; (oN (zG h 1 2)<|cond (nB<|zi h 1 2) oF<|cond (ine (ln a.Tables) h) oF<|oN (ziz a.Outer 8 12)<|cond (nB<|zew a.Outer 8 12) oF<|cond (ine (ln a.Out) 8) oF<|cond (ine (ln a.Dirty) 8) oF<|cond (igt (ln a.Outs) 40) oF<|oN (zb2 a.Pending)<|cond (nB<|zeo a.Pending) oF<|oN (zG a.Traps 0 3)<|cond (nB<|zi a.Traps 0 3) oF<|oN (zG a.Own 0 1000000000)<|cond (nB<|zi a.Own 0 1000000000) oF<|iter (σ:=(Int×Int×Int×Int×Int×lG×lS×lM×lB×(List Int)×lK×Unit)) N (λl b=>let i:=b.2.2.2.2.2.2.1;let g:=b.2.2.2.2.2.1;let k:=ix g b.2.1 zl; (cond (ilt b.2.1 b.1) (oN (inb b.2.1<|ln g)<|oN (zbp k)<|cond (nB<|zhj k) oF<|l (b.1,zI .i64 b.2.1 1,b.2.2.1,b.2.2.2.1,b.2.2.2.2.1,g,i,b.2.2.2.2.2.2.2.1,b.2.2.2.2.2.2.2.2.1,b.2.2.2.2.2.2.2.2.2.1,b.2.2.2.2.2.2.2.2.2.2.1,()))<|iter (σ:=(Int×Int×Int×Int×Int×lS×lM×lB×lG×(List Int)×lK×Unit)) N (λm c=>let d:=c.2.1;let e:=c.2.2.2.2.2.2.1;let f:=ix c.2.2.2.2.2.1 d zN;let j:=m (c.1,zI .i64 d 1,c.2.2.1,c.2.2.2.1,c.2.2.2.2.1,c.2.2.2.2.2.1,e,c.2.2.2.2.2.2.2.1,c.2.2.2.2.2.2.2.2.1,c.2.2.2.2.2.2.2.2.2.1,c.2.2.2.2.2.2.2.2.2.2.1,()); (cond (ilt d c.1) (oN (inb d<|ln c.2.2.2.2.2.1)<|oN zbA<|cond (cond (ieq f.Page zU.Page) (ieq f.Rights zU.Rights) false) (oN (inb d<|ln e)<|oN (zdx<|ix e d [])<|cond (nB<|zcX<|ix e d []) oF j)<|oN (zbg f.Rights 1)<|cond (nB<|zcF f.Rights 1) oF<|oN (inb d<|ln e)<|cond (igt (ln<|ix e d []) 0) oF j) oT)) (ln i,0,b.2.2.1,b.2.2.2.1,b.2.2.2.2.1,i,b.2.2.2.2.2.2.2.1,b.2.2.2.2.2.2.2.2.1,g,b.2.2.2.2.2.2.2.2.2.1,b.2.2.2.2.2.2.2.2.2.2.1,()))) (h,0,a.Pending,a.Traps,a.Own,a.Guests,a.Outer,a.Out,a.Dirty,a.Outs,a.Tables,()))
def zVj:=zx [(148,0,{n:=106,tm:=[(1,.lp 0 0),(64,.sl 0 []),(65,ti),(66,ti)],lo:=[(0,[.sl 1 [],.sl 2 [],.sl 3 [],.sl 0 [],.sl 4 [],ti,ti,.sl 5 [],ti])],ro:=[(0,.guest,false),(1,.slot,false),(2,.sl .int,false),(3,.bool,false),(4,.int,false),(5,.kept,false)]}),(148,2,{n:=106,tm:=[(1,.lp 0 0),(75,.sl 0 []),(76,ti),(77,ti)],lo:=[(0,[.sl 0 [],.sl 1 [],.sl 2 [],.sl 3 [],.sl 4 [],ti,ti,.sl 5 [],ti])],ro:=[(0,.slot,false),(1,.sl .int,false),(2,.bool,false),(3,.guest,false),(4,.int,false),(5,.kept,false)]})]
theorem zUz (a:Mon)(l:zbB big [aT .mon a])(E:zic a=true):∃N,zNf N a=some [aB<|ziV a]:=by
 have hg:a.Guests.length<=big:=((zcv l).1 (.s .guest a.Guests) (by simp[AV.cvs,Ty.cells])).len;have m:a.Outer.length<=big:=((zcv l).1 (.s .slot a.Outer) (by simp[AV.cvs,Ty.cells])).len;refine zbZ λN d=>?_;unfold zNf ziV zd6 oN nB;conv=>zeta
 refine must rfl (stB λw=>stI λy=>must rfl (stB λr=>stI λv=>stI λz=>stG λA=>must rfl (stB λB=>must rfl (stB λC=>must rfl (stB λD=>?_)))));have p:=znu r;have q:ln a.Out=8:=qD v;simp only[ln] at p q;refine(zX a.Guests (λi (t:Unit)=>(ln a.Guests,(i:Int),a.Pending,a.Traps,a.Own,a.Guests,a.Outer,a.Out,a.Dirty,a.Outs,a.Tables,())) _ (λ_ (x:Guest) (_:Unit) g=>bif zdG x then g () else oF) (λ(t:Unit)=>iter (σ:=(Int×Int×Int×Int×Int×lS×lM×lB×lG×(List Int)×lK×Unit)) N (λn c=>cond (ilt c.2.1 c.1) (cond (inb c.2.1<|ln c.2.2.2.2.2.1) (cond zbA (cond (cond (ieq (ix c.2.2.2.2.2.1 c.2.1 zN).Page zU.Page) (ieq (ix c.2.2.2.2.2.1 c.2.1 zN).Rights zU.Rights) false) (cond (inb c.2.1<|ln c.2.2.2.2.2.2.1) (cond (zdx<|ix c.2.2.2.2.2.2.1 c.2.1 []) (cond (cond (zcX<|ix c.2.2.2.2.2.2.1 c.2.1 []) false true) oF<|n (c.1,zI .i64 c.2.1 1,c.2.2.1,c.2.2.2.1,c.2.2.2.2.1,c.2.2.2.2.2.1,c.2.2.2.2.2.2.1,c.2.2.2.2.2.2.2.1,c.2.2.2.2.2.2.2.2.1,c.2.2.2.2.2.2.2.2.2.1,c.2.2.2.2.2.2.2.2.2.2.1,())) none) none)<|cond (zbg (ix c.2.2.2.2.2.1 c.2.1 zN).Rights 1) (cond (cond (zcF (ix c.2.2.2.2.2.1 c.2.1 zN).Rights 1) false true) oF<|cond (inb c.2.1<|ln c.2.2.2.2.2.2.1) (cond (igt (ln<|ix c.2.2.2.2.2.2.1 c.2.1 []) 0) oF<|n (c.1,zI .i64 c.2.1 1,c.2.2.1,c.2.2.2.1,c.2.2.2.2.1,c.2.2.2.2.2.1,c.2.2.2.2.2.2.1,c.2.2.2.2.2.2.2.1,c.2.2.2.2.2.2.2.2.1,c.2.2.2.2.2.2.2.2.2.1,c.2.2.2.2.2.2.2.2.2.2.1,())) none) none) none) none)<|some [.one<|.b true]) (ln a.Outer,0,a.Pending,a.Traps,a.Own,a.Outer,a.Out,a.Dirty,a.Guests,a.Outs,a.Tables,())) (λi h t rec=>?_) (λt rec=>?_) _ ()<|d hg).trans ?_;{simp only [zbq h,zS h,zba h,zQ h hg,cT];simp only[zbp,zhj,cT];cases zdG a.Guests[i]<;>rfl};{simp only [zbl,cF]};rw[zfU zdG];cases a.Guests.all zdG;{rfl};simp only[cT];refine(zX a.Outer (λj (u:Unit)=>(ln a.Outer,(j:Int),a.Pending,a.Traps,a.Own,a.Outer,a.Out,a.Dirty,a.Guests,a.Outs,a.Tables,())) _ (λj (_:Slot) (_:Unit) g=>bif fits a j then g () else oF) (λ(u:Unit)=>some [.one<|.b true]) (λj e u f=>?_) (λu f=>?_) _ ()<|d m).trans ?_;{simp only [zbq e,zS e,zba e,zQ e m,cT];have k:j<a.Out.length:=(by omega);simp only[zbA,zU,zdx,zcX,zbg,zcF,zS k,zLN,cT];unfold fits zlz;simp only[zba e,zct];cases ieq a.Outer[j].Page noSlot.Page<;>cases ieq a.Outer[j].Rights noSlot.Rights<;>cases enough a.Outer[j].Rights 1<;>cases ile (ln<|ix a.Out (j:Int) []) 0<;>cases zcn (ix a.Out (j:Int) [])<;>rfl};{simp only [zbl,cF]};rw[zsh λj (_:Unit) g=>bif fits a j then g () else oF,zvP<|fits a,show a.Outer.length=8 by omega];cases zlX (fits a) 8 0<;>rfl
theorem zON:vQ 148 zqd:=hF1 zE4 zq zo zu zVj zUz
def zNr (N:Nat)(c:Mon):OA:=
 (oN (zG (ln c.Guests) 1 2)<|cond (nB<|zi (ln c.Guests) 1 2) oF<|cond (ine (ln c.Tables)<|ln c.Guests) oF<|oN (ziz c.Outer 8 12)<|cond (nB<|zew c.Outer 8 12) oF<|cond (ine (ln c.Out) 8) oF<|cond (ine (ln c.Dirty) 8) oF<|iter (σ:=(Int×Int×Int×Int×lS×lM×lB×lG×(List Int)×lK×Unit)) N (λl b=>let d:=b.2.2.2.2.2.2.2.1; (cond (ilt b.1<|ln d) (oN (inb b.1<|ln d)<|oN (zbp<|ix d b.1 zl)<|cond (nB<|zhj<|ix d b.1 zl) oF<|l (zI .i64 b.1 1,b.2.1,b.2.2.1,b.2.2.2.1,b.2.2.2.2.1,b.2.2.2.2.2.1,b.2.2.2.2.2.2.1,d,b.2.2.2.2.2.2.2.2.1,b.2.2.2.2.2.2.2.2.2.1,()))<|iter (σ:=(Int×Int×Int×Int×lS×lM×lB×lG×(List Int)×lK×Unit)) N (λm a=>let h:=a.2.2.2.2.1;let i:=inb a.1<|ln a.2.2.2.2.2.1;let e:=ix a.2.2.2.2.2.1 a.1 [];let g:=ix h a.1 zN;let k:=ieq g.Rights zU.Rights;let j:=ieq g.Page zU.Page;let f:=m (zI .i64 a.1 1,a.2.1,a.2.2.1,a.2.2.2.1,h,a.2.2.2.2.2.1,a.2.2.2.2.2.2.1,a.2.2.2.2.2.2.2.1,a.2.2.2.2.2.2.2.2.1,a.2.2.2.2.2.2.2.2.2.1,()); (cond (ilt a.1 8) (oN (inb a.1<|ln h)<|oN zbA<|cond (nB<|cond j k false) (oN i<|cond (igt (ln e) 0) oF<|oN (inb a.1<|ln h)<|oN (zbg g.Rights 1)<|cond (nB<|zcF g.Rights 1) oF<|cond (nB<|nB<|cond j k false) (oN i<|oN (zdx e)<|cond (nB<|zcX e) oF f) f)<|cond (nB<|nB<|cond j k false) (oN i<|oN (zdx e)<|cond (nB<|zcX e) oF f) f)<|cond (ile (ln a.2.2.2.2.2.2.2.2.1) 40) (oN (zb2 a.2.1)<|cond (zeo a.2.1) (oN (zG a.2.2.1 0 3)<|cond (zi a.2.2.1 0 3) (oN (zG a.2.2.2.1 0 1000000000)<|some [aB<|zi a.2.2.2.1 0 1000000000]) oF) oF) oF)) (0,b.2.1,b.2.2.1,b.2.2.2.1,b.2.2.2.2.1,b.2.2.2.2.2.1,b.2.2.2.2.2.2.1,d,b.2.2.2.2.2.2.2.2.1,b.2.2.2.2.2.2.2.2.2.1,()))) (0,c.Pending,c.Traps,c.Own,c.Outer,c.Out,c.Dirty,c.Guests,c.Outs,c.Tables,()))
def zVn:=zx [(401,0,{n:=115,tm:=[(1,.lp 0 0),(3,ti)],lo:=[(0,[.sl 0 [],.sl 1 [],.sl 2 [],.sl 3 [],.sl 4 [],ti,ti,.sl 5 [],ti])],ro:=[(0,.slot,false),(1,.sl .int,false),(2,.bool,false),(3,.guest,false),(4,.int,false),(5,.kept,false)]}),(401,2,{n:=115,tm:=[(1,.lp 0 0),(4,ti)],lo:=[(0,[.sl 0 [],.sl 1 [],.sl 2 [],.sl 3 [],.sl 4 [],ti,ti,.sl 5 [],ti])],ro:=[(0,.slot,false),(1,.sl .int,false),(2,.bool,false),(3,.guest,false),(4,.int,false),(5,.kept,false)]})]
theorem zUK (c:Mon)(r:zbB big [aT .mon c])(A:zic c=true):∃N,zNr N c=some [aB<|ziV c]:=by
 have hg:c.Guests.length<=big:=((zcv r).1 (.s .guest c.Guests) (by simp[AV.cvs,Ty.cells])).len;refine zbZ λN d=>?_;unfold zNr ziV zd6 oN nB;conv=>zeta
 refine must rfl (stB λw=>stI λy=>must rfl (stB λp=>stI λq=>stI λz=>?_));have m:=znu p;have n:ln c.Out=8:=qD q;simp only[ln] at m n;refine(zX c.Guests (λi (t:Unit)=>((i:Int),c.Pending,c.Traps,c.Own,c.Outer,c.Out,c.Dirty,c.Guests,c.Outs,c.Tables,())) _ (λ_ (x:Guest) (_:Unit) l=>bif zdG x then l () else oF) (λ(t:Unit)=>iter (σ:=(Int×Int×Int×Int×lS×lM×lB×lG×(List Int)×lK×Unit)) N (λh a=>cond (ilt a.1 8) (cond (inb a.1<|ln a.2.2.2.2.1) (cond zbA (cond (cond (cond (ieq (ix a.2.2.2.2.1 a.1 zN).Page zU.Page) (ieq (ix a.2.2.2.2.1 a.1 zN).Rights zU.Rights) false) false true) (cond (inb a.1<|ln a.2.2.2.2.2.1) (cond (igt (ln<|ix a.2.2.2.2.2.1 a.1 []) 0) oF<|cond (inb a.1<|ln a.2.2.2.2.1) (cond (zbg (ix a.2.2.2.2.1 a.1 zN).Rights 1) (cond (cond (zcF (ix a.2.2.2.2.1 a.1 zN).Rights 1) false true) oF<|cond (cond (cond (cond (ieq (ix a.2.2.2.2.1 a.1 zN).Page zU.Page) (ieq (ix a.2.2.2.2.1 a.1 zN).Rights zU.Rights) false) false true) false true) (cond (inb a.1<|ln a.2.2.2.2.2.1) (cond (zdx<|ix a.2.2.2.2.2.1 a.1 []) (cond (cond (zcX<|ix a.2.2.2.2.2.1 a.1 []) false true) oF<|h (zI .i64 a.1 1,a.2.1,a.2.2.1,a.2.2.2.1,a.2.2.2.2.1,a.2.2.2.2.2.1,a.2.2.2.2.2.2.1,a.2.2.2.2.2.2.2.1,a.2.2.2.2.2.2.2.2.1,a.2.2.2.2.2.2.2.2.2.1,())) none) none)<|h (zI .i64 a.1 1,a.2.1,a.2.2.1,a.2.2.2.1,a.2.2.2.2.1,a.2.2.2.2.2.1,a.2.2.2.2.2.2.1,a.2.2.2.2.2.2.2.1,a.2.2.2.2.2.2.2.2.1,a.2.2.2.2.2.2.2.2.2.1,())) none) none) none)<|cond (cond (cond (cond (ieq (ix a.2.2.2.2.1 a.1 zN).Page zU.Page) (ieq (ix a.2.2.2.2.1 a.1 zN).Rights zU.Rights) false) false true) false true) (cond (inb a.1<|ln a.2.2.2.2.2.1) (cond (zdx<|ix a.2.2.2.2.2.1 a.1 []) (cond (cond (zcX<|ix a.2.2.2.2.2.1 a.1 []) false true) oF<|h (zI .i64 a.1 1,a.2.1,a.2.2.1,a.2.2.2.1,a.2.2.2.2.1,a.2.2.2.2.2.1,a.2.2.2.2.2.2.1,a.2.2.2.2.2.2.2.1,a.2.2.2.2.2.2.2.2.1,a.2.2.2.2.2.2.2.2.2.1,())) none) none)<|h (zI .i64 a.1 1,a.2.1,a.2.2.1,a.2.2.2.1,a.2.2.2.2.1,a.2.2.2.2.2.1,a.2.2.2.2.2.2.1,a.2.2.2.2.2.2.2.1,a.2.2.2.2.2.2.2.2.1,a.2.2.2.2.2.2.2.2.2.1,())) none) none)<|cond (ile (ln a.2.2.2.2.2.2.2.2.1) 40) (cond (zb2 a.2.1) (cond (zeo a.2.1) (cond (zG a.2.2.1 0 3) (cond (zi a.2.2.1 0 3) (cond (zG a.2.2.2.1 0 1000000000) (some [.one<|.b<|zi a.2.2.2.1 0 1000000000]) none) oF) none) oF) none) oF) (0,c.Pending,c.Traps,c.Own,c.Outer,c.Out,c.Dirty,c.Guests,c.Outs,c.Tables,())) (λi g t rec=>?_) (λt rec=>?_) _ ()<|d hg).trans ?_;{simp only [zbq g,zS g,zba g,zQ g hg,cT];simp only[zbp,zhj,cT];cases zdG c.Guests[i]<;>rfl};{simp only [zbl,cF]};rw[zfU zdG];cases B:c.Guests.all zdG;{simp only [cF];cases ile (ln c.Outs) 40<;>cases zdu c.Pending<;>cases zi c.Traps 0 3<;>cases zi c.Own 0 1000000000<;>rfl};simp only[cT];refine(zsW 8 (λj (u:Unit)=>((j:Int),c.Pending,c.Traps,c.Own,c.Outer,c.Out,c.Dirty,c.Guests,c.Outs,c.Tables,())) _ (λj (_:Unit) l=>bif fits c j then l () else oF) (λ(u:Unit)=>cond (ile (ln c.Outs) 40) (cond (zb2 c.Pending) (cond (zeo c.Pending) (cond (zG c.Traps 0 3) (cond (zi c.Traps 0 3) (cond (zG c.Own 0 1000000000) (some [.one<|.b<|zi c.Own 0 1000000000]) none) oF) none) oF) none) oF) (λj v u f=>?_) (λu f=>?_) _ ()<|d (by decide)).trans ?_;{simp only [show ilt (j:Int) 8=true from qK (by omega),zQ v (show 8<=big by decide),cT];have e:j<c.Outer.length:=(by omega);have k:j<c.Out.length:=(by omega);simp only[zbA,zU,zdx,zcX,zbg,zcF,zS e,zS k,zLN,cT];unfold fits zlz;simp only[zba e,zct];cases ieq c.Outer[j].Page noSlot.Page<;>cases ieq c.Outer[j].Rights noSlot.Rights<;>cases enough c.Outer[j].Rights 1<;>cases ile (ln<|ix c.Out (j:Int) []) 0<;>cases zcn (ix c.Out (j:Int) [])<;>rfl};{simp only [show ilt ((8:Nat):Int) 8=false from qI (by omega),cF];rfl};rw[zvP<|fits c];simp only[zb2,zeo,zG,zQn,cT];cases zlX (fits c) 8 0<;>cases ile (ln c.Outs) 40<;>cases zdu c.Pending<;>cases zi c.Traps 0 3<;>cases zi c.Own 0 1000000000<;>rfl
theorem zOZ:vQ 401 zqd:=hF1 zE4 zq zo zu zVn zUK
def z4b:zV:=[(401,zqd),(148,zqd)]++z4a
theorem zE5:zL z4b:=zh zOZ (zh zON zE4)
def zgJ:List Slot->List Bool->Option (List Bool)
 |[],u=>some u
 |s::l,u=>bif ilt s.Page 0 then zgJ l u else (cond (ix u s.Page false) none<|zgJ l<|up u s.Page true)
def zhJ:List Mon->List Bool->Bool
 |[],_=>true
 |m::l,u=>bif zd6 m then (match zgJ m.Outer u with|some a=>zhJ l a|none=>false) else false
def zbM (h:Host):Bool:=bif zid h.Memory 12 then (cond (zi (ln h.Mons) 1 3) (cond (zfH h.Buffer) (cond (zfH h.IoBuffer) (zhJ h.Mons<|rp 12 false) false) false) false) else false
theorem zo5:∀(l:List Slot) (u a:List Bool),zgJ l u=some a->a.length=u.length
 |[],u,a,h=>by cases h;rfl
 |s::l,u,a,h=>by simp only[zgJ]at h;cases b:ilt s.Page 0;{rw [b]at h;cases c:ix u s.Page false;{rw [c]at h;simpa using zo5 l _ a h};{rw [c]at h;cases h}};{rw [b]at h;exact zo5 l u a h}
theorem zCc {t:List Slot}{n:Int}(h:zcJ t n 12=true):∀s∈t,s.Page<12:=by intro s d;unfold zcJ at h;cases b:t.all (λs=>zdT s 12);{rw [b]at h;cases h};{have:=qL.1 b s d;unfold zdT at this;cases a:zct s noSlot;{rw [a] at this;simp only[cF,show igt 12 0=true from rfl,cT] at this;cases c:zi s.Page 0 (wsub .i64 12 1);{rw [c] at this;cases this};{have:=(zfj.1 c).2;rw[show wsub .i64 12 1=11 from rfl] at this;omega}};{unfold zct at a;rw[qE]at a;have a:s.Page = -1:=qD a.1;omega}}
theorem zT4 {s:Slot}{u:List Bool}(h:s.Page<12)(b:u.length=12)(a:ilt s.Page 0=false):inb s.Page (ln u)=true:=by have:=jR a;exact qK (by simp only[ln];omega)
def zsA {a:Type}(r:Option a)(y:Slot)(u:List Bool)(b:List Bool->Option a):Option a:=bif ilt y.Page 0 then b u else (cond (inb y.Page<|ln u) (cond (ix u y.Page false) r<|cond (inb y.Page<|ln u) (share (up u y.Page true) λc=>b c) none) none)
theorem zxk {c:Type}(r:Option c)(K:List Bool->Option c):∀(l:List Slot) (i:Nat) (u:List Bool),(∀s∈l,s.Page<12)->u.length=12->
 goL (λ_ y u g=>zsA r y u g) K l i u=match zgJ l u with|some f=>K f|none=>r
 |[],_,_,_,_=>rfl
 |s::l,i,u,h,b=>by simp only[goL,zgJ,zsA];cases d:ilt s.Page 0;{have e:=zT4 (h s (by simp)) b d;rw[e];cases ix u s.Page false;{simp only [cF,cT,share];exact zxk r K l (i+1) _ (λs a=>h s (by simp[a])) (by simpa using b)};{rfl}};{simp only [cT];exact zxk r K l (i+1) u (λs a=>h s (by simp[a])) b}
def zWQ {b:Type}(r:Option b)(m:Mon)(u:List Bool)(a:List Bool->Option b):Option b:=bif zd6 m then goL (λ_ y u a=>zsA r y u a) a m.Outer 0 u else r
theorem zcR {c x:Bool}:((cond c x false)=true)↔c=true/\x=true:=by cases c<;>simp
theorem ziv {m:Mon}(h:zd6 m=true):zcJ m.Outer 8 12=true:=by unfold zd6 at h;simp only[zcR]at h;exact h.2.2.1
theorem zRs {K:Bool->OA}(k:List Bool->OA)(a:∀u,k u=K true):∀(l:List Mon) (i:Nat) (u:List Bool),u.length=12->
 goL (λ_ m u g=>zWQ (K false) m u g) k l i u=K (zhJ l u)
 |[],_,u,_=>a u
 |m::l,i,u,b=>by simp only[goL,zhJ,zWQ];cases c:zd6 m;{rfl};{simp only [cT];have e:=ziv c;rw[zxk _ _ _ _ _ (zCc e) b];cases d:zgJ m.Outer u with|none=>rfl|some f=>exact zRs k a l (i+1) f ((zo5 _ _ _ d).trans b)}
@[simp] abbrev zc9 (h:Host):Bool:=true
@[simp] abbrev zdj (h:Host):Bool:=zbM h
def zn3:Run:=rF1 dH λb=>(zc9 b,[aB<|zdj b])
def zGH (N:Nat)(c:Host):OA:=
 (oN (zih c.Memory 12)<|cond (nB<|zfs c.Memory 12) oF<|oN (zG (ln c.Mons) 1 3)<|cond (nB<|zi (ln c.Mons) 1 3) oF<|oN (zhK c.Buffer)<|cond (nB<|zg9 c.Buffer) oF<|oN (zhK c.IoBuffer)<|cond (nB<|zg9 c.IoBuffer) oF<|oN (cond (few 12) (ieq 12 12) false)<|iter (σ:=(Int×Int×lB×lN×Unit)) N (λk b=>let h:=ix b.2.2.2.1 b.2.1 zf; (cond (ilt b.2.1 b.1) (oN (inb b.2.1<|ln b.2.2.2.1)<|oN (zic h)<|cond (nB<|ziV h) oF<|iter (σ:=(Int×Int×Int×Int×Int×lB×lN×Unit)) N (λi a=>let f:=a.2.2.2.2.1;let g:=a.2.2.2.2.2.2.1;let j:=(ix g a.2.2.1 zf).Outer;let d:=a.2.2.2.2.2.1;let e:=(ix j f zN).Page; (cond (ilt f a.2.2.2.1) (oN (inb f<|ln j)<|cond (ilt e 0) (i (a.1,a.2.1,a.2.2.1,a.2.2.2.1,zI .i64 f 1,d,g,()))<|oN (inb e<|ln d)<|cond (ix d e false) oF<|oN (inb e<|ln d)<|share (up d e true) λl=>i (a.1,a.2.1,a.2.2.1,a.2.2.2.1,zI .i64 f 1,l,g,()))<|k (a.1,zI .i64 a.2.1 1,d,g,()))) (b.1,b.2.1,b.2.1,ln h.Outer,0,b.2.2.1,b.2.2.2.1,())) oT)) (ln c.Mons,0,rp 12 false,c.Mons,()))
def zTG:=zx [(50,0,{n:=63,tm:=[(3,.sl 0 []),(33,.sl 1 []),(34,ti),(35,ti)],lo:=[],ro:=[(0,.bool,true),(1,.mon,false)]}),(50,2,{n:=63,tm:=[(3,.sl 0 []),(33,.sl 1 []),(34,ti),(35,ti),(43,.sl 1 [0]),(44,ti),(45,ti)],lo:=[],ro:=[(0,.bool,true),(1,.mon,false)]})]
theorem zRW (a:Host)(n:zbB big [aH a])(w:zc9 a=true):∃N,zGH N a=some [aB<|zdj a]:=by
 have l:CVB big (.s .mon a.Mons):=(zcv n).1 _ (by simp[AV.cvs,zbe]);have g:=l.len;refine zbZ λN d=>?_;unfold zGH zdj zbM oN nB;conv=>zeta
 refine must rfl (stB λp=>must rfl (stB λq=>must rfl (stB λr=>must rfl (stB λv=>must rfl ?_))));refine(zX a.Mons (λi (t:lB)=>(ln a.Mons,(i:Int),t,a.Mons,())) _ (λ_ (x:Mon) (u:List Bool) h=>zWQ (oF) x u h) (λ(t:lB)=>some [.one<|.b true]) (λi c t rec=>?_) (λt rec=>?_) _ (rp 12 false)<|d g).trans ?_;{simp only [zbq c,zS c,zba c,zQ c g,cT];unfold zWQ;cases k:zd6 a.Mons[i];{simp only [zic,ziV,k,cT,cF]};simp only[zic,ziV,k,cT,cF];have m:a.Mons[i].Outer.length<=big:=(l.inv.2 _ (jD c) (.s .slot _) (by simp[Ty.cells])).len;refine(zX a.Mons[i].Outer (λj (u:lB)=>(ln a.Mons,(i:Int),(i:Int),ln a.Mons[i].Outer,(j:Int),u,a.Mons,())) _ (λ_ (y:Slot) (u:List Bool) h=>zsA (oF) y u h) (λ(u:lB)=>rec (ln a.Mons,((i+1:Nat):Int),u,a.Mons,())) (λj f u e=>?_) (λu e=>?_) _ (t)<|d m).trans ?_;{simp only [zbq f,zS f,zba f,zQ f m,cT,zS c,zba c,zQ c g];rfl};{simp only [zbl,cF,zS c,zba c,zQ c g]};rfl};{simp only [zbl,cF]};exact zRs (K:=λb=>some [AV.one<|.b b]) _ (λ_=>rfl) _ _ _ rfl
theorem zKT:vQ 50 zn3:=hF1 zE5 zq zo zu zTG zRW
theorem zFg {e:Type}(r:Option e)(k:List Bool->Option e)(m:Mon):∀(n i:Nat) (u:List Bool),(∀s∈m.Outer,s.Page<12)->u.length=12->i+n=m.Outer.length->
 goN (λj u d=>bif inb (j:Int) (ln m.Outer) then zsA r (ix m.Outer (j:Int) zN) u d else none) k n i u=goL (λ_ y u d=>zsA r y u d) k (m.Outer.drop i) i u
 | 0,i,u,_,_,h=>by have:i=m.Outer.length:=(by omega);subst this;simp[goN,goL]
 |n+1,i,u,b,c,h=>by have a:i<m.Outer.length:=(by omega);rw[j3 a];simp only[goN,goL,zS a,zba a,cT,zsA];cases f:ilt m.Outer[i].Page 0;{rw [zT4 (b _<|jD a) c f];cases ix u m.Outer[i].Page false;{simp only [cF,cT,share];exact zFg r k m n (i+1) _ b (by simpa using c) (by omega)};{rfl}};{simp only [cT];exact zFg r k m n (i+1) u b c (by omega)}
def zG4 (N:Nat)(b:Host):OA:=
 (oN (zih b.Memory 12)<|cond (nB<|zfs b.Memory 12) oF<|oN (zG (ln b.Mons) 1 3)<|cond (nB<|zi (ln b.Mons) 1 3) oF<|oN (zhK b.Buffer)<|cond (nB<|zg9 b.Buffer) oF<|oN (zhK b.IoBuffer)<|cond (nB<|zg9 b.IoBuffer) oF<|oN (cond (few 12) (ieq 12 12) false)<|iter (σ:=(Int×lB×lM×lN×lE×lE×Unit)) N (λq c=>let n:=ix c.2.2.2.1 c.1 zf; (cond (ilt c.1<|ln c.2.2.2.1) (oN (inb c.1<|ln c.2.2.2.1)<|oN (zic n)<|cond (nB<|ziV n) oF<|iter (σ:=(Int×Int×lB×lM×lN×lE×lE×Unit)) N (λi a=>let k:=zI .i64 a.2.1 1;let h:=a.2.2.2.2.2.1;let g:=a.2.2.2.2.2.2.1;let f:=a.2.2.1;let e:=a.2.2.2.2.1;let p:=(ix e a.1 zf).Outer;let m:=i (a.1,k,f,a.2.2.2.1,e,h,g,());let d:=(ix p a.2.1 zN).Page;let l:=inb d<|ln f; (cond (ilt a.2.1 8) (oN (inb a.1<|ln e)<|oN (inb a.2.1<|ln p)<|cond (ige d 0) (oN l<|cond (ix f d false) oF<|cond (ige d 0) (oN l<|share (up f d true) λj=>i (a.1,k,j,a.2.2.2.1,e,h,g,())) m)<|cond (ige d 0) (oN l<|share (up f d true) λj=>i (a.1,k,j,a.2.2.2.1,e,h,g,())) m)<|q (zI .i64 a.1 1,f,a.2.2.2.1,e,h,g,()))) (c.1,0,c.2.1,c.2.2.1,c.2.2.2.1,c.2.2.2.2.1,c.2.2.2.2.2.1,())) oT)) (0,rp 12 false,b.Memory,b.Mons,b.Buffer,b.IoBuffer,()))
def zTP:=zx [(386,0,{n:=72,tm:=[(1,.lp 0 0),(3,.sl 0 []),(4,ti)],lo:=[(0,[.sl 1 [],.sl 2 [],.sl 3 [],.sl 4 []])],ro:=[(0,.bool,true),(1,.sl .int,false),(2,.mon,false),(3,.entry,false),(4,.entry,false)]}),(386,2,{n:=72,tm:=[(1,.lp 0 0),(3,.sl 0 []),(4,ti),(5,ti)],lo:=[(0,[.sl 1 [],.sl 2 [],.sl 3 [],.sl 4 []])],ro:=[(0,.bool,true),(1,.sl .int,false),(2,.mon,false),(3,.entry,false),(4,.entry,false)]})]
theorem zSh (a:Host)(y:zbB big [aH a])(F:zc9 a=true):∃N,zG4 N a=some [aB<|zdj a]:=by
 have A:CVB big (.s .mon a.Mons):=(zcv y).1 _ (by simp[AV.cvs,zbe]);have h:=A.len;refine zbZ λN f=>?_;unfold zG4 zdj zbM oN nB;conv=>zeta
 refine must rfl (stB λD=>must rfl (stB λq=>must rfl (stB λr=>must rfl (stB λE=>must rfl ?_))));refine(zX a.Mons (λi (t:lB)=>((i:Int),t,a.Memory,a.Mons,a.Buffer,a.IoBuffer,())) _ (λ_ (x:Mon) (u:List Bool) d=>bif zd6 x then goN (λj u d=>bif inb (j:Int) (ln x.Outer) then zsA (oF) (ix x.Outer (j:Int) zN) u d else none) d 8 0 u else oF) (λ(t:lB)=>some [.one<|.b true]) (λi c t rec=>?_) (λt rec=>?_) _ (rp 12 false)<|f h).trans ?_;{simp only [zbq c,zS c,zba c,zQ c h,cT];cases v:zd6 a.Mons[i];{simp only [zic,ziV,v,cT,cF]};simp only[zic,ziV,v,cT,cF];refine(zsW 8 (λj (u:lB)=>((i:Int),(j:Int),u,a.Memory,a.Mons,a.Buffer,a.IoBuffer,())) _ (λj (u:List Bool) d=>bif inb (j:Int) (ln a.Mons[i].Outer) then zsA (oF) (ix a.Mons[i].Outer (j:Int) zN) u d else none) (λ(u:lB)=>rec (((i+1:Nat):Int),u,a.Memory,a.Mons,a.Buffer,a.IoBuffer,())) (λj z u g=>?_) (λu g=>?_) _ (t)<|f (by decide)).trans ?_;{simp only [show ilt (j:Int) 8=true from qK (by omega),zQ z (show 8<=big by decide),cT,zS c,zba c,zQ c h];unfold zsA;have e:ige (ix a.Mons[i].Outer (j:Int) zN).Page 0 = !ilt (ix a.Mons[i].Outer (j:Int) zN).Page 0:=(by rw[z6p,Bool.not_not]);simp only[e];cases ilt (ix a.Mons[i].Outer (j:Int) zN).Page 0<;>cases inb (j:Int) (ln a.Mons[i].Outer)<;>cases inb (ix a.Mons[i].Outer (j:Int) zN).Page (ln u)<;>cases ix u (ix a.Mons[i].Outer (j:Int) zN).Page false<;>rfl};{simp only [show ilt ((8:Nat):Int) 8=false from qI (by omega),cF,zS c,zba c,zQ c h]};rfl};{simp only [zbl,cF]};have p:∀(l:List Mon) (i:Nat) (u:List Bool),u.length=12->goL (λ_ (x:Mon) (u:List Bool) d=>bif zd6 x then goN (λj u d=>bif inb (j:Int) (ln x.Outer) then zsA (oF) (ix x.Outer (j:Int) zN) u d else none) d 8 0 u else oF) (λ_=>oT) l i u=some [AV.one<|.b<|zhJ l u]:=(by intro l;induction l with|nil=>intro i u _;rfl|cons m l B=>intro i u n;simp only[goL,zhJ];cases q:zd6 m;{rfl};{have k:=ziv q;have w:0+8=m.Outer.length:=(by have:=znu k;simp only[ln] at this;omega);simp only[cT];rw[zFg _ _ m 8 0 u (zCc k) n w,uW,zxk _ _ _ _ _ (zCc k) n];cases r:zgJ m.Outer u with|none=>rfl|some C=>exact B (i+1) C ((zo5 _ _ _ r).trans n)});exact p _ _ _ rfl
theorem zLn:vQ 386 zn3:=hF1 zE5 zq zo zu zTP zSh
def zWY:zV:=[(386,zn3),(50,zn3)]++z4b
theorem zsC:zL zWY:=zh zLn (zh zKT zE5)
theorem zIT {h:Host}(a:zbM h=true):(h.Mons.length:Int)<=3:=by unfold zbM at a;simp only[zcR]at a;exact(zfj.1 a.2.1).2
def zcH (h:Host)(m:Int):Bool:=bif zbM h then hasB m (ln h.Mons) else false
def zb1 (h:Host)(m p:Int):Bool:=bif zbM h then (cond (hasB m<|ln h.Mons) (hasB p 8) false) else false
theorem zM9 {h:Host}(a:zbM h=true)(m:Int):zi m 0 (wsub .i64 (ln h.Mons) 1)=hasB m (ln h.Mons):=zpT (by have:=zIT a;omega) m
@[simp] abbrev zfS (h:Host)(m:Int):Bool:=true
@[simp] abbrev zfR (h:Host)(m:Int):Bool:=zcH h m
def zBn:Run:=rF2 dH dI λb c=>(zfS b c,[aB<|zfR b c])
def zHo (N:Nat)(a:Host)(b:Int):OA:=
 (oN (zc9 a)<|cond (zdj a) (oN (zG b 0<|wsub .i64 (ln a.Mons) 1)<|some [aB<|zi b 0<|wsub .i64 (ln a.Mons) 1]) oF)
theorem zSy (a:Host)(b:Int)(d:zfS a b=true):∃N,zHo N a b=some [aB<|zfR a b]:=by refine⟨0,?_⟩;unfold zHo zfR zcH oN;cases c:zbM a;{simp only [zc9,zdj,c,cT,cF]};{simp only [zc9,zdj,c,cT,zG,zQn,zM9 c]}
theorem zLK:vQ 364 zBn:=kF2 zsC zq zo zu (zx []) zSy
@[simp] abbrev zjl (h:Host)(m p:Int):Bool:=true
@[simp] abbrev zes (h:Host)(m p:Int):Bool:=zb1 h m p
def zqk:Run:=rF3 dH dI dI λb c d=>(zjl b c d,[aB<|zes b c d])
def zNx (N:Nat)(a:Host)(b c:Int):OA:=
 (oN (zc9 a)<|cond (zdj a) (oN (zG b 0<|wsub .i64 (ln a.Mons) 1)<|cond (zi b 0<|wsub .i64 (ln a.Mons) 1) (oN (zG c 0 7)<|some [aB<|zi c 0 7]) oF) oF)
theorem zUQ (a:Host)(b c:Int)(e:zjl a b c=true):∃N,zNx N a b c=some [aB<|zes a b c]:=by refine⟨0,?_⟩;unfold zNx zes zb1 oN;cases d:zbM a;{simp only [zc9,zdj,d,cT,cF]};{simp only [zc9,zdj,d,cT,zG,zQn,zM9 d,z7Q];cases hasB b (ln a.Mons)<;>rfl}
theorem zO6:vQ 370 zqk:=kF3 zsC zq zo zu (zx []) zUQ
def zDj (N:Nat)(a:Host)(b c:Int):OA:=
 (oN (zc9 a)<|cond (zdj a) (oN (zbg b<|ln a.Mons)<|cond (zcq b<|ln a.Mons) (oN (zbg c 8)<|some [aB<|zcq c 8]) oF) oF)
theorem zPj (a:Host)(b c:Int)(e:zjl a b c=true):∃N,zDj N a b c=some [aB<|zes a b c]:=by refine⟨0,?_⟩;unfold zDj zes zb1 oN;cases d:zbM a;{simp only [zc9,zdj,d,cT,cF]};{simp only [zc9,zdj,d,cT,zbg,zcq];cases hasB b (ln a.Mons)<;>rfl}
theorem zIg:vQ 66 zqk:=kF3 zsC zq zo zu (zx []) zPj
def z4c:zV:=[(364,zBn),(370,zqk),(66,zqk)]++zWY
theorem zQ2:zL z4c:=zh zLK (zh zO6<|zh zIg zsC)
def zdc (k:Kept)(p:Int):Bool:=bif hasB p (ln k.Known) then hasB p (ln k.Slots) else false
def zbR (k:Kept)(p:Int):Kept:=bif zdc k p then ⟨up k.Known p false,up k.Slots p noSlot⟩ else k
@[simp] theorem zo4 {k:Kept}{p:Int}(h:SmK k):SmK (zbR k p):=by unfold zbR;cases zdc k p;{exact h};{exact⟨by simpa using h.1,by simpa using h.2⟩}
theorem has_lt {p:Int}{n m:Int}(h:hasB p n=true):ilt p m=hasB p m:=by have h:=qD h;unfold ilt hasB;by_cases a:p<m;{rw [qK a,qK ⟨h.1,a⟩]};{rw [qI a,qI (by omega)]}
@[simp] abbrev zdy (k:Kept)(p:Int):Bool:=pc (SmK k)
@[simp] abbrev ziB (k:Kept)(p:Int):Bool:=zdc k p
def zBl:Run:=rF2 (dT .kept) dI λb c=>(zdy b c,[aB<|ziB b c])
def zHm (N:Nat)(a:Kept)(b:Int):OA:=
 (oN (zG b 0<|wsub .i64 (ln a.Known) 1)<|cond (zi b 0<|wsub .i64 (ln a.Known) 1) (some [aB<|ilt b<|ln a.Slots]) oF)
theorem zSv (a:Kept)(b:Int)(c:zdy a b=true):∃N,zHm N a b=some [aB<|ziB a b]:=by have e:=zJ.1 c;refine⟨0,?_⟩;unfold zHm ziB zdc oN;simp only[zG,zQn,zpT e.1,cT];cases d:hasB b (ln a.Known);{rfl};{simp only [cT,has_lt d]}
theorem zLE:vQ 389 zBl:=kF2 zQ2 zq zo zu (zx []) zSv
def z4d:zV:=[(389,zBl)]++z4c
theorem zE6:zL z4d:=zh zLE zQ2
@[simp] abbrev zgZ (k:Kept)(p:Int):Kept:=zbR k p
def zoe:Run:=rF2 (dT .kept) dI λb c=>(zdy b c,[aT .kept<|zgZ b c])
def zG2 (N:Nat)(c:Kept)(b:Int):OA:=
 let a:=zdO c; (oN (zgr c)<|oN (zdy a b)<|cond (ziB a b) (oN (inb b<|ln a.Known)<|share (up a.Known b false) λd=>oN zbA<|oN (inb b<|ln a.Slots)<|share (up a.Slots b zU) λe=>some [aT .kept (⟨d,e⟩:Kept)])<|some [aT .kept a])
theorem zSf (a:Kept)(b:Int)(g:zdy a b=true):∃N,zG2 N a b=some [aT .kept<|zgZ a b]:=by
 have d:=zJ.1 g;refine⟨0,?_⟩;unfold zG2 zgZ oN;conv=>zeta
 refine must (zbj<|(zvH _).2 d) (must (zbj d) ?_);unfold zbR;cases c:zdc a b;{simp only [ziB,zdO,c,cF]};{simp only [ziB,zdO,c,cT];unfold zdc at c;obtain⟨e,f⟩:=zcR.1 c;simp only[zRL,e,f,cT,share,zbA]}
theorem zLl:vQ 367 zoe:=kF2 zE6 zq zo zu (zx []) zSf
def zGF (N:Nat)(b:Kept)(a:Int):OA:=
 let c:=zds b; (oN (zeu b)<|oN (zbg a<|ln b.Known)<|cond (zcq a<|ln b.Known) (oN (zbg a<|ln b.Slots)<|cond (zcq a<|ln b.Slots) (oN (inb a<|ln c.Known)<|share (up c.Known a false) λd=>oN zbA<|oN (inb a<|ln c.Slots)<|share (up c.Slots a zU) λe=>some [aT .kept (⟨d,e⟩:Kept)])<|some [aT .kept c])<|some [aT .kept c])
theorem zRU (a:Kept)(b:Int)(c:zdy a b=true):∃N,zGF N a b=some [aT .kept<|zgZ a b]:=by
 have d:=zJ.1 c;refine⟨0,?_⟩;unfold zGF zgZ oN;conv=>zeta
 refine must (zbj d) (must rfl ?_);unfold zbR zdc;simp only[zcq,zbg,zds,zRL,share,zbA,cT];cases hasB b (ln a.Known);{rfl};{cases hasB b (ln a.Slots)<;>rfl}
theorem zKR:vQ 121 zoe:=kF2 zE6 zq zo zu (zx []) zRU
def z4e:zV:=[(367,zoe),(121,zoe)]++z4d
theorem zsD:zL z4e:=zh zLl (zh zKR zE6)
def zeU (k:Kept)(l:List Int):Kept:=l.foldl zbR k
theorem zWr:∀(l:List Int) {k:Kept},SmK k->SmK (zeU k l)
 |[],_,h=>h
 |p::l,k,h=>zWr l (zo4 (p:=p) h)
theorem zxj {b:Type}(K:List Bool×List Slot->Option b):∀(l:List Int) (i:Nat) (k:Kept),SmK k->
 goL (λ_ x (t:List Bool×List Slot) a=>bif pc (SmK ⟨t.1,t.2⟩) then a ((zbR ⟨t.1,t.2⟩ x).Known,(zbR ⟨t.1,t.2⟩ x).Slots) else none) K l i (k.Known,k.Slots)=K ((zeU k l).Known,(zeU k l).Slots)
 |[],_,_,_=>rfl
 |x::l,i,k,h=>by have e:pc (SmK ⟨k.Known,k.Slots⟩)=true:=zbj h;simp only[goL,e,cT];exact zxj K l (i+1) (zbR k x) (zo4 h)
def zBI (l:List Slot)(p:Int):List Int:=idxs (λ(s:Slot)=>ieq s.Page p) l 0
def zjv (k:Kept)(l:List Slot)(p:Int):Kept:=zeU k (zBI l p)
theorem z3c {k:Kept}(l:List Slot)(p:Int)(h:SmK k):SmK (zjv k l p):=zWr _ h
@[simp] abbrev zhD (k:Kept)(l:List Slot)(p:Int):Bool:=pc (SmK k/\l.length<=1048576)
@[simp] abbrev zk3 (k:Kept)(l:List Slot)(p:Int):Kept:=zjv k l p
def zjH:Run:=rF3 (dT .kept) (dS .slot) dI λb c d=>(zhD b c d,[aT .kept<|zk3 b c d])
def zvC (N:Nat)(c:Kept)(e:lS)(f:Int):OA:=
 (oN (zgr c)<|oN (zoQ e f)<|iter (σ:=(Int×(List Int)×lB×lS×lB×lS×Unit)) N (λg a=>let d:=ix a.2.1 a.1 0;let b:=(⟨a.2.2.1,a.2.2.2.1⟩:Kept); (cond (ilt a.1<|ln a.2.1) (oN (inb a.1<|ln a.2.1)<|oN (zdy b d)<|g (zI .i64 a.1 1,a.2.1,(zgZ b d).Known,(zgZ b d).Slots,a.2.2.2.2.1,a.2.2.2.2.2.1,()))<|some [aT .kept b])) (0,zgi e f,(zdO c).Known,(zdO c).Slots,[],[],()))
def zGy:=zx [(398,0,{n:=27,tm:=[(3,.lp 0 0),(6,.lp 1 0),(7,.sl 0 []),(8,ti)],lo:=[(0,[.sl 1 [],.sl 2 []]),(1,[.sl 3 [],.sl 4 []])],ro:=[(0,.int,true),(1,.bool,true),(2,.slot,true),(3,.bool,true),(4,.slot,true)]})]
theorem zF8 (b:Kept)(a:List Slot)(c:Int)(j:zhD b a c=true):∃N,zvC N b a c=some [aT .kept<|zk3 b a c]:=by
 obtain⟨h,f⟩:=zJ.1 j;have g:(zgi a c).length<=big:=jC (zxw _ a 0) (zcu f).1;refine zbZ λN e=>?_;unfold zvC oN;conv=>zeta
 refine must (zbj<|(zvH _).2 h) (must (zbj (by omega)) ?_);refine(zX (zgi a c) (λi (t:lB×lS)=>((i:Int),zgi a c,t.1,t.2,[],[],())) _ (λ_ (x:Int) (t:List Bool×List Slot) k=>bif pc (SmK ⟨t.1,t.2⟩) then k ((zbR ⟨t.1,t.2⟩ x).Known,(zbR ⟨t.1,t.2⟩ x).Slots) else none) (λ(t:lB×lS)=>some [.agg<|Ty.cells .kept (⟨t.1,t.2⟩:Kept)]) (λi d t rec=>?_) (λt rec=>?_) _ ((zdO b).Known,(zdO b).Slots)<|e g).trans ?_;{simp only [zbq d,zS d,zba d,zQ d g,cT]};{simp only [zbl,cF]};exact zxj _ _ 0 b h
theorem zAu:vQ 398 zjH:=kF3 zsD zq zo zu zGy zF8
def zvw (N:Nat)(c:Kept)(d:lS)(e:Int):OA:=
 (oN (zeu c)<|oN (zoQ d e)<|iter (σ:=(Int×Int×(List Int)×lB×lS×lB×lS×Unit)) N (λg a=>let f:=ix a.2.2.1 a.2.1 0;let b:=(⟨a.2.2.2.2.2.1,a.2.2.2.2.2.2.1⟩:Kept); (cond (ilt a.2.1 a.1) (oN (inb a.2.1<|ln a.2.2.1)<|oN (zdy b f)<|g (a.1,zI .i64 a.2.1 1,a.2.2.1,a.2.2.2.1,a.2.2.2.2.1,(zgZ b f).Known,(zgZ b f).Slots,()))<|some [aT .kept b])) (ln<|zgi d e,0,zgi d e,[],[],(zds c).Known,(zds c).Slots,()))
def zGu:=zx [(252,0,{n:=25,tm:=[(6,.lp 0 0),(7,.lp 1 0),(14,.sl 0 []),(15,ti),(16,ti)],lo:=[(0,[.sl 1 [],.sl 2 []]),(1,[.sl 3 [],.sl 4 []])],ro:=[(0,.int,true),(1,.bool,true),(2,.slot,true),(3,.bool,true),(4,.slot,true)]})]
theorem zF1 (c:Kept)(a:List Slot)(b:Int)(j:zhD c a b=true):∃N,zvw N c a b=some [aT .kept<|zk3 c a b]:=by
 obtain⟨h,f⟩:=zJ.1 j;have g:(zgi a b).length<=big:=jC (zxw _ a 0) (zcu f).1;refine zbZ λN e=>?_;unfold zvw oN;conv=>zeta
 refine must (zbj h) (must (zbj (by omega)) ?_);refine(zX (zgi a b) (λi (t:lB×lS)=>(ln<|zgi a b,(i:Int),zgi a b,[],[],t.1,t.2,())) _ (λ_ (x:Int) (t:List Bool×List Slot) k=>bif pc (SmK ⟨t.1,t.2⟩) then k ((zbR ⟨t.1,t.2⟩ x).Known,(zbR ⟨t.1,t.2⟩ x).Slots) else none) (λ(t:lB×lS)=>some [.agg<|Ty.cells .kept (⟨t.1,t.2⟩:Kept)]) (λi d t rec=>?_) (λt rec=>?_) _ ((zds c).Known,(zds c).Slots)<|e g).trans ?_;{simp only [zbq d,zS d,zba d,zQ d g,cT]};{simp only [zbl,cF]};exact zxj _ _ 0 c h
theorem zAo:vQ 252 zjH:=kF3 zsD zq zo zu zGu zF1
def flushed (l:List Entry)(p:Int):List Entry:=l.filter λe=>!ieq e.Host p
theorem zDY (l:List Entry)(p:Int):(flushed l p).length<=l.length:=uH _ _
theorem zlq {b e:Type}(p:b->Bool)(K:List b->Option e):∀(l:List b) (i:Nat) (a:List b),a.length+l.length<=2147483648->
 goL (λ_ x a d=>bif p x then (cond (few<|ln<|ap a [x]) (d<|ap a [x]) none) else d a) K l i a=K (a++l.filter p)
 |[],i,a,_=>by simp[goL]
 |x::l,i,a,h=>by simp only[qV]at h;simp only[goL];cases c:p x;{rw [cF,zlq p K l (i+1) a (by omega),List.filter_cons_of_neg (by simp[c])]};{rw [cT,zf6 (by simp[ap];omega),cT,zlq p K l (i+1) _ (by simp[ap];omega),List.filter_cons_of_pos c];simp[ap]}
@[simp] abbrev zee (l:List Entry)(p:Int):Bool:=pc (l.length<=1048576)
@[simp] abbrev zgo (l:List Entry)(p:Int):List Entry:=flushed l p
def zks:Run:=rF2 (dS .entry) dI λb c=>(zee b c,[aS .entry<|zgo b c])
def zyf (N:Nat)(e:lE)(f:Int):OA:=
 (iter (σ:=(Int×Int×lE×lE×Unit)) N (λd a=>let b:=a.2.2.1;let c:=ix b a.2.1 zd2; (cond (ilt a.2.1<|ln b) (oN (inb a.2.1<|ln b)<|cond (ine c.Host a.1) (oN (inb a.2.1<|ln b)<|oN (few<|ln<|ap a.2.2.2.1 [c])<|d (a.1,zI .i64 a.2.1 1,b,ap a.2.2.2.1 [c],()))<|d (a.1,zI .i64 a.2.1 1,b,a.2.2.2.1,()))<|some [aS .entry a.2.2.2.1])) (f,0,e,[],()))
def zKe:=zx [(399,0,{n:=29,tm:=[(0,.sl 0 []),(1,ti),(5,.sl 1 []),(6,ti)],lo:=[],ro:=[(0,.entry,false),(1,.entry,true)]})]
theorem zJb (a:List Entry)(b:Int)(h:zee a b=true):∃N,zyf N a b=some [aS .entry<|zgo a b]:=by
 have j:=zJ.1 h;have f:=zcu j;refine zbZ λN d=>?_;unfold zyf oN;conv=>zeta
 refine(zX a (λi (t:lE)=>(b,(i:Int),a,t,())) _ (λ_ (x:Entry) (t:List Entry) g=>bif !ieq x.Host b then (cond (few<|ln<|ap t [x]) (g<|ap t [x]) none) else g t) (λ(t:lE)=>some [.one<|.s .entry t]) (λi c t rec=>?_) (λt rec=>?_) _ ([])<|d f.1).trans ?_;{simp only [zbq c,zS c,zba c,zQ c f.1,cT];rfl};{simp only [zbl,cF]};exact zlq (λe=>!ieq e.Host b) _ a 0 [] (by simpa using f.2)
theorem zCw:vQ 399 zks:=kF2 zsD zq zo zu zKe zJb
def zx4 (N:Nat)(d:lE)(f:Int):OA:=
 (iter (σ:=(Int×Int×Int×lE×lE×Unit)) N (λe a=>let b:=a.2.2.2.2.1;let c:=ix b a.2.1 zd2; (cond (ilt a.2.1 a.1) (oN (inb a.2.1<|ln b)<|cond (nB<|ieq c.Host a.2.2.1) (oN (few<|ln<|ap a.2.2.2.1 [c])<|e (a.1,zI .i64 a.2.1 1,a.2.2.1,ap a.2.2.2.1 [c],b,()))<|e (a.1,zI .i64 a.2.1 1,a.2.2.1,a.2.2.2.1,b,()))<|some [aS .entry a.2.2.2.1])) (ln d,0,f,[],d,()))
def zKa:=zx [(237,0,{n:=25,tm:=[(1,.fn 309 [0]),(5,.sl 0 []),(9,.sl 1 []),(10,ti),(11,ti)],lo:=[(0,[ti])],ro:=[(0,.entry,true),(1,.entry,false)]})]
theorem zI1 (a:List Entry)(b:Int)(h:zee a b=true):∃N,zx4 N a b=some [aS .entry<|zgo a b]:=by
 have j:=zJ.1 h;have f:=zcu j;refine zbZ λN d=>?_;unfold zx4 oN nB;conv=>zeta
 refine(zX a (λi (t:lE)=>(ln a,(i:Int),b,t,a,())) _ (λ_ (x:Entry) (t:List Entry) g=>bif !ieq x.Host b then (cond (few<|ln<|ap t [x]) (g<|ap t [x]) none) else g t) (λ(t:lE)=>some [.one<|.s .entry t]) (λi c t rec=>?_) (λt rec=>?_) _ ([])<|d f.1).trans ?_;{simp only [zbq c,zS c,zba c,zQ c f.1,cT];cases ieq a[i].Host b<;>rfl};{simp only [zbl,cF]};exact zlq (λe=>!ieq e.Host b) _ a 0 [] (by simpa using f.2)
theorem zCk:vQ 253 zks:=kF2 zsD zq zo zu zKa zI1
def zWZ:zV:=[(398,zjH),(252,zjH),(399,zks),(253,zks)]++z4e
theorem zE7:zL zWZ:=zh zAu (zh zAo<|zh zCw<|zh zCk zsD)
def zlb (b:List Guest)(p:Int):Nat->List Kept->List Kept
 | 0,a=>a
 |n+1,a=>up (zlb b p n a) (n:Int) (zjv (ix (zlb b p n a) (n:Int) zc3) (ix b (n:Int) zl).Live p)
theorem zpQ (b:List Guest)(p:Int):∀(n:Nat) (a:List Kept),(zlb b p n a).length=a.length
 | 0,_=>rfl
 |n+1,a=>by simp only[zlb,zg5];exact zpQ b p n a
theorem zuL (b:List Guest)(p:Int):∀(n:Nat) (a:List Kept),n<=a.length->zzY a->zzY (zlb b p n a)
 | 0,_,_,h=>h
 |n+1,a,e,h=>by have d:=zuL b p n a (by omega) h;have c:n<(zlb b p n a).length:=(by rw[zpQ];omega);exact zwJ d (z3c _ _ (by rw[zba c];exact d.2 _ (jD c)))
def zkk (x:Mon)(p:Int)(n:Nat):Mon:={x with Tables:=zlb x.Guests p n x.Tables}
theorem z0P {x:Mon}{p:Int}{n:Nat}(a:n<=x.Tables.length)(h:zf2 x):zf2 (zkk x p n):=⟨h.1,h.2.1,h.2.2.1,h.2.2.2.1,h.2.2.2.2.1,zuL _ _ _ _ a h.2.2.2.2.2⟩
def zb7 (h:Host)(m p:Int)(s:Slot):Host :=
 bif ine (ix (ix h.Mons m zf).Outer p zN).Page (-1)
 then ⟨h.Memory,up h.Mons m {zkk (ix h.Mons m zf) p (ix h.Mons m zf).Tables.length with Outer:=up (ix h.Mons m zf).Outer p s},flushed h.Buffer (ix (ix h.Mons m zf).Outer p zN).Page,flushed h.IoBuffer (ix (ix h.Mons m zf).Outer p zN).Page⟩
 else ⟨h.Memory,up h.Mons m {zkk (ix h.Mons m zf) p (ix h.Mons m zf).Tables.length with Outer:=up (ix h.Mons m zf).Outer p s},h.Buffer,h.IoBuffer⟩
def z7h (h:Host)(m p:Int):Prop:=hasB m (ln h.Mons)=true/\hasB p (ln (ix h.Mons m zf).Outer)=true/\(ix h.Mons m zf).Tables.length<=(ix h.Mons m zf).Guests.length
@[simp] abbrev zfD (h:Host)(m p:Int)(s:Slot):Bool:=pc (zbX h/\z7h h m p)
@[simp] abbrev zhr (h:Host)(m p:Int)(s:Slot):Host:=zb7 h m p s
def zrq:List AV->Option (Bool×List AV)
 |[.agg [.s (.sl .int) b,.s .mon c,.s .entry d,.s .entry e],.one<|.i .i64 f,.one<|.i .i64 g,.agg [.i .i64 h,.i .i64 j]]=>some (zfD (⟨b,c,d,e⟩:Host) f g (⟨h,j⟩:Slot),[aH<|zhr (⟨b,c,d,e⟩:Host) f g (⟨h,j⟩:Slot)])
 |_=>none
def zuT (N:Nat)(p:Host)(g z:Int)(B:Slot):OA:=
 let v:=ix p.Mons g zf; (oN (inb g<|ln p.Mons)<|oN (inb z<|ln v.Outer)<|iter (σ:=(Int×Int×Int×Int×Int×Int×Int×Int×Int×Int×Int×Int×Int×Int×Int×lM×lN×lE×lE×lM×lN×lE×lE×Unit)) N (λD a=>let d:=a.2.2.1;let m:=a.2.2.2.2.2.2.2.2.2.2.2.1;let l:=a.2.2.2.2.2.2.2.2.2.2.2.2.1;let k:=a.2.2.2.2.2.2.2.2.2.2.2.2.2.2.1;let j:=a.2.2.2.2.2.2.2.2.2.2.2.2.2.2.2.1;let f:=a.2.2.2.2.2.2.2.1;let e:=a.2.2.2.2.2.2.2.2.1;let c:=a.2.2.2.1;let w:=a.2.2.2.2.2.2.2.2.2.2.1;let y:=a.2.2.2.2.2.2.2.2.2.2.2.2.2.2.2.2.2.1;let x:=a.2.2.2.2.2.2.2.2.2.2.2.2.2.2.2.2.2.2.1;let n:=a.2.2.2.2.2.2.1;let r:=a.2.2.2.2.2.2.2.2.2.1;let i:=a.2.2.2.2.2.2.2.2.2.2.2.2.2.1;let q:=a.2.2.2.2.2.2.2.2.2.2.2.2.2.2.2.2.1;let u:=(ix q r zf).Guests;let t:=(ix u c zl).Live;let h:=ix q n zf;let s:=(ix q i zf).Tables;let C:=up q n ({h with Outer:=(up h.Outer a.2.1 (⟨a.2.2.2.2.1,a.2.2.2.2.2.1⟩:Slot))}:Mon); (cond (ilt c<|ln s) (oN (inb c<|ln s)<|oN (inb c<|ln u)<|oN (zhD (ix s c zc3) t a.2.1)<|oN (inb c<|ln s)<|share (up q i ({ (ix q i zf) with Tables:=(up s c<|zk3 (ix s c zc3) t a.2.1)}:Mon)) λb=>D (a.1,a.2.1,d,zI .i64 c 1,a.2.2.2.2.1,a.2.2.2.2.2.1,n,f,e,r,w,m,l,i,k,j,b,y,x,a.2.2.2.2.2.2.2.2.2.2.2.2.2.2.2.2.2.2.2.1,a.2.2.2.2.2.2.2.2.2.2.2.2.2.2.2.2.2.2.2.2.1,a.2.2.2.2.2.2.2.2.2.2.2.2.2.2.2.2.2.2.2.2.2.1,a.2.2.2.2.2.2.2.2.2.2.2.2.2.2.2.2.2.2.2.2.2.2.1,()))<|cond (ine d<|-1) (oN (zee y d)<|oN (zee x d)<|oN (inb a.2.1<|ln h.Outer)<|share C λb=>oN (inb a.1<|ln b)<|oN (cond (cond (cond (cond (cond (cond (ieq i a.1) true false) (cond (ieq w a.1) true false) false) (cond (ieq r a.1) true false) false) (cond (ieq e a.1) true false) false) (cond (ieq f a.1) true false) false) (cond (ieq n a.1) true false) false)<|share (up b a.1 ({ (ix b n zf) with Out:=(ix b f zf).Out,Dirty:=(ix b e zf).Dirty,Guests:=(ix b r zf).Guests,Outs:=(ix b w zf).Outs,Pending:=m,Traps:=l,Tables:=(ix b i zf).Tables,Own:=k}:Mon)) λA=>some [aH (⟨j,A,zgo y d,zgo x d⟩:Host)])<|oN (inb a.2.1<|ln h.Outer)<|share C λb=>oN (inb a.1<|ln b)<|oN (cond (cond (cond (cond (cond (cond (ieq i a.1) true false) (cond (ieq w a.1) true false) false) (cond (ieq r a.1) true false) false) (cond (ieq e a.1) true false) false) (cond (ieq f a.1) true false) false) (cond (ieq n a.1) true false) false)<|share (up b a.1 ({ (ix b n zf) with Out:=(ix b f zf).Out,Dirty:=(ix b e zf).Dirty,Guests:=(ix b r zf).Guests,Outs:=(ix b w zf).Outs,Pending:=m,Traps:=l,Tables:=(ix b i zf).Tables,Own:=k}:Mon)) λA=>some [aH (⟨j,A,y,x⟩:Host)])) (g,z,(ix v.Outer z zN).Page,0,B.Page,B.Rights,g,g,g,g,g,v.Pending,v.Traps,g,v.Own,p.Memory,p.Mons,p.Buffer,p.IoBuffer,[],[],[],[],()))
def zP4:=zx [(385,0,{n:=70,tm:=[(1,ti),(2,ti),(4,.lp 0 0),(7,.lp 1 0),(8,.lp 2 0),(9,.lp 3 0),(10,ti),(11,ti)],lo:=[(0,[.sl 0 [],.sl 1 [],.sl 2 [],.sl 3 []]),(1,[ti,ti]),(2,[.sl 4 [],.sl 5 [],.sl 6 [],.sl 7 []]),(3,[.sl 1 [0],.sl 1 [1],.sl 1 [2],.sl 1 [3],.sl 1 [4],ti,ti,.sl 1 [7],ti])],ro:=[(0,.sl .int,true),(1,.mon,true),(2,.entry,true),(3,.entry,true),(4,.sl .int,true),(5,.mon,true),(6,.entry,true),(7,.entry,true)]})]
theorem zSI (N:Nat)(a:Host)(b c:Int)(d:Slot):zBV (cQ zWZ znW zMB zMO) zP4 N 12 385 [true,true,true,true,false,false,false,false] 1 1 [[0],[1],[2],[4],[7]] .mon [aH a,aI b,aI c,aT .slot d]=zuT N a b c d:=by kernel_rfl
theorem zPN (a:Host)(f b:Int)(d:Slot)(D:zbB big [aH a,aI f,aI b,aT .slot d])(y:zfD a f b d=true):∃N,zuT N a f b d=some [aH<|zhr a f b d]:=by
 obtain⟨B,g,s,C⟩:=zJ.1 y;have l:=(zM a).1 B;have r:zf2 (ix a.Mons f zf):=l.2.1.2 _ (zbv g _);obtain⟨k,rfl,q⟩:=zd0 (n:=a.Mons.length) g;have x:=(zcu r.2.2.2.2.2.1).1;refine zbZ λN p=>?_;unfold zuT oN;conv=>zeta
 refine must g (must s ?_);refine zB3 (ix a.Mons (k:Int) zf).Tables.length (λi (t:List Mon)=>((k:Int),b,(ix (ix a.Mons (k:Int) zf).Outer b zN).Page,(i:Int),d.Page,d.Rights,(k:Int),(k:Int),(k:Int),(k:Int),(k:Int),(ix a.Mons (k:Int) zf).Pending,(ix a.Mons (k:Int) zf).Traps,(k:Int),(ix a.Mons (k:Int) zf).Own,a.Memory,t,a.Buffer,a.IoBuffer,[],[],[],[],())) _
  (λi t=>t=up a.Mons (k:Int) (zkk (ix a.Mons (k:Int) zf) b i)) (λ_ _=>some [AV.agg<|zbe<|zb7 a (k:Int) b d]) (λi t rec u m A=>?_) (λt rec m=>?_) _ 0 a.Mons ?_ (jS _) ?_
 .subst m;have c:i<(zlb (ix a.Mons (k:Int) zf).Guests b i (ix a.Mons (k:Int) zf).Tables).length:=(by rw[zpQ];exact u);have e:i<(ix a.Mons (k:Int) zf).Guests.length:=by omega
  have z:zhD (ix (zlb (ix a.Mons (k:Int) zf).Guests b i (ix a.Mons (k:Int) zf).Tables) (i:Int) zc3) (ix (ix a.Mons (k:Int) zf).Guests (i:Int) zl).Live b=true :=
   zbj ⟨by rw[zba c];exact(zuL _ _ _ _ (by omega) r.2.2.2.2.2).2 _ (jD c),by rw[zba e];exact(r.2.2.2.1.2 _<|jD e).2.2.1⟩
  simp only[zef q,zuN,zkk,zbq c,zS c,zS e,z,cT,share,zQ u x];exact A _ rfl
 {subst m;simp only[zef q,zuN,zg5,zkk,ln,zpQ,ziu,show ilt (((ix a.Mons (k:Int) zf).Tables.length:Nat):Int) (((ix a.Mons (k:Int) zf).Tables.length:Nat):Int)=false from qI (by omega),cT,cF,share];have h:inb (k:Int) ((a.Mons.length:Nat):Int)=true:=g;have j:inb b (((ix a.Mons (k:Int) zf).Outer.length:Nat):Int)=true:=s;have v:zee a.Buffer (ix (ix a.Mons (k:Int) zf).Outer b zN).Page=true:=zbj l.2.2.1;have w:zee a.IoBuffer (ix (ix a.Mons (k:Int) zf).Outer b zN).Page=true:=zbj l.2.2.2;simp only[h,j,v,w,cT];unfold zb7;cases ine (ix (ix a.Mons (k:Int) zf).Outer b zN).Page (-1)<;>rfl};{exact(zM4 q _).symm};{exact p (by omega)}
theorem zIN:zd9 Tryz.prog 385 [true,true,true,true,false,false,false,false] (some (1,1,[[0],[1],[2],[4],[7]])) zrq:=by refine zls (kt:=.mon) (zgL zE7 zq zo zu) (zia (by kernel_rfl)) (by kernel_rfl) ?_;intro a g f e h;have c:=ziO e;unfold zrq at h;split at h;{obtain⟨d,rfl⟩:=zel h;obtain⟨N,b⟩:=zPN _ _ _ _ (by exact c) d;exact⟨⟨_,rfl⟩,rfl,_,N,12,(zSI N _ _ _ _ ).trans b⟩};{cases h}
def zTB:zfg:=[(385,[true,true,true,true,false,false,false,false],some (1,1,[[0],[1],[2],[4],[7]]),zrq)]++zMO
theorem zdp:zea zTB:=znc zu (by
 intro x a;simp only[qG,qW,or_false]at a;rcases a with rfl
 .exact zIN)
def zT3 (x:Mon)(p:Int):Mon:={x with Dirty:=up x.Dirty p false}
def znw (h:Host)(m p:Int):Host:={h with Mons:=up h.Mons m (zT3 (ix h.Mons m zf) p)}
def znM (h:Host)(m p:Int):Host:=bif zb1 h m p then (cond (zct (ix (ix h.Mons m zf).Outer p zN) noSlot) (znw h m p)<|zb7 (znw h m p) m p ⟨(ix (ix h.Mons m zf).Outer p zN).Page,1⟩) else h
theorem zxo:∀(l:List Mon) (u:List Bool),zhJ l u=true->∀x∈l,zd6 x=true
 |[],_,_,x,a=>by cases a
 |m::l,u,h,x,a=>by
  simp only[zhJ]at h;cases b:zd6 m;{rw [b]at h;cases h}
  .rw [b]at h;simp only[cT]at h;cases c:zgJ m.Outer u with
   |none=>rw[c]at h;cases h
   |some d =>rw[c]at h;rcases qG.1 a with rfl|a;{exact b};{exact zxo l d h x a}
structure PageAt (h:Host) (m p:Int):Prop where
 hm:hasB m (ln h.Mons)=true
 hp:hasB p 8=true
 ok:zd6 (ix h.Mons m zf)=true
 ho:(ix h.Mons m zf).Outer.length=8
 hd:(ix h.Mons m zf).Dirty.length=8
 ht:(ix h.Mons m zf).Tables.length=(ix h.Mons m zf).Guests.length
 hs:zct (ix (ix h.Mons m zf).Outer p zN) noSlot=ieq (ix (ix h.Mons m zf).Outer p zN).Page (-1)
theorem zOu {s:Slot}{n:Int}(h:zdT s n=true):zct s noSlot=ieq s.Page (-1):=by unfold zdT at h;cases a:zct s noSlot;{rw [a]at h;cases d:ieq s.Page (-1);{rfl};{have e:s.Page = -1:=qD d;cases b:igt n 0;{rw [b]at h;cases h};{cases c:zi s.Page 0 (wsub .i64 n 1);{rw [b,c]at h;cases h};{have:=(zfj.1 c).1;omega}}}};{unfold zct at a;rw[qE]at a;exact a.1.symm}
theorem zJw {h:Host}{m p:Int}(d:zb1 h m p=true):PageAt h m p:=by unfold zb1 at d;simp only[zcR]at d;obtain⟨c,f,g⟩:=d;unfold zbM at c;simp only[zcR]at c;have b:=zxo _ _ c.2.2.2.2 _ (zbv f zf);have a:=b;unfold zd6 at a;simp only[zcR]at a;have i:(ix h.Mons m zf).Outer.length=8:=(by have:=znu a.2.2.1;simp only[ln] at this;omega);refine⟨f,g,b,i,?_,?_,?_⟩;{have:ln (ix h.Mons m zf).Dirty=8:=qD a.2.2.2.2.1;simp only[ln] at this;omega};{have:ln (ix h.Mons m zf).Tables=ln (ix h.Mons m zf).Guests:=qD a.2.1;simp only[ln] at this;omega};{have e:=a.2.2.1;unfold zcJ at e;simp only[zcR]at e;have j:hasB p (ln (ix h.Mons m zf).Outer)=true:=(by rw[ln,i];exact g);exact zOu (qL.1 e.1 _<|zbv j _)}
theorem zTp {x:Mon}{p:Int}(h:zf2 x):zf2 (zT3 x p):=⟨h.1,h.2.1,by simpa [zT3] using h.2.2.1,h.2.2.2⟩
theorem zxV {h:Host}{m p:Int}(b:hasB m (ln h.Mons)=true)(a:SmH h):SmH (znw h m p):=⟨a.1,zjn a.2.1<|zTp<|a.2.1.2 _<|zbv b _,a.2.2⟩
theorem zED {h:Host}{m p:Int}{s:Slot}(d:hasB m (ln h.Mons)=true)(a:SmH h):SmH (zb7 h m p s):=by have c:=a.2.1.2 _ (zbv d zf);have e:=z0P (p:=p) (qX _) c;have b:zqA (up h.Mons m {zkk (ix h.Mons m zf) p (ix h.Mons m zf).Tables.length with Outer:=up (ix h.Mons m zf).Outer p s}):=zjn a.2.1 ⟨by simpa using c.1,e.2⟩;unfold zb7;cases ine (ix (ix h.Mons m zf).Outer p zN).Page (-1);{exact⟨a.1,b,a.2.2⟩};{exact⟨a.1,b,jC (zDY _ _) a.2.2.1,jC (zDY _ _) a.2.2.2⟩}
theorem zxY {h:Host}{m p:Int}(a:hasB m (ln h.Mons)=true):hasB m (ln (znw h m p).Mons)=true:=by unfold znw;simpa [ln] using a
theorem z0L {h:Host}{m p:Int}(a:SmH h):SmH (znM h m p):=by unfold znM;cases b:zb1 h m p;{exact a};{have P:=zJw b;cases zct (ix (ix h.Mons m zf).Outer p zN) noSlot;{exact zED (zxY P.hm) (zxV P.hm a)};{exact zxV P.hm a}}
@[simp] abbrev zgG (h:Host)(m p:Int):Bool:=pc (zbX h)
@[simp] abbrev zuv (h:Host)(m p:Int):Host:=znM h m p
def zEq:Run:=rF3 dH dI dI λb c d=>(zgG b c d,[aH<|zuv b c d,aB<|zes b c d])
def zNm (N:Nat)(h:Host)(a b:Int):OA:=
 let c:=zk h;let g:=ix c.Mons a zf; (oN (zbi h)<|oN (zjl c a b)<|cond (nB<|zes c a b) (some [aH c,aB false])<|oN (inb a<|ln c.Mons)<|oN (inb b<|ln g.Dirty)<|share (up c.Mons a ({g with Dirty:=(up g.Dirty b false)}:Mon)) (λd=>let i:=(ix d a zf).Outer;let f:=({c with Mons:=d}:Host);let e:=ix i b zN;let j:=({e with Rights:=1}:Slot); (oN (inb a<|ln d)<|oN (inb b<|ln i)<|oN zbA<|cond (cond (ieq e.Page zU.Page) (ieq e.Rights zU.Rights) false) (some [aH f,aB true])<|oN (zfD f a b j)<|some [aH<|zhr f a b j,aB true])))
theorem zUG (a:Host)(c b:Int)(j:zgG a c b=true):∃N,zNm N a c b=some [aH<|zuv a c b,aB<|zes a c b]:=by
 have g:=zJ.1 j;have i:=(zM a).1 g;refine⟨0,?_⟩;unfold zNm zuv zes znM oN nB;conv=>zeta
 refine must (zbj g) (must rfl ?_);cases f:zb1 a c b;{simp only [zes,zk,f,cF,cT]};{have P:=zJw f;obtain⟨k,rfl,d⟩:=zd0 (n:=a.Mons.length) P.hm;simp only[zes,zk,f,cT,cF];have l:inb b (ln (ix a.Mons (k:Int) zf).Dirty)=true:=(by rw[ln,P.hd];exact P.hp);have h:inb b (ln (ix a.Mons (k:Int) zf).Outer)=true:=(by rw[ln,P.ho];exact P.hp);refine must P.hm (must l ?_);simp only[share,zef d,h,cT,zbA,zU];refine must (zxY (p:=b) P.hm) ?_;have e:∀s:Slot,zct s noSlot=bif ieq s.Page noSlot.Page then ieq s.Rights noSlot.Rights else false:=λs=>(by unfold zct;cases ieq s.Page noSlot.Page<;>rfl);rw[<- e];cases zct (ix (ix a.Mons (k:Int) zf).Outer b zN) noSlot;{refine zcQ rfl (must (zbj ⟨(zM _).2 (zxV P.hm i),zxY (p:=b) P.hm,?_,?_⟩) rfl);{simp only [zef d];exact h};{simp only [zef d];exact uF P.ht}};{rfl}}
theorem zOV:vQ 358 zEq:=kF3 zE7 zq zo zdp (zx []) zUG
def zZi:zV:=[(358,zEq)]++zWZ
theorem zZj:zL zZi:=zh zOV zE7
def zZk:zV:=zZi
theorem zfl:zL zZk:=zZj
def zkR (o i t:Int):Int:=bif zdH i t then 1 else (cond (zdH o t) 2 0)
@[simp] abbrev zmp (o i t:Int):Bool:=true
@[simp] abbrev zjk (o i t:Int):Int:=zkR o i t
def zmH:Run:=rF3 dI dI dI λb c d=>(zmp b c d,[aI<|zjk b c d])
def zDA (N:Nat)(b c a:Int):OA:=
 (oN (zfA c a)<|cond (zeX c a) (some [aI 1])<|oN (zfA b a)<|cond (zeX b a) (some [aI 2])<|some [aI 0])
theorem zyu (a b c:Int)(d:zbB big [aI a,aI b,aI c])(e:zmp a b c=true):∃N,zDA N a b c=some [aI<|zjk a b c]:=by refine⟨0,?_⟩;unfold zDA oN;refine must rfl (br (λ_=>?_) λ_=>must rfl (br (λ_=>?_) λ_=>?_));all_goals first|rfl|(simp only [*,zjk,zkR,cT,cF]<;>rfl)|simp_all[Ty.cells,zjk,zkR]
theorem zIu:vQ 388 zmH:=hF3 zfl zq zo zdp (zx []) zyu
theorem zH9:vQ 171 zmH:=hF3 zfl zq zo zdp (zx []) zyu
theorem z7P (p:Int):hasB p 3=zi p 0 2:=by unfold hasB zi ige ile;by_cases a:0<=p<;>by_cases b:p<3;{rw [qK (p:=0<=p/\p<3) ⟨a,b⟩,qK (p:=p≥0) a,qK (p:=p<=2) (by omega)];rfl};{rw [qI (p:=0<=p/\p<3) (by omega),qI (p:=p<=2) (by omega)];simp};{rw [qI (p:=0<=p/\p<3) (by omega),qI (p:=p≥0) (by omega)];simp};{rw [qI (p:=0<=p/\p<3) (by omega),qI (p:=p≥0) (by omega)];simp}
theorem z7O (p:Int):hasB p 2=zi p 0 1:=by unfold hasB zi ige ile;by_cases a:0<=p<;>by_cases b:p<2;{rw [qK (p:=0<=p/\p<2) ⟨a,b⟩,qK (p:=p≥0) a,qK (p:=p<=1) (by omega)];rfl};{rw [qI (p:=0<=p/\p<2) (by omega),qI (p:=p<=1) (by omega)];simp};{rw [qI (p:=0<=p/\p<2) (by omega),qI (p:=p≥0) (by omega)];simp};{rw [qI (p:=0<=p/\p<2) (by omega),qI (p:=p≥0) (by omega)];simp}
def zd8 (m g:Int):Int:=bif zi m 0 2 then (cond (zi g 0 1) (zI .i64 (zI .i64 1 g)<|zl3 .i64 m 2) 0) else 0
@[simp] abbrev zhm (m g:Int):Bool:=true
@[simp] abbrev zkc (m g:Int):Int:=zd8 m g
def zqj:Run:=rF2 dI dI λb c=>(zhm b c,[aI<|zkc b c])
def zNu (N:Nat)(a b:Int):OA:=
 (oN (zG a 0 2)<|cond (nB<|zi a 0 2) (some [aI 0])<|oN (zG b 0 1)<|cond (nB<|zi b 0 1) (some [aI 0])<|some [aI<|zI .i64 (zI .i64 1 b)<|zl3 .i64 a 2])
theorem zUN (a b:Int)(c:zhm a b=true):∃N,zNu N a b=some [aI<|zkc a b]:=by refine⟨0,?_⟩;unfold zNu oN nB;refine must rfl (brN (λ_=>?_) λ_=>must rfl (brN (λ_=>?_) λ_=>?_));all_goals first|rfl|(simp only [*,zkc,zd8,cT,cF]<;>rfl)|simp_all[Ty.cells,zkc,zd8]
theorem zO2:vQ 369 zqj:=kF2 zfl zq zo zdp (zx []) zUN
def zNi (N:Nat)(a b:Int):OA:=
 (oN (zbg a 3)<|cond (nB<|zcq a 3) (some [aI 0])<|oN (zbg b 2)<|cond (nB<|zcq b 2) (some [aI 0])<|some [aI<|zI .i64 (zI .i64 1 b)<|zl3 .i64 a 2])
theorem zUC (a b:Int)(c:zhm a b=true):∃N,zNi N a b=some [aI<|zkc a b]:=by refine⟨0,?_⟩;unfold zNi oN nB;refine must rfl (brN (λ_=>?_) λ_=>must rfl (brN (λ_=>?_) λ_=>?_));all_goals first|rfl|(simp only [*,zkc,zd8,z7P,z7O,cT,cF]<;>rfl)|simp_all[Ty.cells,zkc,zd8,z7P,z7O]
theorem zOQ:vQ 123 zqj:=kF2 zfl zq zo zdp (zx []) zUC
def zg3 (k:Kept)(p:Int):Bool:=bif zdc k p then ix k.Known p false else false
def zdq (k:Kept)(p:Int):Slot:=bif zg3 k p then ix k.Slots p zN else noSlot
@[simp] abbrev zgP (k:Kept)(p:Int):Slot:=zdq k p
@[simp] abbrev zj8 (k:Kept)(p:Int):Bool:=zg3 k p
def zBh:Run:=rF2 (dT .kept) dI λb c=>(zdy b c,[aT .slot<|zgP b c,aB<|zj8 b c])
def zVv (N:Nat)(a:Kept)(b:Int):OA:=
 let c:=ix a.Slots b zN; (oN (zdy a b)<|cond (nB<|ziB a b) (oN zbA<|some [.agg [.i .i64 zU.Page,.i .i64 zU.Rights],aB false])<|oN (inb b<|ln a.Known)<|cond (nB<|ix a.Known b false) (oN zbA<|some [.agg [.i .i64 zU.Page,.i .i64 zU.Rights],aB false])<|oN (inb b<|ln a.Slots)<|some [.agg [.i .i64 c.Page,.i .i64 c.Rights],aB true])
theorem zZV (a:Kept)(b:Int)(f:zdy a b=true):∃N,zVv N a b=some [aT .slot<|zgP a b,aB<|zj8 a b]:=by
 have g:=zJ.1 f;refine⟨0,?_⟩;unfold zVv zgP zj8 zdq zg3 oN nB;conv=>zeta
 refine must (zbj g) ?_;rw[show ziB a b=zdc a b from rfl];cases c:zdc a b;{rfl};{unfold zdc at c;obtain⟨d,e⟩:=zcR.1 c;simp only[zy d,zy e,cT];cases ix a.Known b false<;>rfl}
theorem zD6:vQ 391 zBh:=kF2 zfl zq zo zdp (zx []) zZV
@[simp] abbrev zpp (k:Kept)(p:Int):Bool:=true
def zBa:Run:=rF2 (dT .kept) dI λb c=>(zpp b c,[aT .slot<|zgP b c,aB<|zj8 b c])
def zVr (N:Nat)(a:Kept)(b:Int):OA:=
 let c:=ix a.Slots b zN; (oN (zbg b<|ln a.Known)<|cond (nB<|zcq b<|ln a.Known) (oN zbA<|some [.agg [.i .i64 zU.Page,.i .i64 zU.Rights],aB false])<|oN (zbg b<|ln a.Slots)<|cond (nB<|zcq b<|ln a.Slots) (oN zbA<|some [.agg [.i .i64 zU.Page,.i .i64 zU.Rights],aB false])<|oN (inb b<|ln a.Known)<|cond (nB<|ix a.Known b false) (oN zbA<|some [.agg [.i .i64 zU.Page,.i .i64 zU.Rights],aB false])<|oN (inb b<|ln a.Slots)<|some [.agg [.i .i64 c.Page,.i .i64 c.Rights],aB true])
theorem zZR (a:Kept)(b:Int)(e:zpp a b=true):∃N,zVr N a b=some [aT .slot<|zgP a b,aB<|zj8 a b]:=by
 refine⟨0,?_⟩;unfold zVr zgP zj8 zdq zg3 zdc oN nB;conv=>zeta
 rw[show zcq b (ln a.Known)=hasB b (ln a.Known) from rfl,show zcq b (ln a.Slots)=hasB b (ln a.Slots) from rfl];cases c:hasB b (ln a.Known);{rfl};{cases d:hasB b (ln a.Slots);{rfl};{simp only [zbg,zy c,zy d,cT];cases ix a.Known b false<;>rfl}}
theorem zD4:vQ 85 zBa:=kF2 zfl zq zo zdp (zx []) zZR
def filled (k:Kept)(a b:List Slot)(p:Int):Kept:=bif zdc k p then (cond (hasB p<|ln a) ⟨up k.Known p true,up k.Slots p<|zbf (ix a p zN) b⟩ k) else k
@[simp] theorem zYm {k:Kept}{a b:List Slot}{p:Int}(h:SmK k):SmK (filled k a b p):=by unfold filled;cases zdc k p;{exact h};{cases hasB p (ln a);{exact h};{exact⟨by simpa using h.1,by simpa using h.2⟩}}
@[simp] abbrev ztg (k:Kept)(i o:List Slot)(p:Int):Bool:=pc (SmK k)
@[simp] abbrev ztf (k:Kept)(i o:List Slot)(p:Int):Kept:=filled k i o p
def zr1:Run:=rF4 (dT .kept) (dS .slot) (dS .slot) dI λb c d e=>(ztg b c d e,[aT .kept<|ztf b c d e])
def zQs (N:Nat)(d:Kept)(c e:lS)(a:Int):OA:=
 let b:=zdO d; (oN (zgr d)<|oN (zdy b a)<|cond (ziB b a) (cond (ilt a<|ln c) (oN (inb a<|ln b.Known)<|share (up b.Known a true) λf=>oN (inb a<|ln c)<|oN (zdX (ix c a zN) e)<|oN (inb a<|ln b.Slots)<|share (up b.Slots a<|zed (ix c a zN) e) λg=>some [aT .kept (⟨f,g⟩:Kept)])<|some [aT .kept b])<|some [aT .kept b])
theorem zXH (b:Kept)(c d:List Slot)(a:Int)(j:ztg b c d a=true):∃N,zQs N b c d a=some [aT .kept<|ztf b c d a]:=by
 have g:=zJ.1 j;refine⟨0,?_⟩;unfold zQs ztf filled oN;conv=>zeta
 refine must (zbj<|(zvH _).2 g) (must (zbj g) ?_);rw[show ziB (zdO b) a=zdc b a from rfl];cases f:zdc b a;{rfl};{unfold zdc at f;obtain⟨e,h⟩:=zcR.1 f;rw[has_lt e (m:=ln c)];cases i:hasB a (ln c);{rfl};{simp only [cT,zdO,zy e,zy h,zy i,share,zdX];rfl}}
theorem zRG:vQ 392 zr1:=kF4 zfl zq zo zdp (zx []) zXH
def zQq (N:Nat)(c:Kept)(d e:lS)(a:Int):OA:=
 let b:=zds c; (oN (zeu c)<|oN (zbg a<|ln c.Known)<|cond (zcq a<|ln c.Known) (oN (zbg a<|ln c.Slots)<|cond (zcq a<|ln c.Slots) (oN (zbg a<|ln d)<|cond (zcq a<|ln d) (oN (inb a<|ln b.Known)<|share (up b.Known a true) λf=>oN (inb a<|ln d)<|oN (zdX (ix d a zN) e)<|oN (inb a<|ln b.Slots)<|share (up b.Slots a<|zed (ix d a zN) e) λg=>some [aT .kept (⟨f,g⟩:Kept)])<|some [aT .kept b])<|some [aT .kept b])<|some [aT .kept b])
theorem zXD (b:Kept)(c d:List Slot)(a:Int)(h:ztg b c d a=true):∃N,zQq N b c d a=some [aT .kept<|ztf b c d a]:=by
 have i:=zJ.1 h;refine⟨0,?_⟩;unfold zQq ztf filled zdc oN;conv=>zeta
 refine must (zbj i) ?_;simp only[zcq,zbg,zds,cT];cases e:hasB a (ln b.Known);{rfl};{cases f:hasB a (ln b.Slots);{rfl};{cases g:hasB a (ln c);{rfl};{simp only [cT,zy e,zy f,zy g,share,zdX];rfl}}}
theorem zRB:vQ 273 zr1:=kF4 zfl zq zo zdp (zx []) zXD
theorem zFf {a b:Type}(p:a->Bool)(r:a->Option b)(K:Unit->Option b):∀(l:List a) (i:Nat),goL (λ_ x (_:Unit) k=>bif p x then r x else k ()) K l i ()=match l.find? p with|some x=>r x|none=>K ()
 |[],_=>rfl
 |x::l,i=>by simp only[goL];cases h:p x;{rw [List.find?_cons_of_neg (by simp[h])];exact zFf p r K l (i+1)};{rw [List.find?_cons_of_pos h];rfl}
def zxd (b:List Entry)(t p:Int):Option Entry:=b.find? λe=>bif ieq e.Tag t then ieq e.Page p else false
@[simp] abbrev zgY (b:List Entry)(t p:Int):Bool:=true
@[simp] abbrev zf0 (b:List Entry)(t p:Int):Entry:=(zxd b t p).getD ⟨0,0,0,0⟩
@[simp] abbrev zfc (b:List Entry)(t p:Int):Bool:=(zxd b t p).isSome
def zkr:Run:=rF3 (dS .entry) dI dI λb c d=>(zgY b c d,[aT .entry<|zf0 b c d,aB<|zfc b c d])
def zye (N:Nat)(f:lE)(g h:Int):OA:=
 (iter (σ:=(Int×Int×Int×Int×Int×Int×Int×lE×Unit)) N (λj a=>let c:=a.2.2.2.2.2.2.2.1;let d:=inb a.2.2.1<|ln c;let e:=j (a.1,a.2.1,zI .i64 a.2.2.1 1,a.2.2.2.1,a.2.2.2.2.1,a.2.2.2.2.2.1,a.2.2.2.2.2.2.1,c,());let b:=ix c a.2.2.1 zd2; (cond (ilt a.2.2.1<|ln c) (oN d<|cond (ieq b.Tag a.1) (oN d<|cond (ieq b.Page a.2.1) (oN d<|some [.agg [.i .i64 b.Tag,.i .i64 b.Page,.i .i64 b.Host,.i .i64 b.Rights],aB true]) e) e)<|some [.agg [.i .i64 0,.i .i64 0,.i .i64 0,.i .i64 0],aB false])) (g,h,0,0,0,0,0,f,()))
def zKd:=zx [(390,0,{n:=36,tm:=[(0,.sl 0 []),(1,ti),(2,ti),(6,.lp 0 0),(8,ti)],lo:=[(0,[ti,ti,ti,ti])],ro:=[(0,.entry,false)]})]
theorem zJa (a:List Entry)(c d:Int)(j:zbB big [aS .entry a,aI c,aI d])(l:zgY a c d=true):∃N,zye N a c d=some [aT .entry<|zf0 a c d,aB<|zfc a c d]:=by
 have h:=len0 j;refine zbZ λN g=>?_;unfold zye oN;conv=>zeta
 refine(zX a (λi (t:Unit)=>(c,d,(i:Int),0,0,0,0,a,())) _ (λ_ (x:Entry) (_:Unit) k=>bif (cond (ieq x.Tag c) (ieq x.Page d) false) then (some [AV.agg<|Ty.cells .entry x,AV.one<|.b true]) else k ()) (λ(t:Unit)=>some [.agg [.i .i64 0,.i .i64 0,.i .i64 0,.i .i64 0],.one<|.b false]) (λi f t rec=>?_) (λt rec=>?_) _ ()<|g h).trans ?_;{simp only [zbq f,zS f,zba f,zQ f h,cT];cases ieq a[i].Tag c<;>cases ieq a[i].Page d<;>rfl};{simp only [zbl,cF]};rw[zFf λe:Entry=>bif ieq e.Tag c then ieq e.Page d else false];unfold zf0 zfc zxd;cases a.find? (λe:Entry=>bif ieq e.Tag c then ieq e.Page d else false)<;>rfl
theorem zCv:vQ 390 zkr:=hF3 zfl zq zo zdp zKd zJa
def zx3 (N:Nat)(d:lE)(f g:Int):OA:=
 (iter (σ:=(Int×Int×Int×Int×Int×Int×Int×Int×lE×Unit)) N (λh a=>let c:=a.2.2.2.2.2.2.2.2.1;let e:=h (a.1,a.2.1,a.2.2.1,zI .i64 a.2.2.2.1 1,a.2.2.2.2.1,a.2.2.2.2.2.1,a.2.2.2.2.2.2.1,a.2.2.2.2.2.2.2.1,c,());let b:=ix c a.2.2.2.1 zd2; (cond (ilt a.2.2.2.1 a.2.2.1) (oN (inb a.2.2.2.1<|ln c)<|cond (ieq b.Tag a.1) (cond (ieq b.Page a.2.1) (some [.agg [.i .i64 b.Tag,.i .i64 b.Page,.i .i64 b.Host,.i .i64 b.Rights],aB true]) e) e)<|some [.agg [.i .i64 0,.i .i64 0,.i .i64 0,.i .i64 0],aB false])) (f,g,ln d,0,0,0,0,0,d,()))
def zJ9:=zx [(272,0,{n:=29,tm:=[(1,ti),(2,ti),(6,.lp 0 0),(10,.sl 0 []),(11,ti),(12,ti)],lo:=[(0,[ti,ti,ti,ti])],ro:=[(0,.entry,false)]})]
theorem zI0 (a:List Entry)(c d:Int)(j:zbB big [aS .entry a,aI c,aI d])(l:zgY a c d=true):∃N,zx3 N a c d=some [aT .entry<|zf0 a c d,aB<|zfc a c d]:=by
 have h:=len0 j;refine zbZ λN g=>?_;unfold zx3 oN;conv=>zeta
 refine(zX a (λi (t:Unit)=>(c,d,ln a,(i:Int),0,0,0,0,a,())) _ (λ_ (x:Entry) (_:Unit) k=>bif (cond (ieq x.Tag c) (ieq x.Page d) false) then (some [AV.agg<|Ty.cells .entry x,AV.one<|.b true]) else k ()) (λ(t:Unit)=>some [.agg [.i .i64 0,.i .i64 0,.i .i64 0,.i .i64 0],.one<|.b false]) (λi f t rec=>?_) (λt rec=>?_) _ ()<|g h).trans ?_;{simp only [zbq f,zS f,zba f,zQ f h,cT];cases ieq a[i].Tag c<;>cases ieq a[i].Page d<;>rfl};{simp only [zbl,cF]};rw[zFf λe:Entry=>bif ieq e.Tag c then ieq e.Page d else false];unfold zf0 zfc zxd;cases a.find? (λe:Entry=>bif ieq e.Tag c then ieq e.Page d else false)<;>rfl
theorem zCj:vQ 272 zkr:=hF3 zfl zq zo zdp zJ9 zI0
def zqR (t p:Int)(e:Entry):Bool:=bif ine e.Tag t then true else ine e.Page p
def zcp (b:List Entry)(t p:Int):List Entry:=b.filter (zqR t p)
theorem zxe (b:List Entry)(t p:Int):(zcp b t p).length<=b.length:=uH _ _
@[simp] abbrev zfd (b:List Entry)(t p:Int):Bool:=pc (b.length<=1048576)
@[simp] abbrev zhi (b:List Entry)(t p:Int):List Entry:=zcp b t p
def zkt:Run:=rF3 (dS .entry) dI dI λb c d=>(zfd b c d,[aS .entry<|zhi b c d])
def zyg (N:Nat)(h:lE)(i j:Int):OA:=
 (iter (σ:=(Int×Int×Int×lE×lE×Unit)) N (λf a=>let b:=a.2.2.2.1;let c:=inb a.2.2.1<|ln b;let d:=ix b a.2.2.1 zd2;let e:=ap a.2.2.2.2.1 [d];let g:=f (a.1,a.2.1,zI .i64 a.2.2.1 1,b,e,()); (cond (ilt a.2.2.1<|ln b) (oN c<|cond (ine d.Tag a.1) (oN c<|oN (few<|ln e) g)<|oN c<|cond (ine d.Page a.2.1) (oN c<|oN (few<|ln e) g)<|f (a.1,a.2.1,zI .i64 a.2.2.1 1,b,a.2.2.2.2.1,()))<|some [aS .entry a.2.2.2.2.1])) (i,j,0,h,[],()))
def zKf:=zx [(368,0,{n:=40,tm:=[(0,.sl 0 []),(1,ti),(2,ti),(7,.sl 1 []),(8,ti)],lo:=[],ro:=[(0,.entry,false),(1,.entry,true)]})]
theorem zJc (a:List Entry)(b c:Int)(h:zfd a b c=true):∃N,zyg N a b c=some [aS .entry<|zhi a b c]:=by
 have j:=zJ.1 h;have f:=zcu j;refine zbZ λN e=>?_;unfold zyg oN;conv=>zeta
 refine(zX a (λi (t:lE)=>(b,c,(i:Int),a,t,())) _ (λ_ (x:Entry) (t:List Entry) g=>bif zqR b c x then (cond (few<|ln<|ap t [x]) (g<|ap t [x]) none) else g t) (λ(t:lE)=>some [.one<|.s .entry t]) (λi d t rec=>?_) (λt rec=>?_) _ ([])<|e f.1).trans ?_;{simp only [zbq d,zS d,zba d,zQ d f.1,cT];unfold zqR;cases ine a[i].Tag b<;>cases ine a[i].Page c<;>rfl};{simp only [zbl,cF]};exact zlq (zqR b c) _ a 0 [] (by simpa using f.2)
theorem zCx:vQ 368 zkt:=kF3 zfl zq zo zdp zKf zJc
def zx5 (N:Nat)(e:lE)(h i:Int):OA:=
 (iter (σ:=(Int×Int×Int×Int×lE×lE×Unit)) N (λf a=>let b:=a.2.2.2.2.2.1;let c:=ix b a.2.1 zd2;let d:=ap a.2.2.2.2.1 [c];let g:=f (a.1,zI .i64 a.2.1 1,a.2.2.1,a.2.2.2.1,d,b,()); (cond (ilt a.2.1 a.1) (oN (inb a.2.1<|ln b)<|cond (ieq c.Tag a.2.2.1) (cond (nB<|ieq c.Page a.2.2.2.1) (oN (few<|ln d) g)<|f (a.1,zI .i64 a.2.1 1,a.2.2.1,a.2.2.2.1,a.2.2.2.2.1,b,()))<|oN (few<|ln d) g)<|some [aS .entry a.2.2.2.2.1])) (ln e,0,h,i,[],e,()))
def zKb:=zx [(237,0,{n:=25,tm:=[(1,.fn 238 [0,1]),(5,.sl 0 []),(9,.sl 1 []),(10,ti),(11,ti)],lo:=[(0,[ti]),(1,[ti])],ro:=[(0,.entry,true),(1,.entry,false)]})]
theorem zI2 (a:List Entry)(b c:Int)(h:zfd a b c=true):∃N,zx5 N a b c=some [aS .entry<|zhi a b c]:=by
 have j:=zJ.1 h;have f:=zcu j;refine zbZ λN e=>?_;unfold zx5 oN nB;conv=>zeta
 refine(zX a (λi (t:lE)=>(ln a,(i:Int),b,c,t,a,())) _ (λ_ (x:Entry) (t:List Entry) g=>bif zqR b c x then (cond (few<|ln<|ap t [x]) (g<|ap t [x]) none) else g t) (λ(t:lE)=>some [.one<|.s .entry t]) (λi d t rec=>?_) (λt rec=>?_) _ ([])<|e f.1).trans ?_;{simp only [zbq d,zS d,zba d,zQ d f.1,cT];unfold zqR;simp only[zj6];cases ieq a[i].Tag b<;>cases ieq a[i].Page c<;>rfl};{simp only [zbl,cF]};exact zlq (zqR b c) _ a 0 [] (by simpa using f.2)
theorem zCl:vQ 122 zkt:=kF3 zfl zq zo zdp zKb zI2
def z4k:zV:=[(388,zmH),(171,zmH),(369,zqj),(123,zqj),(391,zBh),(85,zBa),(392,zr1),(273,zr1),(390,zkr),(272,zkr),(368,zkt),(122,zkt)]++zZk
theorem zsE:zL z4k:=zh zIu (zh zH9<|zh zO2<|zh zOQ<|zh zD6<|zh zD4<|zh zRG<|zh zRB<|zh zCv<|zh zCj<|zh zCx<|zh zCl zfl)
def zn0 (b:List Entry)(e:Entry):List Entry:=bif igt (ln<|ap (zcp b e.Tag e.Page) [e]) 6 then dp (ap (zcp b e.Tag e.Page) [e]) (wsub .i64 (ln<|ap (zcp b e.Tag e.Page) [e]) 6) else ap (zcp b e.Tag e.Page) [e]
theorem zxK {b:List Entry}(e:Entry)(h:b.length<=1048576):(zn0 b e).length<=1048576/\(ap (zcp b e.Tag e.Page) [e]).length<=1048577:=by have d:=zxe b e.Tag e.Page;have c:(ap (zcp b e.Tag e.Page) [e]).length<=1048577:=(by simp[ap];omega);refine⟨?_,c⟩;unfold zn0;cases a:igt (ln<|ap (zcp b e.Tag e.Page) [e]) 6;{have a:=jR a;simp only[ln]at a;simp only[cF];omega};{simp only [cT,dp,List.length_drop];have a:=qD a;have:wsub .i64 (ln<|ap (zcp b e.Tag e.Page) [e]) 6=ln (ap (zcp b e.Tag e.Page) [e])-6:=zsr (by simp only[ln] at *;omega) (by simp only[ln] at *;omega);rw[this];simp only[ln] at *;omega}
@[simp] abbrev zhP (b:List Entry)(e:Entry):Bool:=pc (b.length<=1048576)
@[simp] abbrev zhb (b:List Entry)(e:Entry):List Entry:=zn0 b e
def zlH:Run:=rF2 (dS .entry) (dT .entry) λb c=>(zhP b c,[aS .entry<|zhb b c])
def zzN (N:Nat)(d:lE)(b:Entry):OA:=
 let a:=ap (zhi d b.Tag b.Page) [b];let c:=wsub .i64 (ln a) 6; (oN (zfd d b.Tag b.Page)<|oN (few<|ln a)<|cond (igt (ln a) 6) (oN (inr c (ln a)<|ln a)<|oN (few<|ln<|ap []<|dp a c)<|some [aS .entry<|ap []<|dp a c])<|some [aS .entry a])
theorem zMh (b:List Entry)(a:Entry)(h:zhP b a=true):∃N,zzN N b a=some [aS .entry<|zhb b a]:=by
 have f:=zJ.1 h;obtain⟨c,g⟩:=zxK a f;refine⟨0,?_⟩;unfold zzN oN;conv=>zeta
 refine must (zbj f) (must (zf6<|jC g (by decide:1048577<=2147483648)) ?_);unfold zhb zn0 at *;show _=some [AV.one<|.s .entry<|cond (igt (ln<|ap (zcp b a.Tag a.Page) [a]) 6) (dp (ap (zcp b a.Tag a.Page) [a])<|wsub .i64 (ln<|ap (zcp b a.Tag a.Page) [a]) 6)<|ap (zcp b a.Tag a.Page) [a]];cases d:igt (ln<|ap (zcp b a.Tag a.Page) [a]) 6;{rfl};{rw [d]at c;simp only[cT]at c;have d:=qD d;have e:wsub .i64 (ln<|ap (zcp b a.Tag a.Page) [a]) 6=ln (ap (zcp b a.Tag a.Page) [a])-6:=zsr (by simp only[ln] at *;omega) (by simp only[ln] at *;omega);refine must rfl (must (qK ?_)<|must ?_ ?_);{show 0<=wsub .i64 (ln<|ap (zcp b a.Tag a.Page) [a]) 6/\wsub .i64 (ln<|ap (zcp b a.Tag a.Page) [a]) 6<=ln (ap (zcp b a.Tag a.Page) [a])/\ln (ap (zcp b a.Tag a.Page) [a])<=ln (ap (zcp b a.Tag a.Page) [a]);rw[e];simp only[ln] at *;omega};{exact znh c};{rw [zh6];rfl}}
theorem zFL:vQ 393 zlH:=kF2 zsE zq zo zdp (zx []) zMh
def zzp (N:Nat)(c:lE)(a:Entry):OA:=
 let b:=ap (zhi c a.Tag a.Page) [a];let d:=imax 0<|wsub .i64 (ln b) 6; (oN (zfd c a.Tag a.Page)<|oN (few<|ln b)<|oN (inr d (ln b)<|ln b)<|some [aS .entry<|dp b d])
theorem zLX (b:List Entry)(a:Entry)(h:zhP b a=true):∃N,zzp N b a=some [aS .entry<|zhb b a]:=by
 have g:=zJ.1 h;obtain⟨_,f⟩:=zxK a g;refine⟨0,?_⟩;unfold zzp zhb zn0 oN;conv=>zeta
 simp only[zhi];generalize ap (zcp b a.Tag a.Page) [a]=l at f ⊢;refine must (zbj g) (must (zf6<|jC f (by decide:1048577<=2147483648)) ?_);have e:wsub .i64 (ln l) 6=ln l-6:=zsr (by simp only[ln] at *;omega) (by simp only[ln] at *;omega);rw[e];cases c:igt (ln l) 6;{have c:=jR c;have d:imax 0 (ln l-6)=0:=(by unfold imax;rw[if_neg (by omega)]);rw[d];exact must (qK (by simp only[ln];omega)) (by simp[dp])};{have c:=qD c;have d:imax 0 (ln l-6)=ln l-6:=(by unfold imax;rw[if_pos (by omega)]);rw[d];exact must (qK (by simp only[ln] at *;omega)) rfl}
theorem zFn:vQ 274 zlH:=kF2 zsE zq zo zdp (zx []) zLX
def znL (l:List Slot)(p:Int):Option Nat:=l.findIdx? λs=>ieq s.Page p
def zif (p:Int):List Mon->Nat->Int×Int
 |[],_=>(-1,-1)
 |m::l,i=>match znL m.Outer p with|some k=>((i:Int),(k:Int))|none=>zif p l (i+1)
def zbE (h:Host)(p:Int):Int×Int:=bif ilt p 0 then (-1,-1) else zif p h.Mons 0
theorem zN2 {a:Type}(p:Slot->Bool)(r:Nat->Option a)(K:Unit->Option a):∀(l:List Slot) (i:Nat),goL (λj x (_:Unit) k=>bif p x then r j else k ()) K l i ()=match l.findIdx? p with|some k=>r (i+k)|none=>K ()
 |[],_=>rfl
 |x::l,i=>by simp only[goL];rw[List.findIdx?_cons];cases h:p x;{simp only [cF,kB,if_false];rw[zN2 p r K l<|i+1];cases l.findIdx? p with|none=>rfl|some k=>simp only[Option.map_some];congr 1;omega};{rfl}
theorem zKF {c:Type}(p:Int)(r:Int->Int->Option c):∀(l:List Mon) (i:Nat),goL (λi (x:Mon) (_:Unit) b=>goL (λj (y:Slot) (_:Unit) a=>bif ieq y.Page p then r (i:Int) (j:Int) else a ()) (λ_=>b ()) x.Outer 0 ()) (λ_=>r (-1) (-1)) l i ()=r (zif p l i).1 (zif p l i).2
 |[],_=>rfl
 |m::l,i=>by simp only[goL,zif];rw[zN2 (λs=>ieq s.Page p) λj=>r (i:Int) (j:Int)];unfold znL;cases m.Outer.findIdx? (λs=>ieq s.Page p) with|none=>exact zKF p r l (i+1)|some k=>simp only[jU]
@[simp] abbrev zfK (h:Host)(p:Int):Bool:=true
@[simp] abbrev zdr (h:Host)(p:Int):Int:=(zbE h p).1
@[simp] abbrev zeq (h:Host)(p:Int):Int:=(zbE h p).2
def ziI:Run:=rF2 dH dI λb c=>(zfK b c,[aI<|zdr b c,aI<|zeq b c])
def ztz (N:Nat)(f:Host)(g:Int):OA:=
 (cond (ilt g 0) (some [aI<|-1,aI<|-1])<|iter (σ:=(Int×Int×Int×lN×Unit)) N (λi b=>let c:=b.2.2.1; (cond (ilt c b.2.1) (oN (inb c<|ln b.2.2.2.1)<|iter (σ:=(Int×Int×Int×Int×Int×Int×Int×lN×Unit)) N (λj a=>let e:=a.2.2.2.2.2.2.2.1;let h:=(ix e a.2.2.2.2.1 zf).Outer;let d:=a.2.2.2.2.2.2.1; (cond (ilt d a.2.2.2.2.2.1) (oN (inb d<|ln h)<|cond (ieq (ix h d zN).Page a.1) (some [aI a.2.1,aI d])<|j (a.1,a.2.1,a.2.2.1,a.2.2.2.1,a.2.2.2.2.1,a.2.2.2.2.2.1,zI .i64 d 1,e,()))<|i (a.1,a.2.2.1,zI .i64 a.2.2.2.1 1,e,()))) (b.1,c,b.2.1,c,c,ln (ix b.2.2.2.1 c zf).Outer,0,b.2.2.2.1,()))<|some [aI<|-1,aI<|-1])) (g,ln f.Mons,0,f.Mons,()))
def zC7:=zx [(307,0,{n:=36,tm:=[(1,ti),(13,.sl 0 []),(14,ti),(15,ti)],lo:=[],ro:=[(0,.mon,false)]}),(307,2,{n:=36,tm:=[(1,ti),(6,ti),(13,.sl 0 []),(14,ti),(15,ti),(21,.sl 0 [0]),(22,ti),(23,ti)],lo:=[],ro:=[(0,.mon,false)]})]
theorem zCN (a:Host)(c:Int)(m:zbB big [aH a,aI c])(q:zfK a c=true):∃N,ztz N a c=some [aI<|zdr a c,aI<|zeq a c]:=by
 have k:CVB big (.s .mon a.Mons):=(zcv m).1 _ (by simp[AV.cvs,zbe]);have h:=k.len;refine zbZ λN e=>?_;unfold ztz zdr zeq zbE oN;conv=>zeta
 cases p:ilt c 0;{simp only [cF];refine(zX a.Mons (λi (t:Unit)=>(c,ln a.Mons,(i:Int),a.Mons,())) _ (λi (x:Mon) (_:Unit) n=>goL (λj (y:Slot) (_:Unit) b=>bif ieq y.Page c then some [AV.one<|.i .i64 (i:Int),AV.one<|.i .i64 (j:Int)] else b ()) (λ_=>n ()) x.Outer 0 ()) (λ(t:Unit)=>some [.one<|.i .i64<|-1,.one<|.i .i64<|-1]) (λi d t rec=>?_) (λt rec=>?_) _ ()<|e h).trans ?_;{simp only [zbq d,zS d,zba d,zQ d h,cT];have l:a.Mons[i].Outer.length<=big:=(k.inv.2 _ (jD d) (.s .slot _) (by simp[Ty.cells])).len;refine(zX a.Mons[i].Outer (λj (u:Unit)=>(c,(i:Int),ln a.Mons,(i:Int),(i:Int),ln a.Mons[i].Outer,(j:Int),a.Mons,())) _ (λj (y:Slot) (_:Unit) b=>bif ieq y.Page c then some [AV.one<|.i .i64 (i:Int),AV.one<|.i .i64 (j:Int)] else b ()) (λ(u:Unit)=>rec (c,ln a.Mons,((i+1:Nat):Int),a.Mons,())) (λj g u f=>?_) (λu f=>?_) _ ()<|e l).trans ?_;{simp only [zbq g,zS g,zba g,zQ g l,cT,zS d,zba d,zQ d h]};{simp only [zbl,cF,zS d,zba d,zQ d h]};rfl};{simp only [zbl,cF]};exact zKF c (λi j=>some [AV.one<|.i .i64 i,AV.one<|.i .i64 j]) a.Mons 0};{rfl}
theorem zy6:vQ 307 ziI:=hF2 zsE zq zo zdp zC7 zCN
theorem zZD {a c b:Type}(r:Option b):∀(l:List a) (i:Nat) (t:c),goL (λ_ _ _ _=>r) (λ_=>r) l i t=r
 |[],_,_=>rfl
 |_::_,_,_=>rfl
def ztL (N:Nat)(d:Host)(f:Int):OA:=
 (iter (σ:=(Int×Int×lM×lN×lE×lE×Unit)) N (λg b=>cond (ilt b.2.1<|ln b.2.2.2.1) (cond (ige b.1 0) (iter (σ:=(Int×Int×Int×lM×lN×lE×lE×Unit)) N (λh a=>let c:=a.2.2.2.2.1;let e:=(ix c a.2.1 zf).Outer; (oN (inb a.2.1<|ln c)<|cond (ilt a.2.2.1<|ln e) (oN (inb a.2.1<|ln c)<|oN (inb a.2.2.1<|ln e)<|cond (ieq (ix e a.2.2.1 zN).Page a.1) (some [aI a.2.1,aI a.2.2.1])<|h (a.1,a.2.1,zI .i64 a.2.2.1 1,a.2.2.2.1,c,a.2.2.2.2.2.1,a.2.2.2.2.2.2.1,()))<|g (a.1,zI .i64 a.2.1 1,a.2.2.2.1,c,a.2.2.2.2.2.1,a.2.2.2.2.2.2.1,()))) (b.1,b.2.1,0,b.2.2.1,b.2.2.2.1,b.2.2.2.2.1,b.2.2.2.2.2.1,()))<|some [aI<|-1,aI<|-1])<|some [aI<|-1,aI<|-1]) (f,0,d.Memory,d.Mons,d.Buffer,d.IoBuffer,()))
def zC9:=zx [(396,0,{n:=44,tm:=[(1,ti),(2,.lp 0 0),(6,ti)],lo:=[(0,[.sl 0 [],.sl 1 [],.sl 2 [],.sl 3 []])],ro:=[(0,.sl .int,false),(1,.mon,false),(2,.entry,false),(3,.entry,false)]}),(396,2,{n:=44,tm:=[(1,ti),(2,.lp 0 0),(6,ti),(7,ti)],lo:=[(0,[.sl 0 [],.sl 1 [],.sl 2 [],.sl 3 []])],ro:=[(0,.sl .int,false),(1,.mon,false),(2,.entry,false),(3,.entry,false)]})]
theorem zCY (a:Host)(b:Int)(p:zbB big [aH a,aI b])(r:zfK a b=true):∃N,ztL N a b=some [aI<|zdr a b,aI<|zeq a b]:=by
 have m:CVB big (.s .mon a.Mons):=(zcv p).1 _ (by simp[AV.cvs,zbe]);have l:=m.len;refine zbZ λN e=>?_;unfold ztL zdr zeq zbE oN;conv=>zeta
 refine(zX a.Mons (λi (t:Unit)=>(b,(i:Int),a.Memory,a.Mons,a.Buffer,a.IoBuffer,())) _ (λi (x:Mon) (_:Unit) q=>bif ige b 0 then goL (λj (y:Slot) (_:Unit) c=>bif ieq y.Page b then some [AV.one<|.i .i64 (i:Int),AV.one<|.i .i64 (j:Int)] else c ()) (λ_=>q ()) x.Outer 0 () else some [AV.one<|.i .i64<|-1,AV.one<|.i .i64<|-1]) (λ(t:Unit)=>some [.one<|.i .i64<|-1,.one<|.i .i64<|-1]) (λi d t rec=>?_) (λt rec=>?_) _ ()<|e l).trans ?_;{simp only [zbq d,zS d,zba d,zQ d l,cT];cases h:ige b 0;{rfl};have n:a.Mons[i].Outer.length<=big:=(m.inv.2 _ (jD d) (.s .slot _) (by simp[Ty.cells])).len;simp only[cT];refine(zX a.Mons[i].Outer (λj (_:Unit)=>(b,(i:Int),(j:Int),a.Memory,a.Mons,a.Buffer,a.IoBuffer,())) _ (λj (y:Slot) (_:Unit) c=>bif ieq y.Page b then some [AV.one<|.i .i64 (i:Int),AV.one<|.i .i64 (j:Int)] else c ()) (λ_=>rec (b,((i+1:Nat):Int),a.Memory,a.Mons,a.Buffer,a.IoBuffer,())) (λj g u f=>?_) (λu f=>?_) _ ()<|e n).trans ?_;{simp only [zbq g,zS g,zba g,zQ g n,cT,zS d,zba d]};{simp only [zbl,cF,cT,zS d,zba d,zQ d l]};rfl};{simp only [zbl,cF]};cases h:ige b 0;{have k:ilt b 0=true:=(by have:=jR h;exact qK (by omega));rw[k];exact zZD _ _ _ _};{have k:ilt b 0=false:=(by have:=qD h;exact qI (by omega));rw[k];exact zKF b (λi j=>some [AV.one<|.i .i64 i,AV.one<|.i .i64 j]) a.Mons 0}
theorem zzg:vQ 396 ziI:=hF2 zsE zq zo zdp zC9 zCY
def z4l:zV:=[(393,zlH),(274,zlH),(396,ziI),(307,ziI)]++z4k
theorem zsF:zL z4l:=zh zFL (zh zFn<|zh zzg<|zh zy6 zsE)
def zca (h:Host):List Int:=zu6 (λi=>ilt (zbE h (i:Int)).1 0) h.Memory.length 0
@[simp] abbrev zfP (h:Host):Bool:=pc (h.Memory.length<=1048576)
@[simp] abbrev zcM (h:Host):List Int:=zca h
def zof:Run:=rF1 dH λb=>(zfP b,[aS .int<|zcM b])
def zG3 (N:Nat)(b:Host):OA:=
 (iter (σ:=(Int×(List Int)×lM×lN×lE×lE×Unit)) N (λc a=>let d:=(⟨a.2.2.1,a.2.2.2.1,a.2.2.2.2.1,a.2.2.2.2.2.1⟩:Host); (cond (ilt a.1<|ln a.2.2.1) (oN (zfK d a.1)<|cond (ilt (zdr d a.1) 0) (oN (few<|ln<|ap a.2.1 [a.1])<|c (zI .i64 a.1 1,ap a.2.1 [a.1],a.2.2.1,a.2.2.2.1,a.2.2.2.2.1,a.2.2.2.2.2.1,()))<|c (zI .i64 a.1 1,a.2.1,a.2.2.1,a.2.2.2.1,a.2.2.2.2.1,a.2.2.2.2.2.1,()))<|some [aS .int a.2.1])) (0,[],b.Memory,b.Mons,b.Buffer,b.IoBuffer,()))
def zTO:=zx [(395,0,{n:=28,tm:=[(1,.lp 0 0),(3,.sl 0 []),(4,ti)],lo:=[(0,[.sl 1 [],.sl 2 [],.sl 3 [],.sl 4 []])],ro:=[(0,.int,true),(1,.sl .int,false),(2,.mon,false),(3,.entry,false),(4,.entry,false)]})]
theorem zSg (a:Host)(f:zfP a=true):∃N,zG3 N a=some [aS .int<|zcM a]:=by
 have g:=zJ.1 f;have e:=zcu g;refine zbZ λN d=>?_;unfold zG3 oN;conv=>zeta
 refine(zX a.Memory (λi (t:(List Int))=>((i:Int),t,a.Memory,a.Mons,a.Buffer,a.IoBuffer,())) _ (λi (_:List Int) (t:List Int) b=>bif ilt (zbE a (i:Int)).1 0 then (cond (few<|ln<|ap t [(i:Int)]) (b<|ap t [(i:Int)]) none) else b t) (λ(t:(List Int))=>some [.one<|.s .int t]) (λi c t rec=>?_) (λt rec=>?_) _ ([])<|d e.1).trans ?_;{simp only [zbq c,zS c,zba c,zQ c e.1,cT]};{simp only [zbl,cF]};rw[zsh λi (t:List Int) b=>bif ilt (zbE a (i:Int)).1 0 then (cond (few<|ln<|ap t [(i:Int)]) (b<|ap t [(i:Int)]) none) else b t];exact zxl (λi=>ilt (zbE a (i:Int)).1 0) _ _ 0 [] (by simpa using e.2)
theorem zLm:vQ 395 zof:=kF1 zsF zq zo zdp zTO zSg
def zGG (N:Nat)(b:Host):OA:=
 (iter (σ:=(Int×Int×(List Int)×lM×lN×lE×lE×Unit)) N (λd a=>let c:=a.2.2.2.2.2.2.1;let e:=(⟨a.2.2.2.1,a.2.2.2.2.1,a.2.2.2.2.2.1,c⟩:Host); (cond (ilt a.2.1 a.1) (oN (zfK e a.2.1)<|cond (ilt (zdr e a.2.1) 0) (oN (few<|ln<|ap a.2.2.1 [a.2.1])<|d (a.1,zI .i64 a.2.1 1,ap a.2.2.1 [a.2.1],a.2.2.2.1,a.2.2.2.2.1,a.2.2.2.2.2.1,c,()))<|d (a.1,zI .i64 a.2.1 1,a.2.2.1,a.2.2.2.1,a.2.2.2.2.1,a.2.2.2.2.2.1,c,()))<|some [aS .int a.2.2.1])) (ln b.Memory,0,[],b.Memory,b.Mons,b.Buffer,b.IoBuffer,()))
def zTF:=zx [(249,0,{n:=28,tm:=[(1,.lp 0 0),(3,.sl 0 []),(10,ti),(11,ti)],lo:=[(0,[.sl 1 [],.sl 2 [],.sl 3 [],.sl 4 []])],ro:=[(0,.int,true),(1,.sl .int,false),(2,.mon,false),(3,.entry,false),(4,.entry,false)]})]
theorem zRV (a:Host)(f:zfP a=true):∃N,zGG N a=some [aS .int<|zcM a]:=by
 have g:=zJ.1 f;have e:=zcu g;refine zbZ λN d=>?_;unfold zGG oN;conv=>zeta
 refine(zX a.Memory (λi (t:(List Int))=>(ln a.Memory,(i:Int),t,a.Memory,a.Mons,a.Buffer,a.IoBuffer,())) _ (λi (_:List Int) (t:List Int) b=>bif ilt (zbE a (i:Int)).1 0 then (cond (few<|ln<|ap t [(i:Int)]) (b<|ap t [(i:Int)]) none) else b t) (λ(t:(List Int))=>some [.one<|.s .int t]) (λi c t rec=>?_) (λt rec=>?_) _ ([])<|d e.1).trans ?_;{simp only [zbq c,zS c,zba c,zQ c e.1,cT]};{simp only [zbl,cF]};rw[zsh λi (t:List Int) b=>bif ilt (zbE a (i:Int)).1 0 then (cond (few<|ln<|ap t [(i:Int)]) (b<|ap t [(i:Int)]) none) else b t];exact zxl (λi=>ilt (zbE a (i:Int)).1 0) _ _ 0 [] (by simpa using e.2)
theorem zKS:vQ 249 zof:=kF1 zsF zq zo zdp zTF zRV
def ziF (m:List (List Int))(p:Int)(c:List Int):List (List Int):=bif hasB p (ln m) then (cond (zcn c) (up m p c) m) else m
@[simp] abbrev zfQ (m:List (List Int))(p:Int)(c:List Int):Bool:=pc (SmM m/\c.length<=1048576)
@[simp] abbrev zeO (m:List (List Int))(p:Int)(c:List Int):List (List Int):=ziF m p c
def zlL:Run:=rF3 (dS<|.sl .int) dI (dS .int) λb c d=>(zfQ b c d,[aS (.sl .int)<|zeO b c d])
def zzU (N:Nat)(a:lM)(b:Int)(c:List Int):OA:=
 (oN (zgq a)<|oN (zG b 0<|wsub .i64 (ln a) 1)<|cond (zi b 0<|wsub .i64 (ln a) 1) (oN (zdx c)<|cond (zcX c) (oN (few<|ln<|ap [] c)<|oN (inb b<|ln<|zeY a)<|share (up (zeY a) b<|ap [] c) λd=>some [aS (.sl .int) d])<|some [aS (.sl .int)<|zeY a])<|some [aS (.sl .int)<|zeY a])
theorem zMo (b:List (List Int))(a:Int)(c:List Int)(g:zfQ b a c=true):∃N,zzU N b a c=some [aS (.sl .int)<|zeO b a c]:=by obtain⟨e,d⟩:=zJ.1 g;refine⟨0,?_⟩;unfold zzU zeO ziF oN;refine must (zbj<|(zpk _).2 e) (must rfl ?_);rw[show zi a 0 (wsub .i64 (ln b) 1)=hasB a (ln b) from zpT e.1 a];cases f:hasB a (ln b);{rfl};{simp only [cT,zdx,zcX];cases h:zcn c;{rfl};{refine must rfl (must (znh d)<|must (zy f) ?_);rw[zh6];rfl}}
theorem zFT:vQ 397 zlL:=kF3 zsF zq zo zdp (zx []) zMo
def zzt (N:Nat)(a:lM)(b:Int)(c:List Int):OA:=
 (oN (zgl a)<|oN (zbg b<|ln a)<|cond (zcq b<|ln a) (oN (zdx c)<|cond (zcX c) (oN (zdQ c)<|oN (inb b<|ln<|zdM a)<|share (up (zdM a) b<|zdP c) λd=>some [aS (.sl .int) d])<|some [aS (.sl .int)<|zdM a])<|some [aS (.sl .int)<|zdM a])
theorem zL1 (a:List (List Int))(b:Int)(c:List Int)(f:zfQ a b c=true):∃N,zzt N a b c=some [aS (.sl .int)<|zeO a b c]:=by obtain⟨g,d⟩:=zJ.1 f;refine⟨0,?_⟩;unfold zzt zeO ziF oN;refine must (zbj g) (must rfl ?_);rw[show zcq b (ln a)=hasB b (ln a) from rfl];cases e:hasB b (ln a);{rfl};{simp only [cT,zdx,zcX];cases h:zcn c;{rfl};{refine must rfl (must (zbj<|jC d (by decide)) (must (zy e) rfl))}}
theorem zFt:vQ 251 zlL:=kF3 zsF zq zo zdp (zx []) zL1
def zp0:zV:=[(395,zof),(249,zof),(397,zlL),(251,zlL)]++z4l
theorem zhE:zL zp0:=zh zLm (zh zKS<|zh zFT<|zh zFt zsF)
abbrev mZ:Mon:=Ty.dflt .mon
abbrev sZ:Slot:=Ty.dflt .slot
def ShM (x:Mon):Prop:=x.Outer.length=8/\x.Out.length=8/\x.Dirty.length=8/\x.Tables.length=x.Guests.length
def Shape (h:Host):Prop:=SmH h/\∀x∈h.Mons,ShM x
theorem ziC {h:Host}{m:Int}{x:Mon}(a:Shape h)(c:zf2 x)(d:ShM x):Shape {h with Mons:=up h.Mons m x}:=by refine⟨⟨a.1.1,zjn a.1.2.1 c,a.1.2.2⟩,λy b=>?_⟩;rcases q0 b with b|rfl;{exact a.2 y b};{exact d}
theorem zco {h:Host}(b:Shape h){m:Int}(a:hasB m (ln h.Mons)=true):zf2 (ix h.Mons m mZ)/\ShM (ix h.Mons m mZ):=⟨b.1.2.1.2 _<|zbv a _,b.2 _<|zbv a _⟩
theorem zOs {h:Host}{b:List (List Int)}(a:Shape h)(c:SmM b):Shape {h with Memory:=b}:=⟨⟨c,a.1.2⟩,a.2⟩
theorem zrB {h:Host}{m p:Int}{s:Slot}(e:hasB m (ln h.Mons)=true)(b:Shape h):Shape (zb7 h m p s):=by refine⟨zED e b.1,?_⟩;obtain⟨_,a⟩:=zco b e;have d:∀y∈up h.Mons m {zkk (ix h.Mons m mZ) p (ix h.Mons m mZ).Tables.length with Outer:=up (ix h.Mons m mZ).Outer p s},ShM y:=(by intro y c;rcases q0 c with c|rfl;{exact b.2 y c};{exact⟨by simpa using a.1,a.2.1,a.2.2.1,by simpa [zkk,zpQ] using a.2.2.2⟩});unfold zb7;cases ine (ix (ix h.Mons m mZ).Outer p sZ).Page (-1)<;>exact d
theorem zgz (h:Host)(m p:Int)(s:Slot):(zb7 h m p s).Mons=up h.Mons m {zkk (ix h.Mons m mZ) p (ix h.Mons m mZ).Tables.length with Outer:=up (ix h.Mons m mZ).Outer p s}/\(zb7 h m p s).Memory=h.Memory:=by unfold zb7;cases ine (ix (ix h.Mons m mZ).Outer p sZ).Page (-1)<;>exact⟨rfl,rfl⟩
theorem zeQ {h:Host}{m k:Int}{x:Mon}(a:hasB m (ln h.Mons)=true):hasB m (ln<|up h.Mons k x)=true:=by simpa [ln] using a
theorem zD2 {h:Host}{m k p:Int}{s:Slot}(a:hasB m (ln h.Mons)=true):hasB m (ln (zb7 h k p s).Mons)=true:=by rw[(zgz h k p s).1];exact zeQ a
theorem zdI {b:Type}{l:List b}{p:Int}(h:l.length=8)(a:hasB p 8=true):hasB p (ln l)=true:=by rw[ln,h];exact a
def zxx (h:Host)(m p:Int)(s:Slot):Host :=
 bif ine s.Page (-1) then ⟨h.Memory,up h.Mons m<|zkk (ix h.Mons m mZ) p (ix h.Mons m mZ).Guests.length,flushed h.Buffer s.Page,flushed h.IoBuffer s.Page⟩
 else ⟨h.Memory,up h.Mons m<|zkk (ix h.Mons m mZ) p (ix h.Mons m mZ).Guests.length,h.Buffer,h.IoBuffer⟩
theorem zxU {h:Host}{k:Nat}{p:Int}{s:Slot}(a:k<h.Mons.length)(b:(ix h.Mons (k:Int) mZ).Tables.length=(ix h.Mons (k:Int) mZ).Guests.length) :
 zxx {h with Mons:=up h.Mons (k:Int) {ix h.Mons (k:Int) mZ with Outer:=up (ix h.Mons (k:Int) mZ).Outer p s}} (k:Int) p (ix (ix h.Mons (k:Int) mZ).Outer p sZ)=zb7 h (k:Int) p s:=by
 unfold zb7 zxx;simp only[zef a,zuN,zkk,b]
def zXx {a:Type}(m p:Int)(i:Nat)(t:List Mon)(b:List Mon->Option a):Option a :=
 (cond (inb (i:Int)<|ln (ix t m mZ).Tables) (cond (inb (i:Int)<|ln (ix t m mZ).Guests) (cond (pc<|SmK (ix (ix t m mZ).Tables (i:Int) zc3)/\(ix (ix t m mZ).Guests (i:Int) zl).Live.length<=1048576) (cond (inb (i:Int)<|ln (ix t m mZ).Tables) (b<|up t m ({ (ix t m mZ) with Tables:=(up (ix t m mZ).Tables (i:Int)<|zjv (ix (ix t m mZ).Tables (i:Int) zc3) (ix (ix t m mZ).Guests (i:Int) zl).Live p)}:Mon)) none) none) none) none)
theorem zVP {j:Type}{mons:List Mon}{k:Nat}(d:k<mons.length)(p:Int)(c:zf2 (ix mons (k:Int) mZ))(f:(ix mons (k:Int) mZ).Tables.length=(ix mons (k:Int) mZ).Guests.length)(K:List Mon->Option j) :
 ∀(n i:Nat),i+n=(ix mons (k:Int) mZ).Guests.length->goN (λi t g=>zXx (k:Int) p i t g) K n i (up mons (k:Int)<|zkk (ix mons (k:Int) mZ) p i)=K (up mons (k:Int)<|zkk (ix mons (k:Int) mZ) p (ix mons (k:Int) mZ).Guests.length)
 | 0,i,h=>by have:i=(ix mons (k:Int) mZ).Guests.length:=(by omega);subst this;rfl
 |n+1,i,h=>by
  have b:i<(ix mons (k:Int) mZ).Guests.length:=(by omega);have a:i<(zlb (ix mons (k:Int) mZ).Guests p i (ix mons (k:Int) mZ).Tables).length:=by rw[zpQ];omega
  have e:pc (SmK (ix (zlb (ix mons (k:Int) mZ).Guests p i (ix mons (k:Int) mZ).Tables) (i:Int) zc3)/\(ix (ix mons (k:Int) mZ).Guests (i:Int) zl).Live.length<=1048576)=true :=
   zbj ⟨by rw[zba a];exact(zuL _ _ _ _ (by omega) c.2.2.2.2.2).2 _ (jD a),by rw[zba b];exact(c.2.2.2.1.2 _<|jD b).2.2.1⟩
  simp only[goN,zXx,zef d,zuN,zkk,zS a,zS b,e,cT];exact zVP d p c f K n (i+1) (by omega)
@[simp] abbrev zeH (h:Host)(m p:Int)(s:Slot):Bool:=pc (Shape h/\hasB m (ln h.Mons)=true)
@[simp] abbrev zeI (h:Host)(m p:Int)(s:Slot):Host:=zxx h m p s
def zl1:List CV->List AV->Option (Bool×List CV×List AV)
 |[.s (.sl .int) b,.s .mon c,.s .entry d,.s .entry e],[.one<|.i .i64 f,.one<|.i .i64 g,.agg [.i .i64 h,.i .i64 j]]=>some (zeH (⟨b,c,d,e⟩:Host) f g (⟨h,j⟩:Slot),zbe<|zeI (⟨b,c,d,e⟩:Host) f g (⟨h,j⟩:Slot),[])
 |_,_=>none
def zpa (N:Nat)(c:Host)(i n:Int)(k:Slot):OA:=
 (oN (inb i<|ln c.Mons)<|iter (σ:=(Int×Int×Int×Int×Int×Int×lN×lM×lE×lE×Unit)) N (λp a=>let j:=a.2.2.2.2.2.2.2.1;let h:=a.2.2.2.2.2.2.1;let e:=a.2.2.2.2.1;let g:=a.2.2.2.2.2.2.2.2.1;let f:=a.2.2.2.2.2.2.2.2.2.1;let b:=a.2.2.2.1;let d:=ix h a.2.1 zf;let m:=ix d.Tables b zc3;let l:=(ix d.Guests b zl).Live; (cond (ilt b a.2.2.1) (oN (inb b<|ln d.Tables)<|oN (inb b<|ln d.Guests)<|oN (zhD m l a.1)<|oN (inb b<|ln d.Tables)<|share (up h a.2.1 ({d with Tables:=(up d.Tables b<|zk3 m l a.1)}:Mon)) λq=>p (a.1,a.2.1,a.2.2.1,zI .i64 b 1,e,a.2.2.2.2.2.1,q,j,g,f,()))<|cond (ine e<|-1) (oN (zee g e)<|oN (zee f e)<|some [aH (⟨j,h,zgo g e,zgo f e⟩:Host)])<|some [aH (⟨j,h,g,f⟩:Host)])) (n,i,ln (ix c.Mons i zf).Guests,0,k.Page,k.Rights,c.Mons,c.Memory,c.Buffer,c.IoBuffer,()))
def zGw:=zx [(142,0,{n:=71,tm:=[(0,.lp 0 0),(2,ti),(7,.lp 1 0),(8,.ep 0 [] 0),(20,ti),(21,ti)],lo:=[(0,[.sl 1 [],.sl 0 [],.sl 2 [],.sl 3 []]),(1,[ti,ti])],ro:=[(0,.mon,true),(1,.sl .int,true),(2,.entry,true),(3,.entry,true)]})]
theorem zJn (N:Nat)(c:Host)(a b:Int)(d:Slot):zp2 (cQ zp0 znW zMB zTB) zGw N 12 142 [true,true,true,true] (zbe c) [aI a,aI b,aT .slot d]=zpa N c a b d:=by kernel_rfl
theorem zF3 (c:Host)(d b:Int)(a:Slot)(s:zbB big (.agg (zbe c)::[aI d,aI b,aT .slot a]))(r:zeH c d b a=true):∃N,zpa N c d b a=some (.agg (zbe<|zeI c d b a)::[]):=by
 obtain⟨h,g⟩:=zJ.1 r;obtain⟨l,q⟩:=zco h g;have hg:(ix c.Mons d mZ).Guests.length<=big:=(zcu l.2.2.2.1.1).1;refine zbZ λN f=>?_;unfold zpa oN;conv=>zeta
 refine must (zy g) ?_;refine(zX ((ix c.Mons d zf).Guests) (λi (t:lN)=>(b,d,ln (ix c.Mons d zf).Guests,(i:Int),a.Page,a.Rights,t,c.Memory,c.Buffer,c.IoBuffer,())) _ (λi (x:Guest) (t:List Mon) j=>zXx d b i t j) (λ(t:lN)=>cond (ine a.Page<|-1) (cond (zee c.Buffer a.Page) (cond (zee c.IoBuffer a.Page) (some [.agg<|zbe (⟨c.Memory,t,zgo c.Buffer a.Page,zgo c.IoBuffer a.Page⟩:Host)]) none) none)<|some [.agg<|zbe (⟨c.Memory,t,c.Buffer,c.IoBuffer⟩:Host)]) (λi e t rec=>?_) (λt rec=>?_) _ (c.Mons)<|f hg).trans ?_;{simp only [zbq e,zS e,zba e,zQ e hg,cT];rfl};{simp only [zbl,cF]};obtain⟨k,rfl,m⟩:=zd0 (n:=c.Mons.length) g;rw[zsh λi t j=>zXx (k:Int) b i t j];have p:c.Mons=up c.Mons (k:Int) (zkk (ix c.Mons (k:Int) mZ) b 0):=(zM4 m _).symm;refine(congrArg _ p).trans ((zVP m b l q.2.2.2 _ _ 0<|jU _).trans ?_);show (cond (ine a.Page<|-1) _ _)=some [AV.agg<|zbe<|zxx c (k:Int) b a];unfold zxx;cases ine a.Page (-1);{rfl};{exact must rfl (must (zbj h.1.2.2.1) (must (zbj h.1.2.2.2) rfl))}
theorem zAr:zdg Tryz.prog 142 [true,true,true,true] zl1:=by refine zhz (zgL zhE zq zo zdp) (zia (by kernel_rfl)) ?_;intro g a b j i f h;have d:=zky f;unfold zl1 at h;split at h;{obtain⟨e,rfl,rfl⟩:=zmw h;obtain⟨N,c⟩:=zF3 _ _ _ _ (by exact d) e;exact⟨rfl,_,N,12,(zJn N _ _ _ _ ).trans c⟩};{cases h}
def zXR:zdL:=[(142,[true,true,true,true],zl1)]++zMB
theorem zMC:zcG zXR:=zem zo (by
 intro x a;simp only[qG,qW,or_false]at a;rcases a with rfl
 .exact zAr)
def zeW (h:Host)(m p:Int):Host:={h with Mons:=up h.Mons m {ix h.Mons m mZ with Out:=up (ix h.Mons m mZ).Out p (zcr h.Memory (ix (ix h.Mons m mZ).Outer p sZ).Page)}}
def zdo (h:Host)(m p:Int):Host:=zb7 (zeW h m p) m p noSlot
theorem zTn {m:List (List Int)}{p:Int}(h:SmM m):(zcr m p).length<=1048576:=by unfold zcr;cases a:hasB p (ln m);{exact(by decide:zx1.length<=1048576)};{exact h.2 _ (zbv a _)}
theorem zvl {h:Host}{m p:Int}(c:Shape h)(d:hasB m (ln h.Mons)=true):Shape (zeW h m p):=by obtain⟨a,b⟩:=zco c d;exact ziC c ⟨a.1,zJY a.2.1<|zTn c.1.1,a.2.2⟩ ⟨b.1,by simpa using b.2.1,b.2.2⟩
theorem zJP {h:Host}{m p:Int}(b:Shape h)(a:hasB m (ln h.Mons)=true):Shape (zdo h m p):=zrB (zeQ a) (zvl b a)
@[simp] abbrev zik (h:Host)(m p:Int):Bool:=pc (Shape h/\hasB m (ln h.Mons)=true/\hasB p 8=true)
@[simp] abbrev zk6 (h:Host)(m p:Int):Host:=zdo h m p
def ztd:List AV->Option (Bool×List AV)
 |[.agg [.s (.sl .int) b,.s .mon c,.s .entry d,.s .entry e],.one<|.i .i64 f,.one<|.i .i64 g]=>some (zik (⟨b,c,d,e⟩:Host) f g,[aH<|zk6 (⟨b,c,d,e⟩:Host) f g])
 |_=>none
def zwS (N:Nat)(a:Host)(b c:Int):OA:=
 let d:=ix a.Mons b zf;let e:=(ix d.Outer c zN).Page; (oN (inb b<|ln a.Mons)<|oN (inb b<|ln a.Mons)<|oN (inb c<|ln d.Outer)<|oN (zeM a.Memory e)<|oN (inb c<|ln d.Out)<|share (up a.Mons b ({d with Out:=(up d.Out c<|zgh a.Memory e)}:Mon)) (λg=>let f:=({a with Mons:=g}:Host); (oN zbA<|oN (zfD f b c zU)<|some [aH<|zhr f b c zU])))
theorem zUT (N:Nat)(a:Host)(b c:Int):zBV (cQ zp0 znW zXR zTB) (zx []) N 12 383 [true,true,true,true,false,false] 1 1 [[0],[1],[2],[4],[7]] .mon [aH a,aI b,aI c]=zwS N a b c:=by kernel_rfl
theorem zSx (b:Host)(d c:Int)(m:zbB big [aH b,aI d,aI c])(j:zik b d c=true):∃N,zwS N b d c=some [aH<|zk6 b d c]:=by
 obtain⟨g,a,f⟩:=zJ.1 j;obtain⟨l,e⟩:=zco g a;obtain⟨k,rfl,h⟩:=zd0 (n:=b.Mons.length) a;have i:=zvl (p:=c) g a;refine⟨0,?_⟩;unfold zwS oN;conv=>zeta
 refine must (zy a) (must (zy a)<|must (zy<|zdI e.1 f)<|must (zbj<|(zpk _).2 g.1.1)<|must (zy<|zdI e.2.1 f)<|shr (must rfl (must (zbj ⟨(zM _).2 i.1,zeQ a,?_,?_⟩) rfl)));{simp only [zef h];exact zdI e.1 f};{simp only [zef h];exact uF e.2.2.2}
theorem zLJ:zd9 Tryz.prog 383 [true,true,true,true,false,false] (some (1,1,[[0],[1],[2],[4],[7]])) ztd:=by refine zls (kt:=.mon) (zgL zhE zq zMC zdp) (zia (by kernel_rfl)) (by kernel_rfl) ?_;intro a g f e h;have c:=ziO e;unfold ztd at h;split at h;{obtain⟨d,rfl⟩:=zel h;obtain⟨N,b⟩:=zSx _ _ _ (by exact c) d;exact⟨⟨_,rfl⟩,rfl,_,N,12,(zUT N _ _ _ ).trans b⟩};{cases h}
def zva:List CV->List AV->Option (Bool×List CV×List AV)
 |[.s (.sl .int) b,.s .mon c,.s .entry d,.s .entry e],[.one<|.i .i64 f,.one<|.i .i64 g]=>some (zik (⟨b,c,d,e⟩:Host) f g,zbe<|zk6 (⟨b,c,d,e⟩:Host) f g,[])
 |_,_=>none
def zEO (N:Nat)(c:Host)(b a:Int):OA:=
 let d:=ix c.Mons b zf;let e:=ix d.Outer a zN; (oN (inb b<|ln c.Mons)<|oN (inb a<|ln d.Outer)<|oN (zeM c.Memory e.Page)<|oN (inb a<|ln d.Out)<|share (up c.Mons b ({d with Out:=(up d.Out a<|zgh c.Memory e.Page)}:Mon)) (λg=>let f:=ix g b zf; (oN zbA<|oN (inb a<|ln f.Outer)<|share (up g b ({f with Outer:=(up f.Outer a zU)}:Mon)) (λi=>let h:=({c with Mons:=i}:Host); (oN (zeH h b a e)<|some [aH<|zeI h b a e])))))
theorem z0a (N:Nat)(c:Host)(a b:Int):zp2 (cQ zp0 znW zXR zTB) (zx []) N 12 67 [true,true,true,true] (zbe c) [aI a,aI b]=zEO N c a b:=by kernel_rfl
theorem zXF (c:Host)(e a:Int)(w:zbB big (.agg (zbe c)::[aI e,aI a]))(u:zik c e a=true):∃N,zEO N c e a=some (.agg (zbe<|zk6 c e a)::[]):=by
 obtain⟨l,b,j⟩:=zJ.1 u;obtain⟨v,f⟩:=zco l b;obtain⟨k,rfl,h⟩:=zd0 (n:=c.Mons.length) b;have m:=zvl (p:=a) l b;have d:hasB (k:Int) (ln (zeW c (k:Int) a).Mons)=true:=zeQ b;have i:k<(zeW c (k:Int) a).Mons.length:=(by simpa [zeW] using h);have g:ix (zeW c (k:Int) a).Mons (k:Int) mZ={ix c.Mons (k:Int) mZ with Out:=up (ix c.Mons (k:Int) mZ).Out a (zcr c.Memory (ix (ix c.Mons (k:Int) mZ).Outer a sZ).Page)}:=zef h _ _;have t:Shape {zeW c (k:Int) a with Mons:=up (zeW c (k:Int) a).Mons (k:Int) {ix (zeW c (k:Int) a).Mons (k:Int) mZ with Outer:=up (ix (zeW c (k:Int) a).Mons (k:Int) mZ).Outer a noSlot}}:=(by obtain⟨q,r⟩:=zco m d;exact ziC m ⟨by simpa using q.1,q.2⟩ ⟨by simpa using r.1,r.2⟩);refine⟨0,?_⟩;unfold zEO oN;conv=>zeta
 refine must (zy b) (must (zy<|zdI f.1 j)<|must (zbj<|(zpk _).2 l.1.1)<|must (zy<|zdI f.2.1 j)<|shr (must rfl (must ?_<|shr<|must (zbj ⟨t,zeQ d⟩) ?_)));{rw [zef h];exact zy (zdI f.1 j)};{have:=zxU (p:=a) (s:=noSlot) i (by rw[g];exact f.2.2.2);rw[g] at this;show some [AV.agg<|zbe<|zxx {zeW c (k:Int) a with Mons:=up (zeW c (k:Int) a).Mons (k:Int) {ix (zeW c (k:Int) a).Mons (k:Int) mZ with Outer:=up (ix (zeW c (k:Int) a).Mons (k:Int) mZ).Outer a noSlot}} (k:Int) a<|ix (ix c.Mons (k:Int) mZ).Outer a sZ]=_;rw[g];exact congrArg (λx=>some [AV.agg<|zbe x]) this}
theorem zRE:zdg Tryz.prog 67 [true,true,true,true] zva:=by refine zhz (zgL zhE zq zMC zdp) (zia (by kernel_rfl)) ?_;intro g a b j i f h;have d:=zky f;unfold zva at h;split at h;{obtain⟨e,rfl,rfl⟩:=zmw h;obtain⟨N,c⟩:=zXF _ _ _ (by exact d) e;exact⟨rfl,_,N,12,(z0a N _ _ _ ).trans c⟩};{cases h}
def zXS:zdL:=[(67,[true,true,true,true],zva)]++zXR
theorem zMD:zcG zXS:=zem zMC (by
 intro x a;simp only[qG,qW,or_false]at a;rcases a with rfl
 .exact zRE)
def zYt:zfg:=[(383,[true,true,true,true,false,false],some (1,1,[[0],[1],[2],[4],[7]]),ztd)]++zTB
theorem zMP:zea zYt:=znc zdp (by
 intro x a;simp only[qG,qW,or_false]at a;rcases a with rfl
 .exact zLJ)
def cz (l:List Slot):Nat:=l.countP λs=>ieq s.Page 0
def zH:List Mon->Nat
 |[]=>0
 |m::l=>cz m.Outer+zH l
def bit (u:List Bool):Nat:=bif ix u 0 false then 1 else 0
theorem zvK (s:Slot)(l:List Slot):cz (s::l)=cz l+bif ieq s.Page 0 then 1 else 0:=by unfold cz;rw[u4];cases ieq s.Page 0<;>rfl
theorem z7V {u:List Bool}{p:Int}(c:0<=p)(a:p.toNat<u.length)(x:Bool):ix (up u p x) 0 false=bif ieq p 0 then x else ix u 0 false:=by unfold ix up;cases h:ieq p 0;{have:p≠0:=(by simpa [ieq] using h);have b:p.toNat≠0:=(by omega);simp[List.getD,jF,b]};{have:p=0:=(by simpa [ieq] using h);subst this;have a:0<u.length:=a;simp[List.getD,jF,a]}
theorem zBH:∀(l:List Slot) (u b:List Bool),(∀s∈l,s.Page<12)->u.length=12->zgJ l u=some b->cz l+bit u=bit b
 |[],u,b,_,_,h=>by cases h;simp[cz]
 |s::l,u,b,i,k,h=>by
  simp only[zgJ]at h;rw[zvK];cases c:ilt s.Page 0;{have c:=jR c;rw[show ilt s.Page 0=false from qI (by omega)]at h;simp only[cF]at h;cases d:ix u s.Page false;{rw [d]at h;simp only[cF]at h;have g:s.Page.toNat<u.length:=(by have:=i s (by simp);omega);have a:=zBH l _ b (λt j=>i t (by simp[j])) (by simpa using k) h;have e:bit (up u s.Page true)=bif ieq s.Page 0 then 1 else bit u:=(by unfold bit;rw[z7V (by omega) g];cases ieq s.Page 0<;>rfl);rw[e] at a;cases f:ieq s.Page 0;{rw [f] at a;simp only[cF] at a ⊢;omega};{have n:s.Page=0:=(by simpa [ieq] using f);rw[n]at d;have:bit u=0:=(by unfold bit;rw[d];rfl);rw[f] at a;simp only[cT] at a ⊢;omega}};{rw [d]at h;cases h}};{have m:=qD c;rw[c]at h;simp only[cT]at h;have a:=zBH l u b (λt j=>i t (by simp[j])) k h;have:ieq s.Page 0=false:=(by simp[ieq];omega);rw[this];simpa using a}
theorem zRI:∀(l:List Mon) (u:List Bool),u.length=12->zhJ l u=true->zH l+bit u<=1
 |[],u,_,_=>by unfold zH bit;cases ix u 0 false<;>simp
 |m::l,u,c,h=>by simp only[zhJ]at h;cases b:zd6 m;{rw [b]at h;cases h};{rw [b]at h;simp only[cT]at h;cases a:zgJ m.Outer u with|none=>rw[a]at h;cases h|some d =>rw[a]at h;have e:=zBH _ _ _ (zCc<|ziv b) c a;have f:=zRI l d ((zo5 _ _ _ a).trans c) h;simp only[zH];omega}
theorem zZn:∀(l:List Slot) (b:Nat) (s:Slot),l[b]?=some s->s.Page=0->cz (l.set b noSlot)+1=cz l
 |[],b,s,h,_=>by simp at h
 |t::l,0,s,h,a=>by simp only[qH,qC]at h;subst h;rw[List.set_cons_zero,zvK,zvK];have:ieq t.Page 0=true:=(by simp[ieq,a]);rw[this];rfl
 |t::l,b+1,s,h,a=>by rw[List.set_cons_succ,zvK,zvK];have:=zZn l b s (by simpa using h) a;omega
theorem zT6:∀(l:List Mon) (a:Nat) (x y:Mon),l[a]?=some x->zH (l.set a y)+cz x.Outer=zH l+cz y.Outer
 |[],a,x,y,h=>by simp at h
 |m::l,0,x,y,h=>by simp only[qH,qC]at h;subst h;rw[List.set_cons_zero];simp only[zH];omega
 |m::l,a+1,x,y,h=>by rw[List.set_cons_succ];have:=zT6 l a x y (by simpa using h);simp only[zH];omega
theorem zXi {l:List Slot}(h:cz l=0):znL l 0=none:=by unfold znL;rw[List.findIdx?_eq_none_iff];intro s a;have:=(vE.1 h) s a;simpa using this
theorem zJu:∀(l:List Mon) (i:Nat),zH l=0->zif 0 l i=(-1,-1)
 |[],_,_=>rfl
 |m::l,i,h=>by simp only[zH]at h;simp only[zif];rw[zXi (by omega)];exact zJu l (i+1) (by omega)
theorem zXj {l:List Slot}{k:Nat}(h:znL l 0=some k):∃s,l[k]?=some s/\s.Page=0:=by unfold znL at h;rw[u2]at h;obtain⟨a,b,_⟩:=h;exact⟨l[k],qB a,by simpa [ieq] using b⟩
theorem zEg:∀(l:List Mon) (i:Nat),zif 0 l i=(-1,-1)\/∃a b x s,zif 0 l i=(((i+a:Nat):Int),((b:Nat):Int))/\l[a]?=some x/\x.Outer[b]?=some s/\s.Page=0
 |[],_=>.inl rfl
 |m::l,i=>by
  simp only[zif];cases h:znL m.Outer 0 with
  |none=>rcases zEg l (i+1) with c|⟨a,b,x,s,c,d,f,g⟩;{exact .inl c};{refine .inr ⟨a+1,b,x,s,?_,by simpa using d,f,g⟩;have e:i+1+a=i+(a+1):=(by omega);rw[c,e]}
  |some k=>obtain⟨s,c,d⟩:=zXj h;exact .inr ⟨0,k,m,s,rfl,rfl,c,d⟩
def Fit (h:Host):Prop:=Shape h/\0<h.Memory.length/\zH h.Mons<=1
theorem zD1 {h:Host}(c:0<h.Memory.length)(b:ilt (zbE h 0).1 0=true):inb 0 (ln<|zca h)=true:=by unfold zca;obtain⟨n,a⟩:∃n,h.Memory.length=n+1:=⟨h.Memory.length-1,by omega⟩;rw[a];simp only[zu6];rw[show ilt (zbE h ((0:Nat):Int)).1 0=true from b];exact qK (by simp only[cT,ln,qV];omega)
theorem zXo {h:Host}(b:0<h.Memory.length)(a:ieq (ln<|zca h) 0=true):ilt (zbE h 0).1 0=false:=by cases c:ilt (zbE h 0).1 0;{rfl};{have d:=qD (zD1 b c);have e:ln (zca h)=0:=(by simpa [ieq] using a);omega}
def zcL (h:Host):Host:=bif ieq (ln<|zca h) 0 then zdo h (zbE h 0).1 (zbE h 0).2 else h
structure Room (h r:Host):Prop where
 shape:Shape r
 free:inb 0 (ln (zca r))=true
 len:r.Mons.length=h.Mons.length
 outer:∀m,(ix r.Mons m mZ).Outer.length=8\/True
theorem z0h {h:Host}(i:Fit h)(f:ieq (ln<|zca h) 0=true):∃(a b:Nat) (x:Mon) (s:Slot),zbE h 0=((a:Int),(b:Int))/\h.Mons[a]?=some x/\x.Outer[b]?=some s/\s.Page=0:=by have d:=zXo i.2.1 f;have e:zbE h 0=zif 0 h.Mons 0:=rfl;rcases zEg h.Mons 0 with c|⟨a,b,x,s,c,g⟩;{rw [e,c]at d;cases d};{exact⟨a,b,x,s,by rw[e,c,jU],g⟩}
theorem zB8 {h:Host}(d:Fit h)(e:ieq (ln<|zca h) 0=true):hasB (zbE h 0).1 (ln h.Mons)=true/\hasB (zbE h 0).2 8=true:=by obtain⟨a,b,x,s,f,c,g,j⟩:=z0h d e;rw[f];have k:=(qA.1 c).1;have l:=(qA.1 g).1;have i:=d.1.2 x (qJ c);refine⟨qK (by simp only[ln];omega),qK ?_⟩;have:=i.1;show 0<=(b:Int)/\(b:Int)<8;omega
theorem room {h:Host}(d:Fit h):Room h (zcL h):=by unfold zcL;cases g:ieq (ln<|zca h) 0;{refine⟨d.1,qK ?_,rfl,λ_=>.inr trivial⟩;have:ln (zca h)≠0:=(by simpa [ieq] using g);show 0<=(0:Int)/\(0:Int)<ln (zca h);simp only[ln] at *;omega};{obtain⟨n,u⟩:=zB8 d g;obtain⟨a,b,x,s,r,i,k,t⟩:=z0h d g;simp only[cT];rw[r]at n u ⊢;have m:=(qA.1 i).1;have B:=(qA.1 k).1;have j:ix h.Mons (a:Int) mZ=x:=(by rw[zba m];exact(qA.1 i).2);have c:=(zgz (zeW h (a:Int) (b:Int)) (a:Int) (b:Int) noSlot).1;have q:ix (zeW h (a:Int) (b:Int)).Mons (a:Int) mZ={x with Out:=up x.Out (b:Int) (zcr h.Memory (ix x.Outer (b:Int) sZ).Page)}:=(by unfold zeW;rw[zef m,j]);obtain⟨y,l,v⟩:∃y,(zdo h (a:Int) (b:Int)).Mons=h.Mons.set a y/\y.Outer=x.Outer.set b noSlot:=(by unfold zdo;rw[c,q];unfold zeW;rw[zuN];exact⟨_,by simp[up];rfl,by simp[up]⟩);have w:zH (zdo h (a:Int) (b:Int)).Mons=0:=(by have p:=zT6 h.Mons a x y i;have z:=zZn x.Outer b s k t;have A:=d.2.2;rw[l];rw[v] at p;omega);have f:(zdo h (a:Int) (b:Int)).Memory=h.Memory:=(zgz (zeW h (a:Int) (b:Int)) (a:Int) (b:Int) noSlot).2;refine⟨zJP d.1 n,zD1 (by rw[f];exact d.2.1) ?_,by rw[l];simp,λ_=>.inr trivial⟩;have e:zbE (zdo h (a:Int) (b:Int)) 0=zif 0 (zdo h (a:Int) (b:Int)).Mons 0:=rfl;rw[e,zJu _ _ w];rfl}
theorem zTo {m:List (List Int)}{p:Int}{c:List Int}(h:SmM m)(a:c.length<=1048576):SmM (ziF m p c):=by unfold ziF;cases hasB p (ln m);{exact h};{cases zcn c;{exact h};{exact zJY h a}}
def landing (r:Host)(m p to:Int):Host:={r with Memory:=ziF r.Memory to (ix (ix r.Mons m mZ).Out p []),Mons:=up r.Mons m {ix r.Mons m mZ with Out:=up (ix r.Mons m mZ).Out p []}}
def zfk (r:Host)(m p to:Int):Host:=zb7 (landing r m p to) m p ⟨to,3⟩
def fetched (h:Host)(m p:Int):Host:=zfk (zcL h) m p (ix (zca<|zcL h) 0 0)
theorem zTq {r:Host}{m p:Int}(e:Shape r)(c:hasB m (ln r.Mons)=true)(d:hasB p 8=true):(ix (ix r.Mons m mZ).Out p []).length<=1048576:=by obtain⟨a,b⟩:=zco e c;exact a.2.1.2 _ (zbv (zdI b.2.1 d) _)
theorem zrA {r:Host}{m p to:Int}(a:Shape r)(d:hasB m (ln r.Mons)=true)(e:hasB p 8=true):Shape (landing r m p to):=by obtain⟨b,c⟩:=zco a d;exact zOs (h:={r with Mons:=up r.Mons m {ix r.Mons m mZ with Out:=up (ix r.Mons m mZ).Out p []}}) (ziC (x:={ix r.Mons m mZ with Out:=up (ix r.Mons m mZ).Out p []}) a ⟨b.1,zJY b.2.1 (by simp),b.2.2⟩ ⟨c.1,by simpa using c.2.1,c.2.2⟩) (zTo a.1.1<|zTq a d e)
theorem zPS {r:Host}{m p d:Int}(c:Shape r)(a:hasB m (ln r.Mons)=true)(b:hasB p 8=true):Shape (zfk r m p d):=zrB (zeQ a) (zrA c a b)
theorem zpz {h:Host}(a:Fit h){m:Int}(b:hasB m (ln h.Mons)=true):hasB m (ln (zcL h).Mons)=true:=by rw[ln,(room a).len];exact b
theorem zjZ {h:Host}{m p:Int}(a:Fit h)(b:hasB m (ln h.Mons)=true)(c:hasB p 8=true):Shape (fetched h m p)/\hasB m (ln (fetched h m p).Mons)=true :=
 ⟨zPS (room a).shape (zpz a b) c,zD2<|zeQ<|zpz a b⟩
@[simp] abbrev zk5 (h:Host)(m p:Int):Bool:=pc (Fit h/\hasB m (ln h.Mons)=true/\hasB p 8=true)
@[simp] abbrev zlU (h:Host)(m p:Int):Host:=fetched h m p
def zvc:List AV->Option (Bool×List AV)
 |[.agg [.s (.sl .int) b,.s .mon c,.s .entry d,.s .entry e],.one<|.i .i64 f,.one<|.i .i64 g]=>some (zk5 (⟨b,c,d,e⟩:Host) f g,[aH<|zlU (⟨b,c,d,e⟩:Host) f g])
 |_=>none
def zzW (N:Nat)(a:Host)(c b:Int):OA:=
 let h:=ix (zcM a) 0 0;let f:=ix a.Mons c zf;let d:=zk6 a (zdr a 0)<|zeq a 0;let g:=ix (zcM d) 0 0;let e:=ix d.Mons c zf; (oN (zfP a)<|cond (ieq (ln<|zcM a) 0) (oN (zfK a 0)<|oN (zik a (zdr a 0)<|zeq a 0)<|oN (zfP d)<|oN (inb 0<|ln<|zcM d)<|oN (inb c<|ln d.Mons)<|oN (inb b<|ln e.Out)<|oN (zfQ d.Memory g<|ix e.Out b [])<|oN (inb c<|ln d.Mons)<|oN (inb b<|ln e.Out)<|share (up d.Mons c ({e with Out:=(up e.Out b [])}:Mon)) (λi=>let j:=({d with Memory:=(zeO d.Memory g<|ix e.Out b []),Mons:=i}:Host); (oN (zfD j c b (⟨g,3⟩:Slot))<|some [aH<|zhr j c b (⟨g,3⟩:Slot)])))<|oN (zfP a)<|oN (inb 0<|ln<|zcM a)<|oN (inb c<|ln a.Mons)<|oN (inb b<|ln f.Out)<|oN (zfQ a.Memory h<|ix f.Out b [])<|oN (inb c<|ln a.Mons)<|oN (inb b<|ln f.Out)<|share (up a.Mons c ({f with Out:=(up f.Out b [])}:Mon)) (λi=>let k:=({a with Memory:=(zeO a.Memory h<|ix f.Out b []),Mons:=i}:Host); (oN (zfD k c b (⟨h,3⟩:Slot))<|some [aH<|zhr k c b (⟨h,3⟩:Slot)])))
theorem zXM (N:Nat)(a:Host)(b c:Int):zBV (cQ zp0 znW zXS zYt) (zx []) N 12 384 [true,true,true,true,false,false] 1 1 [[0],[1],[2],[4],[7]] .mon [aH a,aI b,aI c]=zzW N a b c:=by kernel_rfl
theorem zUP (c:Host)(b d:Int)(z:zbB big [aH c,aI b,aI d])(u:zk5 c b d=true):∃N,zzW N c b d=some [aH<|zlU c b d]:=by
 obtain⟨h,v,i⟩:=zJ.1 u;have e:∀r,Shape r->inb 0 (ln<|zca r)=true->hasB b (ln r.Mons)=true->(cond (zfP r) (cond (inb 0<|ln<|zcM r) (cond (inb b<|ln r.Mons) (cond (inb d<|ln (ix r.Mons b zf).Out) (cond (zfQ r.Memory (ix (zcM r) 0 0)<|ix (ix r.Mons b zf).Out d []) (cond (inb b<|ln r.Mons) (cond (inb d<|ln (ix r.Mons b zf).Out) (share (up r.Mons b ({ (ix r.Mons b zf) with Out:=(up (ix r.Mons b zf).Out d [])}:Mon)) λs=>cond (zfD ({r with Memory:=(zeO r.Memory (ix (zcM r) 0 0)<|ix (ix r.Mons b zf).Out d []),Mons:=s}:Host) b d (⟨ix (zcM r) 0 0,3⟩:Slot)) (some [AV.agg<|zbe<|zhr ({r with Memory:=(zeO r.Memory (ix (zcM r) 0 0)<|ix (ix r.Mons b zf).Out d []),Mons:=s}:Host) b d (⟨ix (zcM r) 0 0,3⟩:Slot)]) none) none) none) none) none) none) none) none)=some [AV.agg<|zbe<|zfk r b d<|ix (zca r) 0 0]:=(by intro r j f a;obtain⟨y,l⟩:=zco j a;have t:=zrA (to:=ix (zca r) 0 0) j a i;obtain⟨k,rfl,q⟩:=zd0 (n:=r.Mons.length) a;refine must (zbj j.1.1.1) (must f<|must (zy a)<|must (zy<|zdI l.2.1 i)<|must (zbj ⟨j.1.1,zTq j a i⟩)<|must (zy a)<|must (zy<|zdI l.2.1 i)<|shr (must (zbj ⟨(zM _).2 t.1,zeQ a,?_,?_⟩) rfl));{simp only [zef q];exact zdI l.1 i};{simp only [zef q];exact uF l.2.2.2});have g:=room h;have a:=zpz h v;refine⟨0,?_⟩;unfold zzW zlU fetched oN;conv=>zeta
 refine must (zbj h.1.1.1.1) ?_;cases p:ieq (ln<|zcM c) 0;{have m:zcL c=c:=(by unfold zcL;rw[show ieq (ln<|zca c) 0=false from p];rfl);rw[m]at g a ⊢;exact e c g.shape g.free a};{obtain⟨w,x⟩:=zB8 h p;have m:zcL c=zdo c (zbE c 0).1 (zbE c 0).2:=(by unfold zcL;rw[show ieq (ln<|zca c) 0=true from p];rfl);rw[m]at g a ⊢;exact must rfl (must rfl (must (zbj ⟨h.1,w,x⟩)<|e _ g.shape g.free a))}
theorem zO5:zd9 Tryz.prog 384 [true,true,true,true,false,false] (some (1,1,[[0],[1],[2],[4],[7]])) zvc:=by refine zls (kt:=.mon) (zgL zhE zq zMD zMP) (zia (by kernel_rfl)) (by kernel_rfl) ?_;intro a g f e h;have c:=ziO e;unfold zvc at h;split at h;{obtain⟨d,rfl⟩:=zel h;obtain⟨N,b⟩:=zUP _ _ _ (by exact c) d;exact⟨⟨_,rfl⟩,rfl,_,N,12,(zXM N _ _ _ ).trans b⟩};{cases h}
@[simp] abbrev zrg (h:Host):Bool:=pc (Shape h/\hasB (zbE h 0).1 (ln h.Mons)=true/\hasB (zbE h 0).2 8=true)
@[simp] abbrev zrh (h:Host):Host:=zdo h (zbE h 0).1 (zbE h 0).2
def zmY:List CV->List AV->Option (Bool×List CV×List AV)
 |[.s (.sl .int) b,.s .mon c,.s .entry d,.s .entry e],[]=>some (zrg (⟨b,c,d,e⟩:Host),zbe<|zrh (⟨b,c,d,e⟩:Host),[])
 |_,_=>none
def zq9 (N:Nat)(c:Host)  : OA :=
 (oN (zfK c 0)<|oN (zik c (zdr c 0)<|zeq c 0)<|some [aH<|zk6 c (zdr c 0)<|zeq c 0])
theorem zMw (N:Nat)(c:Host)  : zp2 (cQ zp0 znW zXS zYt) (zx []) N 12 250 [true,true,true,true] (zbe c) []=zq9 N c:=by kernel_rfl
theorem zI7 (c:Host)(d:zbB big (.agg (zbe c)::[]))(a:zrg c=true):∃N,zq9 N c=some (.agg (zbe<|zrh c)::[]):=by have b:=zJ.1 a;refine⟨0,?_⟩;unfold zq9 oN;exact must rfl (must (zbj b) rfl)
theorem zCr:zdg Tryz.prog 250 [true,true,true,true] zmY:=by refine zhz (zgL zhE zq zMD zMP) (zia (by kernel_rfl)) ?_;intro g a b j i f h;have d:=zky f;unfold zmY at h;split at h;{obtain⟨e,rfl,rfl⟩:=zmw h;obtain⟨N,c⟩:=zI7 _ (by exact d) e;exact⟨rfl,_,N,12,(zMw N _ ).trans c⟩};{cases h}
def z2C:zdL:=[(250,[true,true,true,true],zmY)]++zXS
theorem zWa:zcG z2C:=zem zMD (by
 intro x a;simp only[qG,qW,or_false]at a;rcases a with rfl
 .exact zCr)
def zTC:zfg:=[(384,[true,true,true,true,false,false],some (1,1,[[0],[1],[2],[4],[7]]),zvc)]++zYt
theorem zCe:zea zTC:=znc zMP (by
 intro x a;simp only[qG,qW,or_false]at a;rcases a with rfl
 .exact zO5)
theorem zWR {r:Host}{m p to:Int}(d:Shape r)(b:hasB m (ln r.Mons)=true):zxx {landing r m p to with Mons:=up (landing r m p to).Mons m {ix (landing r m p to).Mons m mZ with Outer:=up (ix (landing r m p to).Mons m mZ).Outer p ⟨to,3⟩}} m p (ix (ix (landing r m p to).Mons m mZ).Outer p sZ)=zfk r m p to:=by obtain⟨e,c⟩:=zco d b;obtain⟨k,rfl,a⟩:=zd0 (n:=r.Mons.length) b;refine zxU (h:=landing r (k:Int) p to) (by simpa [landing] using a) ?_;unfold landing;simp only[zef a];exact c.2.2.2
theorem zVd {r:Host}{m p to:Int}(f:Shape r)(b:hasB m (ln r.Mons)=true)(e:hasB p 8=true):Shape {landing r m p to with Mons:=up (landing r m p to).Mons m {ix (landing r m p to).Mons m mZ with Outer:=up (ix (landing r m p to).Mons m mZ).Outer p ⟨to,3⟩}}:=by have a:=zrA (to:=to) f b e;obtain⟨c,d⟩:=zco a (zeQ b);exact ziC a ⟨by simpa using c.1,c.2⟩ ⟨by simpa using d.1,d.2⟩
def zs5:List CV->List AV->Option (Bool×List CV×List AV)
 |[.s (.sl .int) b,.s .mon c,.s .entry d,.s .entry e],[.one<|.i .i64 f,.one<|.i .i64 g]=>some (zk5 (⟨b,c,d,e⟩:Host) f g,zbe<|zlU (⟨b,c,d,e⟩:Host) f g,[])
 |_,_=>none
def zzA (N:Nat)(c:Host)(b a:Int):OA:=
 let m:=ix (zcM c) 0 0;let d:=zrh c;let l:=ix (zcM d) 0 0;let f:=ix c.Mons b zf;let e:=ix d.Mons b zf; (oN (zfP c)<|cond (ieq (ln<|zcM c) 0) (oN (zrg c)<|oN (inb b<|ln d.Mons)<|oN (zfP d)<|oN (inb 0<|ln<|zcM d)<|oN (inb a<|ln e.Out)<|oN (zfQ d.Memory l<|ix e.Out a [])<|oN (inb a<|ln e.Out)<|share (up d.Mons b ({e with Out:=(up e.Out a [])}:Mon)) (λg=>let i:=ix g b zf;let q:=ix i.Outer a zN; (oN (inb a<|ln i.Outer)<|oN (inb a<|ln i.Outer)<|share (up g b ({i with Outer:=(up i.Outer a (⟨l,3⟩:Slot))}:Mon)) (λk=>let n:=({d with Memory:=(zeO d.Memory l<|ix e.Out a []),Mons:=k}:Host); (oN (zeH n b a q)<|some [aH<|zeI n b a q])))))<|oN (inb b<|ln c.Mons)<|oN (zfP c)<|oN (inb 0<|ln<|zcM c)<|oN (inb a<|ln f.Out)<|oN (zfQ c.Memory m<|ix f.Out a [])<|oN (inb a<|ln f.Out)<|share (up c.Mons b ({f with Out:=(up f.Out a [])}:Mon)) (λg=>let j:=ix g b zf;let h:=ix j.Outer a zN; (oN (inb a<|ln j.Outer)<|oN (inb a<|ln j.Outer)<|share (up g b ({j with Outer:=(up j.Outer a (⟨m,3⟩:Slot))}:Mon)) (λk=>let p:=({c with Memory:=(zeO c.Memory m<|ix f.Out a []),Mons:=k}:Host); (oN (zeH p b a h)<|some [aH<|zeI p b a h])))))
theorem zXL (N:Nat)(c:Host)(a b:Int):zp2 (cQ zp0 znW z2C zTC) (zx []) N 12 141 [true,true,true,true] (zbe c) [aI a,aI b]=zzA N c a b:=by kernel_rfl
theorem zUD (c:Host)(b d:Int)(F:zbB big (.agg (zbe c)::[aI b,aI d]))(w:zk5 c b d=true):∃N,zzA N c b d=some (.agg (zbe<|zlU c b d)::[]):=by
 obtain⟨j,B,l⟩:=zJ.1 w;have e:∀r,Shape r->inb 0 (ln<|zca r)=true->hasB b (ln r.Mons)=true->(cond (inb b<|ln r.Mons) (cond (zfP r) (cond (inb 0<|ln<|zcM r) (cond (inb d<|ln (ix r.Mons b zf).Out) (cond (zfQ r.Memory (ix (zcM r) 0 0)<|ix (ix r.Mons b zf).Out d []) (cond (inb d<|ln (ix r.Mons b zf).Out) (share (up r.Mons b ({ (ix r.Mons b zf) with Out:=(up (ix r.Mons b zf).Out d [])}:Mon)) λg=>cond (inb d<|ln (ix g b zf).Outer) (cond (inb d<|ln (ix g b zf).Outer) (share (up g b ({ (ix g b zf) with Outer:=(up (ix g b zf).Outer d (⟨ix (zcM r) 0 0,3⟩:Slot))}:Mon)) λu=>cond (zeH ({r with Memory:=(zeO r.Memory (ix (zcM r) 0 0)<|ix (ix r.Mons b zf).Out d []),Mons:=u}:Host) b d<|ix (ix g b zf).Outer d zN) (some [AV.agg<|zbe<|zeI ({r with Memory:=(zeO r.Memory (ix (zcM r) 0 0)<|ix (ix r.Mons b zf).Out d []),Mons:=u}:Host) b d<|ix (ix g b zf).Outer d zN]) none) none) none) none) none) none) none) none) none)=some [AV.agg<|zbe<|zfk r b d<|ix (zca r) 0 0]:=(by intro r i f a;obtain⟨E,q⟩:=zco i a;have v:=zVd (to:=ix (zca r) 0 0) i a l;have hE:=zWR (p:=d) (to:=ix (zca r) 0 0) i a;obtain⟨k,rfl,A⟩:=zd0 (n:=r.Mons.length) a;have z:∀(x y:Mon),hasB (k:Int) (ln<|up (up r.Mons (k:Int) x) (k:Int) y)=true:=λx y=>(by simpa [ln] using a);have t:inb d (ln (ix (up r.Mons (k:Int) {ix r.Mons (k:Int) mZ with Out:=up (ix r.Mons (k:Int) mZ).Out d []}) (k:Int) mZ).Outer)=true:=(by rw[zef A];exact zy (zdI q.1 l));refine must (zy a) (must (zbj i.1.1.1)<|must f<|must (zy<|zdI q.2.1 l)<|must (zbj ⟨i.1.1,zTq i a l⟩)<|must (zy<|zdI q.2.1 l)<|shr<|must t<|must t<|shr<|must (zbj ⟨v,z _ _⟩) ?_);exact congrArg (λx=>some [AV.agg<|zbe x]) hE);have h:=room j;have a:=zpz j B;refine⟨0,?_⟩;unfold zzA zlU fetched oN;conv=>zeta
 refine must (zbj j.1.1.1.1) ?_;cases s:ieq (ln<|zcM c) 0;{have m:zcL c=c:=(by unfold zcL;rw[show ieq (ln<|zca c) 0=false from s];rfl);rw[m]at h a ⊢;exact e c h.shape h.free a};{obtain⟨C,D⟩:=zB8 j s;have m:zcL c=zdo c (zbE c 0).1 (zbE c 0).2:=(by unfold zcL;rw[show ieq (ln<|zca c) 0=true from s];rfl);rw[m]at h a ⊢;exact must rfl (must (zbj ⟨j.1,C,D⟩)<|e _ h.shape h.free a)}
theorem zOR:zdg Tryz.prog 141 [true,true,true,true] zs5:=by refine zhz (zgL zhE zq zWa zCe) (zia (by kernel_rfl)) ?_;intro g a b j i f h;have d:=zky f;unfold zs5 at h;split at h;{obtain⟨e,rfl,rfl⟩:=zmw h;obtain⟨N,c⟩:=zUD _ _ _ (by exact d) e;exact⟨rfl,_,N,12,(zXL N _ _ _ ).trans c⟩};{cases h}
def zXT:zdL:=[(141,[true,true,true,true],zs5)]++z2C
theorem zME:zcG zXT:=zem zWa (by
 intro x a;simp only[qG,qW,or_false]at a;rcases a with rfl
 .exact zOR)
end
end Go.Proofs.YtgjpbkhaaiffkaaGreat.E
