/- What is proved here: a part of the proof that the statement of this claim holds (several texts of wip/, laid together). -/
import Derived.Test.YtjapbkodhfpbbaaGreatV3
namespace Go.Proofs.YtjapbkodhfpbbaaGreat.E
open Go
set_option linter.constructorNameAsVariable false
set_option linter.unusedVariables false
set_option maxRecDepth 100000
set_option linter.unusedSimpArgs false
set_option linter.unusedSectionVars false
noncomputable section
theorem must {d:Type}{c:Bool}{a b r:Option d}(h:c=true)(k:a=r):(cond c a b)=r:=by rw[h];exact k
theorem mu {d:Type}{c:Bool}{a b r:Option d}(k:a=r)(h:c=true:=by first|assumption|(simp_all<;>omega)):(cond c a b)=r:=must h k
theorem zdp {d:Type}{c:Bool}{a b r:Option d}(h:c=false)(k:b=r):(cond c a b)=r:=by rw[h];exact k
theorem br {f:Type}{c:Bool}{a b r:Option f}(d:c=true->a=r)(e:c=false->b=r):(cond c a b)=r:=by cases c;{exact e rfl};{exact d rfl}
theorem brN {f:Type}{c:Bool}{a b r:Option f}(d:c=false->a=r)(e:c=true->b=r):(cond (cond c false true) a b)=r:=by cases c;{exact d rfl};{exact e rfl}
theorem shr {a b:Type}{x:a}{f:a->Option b}{r:Option b}(h:f x=r):share x f=r:=h
theorem ziU {e:Type}{c p:Bool}{a b:Option e}(d:c=true):(cond c (cond (cond p false true) a b) none)=bif p then b else a:=by rw[d];cases p<;>rfl
attribute [simp] zQ
@[simp] theorem z8S {a:Type}(l:List a):(few (ln l)=true)↔l.length<=2147483648:=by unfold few ln;rw[decide_eq_true_iff];omega
@[simp] theorem zbbO {a:Type}(l m:List a):(ap l m).length=l.length+m.length:=by simp[ap]
attribute [simp] zm2 zhy
@[simp] theorem z7l (n:Nat)(k:IntKind)(x:Int):CVB n (.i k x)↔True:=⟨λ_=>trivial,λ_=>.i k x⟩
@[simp] theorem zbbS (n:Nat)(x:Bool):CVB n (.b x)↔True:=⟨λ_=>trivial,λ_=>.b x⟩
theorem zma {n:Nat}{t:Ty}(l:List t.den):CVB n (.s t l)↔l.length<=n/\∀x∈l,∀c∈t.cells x,CVB n c:=⟨λh=>h.inv,λh=>.s t l h.1 h.2⟩
@[simp] theorem zXV (n:Nat)(l:List Int):CVB n (.s .int l)↔l.length<=n:=by rw[zma];simp[Ty.cells]
@[simp] theorem zbaf (n:Nat)(l:List Int):CVB n (.s .u8 l)↔l.length<=n:=by rw[zma];simp[Ty.cells]
@[simp] theorem z4B (n:Nat)(l:List Bool):CVB n (.s .bool l)↔l.length<=n:=by rw[zma];simp[Ty.cells]
@[simp] theorem z4D (n:Nat)(l:List Slot):CVB n (.s .slot l)↔l.length<=n:=by rw[zma];simp[Ty.cells]
@[simp] theorem z8J (n:Nat)(l:List Ins):CVB n (.s .ins l)↔l.length<=n:=by rw[zma];simp[Ty.cells]
@[simp] theorem z1M (n:Nat)(l:List Entry):CVB n (.s .entry l)↔l.length<=n:=by rw[zma];simp[Ty.cells]
@[simp] theorem z8I (n:Nat)(l:List GAct):CVB n (.s .act l)↔l.length<=n:=by rw[zma];simp[Ty.cells]
@[simp] theorem z4E (n:Nat)(l:List Told):CVB n (.s .told l)↔l.length<=n:=by rw[zma];simp[Ty.cells]
def SmM (m:List (List Int)):Prop:=m.length<=1048576/\∀x∈m,x.length<=1048576
def SmG (g:Guest):Prop:=g.Prog.length<=1048576/\g.Written.length<=1048576/\g.Live.length<=1048576/\g.Seen.length<=1048576
def zlh (l:List Guest):Prop:=l.length<=1048576/\∀x∈l,SmG x
def SmB (b:Bare):Prop:=SmM b.Memory/\zlh b.Guests/\b.Outs.length<=1048576
def zYS (l:List Bare):Prop:=l.length<=1048576/\∀x∈l,SmB x
theorem z5O:sm=1048576:=rfl
@[simp] theorem zZj (l:List Int):CVB sm (.s .int l)↔l.length<=1048576:=zXV sm l
@[simp] theorem zbbp (l:List Int):CVB sm (.s .u8 l)↔l.length<=1048576:=zbaf sm l
@[simp] theorem zWu (l:List Bool):CVB sm (.s .bool l)↔l.length<=1048576:=z4B sm l
@[simp] theorem zWv (l:List Slot):CVB sm (.s .slot l)↔l.length<=1048576:=z4D sm l
@[simp] theorem zba0 (l:List Ins):CVB sm (.s .ins l)↔l.length<=1048576:=z8J sm l
@[simp] theorem zTd (l:List Entry):CVB sm (.s .entry l)↔l.length<=1048576:=z1M sm l
@[simp] theorem zbaZ (l:List GAct):CVB sm (.s .act l)↔l.length<=1048576:=z8I sm l
@[simp] theorem zbaR (l:List Told):CVB sm (.s .told l)↔l.length<=1048576:=z4E sm l
@[simp] theorem zqq (l:List (List Int)):CVB sm (.s (.sl .int) l)↔SmM l:=by rw[zma];simp[Ty.cells,SmM,z5O]
@[simp] theorem z8n (g:Guest):(∀c∈Ty.cells .guest g,CVB sm c)↔SmG g:=by simp[Ty.cells,SmG,z5O]
@[simp] theorem zvB (l:List Guest):CVB sm (.s .guest l)↔zlh l:=by rw[zma];simp only[z8n];rfl
@[simp] theorem z8m (b:Bare):(∀c∈Ty.cells .bare b,CVB sm c)↔SmB b:=by simp only[Ty.cells,qG,qN,or_false,vK,forall_eq,zqq,zvB,zXV,z7l,and_true];rfl
@[simp] theorem zbbt (l:List Bare):CVB sm (.s .bare l)↔zYS l:=by rw[zma];simp only[z8m];rfl
@[simp] theorem zbbR (a:List Ins)(b c:Int)(d e:List Slot)(f:Ctl)(g:Int)(h:GExit)(i:Bool)(j:List Int):SmG ⟨a,b,c,d,e,f,g,h,i,j⟩↔a.length<=1048576/\d.length<=1048576/\e.length<=1048576/\j.length<=1048576:=Iff.rfl
@[simp] theorem zbbQ (m:List (List Int))(g:List Guest)(o:List Int)(p:Int):SmB ⟨m,g,o,p⟩↔SmM m/\zlh g/\o.length<=1048576:=Iff.rfl
theorem zMb {m:List (List Int)}{i:Int}{x:List Int}(h:SmM m)(b:x.length<=1048576):SmM (up m i x):=by refine⟨by simpa using h.1,λy a=>?_⟩;rcases qX a with a|rfl;{exact h.2 y a};{exact b}
theorem zEn {m:List Guest}{i:Int}{x:Guest}(h:zlh m)(b:SmG x):zlh (up m i x):=by refine⟨by simpa using h.1,λy a=>?_⟩;rcases qX a with a|rfl;{exact h.2 y a};{exact b}
theorem z9A {m:List Bare}{i:Int}{x:Bare}(h:zYS m)(b:SmB x):zYS (up m i x):=by refine⟨by simpa using h.1,λy a=>?_⟩;rcases qX a with a|rfl;{exact h.2 y a};{exact b}
theorem zVy {l:List Guest}{i:Int}(h:zlh l)(a:hasB i (ln l)=true)(d:Guest):SmG (ix l i d):=h.2 _ (zbK a d)
theorem zbaK {l:List (List Int)}{i:Int}(h:SmM l)(a:hasB i (ln l)=true)(d:List Int):(ix l i d).length<=1048576:=h.2 _ (zbK a d)
@[simp] theorem zbbi:SmG zu:=⟨by decide,by decide,by decide,by decide⟩
@[simp] theorem zSx (x a b:Int):zk x a b=zk x a b:=rfl
@[simp] theorem zTJ (i n:Int):inb i n=hasB i n:=rfl
attribute [simp] zdo
@[simp] theorem zq2 {a:Type}{l:List a}(h:l.length<=1048576)(i:Int):zk i 0 (wsub .i64 (ln l) 1)=hasB i (ln l):=zQd (zdj h).1 i
theorem zIN {a:Type}{l:List a}(h:l.length<=big)(i:Int):zk i 0 (wsub .i64 (ln l) 1)=hasB i (ln l):=zQd h i
theorem zfA {x a b:Int}:(zk x a b=true)↔a<=x/\x<=b:=by unfold zk ige ile;simp only[qE,decide_eq_true_iff]
theorem z8Z (a b:Int):ilt a b = !ige a b:=by unfold ilt ige;by_cases h:a<b;{rw [qI h,qK (by omega)];rfl};{rw [qK h,qI (by omega)];rfl}
attribute [simp] zbf zbf zgN zgN zg4 zg4 zcY zcY zfy zfy zn8 zn8 zbP zbP
attribute [simp] zfc zdi zgS zd2
attribute [simp] zgP zdT zgr zd4
def zbk (a:Int):Int:=bif ilt a 0 then -1 else zWi .i64 a 4
def zdx (a:Int):Int:=bif ilt a 0 then -1 else zmY a 4
@[simp] abbrev zbX (a:Int):Bool:=true
@[simp] abbrev zb0 (a:Int):Int:=zbk a
def zms:Run:=rF1 dI λb=>(zbX b,[aI<|zb0 b])
def zBV (N:Nat)(a:Int):OA:=
 (cond (ilt a 0) (some [aI<|-1])<|oN (ine 4 0)<|some [aI<|zWi .i64 a 4])
theorem zxX (a:Int)(b:zbL big [aI a])(c:zbX a=true):∃N,zBV N a=some [aI<|zb0 a]:=by refine⟨0,?_⟩;unfold zBV oN;refine br (λ_=>?_) (λ_=>must rfl ?_);all_goals first|rfl|(simp only [*,zb0,zbk,cT,cF]<;>rfl)|simp_all[Ty.cells,zb0,zbk]
theorem zHC:vM 219 zms:=hF1 zdu zA zy zq (zx []) zxX
theorem zHk:vM 151 zms:=hF1 zdu zA zy zq (zx []) zxX
@[simp] abbrev zdf (a:Int):Int:=zdx a
def zmr:Run:=rF1 dI λb=>(zbX b,[aI<|zdf b])
def zBU (N:Nat)(a:Int):OA:=
 (cond (ilt a 0) (some [aI<|-1])<|oN (ine 4 0)<|some [aI<|zmY a 4])
theorem zxW (a:Int)(b:zbL big [aI a])(c:zbX a=true):∃N,zBU N a=some [aI<|zdf a]:=by refine⟨0,?_⟩;unfold zBU oN;refine br (λ_=>?_) (λ_=>must rfl ?_);all_goals first|rfl|(simp only [*,zdf,zdx,cT,cF]<;>rfl)|simp_all[Ty.cells,zdf,zdx]
theorem zHB:vM 220 zmr:=hF1 zdu zA zy zq (zx []) zxW
theorem zHj:vM 156 zmr:=hF1 zdu zA zy zq (zx []) zxW
def zca (w:Bool):Int:=bif w then 2 else 1
@[simp] abbrev zkn (w:Bool):Bool:=true
@[simp] abbrev zc8 (w:Bool):Int:=zca w
def zpi:Run:=rF1 dB λb=>(zkn b,[aI<|zc8 b])
def zJh (N:Nat)(a:Bool):OA:=
 (cond a (some [aI 2])<|some [aI 1])
theorem zC3 (a:Bool)(b:zbL big [aB a])(c:zkn a=true):∃N,zJh N a=some [aI<|zc8 a]:=by refine⟨0,?_⟩;unfold zJh;refine br (λ_=>?_) (λ_=>?_);all_goals first|rfl|(simp only [*,zc8,zca,cT,cF]<;>rfl)|simp_all[Ty.cells,zc8,zca]
theorem zNB:vM 234 zpi:=hF1 zdu zA zy zq (zx []) zC3
theorem zNa:vM 152 zpi:=hF1 zdu zA zy zq (zx []) zC3
def zr0 (p:Int)(w:Bool):GExit:=⟨1,p,w,0⟩
def zt8 (n:Int):GExit:=⟨2,0,false,n⟩
def zx7 (n:Int):GExit:=⟨3,0,false,n⟩
@[simp] abbrev zgo (p:Int)(w:Bool):Bool:=true
@[simp] abbrev zeq (p:Int)(w:Bool):GExit:=zr0 p w
def ziM:Run:=rF2 dI dB λb c=>(zgo b c,[.agg<|zgt<|zeq b c])
def zAp (N:Nat)(a:Int)(c:Bool):OA:=
 (some [.agg [.i .i64 1,.i .i64 a,.b c,.i .i64 0]])
theorem zvS (a:Int)(b:Bool)(c:zbL big [aI a,aB b])(d:zgo a b=true):∃N,zAp N a b=some [.agg<|zgt<|zeq a b]:=by refine⟨0,?_⟩;unfold zAp;first|rfl|(simp only [*,zeq,cT,cF]<;>rfl)|simp_all[Ty.cells,zeq]
theorem zs7:vM 236 ziM:=hF2 zdu zA zy zq (zx []) zvS
theorem zEr:vM 154 ziM:=hF2 zdu zA zy zq (zx []) zvS
@[simp] abbrev zeL (n:Int):Bool:=true
@[simp] abbrev zeB (n:Int):GExit:=zt8 n
def zjH:Run:=rF1 dI λb=>(zeL b,[.agg<|zgt<|zeB b])
def zBY (N:Nat)(a:Int):OA:=
 (some [.agg [.i .i64 2,.i .i64 0,.b false,.i .i64 a]])
theorem zxY (a:Int)(b:zbL big [aI a])(c:zeL a=true):∃N,zBY N a=some [.agg<|zgt<|zeB a]:=by refine⟨0,?_⟩;unfold zBY;first|rfl|(simp only [*,zeB,cT,cF]<;>rfl)|simp_all[Ty.cells,zeB]
theorem zus:vM 351 zjH:=hF1 zdu zA zy zq (zx []) zxY
theorem zHm:vM 300 zjH:=hF1 zdu zA zy zq (zx []) zxY
@[simp] abbrev zfI (n:Int):GExit:=zx7 n
def zkE:Run:=rF1 dI λb=>(zeL b,[.agg<|zgt<|zfI b])
def zFK (N:Nat)(a:Int):OA:=
 (some [.agg [.i .i64 3,.i .i64 0,.b false,.i .i64 a]])
theorem zAD (a:Int)(b:zbL big [aI a])(c:zeL a=true):∃N,zFK N a=some [.agg<|zgt<|zfI a]:=by refine⟨0,?_⟩;unfold zFK;first|rfl|(simp only [*,zfI,cT,cF]<;>rfl)|simp_all[Ty.cells,zfI]
theorem zvQ:vM 353 zkE:=hF1 zdu zA zy zq (zx []) zAD
theorem zKc:vM 380 zkE:=hF1 zdu zA zy zq (zx []) zAD
def zdW (t x:Int):Bool:=bif zk t 0 3 then (cond (zk x 1 2) (ine (wand .i64 t x) 0) false) else false
theorem z8c (x:Int):zk x 1 2=(ieq x 1||ieq x 2):=by have h:(zk x 1 2=true)↔(ieq x 1||ieq x 2)=true:=(by rw[zfA];simp only[ieq,kD,qL];omega);cases a:zk x 1 2<;>cases b:(ieq x 1||ieq x 2)<;>simp_all
@[simp] abbrev zfR (t x:Int):Bool:=true
@[simp] abbrev zfb (t x:Int):Bool:=zdW t x
def znG:Run:=rF2 dI dI λb c=>(zfR b c,[aB<|zfb b c])
def zFC (N:Nat)(a b:Int):OA:=
 (oN (zO a 0 3)<|cond (zk a 0 3) (oN (zO b 1 2)<|cond (zk b 1 2) (some [aB<|ine (wand .i64 a b) 0]) oF) oF)
theorem zRu (a b:Int)(c:zfR a b=true):∃N,zFC N a b=some [aB<|zfb a b]:=by refine⟨0,?_⟩;unfold zFC oN;refine must rfl (br (λ_=>must rfl (br (λ_=>?_) λ_=>?_)) λ_=>?_);all_goals first|rfl|(simp only [*,zfb,zdW,cT,cF]<;>rfl)|simp_all[Ty.cells,zfb,zdW]
theorem zKo:vM 352 znG:=kF2 zdu zA zy zq (zx []) zRu
def zFn (N:Nat)(a b:Int):OA:=
 let c:=aB<|ine (wand .i64 a b) 0; (oN (zO a 0 3)<|cond (zk a 0 3) (cond (ieq b 1) (some [c])<|cond (ieq b 2) (some [c]) oF) oF)
theorem zRh (a b:Int)(c:zfR a b=true):∃N,zFn N a b=some [aB<|zfb a b]:=by
 refine⟨0,?_⟩;unfold zFn oN;conv=>zeta
 refine must rfl (br (λ_=>br (λ_=>?_) λ_=>br (λ_=>?_) λ_=>?_) λ_=>?_);all_goals first|rfl|(simp only [*,zfb,zdW,z8c,cT,cF]<;>rfl)|simp_all[Ty.cells,zfb,zdW,z8c]
theorem zKb:vM 301 znG:=kF2 zdu zA zy zq (zx []) zRh
def zdM (p:Int):Bool:=zk p 0 255
@[simp] abbrev zcd (p:Int):Bool:=true
@[simp] abbrev zew (p:Int):Bool:=zdM p
def zpl:Run:=rF1 dI λb=>(zcd b,[aB<|zew b])
def zJl (N:Nat)(a:Int):OA:=
 (oN (zO a 0 255)<|some [aB<|zk a 0 255])
theorem zC5 (a:Int)(b:zbL big [aI a])(c:zcd a=true):∃N,zJl N a=some [aB<|zew a]:=by refine⟨0,?_⟩;unfold zJl oN;refine must rfl ?_;first|rfl|(simp only [*,zew,zdM,cT,cF]<;>rfl)|simp_all[Ty.cells,zew,zdM]
theorem zNF:vM 260 zpl:=hF1 zdu zA zy zq (zx []) zC5
theorem zNf:vM 365 zpl:=hF1 zdu zA zy zq (zx []) zC5
def zci (l:List Ins)(p:Int):Ins:=bif hasB p (ln l) then ix l p zrT else ⟨7,0⟩
@[simp] abbrev zdN (l:List Ins)(p:Int):Bool:=true
@[simp] abbrev zdF (l:List Ins)(p:Int):Ins:=zci l p
def zro:Run:=rF2 (dS .ins) dI λb c=>(zdN b c,[aT .ins<|zdF b c])
def zPw (N:Nat)(a:lI)(b:Int):OA:=
 (oN (zO b 0<|wsub .i64 (ln a) 1)<|cond (nB<|zk b 0<|wsub .i64 (ln a) 1) (some [.agg [.i .i64 7,.i .i64 0]])<|oN (inb b<|ln a)<|some [.agg [.i .i64 (ix a b zrT).Op,.i .i64 (ix a b zrT).X]])
theorem zWX (a:List Ins)(b:Int)(c:zbL big [aS .ins a,aI b])(e:zdN a b=true):∃N,zPw N a b=some [aT .ins<|zdF a b]:=by have d:=((zdq c).1 _ (qF.2 rfl)).len;have f:=zIN d;refine⟨0,?_⟩;unfold zPw oN nB;refine must rfl (brN (λ_=>?_) λ_=>mu ?_);all_goals first|rfl|(simp only [*,zdF,zci,cT,cF]<;>rfl)|simp_all[Ty.cells,zdF,zci]
theorem zQ1:vM 241 zro:=hF2 zdu zA zy zq (zx []) zWX
def zPm (N:Nat)(a:lI)(b:Int):OA:=
 (oN (zbA b<|ln a)<|cond (nB<|zdo b<|ln a) (some [.agg [.i .i64 7,.i .i64 0]])<|oN (inb b<|ln a)<|some [.agg [.i .i64 (ix a b zrT).Op,.i .i64 (ix a b zrT).X]])
theorem zWN (a:List Ins)(b:Int)(c:zdN a b=true):∃N,zPm N a b=some [aT .ins<|zdF a b]:=by refine⟨0,?_⟩;unfold zPm oN nB;refine must rfl (brN (λ_=>?_) λ_=>mu ?_);all_goals first|rfl|(simp only [*,zdF,zci,cT,cF]<;>rfl)|simp_all[Ty.cells,zdF,zci]
theorem zQP:vM 285 zro:=kF2 zdu zA zy zq (zx []) zWN
def zfJ (w:Int):Int:=bif ieq w 5 then 1 else 2
@[simp] abbrev zoQ (w:Int):Bool:=true
@[simp] abbrev zie (w:Int):Int:=zfJ w
def zDt:Run:=rF1 dI λb=>(zoQ b,[aI<|zie b])
def zI6 (N:Nat)(a:Int):OA:=
 (cond (ieq a 5) (some [aI 1])<|some [aI 2])
theorem zT8 (a:Int)(b:zoQ a=true):∃N,zI6 N a=some [aI<|zie a]:=by refine⟨0,?_⟩;unfold zI6;refine br (λ_=>?_) (λ_=>?_);all_goals first|rfl|(simp only [*,zie,zfJ,cT,cF]<;>rfl)|simp_all[Ty.cells,zie,zfJ]
theorem zNq:vM 291 zDt:=kF1 zdu zA zy zq (zx []) zT8
def zed (s:Slot)(n:Int):Bool:=bif zdb s noSlot then true else (cond (igt n 0) (cond (zk s.Page 0<|wsub .i64 n 1) (zk s.Rights 1 3) false) false)
@[simp] abbrev zmC (s:Slot)(n:Int):Bool:=true
@[simp] abbrev zi0 (s:Slot)(n:Int):Bool:=zed s n
def zpo:Run:=rF2 (dT .slot) dI λb c=>(zmC b c,[aB<|zi0 b c])
def zJo (N:Nat)(a:Slot)(b:Int):OA:=
 (oN zbP<|cond (cond (ieq a.Page zbf.Page) (ieq a.Rights zbf.Rights) false) oT<|oN (zO a.Page 0<|wsub .i64 b 1)<|cond (zk a.Page 0<|wsub .i64 b 1) (cond (igt b 0) (oN (zO a.Rights 1 3)<|some [aB<|zk a.Rights 1 3]) oF) oF)
theorem zUm (a:Slot)(b:Int)(c:zmC a b=true):∃N,zJo N a b=some [aB<|zi0 a b]:=by refine⟨0,?_⟩;unfold zJo oN;refine must rfl (br (λ_=>?_) λ_=>must rfl (br (λ_=>br (λ_=>must rfl ?_) λ_=>?_) λ_=>?_));all_goals first|rfl|(simp only [*,zi0,zed,zdb,cT,cF]<;>rfl)|simp_all[Ty.cells,zi0,zed,zdb]
theorem zNI:vM 243 zpo:=kF2 zdu zA zy zq (zx []) zUm
def zI2 (N:Nat)(a:Slot)(b:Int):OA:=
 (oN zbP<|cond (cond (ieq a.Page zbf.Page) (ieq a.Rights zbf.Rights) false) oT<|cond (igt b 0) (oN (zO a.Page 0<|wsub .i64 b 1)<|cond (zk a.Page 0<|wsub .i64 b 1) (oN (zO a.Rights 1 3)<|some [aB<|zk a.Rights 1 3]) oF) oF)
theorem zT4 (a:Slot)(b:Int)(c:zmC a b=true):∃N,zI2 N a b=some [aB<|zi0 a b]:=by refine⟨0,?_⟩;unfold zI2 oN;refine must rfl (br (λ_=>?_) λ_=>br (λ_=>must rfl (br (λ_=>must rfl ?_) λ_=>?_)) λ_=>?_);all_goals first|rfl|(simp only [*,zi0,zed,zdb,cT,cF]<;>rfl)|simp_all[Ty.cells,zi0,zed,zdb]
theorem zNk:vM 305 zpo:=kF2 zdu zA zy zq (zx []) zT4
@[simp] abbrev zhm (l:List Slot):Bool:=pc (l.length<=2147483648)
@[simp] abbrev zfN (l:List Slot):List Slot:=l
def zv7:Run:=rF1 (dS .slot) λb=>(zhm b,[aS .slot<|zfN b])
def zAh (N:Nat)(a:lS):OA:=
 (oN (few<|ln<|ap [] a)<|some [aS .slot<|ap [] a])
theorem zLe (a:List Slot)(b:zhm a=true):∃N,zAh N a=some [aS .slot<|zfN a]:=by have c:=zQ.1 b;refine⟨0,?_⟩;unfold zAh oN;refine mu ?_;first|rfl|(simp only [*,zfN,cT,cF]<;>rfl)|simp_all[Ty.cells,zfN]
theorem zEz:vM 327 zv7:=kF1 zdu zA zy zq (zx []) zLe
@[simp] abbrev zuw (l:List Ins):Bool:=pc (l.length<=2147483648)
@[simp] abbrev zoP (l:List Ins):List Ins:=l
def zyl:Run:=rF1 (dS .ins) λb=>(zuw b,[aS .ins<|zoP b])
def zBN (N:Nat)(a:lI):OA:=
 (oN (few<|ln<|ap [] a)<|some [aS .ins<|ap [] a])
theorem zOg (a:List Ins)(b:zuw a=true):∃N,zBN N a=some [aS .ins<|zoP a]:=by have c:=zQ.1 b;refine⟨0,?_⟩;unfold zBN oN;refine mu ?_;first|rfl|(simp only [*,zoP,cT,cF]<;>rfl)|simp_all[Ty.cells,zoP]
theorem zHv:vM 379 zyl:=kF1 zdu zA zy zq (zx []) zOg
def zgv (m:List (List Int))(p c:Int):Bool:=bif hasB p (ln m) then hasB c (ln<|ix m p []) else false
def cellAt (m:List (List Int))(p c:Int):Int:=bif zgv m p c then ix (ix m p []) c 0 else 0
def zbQ (m:List (List Int))(p c v:Int):List (List Int):=bif zgv m p c then (cond (zk v 0 99) (up m p<|up (ix m p []) c v) m) else m
theorem zzJ (m:List (List Int))(p c:Int):(zgv m p c=true)↔hasB p (ln m)=true/\hasB c (ln<|ix m p [])=true:=by unfold zgv;cases hasB p (ln m)<;>simp
theorem zbae {n:Nat}{m:List (List Int)}(h:CVB n (.s (.sl .int) m)):m.length<=n/\∀p:Int,hasB p (ln m)=true->(ix m p []).length<=n :=
 ⟨h.len,λp a=>(h.inv.2 _ (zbK a []) _ (qF.2 rfl)).len⟩
@[simp] abbrev zfv (m:List (List Int))(p c:Int):Bool:=true
@[simp] abbrev zqT (m:List (List Int))(p c:Int):Bool:=zgv m p c
def zDw:Run:=rF3 (dS<|.sl .int) dI dI λb c d=>(zfv b c d,[aB<|zqT b c d])
def zJt (N:Nat)(a:lM)(b c:Int):OA:=
 let d:=wsub .i64 (ln<|ix a b []) 1; (oN (zO b 0<|wsub .i64 (ln a) 1)<|cond (zk b 0<|wsub .i64 (ln a) 1) (oN (inb b<|ln a)<|oN (zO c 0 d)<|some [aB<|zk c 0 d]) oF)
theorem zUp (a:List (List Int))(b c:Int)(e:zbL big [aS (.sl .int) a,aI b,aI c])(g:zfv a b c=true):∃N,zJt N a b c=some [aB<|zqT a b c]:=by
 have d:=zbae ((zdq e).1 _ (qF.2 rfl));have j:=zIN d.1;have f:∀p i:Int,hasB p (ln a)=true->zk i 0 (wsub .i64 (ln<|ix a p []) 1)=hasB i (ln<|ix a p []):=λp i h=>zIN (d.2 p h) i;refine⟨0,?_⟩;unfold zJt oN;conv=>zeta
 refine must rfl (br (λ_=>mu (must rfl ?_)) λ_=>?_);all_goals first|rfl|(simp only [*,zqT,zgv,cT,cF]<;>rfl)|simp_all[Ty.cells,zqT,zgv]
theorem zNO:vM 344 zDw:=hF3 zdu zA zy zq (zx []) zUp
@[simp] abbrev zgB (m:List (List Int))(p c:Int):Int:=cellAt m p c
def zlE:Run:=rF3 (dS<|.sl .int) dI dI λb c d=>(zfv b c d,[aI<|zgB b c d])
def zIP (N:Nat)(a:lM)(b c:Int):OA:=
 let d:=ix a b []; (oN (zbA b<|ln a)<|cond (nB<|zdo b<|ln a) (some [aI 0])<|oN (inb b<|ln a)<|oN (zbA c<|ln d)<|cond (nB<|zdo c<|ln d) (some [aI 0])<|oN (inb b<|ln a)<|oN (inb c<|ln d)<|some [aI<|ix d c 0])
theorem zTR (a:List (List Int))(b c:Int)(d:zfv a b c=true):∃N,zIP N a b c=some [aI<|zgB a b c]:=by
 refine⟨0,?_⟩;unfold zIP oN nB;conv=>zeta
 refine must rfl (brN (λ_=>?_) λ_=>mu (must rfl (brN (λ_=>?_) λ_=>mu (mu ?_))));all_goals first|rfl|(simp only [*,zgB,cellAt,zgv,cT,cF]<;>rfl)|simp_all[Ty.cells,zgB,cellAt,zgv]
theorem zM2:vM 159 zlE:=kF3 zdu zA zy zq (zx []) zTR
def zY9:zbb:=[(338,zpc),(283,zpc),(219,zms),(151,zms),(220,zmr),(156,zmr),(234,zpi),(152,zpi),(236,ziM),(154,ziM),(351,zjH),(300,zjH),(353,zkE),(380,zkE),(352,znG),(301,znG),(260,zpl),(365,zpl),(241,zro),(285,zro),(291,zDt),(243,zpo),(305,zpo),(327,zv7),(379,zyl),(344,zDw),(159,zlE)]++z99
theorem zgy:zS zY9:=zi zNt (zi zM1<|zi zHC<|zi zHk<|zi zHB<|zi zHj<|zi zNB<|zi zNa<|zi zs7<|zi zEr<|zi zus<|zi zHm<|zi zvQ<|zi zKc<|zi zKo<|zi zKb<|zi zNF<|zi zNf<|zi zQ1<|zi zQP<|zi zNq<|zi zNI<|zi zNk<|zi zEz<|zi zHv<|zi zNO<|zi zM2 zdu)
def zI9 (N:Nat)(a:lM)(b c:Int):OA:=
 (oN (zfv a b c)<|cond (nB<|zqT a b c) (some [aI 0])<|oN (inb b<|ln a)<|oN (inb c<|ln<|ix a b [])<|some [aI<|ix (ix a b []) c 0])
theorem zUa (a:List (List Int))(b c:Int)(d:zfv a b c=true):∃N,zI9 N a b c=some [aI<|zgB a b c]:=by have e:=(zzJ a b c).1;refine⟨0,?_⟩;unfold zI9 oN nB;refine must rfl (brN (λ_=>?_) λ_=>mu (mu ?_));all_goals first|rfl|(simp only [*,zgB,cellAt,cT,cF]<;>rfl)|simp_all[Ty.cells,zgB,cellAt]
theorem zxM:vM 221 zlE:=kF3 zgy zA zy zq (zx []) zUa
def zdd (t:List Slot)(n p:Int):Bool:=bif t.all (λs=>zed s p) then ieq (ln t) n else false
@[simp] abbrev zi1 (t:List Slot)(n p:Int):Bool:=true
@[simp] abbrev zeM (t:List Slot)(n p:Int):Bool:=zdd t n p
def znJ:Run:=rF3 (dS .slot) dI dI λb c d=>(zi1 b c d,[aB<|zeM b c d])
def zFQ (N:Nat)(d:lS)(e f:Int):OA:=
 (iter (σ:=(Int×Int×Int×lS×Unit)) N (λg a=>let b:=a.2.2.2.1;let c:=ix b a.2.2.1 zW; (cond (ilt a.2.2.1<|ln b) (oN (inb a.2.2.1<|ln b)<|oN (zmC c a.2.1)<|cond (nB<|zi0 c a.2.1) oF<|g (a.1,a.2.1,zM .i64 a.2.2.1 1,b,()))<|some [aB<|ieq (ln b) a.1])) (e,f,0,d,()))
def zR9:=zx [(256,0,{n:=25,tm:=[(0,.sl 0 []),(1,ti),(2,ti),(7,ti)],lo:=[],ro:=[(0,.slot,false)]})]
theorem zRH (a:List Slot)(d c:Int)(j:zbL big [aS .slot a,aI d,aI c])(l:zi1 a d c=true):∃N,zFQ N a d c=some [aB<|zeM a d c]:=by
 have h:(_:List _).length<=big:=((zdq j).1 _ (qF.2 rfl)).len;refine zcA λN g=>?_;unfold zFQ oN nB;conv=>zeta
 refine(zbm a (λi (t:Unit)=>(d,c,(i:Int),a,())) _ (λ_ x (_:Unit) k=>bif (λs=>zed s c) x then k () else oF) (λ(t:Unit)=>some [.one<|.b<|ieq (ln a) d]) (λi e t rec=>?_) (λt rec=>?_) _ ()<|g h).trans ?_;{simp only [zbG e,zbi e,zbp e,zbh e h,cT];exact ziU rfl};{simp only [zbt,cF]};rw[zhc λs=>zed s c];refine br (λf=>?_) (λf=>?_);{first|rfl|(simp only [f,zeM,zdd,cT,cF]<;>rfl)|(simp_all [Ty.cells,zeM,zdd];done)};{first|rfl|(simp only [f,zeM,zdd,cT,cF]<;>rfl)|(simp_all [Ty.cells,zeM,zdd];done)}
theorem zKC:vM 256 znJ:=hF3 zgy zA zy zq zR9 zRH
def zFq (N:Nat)(c:lS)(e f:Int):OA:=
 (iter (σ:=(Int×Int×Int×Int×lS×Unit)) N (λg a=>let b:=a.2.2.2.2.1;let d:=ix b a.2.2.2.1 zW; (cond (ilt a.2.2.2.1 a.2.2.1) (oN (inb a.2.2.2.1<|ln b)<|oN (zmC d a.2.1)<|cond (nB<|zi0 d a.2.1) oF<|g (a.1,a.2.1,a.2.2.1,zM .i64 a.2.2.2.1 1,b,()))<|some [aB<|ieq (ln b) a.1])) (e,f,ln c,0,c,()))
def zR5:=zx [(364,0,{n:=24,tm:=[(0,.sl 0 []),(1,ti),(2,ti),(9,.sl 0 []),(10,ti),(11,ti)],lo:=[],ro:=[(0,.slot,false)]})]
theorem zRk (a:List Slot)(d c:Int)(j:zbL big [aS .slot a,aI d,aI c])(l:zi1 a d c=true):∃N,zFq N a d c=some [aB<|zeM a d c]:=by
 have h:(_:List _).length<=big:=((zdq j).1 _ (qF.2 rfl)).len;refine zcA λN g=>?_;unfold zFq oN nB;conv=>zeta
 refine(zbm a (λi (t:Unit)=>(d,c,ln a,(i:Int),a,())) _ (λ_ x (_:Unit) k=>bif (λs=>zed s c) x then k () else oF) (λ(t:Unit)=>some [.one<|.b<|ieq (ln a) d]) (λi e t rec=>?_) (λt rec=>?_) _ ()<|g h).trans ?_;{simp only [zbG e,zbi e,zbp e,zbh e h,cT];exact ziU rfl};{simp only [zbt,cF]};rw[zhc λs=>zed s c];refine br (λf=>?_) (λf=>?_);{first|rfl|(simp only [f,zeM,zdd,cT,cF]<;>rfl)|(simp_all [Ty.cells,zeM,zdd];done)};{first|rfl|(simp only [f,zeM,zdd,cT,cF]<;>rfl)|(simp_all [Ty.cells,zeM,zdd];done)}
theorem zKg:vM 364 znJ:=hF3 zgy zA zy zq zR5 zRk
def zcE (c:List Int):Bool:=bif c.all (λx=>zk x 0 99) then ieq (ln c) 4 else false
@[simp] abbrev zdO (c:List Int):Bool:=true
@[simp] abbrev zc9 (c:List Int):Bool:=zcE c
def zpk:Run:=rF1 (dS .int) λb=>(zdO b,[aB<|zc9 b])
def zJk (N:Nat)(b:List Int):OA:=
 (iter (σ:=(Int×(List Int)×Unit)) N (λc a=>cond (ilt a.1<|ln a.2.1) (oN (inb a.1<|ln a.2.1)<|oN (zO (ix a.2.1 a.1 0) 0 99)<|cond (nB<|zk (ix a.2.1 a.1 0) 0 99) oF<|c (zM .i64 a.1 1,a.2.1,()))<|some [aB<|ieq (ln a.2.1) 4]) (0,b,()))
def zV3:=zx [(255,0,{n:=19,tm:=[(0,.sl 0 []),(3,ti)],lo:=[],ro:=[(0,.int,false)]})]
theorem zUj (a:List Int)(g:zbL big [aS .int a])(j:zdO a=true):∃N,zJk N a=some [aB<|zc9 a]:=by have f:(_:List _).length<=big:=((zdq g).1 _ (qF.2 rfl)).len;refine zcA λN e=>?_;unfold zJk oN nB;refine(zbm a (λi (t:Unit)=>((i:Int),a,())) _ (λ_ x (_:Unit) h=>bif (λx=>zk x 0 99) x then h () else oF) (λ(t:Unit)=>some [.one<|.b<|ieq (ln a) 4]) (λi c t rec=>?_) (λt rec=>?_) _ ()<|e f).trans ?_;{simp only [zbG c,zbi c,zbp c,zbh c f,cT];exact ziU rfl};{simp only [zbt,cF]};rw[zhc λx=>zk x 0 99];refine br (λd=>?_) (λd=>?_);{first|rfl|(simp only [d,zc9,zcE,cT,cF]<;>rfl)|(simp_all [Ty.cells,zc9,zcE];done)};{first|rfl|(simp only [d,zc9,zcE,cT,cF]<;>rfl)|(simp_all [Ty.cells,zc9,zcE];done)}
theorem zNE:vM 255 zpk:=hF1 zgy zA zy zq zV3 zUj
def zIX (N:Nat)(b:List Int):OA:=
 (iter (σ:=(Int×Int×(List Int)×Unit)) N (λc a=>cond (ilt a.2.1 a.1) (oN (inb a.2.1<|ln a.2.2.1)<|oN (zO (ix a.2.2.1 a.2.1 0) 0 99)<|cond (nB<|zk (ix a.2.2.1 a.2.1 0) 0 99) oF<|c (a.1,zM .i64 a.2.1 1,a.2.2.1,()))<|some [aB<|ieq (ln a.2.2.1) 4]) (ln b,0,b,()))
def zVS:=zx [(363,0,{n:=18,tm:=[(0,.sl 0 []),(5,.sl 0 []),(6,ti),(7,ti)],lo:=[],ro:=[(0,.int,false)]})]
theorem zTZ (a:List Int)(g:zbL big [aS .int a])(j:zdO a=true):∃N,zIX N a=some [aB<|zc9 a]:=by have f:(_:List _).length<=big:=((zdq g).1 _ (qF.2 rfl)).len;refine zcA λN e=>?_;unfold zIX oN nB;refine(zbm a (λi (t:Unit)=>(ln a,(i:Int),a,())) _ (λ_ x (_:Unit) h=>bif (λx=>zk x 0 99) x then h () else oF) (λ(t:Unit)=>some [.one<|.b<|ieq (ln a) 4]) (λi c t rec=>?_) (λt rec=>?_) _ ()<|e f).trans ?_;{simp only [zbG c,zbi c,zbp c,zbh c f,cT];exact ziU rfl};{simp only [zbt,cF]};rw[zhc λx=>zk x 0 99];refine br (λd=>?_) (λd=>?_);{first|rfl|(simp only [d,zc9,zcE,cT,cF]<;>rfl)|(simp_all [Ty.cells,zc9,zcE];done)};{first|rfl|(simp only [d,zc9,zcE,cT,cF]<;>rfl)|(simp_all [Ty.cells,zc9,zcE];done)}
theorem zNe:vM 363 zpk:=hF1 zgy zA zy zq zVS zTZ
def zeD (i:Ins):Bool:=bif (ieq i.Op 1||ieq i.Op 2||ieq i.Op 5||ieq i.Op 6) then zk i.X 0 99 else (cond (ieq i.Op 3||ieq i.Op 4) (zk i.X 0 15)<|cond (ieq i.Op 7) (ieq i.X 0)<|cond (ieq i.Op 8) (zk i.X 0 11) false)
@[simp] abbrev zwq (i:Ins):Bool:=true
@[simp] abbrev ztR (i:Ins):Bool:=zeD i
def zrp:Run:=rF1 (dT .ins) λb=>(zwq b,[aB<|ztR b])
def zPx (N:Nat)(a:Ins):OA:=
 let b:=ieq a.Op 4;let l:=zO a.X 0 99;let k:=aB<|zk a.X 0 99;let j:=ieq a.Op 8;let i:=ieq a.Op 7;let h:=ieq a.Op 3;let g:=zO a.X 0 11;let f:=zO a.X 0 15;let e:=aB<|ieq a.X 0;let d:=aB<|zk a.X 0 11;let c:=aB<|zk a.X 0 15; (cond (ieq a.Op 1) (cond (ieq a.Op 1) (oN l<|some [k])<|cond h (cond h (oN f<|some [c])<|cond i (some [e])<|cond j (oN g<|some [d]) oF)<|cond b (oN f<|some [c])<|cond i (some [e])<|cond j (oN g<|some [d]) oF)<|cond (ieq a.Op 2) (cond (ieq a.Op 2) (oN l<|some [k])<|cond h (cond h (oN f<|some [c])<|cond i (some [e])<|cond j (oN g<|some [d]) oF)<|cond b (oN f<|some [c])<|cond i (some [e])<|cond j (oN g<|some [d]) oF)<|cond (ieq a.Op 5) (cond (ieq a.Op 5) (oN l<|some [k])<|cond h (cond h (oN f<|some [c])<|cond i (some [e])<|cond j (oN g<|some [d]) oF)<|cond b (oN f<|some [c])<|cond i (some [e])<|cond j (oN g<|some [d]) oF)<|cond (ieq a.Op 6) (oN l<|some [k])<|cond h (cond h (oN f<|some [c])<|cond i (some [e])<|cond j (oN g<|some [d]) oF)<|cond b (oN f<|some [c])<|cond i (some [e])<|cond j (oN g<|some [d]) oF)
theorem zGg (a:Ins)(b:zbL big [aT .ins a])(c:zwq a=true):∃N,zPx N a=some [aB<|ztR a]:=by
 refine⟨0,?_⟩;unfold zPx oN;conv=>zeta
 refine br (λ_=>br (λ_=>must rfl ?_) λ_=>br (λ_=>br (λ_=>must rfl ?_) λ_=>br (λ_=>?_) λ_=>br (λ_=>must rfl ?_) λ_=>?_) λ_=>br (λ_=>must rfl ?_) λ_=>br (λ_=>?_) λ_=>br (λ_=>must rfl ?_) λ_=>?_) (λ_=>br (λ_=>br (λ_=>must rfl ?_) λ_=>br (λ_=>br (λ_=>must rfl ?_) λ_=>br (λ_=>?_) λ_=>br (λ_=>must rfl ?_) λ_=>?_) λ_=>br (λ_=>must rfl ?_) λ_=>br (λ_=>?_) λ_=>br (λ_=>must rfl ?_) λ_=>?_) λ_=>br (λ_=>br (λ_=>must rfl ?_) λ_=>br (λ_=>br (λ_=>must rfl ?_) λ_=>br (λ_=>?_) λ_=>br (λ_=>must rfl ?_) λ_=>?_) λ_=>br (λ_=>must rfl ?_) λ_=>br (λ_=>?_) λ_=>br (λ_=>must rfl ?_) λ_=>?_) λ_=>br (λ_=>must rfl ?_) λ_=>br (λ_=>br (λ_=>must rfl ?_) λ_=>br (λ_=>?_) λ_=>br (λ_=>must rfl ?_) λ_=>?_) λ_=>br (λ_=>must rfl ?_) λ_=>br (λ_=>?_) λ_=>br (λ_=>must rfl ?_) λ_=>?_);all_goals first|rfl|(simp only [*,ztR,zeD,cT,cF]<;>rfl)|simp_all[Ty.cells,ztR,zeD]
theorem zQ2:vM 397 zrp:=hF1 zgy zA zy zq (zx []) zGg
theorem zQQ:vM 415 zrp:=hF1 zgy zA zy zq (zx []) zGg
def ziH (e:GExit):Bool:=bif (ieq e.Kind 0||ieq e.Kind 4) then (ieq e.Page 0&&(!e.Write&&ieq e.N 0)) else (cond (ieq e.Kind 1) (zk e.Page 0 3&&ieq e.N 0)<|cond (ieq e.Kind 2||ieq e.Kind 3) (zk e.N 0 99&&(ieq e.Page 0 && !e.Write)) false)
@[simp] theorem zbbP (x:Bool):znW x false = !x:=by cases x<;>rfl
attribute [simp] zeJ
@[simp] abbrev ztv (e:GExit):Bool:=true
@[simp] abbrev zlH (e:GExit):Bool:=ziH e
def zpe:Run:=rF1 dE λb=>(ztv b,[aB<|zlH b])
def zJb (N:Nat)(a:GExit):OA:=
 let f:=zk a.N 0 99;let e:=zO a.N 0 99;let d:=ieq a.Kind 2;let b:=ieq a.Page 0;let c:=aB<|nB a.Write;let g:=aB<|cond (ieq a.Kind a.Kind) (cond b (cond (znW a.Write false) (ieq a.N 0) false) false) false; (cond (ieq a.Kind 0) (cond (ieq a.Kind 0) (some [g])<|cond (ieq a.Kind 1) (oN (zO a.Page 0 3)<|cond (zk a.Page 0 3) (some [aB<|ieq a.N 0]) oF)<|cond d (cond d (oN e<|cond f (cond b (some [c]) oF) oF) oF)<|cond (ieq a.Kind 3) (oN e<|cond f (cond b (some [c]) oF) oF) oF)<|cond (ieq a.Kind 4) (some [g])<|cond (ieq a.Kind 1) (oN (zO a.Page 0 3)<|cond (zk a.Page 0 3) (some [aB<|ieq a.N 0]) oF)<|cond d (cond d (oN e<|cond f (cond b (some [c]) oF) oF) oF)<|cond (ieq a.Kind 3) (oN e<|cond f (cond b (some [c]) oF) oF) oF)
theorem zUb (a:GExit)(b:ztv a=true):∃N,zJb N a=some [aB<|zlH a]:=by
 refine⟨0,?_⟩;unfold zJb oN nB;conv=>zeta
 refine br (λ_=>br (λ_=>?_) λ_=>br (λ_=>must rfl (br (λ_=>?_) λ_=>?_)) λ_=>br (λ_=>br (λ_=>must rfl (br (λ_=>br (λ_=>?_) λ_=>?_) λ_=>?_)) λ_=>?_) λ_=>br (λ_=>must rfl (br (λ_=>br (λ_=>?_) λ_=>?_) λ_=>?_)) λ_=>?_) (λ_=>br (λ_=>?_) λ_=>br (λ_=>must rfl (br (λ_=>?_) λ_=>?_)) λ_=>br (λ_=>br (λ_=>must rfl (br (λ_=>br (λ_=>?_) λ_=>?_) λ_=>?_)) λ_=>?_) λ_=>br (λ_=>must rfl (br (λ_=>br (λ_=>?_) λ_=>?_) λ_=>?_)) λ_=>?_);all_goals first|rfl|(simp only [*,zlH,ziH,cT,cF]<;>rfl)|simp_all[Ty.cells,zlH,ziH]
theorem zNv:vM 361 zpe:=kF1 zgy zA zy zq (zx []) zUb
def zIQ (N:Nat)(a:GExit):OA:=
 let g:=zk a.N 0 99;let f:=zO a.N 0 99;let e:=ieq a.Kind 2;let d:=aB<|ieq a.N 0;let b:=ieq a.Page 0;let c:=aB<|nB a.Write; (cond (ieq a.Kind 0) (cond (ieq a.Kind 0) (cond b (cond (nB a.Write) (some [d]) oF) oF)<|cond (ieq a.Kind 1) (oN (zO a.Page 0 3)<|cond (zk a.Page 0 3) (some [d]) oF)<|cond e (cond e (oN f<|cond g (cond b (some [c]) oF) oF) oF)<|cond (ieq a.Kind 3) (oN f<|cond g (cond b (some [c]) oF) oF) oF)<|cond (ieq a.Kind 4) (cond b (cond (nB a.Write) (some [d]) oF) oF)<|cond (ieq a.Kind 1) (oN (zO a.Page 0 3)<|cond (zk a.Page 0 3) (some [d]) oF)<|cond e (cond e (oN f<|cond g (cond b (some [c]) oF) oF) oF)<|cond (ieq a.Kind 3) (oN f<|cond g (cond b (some [c]) oF) oF) oF)
theorem zTS (a:GExit)(b:ztv a=true):∃N,zIQ N a=some [aB<|zlH a]:=by
 refine⟨0,?_⟩;unfold zIQ oN nB;conv=>zeta
 refine br (λ_=>br (λ_=>br (λ_=>brN (λ_=>?_) λ_=>?_) λ_=>?_) λ_=>br (λ_=>must rfl (br (λ_=>?_) λ_=>?_)) λ_=>br (λ_=>br (λ_=>must rfl (br (λ_=>br (λ_=>?_) λ_=>?_) λ_=>?_)) λ_=>?_) λ_=>br (λ_=>must rfl (br (λ_=>br (λ_=>?_) λ_=>?_) λ_=>?_)) λ_=>?_) (λ_=>br (λ_=>br (λ_=>brN (λ_=>?_) λ_=>?_) λ_=>?_) λ_=>br (λ_=>must rfl (br (λ_=>?_) λ_=>?_)) λ_=>br (λ_=>br (λ_=>must rfl (br (λ_=>br (λ_=>?_) λ_=>?_) λ_=>?_)) λ_=>?_) λ_=>br (λ_=>must rfl (br (λ_=>br (λ_=>?_) λ_=>?_) λ_=>?_)) λ_=>?_);all_goals first|rfl|(simp only [*,zlH,ziH,cT,cF]<;>rfl)|simp_all[Ty.cells,zlH,ziH]
theorem zM4:vM 399 zpe:=kF1 zgy zA zy zq (zx []) zTS
def zvy (c:Ctl):List Int:=(cond (zk c.Traps 0 3) [] [1])++((cond (zk c.Post 0 255) [] [2])++((cond (ine c.Post 0) (cond c.Open [] [3]) [])++(cond (ieq c.Traps 2) (cond (ine c.Post 0) [4] []) [])))
@[simp] theorem zbbM {a:Type}(x:a)(l m:List a):ap (x::l) m=x::ap l m:=rfl
@[simp] abbrev zgn (c:Ctl):Bool:=true
@[simp] abbrev znm (c:Ctl):List Int:=zvy c
def zla:Run:=rF1 dC λb=>(zgn b,[aS .int<|znm b])
def zAo (N:Nat)(b:Ctl):OA:=
 let e:=aS .int [];let k:=ap (ap [] [2]) [4];let j:=ap (ap [] [1]) [4];let i:=aS .int<|ap [] [2];let h:=aS .int<|ap [] [1];let g:=ap (ap [] [2]) [3];let f:=ap (ap [] [1]) [3];let c:=ieq b.Traps 2;let a:=ine b.Post 0;let d:=ap (ap [] [1]) [2];let l:=aS .int d; (oN (zO b.Traps 0 3)<|cond (nB<|zk b.Traps 0 3) (oN (few<|ln<|ap [] [1])<|oN (zO b.Post 0 255)<|cond (nB<|zk b.Post 0 255) (oN (few<|ln d)<|cond a (cond (nB b.Open) (oN (few<|ln<|ap d [3])<|cond c (cond a (oN (few<|ln<|ap (ap d [3]) [4])<|some [aS .int<|ap (ap d [3]) [4]])<|some [aS .int<|ap d [3]])<|some [aS .int<|ap d [3]])<|cond c (cond a (oN (few<|ln<|ap d [4])<|some [aS .int<|ap d [4]])<|some [l])<|some [l])<|cond c (cond a (oN (few<|ln<|ap d [4])<|some [aS .int<|ap d [4]])<|some [l])<|some [l])<|cond a (cond (nB b.Open) (oN (few<|ln f)<|cond c (cond a (oN (few<|ln<|ap f [4])<|some [aS .int<|ap f [4]])<|some [aS .int f])<|some [aS .int f])<|cond c (cond a (oN (few<|ln j)<|some [aS .int j])<|some [h])<|some [h])<|cond c (cond a (oN (few<|ln j)<|some [aS .int j])<|some [h])<|some [h])<|oN (zO b.Post 0 255)<|cond (nB<|zk b.Post 0 255) (oN (few<|ln<|ap [] [2])<|cond a (cond (nB b.Open) (oN (few<|ln g)<|cond c (cond a (oN (few<|ln<|ap g [4])<|some [aS .int<|ap g [4]])<|some [aS .int g])<|some [aS .int g])<|cond c (cond a (oN (few<|ln k)<|some [aS .int k])<|some [i])<|some [i])<|cond c (cond a (oN (few<|ln k)<|some [aS .int k])<|some [i])<|some [i])<|cond a (cond (nB b.Open) (oN (few<|ln<|ap [] [3])<|cond c (cond a (oN (few<|ln<|ap (ap [] [3]) [4])<|some [aS .int<|ap (ap [] [3]) [4]])<|some [aS .int<|ap [] [3]])<|some [aS .int<|ap [] [3]])<|cond c (cond a (oN (few<|ln<|ap [] [4])<|some [aS .int<|ap [] [4]])<|some [e])<|some [e])<|cond c (cond a (oN (few<|ln<|ap [] [4])<|some [aS .int<|ap [] [4]])<|some [e])<|some [e])
theorem zvR (a:Ctl)(b:zbL big [.agg<|zmR a])(c:zgn a=true):∃N,zAo N a=some [aS .int<|znm a]:=by
 refine⟨0,?_⟩;unfold zAo oN nB;conv=>zeta
 refine must rfl (brN (λ_=>mu (must rfl (brN (λ_=>mu (br (λ_=>brN (λ_=>mu (br (λ_=>br (λ_=>mu ?_) λ_=>?_) λ_=>?_)) λ_=>br (λ_=>br (λ_=>mu ?_) λ_=>?_) λ_=>?_) λ_=>br (λ_=>br (λ_=>mu ?_) λ_=>?_) λ_=>?_)) λ_=>br (λ_=>brN (λ_=>mu (br (λ_=>br (λ_=>mu ?_) λ_=>?_) λ_=>?_)) λ_=>br (λ_=>br (λ_=>mu ?_) λ_=>?_) λ_=>?_) λ_=>br (λ_=>br (λ_=>mu ?_) λ_=>?_) λ_=>?_))) λ_=>must rfl (brN (λ_=>mu (br (λ_=>brN (λ_=>mu (br (λ_=>br (λ_=>mu ?_) λ_=>?_) λ_=>?_)) λ_=>br (λ_=>br (λ_=>mu ?_) λ_=>?_) λ_=>?_) λ_=>br (λ_=>br (λ_=>mu ?_) λ_=>?_) λ_=>?_)) λ_=>br (λ_=>brN (λ_=>mu (br (λ_=>br (λ_=>mu ?_) λ_=>?_) λ_=>?_)) λ_=>br (λ_=>br (λ_=>mu ?_) λ_=>?_) λ_=>?_) λ_=>br (λ_=>br (λ_=>mu ?_) λ_=>?_) λ_=>?_));all_goals first|rfl|(simp only [*,znm,zvy,cT,cF]<;>rfl)|simp_all[Ty.cells,znm,zvy]
theorem zEF:vM 354 zla:=hF1 zgy zA zy zq (zx []) zvR
theorem zEq:vM 381 zla:=hF1 zgy zA zy zq (zx []) zvR
def len8tab:ByteArray:=⟨⟨[0,1,2,2,3,3,3,3,4,4,4,4,4,4,4,4,5,5,5,5,5,5,5,5,5,5,5,5,5,5,5,5,6,6,6,6,6,6,6,6,6,6,6,6,6,6,6,6,6,6,6,6,6,6,6,6,6,6,6,6,6,6,6,6,7,7,7,7,7,7,7,7,7,7,7,7,7,7,7,7,7,7,7,7,7,7,7,7,7,7,7,7,7,7,7,7,7,7,7,7,7,7,7,7,7,7,7,7,7,7,7,7,7,7,7,7,7,7,7,7,7,7,7,7,7,7,7,7,8,8,8,8,8,8,8,8,8,8,8,8,8,8,8,8,8,8,8,8,8,8,8,8,8,8,8,8,8,8,8,8,8,8,8,8,8,8,8,8,8,8,8,8,8,8,8,8,8,8,8,8,8,8,8,8,8,8,8,8,8,8,8,8,8,8,8,8,8,8,8,8,8,8,8,8,8,8,8,8,8,8,8,8,8,8,8,8,8,8,8,8,8,8,8,8,8,8,8,8,8,8,8,8,8,8,8,8,8,8,8,8,8,8,8,8,8,8,8,8,8,8,8,8,8,8,8,8]⟩⟩
def zhB (p n:Int):Bool:=ieq (wand .i64 (zkx .i64 p n) 1) 1
def scan (p:Int):Int:=bif zhB p 7 then 7 else (cond (zhB p 6) 6<|cond (zhB p 5) 5<|cond (zhB p 4) 4<|cond (zhB p 3) 3<|cond (zhB p 2) 2<|cond (zhB p 1) 1<|cond (zhB p 0) 0<|-1)
theorem z5C:∀n:Fin 256,zM .i64 0 (wcv .i64<|byteAt len8tab<|wcv .u8 (n.val:Int))=scan (n.val:Int)+1:=by decide +kernel
theorem zVs:∀n:Fin 256,-1<=scan (n.val:Int)/\scan (n.val:Int)<=7/\(0<=scan (n.val:Int)->wsub .i64 (n.val:Int) (zlX .i64 1<|scan (n.val:Int))=zz7 .i64 (n.val:Int) (zlX .i64 1<|scan (n.val:Int))):=by decide +kernel
theorem zDe {P:Int->Prop}(h:∀n:Fin 256,P (n.val:Int)){x:Int}(a:0<=x)(b:x<=255):P x:=by have:=h ⟨x.toNat,by omega⟩;have e:((x.toNat:Nat):Int)=x:=(by omega);simpa [e] using this
def zmZ (x:Int):Bool:=pc (0<=x/\x<=255)
def ziT (x:Int):Int:=scan x+1
def zis:List AV->Option (Bool×List AV)
 |[.one<|.i .u64 b]=>some (zmZ b,[aI<|ziT b])
 |_=>none
def zmO (N:Nat)(a:Int):OA:=
 let d:=zkx .u64 a 16;let b:=zkx .u64 a 32;let c:=zkx .u64 b 16; (cond (ige a 4294967296) (oN (ile 0 32)<|cond (ige b 65536) (oN (ile 0 16)<|cond (ige c 256) (oN (ile 0 8)<|oN (inb (wcv .u8<|zkx .u64 c 8) 256)<|some [aI<|zM .i64 (zM .i64 (zM .i64 32 16) 8)<|wcv .i64<|byteAt len8tab<|wcv .u8<|zkx .u64 c 8])<|oN (inb (wcv .u8 c) 256)<|some [aI<|zM .i64 (zM .i64 32 16)<|wcv .i64<|byteAt len8tab<|wcv .u8 c])<|cond (ige b 256) (oN (ile 0 8)<|oN (inb (wcv .u8<|zkx .u64 b 8) 256)<|some [aI<|zM .i64 (zM .i64 32 8)<|wcv .i64<|byteAt len8tab<|wcv .u8<|zkx .u64 b 8])<|oN (inb (wcv .u8 b) 256)<|some [aI<|zM .i64 32<|wcv .i64<|byteAt len8tab<|wcv .u8 b])<|cond (ige a 65536) (oN (ile 0 16)<|cond (ige d 256) (oN (ile 0 8)<|oN (inb (wcv .u8<|zkx .u64 d 8) 256)<|some [aI<|zM .i64 (zM .i64 (zM .i64 0 16) 8)<|wcv .i64<|byteAt len8tab<|wcv .u8<|zkx .u64 d 8])<|oN (inb (wcv .u8 d) 256)<|some [aI<|zM .i64 (zM .i64 0 16)<|wcv .i64<|byteAt len8tab<|wcv .u8 d])<|cond (ige a 256) (oN (ile 0 8)<|oN (inb (wcv .u8<|zkx .u64 a 8) 256)<|some [aI<|zM .i64 (zM .i64 0 8)<|wcv .i64<|byteAt len8tab<|wcv .u8<|zkx .u64 a 8])<|oN (inb (wcv .u8 a) 256)<|some [aI<|zM .i64 0<|wcv .i64<|byteAt len8tab<|wcv .u8 a])
theorem zDd (N:Nat)(a:Int):evalFn (cQ zY9 zoZ zIl zVL) (zx []) N 12 369 [.one<|.i .u64 a]=zmO N a:=by kernel_rfl
theorem zBA (a:Int)(g:zbL big [.one<|.i .u64 a])(f:zmZ a=true):∃N,zmO N a=some [aI<|ziT a]:=by
 obtain⟨b,c⟩:=zQ.1 f;refine⟨0,?_⟩;unfold zmO oN;conv=>zeta
 refine zdp (qK (by omega)) ?_;refine zdp (qK (by omega)) ?_;refine zdp (qK (by omega)) ?_;have e:inb (wcv .u8 a) 256=true:=zDe (P:=λx=>inb (wcv .u8 x) 256=true) (by decide +kernel) b c;refine must e ?_;have d:=zDe (P:=λx=>zM .i64 0 (wcv .i64<|byteAt len8tab<|wcv .u8 x)=scan x+1) z5C b c;rw[d];rfl
theorem zok:vM 369 zis:=zTy zgy zA zy zq (zje (by kernel_rfl)) λa d b h=>by unfold zis at h;split at h;{obtain⟨c,rfl⟩:=zet h;exact(zBA _ b c).elim λN e=>⟨zx [],N,(zDd N _).trans e⟩};{cases h}
def z6U:zbb:=[(221,zlE),(256,znJ),(364,znJ),(255,zpk),(363,zpk),(397,zrp),(415,zrp),(361,zpe),(399,zpe),(354,zla),(381,zla),(369,zis)]++zY9
theorem zgz:zS z6U:=zi zxM (zi zKC<|zi zKg<|zi zNE<|zi zNe<|zi zQ2<|zi zQQ<|zi zNv<|zi zM4<|zi zEF<|zi zEq<|zi zok zgy)
def ziK (m:List (List Int))(n:Int):Bool:=bif m.all zcE then ieq (ln m) n else false
@[simp] abbrev ziO (m:List (List Int))(n:Int):Bool:=true
@[simp] abbrev zfH (m:List (List Int))(n:Int):Bool:=ziK m n
def zrq:Run:=rF2 (dS<|.sl .int) dI λb c=>(ziO b c,[aB<|zfH b c])
def zPy (N:Nat)(c:lM)(d:Int):OA:=
 (iter (σ:=(Int×Int×lM×Unit)) N (λe a=>let b:=a.2.2.1; (cond (ilt a.2.1<|ln b) (oN (inb a.2.1<|ln b)<|oN (zdO<|ix b a.2.1 [])<|cond (nB<|zc9<|ix b a.2.1 []) oF<|e (a.1,zM .i64 a.2.1 1,b,()))<|some [aB<|ieq (ln b) a.1])) (d,0,c,()))
def zXE:=zx [(111,0,{n:=22,tm:=[(0,.sl 0 []),(1,ti),(5,ti)],lo:=[],ro:=[(0,.sl .int,false)]})]
theorem zWY (a:List (List Int))(c:Int)(h:zbL big [aS (.sl .int) a,aI c])(k:ziO a c=true):∃N,zPy N a c=some [aB<|zfH a c]:=by
 have g:(_:List _).length<=big:=((zdq h).1 _ (qF.2 rfl)).len;refine zcA λN f=>?_;unfold zPy oN nB;conv=>zeta
 refine(zbm a (λi (t:Unit)=>(c,(i:Int),a,())) _ (λ_ x (_:Unit) j=>bif (zcE) x then j () else oF) (λ(t:Unit)=>some [.one<|.b<|ieq (ln a) c]) (λi d t rec=>?_) (λt rec=>?_) _ ()<|f g).trans ?_;{simp only [zbG d,zbi d,zbp d,zbh d g,cT];exact ziU rfl};{simp only [zbt,cF]};rw[zhc<|zcE];refine br (λe=>?_) (λe=>?_);{first|rfl|(simp only [e,zfH,ziK,cT,cF]<;>rfl)|(simp_all [Ty.cells,zfH,ziK];done)};{first|rfl|(simp only [e,zfH,ziK,cT,cF]<;>rfl)|(simp_all [Ty.cells,zfH,ziK];done)}
theorem zQ3:vM 111 zrq:=hF2 zgz zA zy zq zXE zWY
def zPn (N:Nat)(c:lM)(d:Int):OA:=
 (iter (σ:=(Int×Int×Int×lM×Unit)) N (λe a=>let b:=a.2.2.2.1; (cond (ilt a.2.2.1 a.2.1) (oN (inb a.2.2.1<|ln b)<|oN (zdO<|ix b a.2.2.1 [])<|cond (nB<|zc9<|ix b a.2.2.1 []) oF<|e (a.1,a.2.1,zM .i64 a.2.2.1 1,b,()))<|some [aB<|ieq (ln b) a.1])) (d,ln c,0,c,()))
def zXC:=zx [(263,0,{n:=21,tm:=[(0,.sl 0 []),(1,ti),(7,.sl 0 []),(8,ti),(9,ti)],lo:=[],ro:=[(0,.sl .int,false)]})]
theorem zWO (a:List (List Int))(c:Int)(h:zbL big [aS (.sl .int) a,aI c])(k:ziO a c=true):∃N,zPn N a c=some [aB<|zfH a c]:=by
 have g:(_:List _).length<=big:=((zdq h).1 _ (qF.2 rfl)).len;refine zcA λN f=>?_;unfold zPn oN nB;conv=>zeta
 refine(zbm a (λi (t:Unit)=>(c,ln a,(i:Int),a,())) _ (λ_ x (_:Unit) j=>bif (zcE) x then j () else oF) (λ(t:Unit)=>some [.one<|.b<|ieq (ln a) c]) (λi d t rec=>?_) (λt rec=>?_) _ ()<|f g).trans ?_;{simp only [zbG d,zbi d,zbp d,zbh d g,cT];exact ziU rfl};{simp only [zbt,cF]};rw[zhc<|zcE];refine br (λe=>?_) (λe=>?_);{first|rfl|(simp only [e,zfH,ziK,cT,cF]<;>rfl)|(simp_all [Ty.cells,zfH,ziK];done)};{first|rfl|(simp only [e,zfH,ziK,cT,cF]<;>rfl)|(simp_all [Ty.cells,zfH,ziK];done)}
theorem zQR:vM 263 zrq:=hF2 zgz zA zy zq zXC zWO
def zdw (p:List Ins):Bool:=bif p.all zeD then zk (ln p) 1 12 else false
@[simp] abbrev ztz (p:List Ins):Bool:=true
@[simp] abbrev zhs (p:List Ins):Bool:=zdw p
def zpm:Run:=rF1 (dS .ins) λb=>(ztz b,[aB<|zhs b])
def zJm (N:Nat)(c:lI):OA:=
 (iter (σ:=(Int×lI×Unit)) N (λd a=>let b:=ix a.2.1 a.1 zrT; (cond (ilt a.1<|ln a.2.1) (oN (inb a.1<|ln a.2.1)<|oN (zwq b)<|cond (nB<|ztR b) oF<|d (zM .i64 a.1 1,a.2.1,()))<|oN (zO (ln a.2.1) 1 12)<|some [aB<|zk (ln a.2.1) 1 12])) (0,c,()))
def zV4:=zx [(360,0,{n:=19,tm:=[(0,.sl 0 []),(3,ti)],lo:=[],ro:=[(0,.ins,false)]})]
theorem zUk (a:List Ins)(g:zbL big [aS .ins a])(j:ztz a=true):∃N,zJm N a=some [aB<|zhs a]:=by
 have f:(_:List _).length<=big:=((zdq g).1 _ (qF.2 rfl)).len;refine zcA λN e=>?_;unfold zJm oN nB;conv=>zeta
 refine(zbm a (λi (t:Unit)=>((i:Int),a,())) _ (λ_ x (_:Unit) h=>bif (zeD) x then h () else oF) (λ(t:Unit)=>cond (zO (ln a) 1 12) (some [.one<|.b<|zk (ln a) 1 12]) none) (λi c t rec=>?_) (λt rec=>?_) _ ()<|e f).trans ?_;{simp only [zbG c,zbi c,zbp c,zbh c f,cT];exact ziU rfl};{simp only [zbt,cF]};rw[zhc<|zeD];refine br (λd=>?_) (λd=>?_);{refine must rfl ?_;first|rfl|(simp only [d,zhs,zdw,cT,cF]<;>rfl)|(simp_all [Ty.cells,zhs,zdw];done)};{first|rfl|(simp only [d,zhs,zdw,cT,cF]<;>rfl)|(simp_all [Ty.cells,zhs,zdw];done)}
theorem zNG:vM 360 zpm:=hF1 zgz zA zy zq zV4 zUk
def zIY (N:Nat)(b:lI):OA:=
 (iter (σ:=(Int×Int×lI×Unit)) N (λd a=>let c:=ix a.2.2.1 a.2.1 zrT; (cond (ilt a.2.1 a.1) (oN (inb a.2.1<|ln a.2.2.1)<|oN (zwq c)<|cond (nB<|ztR c) oF<|d (a.1,zM .i64 a.2.1 1,a.2.2.1,()))<|oN (zO (ln a.2.2.1) 1 12)<|some [aB<|zk (ln a.2.2.1) 1 12])) (ln b,0,b,()))
def zVT:=zx [(398,0,{n:=18,tm:=[(0,.sl 0 []),(5,.sl 0 []),(6,ti),(7,ti)],lo:=[],ro:=[(0,.ins,false)]})]
theorem zT0 (a:List Ins)(g:zbL big [aS .ins a])(j:ztz a=true):∃N,zIY N a=some [aB<|zhs a]:=by
 have f:(_:List _).length<=big:=((zdq g).1 _ (qF.2 rfl)).len;refine zcA λN e=>?_;unfold zIY oN nB;conv=>zeta
 refine(zbm a (λi (t:Unit)=>(ln a,(i:Int),a,())) _ (λ_ x (_:Unit) h=>bif (zeD) x then h () else oF) (λ(t:Unit)=>cond (zO (ln a) 1 12) (some [.one<|.b<|zk (ln a) 1 12]) none) (λi c t rec=>?_) (λt rec=>?_) _ ()<|e f).trans ?_;{simp only [zbG c,zbi c,zbp c,zbh c f,cT];exact ziU rfl};{simp only [zbt,cF]};rw[zhc<|zeD];refine br (λd=>?_) (λd=>?_);{refine must rfl ?_;first|rfl|(simp only [d,zhs,zdw,cT,cF]<;>rfl)|(simp_all [Ty.cells,zhs,zdw];done)};{first|rfl|(simp only [d,zhs,zdw,cT,cF]<;>rfl)|(simp_all [Ty.cells,zhs,zdw];done)}
theorem zNg:vM 398 zpm:=hF1 zgz zA zy zq zVT zT0
def zl8 (c:Ctl):Bool:=ieq (ln<|zvy c) 0
@[simp] abbrev zqO (c:Ctl):Bool:=zl8 c
def zrn:Run:=rF1 dC λb=>(zgn b,[aB<|zqO b])
def zPu (N:Nat)(a:Ctl):OA:=
 (oN (zgn a)<|some [aB<|ieq (ln<|znm a) 0])
theorem zGf (a:Ctl)(b:zbL big [.agg<|zmR a])(c:zgn a=true):∃N,zPu N a=some [aB<|zqO a]:=by refine⟨0,?_⟩;unfold zPu oN;refine must rfl ?_;first|rfl|(simp only [*,zqO,zl8,cT,cF]<;>rfl)|simp_all[Ty.cells,zqO,zl8]
theorem zQZ:vM 248 zrn:=hF1 zgz zA zy zq (zx []) zGf
theorem zQO:vM 317 zrn:=hF1 zgz zA zy zq (zx []) zGf
def zd7 (p:Int):Int:=bif zdM p then scan p else -1
theorem zPj {x:Int}(a:0<=x)(b:x<=255):wcv .u64 x=x:=zDe (P:=λx=>wcv .u64 x=x) (by decide +kernel) a b
@[simp] abbrev zhk (p:Int):Int:=zd7 p
def zo6:Run:=rF1 dI λb=>(zcd b,[aI<|zhk b])
def zI3 (N:Nat)(a:Int):OA:=
 (oN (zcd a)<|cond (nB<|zew a) (some [aI<|-1])<|oN (zmZ<|wcv .u64 a)<|some [aI<|wsub .i64 (ziT<|wcv .u64 a) 1])
theorem zT5 (a:Int)(d:zcd a=true):∃N,zI3 N a=some [aI<|zhk a]:=by refine⟨0,?_⟩;unfold zI3 oN nB;refine must rfl ?_;cases h:zdM a;{refine must (by simp[h]) ?_;simp[zd7,h]};{obtain⟨b,c⟩:=zfA.1 h;have r:=zDe (P:=λx=>-1<=scan x/\scan x<=7/\(0<=scan x->wsub .i64 x (zlX .i64 1<|scan x)=zz7 .i64 x (zlX .i64 1<|scan x))) zVs b c;refine zdp (by simp[h]) ?_;rw[zPj b c];refine must (zbw ⟨b,c⟩) ?_;have e:wsub .i64 (ziT a) 1=scan a:=(by unfold ziT;rw[zq3 (by omega) (by omega)];omega);rw[e];simp[zd7,h]}
theorem zNm:vM 375 zo6:=kF1 zgz zA zy zq (zx []) zT5
def zJq (N:Nat)(b:Int):OA:=
 (iter (σ:=(Int×Int×Unit)) N (λc a=>cond (ige a.2.1 0) (oN (zcd a.1)<|cond (zew a.1) (oN (ile 0<|wcv .u64 a.2.1)<|cond (ieq (wand .i64 (zkx .i64 a.1<|wcv .u64 a.2.1) 1) 1) (some [aI a.2.1])<|c (a.1,wsub .i64 a.2.1 1,()))<|some [aI<|-1])<|some [aI<|-1]) (b,7,()))
def zV5:=zx [(356,0,{n:=19,tm:=[(0,ti),(3,ti)],lo:=[],ro:=[]})]
theorem zUn (a:Int)(C:zcd a=true):∃N,zJq N a=some [aI<|zhk a]:=by refine⟨10,?_⟩;unfold zJq oN;cases h:zdM a;{rw [zd0];refine must rfl ?_;refine must rfl ?_;refine zdp h ?_;simp[zd7,h]};{have c:zew a=true:=h;rw[zd0];refine must rfl (must rfl (must c (must rfl (br (λr=>?_) λr=>?_))));{have A:zhB a 7=true:=r;simp[zd7,h,scan,A]};have b:zhB a 7=false:=r;show iter 9 _ (a,6,())=_;rw[zd0];refine must rfl (must rfl (must c (must rfl (br (λq=>?_) λq=>?_))));{have z:zhB a 6=true:=q;simp[zd7,h,scan,z,b]};have d:zhB a 6=false:=q;show iter 8 _ (a,5,())=_;rw[zd0];refine must rfl (must rfl (must c (must rfl (br (λp=>?_) λp=>?_))));{have y:zhB a 5=true:=p;simp[zd7,h,scan,y,b,d]};have e:zhB a 5=false:=p;show iter 7 _ (a,4,())=_;rw[zd0];refine must rfl (must rfl (must c (must rfl (br (λn=>?_) λn=>?_))));{have x:zhB a 4=true:=n;simp[zd7,h,scan,x,b,d,e]};have f:zhB a 4=false:=n;show iter 6 _ (a,3,())=_;rw[zd0];refine must rfl (must rfl (must c (must rfl (br (λm=>?_) λm=>?_))));{have w:zhB a 3=true:=m;simp[zd7,h,scan,w,b,d,e,f]};have g:zhB a 3=false:=m;show iter 5 _ (a,2,())=_;rw[zd0];refine must rfl (must rfl (must c (must rfl (br (λl=>?_) λl=>?_))));{have v:zhB a 2=true:=l;simp[zd7,h,scan,v,b,d,e,f,g]};have i:zhB a 2=false:=l;show iter 4 _ (a,1,())=_;rw[zd0];refine must rfl (must rfl (must c (must rfl (br (λk=>?_) λk=>?_))));{have u:zhB a 1=true:=k;simp[zd7,h,scan,u,b,d,e,f,g,i]};have s:zhB a 1=false:=k;show iter 3 _ (a,0,())=_;rw[zd0];refine must rfl (must rfl (must c (must rfl (br (λj=>?_) λj=>?_))));{have t:zhB a 0=true:=j;simp[zd7,h,scan,t,b,d,e,f,g,i,s]};have B:zhB a 0=false:=j;show iter 2 _ (a,-1,())=_;rw[zd0];refine zdp rfl ?_;simp[zd7,h,scan,b,d,e,f,g,i,s,B]}
theorem zNK:vM 356 zo6:=kF1 zgz zA zy zq zV5 zUn
theorem zbS {c:Cur}{i k:Int}(h:zbe c)(a:0<=i):zbe ⟨c.b,i,k⟩:=⟨a,h.2⟩
theorem zYm {c:Cur}(h:zbe c){l:List Int}(a:l≠[]):zbn c l∈l:=(zyE<|zfh h a).2.2 (kS.2 a)
theorem zfw {c:Cur}(h:zbe c){n:Int}(a:0<n):0<=zn c n/\zn c n<n:=(zij<|zbz h n).2.2 a
theorem zK2 {o x:Int}(h:(o=1\/o=2\/o=5\/o=6)/\0<=x/\x<=99\/(o=3\/o=4)/\0<=x/\x<=15\/o=8/\0<=x/\x<=11):zeD ⟨o,x⟩=true:=by have w:∀{a b:Int},a<=x->x<=b->zk x a b=true:=λc d=>(by simp only[zk,ige,ile,qE,q0];exact⟨c,d⟩);rcases h with⟨h|h|h|h,c,d⟩|⟨h|h,c,d⟩|⟨h,c,d⟩<;>subst h<;>exact w c d
def zyR (N:Nat)(c:Cur)  : OA :=
 let d:=zbn c [1,2,3,3,3,4,4,4,5,6,8];let a:=({ (zX c [1,2,3,3,3,4,4,4,5,6,8]) with b:=c.b}:Cur); (share (oN (zB a 16)<|some [.agg [.s .u8 c.b,.i .i64 (zf a 16).i,.i .i64 (zf a 16).h],.agg [.i .i64 d,.i .i64<|zn a 16]]) λf=>share (cond (ieq d 8) (oN (zB a 4)<|some [.agg [.s .u8 c.b,.i .i64 (zf a 4).i,.i .i64 (zf a 4).h],.agg [.i .i64 d,.i .i64<|zn a 4]])<|oN (zB a 100)<|some [.agg [.s .u8 c.b,.i .i64 (zf a 100).i,.i .i64 (zf a 100).h],.agg [.i .i64 d,.i .i64<|zn a 100]]) λe=>oN (zbr c [1,2,3,3,3,4,4,4,5,6,8])<|cond (ieq d 3) (cond (ieq d 3) f e)<|cond (ieq d 4) f e)
def zrH (c:Cur)(s:Cur)(a:Ins):Prop:=(∃N,zyR N c=some (AV.agg (zb1 s)::[aT .ins a]))/\(s.b=c.b/\0<=s.i)/\(zeD a=true)
def zkq (c:Cur)  : Bool:=wC (zrH c)
def zgR (c:Cur)  : Cur:=wS (zrH c)
def zgD (c:Cur)  : Ins:=wV (zrH c)
theorem zLV {c:Cur}(h:zkq c=true):zrH c (zgR c) (zgD c):=wG h
theorem zzT (c:Cur)  : 0<=(zgR c).i:=wP λh=>h.2.1.2
theorem z0l (c:Cur)(h:∃N,Ends (wE (λa=>aT .ins a) c.b λa=>zeD a=true)<|zyR N c):zkq c=true:=wI (λ_ _ h=>h) h
def zAH:zea:=rP0 λc=>(zkq c,zgR c,[aT .ins<|zgD c])
theorem zNQ:zbV Tryz.prog 374 [false,true,true] zAH:=hP0 zee zZ zUL zq (zx []) (λ_ h=>(zLV h).1)
theorem zSn {c:Cur}(h:zbe c):zkq c=true:=by
 refine z0l c ⟨0,?_⟩;have p:([1,2,3,3,3,4,4,4,5,6,8]:List Int)≠[]:=(by simp);have q:=zYm h p;have f:zbe {zX c [1,2,3,3,3,4,4,4,5,6,8] with b:=c.b}:=zbS h (zb3 _ _);have t:=zfw f (n:=16) (by omega);have w:=zfw f (n:=4) (by omega);have m:=zfw f (n:=100) (by omega);unfold zyR oN;conv=>zeta
 generalize zbn c [1,2,3,3,3,4,4,4,5,6,8]=o at q;simp only[qG,qN,or_false]at q;have j:∀{n:Int},ieq o n=false->o≠n:=λh e=>(by subst e;simp[ieq]at h);have k:∀{n:Int},ieq o n=true->o=n:=λh=>by simpa [ieq] using h
 have L:∀(n:Int),0<n->(zeD ⟨o,zn {zX c [1,2,3,3,3,4,4,4,5,6,8] with b:=c.b} n⟩=true)->Ends (λa=>∃s r,a=(AV.agg (zb1 s)::[aT .ins r])/\(s.b=c.b/\0<=s.i)/\zeD r=true)
  (cond (zB {zX c [1,2,3,3,3,4,4,4,5,6,8] with b:=c.b} n) (some (AV.agg [.s .u8 c.b,.i .i64 (zf {zX c [1,2,3,3,3,4,4,4,5,6,8] with b:=c.b} n).i,.i .i64 (zf {zX c [1,2,3,3,3,4,4,4,5,6,8] with b:=c.b} n).h]::[.agg [.i .i64 o,.i .i64<|zn {zX c [1,2,3,3,3,4,4,4,5,6,8] with b:=c.b} n]])) none):=
  λn x u=>zF (zbz f n) (zbO (aT .ins) (v:=⟨o,zn _ n⟩) (zG _ _) u)
 refine zF (zfh h p) (zbE (λg=>zbE (λ_=>L 16 (by omega) (zK2 ?_)) λd=>absurd (k g) (j d)) λg=>zbE (λd=>L 16 (by omega) (zK2 ?_)) λd=>zbE (λl=>L 4 (by omega) (zK2 ?_)) λl=>L 100 (by omega) (zK2 ?_));{have:=k g;omega};{have:=k d;omega};{have:=k l;omega};{have:=j g;have:=j d;have:=j l;omega}
def z7z:zcU:=[(374,[false,true,true],zAH)]++z7y
theorem zUM:zb5 z7z:=zcp zUL (by
 intro x a;simp only[qG,qN,or_false]at a;rcases a with rfl
 .exact zNQ)
theorem zh8 {x y:Int}(a:0<=x)(b:x<=1000000)(c:0<=y)(d:y<=1000000):zM .i64 x y=x+y:=zmN (by omega) (by omega)
theorem zjo {a:Type}{l:List a}(h:ln l<=1000000):few (ln l)=true:=qI ⟨by unfold ln;omega,by omega⟩
theorem zhd {a:Type}(l:List a)(x:a):ln (ap l [x])=ln l+1:=by simp[ln,ap]
def zwF (N:Nat)(c:Cur)  : OA :=
 (iter (σ:=(Int×Int×Int×lI×(List Int)×Unit)) N (λj d=>let e:=d.2.2.2.1;let f:=d.2.2.2.2.1;let g:=(⟨f,d.2.1,d.2.2.1⟩:Cur);let a:=({ (zf g 7) with b:=f}:Cur); (oN (zB g 7)<|cond (ilt d.1<|zM .i64 2<|zn g 7) (oN (zkq a)<|oN (few<|ln<|ap e [zgD a])<|j (zM .i64 d.1 1,(zgR a).i,(zgR a).h,ap e [zgD a],f,()))<|oN (zc7 a 3)<|cond (zdh a 3) (oN (few<|ln<|ap e [(⟨7,0⟩:Ins)])<|some [.agg [.s .u8 f,.i .i64 (zT a 3).i,.i .i64 (zT a 3).h],aS .ins<|ap e [(⟨7,0⟩:Ins)]])<|oN (few<|ln<|ap e [(⟨8,0⟩:Ins)])<|some [.agg [.s .u8 f,.i .i64 (zT a 3).i,.i .i64 (zT a 3).h],aS .ins<|ap e [(⟨8,0⟩:Ins)]])) (0,c.i,c.h,[],c.b,()))
def zSc:=zx [(348,0,{n:=29,tm:=[(0,.lp 0 0),(3,.sl 0 []),(4,ti)],lo:=[(0,[.sl 1 [],ti,ti])],ro:=[(0,.ins,true),(1,.u8,false)]})]
def zpX (c:Cur)(s:Cur)(a:List Ins):Prop:=(∃N,zwF N c=some (AV.agg (zb1 s)::[aS .ins a]))/\(s.b=c.b/\0<=s.i)/\(zdw a=true)
def zhU (c:Cur)  : Bool:=wC (zpX c)
def zbc (c:Cur)  : Cur:=wS (zpX c)
def zb9 (c:Cur)  : List Ins:=wV (zpX c)
theorem zrI {c:Cur}(h:zhU c=true):zpX c (zbc c) (zb9 c):=wG h
theorem zi5 (c:Cur)  : 0<=(zbc c).i:=wP λh=>h.2.1.2
theorem zXi (c:Cur)(h:∃N,Ends (wE (λa=>aS .ins a) c.b λa=>zdw a=true)<|zwF N c):zhU c=true:=wI (λ_ _ h=>h) h
def zyd:zea:=rP0 λc=>(zhU c,zbc c,[aS .ins<|zb9 c])
theorem zKK:zbV Tryz.prog 348 [false,true,true] zyd:=hP0 zee zZ zUM zq zSc (λ_ h=>(zrI h).1)
theorem zDj {c:Cur}(h:zbe c):zhU c=true:=by
 refine zXi c ⟨9,?_⟩;unfold zwF oN;conv=>zeta
 refine zjm (λn s=>s.1+(n:Int)=8/\0<=s.1/\0<=s.2.1/\(∀x∈s.2.2.2.1,zeD x=true)/\ln s.2.2.2.1=s.1/\s.2.2.2.2.1=c.b) ?_ 9 8 _ ⟨rfl,kB 0,h.1,by simp,rfl,rfl⟩ (by omega);rintro n ⟨t,i,k,l,b,u⟩ rec ⟨B,g,v,j,w,z⟩ f;dsimp only at B g v j w z ⊢;subst z;have a:zbe ⟨c.b,i,k⟩:=zbS h v;have d:=zfw a (n:=7) (by omega);have A:=zh8 (x:=2) (by omega) (by omega) d.1 (by omega);have m:zbe {zf ⟨c.b,i,k⟩ 7 with b:=c.b}:=zbS h (zG _ _);have e:∀(y:Ins),zeD y=true->2<=t->zdw (ap l [y])=true:=(by intro y C D;unfold zdw;rw[zhd,w];have:(ap l [y]).all zeD=true:=(by simp only[ap,List.all_append,kW,List.all_nil,vF,qE];exact⟨qM.2 j,C⟩);rw[this,cT];simp only[zk,ige,ile,qE,q0];omega);refine zF (zbz a 7) (zbE (λp=>?_) λp=>?_);{have r:t<zM .i64 2 (zn ⟨c.b,i,k⟩ 7):=qD p;rw[A]at r;refine zF (zSn m) (zF (zjo (by rw[zhd];omega))<|f (n-1) _ (by omega) ⟨?_,?_,zzT _,?_,?_,rfl⟩);{show zM .i64 t 1+_=8;rw[zh8 g (by omega) (by omega) (by omega)];omega};{show 0<=zM .i64 t 1;rw[zh8 g (by omega) (by omega) (by omega)];omega};{intro x d;rcases jH.1 d with d|d;{exact j x d};{rw [qF.1 d];exact(zLV<|zSn m).2.2}};{show ln (ap l [_])=zM .i64 t 1;rw[zhd,zh8 g (by omega) (by omega) (by omega)];omega}};{have q:¬ t<zM .i64 2 (zn ⟨c.b,i,k⟩ 7):=jR p;rw[A]at q;refine zF (zjF m 3) (zbE (λ_=>zF (zjo (by rw[zhd];omega)) (zbO (aS .ins) (zcr _ _) (e _ rfl (by omega)))) λ_=>zF (zjo (by rw[zhd];omega)) (zbO (aS .ins) (zcr _ _) (e _ rfl (by omega))))}
def z7A:zcU:=[(348,[false,true,true],zyd)]++z7z
theorem zUN:zb5 z7A:=zcp zUM (by
 intro x a;simp only[qG,qN,or_false]at a;rcases a with rfl
 .exact zKK)
theorem zWe {f:Type}{c:Cur}(h:zbe c){P:f->Prop}{fc:Cur->Bool}{fs:Cur->Cur}{fv:Cur->f}(C:∀{c:Cur},zbe c->fc c=true)(D:∀c,0<=(fs c).i)(hg:∀{c:Cur},zbe c->P (fv c)){G:Ans->Prop}{R:Cur->List f->Ans}(B:∀s l,s.b=c.b->0<=s.i->1<=l.length->l.length<=2->(∀x∈l,P x)->G (R s l)){F:(Int×Int×Int×List f×List Int×Unit->OA)->Int×Int×Int×List f×List Int×Unit->OA}(A:∀rec t i k l,F rec (t,i,k,l,c.b,())=bif zB ⟨c.b,i,k⟩ 2 then (bif ilt t (zM .i64 1 (zn ⟨c.b,i,k⟩ 2)) then (bif fc { zf ⟨c.b,i,k⟩ 2 with b:=c.b } then (bif few (ln (ap l [fv { zf ⟨c.b,i,k⟩ 2 with b:=c.b }])) then
        rec (zM .i64 t 1,(fs {zf ⟨c.b,i,k⟩ 2 with b:=c.b}).i,(fs {zf ⟨c.b,i,k⟩ 2 with b:=c.b}).h,ap l [fv {zf ⟨c.b,i,k⟩ 2 with b:=c.b}],c.b,()) else none) else none) else some (R ⟨c.b,(zf ⟨c.b,i,k⟩ 2).i,(zf ⟨c.b,i,k⟩ 2).h⟩ l)) else none) :
 Ends G (iter 3 F (0,c.i,c.h,[],c.b,())):=by
 refine zjm (fun n s=>s.1+(n:Int)=2/\0<=s.1/\0<=s.2.1/\(∀x∈s.2.2.2.1,P x)/\ln s.2.2.2.1=s.1/\s.2.2.2.2.1=c.b) ?_ 3 2 _ ⟨rfl,kB 0,h.1,by simp,rfl,rfl⟩ (by omega)
 rintro n ⟨t,i,k,l,b,u⟩ rec ⟨z,m,p,g,q,r⟩ e
 dsimp only at z m p g q r
 subst r;rw[A];have a:zbe ⟨c.b,i,k⟩:=zbS h p;have d:=zfw a (n:=2) (by omega)
 have w:=zh8 (x:=1) (by omega) (by omega) d.1 (by omega)
 have v:zbe {zf ⟨c.b,i,k⟩ 2 with b:=c.b}:=zbS h (zG _ _);refine zF (zbz a 2) (zbE (fun j=>?_) (fun j=>?_))
 .have hlt:t<zM .i64 1 (zn ⟨c.b,i,k⟩ 2):=qD j;rw[w]at hlt;have E:=zh8 (y:=1) m (by omega) (by omega) (by omega)
  refine zF (C v) (zF (zjo (by rw[zhd];omega)) (e (n-1) _ (by omega) ⟨?_,?_,D _,?_,?_,rfl⟩))
  .show zM .i64 t 1+_=2
   omega
  .show 0<=zM .i64 t 1
   omega
  .intro x d;rcases jH.1 d with d|d
   .exact g x d
   .rw [qF.1 d];exact hg v
  .show ln (ap l [_])=zM .i64 t 1
   rw[zhd];omega
 .have hge:¬ t<zM .i64 1 (zn ⟨c.b,i,k⟩ 2):=jR j;rw[w]at hge;unfold ln at q;exact zuh (B _ l rfl (zG _ _) (by omega) (by omega) g)
def zt3 (N:Nat)(c:Cur)  : OA :=
 (iter (σ:=(Int×Int×Int×lP×(List Int)×Unit)) N (λg a=>let f:=a.2.2.2.2.1;let e:=(⟨f,a.2.1,a.2.2.1⟩:Cur);let d:=({ (zf e 2) with b:=f}:Cur); (oN (zB e 2)<|cond (ilt a.1<|zM .i64 1<|zn e 2) (oN (zhU d)<|oN (few<|ln<|ap a.2.2.2.1 [zb9 d])<|g (zM .i64 a.1 1,(zbc d).i,(zbc d).h,ap a.2.2.2.1 [zb9 d],f,()))<|some [.agg [.s .u8 f,.i .i64 (zf e 2).i,.i .i64 (zf e 2).h],aS (.sl .ins) a.2.2.2.1])) (0,c.i,c.h,[],c.b,()))
def zPc:=zx [(274,0,{n:=19,tm:=[(0,.lp 0 0),(3,.sl 0 []),(4,ti)],lo:=[(0,[.sl 1 [],ti,ti])],ro:=[(0,.sl .ins,true),(1,.u8,false)]})]
def znS (c:Cur)(s:Cur)(a:List (List Ins)):Prop:=(∃N,zt3 N c=some (AV.agg (zb1 s)::[aS (.sl .ins) a]))/\(s.b=c.b/\0<=s.i)/\(1<=a.length/\a.length<=2/\∀x∈a,zdw x=true)
def zjR (c:Cur)  : Bool:=wC (znS c)
def zjS (c:Cur)  : Cur:=wS (znS c)
def zp6 (c:Cur)  : List (List Ins):=wV (znS c)
theorem zDF {c:Cur}(h:zjR c=true):znS c (zjS c) (zp6 c):=wG h
theorem zVo (c:Cur)  : 0<=(zjS c).i:=wP λh=>h.2.1.2
theorem zVn (c:Cur)(h:∃N,Ends (wE (λa=>aS (.sl .ins) a) c.b λa=>1<=a.length/\a.length<=2/\∀x∈a,zdw x=true)<|zt3 N c):zjR c=true:=wI (λ_ _ h=>h) h
def zv2:zea:=rP0 λc=>(zjR c,zjS c,[aS (.sl .ins)<|zp6 c])
theorem zHW:zbV Tryz.prog 274 [false,true,true] zv2:=hP0 zee zZ zUN zq zPc (λ_ h=>(zDF h).1)
theorem zYo {c:Cur}(h:zbe c):zjR c=true:=by
 refine zVn c ⟨3,?_⟩;unfold zt3 oN;conv=>zeta
 exact zWe h (P:=λx=>zdw x=true) (fc:=zhU) (fs:=zbc) (fv:=zb9) (R:=λs l=>AV.agg (zb1 s)::[aS (.sl .ins) l]) zDj zi5 (λh=>(zrI<|zDj h).2.2) (λs l d e a b f=>⟨s,l,rfl,⟨d,e⟩,a,b,f⟩) (λrec t i k l=>rfl)
def z7B:zcU:=[(274,[false,true,true],zv2)]++z7A
theorem zUO:zb5 z7B:=zcp zUN (by
 intro x a;simp only[qG,qN,or_false]at a;rcases a with rfl
 .exact zHW)
def zyW (N:Nat)(c:Cur)  : OA :=
 (iter (σ:=(Int×Int×Int×lQ×(List Int)×Unit)) N (λg a=>let f:=a.2.2.2.2.1;let e:=(⟨f,a.2.1,a.2.2.1⟩:Cur);let d:=({ (zf e 2) with b:=f}:Cur); (oN (zB e 2)<|cond (ilt a.1<|zM .i64 1<|zn e 2) (oN (zjR d)<|oN (few<|ln<|ap a.2.2.2.1 [zp6 d])<|g (zM .i64 a.1 1,(zjS d).i,(zjS d).h,ap a.2.2.2.1 [zp6 d],f,()))<|some [.agg [.s .u8 f,.i .i64 (zf e 2).i,.i .i64 (zf e 2).h],aS (.sl<|.sl .ins) a.2.2.2.1])) (0,c.i,c.h,[],c.b,()))
def zV9:=zx [(138,0,{n:=19,tm:=[(0,.lp 0 0),(3,.sl 0 []),(4,ti)],lo:=[(0,[.sl 1 [],ti,ti])],ro:=[(0,.sl<|.sl .ins,true),(1,.u8,false)]})]
def zrN (c:Cur)(s:Cur)(a:List (List<|List Ins)):Prop:=(∃N,zyW N c=some (AV.agg (zb1 s)::[aS (.sl<|.sl .ins) a]))/\(s.b=c.b/\0<=s.i)/\(1<=a.length/\a.length<=2/\∀p∈a,1<=p.length/\p.length<=2/\∀x∈p,zdw x=true)
def zp7 (c:Cur)  : Bool:=wC (zrN c)
def zmJ (c:Cur)  : Cur:=wS (zrN c)
def zu8 (c:Cur)  : List (List<|List Ins):=wV (zrN c)
theorem zLX {c:Cur}(h:zp7 c=true):zrN c (zmJ c) (zu8 c):=wG h
theorem z0x (c:Cur)  : 0<=(zmJ c).i:=wP λh=>h.2.1.2
theorem z0w (c:Cur)(h:∃N,Ends (wE (λa=>aS (.sl<|.sl .ins) a) c.b λa=>1<=a.length/\a.length<=2/\∀p∈a,1<=p.length/\p.length<=2/\∀x∈p,zdw x=true)<|zyW N c):zp7 c=true:=wI (λ_ _ h=>h) h
def zAM:zea:=rP0 λc=>(zp7 c,zmJ c,[aS (.sl<|.sl .ins)<|zu8 c])
theorem zNV:zbV Tryz.prog 138 [false,true,true] zAM:=hP0 zee zZ zUO zq zV9 (λ_ h=>(zLX h).1)
theorem z6b {c:Cur}(h:zbe c):zp7 c=true:=by
 refine z0w c ⟨3,?_⟩;unfold zyW oN;conv=>zeta
 exact zWe h (P:=λp=>1<=p.length/\p.length<=2/\∀x∈p,zdw x=true) (fc:=zjR) (fs:=zjS) (fv:=zp6) (R:=λs l=>AV.agg (zb1 s)::[aS (.sl<|.sl .ins) l]) zYo zVo (λh=>(zDF<|zYo h).2.2) (λs l d e a b f=>⟨s,l,rfl,⟨d,e⟩,a,b,f⟩) (λrec t i k l=>rfl)
def z7C:zcU:=[(138,[false,true,true],zAM)]++z7B
theorem zUP:zb5 z7C:=zcp zUO (by
 intro x a;simp only[qG,qN,or_false]at a;rcases a with rfl
 .exact zNV)
theorem zD5 {c:Type}{G:c->Prop}{x:Bool}{a b:Option c}(k:Ends G a)(h:x=true:=by first
 |exact zbz (by first|assumption|exact zbS (by assumption) (zG _ _)|exact zbS (by assumption) (zcr _ _)|exact zbS (by assumption) (zb3 _ _)) _
 |exact zjF (by first|assumption|exact zbS (by assumption) (zG _ _)|exact zbS (by assumption) (zcr _ _)) _
 |exact zfh (by first|assumption|exact zbS (by assumption) (zG _ _)) (by simp)):Ends G (cond x a b):=zF h k
def zyT (N:Nat)(c:Cur)  : OA :=
 let f:=zn c 4;let j:=({ (zf c 4) with b:=c.b}:Cur);let e:=zdh j 4;let d:=zT j 4;let a:=({d with b:=c.b}:Cur);let g:=({ (zT a 2) with b:=c.b}:Cur); (oN (zB c 4)<|oN (zc7 j 4)<|cond (nB e) (cond (ine f 2) (oN (zc7 a 2)<|cond (zdh a 2) (oN (zB g 256)<|some [.agg [.s .u8 c.b,.i .i64 (zf g 256).i,.i .i64 (zf g 256).h],.agg [.i .i64 f,.i .i64<|zn g 256,.b<|nB e]])<|some [.agg [.s .u8 c.b,.i .i64 (zT a 2).i,.i .i64 (zT a 2).h],.agg [.i .i64 f,.i .i64 0,.b<|nB e]])<|some [.agg [.s .u8 c.b,.i .i64 d.i,.i .i64 d.h],.agg [.i .i64 f,.i .i64 0,.b<|nB e]])<|some [.agg [.s .u8 c.b,.i .i64 d.i,.i .i64 d.h],.agg [.i .i64 f,.i .i64 0,.b<|nB e]])
def zrK (c:Cur)(s:Cur)(a:Ctl):Prop:=(∃N,zyT N c=some (AV.agg (zb1 s)::[.agg<|zmR a]))/\(s.b=c.b/\0<=s.i)/\(True)
def zkr (c:Cur)  : Bool:=wC (zrK c)
def zcn (c:Cur)  : Cur:=wS (zrK c)
def zcI (c:Cur)  : Ctl:=wV (zrK c)
theorem z0p {c:Cur}(h:zkr c=true):zrK c (zcn c) (zcI c):=wG h
theorem zzV (c:Cur)  : 0<=(zcn c).i:=wP λh=>h.2.1.2
theorem z0q (c:Cur)(h:∃N,Ends (wE (λa=>.agg (zmR a)) c.b λa=>True)<|zyT N c):zkr c=true:=wI (λ_ _ h=>h) h
def zAJ:zea:=rP0 λc=>(zkr c,zcn c,[.agg<|zmR<|zcI c])
theorem zNS:zbV Tryz.prog 282 [false,true,true] zAJ:=hP0 zee zZ zUP zq (zx []) (λ_ h=>(z0p h).1)
theorem zY5 {c:Cur}(h:zbe c):zkr c=true:=by
 refine z0q c ⟨0,?_⟩;unfold zyT oN nB;conv=>zeta
 refine zD5 (zD5<|zbE (λ_=>zbE (λ_=>zD5 (zbE (λ_=>zD5 (?_)) λ_=>?_)) λ_=>?_) λ_=>?_);all_goals exact zbO (λx=>AV.agg (zmR x)) (v:=⟨_,_,_⟩) (by first|exact zG _ _|exact zcr _ _) trivial
def z7D:zcU:=[(282,[false,true,true],zAJ)]++z7C
theorem zIn:zb5 z7D:=zcp zUP (by
 intro x a;simp only[qG,qN,or_false]at a;rcases a with rfl
 .exact zNS)
theorem zem {c:Type}{G:c->Prop}{x:Bool}{a b:Option c}(k:Ends G a)(h:x=true:=by first
 |exact zbz (by first|assumption|exact zbS (by assumption) (zG _ _)|exact zbS (by assumption) (zb3 _ _)) _
 |exact zfh (by first|assumption|exact zbS (by assumption) (zG _ _)) (by simp)
 |exact zY5 (zbS (by assumption)<|zG _ _)):Ends G (cond x a b):=zF h k
def zyZ (N:Nat)(c:Cur)  : OA :=
 let m:=({ (zf c 2) with b:=c.b}:Cur);let g:=zn c 2;let f:=zn m 2;let u:=({ (zf m 2) with b:=c.b}:Cur);let e:=zf u 24;let d:=zn u 24;let a:=({e with b:=c.b}:Cur);let j:=zf a 8;let l:=({ (zf a 4) with b:=c.b}:Cur);let k:=({j with b:=c.b}:Cur);let t:=({ (zf a 16) with b:=c.b}:Cur);let r:=({ (zX a [16,17]) with b:=c.b}:Cur);let q:=({ (zX a [13,13,14,15]) with b:=c.b}:Cur);let p:=({ (zf k 4) with b:=c.b}:Cur);let n:=({ (zf l 8) with b:=c.b}:Cur); (share (oN (zbr a [13,13,14,15])<|oN (zB q 8)<|some [.agg [.s .u8 c.b,.i .i64 (zf q 8).i,.i .i64 (zf q 8).h],.agg [.i .i64<|zbn a [13,13,14,15],.i .i64 g,.i .i64 f,.i .i64<|zn q 8,.i .i64 0,.i .i64 0]]) λA=>share (cond (ieq d 16) (oN (zbr a [16,17])<|oN (zB r 4)<|some [.agg [.s .u8 c.b,.i .i64 (zf r 4).i,.i .i64 (zf r 4).h],.agg [.i .i64<|zbn a [16,17],.i .i64 g,.i .i64 f,.i .i64<|zn r 4,.i .i64 0,.i .i64 0]])<|some [.agg [.s .u8 c.b,.i .i64 e.i,.i .i64 e.h],.agg [.i .i64 1,.i .i64 g,.i .i64 f,.i .i64 0,.i .i64 0,.i .i64 0]]) λz=>share (oN (zB a 4)<|oN (zB l 8)<|oN (zbr n [3,3,1,2])<|some [.agg [.s .u8 c.b,.i .i64 (zX n [3,3,1,2]).i,.i .i64 (zX n [3,3,1,2]).h],.agg [.i .i64 2,.i .i64 g,.i .i64 f,.i .i64<|zn a 4,.i .i64<|zn l 8,.i .i64<|zbn n [3,3,1,2]]]) λy=>share (oN (zB a 4)<|some [.agg [.s .u8 c.b,.i .i64 (zf a 4).i,.i .i64 (zf a 4).h],.agg [.i .i64 3,.i .i64 g,.i .i64 f,.i .i64<|zn a 4,.i .i64 0,.i .i64 0]]) λx=>share (cond (ieq d 7) (oN (zB a 8)<|some [.agg [.s .u8 c.b,.i .i64 j.i,.i .i64 j.h],.agg [.i .i64 6,.i .i64 g,.i .i64 f,.i .i64<|zn a 8,.i .i64 0,.i .i64 0]])<|cond (ieq d 8) (oN (zkr a)<|cond ((zcI a).Open) (some [.agg [.s .u8 c.b,.i .i64 (zcn a).i,.i .i64 (zcn a).h],.agg [.i .i64 7,.i .i64 g,.i .i64 f,.i .i64 (zcI a).Traps,.i .i64 (zcI a).Post,.i .i64 1]])<|some [.agg [.s .u8 c.b,.i .i64 (zcn a).i,.i .i64 (zcn a).h],.agg [.i .i64 7,.i .i64 g,.i .i64 f,.i .i64 (zcI a).Traps,.i .i64 (zcI a).Post,.i .i64 0]])<|cond (ieq d 9) (oN (zB a 8)<|oN (zB k 4)<|oN (zB p 100)<|some [.agg [.s .u8 c.b,.i .i64 (zf p 100).i,.i .i64 (zf p 100).h],.agg [.i .i64 8,.i .i64 g,.i .i64 f,.i .i64<|zn a 8,.i .i64<|zn k 4,.i .i64<|zn p 100]])<|cond (ieq d 10) (oN (zB a 8)<|some [.agg [.s .u8 c.b,.i .i64 j.i,.i .i64 j.h],.agg [.i .i64 9,.i .i64 g,.i .i64 f,.i .i64<|zn a 8,.i .i64 0,.i .i64 0]])<|cond (ieq d 11) (some [.agg [.s .u8 c.b,.i .i64 e.i,.i .i64 e.h],.agg [.i .i64 10,.i .i64 g,.i .i64 f,.i .i64 0,.i .i64 0,.i .i64 0]])<|cond (ieq d 12) (oN (zB a 16)<|oN (zB t 100)<|some [.agg [.s .u8 c.b,.i .i64 (zf t 100).i,.i .i64 (zf t 100).h],.agg [.i .i64 11,.i .i64 g,.i .i64 f,.i .i64<|zn a 16,.i .i64<|zn t 100,.i .i64 0]])<|cond (ieq d 13) (oN (zB a 16)<|some [.agg [.s .u8 c.b,.i .i64 (zf a 16).i,.i .i64 (zf a 16).h],.agg [.i .i64 12,.i .i64 g,.i .i64 f,.i .i64<|zn a 16,.i .i64 0,.i .i64 0]])<|cond (ieq d 14) (cond (ieq d 14) A z)<|cond (ieq d 15) A z) λv=>share (cond (ieq d 4) (oN (zB a 100)<|some [.agg [.s .u8 c.b,.i .i64 (zf a 100).i,.i .i64 (zf a 100).h],.agg [.i .i64 4,.i .i64 g,.i .i64 f,.i .i64<|zn a 100,.i .i64 0,.i .i64 0]])<|cond (ieq d 5) (cond (ieq d 5) (some [.agg [.s .u8 c.b,.i .i64 e.i,.i .i64 e.h],.agg [.i .i64 5,.i .i64 g,.i .i64 f,.i .i64 0,.i .i64 0,.i .i64 0]]) v)<|cond (ieq d 6) (some [.agg [.s .u8 c.b,.i .i64 e.i,.i .i64 e.h],.agg [.i .i64 5,.i .i64 g,.i .i64 f,.i .i64 0,.i .i64 0,.i .i64 0]]) v) λw=>share (cond (ieq d 2) (cond (ieq d 2) x w)<|cond (ieq d 3) x w) λB=>oN (zB c 2)<|oN (zB m 2)<|oN (zB u 24)<|cond (ieq d 0) (cond (ieq d 0) y B)<|cond (ieq d 1) y B)
def zrP (c:Cur)(s:Cur)(a:GAct):Prop:=(∃N,zyZ N c=some (AV.agg (zb1 s)::[aT .act a]))/\(s.b=c.b/\0<=s.i)/\(True)
def ziR (c:Cur)  : Bool:=wC (zrP c)
def zgT (c:Cur)  : Cur:=wS (zrP c)
def zoa (c:Cur)  : GAct:=wV (zrP c)
theorem z0A {c:Cur}(h:ziR c=true):zrP c (zgT c) (zoa c):=wG h
theorem z0C (c:Cur)  : 0<=(zgT c).i:=wP λh=>h.2.1.2
theorem z0B (c:Cur)(h:∃N,Ends (wE (λa=>aT .act a) c.b λa=>True)<|zyZ N c):ziR c=true:=wI (λ_ _ h=>h) h
def zAO:zea:=rP0 λc=>(ziR c,zgT c,[aT .act<|zoa c])
theorem zN0:zbV Tryz.prog 146 [false,true,true] zAO:=hP0 zee zZ zIn zq (zx []) (λ_ h=>(z0A h).1)
theorem zbaU {c:Cur}(h:zbe c):ziR c=true:=by
 refine z0B c ⟨0,?_⟩;unfold zyZ oN;conv=>zeta
 refine znY (zem<|zem<|?_) (λ_ g=>znY (zbE (λ_=>zem (zem<|?_)) λ_=>?_) λ_ f=>znY (zem<|zem<|zem<|?_) λ_ e=>znY (zem<|?_) λ_ d=>znY (zbE (λ_=>zem (?_)) λ_=>zbE (λ_=>zem (zbE (λ_=>?_) λ_=>?_)) λ_=>zbE (λ_=>zem (zem<|zem<|?_)) λ_=>zbE (λ_=>zem (?_)) λ_=>zbE (λ_=>?_) λ_=>zbE (λ_=>zem (zem<|?_)) λ_=>zbE (λ_=>zem (?_)) λ_=>zbE (λ_=>zbE (λ_=>g) λ_=>f) λ_=>zbE (λ_=>g) λ_=>f) λ_ a=>znY (zbE (λ_=>zem (?_)) λ_=>zbE (λ_=>zbE (λ_=>?_) λ_=>a) λ_=>zbE (λ_=>?_) λ_=>a) λ_ b=>znY (zbE (λ_=>zbE (λ_=>d) λ_=>b) λ_=>zbE (λ_=>d) λ_=>b) λ_ i=>zem (zem<|zem<|zbE (λ_=>zbE (λ_=>e) λ_=>i) λ_=>zbE (λ_=>e) λ_=>i));all_goals exact zbO (aT .act) (v:=⟨_,_,_,_,_,_⟩) (by first|exact zG _ _|exact zb3 _ _|exact zzV _) trivial
def zlg (N:Nat)  : OA :=
 (iter (σ:=(Int×lA×Unit)) N (λe c=>cond (ilt c.1 2) (iter (σ:=(Int×Int×lA×Unit)) N (λf b=>cond (ilt b.2.1 2) (iter (σ:=(Int×Int×Int×lA×Unit)) N (λg a=>let d:=ap a.2.2.2.1 [(⟨2,a.1,a.2.1,a.2.2.1,zM .i64 a.2.2.1<|zk5 .i64 3 a.2.1,3⟩:GAct),(⟨3,a.1,a.2.1,a.2.2.1,0,0⟩:GAct)]; (cond (ilt a.2.2.1 3) (oN (few<|ln d)<|g (a.1,a.2.1,zM .i64 a.2.2.1 1,d,()))<|f (a.1,zM .i64 a.2.1 1,a.2.2.2.1,()))) (b.1,b.2.1,0,b.2.2.1,()))<|e (zM .i64 b.1 1,b.2.2.1,())) (c.1,0,c.2.1,()))<|some [aS .act c.2.1]) (0,[],()))
def zPd:=zx [(275,0,{n:=34,tm:=[(1,.sl 0 []),(2,ti)],lo:=[],ro:=[(0,.act,true)]}),(275,2,{n:=34,tm:=[(1,.sl 0 []),(2,ti),(3,ti)],lo:=[],ro:=[(0,.act,true)]}),(275,4,{n:=34,tm:=[(1,.sl 0 []),(2,ti),(3,ti),(4,ti)],lo:=[],ro:=[(0,.act,true)]})]
def zsW  (a:List GAct):Prop:=(∃N,zlg N=some [aS .act a])/\(a.length<=45)
def zjU  : Bool:=uC (T:=List GAct) (λr=>zsW r)
def zVr  : List GAct:=uV (λr=>zsW r)
def ztE  : List GAct:=(zVr)
theorem zDG  (h:zjU=true):zsW ztE:=uG h
theorem zVq  (h:∃N,Ends (λa=>∃b,a=[aS .act b]/\(b.length<=45))<|zlg N):zjU=true:=by obtain⟨N,a,e,b,rfl,h⟩:=h;exact zbw ⟨b,⟨N,e⟩,h⟩
def zyz:Run:=rF0 (zjU,[aS .act ztE])
theorem zOB  (a:zjU=true):∃N,zlg N  = some [aS .act ztE]:=by exact(zDG a).1
theorem zHX:vM 275 zyz:=kF0 zee zZ zIn zq zPd zOB
def z1a:List GAct:=match zlg 10 with
 |some [.one<|.s .act l]=>l
 |_=>[]
theorem zXQ:zjU=true:=zVq ⟨10,_,(by kernel_rfl:zlg 10=some [aS .act z1a]),z1a,rfl,Nat.le_of_ble_eq_true (by kernel_rfl)⟩
def z7E:zcU:=[(146,[false,true,true],zAO)]++z7D
theorem zUQ:zb5 z7E:=zcp zIn (by
 intro x a;simp only[qG,qN,or_false]at a;rcases a with rfl
 .exact zN0)
def z96:zbb:=[(275,zyz)]++zML
theorem z1e:zS z96:=zi zHX zee
theorem zQg {c:Cur}(h:zbe c){m:Int}(e:0<=m)(J:m<=1000){G:Ans->Prop}{R:Cur->List GAct->Ans}(D:∀s l,s.b=c.b->0<=s.i->ln l<=45+m->G (R s l)){F:(Int×Int×Int×Int×List GAct×List Int×Unit->OA)->Int×Int×Int×Int×List GAct×List Int×Unit->OA}(C:∀rec t i k l,F rec (m,t,i,k,l,c.b,())=bif zB ⟨c.b,i,k⟩ (zM .i64 m 1) then (bif ilt t (zn ⟨c.b,i,k⟩ (zM .i64 m 1)) then (bif ziR { zf ⟨c.b,i,k⟩ (zM .i64 m 1) with b:=c.b } then (bif few (ln (ap l [zoa { zf ⟨c.b,i,k⟩ (zM .i64 m 1) with b:=c.b }])) then
        rec (m,zM .i64 t 1,(zgT {zf ⟨c.b,i,k⟩ (zM .i64 m 1) with b:=c.b}).i,(zgT {zf ⟨c.b,i,k⟩ (zM .i64 m 1) with b:=c.b}).h,ap l [zoa {zf ⟨c.b,i,k⟩ (zM .i64 m 1) with b:=c.b}],c.b,()) else none) else none) else some (R ⟨c.b,(zf ⟨c.b,i,k⟩ (zM .i64 m 1)).i,(zf ⟨c.b,i,k⟩ (zM .i64 m 1)).h⟩ l)) else none){w I:Int}(f:0<=w){g:List GAct}(E:g.length<=45):Ends G (iter 1002 F (m,0,w,I,g,c.b,())):=by
 refine zjm (fun n s=>s.1=m/\s.2.1+(n:Int)=1000/\0<=s.2.1/\0<=s.2.2.1/\(ln s.2.2.2.2.1<=45+s.2.1/\s.2.1<=m)/\s.2.2.2.2.2.1=c.b) ?_ 1002 1000 _ ⟨rfl,rfl,kB 0,f,⟨by unfold ln;show ((g.length:Nat):Int)<=45+0;omega,e⟩,rfl⟩ (by omega)
 rintro n ⟨q,t,i,k,l,b,u⟩ rec ⟨e,z,j,p,⟨A,H⟩,r⟩ d
 dsimp only at e z j p A r H
 subst r;subst e;rw[C];have a:zbe ⟨c.b,i,k⟩:=zbS h p;have L:=zh8 (x:=q) (y:=1) (by omega) (by omega) (by omega) (by omega)
 have M:=zfw a (n:=zM .i64 q 1) (by omega)
 have B:zbe {zf ⟨c.b,i,k⟩ (zM .i64 q 1) with b:=c.b}:=zbS h (zG _ _);refine zF (zbz a _) (zbE (fun v=>?_) (fun v=>?_))
 .have hlt:t<zn ⟨c.b,i,k⟩ (zM .i64 q 1):=qD v;have K:=zh8 (y:=1) j (by omega) (by omega) (by omega)
  refine zF (zbaU B) (zF (zjo (by rw[zhd];omega)) (d (n-1) _ (by omega) ⟨rfl,?_,?_,z0C _,⟨?_,?_⟩,rfl⟩))
  .show zM .i64 t 1+_=1000
   omega
  .show 0<=zM .i64 t 1
   omega
  .show ln (ap l [_])<=45+zM .i64 t 1
   rw[zhd];omega
  .show zM .i64 t 1<=q
   omega
 .refine zuh (D _ l rfl (zG _ _) ?_);omega
def zwM (N:Nat)(c:Cur)(p:Int):OA:=
 (oN (zc7 c 5)<|cond (nB<|zdh c 5) (oN zjU<|iter (σ:=(Int×Int×Int×Int×lA×(List Int)×Unit)) N (λn a=>let l:=a.2.2.2.2.2.1;let f:=zM .i64 a.1 1;let d:=(⟨l,a.2.2.1,a.2.2.2.1⟩:Cur);let j:=({ (zf d f) with b:=l}:Cur);let q:=ap a.2.2.2.2.1 [zoa j]; (oN (zB d f)<|cond (ilt a.2.1<|zn d f) (oN (ziR j)<|oN (few<|ln q)<|n (a.1,zM .i64 a.2.1 1,(zgT j).i,(zgT j).h,q,l,()))<|some [.agg [.s .u8 l,.i .i64 (zf d f).i,.i .i64 (zf d f).h],aS .act a.2.2.2.2.1])) (p,0,(zT c 5).i,(zT c 5).h,ztE,c.b,()))<|iter (σ:=(Int×Int×Int×Int×lA×(List Int)×Unit)) N (λn a=>let m:=a.2.2.2.2.2.1;let g:=zM .i64 a.1 1;let e:=(⟨m,a.2.2.1,a.2.2.2.1⟩:Cur);let k:=({ (zf e g) with b:=m}:Cur);let r:=ap a.2.2.2.2.1 [zoa k]; (oN (zB e g)<|cond (ilt a.2.1<|zn e g) (oN (ziR k)<|oN (few<|ln r)<|n (a.1,zM .i64 a.2.1 1,(zgT k).i,(zgT k).h,r,m,()))<|some [.agg [.s .u8 m,.i .i64 (zf e g).i,.i .i64 (zf e g).h],aS .act a.2.2.2.2.1])) (p,0,(zT c 5).i,(zT c 5).h,[],c.b,()))
def zSf:=zx [(139,0,{n:=26,tm:=[(0,.lp 0 0),(1,ti),(5,.sl 0 []),(6,ti)],lo:=[(0,[.sl 1 [],ti,ti])],ro:=[(0,.act,true),(1,.u8,false)]})]
def zqa (c:Cur)(a:Int)(s:Cur)(d:List GAct):Prop:=(∃N,zwM N c a=some (AV.agg (zb1 s)::[aS .act d]))/\(s.b=c.b/\0<=s.i)/\(ln d<=45+a)
def znv (c:Cur)(a:Int):Bool:=wC (zqa c a)
def znw (c:Cur)(a:Int):Cur:=wS (zqa c a)
def zsk (c:Cur)(a:Int):List GAct:=wV (zqa c a)
theorem zGA {c:Cur}{a:Int}(h:znv c a=true):zqa c a (znw c a) (zsk c a):=wG h
theorem zXr (c:Cur)(a:Int):0<=(znw c a).i:=wP λh=>h.2.1.2
theorem zXq (c:Cur)(a:Int)(h:∃N,Ends (wE (λd=>aS .act d) c.b λd=>ln d<=45+a)<|zwM N c a):znv c a=true:=wI (λ_ _ h=>h) h
def zyh:zea:=rP1 dI λc b=>(znv c b,znw c b,[aS .act<|zsk c b])
theorem zKX:zbV Tryz.prog 139 [false,true,true] zyh:=hP1 z1e zZ zUQ zq zSf (λ_ _ h=>(zGA h).1)
theorem z02 {c:Cur}(h:zbe c){m:Int}(e:0<=m)(f:m<=1000):znv c m=true:=by
 refine zXq c m ⟨1002,?_⟩;unfold zwM oN nB;conv=>zeta
 have g:=zDG zXQ;exact zF (zjF h 5) (zbE (λ_=>zF zXQ (zQg h e f (R:=λs l=>AV.agg (zb1 s)::[aS .act l]) (λs l a b d=>⟨s,l,rfl,⟨a,b⟩,d⟩) (λrec t i k l=>rfl) (zcr _ _) g.2)) λ_=>zQg h e f (R:=λs l=>AV.agg (zb1 s)::[aS .act l]) (λs l a b d=>⟨s,l,rfl,⟨a,b⟩,d⟩) (λrec t i k l=>rfl) (zcr _ _) (j3 _))
def z7F:zcU:=[(139,[false,true,true],zyh)]++z7E
theorem zUR:zb5 z7F:=zcp zUQ (by
 intro x a;simp only[qG,qN,or_false]at a;rcases a with rfl
 .exact zKX)
@[simp] abbrev zgH (l:List (List Int)):Bool:=pc (SmM l)
@[simp] abbrev zdZ (l:List (List Int)):List (List Int):=l
def zAQ:Run:=rF1 (dS<|.sl .int) λb=>(zgH b,[aS (.sl .int)<|zdZ b])
def zFs (N:Nat)(c:lM):OA:=
 (iter (σ:=(Int×Int×lM×lM×Unit)) N (λd a=>let b:=ix a.2.2.2.1 a.2.1 []; (cond (ilt a.2.1 a.1) (oN (inb a.2.1<|ln a.2.2.2.1)<|oN (zd4 b)<|oN (few<|ln<|ap a.2.2.1 [zd2 b])<|d (a.1,zM .i64 a.2.1 1,ap a.2.2.1 [zd2 b],a.2.2.2.1,()))<|some [aS (.sl .int) a.2.2.1])) (ln c,0,[],c,()))
def zR6:=zx [(192,0,{n:=20,tm:=[(3,.sl 0 []),(7,.sl 1 []),(8,ti),(9,ti)],lo:=[],ro:=[(0,.sl .int,true),(1,.sl .int,false)]})]
theorem zRm (a:List (List Int))(g:zgH a=true):∃N,zFs N a=some [aS (.sl .int)<|zdZ a]:=by
 have f:=zQ.1 g;have e:=zdj f.1;refine zcA λN d=>?_;unfold zFs oN;conv=>zeta
 refine(zbm a (λi (t:lM)=>(ln a,(i:Int),t,a,())) _ (λ_ x b j=>bif zd4 x then (cond (few<|ln<|ap b [zd2 x]) (j<|ap b [zd2 x]) none) else none) (λ(t:lM)=>some [.one<|.s (.sl .int) t]) (λi c t rec=>?_) (λt rec=>?_) _ ([])<|d e.1).trans ?_;{simp only [zbG c,zbi c,zbp c,zbh c e.1,cT]};{simp only [zbt,cF]};exact zj5 zd4 zd2 _ a 0 [] (λx h=>⟨by exact zbw (qT (f.2 x h) (by decide)),rfl⟩) (by simpa using e.2)
theorem zKi:vM 192 zAQ:=kF1 zgz zA zy zq zR6 zRm
@[simp] abbrev zN (g:Guest):Bool:=pc (SmG g)
@[simp] abbrev zcM (g:Guest):Guest:=g
def zv6:Run:=rF1 (dT .guest) λb=>(zN b,[aT .guest<|zcM b])
def zAg (N:Nat)(a:Guest):OA:=
 (oN (zuw a.Prog)<|oN (zhm a.Written)<|oN (zhm a.Live)<|oN (zd4 a.Seen)<|some [aT .guest ({a with Prog:=(zoP a.Prog),Written:=(zfN a.Written),Live:=(zfN a.Live),Seen:=(zd2 a.Seen)}:Guest)])
theorem zLd (a:Guest)(b:zN a=true):∃N,zAg N a=some [aT .guest<|zcM a]:=by have c:=zQ.1 b;obtain⟨h,i,j,k⟩:=c;have d:a.Prog.length<=2147483648:=(by omega);have e:a.Written.length<=2147483648:=(by omega);have f:a.Live.length<=2147483648:=(by omega);have g:a.Seen.length<=2147483648:=(by omega);refine⟨0,?_⟩;unfold zAg oN;refine mu (mu<|mu<|mu ?_);first|rfl|(simp only [*,zcM,cT,cF]<;>rfl)|simp_all[Ty.cells,zcM]
theorem zEy:vM 287 zv6:=kF1 zgz zA zy zq (zx []) zLd
def zeP (t:List Slot)(p n:Int):Bool:=bif ieq (zbH t p).Page (-1) then false else (cond (enough (zbH t p).Rights n) (zk n 1 3) false)
def zcg (t:List Slot)(p n:Int):Int:=bif zeP t p n then (zbH t p).Page else -1
theorem z5t {r:Int}(h:zdS r=true):0<=r/\r<=3:=zfA.1 h
theorem zZo {a n:Int}(h:enough a n=true):zk n 1 3 = !ieq n 0:=by unfold enough at h;cases b:zdS a;{rw [b]at h;cases h};{cases c:zdS n;{rw [b,c]at h;cases h};{have:=z5t c;have e:(zk n 1 3=true)↔(!ieq n 0)=true:=(by rw[zfA];simp[ieq];omega);cases d:zk n 1 3<;>cases f:(!ieq n 0)<;>simp_all}}
@[simp] abbrev zhl (t:List Slot)(p n:Int):Bool:=true
@[simp] abbrev zeR (t:List Slot)(p n:Int):Int:=zcg t p n
@[simp] abbrev zej (t:List Slot)(p n:Int):Bool:=zeP t p n
def zk9:Run:=rF3 (dS .slot) dI dI λb c d=>(zhl b c d,[aI<|zeR b c d,aB<|zej b c d])
def zAe (N:Nat)(c:lS)(d a:Int):OA:=
 let b:=zfy c d; (oN (zhG c d)<|cond (ieq b.Page<|-1) (some [aI<|-1,aB false])<|oN (zbA b.Rights a)<|cond (nB<|zcY b.Rights a) (some [aI<|-1,aB false])<|oN (zO a 1 3)<|cond (nB<|zk a 1 3) (some [aI<|-1,aB false])<|some [aI b.Page,aB true])
theorem zLb (a:List Slot)(b c:Int)(d:zhl a b c=true):∃N,zAe N a b c=some [aI<|zeR a b c,aB<|zej a b c]:=by
 refine⟨0,?_⟩;unfold zAe oN nB;conv=>zeta
 refine must rfl (br (λ_=>?_) λ_=>must rfl (brN (λ_=>?_) λ_=>must rfl (brN (λ_=>?_) λ_=>?_)));all_goals first|rfl|(simp only [*,zeR,zej,zcg,zeP,cT,cF]<;>rfl)|simp_all[Ty.cells,zeR,zej,zcg,zeP]
theorem zEw:vM 299 zk9:=kF3 zgz zA zy zq (zx []) zLb
def zAv (N:Nat)(c:lS)(d b:Int):OA:=
 let a:=zfy c d; (oN (zhG c d)<|cond (ieq a.Page<|-1) (some [aI<|-1,aB false])<|oN (zbA a.Rights b)<|cond (nB<|zcY a.Rights b) (some [aI<|-1,aB false])<|cond (ieq b 0) (some [aI<|-1,aB false])<|some [aI a.Page,aB true])
theorem zLs (a:List Slot)(b c:Int)(d:zhl a b c=true):∃N,zAv N a b c=some [aI<|zeR a b c,aB<|zej a b c]:=by
 have e:=@zZo (zbH a b).Rights c;refine⟨0,?_⟩;unfold zAv oN nB;conv=>zeta
 refine must rfl (br (λ_=>?_) λ_=>must rfl (brN (λ_=>?_) λ_=>br (λ_=>?_) λ_=>?_));all_goals first|rfl|(simp only [*,zeR,zej,zcg,zeP,cT,cF]<;>rfl)|simp_all[Ty.cells,zeR,zej,zcg,zeP]
theorem zEL:vM 233 zk9:=kF3 zgz zA zy zq (zx []) zLs
def z6V:zbb:=[(369,zis),(192,zAQ),(287,zv6),(233,zk9),(299,zk9),(111,zrq),(263,zrq),(360,zpm),(398,zpm),(248,zrn),(317,zrn),(356,zo6),(375,zo6)]++z6U
theorem zgA:zS z6V:=zi zok (zi zKi<|zi zEy<|zi zEL<|zi zEw<|zi zQ3<|zi zQR<|zi zNG<|zi zNg<|zi zQZ<|zi zQO<|zi zNK<|zi zNm zgz)
@[simp] abbrev zfk (m:List (List Int))(p c v:Int):Bool:=pc (SmM m)
@[simp] abbrev zft (m:List (List Int))(p c v:Int):List (List Int):=zbQ m p c v
def zmw:Run:=rF4 (dS<|.sl .int) dI dI dI λb c d e=>(zfk b c d e,[aS (.sl .int)<|zft b c d e])
def zB8 (N:Nat)(c:lM)(a d e:Int):OA:=
 let b:=zfc c; (oN (zgP c)<|oN (zfv c a d)<|cond (zqT c a d) (oN (zO e 0 99)<|cond (zk e 0 99) (oN (inb a<|ln b)<|oN (inb d<|ln<|ix b a [])<|share (up b a<|up (ix b a []) d e) λf=>some [aS (.sl .int) f])<|some [aS (.sl .int) b])<|some [aS (.sl .int) b])
theorem zOy (a:List (List Int))(b c d:Int)(e:zfk a b c d=true):∃N,zB8 N a b c d=some [aS (.sl .int)<|zft a b c d]:=by
 have g:=zQ.1 e;have f:=(zzJ a b c).1;refine⟨0,?_⟩;unfold zB8 oN;conv=>zeta
 refine mu (must rfl (br (λ_=>must rfl (br (λ_=>mu (mu<|shr ?_)) λ_=>?_)) λ_=>?_));all_goals first|rfl|(simp only [*,zft,zbQ,cT,cF]<;>rfl)|simp_all[Ty.cells,zft,zbQ]
theorem zHO:vM 217 zmw:=kF4 zgA zA zy zq (zx []) zOy
def zBH (N:Nat)(a:lM)(b c d:Int):OA:=
 let e:=aS (.sl .int)<|zdZ a; (oN (zgH a)<|oN (zbA b<|ln a)<|cond (zdo b<|ln a) (oN (inb b<|ln a)<|oN (zbA c<|ln<|ix a b [])<|cond (zdo c<|ln<|ix a b []) (oN (zO d 0 99)<|cond (zk d 0 99) (oN (inb b<|ln<|zdZ a)<|oN (inb c<|ln<|ix (zdZ a) b [])<|share (up (zdZ a) b<|up (ix (zdZ a) b []) c d) λf=>some [aS (.sl .int) f])<|some [e])<|some [e])<|some [e])
theorem zOa (a:List (List Int))(b c d:Int)(e:zfk a b c d=true):∃N,zBH N a b c d=some [aS (.sl .int)<|zft a b c d]:=by
 have f:=zQ.1 e;refine⟨0,?_⟩;unfold zBH oN;conv=>zeta
 refine mu (must rfl (br (λ_=>mu (must rfl (br (λ_=>must rfl (br (λ_=>mu (mu<|shr ?_)) λ_=>?_)) λ_=>?_))) λ_=>?_));all_goals first|rfl|(simp only [*,zft,zbQ,zgv,cT,cF]<;>rfl)|simp_all[Ty.cells,zft,zbQ,zgv]
theorem zHq:vM 155 zmw:=kF4 zgA zA zy zq (zx []) zOa
def zja (g:Guest):Bool:=bif canRun g then (cond g.Ctl.Open (ige (zd7 g.Pending) 0) false) else false
@[simp] abbrev zbs (g:Guest):Bool:=true
@[simp] abbrev zko (g:Guest):Bool:=zja g
def zmv:Run:=rF1 (dT .guest) λb=>(zbs b,[aB<|zko b])
def zB7 (N:Nat)(a:Guest):OA:=
 (oN (ztu a)<|cond (zn8 a) (cond a.Ctl.Open (oN (zcd a.Pending)<|some [aB<|ige (zhk a.Pending) 0]) oF) oF)
theorem zx0 (a:Guest)(b:zbL big [aT .guest a])(c:zbs a=true):∃N,zB7 N a=some [aB<|zko a]:=by refine⟨0,?_⟩;unfold zB7 oN;refine must rfl (br (λ_=>br (λ_=>must rfl ?_) λ_=>?_) λ_=>?_);all_goals first|rfl|(simp only [*,zko,zja,cT,cF]<;>rfl)|simp_all[Ty.cells,zko,zja]
theorem zHN:vM 339 zmv:=hF1 zgA zA zy zq (zx []) zx0
theorem zHp:vM 284 zmv:=hF1 zgA zA zy zq (zx []) zx0
def zix (p:Int):Int:=bif ilt (zd7 p) 0 then p else wsub .i64 p (zlX .i64 1<|zd7 p)
def zoS (p:Int):Int:=bif ilt (zd7 p) 0 then -1 else zd7 p
theorem zQG {p:Int}(h:ilt (zd7 p) 0=false):wcv .u64 (zd7 p)=zd7 p/\ile 0 (zd7 p)=true/\zz7 .i64 p (zlX .i64 1<|zd7 p)=wsub .i64 p (zlX .i64 1<|zd7 p):=by unfold zd7 at *;cases a:zdM p;{rw [a]at h;cases h};{simp only [a,cT]at h ⊢;obtain⟨c,d⟩:=zfA.1 a;have r:=zDe (P:=λx=>-1<=scan x/\scan x<=7/\(0<=scan x->wsub .i64 x (zlX .i64 1<|scan x)=zz7 .i64 x (zlX .i64 1<|scan x))) zVs c d;have b:0<=scan p:=(by unfold ilt at h;have:=jR h;omega);exact⟨zPj b (by omega),qI b,(r.2.2 b).symm⟩}
@[simp] abbrev zfS (p:Int):Int:=zix p
@[simp] abbrev zfT (p:Int):Int:=zoS p
@[simp] abbrev zhT (p:Int):Bool:=!ilt (zd7 p) 0
def znK:Run:=rF1 dI λb=>(zcd b,[aI<|zfS b,aI<|zfT b,aB<|zhT b])
def zFR (N:Nat)(a:Int):OA:=
 (oN (zcd a)<|cond (ilt (zhk a) 0) (some [aI a,aI<|-1,aB false])<|oN (ile 0<|wcv .u64<|zhk a)<|some [aI<|wsub .i64 a<|zlX .i64 1<|wcv .u64<|zhk a,aI<|zhk a,aB true])
theorem zRI (a:Int)(b:zcd a=true):∃N,zFR N a=some [aI<|zfS a,aI<|zfT a,aB<|zhT a]:=by have c:=@zQG a;refine⟨0,?_⟩;unfold zFR oN;refine must rfl (br (λ_=>?_) λ_=>mu ?_);all_goals first|rfl|(simp only [*,zfS,zfT,zhT,zix,zoS,cT,cF]<;>rfl)|simp_all[Ty.cells,zfS,zfT,zhT,zix,zoS]
theorem zKD:vM 250 znK:=kF1 zgA zA zy zq (zx []) zRI
def zFr (N:Nat)(a:Int):OA:=
 (oN (zcd a)<|cond (ilt (zhk a) 0) (some [aI a,aI<|-1,aB false])<|oN (ile 0<|zhk a)<|some [aI<|zz7 .i64 a<|zlX .i64 1<|zhk a,aI<|zhk a,aB true])
theorem zRl (a:Int)(b:zcd a=true):∃N,zFr N a=some [aI<|zfS a,aI<|zfT a,aB<|zhT a]:=by have c:=@zQG a;refine⟨0,?_⟩;unfold zFr oN;refine must rfl (br (λ_=>?_) λ_=>mu ?_);all_goals first|rfl|(simp only [*,zfS,zfT,zhT,zix,zoS,cT,cF]<;>rfl)|simp_all[Ty.cells,zfS,zfT,zhT,zix,zoS]
theorem zKh:vM 320 znK:=kF1 zgA zA zy zq (zx []) zRl
def saw (g:Guest)(n:Int):Guest:=bif ilt (ln g.Seen) 40 then {g with Seen:=ap g.Seen [n]} else g
@[simp] theorem zOU {g:Guest}(n:Int)(h:SmG g):SmG (saw g n):=by unfold saw;cases a:ilt (ln g.Seen) 40;{exact h};{have:=qD a;refine⟨h.1,h.2.1,h.2.2.1,?_⟩;simp[ln] at *;omega}
@[simp] abbrev ztS (g:Guest)(n:Int):Bool:=pc (SmG g)
@[simp] abbrev zpI (g:Guest)(n:Int):Guest:=saw g n
def zwf:Run:=rF2 (dT .guest) dI λb c=>(ztS b c,[aT .guest<|zpI b c])
def zXO (N:Nat)(a:Guest)(b:Int):OA:=
 (oN (zdT a)<|cond (ilt (ln (zdi a).Seen) 40) (oN (few<|ln<|ap (zdi a).Seen [b])<|some [aT .guest ({ (zdi a) with Seen:=(ap (zdi a).Seen [b])}:Guest)])<|some [aT .guest<|zdi a])
theorem z2r (a:Guest)(b:Int)(c:ztS a b=true):∃N,zXO N a b=some [aT .guest<|zpI a b]:=by have d:=zQ.1 c;have e:a.Seen.length<=1048576:=d.2.2.2;refine⟨0,?_⟩;unfold zXO oN;refine mu (br (λ_=>mu ?_) λ_=>?_);all_goals first|rfl|(simp only [*,zpI,saw,cT,cF]<;>rfl)|simp_all[Ty.cells,zpI,saw]
theorem zWL:vM 341 zwf:=kF2 zgA zA zy zq (zx []) z2r
def zXK (N:Nat)(a:Guest)(b:Int):OA:=
 (oN (zN a)<|cond (ilt (ln a.Seen) 40) (oN (few<|ln<|ap (zcM a).Seen [b])<|some [aT .guest ({ (zcM a) with Seen:=(ap (zcM a).Seen [b])}:Guest)])<|some [aT .guest<|zcM a])
theorem z2m (a:Guest)(b:Int)(c:ztS a b=true):∃N,zXK N a b=some [aT .guest<|zpI a b]:=by have d:=zQ.1 c;have e:a.Seen.length<=1048576:=d.2.2.2;refine⟨0,?_⟩;unfold zXK oN;refine mu (br (λ_=>mu ?_) λ_=>?_);all_goals first|rfl|(simp only [*,zpI,saw,cT,cF]<;>rfl)|simp_all[Ty.cells,zpI,saw]
theorem zWH:vM 289 zwf:=kF2 zgA zA zy zq (zx []) z2m
def stopped (g:Guest)(e:GExit):Guest:={g with Exit:=e}
@[simp] theorem zbaS {g:Guest}(e:GExit)(h:SmG g):SmG (stopped g e):=h
@[simp] abbrev zcO (g:Guest)(e:GExit):Bool:=pc (SmG g)
@[simp] abbrev zcy (g:Guest)(e:GExit):Guest:=stopped g e
def znI:Run:=rF2 (dT .guest) dE λb c=>(zcO b c,[aT .guest<|zcy b c])
def zFP (N:Nat)(a:Guest)(b:GExit):OA:=
 (oN (zdT a)<|some [aT .guest ({ (zdi a) with Exit:=b}:Guest)])
theorem zRG (a:Guest)(b:GExit)(c:zcO a b=true):∃N,zFP N a b=some [aT .guest<|zcy a b]:=by have d:=zQ.1 c;refine⟨0,?_⟩;unfold zFP oN;refine mu ?_;first|rfl|(simp only [*,zcy,stopped,cT,cF]<;>rfl)|simp_all[Ty.cells,zcy,stopped]
theorem zKB:vM 235 znI:=kF2 zgA zA zy zq (zx []) zRG
def zFp (N:Nat)(a:Guest)(b:GExit):OA:=
 (oN (zN a)<|some [aT .guest ({ (zcM a) with Exit:=b}:Guest)])
theorem zRj (a:Guest)(b:GExit)(c:zcO a b=true):∃N,zFp N a b=some [aT .guest<|zcy a b]:=by have d:=zQ.1 c;refine⟨0,?_⟩;unfold zFp oN;refine mu ?_;first|rfl|(simp only [*,zcy,stopped,cT,cF]<;>rfl)|simp_all[Ty.cells,zcy,stopped]
theorem zKf:vM 153 znI:=kF2 zgA zA zy zq (zx []) zRj
def zb7 (g:Guest):Guest:=bif ige g.Pc 12 then {g with Pc:=12} else {g with Pc:=zM .i64 g.Pc 1}
@[simp] theorem zlV {g:Guest}(h:SmG g):SmG (zb7 g):=by unfold zb7;cases ige g.Pc 12<;>exact h
@[simp] abbrev zch (g:Guest):Guest:=zb7 g
def zhN:Run:=rF1 (dT .guest) λb=>(zN b,[aT .guest<|zch b])
def zPA (N:Nat)(a:Guest):OA:=
 (oN (zdT a)<|cond (ige (zdi a).Pc 12) (some [aT .guest ({ (zdi a) with Pc:=12}:Guest)])<|some [aT .guest ({ (zdi a) with Pc:=(zM .i64 (zdi a).Pc 1)}:Guest)])
theorem zW0 (a:Guest)(b:zN a=true):∃N,zPA N a=some [aT .guest<|zch a]:=by have c:=zQ.1 b;refine⟨0,?_⟩;unfold zPA oN;refine mu (br (λ_=>?_) λ_=>?_);all_goals first|rfl|(simp only [*,zch,zb7,cT,cF]<;>rfl)|simp_all[Ty.cells,zch,zb7]
theorem zQ5:vM 245 zhN:=kF1 zgA zA zy zq (zx []) zW0
def zPq (N:Nat)(a:Guest):OA:=
 (oN (zN a)<|cond (ige a.Pc 12) (some [aT .guest ({ (zcM a) with Pc:=12}:Guest)])<|some [aT .guest ({ (zcM a) with Pc:=(zM .i64 a.Pc 1)}:Guest)])
theorem zWR (a:Guest)(b:zN a=true):∃N,zPq N a=some [aT .guest<|zch a]:=by have c:=zQ.1 b;refine⟨0,?_⟩;unfold zPq oN;refine mu (br (λ_=>?_) λ_=>?_);all_goals first|rfl|(simp only [*,zch,zb7,cT,cF]<;>rfl)|simp_all[Ty.cells,zch,zb7]
theorem zQU:vM 288 zhN:=kF1 zgA zA zy zq (zx []) zWR
def z6W:zbb:=[(217,zmw),(155,zmw),(339,zmv),(284,zmv),(250,znK),(320,znK),(341,zwf),(289,zwf),(235,znI),(153,znI),(245,zhN),(288,zhN)]++z6V
theorem ze7:zS z6W:=zi zHO (zi zHq<|zi zHN<|zi zHp<|zi zKD<|zi zKh<|zi zWL<|zi zWH<|zi zKB<|zi zKf<|zi zQ5<|zi zQU zgA)
def interrupted (g:Guest):Guest:=bif zja g then saw {g with Pending:=zix g.Pending} (zM .i64 100<|zoS g.Pending) else g
@[simp] theorem zYy {g:Guest}(h:SmG g):SmG (interrupted g):=by unfold interrupted;cases zja g;{exact h};{exact zOU (g:={g with Pending:=zix g.Pending}) _ h}
@[simp] abbrev zeU (g:Guest):Guest:=interrupted g
def zjh:Run:=rF1 (dT .guest) λb=>(zN b,[aT .guest<|zeU b])
def zvq (N:Nat)(a:Guest):OA:=
 let c:=zM .i64 100<|zfT a.Pending;let b:=({a with Pending:=(zfS a.Pending)}:Guest); (oN (zbs a)<|cond (nB<|zko a) (oN (zdT a)<|some [aT .guest<|zdi a])<|oN (zcd a.Pending)<|oN (ztS b c)<|some [aT .guest<|zpI b c])
theorem zE8 (a:Guest)(b:zN a=true):∃N,zvq N a=some [aT .guest<|zeU a]:=by
 have c:=zQ.1 b;have d:_/\_/\_/\_:=c;refine⟨0,?_⟩;unfold zvq oN nB;conv=>zeta
 refine must rfl (brN (λ_=>mu ?_) λ_=>must rfl (mu ?_));all_goals first|rfl|(simp only [*,zeU,interrupted,cT,cF]<;>rfl)|simp_all[Ty.cells,zeU,interrupted]
theorem zBw:vM 205 zjh:=kF1 ze7 zA zy zq (zx []) zE8
def zvf (N:Nat)(a:Guest):OA:=
 let c:=zM .i64 100<|zfT a.Pending;let b:=({a with Pending:=(zfS a.Pending)}:Guest); (oN (zbs a)<|cond (nB<|zko a) (oN (zN a)<|some [aT .guest<|zcM a])<|oN (zcd a.Pending)<|oN (ztS b c)<|some [aT .guest<|zpI b c])
theorem zEY (a:Guest)(b:zN a=true):∃N,zvf N a=some [aT .guest<|zeU a]:=by
 have c:=zQ.1 b;have d:_/\_/\_/\_:=c;refine⟨0,?_⟩;unfold zvf oN nB;conv=>zeta
 refine must rfl (brN (λ_=>mu ?_) λ_=>must rfl (mu ?_));all_goals first|rfl|(simp only [*,zeU,interrupted,cT,cF]<;>rfl)|simp_all[Ty.cells,zeU,interrupted]
theorem zBm:vM 297 zjh:=kF1 ze7 zA zy zq (zx []) zEY
def zx6 (o:Int):Int:=bif ieq o 3 then 3 else (cond (ieq o 4) 4<|cond (ieq o 5) 5<|cond (ieq o 6) 6<|cond (ieq o 7) 7 2)
def zL (g:Guest):Int:=bif canRun g then (cond (zja g) 1<|zx6 (zci g.Prog g.Pc).Op) else 0
@[simp] abbrev zht (g:Guest):Int:=zL g
def zpq:Run:=rF1 (dT .guest) λb=>(zbs b,[aI<|zht b])
def zJs (N:Nat)(a:Guest):OA:=
 let b:=(zdF a.Prog a.Pc).Op; (oN (ztu a)<|cond (nB<|zn8 a) (some [aI 0])<|oN (zbs a)<|cond (zko a) (some [aI 1])<|oN (zdN a.Prog a.Pc)<|cond (ieq b 3) (some [aI 3])<|cond (ieq b 4) (some [aI 4])<|cond (ieq b 5) (some [aI 5])<|cond (ieq b 6) (some [aI 6])<|cond (ieq b 7) (some [aI 7])<|some [aI 2])
theorem zC7 (a:Guest)(b:zbL big [aT .guest a])(c:zbs a=true):∃N,zJs N a=some [aI<|zht a]:=by
 refine⟨0,?_⟩;unfold zJs oN nB;conv=>zeta
 refine must rfl (brN (λ_=>?_) λ_=>must rfl (br (λ_=>?_) λ_=>must rfl (br (λ_=>?_) λ_=>br (λ_=>?_) λ_=>br (λ_=>?_) λ_=>br (λ_=>?_) λ_=>br (λ_=>?_) λ_=>?_)));all_goals first|rfl|(simp only [*,zht,zL,zx6,cT,cF]<;>rfl)|simp_all[Ty.cells,zht,zL,zx6]
theorem zcv:vM 204 zpq:=hF1 ze7 zA zy zq (zx []) zC7
theorem zNo:vM 148 zpq:=hF1 ze7 zA zy zq (zx []) zC7
def held (g:Guest):Guest:=zb7 {g with Halted:=true}
@[simp] theorem zVx {g:Guest}(h:SmG g):SmG (held g):=zlV (g:={g with Halted:=true}) h
@[simp] abbrev zkH (g:Guest):Guest:=held g
def ztt:Run:=rF1 (dT .guest) λb=>(zN b,[aT .guest<|zkH b])
def zSD (N:Nat)(b:Guest):OA:=
 let a:=({b with Halted:=true}:Guest); (oN (zN a)<|some [aT .guest<|zch a])
theorem zLq (a:Guest)(d:zbL big [aT .guest a])(b:zN a=true):∃N,zSD N a=some [aT .guest<|zkH a]:=by
 have c:=zQ.1 b;have e:_/\_/\_/\_:=c;refine⟨0,?_⟩;unfold zSD oN;conv=>zeta
 refine mu ?_;first|rfl|(simp only [*,zkH,held,cT,cF]<;>rfl)|simp_all[Ty.cells,zkH,held]
theorem zTF:vM 246 ztt:=hF1 ze7 zA zy zq (zx []) zLq
theorem zTA:vM 293 ztt:=hF1 ze7 zA zy zq (zx []) zLq
def zJp (N:Nat)(a:Guest):OA:=
 (oN (zN a)<|some [aT .guest<|zch a])
theorem zC6 (a:Guest)(c:zbL big [aT .guest a])(b:zN a=true):∃N,zJp N a=some [aT .guest<|zch a]:=by have d:=zQ.1 b;refine⟨0,?_⟩;unfold zJp oN;refine mu ?_;first|rfl|(simp only [*,zch,cT,cF]<;>rfl)|simp_all[Ty.cells,zch]
theorem zNJ:vM 237 zhN:=hF1 ze7 zA zy zq (zx []) zC6
theorem zNl:vM 157 zhN:=hF1 ze7 zA zy zq (zx []) zC6
def loaded (g:Guest)(v:Int):Guest:=zb7 (saw {g with A:=v} v)
@[simp] theorem zL9 {g:Guest}(v:Int)(h:SmG g):SmG (loaded g v):=zlV (zOU (g:={g with A:=v}) v h)
@[simp] abbrev zmA (g:Guest)(v:Int):Bool:=pc (SmG g)
@[simp] abbrev zkl (g:Guest)(v:Int):Guest:=loaded g v
def zph:Run:=rF2 (dT .guest) dI λb c=>(zmA b c,[aT .guest<|zkl b c])
def zJf (N:Nat)(c:Guest)(a:Int):OA:=
 let b:=({c with A:=a}:Guest); (oN (ztS b a)<|oN (zN<|zpI b a)<|some [aT .guest<|zch<|zpI b a])
theorem zC2 (b:Guest)(a:Int)(e:zbL big [aT .guest b,aI a])(d:zmA b a=true):∃N,zJf N b a=some [aT .guest<|zkl b a]:=by
 have c:=zQ.1 d;have h:_/\_/\_/\_:=c;have f:SmG (saw {b with A:=a} a):=zOU (g:={b with A:=a}) a c;refine⟨0,?_⟩;unfold zJf oN;conv=>zeta
 refine mu (mu ?_);first|rfl|(simp only [*,zkl,loaded,cT,cF]<;>rfl)|simp_all[Ty.cells,zkl,loaded]
theorem zNz:vM 238 zph:=hF2 ze7 zA zy zq (zx []) zC2
theorem zM8:vM 158 zph:=hF2 ze7 zA zy zq (zx []) zC2
def zq0 (g:Guest)(w:Int):Guest:=bif ieq w 5 then stopped g (zx7 (zci g.Prog g.Pc).X) else stopped g ⟨4,0,false,0⟩
@[simp] theorem zbaT {g:Guest}(w:Int)(h:SmG g):SmG (zq0 g w):=by unfold zq0;cases ieq w 5<;>exact h
@[simp] abbrev zm5 (g:Guest)(w:Int):Bool:=pc (SmG g)
@[simp] abbrev zjY (g:Guest)(w:Int):Guest:=zq0 g w
def zAS:Run:=rF2 (dT .guest) dI λb c=>(zm5 b c,[aT .guest<|zjY b c])
def zFu (N:Nat)(a:Guest)(c:Int):OA:=
 let b:=(zdF a.Prog a.Pc).X; (cond (ieq c 5) (oN (zdN a.Prog a.Pc)<|oN (zeL b)<|oN (zcO a<|zfI b)<|some [aT .guest<|zcy a<|zfI b])<|oN (zcO a (⟨4,0,false,0⟩:GExit))<|some [aT .guest<|zcy a (⟨4,0,false,0⟩:GExit)])
theorem zRo (a:Guest)(b:Int)(c:zm5 a b=true):∃N,zFu N a b=some [aT .guest<|zjY a b]:=by
 have d:=zQ.1 c;refine⟨0,?_⟩;unfold zFu oN;conv=>zeta
 refine br (λ_=>must rfl (must rfl (mu ?_))) (λ_=>mu ?_);all_goals first|rfl|(simp only [*,zjY,zq0,cT,cF]<;>rfl)|simp_all[Ty.cells,zjY,zq0]
theorem zKk:vM 292 zAS:=kF2 ze7 zA zy zq (zx []) zRo
def zdV (g:Guest):Bool:=zdw g.Prog&&(zk g.A 0 99&&(zk g.Pc 0 12&&(zdd g.Written 4 8&&(zdd g.Live 4 8&&(zl8 g.Ctl&&(zdM g.Pending&&(ziH g.Exit&&ile (ln g.Seen) 40)))))))
@[simp] abbrev zhP (g:Guest):Bool:=zdV g
def znF:Run:=rF1 (dT .guest) λb=>(zbs b,[aB<|zhP b])
def zFB (N:Nat)(a:Guest):OA:=
 (oN (ztz a.Prog)<|cond (zhs a.Prog) (oN (zO a.A 0 99)<|cond (zk a.A 0 99) (oN (zO a.Pc 0 12)<|cond (zk a.Pc 0 12) (oN (zi1 a.Written 4 8)<|cond (zeM a.Written 4 8) (oN (zi1 a.Live 4 8)<|cond (zeM a.Live 4 8) (oN (zgn a.Ctl)<|cond (zqO a.Ctl) (oN (zcd a.Pending)<|cond (zew a.Pending) (oN (ztv a.Exit)<|cond (zlH a.Exit) (some [aB<|ile (ln a.Seen) 40]) oF) oF) oF) oF) oF) oF) oF) oF)
theorem zAC (a:Guest)(b:zbL big [aT .guest a])(c:zbs a=true):∃N,zFB N a=some [aB<|zhP a]:=by refine⟨0,?_⟩;unfold zFB oN;refine must rfl (br (λ_=>must rfl (br (λ_=>must rfl (br (λ_=>must rfl (br (λ_=>must rfl (br (λ_=>must rfl (br (λ_=>must rfl (br (λ_=>must rfl (br (λ_=>?_) λ_=>?_)) λ_=>?_)) λ_=>?_)) λ_=>?_)) λ_=>?_)) λ_=>?_)) λ_=>?_)) λ_=>?_);all_goals first|rfl|(simp only [*,zhP,zdV,cT,cF]<;>rfl)|simp_all[Ty.cells,zhP,zdV]
theorem zKn:vM 257 znF:=hF1 ze7 zA zy zq (zx []) zAC
theorem zKa:vM 366 znF:=hF1 ze7 zA zy zq (zx []) zAC
@[simp] abbrev zjv (l:List Guest):Bool:=pc (zlh l)
@[simp] abbrev zju (l:List Guest):List Guest:=l
def zuN:Run:=rF1 (dS .guest) λb=>(zjv b,[aS .guest<|zju b])
def zxr (N:Nat)(c:lG):OA:=
 (iter (σ:=(Int×Int×lG×lG×Unit)) N (λd a=>let b:=ix a.2.2.2.1 a.2.1 zu; (cond (ilt a.2.1 a.1) (oN (inb a.2.1<|ln a.2.2.2.1)<|oN (zN b)<|oN (few<|ln<|ap a.2.2.1 [zcM b])<|d (a.1,zM .i64 a.2.1 1,ap a.2.2.1 [zcM b],a.2.2.2.1,()))<|some [aS .guest a.2.2.1])) (ln c,0,[],c,()))
def zIE:=zx [(227,0,{n:=20,tm:=[(3,.sl 0 []),(7,.sl 1 []),(8,ti),(9,ti)],lo:=[],ro:=[(0,.guest,true),(1,.guest,false)]})]
theorem zH2 (a:List Guest)(g:zjv a=true):∃N,zxr N a=some [aS .guest<|zju a]:=by
 have f:=zQ.1 g;have e:=zdj f.1;refine zcA λN d=>?_;unfold zxr oN;conv=>zeta
 refine(zbm a (λi (t:lG)=>(ln a,(i:Int),t,a,())) _ (λ_ x b j=>bif zN x then (cond (few<|ln<|ap b [zcM x]) (j<|ap b [zcM x]) none) else none) (λ(t:lG)=>some [.one<|.s .guest t]) (λi c t rec=>?_) (λt rec=>?_) _ ([])<|d e.1).trans ?_;{simp only [zbG c,zbi c,zbp c,zbh c e.1,cT]};{simp only [zbt,cF]};exact zj5 zN zcM _ a 0 [] (λx h=>⟨by exact zbw (f.2 x h),rfl⟩) (by simpa using e.2)
theorem zCG:vM 227 zuN:=kF1 ze7 zA zy zq zIE zH2
def gAt (b:Bare)(i:Int):Guest:=bif hasB i (ln b.Guests) then ix b.Guests i zu else Ty.dflt .guest
@[simp] theorem zjW {b:Bare}(i:Int)(h:SmB b):SmG (gAt b i):=by unfold gAt;cases a:hasB i (ln b.Guests);{exact zbbi};{exact zVy h.2.1 a _}
@[simp] abbrev zwW (b:Bare)(i:Int):Bool:=pc (SmB b)
@[simp] abbrev zm3 (b:Bare)(i:Int):Guest:=gAt b i
@[simp] abbrev zm4 (b:Bare)(i:Int):Bool:=hasB i (ln b.Guests)
def zAP:Run:=rF2 (dT .bare) dI λb c=>(zwW b c,[aT .guest<|zm3 b c,aB<|zm4 b c])
def zFm (N:Nat)(a:Bare)(b:Int):OA:=
 let c:=ix a.Guests b zu; (oN (zbA b<|ln a.Guests)<|cond (nB<|zdo b<|ln a.Guests) (some [aT .guest (⟨[],0,0,[],[],⟨0,0,false⟩,0,⟨0,0,false,0⟩,false,[]⟩:Guest),aB false])<|oN (inb b<|ln a.Guests)<|oN (zN c)<|some [aT .guest<|zcM c,aB true])
theorem zRg (a:Bare)(b:Int)(d:zwW a b=true):∃N,zFm N a b=some [aT .guest<|zm3 a b,aB<|zm4 a b]:=by
 have c:=zQ.1 d;have e:a.Guests.length<=1048576:=c.2.1.1;have f:hasB b (ln a.Guests)=true->SmG (ix a.Guests b zu):=λh=>zVy c.2.1 h _;refine⟨0,?_⟩;unfold zFm oN nB;conv=>zeta
 refine must rfl (brN (λ_=>?_) λ_=>mu (mu ?_));all_goals first|rfl|(simp only [*,zm3,zm4,gAt,Ty.dflt,cT,cF]<;>rfl)|simp_all[Ty.cells,zm3,zm4,gAt,Ty.dflt]
theorem zJ9:vM 294 zAP:=kF2 ze7 zA zy zq (zx []) zRg
def z6X:zbb:=[(205,zjh),(297,zjh),(204,zpq),(148,zpq),(246,ztt),(293,ztt),(237,zhN),(157,zhN),(238,zph),(158,zph),(292,zAS),(257,znF),(366,znF),(227,zuN),(294,zAP)]++z6W
theorem ziW:zS z6X:=zi zBw (zi zBm<|zi zcv<|zi zNo<|zi zTF<|zi zTA<|zi zNJ<|zi zNl<|zi zNz<|zi zM8<|zi zKk<|zi zKn<|zi zKa<|zi zCG<|zi zJ9 ze7)
def plainly (g:Guest):Guest:=bif ine (zL g) 2 then g else (cond (zk g.A 0 99) (cond (zk (zci g.Prog g.Pc).X 0 99) (cond (ieq (zci g.Prog g.Pc).Op 1) {zb7 g with A:=(zci g.Prog g.Pc).X}<|cond (ieq (zci g.Prog g.Pc).Op 2) {zb7 g with A:=zmY (zM .i64 g.A (zci g.Prog g.Pc).X) 100}<|cond (ieq (zci g.Prog g.Pc).Op 8) (cond (ieq g.A 0) {zb7 g with Pc:=(zci g.Prog g.Pc).X}<|zb7 g)<|zb7 g)<|zb7 g)<|zb7 g)
@[simp] theorem zbba (g:Guest):(zb7 g).Prog=g.Prog:=by unfold zb7;cases ige g.Pc 12<;>rfl
@[simp] theorem zbbN (g:Guest):(zb7 g).A=g.A:=by unfold zb7;cases ige g.Pc 12<;>rfl
@[simp] theorem z9J (g:Guest):(zb7 g).Written=g.Written:=by unfold zb7;cases ige g.Pc 12<;>rfl
@[simp] theorem zba9 (g:Guest):(zb7 g).Live=g.Live:=by unfold zb7;cases ige g.Pc 12<;>rfl
@[simp] theorem zbbq (g:Guest):(zb7 g).Ctl=g.Ctl:=by unfold zb7;cases ige g.Pc 12<;>rfl
@[simp] theorem z9I (g:Guest):(zb7 g).Pending=g.Pending:=by unfold zb7;cases ige g.Pc 12<;>rfl
@[simp] theorem zba8 (g:Guest):(zb7 g).Exit=g.Exit:=by unfold zb7;cases ige g.Pc 12<;>rfl
@[simp] theorem zbaw (g:Guest):(zb7 g).Halted=g.Halted:=by unfold zb7;cases ige g.Pc 12<;>rfl
@[simp] theorem zbbb (g:Guest):(zb7 g).Seen=g.Seen:=by unfold zb7;cases ige g.Pc 12<;>rfl
@[simp] theorem zbbr (g:Guest)(x:Int):(zb7 {g with A:=x}).Pc=(zb7 g).Pc:=by unfold zb7;cases ige g.Pc 12<;>rfl
@[simp] theorem zGE {g:Guest}(h:SmG g):SmG (plainly g):=by have a:=zlV h;unfold plainly;cases ine (zL g) 2;{cases zk g.A 0 99;{exact a};{cases zk (zci g.Prog g.Pc).X 0 99;{exact a};{cases ieq (zci g.Prog g.Pc).Op 1;{cases ieq (zci g.Prog g.Pc).Op 2;{cases ieq (zci g.Prog g.Pc).Op 8;{exact a};{cases ieq g.A 0<;>exact a}};{exact a}};{exact a}}}};{exact h}
@[simp] abbrev zhK (g:Guest):Guest:=plainly g
def znD:Run:=rF1 (dT .guest) λb=>(zN b,[aT .guest<|zhK b])
def zFo (N:Nat)(a:Guest):OA:=
 let c:=aT .guest<|zch a;let b:=zdF a.Prog a.Pc; (oN (zbs a)<|cond (ine (zht a) 2) (oN (zN a)<|some [aT .guest<|zcM a])<|oN (zdN a.Prog a.Pc)<|oN (zN a)<|oN (zO a.A 0 99)<|cond (nB<|zk a.A 0 99) (some [c])<|oN (zO b.X 0 99)<|cond (nB<|zk b.X 0 99) (some [c])<|cond (ieq b.Op 1) (some [aT .guest ({ (zch a) with A:=b.X}:Guest)])<|cond (ieq b.Op 2) (oN (ine 100 0)<|some [aT .guest ({ (zch a) with A:=(zmY (zM .i64 a.A b.X) 100)}:Guest)])<|cond (ieq b.Op 8) (cond (ieq a.A 0) (some [aT .guest ({ (zch a) with Pc:=b.X}:Guest)])<|some [c])<|some [c])
theorem zRi (a:Guest)(b:zN a=true):∃N,zFo N a=some [aT .guest<|zhK a]:=by
 have c:=zQ.1 b;refine⟨0,?_⟩;unfold zFo oN nB;conv=>zeta
 refine must rfl (br (λ_=>mu ?_) λ_=>must rfl (mu (must rfl (brN (λ_=>?_) λ_=>must rfl (brN (λ_=>?_) λ_=>br (λ_=>?_) λ_=>br (λ_=>must rfl ?_) λ_=>br (λ_=>br (λ_=>?_) λ_=>?_) λ_=>?_)))));all_goals first|rfl|(simp only [*,zhK,plainly,cT,cF]<;>rfl)|simp_all[Ty.cells,zhK,plainly]
theorem zKe:vM 298 znD:=kF1 ziW zA zy zq (zx []) zRi
def zFN (N:Nat)(a:Guest):OA:=
 let i:=ieq a.A 0;let c:=zN a;let b:=aT .guest<|zch a;let d:=zdF a.Prog a.Pc;let j:=({a with A:=d.X}:Guest);let h:=ieq d.Op 8;let e:=zk d.X 0 99;let g:=aT .guest ({ (zdi a) with Pc:=d.X}:Guest);let f:=({a with A:=(zmY (zM .i64 a.A d.X) 100)}:Guest); (oN (zbs a)<|cond (ine (zht a) 2) (oN (zdT a)<|some [aT .guest<|zdi a])<|oN (zdN a.Prog a.Pc)<|oN (zO a.A 0 99)<|cond (zk a.A 0 99) (oN (zO d.X 0 99)<|cond e (cond (ieq d.Op 1) (oN (zN j)<|some [aT .guest<|zch j])<|cond e (cond (ieq d.Op 2) (oN (ine 100 0)<|oN (zN f)<|some [aT .guest<|zch f])<|cond e (cond h (cond i (oN (zdT a)<|some [g])<|oN c<|some [b])<|oN c<|some [b])<|oN c<|some [b])<|cond e (cond h (cond i (oN (zdT a)<|some [g])<|oN c<|some [b])<|oN c<|some [b])<|oN c<|some [b])<|cond e (cond (ieq d.Op 2) (oN (ine 100 0)<|oN (zN f)<|some [aT .guest<|zch f])<|cond e (cond h (cond i (oN (zdT a)<|some [g])<|oN c<|some [b])<|oN c<|some [b])<|oN c<|some [b])<|cond e (cond h (cond i (oN (zdT a)<|some [g])<|oN c<|some [b])<|oN c<|some [b])<|oN c<|some [b])<|oN c<|some [b])
theorem zRE (a:Guest)(b:zN a=true):∃N,zFN N a=some [aT .guest<|zhK a]:=by
 have c:=zQ.1 b;have d:_/\_/\_/\_:=c;refine⟨0,?_⟩;unfold zFN oN;conv=>zeta
 refine must rfl (br (λ_=>mu ?_) λ_=>must rfl (must rfl (br (λ_=>must rfl (br (λ_=>br (λ_=>mu ?_) λ_=>br (λ_=>br (λ_=>must rfl (mu ?_)) λ_=>br (λ_=>br (λ_=>br (λ_=>mu ?_) λ_=>mu ?_) λ_=>mu ?_) λ_=>mu ?_) λ_=>br (λ_=>br (λ_=>br (λ_=>mu ?_) λ_=>mu ?_) λ_=>mu ?_) λ_=>mu ?_) λ_=>br (λ_=>br (λ_=>must rfl (mu ?_)) λ_=>br (λ_=>br (λ_=>br (λ_=>mu ?_) λ_=>mu ?_) λ_=>mu ?_) λ_=>mu ?_) λ_=>br (λ_=>br (λ_=>br (λ_=>mu ?_) λ_=>mu ?_) λ_=>mu ?_) λ_=>mu ?_)) λ_=>mu ?_)));all_goals first|rfl|(simp only [*,zhK,plainly,cT,cF]<;>rfl)|simp_all[Ty.cells,zhK,plainly]
theorem zKz:vM 206 znD:=kF1 ziW zA zy zq (zx []) zRE
def address (g:Guest):Int:=bif ine (zL g) 3 then (cond (ine (zL g) 4) (-1)<|(zci g.Prog g.Pc).X) else (zci g.Prog g.Pc).X
@[simp] abbrev zg2 (g:Guest):Int:=address g
def znE:Run:=rF1 (dT .guest) λb=>(zbs b,[aI<|zg2 b])
def zFw (N:Nat)(a:Guest):OA:=
 (oN (zbs a)<|cond (ine (zht a) 3) (cond (ine (zht a) 4) (some [aI<|-1])<|oN (zdN a.Prog a.Pc)<|some [aI (zdF a.Prog a.Pc).X])<|oN (zdN a.Prog a.Pc)<|some [aI (zdF a.Prog a.Pc).X])
theorem zAB (a:Guest)(b:zbL big [aT .guest a])(c:zbs a=true):∃N,zFw N a=some [aI<|zg2 a]:=by refine⟨0,?_⟩;unfold zFw oN;refine must rfl (br (λ_=>br (λ_=>?_) λ_=>must rfl ?_) λ_=>must rfl ?_);all_goals first|rfl|(simp only [*,zg2,address,cT,cF]<;>rfl)|simp_all[Ty.cells,zg2,address]
theorem zKm:vM 232 znE:=hF1 ziW zA zy zq (zx []) zAB
theorem zJ8:vM 149 znE:=hF1 ziW zA zy zq (zx []) zAB
def zfK (g:Guest)(t w:Int):Guest:=bif ieq w 6 then stopped g (zt8 (zci g.Prog g.Pc).X) else (cond (ieq w 5&&zdW t 1) (stopped g<|zx7 (zci g.Prog g.Pc).X)<|cond (ieq w 7&&zdW t 2) (stopped g ⟨4,0,false,0⟩)<|cond (ieq w 7) (held g)<|zb7 g)
def zhj (t w:Int):Bool:=bif ieq w 6 then false else (cond (ieq w 5&&zdW t 1) false<|cond (ieq w 7&&zdW t 2) false true)
@[simp] theorem zDL {g:Guest}(t w:Int)(h:SmG g):SmG (zfK g t w):=by unfold zfK;cases ieq w 6;{cases (ieq w 5&&zdW t 1);{cases (ieq w 7&&zdW t 2);{cases ieq w 7;{exact zlV h};{exact zVx h}};{exact h}};{exact h}};{exact h}
@[simp] abbrev zer (g:Guest)(t w:Int):Bool:=pc (SmG g)
@[simp] abbrev zcs (g:Guest)(t w:Int):Guest:=zfK g t w
@[simp] abbrev zdU (g:Guest)(t w:Int):Bool:=zhj t w
def zA6:Run:=rF3 (dT .guest) dI dI λb c d=>(zer b c d,[aT .guest<|zcs b c d,aB<|zdU b c d])
def zFW (N:Nat)(a:Guest)(c b:Int):OA:=
 let g:=aT .guest<|zch a;let f:=aT .guest<|zkH a;let e:=(⟨4,0,false,0⟩:GExit);let d:=(zdF a.Prog a.Pc).X; (oN (zdN a.Prog a.Pc)<|cond (ieq b 6) (oN (zeL d)<|oN (zcO a<|zeB d)<|some [aT .guest<|zcy a<|zeB d,aB false])<|cond (ieq b 5) (oN (zfR c 1)<|cond (zfb c 1) (oN (zeL d)<|oN (zcO a<|zfI d)<|some [aT .guest<|zcy a<|zfI d,aB false])<|cond (ieq b 7) (oN (zfR c 2)<|cond (zfb c 2) (oN (zcO a e)<|some [aT .guest<|zcy a e,aB false])<|cond (ieq b 7) (oN (zN a)<|some [f,aB true])<|oN (zN a)<|some [g,aB true])<|cond (ieq b 7) (oN (zN a)<|some [f,aB true])<|oN (zN a)<|some [g,aB true])<|cond (ieq b 7) (oN (zfR c 2)<|cond (zfb c 2) (oN (zcO a e)<|some [aT .guest<|zcy a e,aB false])<|cond (ieq b 7) (oN (zN a)<|some [f,aB true])<|oN (zN a)<|some [g,aB true])<|cond (ieq b 7) (oN (zN a)<|some [f,aB true])<|oN (zN a)<|some [g,aB true])
theorem zRN (a:Guest)(b c:Int)(d:zer a b c=true):∃N,zFW N a b c=some [aT .guest<|zcs a b c,aB<|zdU a b c]:=by
 have e:=zQ.1 d;refine⟨0,?_⟩;unfold zFW oN;conv=>zeta
 refine must rfl (br (λ_=>must rfl (mu ?_)) λ_=>br (λ_=>must rfl (br (λ_=>must rfl (mu ?_)) λ_=>br (λ_=>must rfl (br (λ_=>mu ?_) λ_=>br (λ_=>mu ?_) λ_=>mu ?_)) λ_=>br (λ_=>mu ?_) λ_=>mu ?_)) λ_=>br (λ_=>must rfl (br (λ_=>mu ?_) λ_=>br (λ_=>mu ?_) λ_=>mu ?_)) λ_=>br (λ_=>mu ?_) λ_=>mu ?_);all_goals first|rfl|(simp only [*,zcs,zdU,zfK,zhj,cT,cF]<;>rfl)|simp_all[Ty.cells,zcs,zdU,zfK,zhj]
theorem zKP:vM 239 zA6:=kF3 ziW zA zy zq (zx []) zRN
def zbW (b:Bare):Bool:=bif b.Guests.all zdV then (ziK b.Memory 8&&(zk (ln b.Guests) 1 2&&(ile (ln b.Outs) 40&&zdM b.Pending))) else false
@[simp] abbrev zkk (b:Bare):Bool:=true
@[simp] abbrev zcV (b:Bare):Bool:=zbW b
def zpb:Run:=rF1 (dT .bare) λb=>(zkk b,[aB<|zcV b])
def zI7 (N:Nat)(c:Bare):OA:=
 (iter (σ:=(Int×Int×lM×lG×(List Int)×Unit)) N (λd a=>let b:=a.2.2.2.1; (cond (ilt a.1<|ln b) (oN (inb a.1<|ln b)<|oN (zbs<|ix b a.1 zu)<|cond (nB<|zhP<|ix b a.1 zu) oF<|d (zM .i64 a.1 1,a.2.1,a.2.2.1,b,a.2.2.2.2.1,()))<|oN (ziO a.2.2.1 8)<|cond (zfH a.2.2.1 8) (oN (zO (ln b) 1 2)<|cond (zk (ln b) 1 2) (cond (ile (ln a.2.2.2.2.1) 40) (oN (zcd a.2.1)<|some [aB<|zew a.2.1]) oF) oF) oF)) (0,c.Pending,c.Memory,c.Guests,c.Outs,()))
def zVX:=zx [(231,0,{n:=38,tm:=[(1,.lp 0 0),(3,ti)],lo:=[(0,[.sl 0 [],.sl 1 [],.sl 2 [],ti])],ro:=[(0,.sl .int,false),(1,.guest,false),(2,.int,false)]})]
theorem zT9 (a:Bare)(k:zbL big [aT .bare a])(m:zkk a=true):∃N,zI7 N a=some [aB<|zcV a]:=by
 have j:(_:List _).length<=big:=((zdq k).1 (.s .guest a.Guests) (by simp[AV.cvs,Ty.cells])).len;refine zcA λN h=>?_;unfold zI7 oN nB;conv=>zeta
 refine(zbm a.Guests (λi (t:Unit)=>((i:Int),a.Pending,a.Memory,a.Guests,a.Outs,())) _ (λ_ x (_:Unit) l=>bif (zdV) x then l () else oF) (λ(t:Unit)=>cond (ziO a.Memory 8) (cond (zfH a.Memory 8) (cond (zO (ln a.Guests) 1 2) (cond (zk (ln a.Guests) 1 2) (cond (ile (ln a.Outs) 40) (cond (zcd a.Pending) (some [.one<|.b<|zew a.Pending]) none) oF) oF) none) oF) none) (λi f t rec=>?_) (λt rec=>?_) _ ()<|h j).trans ?_;{simp only [zbG f,zbi f,zbp f,zbh f j,cT];exact ziU rfl};{simp only [zbt,cF]};rw[zhc<|zdV];refine br (λc=>?_) (λc=>?_);{refine must rfl ?_;refine br (λd=>?_) (λd=>?_);{refine must rfl ?_;refine br (λe=>?_) (λe=>?_);{refine br (λg=>?_) (λg=>?_);{refine must rfl ?_;first|rfl|(simp only [c,d,e,g,zcV,zbW,cT,cF]<;>rfl)|(simp_all [Ty.cells,zcV,zbW];done)};{first|rfl|(simp only [c,d,e,g,zcV,zbW,cT,cF]<;>rfl)|(simp_all [Ty.cells,zcV,zbW];done)}};{first|rfl|(simp only [c,d,e,zcV,zbW,cT,cF]<;>rfl)|(simp_all [Ty.cells,zcV,zbW];done)}};{first|rfl|(simp only [c,d,zcV,zbW,cT,cF]<;>rfl)|(simp_all [Ty.cells,zcV,zbW];done)}};{first|rfl|(simp only [c,zcV,zbW,cT,cF]<;>rfl)|(simp_all [Ty.cells,zcV,zbW];done)}
theorem zNs:vM 231 zpb:=hF1 ziW zA zy zq zVX zT9
def zIO (N:Nat)(b:Bare):OA:=
 (iter (σ:=(Int×Int×Int×lG×lM×(List Int)×Unit)) N (λe a=>let c:=a.2.2.2.1;let d:=ix c a.2.1 zu; (cond (ilt a.2.1 a.1) (oN (inb a.2.1<|ln c)<|oN (zbs d)<|cond (nB<|zhP d) oF<|e (a.1,zM .i64 a.2.1 1,a.2.2.1,c,a.2.2.2.2.1,a.2.2.2.2.2.1,()))<|oN (ziO a.2.2.2.2.1 8)<|cond (zfH a.2.2.2.2.1 8) (oN (zO (ln c) 1 2)<|cond (zk (ln c) 1 2) (cond (ile (ln a.2.2.2.2.2.1) 40) (oN (zcd a.2.2.1)<|some [aB<|zew a.2.2.1]) oF) oF) oF)) (ln b.Guests,0,b.Pending,b.Guests,b.Memory,b.Outs,()))
def zVP:=zx [(295,0,{n:=36,tm:=[(1,.lp 0 0),(6,.sl 0 []),(7,ti),(8,ti)],lo:=[(0,[.sl 1 [],.sl 0 [],.sl 2 [],ti])],ro:=[(0,.guest,false),(1,.sl .int,false),(2,.int,false)]})]
theorem zTQ (a:Bare)(k:zbL big [aT .bare a])(m:zkk a=true):∃N,zIO N a=some [aB<|zcV a]:=by
 have j:(_:List _).length<=big:=((zdq k).1 (.s .guest a.Guests) (by simp[AV.cvs,Ty.cells])).len;refine zcA λN h=>?_;unfold zIO oN nB;conv=>zeta
 refine(zbm a.Guests (λi (t:Unit)=>(ln a.Guests,(i:Int),a.Pending,a.Guests,a.Memory,a.Outs,())) _ (λ_ x (_:Unit) l=>bif (zdV) x then l () else oF) (λ(t:Unit)=>cond (ziO a.Memory 8) (cond (zfH a.Memory 8) (cond (zO (ln a.Guests) 1 2) (cond (zk (ln a.Guests) 1 2) (cond (ile (ln a.Outs) 40) (cond (zcd a.Pending) (some [.one<|.b<|zew a.Pending]) none) oF) oF) none) oF) none) (λi f t rec=>?_) (λt rec=>?_) _ ()<|h j).trans ?_;{simp only [zbG f,zbi f,zbp f,zbh f j,cT];exact ziU rfl};{simp only [zbt,cF]};rw[zhc<|zdV];refine br (λc=>?_) (λc=>?_);{refine must rfl ?_;refine br (λd=>?_) (λd=>?_);{refine must rfl ?_;refine br (λe=>?_) (λe=>?_);{refine br (λg=>?_) (λg=>?_);{refine must rfl ?_;first|rfl|(simp only [c,d,e,g,zcV,zbW,cT,cF]<;>rfl)|(simp_all [Ty.cells,zcV,zbW];done)};{first|rfl|(simp only [c,d,e,g,zcV,zbW,cT,cF]<;>rfl)|(simp_all [Ty.cells,zcV,zbW];done)}};{first|rfl|(simp only [c,d,e,zcV,zbW,cT,cF]<;>rfl)|(simp_all [Ty.cells,zcV,zbW];done)}};{first|rfl|(simp only [c,d,zcV,zbW,cT,cF]<;>rfl)|(simp_all [Ty.cells,zcV,zbW];done)}};{first|rfl|(simp only [c,zcV,zbW,cT,cF]<;>rfl)|(simp_all [Ty.cells,zcV,zbW];done)}
theorem zM0:vM 295 zpb:=hF1 ziW zA zy zq zVP zTQ
@[simp] abbrev zcw (b:Bare):Bool:=pc (SmB b)
@[simp] abbrev zbF (b:Bare):Bare:=b
def zmq:Run:=rF1 (dT .bare) λb=>(zcw b,[aT .bare<|zbF b])
def zBJ (N:Nat)(a:Bare):OA:=
 (oN (zgH a.Memory)<|oN (zjv a.Guests)<|oN (zd4 a.Outs)<|some [aT .bare (⟨zdZ a.Memory,zju a.Guests,zd2 a.Outs,a.Pending⟩:Bare)])
theorem zOc (a:Bare)(b:zcw a=true):∃N,zBJ N a=some [aT .bare<|zbF a]:=by have c:=zQ.1 b;have d:_/\_/\_:=c;refine⟨0,?_⟩;unfold zBJ oN;refine mu (mu<|mu ?_);first|rfl|(simp only [*,zbF,cT,cF]<;>rfl)|simp_all[Ty.cells,zbF]
theorem zHs:vM 92 zmq:=kF1 ziW zA zy zq (zx []) zOc
def zFV (N:Nat)(a:Bare):OA:=
 (oN (zgP a.Memory)<|oN (zgr a.Guests)<|oN (few<|ln<|ap [] a.Outs)<|some [aT .bare (⟨zfc a.Memory,zgS a.Guests,ap [] a.Outs,a.Pending⟩:Bare)])
theorem zRM (a:Bare)(b:zcw a=true):∃N,zFV N a=some [aT .bare<|zbF a]:=by have c:=zQ.1 b;have d:_/\_/\_:=c;refine⟨0,?_⟩;unfold zFV oN;refine mu (mu<|mu ?_);first|rfl|(simp only [*,zbF,cT,cF]<;>rfl)|simp_all[Ty.cells,zbF]
theorem zKO:vM 229 zmq:=kF1 ziW zA zy zq (zx []) zRM
def z6Y:zbb:=[(206,znD),(298,znD),(232,znE),(149,znE),(239,zA6),(231,zpb),(295,zpb),(92,zmq),(229,zmq)]++z6X
theorem zG8:zS z6Y:=zi zKz (zi zKe<|zi zKm<|zi zJ8<|zi zKP<|zi zNs<|zi zM0<|zi zHs<|zi zKO ziW)
def zd6 (b:Bare)(i:Int)(x:Guest):Bare:={b with Guests:=up b.Guests i x}
def zsn (b:Bare)(i:Int)(x:Guest):Bare:=bif hasB i (ln b.Guests) then zd6 b i x else b
def zjG (b:Bare)(n:Int):Bare:=bif ilt (ln b.Outs) 40 then {b with Outs:=ap b.Outs [n]} else b
@[simp] theorem zoc {b:Bare}{i:Int}{x:Guest}(h:SmB b)(a:SmG x):SmB (zd6 b i x):=⟨h.1,zEn h.2.1 a,h.2.2⟩
@[simp] theorem zL7 {b:Bare}{n:Int}(h:SmB b):SmB (zjG b n):=by unfold zjG;cases a:ilt (ln b.Outs) 40;{exact h};{have:=qD a;refine⟨h.1,h.2.1,?_⟩;simp[ln] at *;omega}
@[simp] theorem zbbG (b:Bare)(n:Int):(zjG b n).Guests=b.Guests:=by unfold zjG;cases ilt (ln b.Outs) 40<;>rfl
@[simp] theorem zz2 {m:List (List Int)}{p c v:Int}(h:SmM m):SmM (zbQ m p c v):=by unfold zbQ;cases a:zgv m p c;{exact h};{cases b:zk v 0 99;{exact h};{exact zMb h (by simpa using zbaK h ((zzJ m p c).1 a).1 [])}}
@[simp] abbrev zcK (b:Bare)(i:Int)(x:Guest):Bool:=pc (SmB b/\SmG x)
@[simp] abbrev zd9 (b:Bare)(i:Int)(x:Guest):Bare:=zsn b i x
def zv5:Run:=rF3 (dT .bare) dI (dT .guest) λb c d=>(zcK b c d,[aT .bare<|zd9 b c d])
def zAf (N:Nat)(a:Bare)(b:Int)(c:Guest):OA:=
 (oN (zcw a)<|oN (zbA b<|ln a.Guests)<|cond (zdo b<|ln a.Guests) (oN (zN c)<|oN (inb b<|ln (zbF a).Guests)<|share (up (zbF a).Guests b<|zcM c) λd=>some [aT .bare ({ (zbF a) with Guests:=d}:Bare)])<|some [aT .bare<|zbF a])
theorem zLc (a:Bare)(b:Int)(c:Guest)(d:zcK a b c=true):∃N,zAf N a b c=some [aT .bare<|zd9 a b c]:=by have e:=zQ.1 d;refine⟨0,?_⟩;unfold zAf oN;refine mu (must rfl (br (λ_=>mu (mu<|shr ?_)) λ_=>?_));all_goals first|rfl|(simp only [*,zd9,zsn,zd6,cT,cF]<;>rfl)|simp_all[Ty.cells,zd9,zsn,zd6]
theorem zEx:vM 296 zv5:=kF3 zG8 zA zy zq (zx []) zLc
@[simp] abbrev zf7 (b:Bare)(n:Int):Bool:=pc (SmB b)
@[simp] abbrev zqw (b:Bare)(n:Int):Bare:=zjG b n
def zDq:Run:=rF2 (dT .bare) dI λb c=>(zf7 b c,[aT .bare<|zqw b c])
def zIZ (N:Nat)(a:Bare)(b:Int):OA:=
 (oN (zcw a)<|cond (ilt (ln a.Outs) 40) (oN (few<|ln<|ap (zbF a).Outs [b])<|some [aT .bare ({ (zbF a) with Outs:=(ap (zbF a).Outs [b])}:Bare)])<|some [aT .bare<|zbF a])
theorem zT1 (a:Bare)(b:Int)(c:zf7 a b=true):∃N,zIZ N a b=some [aT .bare<|zqw a b]:=by have d:=zQ.1 c;have e:a.Outs.length<=1048576:=d.2.2;refine⟨0,?_⟩;unfold zIZ oN;refine mu (br (λ_=>mu ?_) λ_=>?_);all_goals first|rfl|(simp only [*,zqw,zjG,cT,cF]<;>rfl)|simp_all[Ty.cells,zqw,zjG]
theorem zNh:vM 302 zDq:=kF2 zG8 zA zy zq (zx []) zT1
def zZa:zbb:=[(296,zv5),(302,zDq)]++z6Y
theorem zqp:zS zZa:=zi zEx (zi zNh zG8)
def zk3 (b:Bare)(g:Int)(x:Guest)(w:Bool):Bare :=
 bif zeP x.Live (zbk<|address x) (zca w) then
  (bif w then zd6 {b with Memory:=zbQ b.Memory (zcg x.Live (zbk<|address x)<|zca w) (zdx<|address x) x.A} g (zb7 x)
  else zd6 b g (loaded x<|cellAt b.Memory (zcg x.Live (zbk<|address x)<|zca w)<|zdx<|address x))
 else zd6 b g (stopped x<|zr0 (zbk<|address x) w)
def zqX (b:Bare)(g:Int)(x:Guest)(w:Int):Bare :=
 zd6 (cond (cond (zhj x.Ctl.Traps w) (ieq w 5) false) (zjG b (zci x.Prog x.Pc).X) b) g (zfK x x.Ctl.Traps w)
def stepped (b:Bare)(g:Int)(x:Guest)(w:Int):Bare :=
 bif ieq w 1 then zd6 b g (interrupted x) else (cond (ieq w 2) (zd6 b g<|plainly x)<|cond (ieq w 3) (zk3 b g x false)<|cond (ieq w 4) (zk3 b g x true)<|zqX b g x w)
theorem tr1 (x:Guest)(t w:Int):ieq w 6=true->zfK x t w=stopped x (zt8 (zci x.Prog x.Pc).X)/\zhj t w=false:=by intro h;simp[zfK,zhj,h]
theorem tr2 (x:Guest)(t w:Int):ieq w 6=false->(ieq w 5=false->ieq w 6=false->ieq w 7=true)->zdW t (zfJ w)=true->zfK x t w=zq0 x w/\zhj t w=false:=by intro b c h;unfold zfK zhj zq0 zfJ at *;cases a:ieq w 5<;>simp_all
theorem tr3 (x:Guest)(t w:Int):ieq w 6=false->ieq w 7=false->zdW t (zfJ w)=false->ieq w 5=true->zfK x t w=zb7 x/\zhj t w=true:=by intro b c h a;unfold zfK zhj zfJ at *;simp_all
theorem tr4 (x:Guest)(t w:Int):ieq w 6=false->(ieq w 5=false->ieq w 6=false->ieq w 7=true)->zdW t (zfJ w)=false->ieq w 5=false->zfK x t w=held x:=by intro b c h a;unfold zfK zfJ at *;simp_all
def zg9 (b:Bare)(g:Int):Bool:=bif hasB g (ln b.Guests) then (cond (zbW b) (!ieq (zL<|gAt b g) 0) false) else false
def ze5 (b:Bare)(g:Int):Bare:=bif zg9 b g then stepped b g (gAt b g) (zL<|gAt b g) else b
@[simp] theorem zYx {b:Bare}{g:Int}{x:Guest}{w:Bool}(h:SmB b)(a:SmG x):SmB (zk3 b g x w):=by unfold zk3;cases zeP x.Live (zbk<|address x) (zca w);{exact zoc h a};{cases w;{exact zoc h (zL9 _ a)};{exact⟨zz2 h.1,zEn h.2.1<|zlV a,h.2.2⟩}}
@[simp] theorem z9z {b:Bare}{g:Int}{x:Guest}{w:Int}(h:SmB b)(a:SmG x):SmB (zqX b g x w):=by unfold zqX;cases (cond (zhj x.Ctl.Traps w) (ieq w 5) false);{exact zoc h (zDL _ _ a)};{exact zoc (zL7 h) (zDL _ _ a)}
@[simp] theorem zXA {b:Bare}{g:Int}{x:Guest}{w:Int}(h:SmB b)(a:SmG x):SmB (stepped b g x w):=by unfold stepped;cases ieq w 1;{cases ieq w 2;{cases ieq w 3;{cases ieq w 4;{exact z9z h a};{exact zYx h a}};{exact zYx h a}};{exact zoc h (zGE a)}};{exact zoc h (zYy a)}
@[simp] theorem zbbJ {b:Bare}{g:Int}(h:SmB b):SmB (ze5 b g):=by unfold ze5;cases zg9 b g;{exact h};{exact zXA h (zjW g h)}
theorem z0W (x:Guest):ieq (zL x) 0=false->ieq (zL x) 1=false->ieq (zL x) 2=false->ieq (zL x) 3=false->ieq (zL x) 4=false->ieq (zL x) 5=false->ieq (zL x) 6=false->ieq (zL x) 7=true:=by unfold zL zx6;cases canRun x;{intro h;cases h};{cases zja x;{simp only [cT,cF];generalize (zci x.Prog x.Pc).Op=o;cases ieq o 3<;>cases ieq o 4<;>cases ieq o 5<;>cases ieq o 6<;>cases ieq o 7<;>simp [ieq]};{intro _ h;cases h}}
theorem zX8 {x:Int}{a b:Int}(h:ieq x a=true)(c:ieq a b=false):ieq x b=false:=by have:x=a:=(by simpa [ieq] using h);rw[this];exact c
@[simp] abbrev zdl (b:Bare)(g:Int):Bool:=pc (SmB b)
@[simp] abbrev zjs (b:Bare)(g:Int):Bare:=ze5 b g
@[simp] abbrev zoO (b:Bare)(g:Int):Bool:=zg9 b g
def zqI:Run:=rF2 (dT .bare) dI λb c=>(zdl b c,[aT .bare<|zjs b c,aB<|zoO b c])
def zBD (N:Nat)(b:Bare)(c:Int):OA:=
 let g:=b.Memory;let l:=aT .bare<|zbF b;let a:=zm3 b c;let k:=a.Ctl.Traps;let t:=aT .bare<|zd9 b c<|zkH a;let d:=zht a;let r:=aT .bare<|zd9 b c<|zjY a d;let i:=zg2 a;let f:=zdf i;let e:=zb0 i;let h:=ieq d 4;let w:=zeq e h;let p:=aT .bare<|zd9 b c<|zcy a w;let j:=(zdF a.Prog a.Pc).X;let u:=zcK (zqw b j) c<|zch a;let n:=aT .bare<|zd9 (zqw b j) c<|zch a;let x:=zcy a<|zeB j;let m:=zeR a.Live e<|zc8 h;let v:=zgB g m f;let q:=aT .bare<|zd9 b c<|zkl a v;let y:=({b with Memory:=(zft g m f a.A)}:Bare);let s:=aT .bare<|zd9 y c<|zch a; (oN (zwW b c)<|oN (zbs a)<|oN (zkk b)<|cond (nB<|zcV b) (oN (zcw b)<|some [l,aB false])<|cond (nB<|zm4 b c) (oN (zcw b)<|some [l,aB false])<|cond (ieq d 0) (oN (zcw b)<|some [l,aB false])<|oN (zbs a)<|oN (zdN a.Prog a.Pc)<|cond (ieq d 1) (oN (zN a)<|oN (zcK b c<|zeU a)<|some [aT .bare<|zd9 b c<|zeU a,aB true])<|cond (ieq d 2) (oN (zN a)<|oN (zcK b c<|zhK a)<|some [aT .bare<|zd9 b c<|zhK a,aB true])<|cond (ieq d 3) (cond (ieq d 3) (oN (zbX i)<|oN (zkn h)<|oN (zhl a.Live e<|zc8 h)<|cond (nB<|zej a.Live e<|zc8 h) (oN (zbX i)<|oN (zgo e h)<|oN (zcO a w)<|oN (zcK b c<|zcy a w)<|some [p,aB true])<|cond h (oN (zbX i)<|oN (zfk g m f a.A)<|oN (zN a)<|oN (zcK y c<|zch a)<|some [s,aB true])<|oN (zbX i)<|oN (zfv g m f)<|oN (zmA a v)<|oN (zcK b c<|zkl a v)<|some [q,aB true])<|cond (ieq d 6) (oN (zeL j)<|oN (zcO a<|zeB j)<|oN (zcK b c x)<|some [aT .bare<|zd9 b c x,aB true])<|oN (zoQ d)<|oN (zfR k<|zie d)<|cond (zfb k<|zie d) (oN (zm5 a d)<|oN (zcK b c<|zjY a d)<|some [r,aB true])<|cond (ieq d 5) (oN (zf7 b j)<|oN (zN a)<|oN u<|some [n,aB true])<|oN (zN a)<|oN (zcK b c<|zkH a)<|some [t,aB true])<|cond h (oN (zbX i)<|oN (zkn h)<|oN (zhl a.Live e<|zc8 h)<|cond (nB<|zej a.Live e<|zc8 h) (oN (zbX i)<|oN (zgo e h)<|oN (zcO a w)<|oN (zcK b c<|zcy a w)<|some [p,aB true])<|cond h (oN (zbX i)<|oN (zfk g m f a.A)<|oN (zN a)<|oN (zcK y c<|zch a)<|some [s,aB true])<|oN (zbX i)<|oN (zfv g m f)<|oN (zmA a v)<|oN (zcK b c<|zkl a v)<|some [q,aB true])<|cond (ieq d 6) (oN (zeL j)<|oN (zcO a<|zeB j)<|oN (zcK b c x)<|some [aT .bare<|zd9 b c x,aB true])<|oN (zoQ d)<|oN (zfR k<|zie d)<|cond (zfb k<|zie d) (oN (zm5 a d)<|oN (zcK b c<|zjY a d)<|some [r,aB true])<|cond (ieq d 5) (oN (zf7 b j)<|oN (zN a)<|oN u<|some [n,aB true])<|oN (zN a)<|oN (zcK b c<|zkH a)<|some [t,aB true])
theorem zN6 (a:Bare)(b:Int)(f:zdl a b=true):∃N,zBD N a b=some [aT .bare<|zjs a b,aB<|zoO a b]:=by
 have c:=zQ.1 f;have j:=zjW b c;have k:_/\_/\_:=c;have hg:a.Guests.length<=1048576:=c.2.1.1;have g:=z0W (gAt a b);have d:ieq (zL<|gAt a b) 3=true->ieq (zL<|gAt a b) 4=false:=λh=>zX8 h rfl;have e:ieq (zL<|gAt a b) 5=true->ieq (zL<|gAt a b) 7=false:=λh=>zX8 h rfl;have l:=tr1 (gAt a b) (gAt a b).Ctl.Traps (zL<|gAt a b);have m:=tr2 (gAt a b) (gAt a b).Ctl.Traps (zL<|gAt a b);have p:=tr3 (gAt a b) (gAt a b).Ctl.Traps (zL<|gAt a b);have q:=tr4 (gAt a b) (gAt a b).Ctl.Traps (zL<|gAt a b);have i:∀n,SmB (zjG a n):=λn=>zL7 c;refine⟨0,?_⟩;unfold zBD oN nB;conv=>zeta
 refine mu (must rfl (must rfl (brN (λ_=>mu ?_) λ_=>brN (λ_=>mu ?_) λ_=>br (λ_=>mu ?_) λ_=>must rfl (must rfl (br (λ_=>mu (mu ?_)) λ_=>br (λ_=>mu (mu ?_)) λ_=>br (λ_=>br (λ_=>must rfl (must rfl (must rfl (brN (λ_=>must rfl (must rfl (mu<|mu ?_))) λ_=>br (λ_=>must rfl (mu<|mu<|mu ?_)) λ_=>must rfl (must rfl (mu<|mu ?_)))))) λ_=>br (λ_=>must rfl (mu<|mu ?_)) λ_=>must rfl (must rfl (br (λ_=>mu (mu ?_)) λ_=>br (λ_=>mu (mu<|mu ?_)) λ_=>mu (mu ?_)))) λ_=>br (λ_=>must rfl (must rfl (must rfl (brN (λ_=>must rfl (must rfl (mu<|mu ?_))) λ_=>br (λ_=>must rfl (mu<|mu<|mu ?_)) λ_=>must rfl (must rfl (mu<|mu ?_)))))) λ_=>br (λ_=>must rfl (mu<|mu ?_)) λ_=>must rfl (must rfl (br (λ_=>mu (mu ?_)) λ_=>br (λ_=>mu (mu<|mu ?_)) λ_=>mu (mu ?_))))))));all_goals first|rfl|(simp only [*,zjs,zoO,ze5,zg9,stepped,zk3,zqX,zsn,zca,cT,cF]<;>rfl)|simp_all[Ty.cells,zjs,zoO,ze5,zg9,stepped,zk3,zqX,zsn,zca]
theorem zuo:vM 161 zqI:=kF2 zqp zA zy zq (zx []) zN6
def SmK (k:Kept):Prop:=k.Known.length<=1048576/\k.Slots.length<=1048576
def zCf (l:List Kept):Prop:=l.length<=1048576/\∀x∈l,SmK x
def zf1 (m:Mon):Prop:=m.Outer.length<=1048576/\SmM m.Out/\m.Dirty.length<=1048576/\zlh m.Guests/\m.Outs.length<=1048576/\zCf m.Tables
def zrU (l:List Mon):Prop:=l.length<=1048576/\∀x∈l,zf1 x
def SmH (h:Host):Prop:=SmM h.Memory/\zrU h.Mons/\h.Buffer.length<=1048576/\h.IoBuffer.length<=1048576
@[simp] theorem zxD (k:Kept):(∀c∈Ty.cells .kept k,CVB sm c)↔SmK k:=by simp[Ty.cells,SmK,z5O]
@[simp] theorem z4C (l:List Kept):CVB sm (.s .kept l)↔zCf l:=by rw[zma];simp only[zxD];rfl
@[simp] theorem zXS (m:Mon):(∀c∈Ty.cells .mon m,CVB sm c)↔zf1 m:=by simp only[Ty.cells,qG,qN,or_false,vK,forall_eq,zqq,zvB,z4C,zZj,zWv,zWu,z7l,and_true,true_and];rfl
@[simp] theorem z8K (l:List Mon):CVB sm (.s .mon l)↔zrU l:=by rw[zma];simp only[zXS];rfl
@[simp] theorem zU (h:Host):zdI h↔SmH h:=by unfold zdI;simp only[zbl,qG,qN,or_false,vK,forall_eq,zqq,z8K,zTd];rfl
theorem zbq {p:Prop}(h:p):pc p=true:=zbw h
theorem zyI {l:List Kept}{i:Int}{x:Kept}(h:zCf l)(b:SmK x):zCf (up l i x):=by refine⟨by simpa using h.1,λy a=>?_⟩;rcases qX a with a|rfl;{exact h.2 y a};{exact b}
theorem zj2 {l:List Mon}{i:Int}{x:Mon}(h:zrU l)(b:zf1 x):zrU (up l i x):=by refine⟨by simpa using h.1,λy a=>?_⟩;rcases qX a with a|rfl;{exact h.2 y a};{exact b}
theorem zoh {a:Type}{l:List a}(h:l.length<=1048576):few (ln<|ap [] l)=true:=by rw[zm2,z8S];omega
@[simp] abbrev zbC (h:Host):Bool:=pc (zdI h)
@[simp] abbrev zl (h:Host):Host:=h
def zkF:Run:=rF1 dH λb=>(zbC b,[aH<|zl b])
def zFX (N:Nat)(b:Host):OA:=
 (oN (zgP b.Memory)<|oN (few<|ln<|ap [] b.Buffer)<|oN (few<|ln<|ap [] b.IoBuffer)<|iter (σ:=(Int×lM×lN×lE×lE×lM×lN×lE×lE×lM×lN×lE×lE×Unit)) N (λf a=>let e:=a.2.2.2.2.2.2.2.2.2.2.2.2.1;let d:=ix a.2.2.1 a.1 zh;let c:=ap a.2.2.2.2.2.2.2.2.2.2.1 [zqU d]; (cond (ilt a.1<|ln a.2.2.1) (oN (inb a.1<|ln a.2.2.1)<|oN (zp9 d)<|oN (few<|ln c)<|f (zM .i64 a.1 1,a.2.1,a.2.2.1,a.2.2.2.1,a.2.2.2.2.1,a.2.2.2.2.2.1,a.2.2.2.2.2.2.1,a.2.2.2.2.2.2.2.1,a.2.2.2.2.2.2.2.2.1,a.2.2.2.2.2.2.2.2.2.1,c,a.2.2.2.2.2.2.2.2.2.2.2.1,e,()))<|some [aH (⟨a.2.2.2.2.2.2.2.2.2.1,a.2.2.2.2.2.2.2.2.2.2.1,a.2.2.2.2.2.2.2.2.2.2.2.1,e⟩:Host)])) (0,b.Memory,b.Mons,b.Buffer,b.IoBuffer,[],[],[],[],zfc b.Memory,[],ap [] b.Buffer,ap [] b.IoBuffer,()))
def zSd:=zx [(73,0,{n:=36,tm:=[(1,.lp 0 0),(2,.lp 1 0),(3,.lp 2 0),(4,ti)],lo:=[(0,[.sl 0 [],.sl 1 [],.sl 2 [],.sl 3 []]),(1,[.sl 4 [],.sl 5 [],.sl 6 [],.sl 7 []]),(2,[.sl 8 [],.sl 9 [],.sl 10 [],.sl 11 []])],ro:=[(0,.sl .int,false),(1,.mon,false),(2,.entry,false),(3,.entry,false),(4,.sl .int,true),(5,.mon,true),(6,.entry,true),(7,.entry,true),(8,.sl .int,true),(9,.mon,true),(10,.entry,true),(11,.entry,true)]})]
theorem zRO (a:Host)(k:zbC a=true):∃N,zFX N a=some [aH<|zl a]:=by
 obtain⟨g,f,h,j⟩:=(zU a).1 (zQ.1 k);have e:=zdj f.1;refine zcA λN d=>?_;unfold zFX oN;conv=>zeta
 refine must (zbq<|(zqq _).2 g) (must (zoh h)<|must (zoh j) ?_);refine(zbm a.Mons (λi (t:lN)=>((i:Int),a.Memory,a.Mons,a.Buffer,a.IoBuffer,[],[],[],[],zfc a.Memory,t,ap [] a.Buffer,ap [] a.IoBuffer,())) _ (λ_ x b m=>bif zp9 x then (cond (few<|ln<|ap b [zqU x]) (m<|ap b [zqU x]) none) else none) (λ(t:lN)=>some [.agg<|zbl (⟨zfc a.Memory,t,ap [] a.Buffer,ap [] a.IoBuffer⟩:Host)]) (λi c t rec=>?_) (λt rec=>?_) _ ([])<|d e.1).trans ?_;{simp only [zbG c,zbi c,zbp c,zbh c e.1,cT]};{simp only [zbt,cF]};exact zj5 zp9 zqU _ a.Mons 0 [] (λx l=>⟨zbq<|(zXS x).2 (f.2 x l),rfl⟩) (by simpa using e.2)
theorem zKQ:vM 73 zkF:=kF1 zqp zA zy zq zSd zRO
@[simp] abbrev zeI (k:Kept):Bool:=pc (SmK k)
@[simp] abbrev zdK (k:Kept):Kept:=k
def zyk:Run:=rF1 (dT .kept) λb=>(zeI b,[aT .kept<|zdK b])
def zBM (N:Nat)(a:Kept):OA:=
 (oN (few<|ln<|ap [] a.Known)<|oN (zhm a.Slots)<|some [aT .kept (⟨ap [] a.Known,zfN a.Slots⟩:Kept)])
theorem zOf (a:Kept)(b:zeI a=true):∃N,zBM N a=some [aT .kept<|zdK a]:=by have c:=zQ.1 b;obtain⟨f,g⟩:=c;have d:a.Known.length<=2147483648:=(by omega);have e:a.Slots.length<=2147483648:=(by omega);refine⟨0,?_⟩;unfold zBM oN;refine mu (mu ?_);first|rfl|(simp only [*,zdK,cT,cF]<;>rfl)|simp_all[Ty.cells,zdK]
theorem zHu:vM 309 zyk:=kF1 zqp zA zy zq (zx []) zOf
def z6M:zbb:=[(73,zkF),(309,zyk)]++zZa
theorem zS6:zS z6M:=zi zKQ (zi zHu zqp)
@[simp] abbrev zkV (m:Mon):Bool:=pc (zf1 m)
@[simp] abbrev zlq (m:Mon):Mon:=m
def zAR:Run:=rF1 (dT .mon) λb=>(zkV b,[aT .mon<|zlq b])
def zFt (N:Nat)(b:Mon):OA:=
 (oN (zhm b.Outer)<|oN (zgH b.Out)<|oN (few<|ln<|ap [] b.Dirty)<|oN (zjv b.Guests)<|oN (zd4 b.Outs)<|iter (σ:=(Int×Int×Int×Int×Int×Int×Int×Int×lK×lK×lS×lM×lB×lG×(List Int)×lS×lM×lB×lG×(List Int)×lK×Unit)) N (λi a=>let h:=a.2.2.2.2.2.2.2.2.2.2.2.2.1;let g:=a.2.2.2.2.2.2.2.2.2.2.2.2.2.1;let f:=a.2.2.2.2.2.2.2.2.2.2.2.2.2.2.1;let e:=a.2.2.2.2.2.2.2.2.1;let d:=a.2.2.2.2.2.2.2.2.2.1;let c:=ix d a.2.1 zeC; (cond (ilt a.2.1 a.1) (oN (inb a.2.1<|ln d)<|oN (zeI c)<|oN (few<|ln<|ap e [zdK c])<|i (a.1,zM .i64 a.2.1 1,a.2.2.1,a.2.2.2.1,a.2.2.2.2.1,a.2.2.2.2.2.1,a.2.2.2.2.2.2.1,a.2.2.2.2.2.2.2.1,ap e [zdK c],d,a.2.2.2.2.2.2.2.2.2.2.1,a.2.2.2.2.2.2.2.2.2.2.2.1,h,g,f,a.2.2.2.2.2.2.2.2.2.2.2.2.2.2.2.1,a.2.2.2.2.2.2.2.2.2.2.2.2.2.2.2.2.1,a.2.2.2.2.2.2.2.2.2.2.2.2.2.2.2.2.2.1,a.2.2.2.2.2.2.2.2.2.2.2.2.2.2.2.2.2.2.1,a.2.2.2.2.2.2.2.2.2.2.2.2.2.2.2.2.2.2.2.1,a.2.2.2.2.2.2.2.2.2.2.2.2.2.2.2.2.2.2.2.2.1,()))<|some [aT .mon (⟨a.2.2.2.2.2.2.2.2.2.2.1,a.2.2.2.2.2.2.2.2.2.2.2.1,h,g,f,a.2.2.1,a.2.2.2.1,e,a.2.2.2.2.1⟩:Mon)])) (ln b.Tables,0,b.Pending,b.Traps,b.Own,0,0,0,[],b.Tables,zfN b.Outer,zdZ b.Out,ap [] b.Dirty,zju b.Guests,zd2 b.Outs,[],[],[],[],[],[],()))
def zR7:=zx [(193,0,{n:=44,tm:=[(1,.lp 0 0),(2,.lp 1 0),(3,.sl 0 []),(29,.sl 1 []),(30,ti),(31,ti)],lo:=[(0,[.sl 2 [],.sl 3 [],.sl 4 [],.sl 5 [],.sl 6 [],ti,ti,.sl 1 [],ti]),(1,[.sl 7 [],.sl 8 [],.sl 9 [],.sl 10 [],.sl 11 [],ti,ti,.sl 12 [],ti])],ro:=[(0,.kept,true),(1,.kept,false),(2,.slot,true),(3,.sl .int,true),(4,.bool,true),(5,.guest,true),(6,.int,true),(7,.slot,true),(8,.sl .int,true),(9,.bool,true),(10,.guest,true),(11,.int,true),(12,.kept,true)]})]
theorem zRn (a:Mon)(p:zkV a=true):∃N,zFt N a=some [aT .mon<|zlq a]:=by
 obtain⟨s,l,m,n,u,f⟩:=zQ.1 p;have e:=zdj f.1;refine zcA λN d=>?_;unfold zFt oN;conv=>zeta
 have g:zhm a.Outer=true:=(by simp;omega);have h:zgH a.Out=true:=(by simp;exact l);have j:zjv a.Guests=true:=(by simp;exact n);have k:zd4 a.Outs=true:=(by simp;omega);refine must g (must h<|must (zoh m)<|must j<|must k ?_);refine(zbm a.Tables (λi (t:lK)=>(ln a.Tables,(i:Int),a.Pending,a.Traps,a.Own,0,0,0,t,a.Tables,zfN a.Outer,zdZ a.Out,ap [] a.Dirty,zju a.Guests,zd2 a.Outs,[],[],[],[],[],[],())) _ (λ_ x b r=>bif zeI x then (cond (few<|ln<|ap b [zdK x]) (r<|ap b [zdK x]) none) else none) (λ(t:lK)=>some [.agg<|Ty.cells .mon (⟨zfN a.Outer,zdZ a.Out,ap [] a.Dirty,zju a.Guests,zd2 a.Outs,a.Pending,a.Traps,t,a.Own⟩:Mon)]) (λi c t rec=>?_) (λt rec=>?_) _ ([])<|d e.1).trans ?_;{simp only [zbG c,zbi c,zbp c,zbh c e.1,cT]};{simp only [zbt,cF]};exact zj5 zeI zdK _ a.Tables 0 [] (λx q=>⟨zbq<|f.2 x q,rfl⟩) (by simpa using e.2)
theorem zKj:vM 193 zAR:=kF1 zS6 zA zy zq zR7 zRn
def z6N:zbb:=[(193,zAR)]++z6M
theorem zy9:zS z6N:=zi zKj zS6
def zBK (N:Nat)(b:Host):OA:=
 (oN (zgH b.Memory)<|oN (few<|ln<|ap [] b.Buffer)<|oN (few<|ln<|ap [] b.IoBuffer)<|iter (σ:=(Int×Int×lN×lM×lN×lE×lE×lM×lN×lE×lE×Unit)) N (λe a=>let d:=ix a.2.2.1 a.2.1 zh;let c:=ap a.2.2.2.2.2.2.2.2.1 [zlq d]; (cond (ilt a.2.1 a.1) (oN (inb a.2.1<|ln a.2.2.1)<|oN (zkV d)<|oN (few<|ln c)<|e (a.1,zM .i64 a.2.1 1,a.2.2.1,a.2.2.2.1,a.2.2.2.2.1,a.2.2.2.2.2.1,a.2.2.2.2.2.2.1,a.2.2.2.2.2.2.2.1,c,a.2.2.2.2.2.2.2.2.2.1,a.2.2.2.2.2.2.2.2.2.2.1,()))<|some [aH (⟨a.2.2.2.2.2.2.2.1,a.2.2.2.2.2.2.2.2.1,a.2.2.2.2.2.2.2.2.2.1,a.2.2.2.2.2.2.2.2.2.2.1⟩:Host)])) (ln b.Mons,0,b.Mons,[],[],[],[],zdZ b.Memory,[],ap [] b.Buffer,ap [] b.IoBuffer,()))
def zO0:=zx [(69,0,{n:=34,tm:=[(2,.lp 0 0),(3,.lp 1 0),(19,.sl 0 []),(20,ti),(21,ti)],lo:=[(0,[.sl 1 [],.sl 2 [],.sl 3 [],.sl 4 []]),(1,[.sl 5 [],.sl 6 [],.sl 7 [],.sl 8 []])],ro:=[(0,.mon,false),(1,.sl .int,true),(2,.mon,true),(3,.entry,true),(4,.entry,true),(5,.sl .int,true),(6,.mon,true),(7,.entry,true),(8,.entry,true)]})]
theorem zOd (a:Host)(l:zbC a=true):∃N,zBK N a=some [aH<|zl a]:=by
 obtain⟨h,f,j,k⟩:=(zU a).1 (zQ.1 l);have e:=zdj f.1;refine zcA λN d=>?_;unfold zBK oN;conv=>zeta
 have g:zgH a.Memory=true:=(by simp;exact h);refine must g (must (zoh j)<|must (zoh k) ?_);refine(zbm a.Mons (λi (t:lN)=>(ln a.Mons,(i:Int),a.Mons,[],[],[],[],zdZ a.Memory,t,ap [] a.Buffer,ap [] a.IoBuffer,())) _ (λ_ x b n=>bif zkV x then (cond (few<|ln<|ap b [zlq x]) (n<|ap b [zlq x]) none) else none) (λ(t:lN)=>some [.agg<|zbl (⟨zdZ a.Memory,t,ap [] a.Buffer,ap [] a.IoBuffer⟩:Host)]) (λi c t rec=>?_) (λt rec=>?_) _ ([])<|d e.1).trans ?_;{simp only [zbG c,zbi c,zbp c,zbh c e.1,cT]};{simp only [zbt,cF]};exact zj5 zkV zlq _ a.Mons 0 [] (λx m=>⟨zbq<|f.2 x m,rfl⟩) (by simpa using e.2)
theorem zuq:vM 69 zkF:=kF1 zy9 zA zy zq zO0 zOd
def allI {a:Type}(p:Nat->a->Bool):List a->Nat->Bool
 |[],_=>true
 |x::l,i=>p i x&&allI p l (i+1)
theorem zHf {a b:Type}(p:Nat->a->Bool)(r:Option b)(K:Unit->Option b):∀(l:List a) (i:Nat),goL (λi x (_:Unit) k=>bif p i x then k () else r) K l i ()=bif allI p l i then K () else r
 |[],_=>rfl
 |x::l,i=>by simp only[goL,allI];cases p i x;{rfl};{simp only [cT,uZ];exact zHf p r K l (i+1)}
theorem zPH {a:Type}(q:a->Bool)(l:List a)(d:a):∀(n i:Nat),i+n<=l.length->zoB (λj=>q (ix l (j:Int) d)) n i=((l.drop i).take n).all q
 | 0,i,_=>by simp[zoB]
 |n+1,i,h=>by have b:i<l.length:=(by omega);rw[kX b,List.take_succ_cons,kW,<- zPH q l d n (i+1) (by omega)];simp only[zoB,zbp b]
def sameKey (a b:Entry):Bool:=bif ieq a.Tag b.Tag then ieq a.Page b.Page else false
def alone (l:List Entry)(i:Nat)(x:Entry):Bool:=(l.take i).all λy=>!sameKey x y
def zf2 (l:List Entry):Bool:=bif allI (alone l) l 0 then ile (ln l) 6 else false
theorem z4P {a:Type}{l:List a}{i:Nat}(h:i<=l.length):inr 0 (i:Int) (ln l)=true:=qI (by simp only[ln];omega)
@[simp] abbrev zid (l:List Entry):Bool:=true
@[simp] abbrev zhD (l:List Entry):Bool:=zf2 l
def zmp:Run:=rF1 (dS .entry) λb=>(zid b,[aB<|zhD b])
def zBE (N:Nat)(g:lE):OA:=
 (iter (σ:=(Int×Int×lE×Unit)) N (λi b=>let c:=b.2.2.1;let e:=ix c b.2.1 ze3; (cond (ilt b.2.1 b.1) (oN (inb b.2.1<|ln c)<|oN (inr 0 b.2.1<|ln c)<|iter (σ:=(Int×Int×Int×Int×Int×Int×Int×Int×lE×lE×Unit)) N (λj a=>let d:=a.2.2.2.1;let f:=a.2.2.2.2.2.2.2.2.2.1;let h:=j (a.1,a.2.1,a.2.2.1,zM .i64 d 1,a.2.2.2.2.1,a.2.2.2.2.2.1,a.2.2.2.2.2.2.1,a.2.2.2.2.2.2.2.1,a.2.2.2.2.2.2.2.2.1,f,()); (cond (ilt d a.2.2.1) (oN (inb d<|ln f)<|cond (ieq a.2.2.2.2.1 (ix f d ze3).Tag) (cond (ieq a.2.2.2.2.2.1 (ix f d ze3).Page) oF h) h)<|i (a.1,zM .i64 a.2.1 1,a.2.2.2.2.2.2.2.2.1,()))) (b.1,b.2.1,ln<|tk c b.2.1,0,e.Tag,e.Page,e.Host,e.Rights,c,tk c b.2.1,()))<|some [aB<|ile (ln c) 6])) (ln g,0,g,()))
def zOZ:=zx [(264,0,{n:=39,tm:=[(0,.sl 0 []),(7,.sl 0 []),(8,ti),(9,ti)],lo:=[],ro:=[(0,.entry,false)]}),(264,2,{n:=39,tm:=[(0,.sl 0 []),(4,.lp 0 0),(7,.sl 0 []),(8,ti),(9,ti),(16,.sl 1 []),(17,ti),(18,ti)],lo:=[(0,[ti,ti,ti,ti])],ro:=[(0,.entry,false),(1,.entry,false)]})]
theorem zN7 (a:List Entry)(l:zbL big [aS .entry a])(m:zid a=true):∃N,zBE N a=some [aB<|zhD a]:=by
 have e:=len0 l;refine zcA λN d=>?_;unfold zBE oN;conv=>zeta
 refine(zbm a (λi (t:Unit)=>(ln a,(i:Int),a,())) _ (λi (x:Entry) (_:Unit) h=>bif alone a i x then h () else oF) (λ(t:Unit)=>some [.one<|.b<|ile (ln a) 6]) (λi c t rec=>?_) (λt rec=>?_) _ ()<|d e).trans ?_;{simp only [zbG c,zbi c,zbp c,zbh c e,cT];rw[z4P<|Nat.le_of_lt c,cT];have k:(tk a (i:Int)).length<=big:=qT (by simp[tk];omega) e;refine(zbm (tk a (i:Int)) (λj (u:Unit)=>(ln a,(i:Int),ln<|tk a (i:Int),(j:Int),a[i].Tag,a[i].Page,a[i].Host,a[i].Rights,a,tk a (i:Int),())) _ (λ_ (y:Entry) (_:Unit) h=>bif !sameKey a[i] y then h () else oF) (λ(u:Unit)=>rec (ln a,((i+1:Nat):Int),a,())) (λj g u f=>?_) (λu f=>?_) _ ()<|d k).trans ?_;{simp only [zbG g,zbi g,zbp g,zbh g k,cT,zbh c e];unfold sameKey;cases ieq a[i].Tag (tk a (i:Int))[j].Tag<;>cases ieq a[i].Page (tk a (i:Int))[j].Page<;>rfl};{simp only [zbt,cF,zbh c e]};rw[zhc λy=>!sameKey a[i] y];rfl};{simp only [zbt,cF]};rw[zHf<|alone a];unfold zhD zf2;cases allI (alone a) a 0<;>rfl
theorem zHl:vM 264 zmp:=hF1 zy9 zA zy zq zOZ zN7
def zBX (N:Nat)(f:lE):OA:=
 (iter (σ:=(Int×lE×Unit)) N (λg c=>cond (ilt c.1<|ln c.2.1) (iter (σ:=(Int×Int×lE×Unit)) N (λh a=>let b:=a.2.2.1;let e:=ix b a.2.1 ze3;let d:=h (a.1,zM .i64 a.2.1 1,b,()); (cond (ilt a.2.1 a.1) (oN (inb a.1<|ln b)<|oN (inb a.2.1<|ln b)<|cond (ieq (ix b a.1 ze3).Tag e.Tag) (oN (inb a.1<|ln b)<|oN (inb a.2.1<|ln b)<|cond (ieq (ix b a.1 ze3).Page e.Page) oF d) d)<|g (zM .i64 a.1 1,b,()))) (c.1,0,c.2.1,()))<|some [aB<|ile (ln c.2.1) 6]) (0,f,()))
def zO5:=zx [(112,0,{n:=43,tm:=[(0,.sl 0 []),(3,ti)],lo:=[],ro:=[(0,.entry,false)]}),(112,2,{n:=43,tm:=[(0,.sl 0 []),(3,ti),(4,ti)],lo:=[],ro:=[(0,.entry,false)]})]
theorem zOn (a:List Entry)(k:zbL big [aS .entry a])(l:zid a=true):∃N,zBX N a=some [aB<|zhD a]:=by
 have g:=len0 k;refine zcA λN d=>?_;unfold zBX oN;conv=>zeta
 refine(zbm a (λi (t:Unit)=>((i:Int),a,())) _ (λi (x:Entry) (_:Unit) h=>bif alone a i x then h () else oF) (λ(t:Unit)=>some [.one<|.b<|ile (ln a) 6]) (λi c t rec=>?_) (λt rec=>?_) _ ()<|d g).trans ?_;{simp only [zbG c,zbi c,zbp c,zbh c g,cT];refine(zzC i (λ(j:Nat) (_:Unit)=>((i:Int),(j:Int),a,())) _ (λj (_:Unit) h=>bif !sameKey a[i] (ix a (j:Int) ze3) then h () else oF) (λ_=>rec (((i+1:Nat):Int),a,())) (λj m u f=>?_) (λu f=>?_) _ ()<|d (by omega)).trans ?_;{have e:j<a.length:=(by omega);simp only[show ilt (j:Int) (i:Int)=true from qI (by omega),zbi c,zbi e,zbp c,zbh e g,cT];unfold sameKey;cases ieq a[i].Tag (ix a (j:Int) ze3).Tag<;>cases ieq a[i].Page (ix a (j:Int) ze3).Page<;>rfl};{simp only [show ilt (i:Int) (i:Int)=false from qK (by omega),zbh c g,cF]};rw[zEd λj=>!sameKey a[i] (ix a (j:Int) ze3),zPH (λy=>!sameKey a[i] y) a _ i 0 (by omega)];rfl};{simp only [zbt,cF]};rw[zHf<|alone a];unfold zhD zf2;cases allI (alone a) a 0<;>rfl
theorem zHD:vM 112 zmp:=hF1 zy9 zA zy zq zO5 zOn
def z6O:zbb:=[(69,zkF),(112,zmp),(264,zmp)]++z6N
theorem zG3:zS z6O:=zi zuq (zi zHD<|zi zHl zy9)
theorem zN1 (a b:Int):igt a b = !ile a b:=by unfold igt ile;by_cases h:a<=b;{rw [qI h,qK (by omega)];rfl};{rw [qK h,qI (by omega)];rfl}
theorem stB {c M:Bool}{E:OA}(h:c=true->E=some [AV.one<|.b M]):(cond (cond c false true) (some [AV.one<|.b false]) E)=some [AV.one<|.b<|cond c M false]:=by cases c;{rfl};{exact h rfl}
theorem stI {a b:Int}{M:Bool}{E:OA}(h:ieq a b=true->E=some [AV.one<|.b M]):(cond (ine a b) (some [AV.one<|.b false]) E)=some [AV.one<|.b<|cond (ieq a b) M false]:=by rw[zmg];cases c:ieq a b;{rfl};{exact h c}
theorem stG {a b:Int}{M:Bool}{E:OA}(h:ile a b=true->E=some [AV.one<|.b M]):(cond (igt a b) (some [AV.one<|.b false]) E)=some [AV.one<|.b<|cond (ile a b) M false]:=by rw[zN1];cases c:ile a b;{rfl};{exact h c}
def zmm (s:Slot)(p:List Int):Bool:=bif zdb s noSlot then zcE p else (cond (enough s.Rights 1) (ile (ln p) 0) false)
def fits (m:Mon)(j:Nat):Bool:=zmm (ix m.Outer (j:Int) zW) (ix m.Out (j:Int) [])
def ze0 (m:Mon):Bool:=bif zk (ln m.Guests) 1 2 then (cond (ieq (ln m.Tables)<|ln m.Guests) (cond (zdd m.Outer 8 12) (cond (ieq (ln m.Out) 8) (cond (ieq (ln m.Dirty) 8) (cond (ile (ln m.Outs) 40) (cond (zdM m.Pending) (cond (zk m.Traps 0 3) (cond (zk m.Own 0 1000000000) (cond (m.Guests.all zdV) (zoB (fits m) 8 0) false) false) false) false) false) false) false) false) false) else false
theorem zsm {t:List Slot}{n p:Int}(h:zdd t n p=true):ln t=n:=by unfold zdd at h;cases a:t.all (λs=>zed s p);{rw [a]at h;cases h};{rw [a]at h;exact qD h}
@[simp] abbrev ziI (m:Mon):Bool:=true
@[simp] abbrev zjt (m:Mon):Bool:=ze0 m
def zrm:Run:=rF1 (dT .mon) λb=>(ziI b,[aB<|zjt b])
def zPp (N:Nat)(a:Mon):OA:=
 let h:=ln a.Guests; (oN (zO h 1 2)<|cond (nB<|zk h 1 2) oF<|cond (ine (ln a.Tables) h) oF<|oN (zi1 a.Outer 8 12)<|cond (nB<|zeM a.Outer 8 12) oF<|cond (ine (ln a.Out) 8) oF<|cond (ine (ln a.Dirty) 8) oF<|cond (igt (ln a.Outs) 40) oF<|oN (zcd a.Pending)<|cond (nB<|zew a.Pending) oF<|oN (zO a.Traps 0 3)<|cond (nB<|zk a.Traps 0 3) oF<|oN (zO a.Own 0 1000000000)<|cond (nB<|zk a.Own 0 1000000000) oF<|iter (σ:=(Int×Int×Int×Int×Int×lG×lS×lM×lB×(List Int)×lK×Unit)) N (λl b=>let i:=b.2.2.2.2.2.2.1;let g:=b.2.2.2.2.2.1;let k:=ix g b.2.1 zu; (cond (ilt b.2.1 b.1) (oN (inb b.2.1<|ln g)<|oN (zbs k)<|cond (nB<|zhP k) oF<|l (b.1,zM .i64 b.2.1 1,b.2.2.1,b.2.2.2.1,b.2.2.2.2.1,g,i,b.2.2.2.2.2.2.2.1,b.2.2.2.2.2.2.2.2.1,b.2.2.2.2.2.2.2.2.2.1,b.2.2.2.2.2.2.2.2.2.2.1,()))<|iter (σ:=(Int×Int×Int×Int×Int×lS×lM×lB×lG×(List Int)×lK×Unit)) N (λm c=>let d:=c.2.1;let e:=c.2.2.2.2.2.2.1;let f:=ix c.2.2.2.2.2.1 d zW;let j:=m (c.1,zM .i64 d 1,c.2.2.1,c.2.2.2.1,c.2.2.2.2.1,c.2.2.2.2.2.1,e,c.2.2.2.2.2.2.2.1,c.2.2.2.2.2.2.2.2.1,c.2.2.2.2.2.2.2.2.2.1,c.2.2.2.2.2.2.2.2.2.2.1,()); (cond (ilt d c.1) (oN (inb d<|ln c.2.2.2.2.2.1)<|oN zbP<|cond (cond (ieq f.Page zbf.Page) (ieq f.Rights zbf.Rights) false) (oN (inb d<|ln e)<|oN (zdO<|ix e d [])<|cond (nB<|zc9<|ix e d []) oF j)<|oN (zbA f.Rights 1)<|cond (nB<|zcY f.Rights 1) oF<|oN (inb d<|ln e)<|cond (igt (ln<|ix e d []) 0) oF j) oT)) (ln i,0,b.2.2.1,b.2.2.2.1,b.2.2.2.2.1,i,b.2.2.2.2.2.2.2.1,b.2.2.2.2.2.2.2.2.1,g,b.2.2.2.2.2.2.2.2.2.1,b.2.2.2.2.2.2.2.2.2.2.1,()))) (h,0,a.Pending,a.Traps,a.Own,a.Guests,a.Outer,a.Out,a.Dirty,a.Outs,a.Tables,()))
def zXD:=zx [(265,0,{n:=106,tm:=[(1,.lp 0 0),(64,.sl 0 []),(65,ti),(66,ti)],lo:=[(0,[.sl 1 [],.sl 2 [],.sl 3 [],.sl 0 [],.sl 4 [],ti,ti,.sl 5 [],ti])],ro:=[(0,.guest,false),(1,.slot,false),(2,.sl .int,false),(3,.bool,false),(4,.int,false),(5,.kept,false)]}),(265,2,{n:=106,tm:=[(1,.lp 0 0),(75,.sl 0 []),(76,ti),(77,ti)],lo:=[(0,[.sl 0 [],.sl 1 [],.sl 2 [],.sl 3 [],.sl 4 [],ti,ti,.sl 5 [],ti])],ro:=[(0,.slot,false),(1,.sl .int,false),(2,.bool,false),(3,.guest,false),(4,.int,false),(5,.kept,false)]})]
theorem zWQ (a:Mon)(l:zbL big [aT .mon a])(E:ziI a=true):∃N,zPp N a=some [aB<|zjt a]:=by
 have hg:a.Guests.length<=big:=((zdq l).1 (.s .guest a.Guests) (by simp[AV.cvs,Ty.cells])).len;have m:a.Outer.length<=big:=((zdq l).1 (.s .slot a.Outer) (by simp[AV.cvs,Ty.cells])).len;refine zcA λN d=>?_;unfold zPp zjt ze0 oN nB;conv=>zeta
 refine must rfl (stB λw=>stI λy=>must rfl (stB λr=>stI λv=>stI λz=>stG λA=>must rfl (stB λB=>must rfl (stB λC=>must rfl (stB λD=>?_)))));have p:=zsm r;have q:ln a.Out=8:=qD v;simp only[ln] at p q;refine(zbm a.Guests (λi (t:Unit)=>(ln a.Guests,(i:Int),a.Pending,a.Traps,a.Own,a.Guests,a.Outer,a.Out,a.Dirty,a.Outs,a.Tables,())) _ (λ_ (x:Guest) (_:Unit) g=>bif zdV x then g () else oF) (λ(t:Unit)=>iter (σ:=(Int×Int×Int×Int×Int×lS×lM×lB×lG×(List Int)×lK×Unit)) N (λn c=>cond (ilt c.2.1 c.1) (cond (inb c.2.1<|ln c.2.2.2.2.2.1) (cond zbP (cond (cond (ieq (ix c.2.2.2.2.2.1 c.2.1 zW).Page zbf.Page) (ieq (ix c.2.2.2.2.2.1 c.2.1 zW).Rights zbf.Rights) false) (cond (inb c.2.1<|ln c.2.2.2.2.2.2.1) (cond (zdO<|ix c.2.2.2.2.2.2.1 c.2.1 []) (cond (cond (zc9<|ix c.2.2.2.2.2.2.1 c.2.1 []) false true) oF<|n (c.1,zM .i64 c.2.1 1,c.2.2.1,c.2.2.2.1,c.2.2.2.2.1,c.2.2.2.2.2.1,c.2.2.2.2.2.2.1,c.2.2.2.2.2.2.2.1,c.2.2.2.2.2.2.2.2.1,c.2.2.2.2.2.2.2.2.2.1,c.2.2.2.2.2.2.2.2.2.2.1,())) none) none)<|cond (zbA (ix c.2.2.2.2.2.1 c.2.1 zW).Rights 1) (cond (cond (zcY (ix c.2.2.2.2.2.1 c.2.1 zW).Rights 1) false true) oF<|cond (inb c.2.1<|ln c.2.2.2.2.2.2.1) (cond (igt (ln<|ix c.2.2.2.2.2.2.1 c.2.1 []) 0) oF<|n (c.1,zM .i64 c.2.1 1,c.2.2.1,c.2.2.2.1,c.2.2.2.2.1,c.2.2.2.2.2.1,c.2.2.2.2.2.2.1,c.2.2.2.2.2.2.2.1,c.2.2.2.2.2.2.2.2.1,c.2.2.2.2.2.2.2.2.2.1,c.2.2.2.2.2.2.2.2.2.2.1,())) none) none) none) none)<|some [.one<|.b true]) (ln a.Outer,0,a.Pending,a.Traps,a.Own,a.Outer,a.Out,a.Dirty,a.Guests,a.Outs,a.Tables,())) (λi h t rec=>?_) (λt rec=>?_) _ ()<|d hg).trans ?_;{simp only [zbG h,zbi h,zbp h,zbh h hg,cT];simp only[zbs,zhP,cT];cases zdV a.Guests[i]<;>rfl};{simp only [zbt,cF]};rw[zhc zdV];cases a.Guests.all zdV;{rfl};simp only[cT];refine(zbm a.Outer (λj (u:Unit)=>(ln a.Outer,(j:Int),a.Pending,a.Traps,a.Own,a.Outer,a.Out,a.Dirty,a.Guests,a.Outs,a.Tables,())) _ (λj (_:Slot) (_:Unit) g=>bif fits a j then g () else oF) (λ(u:Unit)=>some [.one<|.b true]) (λj e u f=>?_) (λu f=>?_) _ ()<|d m).trans ?_;{simp only [zbG e,zbi e,zbp e,zbh e m,cT];have k:j<a.Out.length:=(by omega);simp only[zbP,zbf,zdO,zc9,zbA,zcY,zbi k,zN1,cT];unfold fits zmm;simp only[zbp e,zdb];cases ieq a.Outer[j].Page noSlot.Page<;>cases ieq a.Outer[j].Rights noSlot.Rights<;>cases enough a.Outer[j].Rights 1<;>cases ile (ln<|ix a.Out (j:Int) []) 0<;>cases zcE (ix a.Out (j:Int) [])<;>rfl};{simp only [zbt,cF]};rw[zxJ λj (_:Unit) g=>bif fits a j then g () else oF,zEd<|fits a,show a.Outer.length=8 by omega];cases zoB (fits a) 8 0<;>rfl
theorem zQT:vM 265 zrm:=hF1 zG3 zA zy zq zXD zWQ
def zPz (N:Nat)(c:Mon):OA:=
 (oN (zO (ln c.Guests) 1 2)<|cond (nB<|zk (ln c.Guests) 1 2) oF<|cond (ine (ln c.Tables)<|ln c.Guests) oF<|oN (zi1 c.Outer 8 12)<|cond (nB<|zeM c.Outer 8 12) oF<|cond (ine (ln c.Out) 8) oF<|cond (ine (ln c.Dirty) 8) oF<|iter (σ:=(Int×Int×Int×Int×lS×lM×lB×lG×(List Int)×lK×Unit)) N (λl b=>let d:=b.2.2.2.2.2.2.2.1; (cond (ilt b.1<|ln d) (oN (inb b.1<|ln d)<|oN (zbs<|ix d b.1 zu)<|cond (nB<|zhP<|ix d b.1 zu) oF<|l (zM .i64 b.1 1,b.2.1,b.2.2.1,b.2.2.2.1,b.2.2.2.2.1,b.2.2.2.2.2.1,b.2.2.2.2.2.2.1,d,b.2.2.2.2.2.2.2.2.1,b.2.2.2.2.2.2.2.2.2.1,()))<|iter (σ:=(Int×Int×Int×Int×lS×lM×lB×lG×(List Int)×lK×Unit)) N (λm a=>let h:=a.2.2.2.2.1;let i:=inb a.1<|ln a.2.2.2.2.2.1;let e:=ix a.2.2.2.2.2.1 a.1 [];let g:=ix h a.1 zW;let k:=ieq g.Rights zbf.Rights;let j:=ieq g.Page zbf.Page;let f:=m (zM .i64 a.1 1,a.2.1,a.2.2.1,a.2.2.2.1,h,a.2.2.2.2.2.1,a.2.2.2.2.2.2.1,a.2.2.2.2.2.2.2.1,a.2.2.2.2.2.2.2.2.1,a.2.2.2.2.2.2.2.2.2.1,()); (cond (ilt a.1 8) (oN (inb a.1<|ln h)<|oN zbP<|cond (nB<|cond j k false) (oN i<|cond (igt (ln e) 0) oF<|oN (inb a.1<|ln h)<|oN (zbA g.Rights 1)<|cond (nB<|zcY g.Rights 1) oF<|cond (nB<|nB<|cond j k false) (oN i<|oN (zdO e)<|cond (nB<|zc9 e) oF f) f)<|cond (nB<|nB<|cond j k false) (oN i<|oN (zdO e)<|cond (nB<|zc9 e) oF f) f)<|cond (ile (ln a.2.2.2.2.2.2.2.2.1) 40) (oN (zcd a.2.1)<|cond (zew a.2.1) (oN (zO a.2.2.1 0 3)<|cond (zk a.2.2.1 0 3) (oN (zO a.2.2.2.1 0 1000000000)<|some [aB<|zk a.2.2.2.1 0 1000000000]) oF) oF) oF)) (0,b.2.1,b.2.2.1,b.2.2.2.1,b.2.2.2.2.1,b.2.2.2.2.2.1,b.2.2.2.2.2.2.1,d,b.2.2.2.2.2.2.2.2.1,b.2.2.2.2.2.2.2.2.2.1,()))) (0,c.Pending,c.Traps,c.Own,c.Outer,c.Out,c.Dirty,c.Guests,c.Outs,c.Tables,()))
def zXF:=zx [(113,0,{n:=115,tm:=[(1,.lp 0 0),(3,ti)],lo:=[(0,[.sl 0 [],.sl 1 [],.sl 2 [],.sl 3 [],.sl 4 [],ti,ti,.sl 5 [],ti])],ro:=[(0,.slot,false),(1,.sl .int,false),(2,.bool,false),(3,.guest,false),(4,.int,false),(5,.kept,false)]}),(113,2,{n:=115,tm:=[(1,.lp 0 0),(4,ti)],lo:=[(0,[.sl 0 [],.sl 1 [],.sl 2 [],.sl 3 [],.sl 4 [],ti,ti,.sl 5 [],ti])],ro:=[(0,.slot,false),(1,.sl .int,false),(2,.bool,false),(3,.guest,false),(4,.int,false),(5,.kept,false)]})]
theorem zWZ (c:Mon)(r:zbL big [aT .mon c])(A:ziI c=true):∃N,zPz N c=some [aB<|zjt c]:=by
 have hg:c.Guests.length<=big:=((zdq r).1 (.s .guest c.Guests) (by simp[AV.cvs,Ty.cells])).len;refine zcA λN d=>?_;unfold zPz zjt ze0 oN nB;conv=>zeta
 refine must rfl (stB λw=>stI λy=>must rfl (stB λp=>stI λq=>stI λz=>?_));have m:=zsm p;have n:ln c.Out=8:=qD q;simp only[ln] at m n;refine(zbm c.Guests (λi (t:Unit)=>((i:Int),c.Pending,c.Traps,c.Own,c.Outer,c.Out,c.Dirty,c.Guests,c.Outs,c.Tables,())) _ (λ_ (x:Guest) (_:Unit) l=>bif zdV x then l () else oF) (λ(t:Unit)=>iter (σ:=(Int×Int×Int×Int×lS×lM×lB×lG×(List Int)×lK×Unit)) N (λh a=>cond (ilt a.1 8) (cond (inb a.1<|ln a.2.2.2.2.1) (cond zbP (cond (cond (cond (ieq (ix a.2.2.2.2.1 a.1 zW).Page zbf.Page) (ieq (ix a.2.2.2.2.1 a.1 zW).Rights zbf.Rights) false) false true) (cond (inb a.1<|ln a.2.2.2.2.2.1) (cond (igt (ln<|ix a.2.2.2.2.2.1 a.1 []) 0) oF<|cond (inb a.1<|ln a.2.2.2.2.1) (cond (zbA (ix a.2.2.2.2.1 a.1 zW).Rights 1) (cond (cond (zcY (ix a.2.2.2.2.1 a.1 zW).Rights 1) false true) oF<|cond (cond (cond (cond (ieq (ix a.2.2.2.2.1 a.1 zW).Page zbf.Page) (ieq (ix a.2.2.2.2.1 a.1 zW).Rights zbf.Rights) false) false true) false true) (cond (inb a.1<|ln a.2.2.2.2.2.1) (cond (zdO<|ix a.2.2.2.2.2.1 a.1 []) (cond (cond (zc9<|ix a.2.2.2.2.2.1 a.1 []) false true) oF<|h (zM .i64 a.1 1,a.2.1,a.2.2.1,a.2.2.2.1,a.2.2.2.2.1,a.2.2.2.2.2.1,a.2.2.2.2.2.2.1,a.2.2.2.2.2.2.2.1,a.2.2.2.2.2.2.2.2.1,a.2.2.2.2.2.2.2.2.2.1,())) none) none)<|h (zM .i64 a.1 1,a.2.1,a.2.2.1,a.2.2.2.1,a.2.2.2.2.1,a.2.2.2.2.2.1,a.2.2.2.2.2.2.1,a.2.2.2.2.2.2.2.1,a.2.2.2.2.2.2.2.2.1,a.2.2.2.2.2.2.2.2.2.1,())) none) none) none)<|cond (cond (cond (cond (ieq (ix a.2.2.2.2.1 a.1 zW).Page zbf.Page) (ieq (ix a.2.2.2.2.1 a.1 zW).Rights zbf.Rights) false) false true) false true) (cond (inb a.1<|ln a.2.2.2.2.2.1) (cond (zdO<|ix a.2.2.2.2.2.1 a.1 []) (cond (cond (zc9<|ix a.2.2.2.2.2.1 a.1 []) false true) oF<|h (zM .i64 a.1 1,a.2.1,a.2.2.1,a.2.2.2.1,a.2.2.2.2.1,a.2.2.2.2.2.1,a.2.2.2.2.2.2.1,a.2.2.2.2.2.2.2.1,a.2.2.2.2.2.2.2.2.1,a.2.2.2.2.2.2.2.2.2.1,())) none) none)<|h (zM .i64 a.1 1,a.2.1,a.2.2.1,a.2.2.2.1,a.2.2.2.2.1,a.2.2.2.2.2.1,a.2.2.2.2.2.2.1,a.2.2.2.2.2.2.2.1,a.2.2.2.2.2.2.2.2.1,a.2.2.2.2.2.2.2.2.2.1,())) none) none)<|cond (ile (ln a.2.2.2.2.2.2.2.2.1) 40) (cond (zcd a.2.1) (cond (zew a.2.1) (cond (zO a.2.2.1 0 3) (cond (zk a.2.2.1 0 3) (cond (zO a.2.2.2.1 0 1000000000) (some [.one<|.b<|zk a.2.2.2.1 0 1000000000]) none) oF) none) oF) none) oF) (0,c.Pending,c.Traps,c.Own,c.Outer,c.Out,c.Dirty,c.Guests,c.Outs,c.Tables,())) (λi g t rec=>?_) (λt rec=>?_) _ ()<|d hg).trans ?_;{simp only [zbG g,zbi g,zbp g,zbh g hg,cT];simp only[zbs,zhP,cT];cases zdV c.Guests[i]<;>rfl};{simp only [zbt,cF]};rw[zhc zdV];cases B:c.Guests.all zdV;{simp only [cF];cases ile (ln c.Outs) 40<;>cases zdM c.Pending<;>cases zk c.Traps 0 3<;>cases zk c.Own 0 1000000000<;>rfl};simp only[cT];refine(zzC 8 (λj (u:Unit)=>((j:Int),c.Pending,c.Traps,c.Own,c.Outer,c.Out,c.Dirty,c.Guests,c.Outs,c.Tables,())) _ (λj (_:Unit) l=>bif fits c j then l () else oF) (λ(u:Unit)=>cond (ile (ln c.Outs) 40) (cond (zcd c.Pending) (cond (zew c.Pending) (cond (zO c.Traps 0 3) (cond (zk c.Traps 0 3) (cond (zO c.Own 0 1000000000) (some [.one<|.b<|zk c.Own 0 1000000000]) none) oF) none) oF) none) oF) (λj v u f=>?_) (λu f=>?_) _ ()<|d (by decide)).trans ?_;{simp only [show ilt (j:Int) 8=true from qI (by omega),zbh v (show 8<=big by decide),cT];have e:j<c.Outer.length:=(by omega);have k:j<c.Out.length:=(by omega);simp only[zbP,zbf,zdO,zc9,zbA,zcY,zbi e,zbi k,zN1,cT];unfold fits zmm;simp only[zbp e,zdb];cases ieq c.Outer[j].Page noSlot.Page<;>cases ieq c.Outer[j].Rights noSlot.Rights<;>cases enough c.Outer[j].Rights 1<;>cases ile (ln<|ix c.Out (j:Int) []) 0<;>cases zcE (ix c.Out (j:Int) [])<;>rfl};{simp only [show ilt ((8:Nat):Int) 8=false from qK (by omega),cF];rfl};rw[zEd<|fits c];simp only[zcd,zew,zO,zSx,cT];cases zoB (fits c) 8 0<;>cases ile (ln c.Outs) 40<;>cases zdM c.Pending<;>cases zk c.Traps 0 3<;>cases zk c.Own 0 1000000000<;>rfl
theorem zQ4:vM 113 zrm:=hF1 zG3 zA zy zq zXF zWZ
def z6P:zbb:=[(113,zrm),(265,zrm)]++z6O
theorem zG4:zS z6P:=zi zQ4 (zi zQT zG3)
def zhz:List Slot->List Bool->Option (List Bool)
 |[],u=>some u
 |s::l,u=>bif ilt s.Page 0 then zhz l u else (cond (ix u s.Page false) none<|zhz l<|up u s.Page true)
def zjr:List Mon->List Bool->Bool
 |[],_=>true
 |m::l,u=>bif ze0 m then (match zhz m.Outer u with|some a=>zjr l a|none=>false) else false
def zck (h:Host):Bool:=bif ziK h.Memory 12 then (cond (zk (ln h.Mons) 1 3) (cond (zf2 h.Buffer) (cond (zf2 h.IoBuffer) (zjr h.Mons<|rp 12 false) false) false) false) else false
theorem zqe:∀(l:List Slot) (u a:List Bool),zhz l u=some a->a.length=u.length
 |[],u,a,h=>by cases h;rfl
 |s::l,u,a,h=>by simp only[zhz]at h;cases b:ilt s.Page 0;{rw [b]at h;cases c:ix u s.Page false;{rw [c]at h;simpa using zqe l _ a h};{rw [c]at h;cases h}};{rw [b]at h;exact zqe l u a h}
theorem zEm {t:List Slot}{n:Int}(h:zdd t n 12=true):∀s∈t,s.Page<12:=by intro s d;unfold zdd at h;cases b:t.all (λs=>zed s 12);{rw [b]at h;cases h};{have:=qM.1 b s d;unfold zed at this;cases a:zdb s noSlot;{rw [a] at this;simp only[cF,show igt 12 0=true from rfl,cT] at this;cases c:zk s.Page 0 (wsub .i64 12 1);{rw [c] at this;cases this};{have:=(zfA.1 c).2;rw[show wsub .i64 12 1=11 from rfl] at this;omega}};{unfold zdb at a;rw[qE]at a;have a:s.Page = -1:=qD a.1;omega}}
theorem zWg {s:Slot}{u:List Bool}(h:s.Page<12)(b:u.length=12)(a:ilt s.Page 0=false):inb s.Page (ln u)=true:=by have:=jR a;exact qI (by simp only[ln];omega)
def zt7 {a:Type}(r:Option a)(y:Slot)(u:List Bool)(b:List Bool->Option a):Option a:=bif ilt y.Page 0 then b u else (cond (inb y.Page<|ln u) (cond (ix u y.Page false) r<|cond (inb y.Page<|ln u) (share (up u y.Page true) λc=>b c) none) none)
theorem zzk {c:Type}(r:Option c)(K:List Bool->Option c):∀(l:List Slot) (i:Nat) (u:List Bool),(∀s∈l,s.Page<12)->u.length=12->
 goL (λ_ y u g=>zt7 r y u g) K l i u=match zhz l u with|some f=>K f|none=>r
 |[],_,_,_,_=>rfl
 |s::l,i,u,h,b=>by simp only[goL,zhz,zt7];cases d:ilt s.Page 0;{have e:=zWg (h s (by simp)) b d;rw[e];cases ix u s.Page false;{simp only [cF,cT,share];exact zzk r K l (i+1) _ (λs a=>h s (by simp[a])) (by simpa using b)};{rfl}};{simp only [cT];exact zzk r K l (i+1) u (λs a=>h s (by simp[a])) b}
def zYY {b:Type}(r:Option b)(m:Mon)(u:List Bool)(a:List Bool->Option b):Option b:=bif ze0 m then goL (λ_ y u a=>zt7 r y u a) a m.Outer 0 u else r
theorem zdr {c x:Bool}:((cond c x false)=true)↔c=true/\x=true:=by cases c<;>simp
theorem znh {m:Mon}(h:ze0 m=true):zdd m.Outer 8 12=true:=by unfold ze0 at h;simp only[zdr]at h;exact h.2.2.1
theorem zTs {K:Bool->OA}(k:List Bool->OA)(a:∀u,k u=K true):∀(l:List Mon) (i:Nat) (u:List Bool),u.length=12->
 goL (λ_ m u g=>zYY (K false) m u g) k l i u=K (zjr l u)
 |[],_,u,_=>a u
 |m::l,i,u,b=>by simp only[goL,zjr,zYY];cases c:ze0 m;{rfl};{simp only [cT];have e:=znh c;rw[zzk _ _ _ _ _ (zEm e) b];cases d:zhz m.Outer u with|none=>rfl|some f=>exact zTs k a l (i+1) f ((zqe _ _ _ d).trans b)}
@[simp] abbrev zez (h:Host):Bool:=true
@[simp] abbrev zeu (h:Host):Bool:=zck h
def zo5:Run:=rF1 dH λb=>(zez b,[aB<|zeu b])
def zIT (N:Nat)(c:Host):OA:=
 (oN (ziO c.Memory 12)<|cond (nB<|zfH c.Memory 12) oF<|oN (zO (ln c.Mons) 1 3)<|cond (nB<|zk (ln c.Mons) 1 3) oF<|oN (zid c.Buffer)<|cond (nB<|zhD c.Buffer) oF<|oN (zid c.IoBuffer)<|cond (nB<|zhD c.IoBuffer) oF<|oN (cond (few 12) (ieq 12 12) false)<|iter (σ:=(Int×Int×lB×lN×Unit)) N (λk b=>let h:=ix b.2.2.2.1 b.2.1 zh; (cond (ilt b.2.1 b.1) (oN (inb b.2.1<|ln b.2.2.2.1)<|oN (ziI h)<|cond (nB<|zjt h) oF<|iter (σ:=(Int×Int×Int×Int×Int×lB×lN×Unit)) N (λi a=>let f:=a.2.2.2.2.1;let g:=a.2.2.2.2.2.2.1;let j:=(ix g a.2.2.1 zh).Outer;let d:=a.2.2.2.2.2.1;let e:=(ix j f zW).Page; (cond (ilt f a.2.2.2.1) (oN (inb f<|ln j)<|cond (ilt e 0) (i (a.1,a.2.1,a.2.2.1,a.2.2.2.1,zM .i64 f 1,d,g,()))<|oN (inb e<|ln d)<|cond (ix d e false) oF<|oN (inb e<|ln d)<|share (up d e true) λl=>i (a.1,a.2.1,a.2.2.1,a.2.2.2.1,zM .i64 f 1,l,g,()))<|k (a.1,zM .i64 a.2.1 1,d,g,()))) (b.1,b.2.1,b.2.1,ln h.Outer,0,b.2.2.1,b.2.2.2.1,())) oT)) (ln c.Mons,0,rp 12 false,c.Mons,()))
def zVR:=zx [(119,0,{n:=63,tm:=[(3,.sl 0 []),(33,.sl 1 []),(34,ti),(35,ti)],lo:=[],ro:=[(0,.bool,true),(1,.mon,false)]}),(119,2,{n:=63,tm:=[(3,.sl 0 []),(33,.sl 1 []),(34,ti),(35,ti),(43,.sl 1 [0]),(44,ti),(45,ti)],lo:=[],ro:=[(0,.bool,true),(1,.mon,false)]})]
theorem zTV (a:Host)(n:zbL big [aH a])(w:zez a=true):∃N,zIT N a=some [aB<|zeu a]:=by
 have l:CVB big (.s .mon a.Mons):=(zdq n).1 _ (by simp[AV.cvs,zbl]);have g:=l.len;refine zcA λN d=>?_;unfold zIT zeu zck oN nB;conv=>zeta
 refine must rfl (stB λp=>must rfl (stB λq=>must rfl (stB λr=>must rfl (stB λv=>must rfl ?_))));refine(zbm a.Mons (λi (t:lB)=>(ln a.Mons,(i:Int),t,a.Mons,())) _ (λ_ (x:Mon) (u:List Bool) h=>zYY (oF) x u h) (λ(t:lB)=>some [.one<|.b true]) (λi c t rec=>?_) (λt rec=>?_) _ (rp 12 false)<|d g).trans ?_;{simp only [zbG c,zbi c,zbp c,zbh c g,cT];unfold zYY;cases k:ze0 a.Mons[i];{simp only [ziI,zjt,k,cT,cF]};simp only[ziI,zjt,k,cT,cF];have m:a.Mons[i].Outer.length<=big:=(l.inv.2 _ (jK c) (.s .slot _) (by simp[Ty.cells])).len;refine(zbm a.Mons[i].Outer (λj (u:lB)=>(ln a.Mons,(i:Int),(i:Int),ln a.Mons[i].Outer,(j:Int),u,a.Mons,())) _ (λ_ (y:Slot) (u:List Bool) h=>zt7 (oF) y u h) (λ(u:lB)=>rec (ln a.Mons,((i+1:Nat):Int),u,a.Mons,())) (λj f u e=>?_) (λu e=>?_) _ (t)<|d m).trans ?_;{simp only [zbG f,zbi f,zbp f,zbh f m,cT,zbi c,zbp c,zbh c g];rfl};{simp only [zbt,cF,zbi c,zbp c,zbh c g]};rfl};{simp only [zbt,cF]};exact zTs (K:=λb=>some [AV.one<|.b b]) _ (λ_=>rfl) _ _ _ rfl
theorem zM7:vM 119 zo5:=hF1 zG4 zA zy zq zVR zTV
theorem zHh {e:Type}(r:Option e)(k:List Bool->Option e)(m:Mon):∀(n i:Nat) (u:List Bool),(∀s∈m.Outer,s.Page<12)->u.length=12->i+n=m.Outer.length->
 goN (λj u d=>bif inb (j:Int) (ln m.Outer) then zt7 r (ix m.Outer (j:Int) zW) u d else none) k n i u=goL (λ_ y u d=>zt7 r y u d) k (m.Outer.drop i) i u
 | 0,i,u,_,_,h=>by have:i=m.Outer.length:=(by omega);subst this;simp[goN,goL]
 |n+1,i,u,b,c,h=>by have a:i<m.Outer.length:=(by omega);rw[kX a];simp only[goN,goL,zbi a,zbp a,cT,zt7];cases f:ilt m.Outer[i].Page 0;{rw [zWg (b _<|jK a) c f];cases ix u m.Outer[i].Page false;{simp only [cF,cT,share];exact zHh r k m n (i+1) _ b (by simpa using c) (by omega)};{rfl}};{simp only [cT];exact zHh r k m n (i+1) u b c (by omega)}
def zJe (N:Nat)(b:Host):OA:=
 (oN (ziO b.Memory 12)<|cond (nB<|zfH b.Memory 12) oF<|oN (zO (ln b.Mons) 1 3)<|cond (nB<|zk (ln b.Mons) 1 3) oF<|oN (zid b.Buffer)<|cond (nB<|zhD b.Buffer) oF<|oN (zid b.IoBuffer)<|cond (nB<|zhD b.IoBuffer) oF<|oN (cond (few 12) (ieq 12 12) false)<|iter (σ:=(Int×lB×lM×lN×lE×lE×Unit)) N (λq c=>let n:=ix c.2.2.2.1 c.1 zh; (cond (ilt c.1<|ln c.2.2.2.1) (oN (inb c.1<|ln c.2.2.2.1)<|oN (ziI n)<|cond (nB<|zjt n) oF<|iter (σ:=(Int×Int×lB×lM×lN×lE×lE×Unit)) N (λi a=>let k:=zM .i64 a.2.1 1;let h:=a.2.2.2.2.2.1;let g:=a.2.2.2.2.2.2.1;let f:=a.2.2.1;let e:=a.2.2.2.2.1;let p:=(ix e a.1 zh).Outer;let m:=i (a.1,k,f,a.2.2.2.1,e,h,g,());let d:=(ix p a.2.1 zW).Page;let l:=inb d<|ln f; (cond (ilt a.2.1 8) (oN (inb a.1<|ln e)<|oN (inb a.2.1<|ln p)<|cond (ige d 0) (oN l<|cond (ix f d false) oF<|cond (ige d 0) (oN l<|share (up f d true) λj=>i (a.1,k,j,a.2.2.2.1,e,h,g,())) m)<|cond (ige d 0) (oN l<|share (up f d true) λj=>i (a.1,k,j,a.2.2.2.1,e,h,g,())) m)<|q (zM .i64 a.1 1,f,a.2.2.2.1,e,h,g,()))) (c.1,0,c.2.1,c.2.2.1,c.2.2.2.1,c.2.2.2.2.1,c.2.2.2.2.2.1,())) oT)) (0,rp 12 false,b.Memory,b.Mons,b.Buffer,b.IoBuffer,()))
def zVZ:=zx [(26,0,{n:=72,tm:=[(1,.lp 0 0),(3,.sl 0 []),(4,ti)],lo:=[(0,[.sl 1 [],.sl 2 [],.sl 3 [],.sl 4 []])],ro:=[(0,.bool,true),(1,.sl .int,false),(2,.mon,false),(3,.entry,false),(4,.entry,false)]}),(26,2,{n:=72,tm:=[(1,.lp 0 0),(3,.sl 0 []),(4,ti),(5,ti)],lo:=[(0,[.sl 1 [],.sl 2 [],.sl 3 [],.sl 4 []])],ro:=[(0,.bool,true),(1,.sl .int,false),(2,.mon,false),(3,.entry,false),(4,.entry,false)]})]
theorem zUe (a:Host)(y:zbL big [aH a])(F:zez a=true):∃N,zJe N a=some [aB<|zeu a]:=by
 have A:CVB big (.s .mon a.Mons):=(zdq y).1 _ (by simp[AV.cvs,zbl]);have h:=A.len;refine zcA λN f=>?_;unfold zJe zeu zck oN nB;conv=>zeta
 refine must rfl (stB λD=>must rfl (stB λq=>must rfl (stB λr=>must rfl (stB λE=>must rfl ?_))));refine(zbm a.Mons (λi (t:lB)=>((i:Int),t,a.Memory,a.Mons,a.Buffer,a.IoBuffer,())) _ (λ_ (x:Mon) (u:List Bool) d=>bif ze0 x then goN (λj u d=>bif inb (j:Int) (ln x.Outer) then zt7 (oF) (ix x.Outer (j:Int) zW) u d else none) d 8 0 u else oF) (λ(t:lB)=>some [.one<|.b true]) (λi c t rec=>?_) (λt rec=>?_) _ (rp 12 false)<|f h).trans ?_;{simp only [zbG c,zbi c,zbp c,zbh c h,cT];cases v:ze0 a.Mons[i];{simp only [ziI,zjt,v,cT,cF]};simp only[ziI,zjt,v,cT,cF];refine(zzC 8 (λj (u:lB)=>((i:Int),(j:Int),u,a.Memory,a.Mons,a.Buffer,a.IoBuffer,())) _ (λj (u:List Bool) d=>bif inb (j:Int) (ln a.Mons[i].Outer) then zt7 (oF) (ix a.Mons[i].Outer (j:Int) zW) u d else none) (λ(u:lB)=>rec (((i+1:Nat):Int),u,a.Memory,a.Mons,a.Buffer,a.IoBuffer,())) (λj z u g=>?_) (λu g=>?_) _ (t)<|f (by decide)).trans ?_;{simp only [show ilt (j:Int) 8=true from qI (by omega),zbh z (show 8<=big by decide),cT,zbi c,zbp c,zbh c h];unfold zt7;have e:ige (ix a.Mons[i].Outer (j:Int) zW).Page 0 = !ilt (ix a.Mons[i].Outer (j:Int) zW).Page 0:=(by rw[z8Z,Bool.not_not]);simp only[e];cases ilt (ix a.Mons[i].Outer (j:Int) zW).Page 0<;>cases inb (j:Int) (ln a.Mons[i].Outer)<;>cases inb (ix a.Mons[i].Outer (j:Int) zW).Page (ln u)<;>cases ix u (ix a.Mons[i].Outer (j:Int) zW).Page false<;>rfl};{simp only [show ilt ((8:Nat):Int) 8=false from qK (by omega),cF,zbi c,zbp c,zbh c h]};rfl};{simp only [zbt,cF]};have p:∀(l:List Mon) (i:Nat) (u:List Bool),u.length=12->goL (λ_ (x:Mon) (u:List Bool) d=>bif ze0 x then goN (λj u d=>bif inb (j:Int) (ln x.Outer) then zt7 (oF) (ix x.Outer (j:Int) zW) u d else none) d 8 0 u else oF) (λ_=>oT) l i u=some [AV.one<|.b<|zjr l u]:=(by intro l;induction l with|nil=>intro i u _;rfl|cons m l B=>intro i u n;simp only[goL,zjr];cases q:ze0 m;{rfl};{have k:=znh q;have w:0+8=m.Outer.length:=(by have:=zsm k;simp only[ln] at this;omega);simp only[cT];rw[zHh _ _ m 8 0 u (zEm k) n w,List.drop_zero,zzk _ _ _ _ _ (zEm k) n];cases r:zhz m.Outer u with|none=>rfl|some C=>exact B (i+1) C ((zqe _ _ _ r).trans n)});exact p _ _ _ rfl
theorem zNy:vM 26 zo5:=hF1 zG4 zA zy zq zVZ zUe
def z6Q:zbb:=[(26,zo5),(119,zo5)]++z6P
theorem zG5:zS z6Q:=zi zNy (zi zM7 zG4)
theorem zZG {h:Host}(a:zck h=true):(h.Mons.length:Int)<=3:=by unfold zck at a;simp only[zdr]at a;exact(zfA.1 a.2.1).2
def zc3 (h:Host)(m:Int):Bool:=bif zck h then hasB m (ln h.Mons) else false
def zcN (h:Host)(m p:Int):Bool:=bif zck h then (cond (hasB m<|ln h.Mons) (hasB p 8) false) else false
theorem zPk {h:Host}(a:zck h=true)(m:Int):zk m 0 (wsub .i64 (ln h.Mons) 1)=hasB m (ln h.Mons):=zq2 (by have:=zZG a;omega) m
theorem win7 (p:Int):zk p 0 7=hasB p 8:=by unfold zk ige ile hasB;by_cases a:0<=p<;>by_cases b:p<8;{rw [qI (p:=p≥0) (by omega),qI (p:=p<=7) (by omega),qI (p:=0<=p/\p<8) ⟨a,b⟩];rfl};{rw [qK (p:=p<=7) (by omega),qK (p:=0<=p/\p<8) (by omega)];simp};{rw [qK (p:=p≥0) (by omega),qK (p:=0<=p/\p<8) (by omega)];simp};{rw [qK (p:=p≥0) (by omega),qK (p:=0<=p/\p<8) (by omega)];simp}
@[simp] abbrev zgd (h:Host)(m:Int):Bool:=true
@[simp] abbrev zgc (h:Host)(m:Int):Bool:=zc3 h m
def zDz:Run:=rF2 dH dI λb c=>(zgd b c,[aB<|zgc b c])
def zJw (N:Nat)(a:Host)(b:Int):OA:=
 (oN (zez a)<|cond (zeu a) (oN (zO b 0<|wsub .i64 (ln a.Mons) 1)<|some [aB<|zk b 0<|wsub .i64 (ln a.Mons) 1]) oF)
theorem zUt (a:Host)(b:Int)(d:zgd a b=true):∃N,zJw N a b=some [aB<|zgc a b]:=by refine⟨0,?_⟩;unfold zJw zgc zc3 oN;cases c:zck a;{simp only [zez,zeu,c,cT,cF]};{simp only [zez,zeu,c,cT,zO,zSx,zPk c]}
theorem zNZ:vM 209 zDz:=kF2 zG5 zA zy zq (zx []) zUt
@[simp] abbrev zot (h:Host)(m p:Int):Bool:=true
@[simp] abbrev zgj (h:Host)(m p:Int):Bool:=zcN h m p
def zGw:Run:=rF3 dH dI dI λb c d=>(zot b c d,[aB<|zgj b c d])
def zPF (N:Nat)(a:Host)(b c:Int):OA:=
 (oN (zez a)<|cond (zeu a) (oN (zO b 0<|wsub .i64 (ln a.Mons) 1)<|cond (zk b 0<|wsub .i64 (ln a.Mons) 1) (oN (zO c 0 7)<|some [aB<|zk c 0 7]) oF) oF)
theorem zW5 (a:Host)(b c:Int)(e:zot a b c=true):∃N,zPF N a b c=some [aB<|zgj a b c]:=by refine⟨0,?_⟩;unfold zPF zgj zcN oN;cases d:zck a;{simp only [zez,zeu,d,cT,cF]};{simp only [zez,zeu,d,cT,zO,zSx,zPk d,win7];cases hasB b (ln a.Mons)<;>rfl}
theorem zRc:vM 215 zGw:=kF3 zG5 zA zy zq (zx []) zW5
def z6R:zbb:=[(209,zDz),(215,zGw)]++z6Q
theorem zS7:zS z6R:=zi zNZ (zi zRc zG5)
def zdB (k:Kept)(p:Int):Bool:=bif hasB p (ln k.Known) then hasB p (ln k.Slots) else false
def zb4 (k:Kept)(p:Int):Kept:=bif zdB k p then ⟨up k.Known p false,up k.Slots p noSlot⟩ else k
@[simp] theorem zqd {k:Kept}{p:Int}(h:SmK k):SmK (zb4 k p):=by unfold zb4;cases zdB k p;{exact h};{exact⟨by simpa using h.1,by simpa using h.2⟩}
theorem has_lt {p:Int}{n m:Int}(h:hasB p n=true):ilt p m=hasB p m:=by have h:=qD h;unfold ilt hasB;by_cases a:p<m;{rw [qI a,qI ⟨h.1,a⟩]};{rw [qK a,qK (by omega)]}
@[simp] abbrev zdQ (k:Kept)(p:Int):Bool:=pc (SmK k)
@[simp] abbrev zi4 (k:Kept)(p:Int):Bool:=zdB k p
def zDx:Run:=rF2 (dT .kept) dI λb c=>(zdQ b c,[aB<|zi4 b c])
def zJu (N:Nat)(a:Kept)(b:Int):OA:=
 (oN (zO b 0<|wsub .i64 (ln a.Known) 1)<|cond (zk b 0<|wsub .i64 (ln a.Known) 1) (some [aB<|ilt b<|ln a.Slots]) oF)
theorem zUq (a:Kept)(b:Int)(c:zdQ a b=true):∃N,zJu N a b=some [aB<|zi4 a b]:=by have e:=zQ.1 c;refine⟨0,?_⟩;unfold zJu zi4 zdB oN;simp only[zO,zSx,zq2 e.1,cT];cases d:hasB b (ln a.Known);{rfl};{simp only [cT,has_lt d]}
theorem zNP:vM 272 zDx:=kF2 zS7 zA zy zq (zx []) zUq
def z6S:zbb:=[(272,zDx)]++z6R
theorem zG6:zS z6S:=zi zNP zS7
@[simp] abbrev zhr (k:Kept)(p:Int):Kept:=zb4 k p
def zpf:Run:=rF2 (dT .kept) dI λb c=>(zdQ b c,[aT .kept<|zhr b c])
def zJc (N:Nat)(c:Kept)(b:Int):OA:=
 let a:=zd1 c; (oN (zgQ c)<|oN (zdQ a b)<|cond (zi4 a b) (oN (inb b<|ln a.Known)<|share (up a.Known b false) λd=>oN zbP<|oN (inb b<|ln a.Slots)<|share (up a.Slots b zbf) λe=>some [aT .kept (⟨d,e⟩:Kept)])<|some [aT .kept a])
theorem zUc (a:Kept)(b:Int)(g:zdQ a b=true):∃N,zJc N a b=some [aT .kept<|zhr a b]:=by
 have d:=zQ.1 g;refine⟨0,?_⟩;unfold zJc zhr oN;conv=>zeta
 refine must (zbq<|(zxD _).2 d) (must (zbq d) ?_);unfold zb4;cases c:zdB a b;{simp only [zi4,zd1,c,cF]};{simp only [zi4,zd1,c,cT];unfold zdB at c;obtain⟨e,f⟩:=zdr.1 c;simp only[zTJ,e,f,cT,share,zbP]}
theorem zNw:vM 212 zpf:=kF2 zG6 zA zy zq (zx []) zUc
def zIR (N:Nat)(b:Kept)(a:Int):OA:=
 let c:=zdK b; (oN (zeI b)<|oN (zbA a<|ln b.Known)<|cond (zdo a<|ln b.Known) (oN (zbA a<|ln b.Slots)<|cond (zdo a<|ln b.Slots) (oN (inb a<|ln c.Known)<|share (up c.Known a false) λd=>oN zbP<|oN (inb a<|ln c.Slots)<|share (up c.Slots a zbf) λe=>some [aT .kept (⟨d,e⟩:Kept)])<|some [aT .kept c])<|some [aT .kept c])
theorem zTT (a:Kept)(b:Int)(c:zdQ a b=true):∃N,zIR N a b=some [aT .kept<|zhr a b]:=by
 have d:=zQ.1 c;refine⟨0,?_⟩;unfold zIR zhr oN;conv=>zeta
 refine must (zbq d) (must rfl ?_);unfold zb4 zdB;simp only[zdo,zbA,zdK,zTJ,share,zbP,cT];cases hasB b (ln a.Known);{rfl};{cases hasB b (ln a.Slots)<;>rfl}
theorem zM5:vM 168 zpf:=kF2 zG6 zA zy zq (zx []) zTT
def z6T:zbb:=[(212,zpf),(168,zpf)]++z6S
theorem zt9:zS z6T:=zi zNw (zi zM5 zG6)
def ze9 (k:Kept)(l:List Int):Kept:=l.foldl zb4 k
theorem zYC:∀(l:List Int) {k:Kept},SmK k->SmK (ze9 k l)
 |[],_,h=>h
 |p::l,k,h=>zYC l (zqd (p:=p) h)
theorem zzj {b:Type}(K:List Bool×List Slot->Option b):∀(l:List Int) (i:Nat) (k:Kept),SmK k->
 goL (λ_ x (t:List Bool×List Slot) a=>bif pc (SmK ⟨t.1,t.2⟩) then a ((zb4 ⟨t.1,t.2⟩ x).Known,(zb4 ⟨t.1,t.2⟩ x).Slots) else none) K l i (k.Known,k.Slots)=K ((ze9 k l).Known,(ze9 k l).Slots)
 |[],_,_,_=>rfl
 |x::l,i,k,h=>by have e:pc (SmK ⟨k.Known,k.Slots⟩)=true:=zbq h;simp only[goL,e,cT];exact zzj K l (i+1) (zb4 k x) (zqd h)
def zDV (l:List Slot)(p:Int):List Int:=idxs (λ(s:Slot)=>ieq s.Page p) l 0
def zj8 (k:Kept)(l:List Slot)(p:Int):Kept:=ze9 k (zDV l p)
theorem z5N {k:Kept}(l:List Slot)(p:Int)(h:SmK k):SmK (zj8 k l p):=zYC _ h
@[simp] abbrev zh7 (k:Kept)(l:List Slot)(p:Int):Bool:=pc (SmK k/\l.length<=1048576)
@[simp] abbrev zlI (k:Kept)(l:List Slot)(p:Int):Kept:=zj8 k l p
def zkj:Run:=rF3 (dT .kept) (dS .slot) dI λb c d=>(zh7 b c d,[aT .kept<|zlI b c d])
def zxy (N:Nat)(c:Kept)(e:lS)(f:Int):OA:=
 (oN (zgQ c)<|oN (zpL e f)<|iter (σ:=(Int×(List Int)×lB×lS×lB×lS×Unit)) N (λg a=>let d:=ix a.2.1 a.1 0;let b:=(⟨a.2.2.1,a.2.2.2.1⟩:Kept); (cond (ilt a.1<|ln a.2.1) (oN (inb a.1<|ln a.2.1)<|oN (zdQ b d)<|g (zM .i64 a.1 1,a.2.1,(zhr b d).Known,(zhr b d).Slots,a.2.2.2.2.1,a.2.2.2.2.2.1,()))<|some [aT .kept b])) (0,zgC e f,(zd1 c).Known,(zd1 c).Slots,[],[],()))
def zIJ:=zx [(391,0,{n:=27,tm:=[(3,.lp 0 0),(6,.lp 1 0),(7,.sl 0 []),(8,ti)],lo:=[(0,[.sl 1 [],.sl 2 []]),(1,[.sl 3 [],.sl 4 []])],ro:=[(0,.int,true),(1,.bool,true),(2,.slot,true),(3,.bool,true),(4,.slot,true)]})]
theorem zIa (b:Kept)(a:List Slot)(c:Int)(j:zh7 b a c=true):∃N,zxy N b a c=some [aT .kept<|zlI b a c]:=by
 obtain⟨h,f⟩:=zQ.1 j;have g:(zgC a c).length<=big:=qT (zzA _ a 0) (zdj f).1;refine zcA λN e=>?_;unfold zxy oN;conv=>zeta
 refine must (zbq<|(zxD _).2 h) (must (zbq (by omega)) ?_);refine(zbm (zgC a c) (λi (t:lB×lS)=>((i:Int),zgC a c,t.1,t.2,[],[],())) _ (λ_ (x:Int) (t:List Bool×List Slot) k=>bif pc (SmK ⟨t.1,t.2⟩) then k ((zb4 ⟨t.1,t.2⟩ x).Known,(zb4 ⟨t.1,t.2⟩ x).Slots) else none) (λ(t:lB×lS)=>some [.agg<|Ty.cells .kept (⟨t.1,t.2⟩:Kept)]) (λi d t rec=>?_) (λt rec=>?_) _ ((zd1 b).Known,(zd1 b).Slots)<|e g).trans ?_;{simp only [zbG d,zbi d,zbp d,zbh d g,cT]};{simp only [zbt,cF]};exact zzj _ _ 0 b h
theorem zCM:vM 391 zkj:=kF3 zt9 zA zy zq zIJ zIa
def zxq (N:Nat)(c:Kept)(d:lS)(e:Int):OA:=
 (oN (zeI c)<|oN (zpL d e)<|iter (σ:=(Int×Int×(List Int)×lB×lS×lB×lS×Unit)) N (λg a=>let f:=ix a.2.2.1 a.2.1 0;let b:=(⟨a.2.2.2.2.2.1,a.2.2.2.2.2.2.1⟩:Kept); (cond (ilt a.2.1 a.1) (oN (inb a.2.1<|ln a.2.2.1)<|oN (zdQ b f)<|g (a.1,zM .i64 a.2.1 1,a.2.2.1,a.2.2.2.1,a.2.2.2.2.1,(zhr b f).Known,(zhr b f).Slots,()))<|some [aT .kept b])) (ln<|zgC d e,0,zgC d e,[],[],(zdK c).Known,(zdK c).Slots,()))
def zID:=zx [(325,0,{n:=25,tm:=[(6,.lp 0 0),(7,.lp 1 0),(14,.sl 0 []),(15,ti),(16,ti)],lo:=[(0,[.sl 1 [],.sl 2 []]),(1,[.sl 3 [],.sl 4 []])],ro:=[(0,.int,true),(1,.bool,true),(2,.slot,true),(3,.bool,true),(4,.slot,true)]})]
theorem zH1 (c:Kept)(a:List Slot)(b:Int)(j:zh7 c a b=true):∃N,zxq N c a b=some [aT .kept<|zlI c a b]:=by
 obtain⟨h,f⟩:=zQ.1 j;have g:(zgC a b).length<=big:=qT (zzA _ a 0) (zdj f).1;refine zcA λN e=>?_;unfold zxq oN;conv=>zeta
 refine must (zbq h) (must (zbq (by omega)) ?_);refine(zbm (zgC a b) (λi (t:lB×lS)=>(ln<|zgC a b,(i:Int),zgC a b,[],[],t.1,t.2,())) _ (λ_ (x:Int) (t:List Bool×List Slot) k=>bif pc (SmK ⟨t.1,t.2⟩) then k ((zb4 ⟨t.1,t.2⟩ x).Known,(zb4 ⟨t.1,t.2⟩ x).Slots) else none) (λ(t:lB×lS)=>some [.agg<|Ty.cells .kept (⟨t.1,t.2⟩:Kept)]) (λi d t rec=>?_) (λt rec=>?_) _ ((zdK c).Known,(zdK c).Slots)<|e g).trans ?_;{simp only [zbG d,zbi d,zbp d,zbh d g,cT]};{simp only [zbt,cF]};exact zzj _ _ 0 c h
theorem zCF:vM 325 zkj:=kF3 zt9 zA zy zq zID zH1
def flushed (l:List Entry)(p:Int):List Entry:=l.filter λe=>!ieq e.Host p
theorem zF6 (l:List Entry)(p:Int):(flushed l p).length<=l.length:=uA _ _
theorem zmd {b e:Type}(p:b->Bool)(K:List b->Option e):∀(l:List b) (i:Nat) (a:List b),a.length+l.length<=2147483648->
 goL (λ_ x a d=>bif p x then (cond (few<|ln<|ap a [x]) (d<|ap a [x]) none) else d a) K l i a=K (a++l.filter p)
 |[],i,a,_=>by simp[goL]
 |x::l,i,a,h=>by simp only[qZ]at h;simp only[goL];cases c:p x;{rw [cF,zmd p K l (i+1) a (by omega),List.filter_cons_of_neg (by simp[c])]};{rw [cT,zgu (by simp[ap];omega),cT,zmd p K l (i+1) _ (by simp[ap];omega),List.filter_cons_of_pos c];simp[ap]}
@[simp] abbrev zek (l:List Entry)(p:Int):Bool:=pc (l.length<=1048576)
@[simp] abbrev zgL (l:List Entry)(p:Int):List Entry:=flushed l p
def zlc:Run:=rF2 (dS .entry) dI λb c=>(zek b c,[aS .entry<|zgL b c])
def zAr (N:Nat)(e:lE)(f:Int):OA:=
 (iter (σ:=(Int×Int×lE×lE×Unit)) N (λd a=>let b:=a.2.2.1;let c:=ix b a.2.1 ze3; (cond (ilt a.2.1<|ln b) (oN (inb a.2.1<|ln b)<|cond (ine c.Host a.1) (oN (inb a.2.1<|ln b)<|oN (few<|ln<|ap a.2.2.2.1 [c])<|d (a.1,zM .i64 a.2.1 1,b,ap a.2.2.2.1 [c],()))<|d (a.1,zM .i64 a.2.1 1,b,a.2.2.2.1,()))<|some [aS .entry a.2.2.2.1])) (f,0,e,[],()))
def zMw:=zx [(392,0,{n:=29,tm:=[(0,.sl 0 []),(1,ti),(5,.sl 1 []),(6,ti)],lo:=[],ro:=[(0,.entry,false),(1,.entry,true)]})]
theorem zLn (a:List Entry)(b:Int)(h:zek a b=true):∃N,zAr N a b=some [aS .entry<|zgL a b]:=by
 have j:=zQ.1 h;have f:=zdj j;refine zcA λN d=>?_;unfold zAr oN;conv=>zeta
 refine(zbm a (λi (t:lE)=>(b,(i:Int),a,t,())) _ (λ_ (x:Entry) (t:List Entry) g=>bif !ieq x.Host b then (cond (few<|ln<|ap t [x]) (g<|ap t [x]) none) else g t) (λ(t:lE)=>some [.one<|.s .entry t]) (λi c t rec=>?_) (λt rec=>?_) _ ([])<|d f.1).trans ?_;{simp only [zbG c,zbi c,zbp c,zbh c f.1,cT];rfl};{simp only [zbt,cF]};exact zmd (λe=>!ieq e.Host b) _ a 0 [] (by simpa using f.2)
theorem zEH:vM 392 zlc:=kF2 zt9 zA zy zq zMw zLn
def zAb (N:Nat)(d:lE)(f:Int):OA:=
 (iter (σ:=(Int×Int×Int×lE×lE×Unit)) N (λe a=>let b:=a.2.2.2.2.1;let c:=ix b a.2.1 ze3; (cond (ilt a.2.1 a.1) (oN (inb a.2.1<|ln b)<|cond (nB<|ieq c.Host a.2.2.1) (oN (few<|ln<|ap a.2.2.2.1 [c])<|e (a.1,zM .i64 a.2.1 1,a.2.2.1,ap a.2.2.2.1 [c],b,()))<|e (a.1,zM .i64 a.2.1 1,a.2.2.1,a.2.2.2.1,b,()))<|some [aS .entry a.2.2.2.1])) (ln d,0,f,[],d,()))
def zMo:=zx [(310,0,{n:=25,tm:=[(1,.fn 385 [0]),(5,.sl 0 []),(9,.sl 1 []),(10,ti),(11,ti)],lo:=[(0,[ti])],ro:=[(0,.entry,true),(1,.entry,false)]})]
theorem zK8 (a:List Entry)(b:Int)(h:zek a b=true):∃N,zAb N a b=some [aS .entry<|zgL a b]:=by
 have j:=zQ.1 h;have f:=zdj j;refine zcA λN d=>?_;unfold zAb oN nB;conv=>zeta
 refine(zbm a (λi (t:lE)=>(ln a,(i:Int),b,t,a,())) _ (λ_ (x:Entry) (t:List Entry) g=>bif !ieq x.Host b then (cond (few<|ln<|ap t [x]) (g<|ap t [x]) none) else g t) (λ(t:lE)=>some [.one<|.s .entry t]) (λi c t rec=>?_) (λt rec=>?_) _ ([])<|d f.1).trans ?_;{simp only [zbG c,zbi c,zbp c,zbh c f.1,cT];cases ieq a[i].Host b<;>rfl};{simp only [zbt,cF]};exact zmd (λe=>!ieq e.Host b) _ a 0 [] (by simpa using f.2)
theorem zEt:vM 326 zlc:=kF2 zt9 zA zy zq zMo zK8
def zY8:zbb:=[(391,zkj),(325,zkj),(392,zlc),(326,zlc)]++z6T
theorem zG7:zS zY8:=zi zCM (zi zCF<|zi zEH<|zi zEt zt9)
def zlW (b:List Guest)(p:Int):Nat->List Kept->List Kept
 | 0,a=>a
 |n+1,a=>up (zlW b p n a) (n:Int) (zj8 (ix (zlW b p n a) (n:Int) zeC) (ix b (n:Int) zu).Live p)
theorem zqY (b:List Guest)(p:Int):∀(n:Nat) (a:List Kept),(zlW b p n a).length=a.length
 | 0,_=>rfl
 |n+1,a=>by simp only[zlW,zhy];exact zqY b p n a
theorem zwy (b:List Guest)(p:Int):∀(n:Nat) (a:List Kept),n<=a.length->zCf a->zCf (zlW b p n a)
 | 0,_,_,h=>h
 |n+1,a,e,h=>by have d:=zwy b p n a (by omega) h;have c:n<(zlW b p n a).length:=(by rw[zqY];omega);exact zyI d (z5N _ _ (by rw[zbp c];exact d.2 _ (jK c)))
def zk4 (x:Mon)(p:Int)(n:Nat):Mon:={x with Tables:=zlW x.Guests p n x.Tables}
theorem z3x {x:Mon}{p:Int}{n:Nat}(a:n<=x.Tables.length)(h:zf1 x):zf1 (zk4 x p n):=⟨h.1,h.2.1,h.2.2.1,h.2.2.2.1,h.2.2.2.2.1,zwy _ _ _ _ a h.2.2.2.2.2⟩
def zcz (h:Host)(m p:Int)(s:Slot):Host :=
 bif ine (ix (ix h.Mons m zh).Outer p zW).Page (-1)
 then ⟨h.Memory,up h.Mons m {zk4 (ix h.Mons m zh) p (ix h.Mons m zh).Tables.length with Outer:=up (ix h.Mons m zh).Outer p s},flushed h.Buffer (ix (ix h.Mons m zh).Outer p zW).Page,flushed h.IoBuffer (ix (ix h.Mons m zh).Outer p zW).Page⟩
 else ⟨h.Memory,up h.Mons m {zk4 (ix h.Mons m zh) p (ix h.Mons m zh).Tables.length with Outer:=up (ix h.Mons m zh).Outer p s},h.Buffer,h.IoBuffer⟩
def z9L (h:Host)(m p:Int):Prop:=hasB m (ln h.Mons)=true/\hasB p (ln (ix h.Mons m zh).Outer)=true/\(ix h.Mons m zh).Tables.length<=(ix h.Mons m zh).Guests.length
@[simp] abbrev zfX (h:Host)(m p:Int)(s:Slot):Bool:=pc (zdI h/\z9L h m p)
@[simp] abbrev zhX (h:Host)(m p:Int)(s:Slot):Host:=zcz h m p s
def zsP:List AV->Option (Bool×List AV)
 |[.agg [.s (.sl .int) b,.s .mon c,.s .entry d,.s .entry e],.one<|.i .i64 f,.one<|.i .i64 g,.agg [.i .i64 h,.i .i64 j]]=>some (zfX (⟨b,c,d,e⟩:Host) f g (⟨h,j⟩:Slot),[aH<|zhX (⟨b,c,d,e⟩:Host) f g (⟨h,j⟩:Slot)])
 |_=>none
def zwK (N:Nat)(p:Host)(g z:Int)(B:Slot):OA:=
 let v:=ix p.Mons g zh; (oN (inb g<|ln p.Mons)<|oN (inb z<|ln v.Outer)<|iter (σ:=(Int×Int×Int×Int×Int×Int×Int×Int×Int×Int×Int×Int×Int×Int×Int×lM×lN×lE×lE×lM×lN×lE×lE×Unit)) N (λD a=>let d:=a.2.2.1;let m:=a.2.2.2.2.2.2.2.2.2.2.2.1;let l:=a.2.2.2.2.2.2.2.2.2.2.2.2.1;let k:=a.2.2.2.2.2.2.2.2.2.2.2.2.2.2.1;let j:=a.2.2.2.2.2.2.2.2.2.2.2.2.2.2.2.1;let f:=a.2.2.2.2.2.2.2.1;let e:=a.2.2.2.2.2.2.2.2.1;let c:=a.2.2.2.1;let w:=a.2.2.2.2.2.2.2.2.2.2.1;let y:=a.2.2.2.2.2.2.2.2.2.2.2.2.2.2.2.2.2.1;let x:=a.2.2.2.2.2.2.2.2.2.2.2.2.2.2.2.2.2.2.1;let n:=a.2.2.2.2.2.2.1;let r:=a.2.2.2.2.2.2.2.2.2.1;let i:=a.2.2.2.2.2.2.2.2.2.2.2.2.2.1;let q:=a.2.2.2.2.2.2.2.2.2.2.2.2.2.2.2.2.1;let u:=(ix q r zh).Guests;let t:=(ix u c zu).Live;let h:=ix q n zh;let s:=(ix q i zh).Tables;let C:=up q n ({h with Outer:=(up h.Outer a.2.1 (⟨a.2.2.2.2.1,a.2.2.2.2.2.1⟩:Slot))}:Mon); (cond (ilt c<|ln s) (oN (inb c<|ln s)<|oN (inb c<|ln u)<|oN (zh7 (ix s c zeC) t a.2.1)<|oN (inb c<|ln s)<|share (up q i ({ (ix q i zh) with Tables:=(up s c<|zlI (ix s c zeC) t a.2.1)}:Mon)) λb=>D (a.1,a.2.1,d,zM .i64 c 1,a.2.2.2.2.1,a.2.2.2.2.2.1,n,f,e,r,w,m,l,i,k,j,b,y,x,a.2.2.2.2.2.2.2.2.2.2.2.2.2.2.2.2.2.2.2.1,a.2.2.2.2.2.2.2.2.2.2.2.2.2.2.2.2.2.2.2.2.1,a.2.2.2.2.2.2.2.2.2.2.2.2.2.2.2.2.2.2.2.2.2.1,a.2.2.2.2.2.2.2.2.2.2.2.2.2.2.2.2.2.2.2.2.2.2.1,()))<|cond (ine d<|-1) (oN (zek y d)<|oN (zek x d)<|oN (inb a.2.1<|ln h.Outer)<|share C λb=>oN (inb a.1<|ln b)<|oN (cond (cond (cond (cond (cond (cond (ieq i a.1) true false) (cond (ieq w a.1) true false) false) (cond (ieq r a.1) true false) false) (cond (ieq e a.1) true false) false) (cond (ieq f a.1) true false) false) (cond (ieq n a.1) true false) false)<|share (up b a.1 ({ (ix b n zh) with Out:=(ix b f zh).Out,Dirty:=(ix b e zh).Dirty,Guests:=(ix b r zh).Guests,Outs:=(ix b w zh).Outs,Pending:=m,Traps:=l,Tables:=(ix b i zh).Tables,Own:=k}:Mon)) λA=>some [aH (⟨j,A,zgL y d,zgL x d⟩:Host)])<|oN (inb a.2.1<|ln h.Outer)<|share C λb=>oN (inb a.1<|ln b)<|oN (cond (cond (cond (cond (cond (cond (ieq i a.1) true false) (cond (ieq w a.1) true false) false) (cond (ieq r a.1) true false) false) (cond (ieq e a.1) true false) false) (cond (ieq f a.1) true false) false) (cond (ieq n a.1) true false) false)<|share (up b a.1 ({ (ix b n zh) with Out:=(ix b f zh).Out,Dirty:=(ix b e zh).Dirty,Guests:=(ix b r zh).Guests,Outs:=(ix b w zh).Outs,Pending:=m,Traps:=l,Tables:=(ix b i zh).Tables,Own:=k}:Mon)) λA=>some [aH (⟨j,A,y,x⟩:Host)])) (g,z,(ix v.Outer z zW).Page,0,B.Page,B.Rights,g,g,g,g,g,v.Pending,v.Traps,g,v.Own,p.Memory,p.Mons,p.Buffer,p.IoBuffer,[],[],[],[],()))
def zSe:=zx [(336,0,{n:=70,tm:=[(1,ti),(2,ti),(4,.lp 0 0),(7,.lp 1 0),(8,.lp 2 0),(9,.lp 3 0),(10,ti),(11,ti)],lo:=[(0,[.sl 0 [],.sl 1 [],.sl 2 [],.sl 3 []]),(1,[ti,ti]),(2,[.sl 4 [],.sl 5 [],.sl 6 [],.sl 7 []]),(3,[.sl 1 [0],.sl 1 [1],.sl 1 [2],.sl 1 [3],.sl 1 [4],ti,ti,.sl 1 [7],ti])],ro:=[(0,.sl .int,true),(1,.mon,true),(2,.entry,true),(3,.entry,true),(4,.sl .int,true),(5,.mon,true),(6,.entry,true),(7,.entry,true)]})]
theorem zUE (N:Nat)(a:Host)(b c:Int)(d:Slot):zD7 (cQ zY8 zoZ zIl zVL) zSe N 12 336 [true,true,true,true,false,false,false,false] 1 1 [[0],[1],[2],[4],[7]] .mon [aH a,aI b,aI c,aT .slot d]=zwK N a b c d:=by kernel_rfl
theorem zRQ (a:Host)(f b:Int)(d:Slot)(D:zbL big [aH a,aI f,aI b,aT .slot d])(y:zfX a f b d=true):∃N,zwK N a f b d=some [aH<|zhX a f b d]:=by
 obtain⟨B,g,s,C⟩:=zQ.1 y;have l:=(zU a).1 B;have r:zf1 (ix a.Mons f zh):=l.2.1.2 _ (zbK g _);obtain⟨k,rfl,q⟩:=zef (n:=a.Mons.length) g;have x:=(zdj r.2.2.2.2.2.1).1;refine zcA λN p=>?_;unfold zwK oN;conv=>zeta
 refine must g (must s ?_);refine zEe (ix a.Mons (k:Int) zh).Tables.length (λi (t:List Mon)=>((k:Int),b,(ix (ix a.Mons (k:Int) zh).Outer b zW).Page,(i:Int),d.Page,d.Rights,(k:Int),(k:Int),(k:Int),(k:Int),(k:Int),(ix a.Mons (k:Int) zh).Pending,(ix a.Mons (k:Int) zh).Traps,(k:Int),(ix a.Mons (k:Int) zh).Own,a.Memory,t,a.Buffer,a.IoBuffer,[],[],[],[],())) _
  (λi t=>t=up a.Mons (k:Int) (zk4 (ix a.Mons (k:Int) zh) b i)) (λ_ _=>some [AV.agg<|zbl<|zcz a (k:Int) b d]) (λi t rec u m A=>?_) (λt rec m=>?_) _ 0 a.Mons ?_ (j3 _) ?_
 .subst m;have c:i<(zlW (ix a.Mons (k:Int) zh).Guests b i (ix a.Mons (k:Int) zh).Tables).length:=(by rw[zqY];exact u);have e:i<(ix a.Mons (k:Int) zh).Guests.length:=by omega
  have z:zh7 (ix (zlW (ix a.Mons (k:Int) zh).Guests b i (ix a.Mons (k:Int) zh).Tables) (i:Int) zeC) (ix (ix a.Mons (k:Int) zh).Guests (i:Int) zu).Live b=true :=
   zbq ⟨by rw[zbp c];exact(zwy _ _ _ _ (by omega) r.2.2.2.2.2).2 _ (jK c),by rw[zbp e];exact(r.2.2.2.1.2 _<|jK e).2.2.1⟩
  simp only[zel q,zwA,zk4,zbG c,zbi c,zbi e,z,cT,share,zbh u x];exact A _ rfl
 {subst m;simp only[zel q,zwA,zhy,zk4,ln,zqY,zeJ,show ilt (((ix a.Mons (k:Int) zh).Tables.length:Nat):Int) (((ix a.Mons (k:Int) zh).Tables.length:Nat):Int)=false from qK (by omega),cT,cF,share];have h:inb (k:Int) ((a.Mons.length:Nat):Int)=true:=g;have j:inb b (((ix a.Mons (k:Int) zh).Outer.length:Nat):Int)=true:=s;have v:zek a.Buffer (ix (ix a.Mons (k:Int) zh).Outer b zW).Page=true:=zbq l.2.2.1;have w:zek a.IoBuffer (ix (ix a.Mons (k:Int) zh).Outer b zW).Page=true:=zbq l.2.2.2;simp only[h,j,v,w,cT];unfold zcz;cases ine (ix (ix a.Mons (k:Int) zh).Outer b zW).Page (-1)<;>rfl};{exact(zPf q _).symm};{exact p (by omega)}
theorem zKT:zeF Tryz.prog 336 [true,true,true,true,false,false,false,false] (some (1,1,[[0],[1],[2],[4],[7]])) zsP:=by refine zmf (kt:=.mon) (zhb zG7 zA zy zq) (zje (by kernel_rfl)) (by kernel_rfl) ?_;intro a g f e h;have c:=zjk e;unfold zsP at h;split at h;{obtain⟨d,rfl⟩:=zet h;obtain⟨N,b⟩:=zRQ _ _ _ _ (by exact c) d;exact⟨⟨_,rfl⟩,rfl,_,N,12,(zUE N _ _ _ _ ).trans b⟩};{cases h}
def zVM:zfL:=[(336,[true,true,true,true,false,false,false,false],some (1,1,[[0],[1],[2],[4],[7]]),zsP)]++zVL
theorem zdG:zex zVM:=zqZ zq (by
 intro x a;simp only[qG,qN,or_false]at a;rcases a with rfl
 .exact zKT)
def zWf (x:Mon)(p:Int):Mon:={x with Dirty:=up x.Dirty p false}
def zq1 (h:Host)(m p:Int):Host:={h with Mons:=up h.Mons m (zWf (ix h.Mons m zh) p)}
def zun (h:Host)(m p:Int):Host:=bif zcN h m p then (cond (zdb (ix (ix h.Mons m zh).Outer p zW) noSlot) (zq1 h m p)<|zcz (zq1 h m p) m p ⟨(ix (ix h.Mons m zh).Outer p zW).Page,1⟩) else h
theorem zzo:∀(l:List Mon) (u:List Bool),zjr l u=true->∀x∈l,ze0 x=true
 |[],_,_,x,a=>by cases a
 |m::l,u,h,x,a=>by
  simp only[zjr]at h;cases b:ze0 m;{rw [b]at h;cases h}
  .rw [b]at h;simp only[cT]at h;cases c:zhz m.Outer u with
   |none=>rw[c]at h;cases h
   |some d =>rw[c]at h;rcases qG.1 a with rfl|a;{exact b};{exact zzo l d h x a}
structure PageAt (h:Host) (m p:Int):Prop where
 hm:hasB m (ln h.Mons)=true
 hp:hasB p 8=true
 ok:ze0 (ix h.Mons m zh)=true
 ho:(ix h.Mons m zh).Outer.length=8
 hd:(ix h.Mons m zh).Dirty.length=8
 ht:(ix h.Mons m zh).Tables.length=(ix h.Mons m zh).Guests.length
 hs:zdb (ix (ix h.Mons m zh).Outer p zW) noSlot=ieq (ix (ix h.Mons m zh).Outer p zW).Page (-1)
theorem zQD {s:Slot}{n:Int}(h:zed s n=true):zdb s noSlot=ieq s.Page (-1):=by unfold zed at h;cases a:zdb s noSlot;{rw [a]at h;cases d:ieq s.Page (-1);{rfl};{have e:s.Page = -1:=qD d;cases b:igt n 0;{rw [b]at h;cases h};{cases c:zk s.Page 0 (wsub .i64 n 1);{rw [b,c]at h;cases h};{have:=(zfA.1 c).1;omega}}}};{unfold zdb at a;rw[qE]at a;exact a.1.symm}
theorem zLG {h:Host}{m p:Int}(d:zcN h m p=true):PageAt h m p:=by unfold zcN at d;simp only[zdr]at d;obtain⟨c,f,g⟩:=d;unfold zck at c;simp only[zdr]at c;have b:=zzo _ _ c.2.2.2.2 _ (zbK f zh);have a:=b;unfold ze0 at a;simp only[zdr]at a;have i:(ix h.Mons m zh).Outer.length=8:=(by have:=zsm a.2.2.1;simp only[ln] at this;omega);refine⟨f,g,b,i,?_,?_,?_⟩;{have:ln (ix h.Mons m zh).Dirty=8:=qD a.2.2.2.2.1;simp only[ln] at this;omega};{have:ln (ix h.Mons m zh).Tables=ln (ix h.Mons m zh).Guests:=qD a.2.1;simp only[ln] at this;omega};{have e:=a.2.2.1;unfold zdd at e;simp only[zdr]at e;have j:hasB p (ln (ix h.Mons m zh).Outer)=true:=(by rw[ln,i];exact g);exact zQD (qM.1 e.1 _<|zbK j _)}
theorem zVB {x:Mon}{p:Int}(h:zf1 x):zf1 (zWf x p):=⟨h.1,h.2.1,by simpa [zWf] using h.2.2.1,h.2.2.2⟩
theorem zz1 {h:Host}{m p:Int}(b:hasB m (ln h.Mons)=true)(a:SmH h):SmH (zq1 h m p):=⟨a.1,zj2 a.2.1<|zVB<|a.2.1.2 _<|zbK b _,a.2.2⟩
theorem zGF {h:Host}{m p:Int}{s:Slot}(d:hasB m (ln h.Mons)=true)(a:SmH h):SmH (zcz h m p s):=by have c:=a.2.1.2 _ (zbK d zh);have e:=z3x (p:=p) (qW _) c;have b:zrU (up h.Mons m {zk4 (ix h.Mons m zh) p (ix h.Mons m zh).Tables.length with Outer:=up (ix h.Mons m zh).Outer p s}):=zj2 a.2.1 ⟨by simpa using c.1,e.2⟩;unfold zcz;cases ine (ix (ix h.Mons m zh).Outer p zW).Page (-1);{exact⟨a.1,b,a.2.2⟩};{exact⟨a.1,b,qT (zF6 _ _) a.2.2.1,qT (zF6 _ _) a.2.2.2⟩}
theorem zz5 {h:Host}{m p:Int}(a:hasB m (ln h.Mons)=true):hasB m (ln (zq1 h m p).Mons)=true:=by unfold zq1;simpa [ln] using a
theorem z3t {h:Host}{m p:Int}(a:SmH h):SmH (zun h m p):=by unfold zun;cases b:zcN h m p;{exact a};{have P:=zLG b;cases zdb (ix (ix h.Mons m zh).Outer p zW) noSlot;{exact zGF (zz5 P.hm) (zz1 P.hm a)};{exact zz1 P.hm a}}
@[simp] abbrev ziN (h:Host)(m p:Int):Bool:=pc (zdI h)
@[simp] abbrev zwh (h:Host)(m p:Int):Host:=zun h m p
def zGt:Run:=rF3 dH dI dI λb c d=>(ziN b c d,[aH<|zwh b c d,aB<|zgj b c d])
def zPv (N:Nat)(h:Host)(a b:Int):OA:=
 let c:=zl h;let g:=ix c.Mons a zh; (oN (zbC h)<|oN (zot c a b)<|cond (nB<|zgj c a b) (some [aH c,aB false])<|oN (inb a<|ln c.Mons)<|oN (inb b<|ln g.Dirty)<|share (up c.Mons a ({g with Dirty:=(up g.Dirty b false)}:Mon)) (λd=>let i:=(ix d a zh).Outer;let f:=({c with Mons:=d}:Host);let e:=ix i b zW;let j:=({e with Rights:=1}:Slot); (oN (inb a<|ln d)<|oN (inb b<|ln i)<|oN zbP<|cond (cond (ieq e.Page zbf.Page) (ieq e.Rights zbf.Rights) false) (some [aH f,aB true])<|oN (zfX f a b j)<|some [aH<|zhX f a b j,aB true])))
theorem zWW (a:Host)(c b:Int)(j:ziN a c b=true):∃N,zPv N a c b=some [aH<|zwh a c b,aB<|zgj a c b]:=by
 have g:=zQ.1 j;have i:=(zU a).1 g;refine⟨0,?_⟩;unfold zPv zwh zgj zun oN nB;conv=>zeta
 refine must (zbq g) (must rfl ?_);cases f:zcN a c b;{simp only [zgj,zl,f,cF,cT]};{have P:=zLG f;obtain⟨k,rfl,d⟩:=zef (n:=a.Mons.length) P.hm;simp only[zgj,zl,f,cT,cF];have l:inb b (ln (ix a.Mons (k:Int) zh).Dirty)=true:=(by rw[ln,P.hd];exact P.hp);have h:inb b (ln (ix a.Mons (k:Int) zh).Outer)=true:=(by rw[ln,P.ho];exact P.hp);refine must P.hm (must l ?_);simp only[share,zel d,h,cT,zbP,zbf];refine must (zz5 (p:=b) P.hm) ?_;have e:∀s:Slot,zdb s noSlot=bif ieq s.Page noSlot.Page then ieq s.Rights noSlot.Rights else false:=λs=>(by unfold zdb;cases ieq s.Page noSlot.Page<;>rfl);rw[<- e];cases zdb (ix (ix a.Mons (k:Int) zh).Outer b zW) noSlot;{refine zdp rfl (must (zbq ⟨(zU _).2 (zz1 P.hm i),zz5 (p:=b) P.hm,?_,?_⟩) rfl);{simp only [zel d];exact h};{simp only [zel d];exact kY P.ht}};{rfl}}
theorem zQ0:vM 200 zGt:=kF3 zG7 zA zy zdG (zx []) zWW
def z1D:zbb:=[(200,zGt)]++zY8
theorem z1E:zS z1D:=zi zQ0 zG7
def z1F:zbb:=z1D
theorem zfD:zS z1F:=z1E
def zmT (o i t:Int):Int:=bif zdW i t then 1 else (cond (zdW o t) 2 0)
@[simp] abbrev znp (o i t:Int):Bool:=true
@[simp] abbrev zj0 (o i t:Int):Int:=zmT o i t
def znH:Run:=rF3 dI dI dI λb c d=>(znp b c d,[aI<|zj0 b c d])
def zFL (N:Nat)(b c a:Int):OA:=
 (oN (zfR c a)<|cond (zfb c a) (some [aI 1])<|oN (zfR b a)<|cond (zfb b a) (some [aI 2])<|some [aI 0])
theorem zAE (a b c:Int)(d:zbL big [aI a,aI b,aI c])(e:znp a b c=true):∃N,zFL N a b c=some [aI<|zj0 a b c]:=by refine⟨0,?_⟩;unfold zFL oN;refine must rfl (br (λ_=>?_) λ_=>must rfl (br (λ_=>?_) λ_=>?_));all_goals first|rfl|(simp only [*,zj0,zmT,cT,cF]<;>rfl)|simp_all[Ty.cells,zj0,zmT]
theorem zKw:vM 342 znH:=hF3 zfD zA zy zdG (zx []) zAE
theorem zKd:vM 290 znH:=hF3 zfD zA zy zdG (zx []) zAE
theorem has3 (p:Int):hasB p 3=zk p 0 2:=by unfold hasB zk ige ile;by_cases a:0<=p<;>by_cases b:p<3;{rw [qI (p:=0<=p/\p<3) ⟨a,b⟩,qI (p:=p≥0) a,qI (p:=p<=2) (by omega)];rfl};{rw [qK (p:=0<=p/\p<3) (by omega),qK (p:=p<=2) (by omega)];simp};{rw [qK (p:=0<=p/\p<3) (by omega),qK (p:=p≥0) (by omega)];simp};{rw [qK (p:=0<=p/\p<3) (by omega),qK (p:=p≥0) (by omega)];simp}
theorem has2 (p:Int):hasB p 2=zk p 0 1:=by unfold hasB zk ige ile;by_cases a:0<=p<;>by_cases b:p<2;{rw [qI (p:=0<=p/\p<2) ⟨a,b⟩,qI (p:=p≥0) a,qI (p:=p<=1) (by omega)];rfl};{rw [qK (p:=0<=p/\p<2) (by omega),qK (p:=p<=1) (by omega)];simp};{rw [qK (p:=0<=p/\p<2) (by omega),qK (p:=p≥0) (by omega)];simp};{rw [qK (p:=0<=p/\p<2) (by omega),qK (p:=p≥0) (by omega)];simp}
def zeh (m g:Int):Int:=bif zk m 0 2 then (cond (zk g 0 1) (zM .i64 (zM .i64 1 g)<|zk5 .i64 m 2) 0) else 0
@[simp] abbrev zhS (m g:Int):Bool:=true
@[simp] abbrev zkZ (m g:Int):Int:=zeh m g
def zrr:Run:=rF2 dI dI λb c=>(zhS b c,[aI<|zkZ b c])
def zPC (N:Nat)(a b:Int):OA:=
 (oN (zO a 0 2)<|cond (nB<|zk a 0 2) (some [aI 0])<|oN (zO b 0 1)<|cond (nB<|zk b 0 1) (some [aI 0])<|some [aI<|zM .i64 (zM .i64 1 b)<|zk5 .i64 a 2])
theorem zW2 (a b:Int)(c:zhS a b=true):∃N,zPC N a b=some [aI<|zkZ a b]:=by refine⟨0,?_⟩;unfold zPC oN nB;refine must rfl (brN (λ_=>?_) λ_=>must rfl (brN (λ_=>?_) λ_=>?_));all_goals first|rfl|(simp only [*,zkZ,zeh,cT,cF]<;>rfl)|simp_all[Ty.cells,zkZ,zeh]
theorem zQ7:vM 214 zrr:=kF2 zfD zA zy zdG (zx []) zW2
def zPr (N:Nat)(a b:Int):OA:=
 (oN (zbA a 3)<|cond (nB<|zdo a 3) (some [aI 0])<|oN (zbA b 2)<|cond (nB<|zdo b 2) (some [aI 0])<|some [aI<|zM .i64 (zM .i64 1 b)<|zk5 .i64 a 2])
theorem zWS (a b:Int)(c:zhS a b=true):∃N,zPr N a b=some [aI<|zkZ a b]:=by refine⟨0,?_⟩;unfold zPr oN nB;refine must rfl (brN (λ_=>?_) λ_=>must rfl (brN (λ_=>?_) λ_=>?_));all_goals first|rfl|(simp only [*,zkZ,zeh,has3,has2,cT,cF]<;>rfl)|simp_all[Ty.cells,zkZ,zeh,has3,has2]
theorem zQV:vM 170 zrr:=kF2 zfD zA zy zdG (zx []) zWS
def zkB (k:Kept)(p:Int):Bool:=bif zdB k p then ix k.Known p false else false
def zeb (k:Kept)(p:Int):Slot:=bif zkB k p then ix k.Slots p zW else noSlot
@[simp] abbrev ziz (k:Kept)(p:Int):Slot:=zeb k p
@[simp] abbrev zoq (k:Kept)(p:Int):Bool:=zkB k p
def zQA:Run:=rF2 (dT .kept) dI λb c=>(zdQ b c,[aT .slot<|ziz b c,aB<|zoq b c])
def zXN (N:Nat)(a:Kept)(b:Int):OA:=
 let c:=ix a.Slots b zW; (oN (zdQ a b)<|cond (nB<|zi4 a b) (oN zbP<|some [.agg [.i .i64 zbf.Page,.i .i64 zbf.Rights],aB false])<|oN (inb b<|ln a.Known)<|cond (nB<|ix a.Known b false) (oN zbP<|some [.agg [.i .i64 zbf.Page,.i .i64 zbf.Rights],aB false])<|oN (inb b<|ln a.Slots)<|some [.agg [.i .i64 c.Page,.i .i64 c.Rights],aB true])
theorem z2q (a:Kept)(b:Int)(f:zdQ a b=true):∃N,zXN N a b=some [aT .slot<|ziz a b,aB<|zoq a b]:=by
 have g:=zQ.1 f;refine⟨0,?_⟩;unfold zXN ziz zoq zeb zkB oN nB;conv=>zeta
 refine must (zbq g) ?_;rw[show zi4 a b=zdB a b from rfl];cases c:zdB a b;{rfl};{unfold zdB at c;obtain⟨d,e⟩:=zdr.1 c;simp only[zC d,zC e,cT];cases ix a.Known b false<;>rfl}
theorem zWK:vM 135 zQA:=kF2 zfD zA zy zdG (zx []) z2q
@[simp] abbrev zxS (k:Kept)(p:Int):Bool:=true
def zQx:Run:=rF2 (dT .kept) dI λb c=>(zxS b c,[aT .slot<|ziz b c,aB<|zoq b c])
def zXJ (N:Nat)(a:Kept)(b:Int):OA:=
 let c:=ix a.Slots b zW; (oN (zbA b<|ln a.Known)<|cond (nB<|zdo b<|ln a.Known) (oN zbP<|some [.agg [.i .i64 zbf.Page,.i .i64 zbf.Rights],aB false])<|oN (zbA b<|ln a.Slots)<|cond (nB<|zdo b<|ln a.Slots) (oN zbP<|some [.agg [.i .i64 zbf.Page,.i .i64 zbf.Rights],aB false])<|oN (inb b<|ln a.Known)<|cond (nB<|ix a.Known b false) (oN zbP<|some [.agg [.i .i64 zbf.Page,.i .i64 zbf.Rights],aB false])<|oN (inb b<|ln a.Slots)<|some [.agg [.i .i64 c.Page,.i .i64 c.Rights],aB true])
theorem z2l (a:Kept)(b:Int)(e:zxS a b=true):∃N,zXJ N a b=some [aT .slot<|ziz a b,aB<|zoq a b]:=by
 refine⟨0,?_⟩;unfold zXJ ziz zoq zeb zkB zdB oN nB;conv=>zeta
 rw[show zdo b (ln a.Known)=hasB b (ln a.Known) from rfl,show zdo b (ln a.Slots)=hasB b (ln a.Slots) from rfl];cases c:hasB b (ln a.Known);{rfl};{cases d:hasB b (ln a.Slots);{rfl};{simp only [zbA,zC c,zC d,cT];cases ix a.Known b false<;>rfl}}
theorem zWG:vM 132 zQx:=kF2 zfD zA zy zdG (zx []) z2l
def filled (k:Kept)(a b:List Slot)(p:Int):Kept:=bif zdB k p then (cond (hasB p<|ln a) ⟨up k.Known p true,up k.Slots p<|zbB (ix a p zW) b⟩ k) else k
@[simp] theorem z0N {k:Kept}{a b:List Slot}{p:Int}(h:SmK k):SmK (filled k a b p):=by unfold filled;cases zdB k p;{exact h};{cases hasB p (ln a);{exact h};{exact⟨by simpa using h.1,by simpa using h.2⟩}}
@[simp] abbrev zuX (k:Kept)(i o:List Slot)(p:Int):Bool:=pc (SmK k)
@[simp] abbrev zuW (k:Kept)(i o:List Slot)(p:Int):Kept:=filled k i o p
def zts:Run:=rF4 (dT .kept) (dS .slot) (dS .slot) dI λb c d e=>(zuX b c d e,[aT .kept<|zuW b c d e])
def zSC (N:Nat)(d:Kept)(c e:lS)(a:Int):OA:=
 let b:=zd1 d; (oN (zgQ d)<|oN (zdQ b a)<|cond (zi4 b a) (cond (ilt a<|ln c) (oN (inb a<|ln b.Known)<|share (up b.Known a true) λf=>oN (inb a<|ln c)<|oN (zhg (ix c a zW) e)<|oN (inb a<|ln b.Slots)<|share (up b.Slots a<|zkG (ix c a zW) e) λg=>some [aT .kept (⟨f,g⟩:Kept)])<|some [aT .kept b])<|some [aT .kept b])
theorem zZW (b:Kept)(c d:List Slot)(a:Int)(j:zuX b c d a=true):∃N,zSC N b c d a=some [aT .kept<|zuW b c d a]:=by
 have g:=zQ.1 j;refine⟨0,?_⟩;unfold zSC zuW filled oN;conv=>zeta
 refine must (zbq<|(zxD _).2 g) (must (zbq g) ?_);rw[show zi4 (zd1 b) a=zdB b a from rfl];cases f:zdB b a;{rfl};{unfold zdB at f;obtain⟨e,h⟩:=zdr.1 f;rw[has_lt e (m:=ln c)];cases i:hasB a (ln c);{rfl};{simp only [cT,zd1,zC e,zC h,zC i,share,zhg];rfl}}
theorem zTE:vM 346 zts:=kF4 zfD zA zy zdG (zx []) zZW
def zSA (N:Nat)(c:Kept)(d e:lS)(a:Int):OA:=
 let b:=zdK c; (oN (zeI c)<|oN (zbA a<|ln c.Known)<|cond (zdo a<|ln c.Known) (oN (zbA a<|ln c.Slots)<|cond (zdo a<|ln c.Slots) (oN (zbA a<|ln d)<|cond (zdo a<|ln d) (oN (inb a<|ln b.Known)<|share (up b.Known a true) λf=>oN (inb a<|ln d)<|oN (zhg (ix d a zW) e)<|oN (inb a<|ln b.Slots)<|share (up b.Slots a<|zkG (ix d a zW) e) λg=>some [aT .kept (⟨f,g⟩:Kept)])<|some [aT .kept b])<|some [aT .kept b])<|some [aT .kept b])
theorem zZS (b:Kept)(c d:List Slot)(a:Int)(h:zuX b c d a=true):∃N,zSA N b c d a=some [aT .kept<|zuW b c d a]:=by
 have i:=zQ.1 h;refine⟨0,?_⟩;unfold zSA zuW filled zdB oN;conv=>zeta
 refine must (zbq i) ?_;simp only[zdo,zbA,zdK,cT];cases e:hasB a (ln b.Known);{rfl};{cases f:hasB a (ln b.Slots);{rfl};{cases g:hasB a (ln c);{rfl};{simp only [cT,zC e,zC f,zC g,share,zhg];rfl}}}
theorem zTz:vM 377 zts:=kF4 zfD zA zy zdG (zx []) zZS
theorem zHg {a b:Type}(p:a->Bool)(r:a->Option b)(K:Unit->Option b):∀(l:List a) (i:Nat),goL (λ_ x (_:Unit) k=>bif p x then r x else k ()) K l i ()=match l.find? p with|some x=>r x|none=>K ()
 |[],_=>rfl
 |x::l,i=>by simp only[goL];cases h:p x;{rw [List.find?_cons_of_neg (by simp[h])];exact zHg p r K l (i+1)};{rw [List.find?_cons_of_pos h];rfl}
def zzd (b:List Entry)(t p:Int):Option Entry:=b.find? λe=>bif ieq e.Tag t then ieq e.Page p else false
@[simp] abbrev zhq (b:List Entry)(t p:Int):Bool:=true
@[simp] abbrev zgp (b:List Entry)(t p:Int):Entry:=(zzd b t p).getD ⟨0,0,0,0⟩
@[simp] abbrev zfr (b:List Entry)(t p:Int):Bool:=(zzd b t p).isSome
def zlb:Run:=rF3 (dS .entry) dI dI λb c d=>(zhq b c d,[aT .entry<|zgp b c d,aB<|zfr b c d])
def zAq (N:Nat)(f:lE)(g h:Int):OA:=
 (iter (σ:=(Int×Int×Int×Int×Int×Int×Int×lE×Unit)) N (λj a=>let c:=a.2.2.2.2.2.2.2.1;let d:=inb a.2.2.1<|ln c;let e:=j (a.1,a.2.1,zM .i64 a.2.2.1 1,a.2.2.2.1,a.2.2.2.2.1,a.2.2.2.2.2.1,a.2.2.2.2.2.2.1,c,());let b:=ix c a.2.2.1 ze3; (cond (ilt a.2.2.1<|ln c) (oN d<|cond (ieq b.Tag a.1) (oN d<|cond (ieq b.Page a.2.1) (oN d<|some [.agg [.i .i64 b.Tag,.i .i64 b.Page,.i .i64 b.Host,.i .i64 b.Rights],aB true]) e) e)<|some [.agg [.i .i64 0,.i .i64 0,.i .i64 0,.i .i64 0],aB false])) (g,h,0,0,0,0,0,f,()))
def zMv:=zx [(345,0,{n:=36,tm:=[(0,.sl 0 []),(1,ti),(2,ti),(6,.lp 0 0),(8,ti)],lo:=[(0,[ti,ti,ti,ti])],ro:=[(0,.entry,false)]})]
theorem zLm (a:List Entry)(c d:Int)(j:zbL big [aS .entry a,aI c,aI d])(l:zhq a c d=true):∃N,zAq N a c d=some [aT .entry<|zgp a c d,aB<|zfr a c d]:=by
 have h:=len0 j;refine zcA λN g=>?_;unfold zAq oN;conv=>zeta
 refine(zbm a (λi (t:Unit)=>(c,d,(i:Int),0,0,0,0,a,())) _ (λ_ (x:Entry) (_:Unit) k=>bif (cond (ieq x.Tag c) (ieq x.Page d) false) then (some [AV.agg<|Ty.cells .entry x,AV.one<|.b true]) else k ()) (λ(t:Unit)=>some [.agg [.i .i64 0,.i .i64 0,.i .i64 0,.i .i64 0],.one<|.b false]) (λi f t rec=>?_) (λt rec=>?_) _ ()<|g h).trans ?_;{simp only [zbG f,zbi f,zbp f,zbh f h,cT];cases ieq a[i].Tag c<;>cases ieq a[i].Page d<;>rfl};{simp only [zbt,cF]};rw[zHg λe:Entry=>bif ieq e.Tag c then ieq e.Page d else false];unfold zgp zfr zzd;cases a.find? (λe:Entry=>bif ieq e.Tag c then ieq e.Page d else false)<;>rfl
theorem zEG:vM 345 zlb:=hF3 zfD zA zy zdG zMv zLm
def zAa (N:Nat)(d:lE)(f g:Int):OA:=
 (iter (σ:=(Int×Int×Int×Int×Int×Int×Int×Int×lE×Unit)) N (λh a=>let c:=a.2.2.2.2.2.2.2.2.1;let e:=h (a.1,a.2.1,a.2.2.1,zM .i64 a.2.2.2.1 1,a.2.2.2.2.1,a.2.2.2.2.2.1,a.2.2.2.2.2.2.1,a.2.2.2.2.2.2.2.1,c,());let b:=ix c a.2.2.2.1 ze3; (cond (ilt a.2.2.2.1 a.2.2.1) (oN (inb a.2.2.2.1<|ln c)<|cond (ieq b.Tag a.1) (cond (ieq b.Page a.2.1) (some [.agg [.i .i64 b.Tag,.i .i64 b.Page,.i .i64 b.Host,.i .i64 b.Rights],aB true]) e) e)<|some [.agg [.i .i64 0,.i .i64 0,.i .i64 0,.i .i64 0],aB false])) (f,g,ln d,0,0,0,0,0,d,()))
def zMn:=zx [(376,0,{n:=29,tm:=[(1,ti),(2,ti),(6,.lp 0 0),(10,.sl 0 []),(11,ti),(12,ti)],lo:=[(0,[ti,ti,ti,ti])],ro:=[(0,.entry,false)]})]
theorem zK7 (a:List Entry)(c d:Int)(j:zbL big [aS .entry a,aI c,aI d])(l:zhq a c d=true):∃N,zAa N a c d=some [aT .entry<|zgp a c d,aB<|zfr a c d]:=by
 have h:=len0 j;refine zcA λN g=>?_;unfold zAa oN;conv=>zeta
 refine(zbm a (λi (t:Unit)=>(c,d,ln a,(i:Int),0,0,0,0,a,())) _ (λ_ (x:Entry) (_:Unit) k=>bif (cond (ieq x.Tag c) (ieq x.Page d) false) then (some [AV.agg<|Ty.cells .entry x,AV.one<|.b true]) else k ()) (λ(t:Unit)=>some [.agg [.i .i64 0,.i .i64 0,.i .i64 0,.i .i64 0],.one<|.b false]) (λi f t rec=>?_) (λt rec=>?_) _ ()<|g h).trans ?_;{simp only [zbG f,zbi f,zbp f,zbh f h,cT];cases ieq a[i].Tag c<;>cases ieq a[i].Page d<;>rfl};{simp only [zbt,cF]};rw[zHg λe:Entry=>bif ieq e.Tag c then ieq e.Page d else false];unfold zgp zfr zzd;cases a.find? (λe:Entry=>bif ieq e.Tag c then ieq e.Page d else false)<;>rfl
theorem zEs:vM 376 zlb:=hF3 zfD zA zy zdG zMn zK7
def zse (t p:Int)(e:Entry):Bool:=bif ine e.Tag t then true else ine e.Page p
def zcQ (b:List Entry)(t p:Int):List Entry:=b.filter (zse t p)
theorem zze (b:List Entry)(t p:Int):(zcQ b t p).length<=b.length:=uA _ _
@[simp] abbrev zfs (b:List Entry)(t p:Int):Bool:=pc (b.length<=1048576)
@[simp] abbrev zhO (b:List Entry)(t p:Int):List Entry:=zcQ b t p
def zld:Run:=rF3 (dS .entry) dI dI λb c d=>(zfs b c d,[aS .entry<|zhO b c d])
def zAs (N:Nat)(h:lE)(i j:Int):OA:=
 (iter (σ:=(Int×Int×Int×lE×lE×Unit)) N (λf a=>let b:=a.2.2.2.1;let c:=inb a.2.2.1<|ln b;let d:=ix b a.2.2.1 ze3;let e:=ap a.2.2.2.2.1 [d];let g:=f (a.1,a.2.1,zM .i64 a.2.2.1 1,b,e,()); (cond (ilt a.2.2.1<|ln b) (oN c<|cond (ine d.Tag a.1) (oN c<|oN (few<|ln e) g)<|oN c<|cond (ine d.Page a.2.1) (oN c<|oN (few<|ln e) g)<|f (a.1,a.2.1,zM .i64 a.2.2.1 1,b,a.2.2.2.2.1,()))<|some [aS .entry a.2.2.2.2.1])) (i,j,0,h,[],()))
def zMx:=zx [(213,0,{n:=40,tm:=[(0,.sl 0 []),(1,ti),(2,ti),(7,.sl 1 []),(8,ti)],lo:=[],ro:=[(0,.entry,false),(1,.entry,true)]})]
theorem zLo (a:List Entry)(b c:Int)(h:zfs a b c=true):∃N,zAs N a b c=some [aS .entry<|zhO a b c]:=by
 have j:=zQ.1 h;have f:=zdj j;refine zcA λN e=>?_;unfold zAs oN;conv=>zeta
 refine(zbm a (λi (t:lE)=>(b,c,(i:Int),a,t,())) _ (λ_ (x:Entry) (t:List Entry) g=>bif zse b c x then (cond (few<|ln<|ap t [x]) (g<|ap t [x]) none) else g t) (λ(t:lE)=>some [.one<|.s .entry t]) (λi d t rec=>?_) (λt rec=>?_) _ ([])<|e f.1).trans ?_;{simp only [zbG d,zbi d,zbp d,zbh d f.1,cT];unfold zse;cases ine a[i].Tag b<;>cases ine a[i].Page c<;>rfl};{simp only [zbt,cF]};exact zmd (zse b c) _ a 0 [] (by simpa using f.2)
theorem zEI:vM 213 zld:=kF3 zfD zA zy zdG zMx zLo
def zAc (N:Nat)(e:lE)(h i:Int):OA:=
 (iter (σ:=(Int×Int×Int×Int×lE×lE×Unit)) N (λf a=>let b:=a.2.2.2.2.2.1;let c:=ix b a.2.1 ze3;let d:=ap a.2.2.2.2.1 [c];let g:=f (a.1,zM .i64 a.2.1 1,a.2.2.1,a.2.2.2.1,d,b,()); (cond (ilt a.2.1 a.1) (oN (inb a.2.1<|ln b)<|cond (ieq c.Tag a.2.2.1) (cond (nB<|ieq c.Page a.2.2.2.1) (oN (few<|ln d) g)<|f (a.1,zM .i64 a.2.1 1,a.2.2.1,a.2.2.2.1,a.2.2.2.2.1,b,()))<|oN (few<|ln d) g)<|some [aS .entry a.2.2.2.2.1])) (ln e,0,h,i,[],e,()))
def zMp:=zx [(310,0,{n:=25,tm:=[(1,.fn 311 [0,1]),(5,.sl 0 []),(9,.sl 1 []),(10,ti),(11,ti)],lo:=[(0,[ti]),(1,[ti])],ro:=[(0,.entry,true),(1,.entry,false)]})]
theorem zK9 (a:List Entry)(b c:Int)(h:zfs a b c=true):∃N,zAc N a b c=some [aS .entry<|zhO a b c]:=by
 have j:=zQ.1 h;have f:=zdj j;refine zcA λN e=>?_;unfold zAc oN nB;conv=>zeta
 refine(zbm a (λi (t:lE)=>(ln a,(i:Int),b,c,t,a,())) _ (λ_ (x:Entry) (t:List Entry) g=>bif zse b c x then (cond (few<|ln<|ap t [x]) (g<|ap t [x]) none) else g t) (λ(t:lE)=>some [.one<|.s .entry t]) (λi d t rec=>?_) (λt rec=>?_) _ ([])<|e f.1).trans ?_;{simp only [zbG d,zbi d,zbp d,zbh d f.1,cT];unfold zse;simp only[zmg];cases ieq a[i].Tag b<;>cases ieq a[i].Page c<;>rfl};{simp only [zbt,cF]};exact zmd (zse b c) _ a 0 [] (by simpa using f.2)
theorem zEu:vM 169 zld:=kF3 zfD zA zy zdG zMp zK9
def z6Z:zbb:=[(342,znH),(290,znH),(214,zrr),(170,zrr),(135,zQA),(132,zQx),(346,zts),(377,zts),(345,zlb),(376,zlb),(213,zld),(169,zld)]++z1F
theorem zua:zS z6Z:=zi zKw (zi zKd<|zi zQ7<|zi zQV<|zi zWK<|zi zWG<|zi zTE<|zi zTz<|zi zEG<|zi zEs<|zi zEI<|zi zEu zfD)
def zo4 (b:List Entry)(e:Entry):List Entry:=bif igt (ln<|ap (zcQ b e.Tag e.Page) [e]) 6 then dp (ap (zcQ b e.Tag e.Page) [e]) (wsub .i64 (ln<|ap (zcQ b e.Tag e.Page) [e]) 6) else ap (zcQ b e.Tag e.Page) [e]
theorem zuM {b:List Entry}(e:Entry)(h:b.length<=1048576):(zo4 b e).length<=1048576/\(ap (zcQ b e.Tag e.Page) [e]).length<=1048577:=by have d:=zze b e.Tag e.Page;have c:(ap (zcQ b e.Tag e.Page) [e]).length<=1048577:=(by simp[ap];omega);refine⟨?_,c⟩;unfold zo4;cases a:igt (ln<|ap (zcQ b e.Tag e.Page) [e]) 6;{have a:=jR a;simp only[ln]at a;simp only[cF];omega};{simp only [cT,dp,u1];have a:=qD a;have:wsub .i64 (ln<|ap (zcQ b e.Tag e.Page) [e]) 6=ln (ap (zcQ b e.Tag e.Page) [e])-6:=zq3 (by simp only[ln] at *;omega) (by simp only[ln] at *;omega);rw[this];simp only[ln] at *;omega}
@[simp] abbrev zg5 (b:List Entry)(e:Entry):Bool:=pc (b.length<=1048576)
@[simp] abbrev zgM (b:List Entry)(e:Entry):List Entry:=zo4 b e
def zjI:Run:=rF2 (dS .entry) (dT .entry) λb c=>(zg5 b c,[aS .entry<|zgM b c])
def zB5 (N:Nat)(d:lE)(b:Entry):OA:=
 let a:=ap (zhO d b.Tag b.Page) [b];let c:=wsub .i64 (ln a) 6; (oN (zfs d b.Tag b.Page)<|oN (few<|ln a)<|cond (igt (ln a) 6) (oN (inr c (ln a)<|ln a)<|oN (few<|ln<|ap []<|dp a c)<|some [aS .entry<|ap []<|dp a c])<|some [aS .entry a])
theorem zOv (b:List Entry)(a:Entry)(h:zg5 b a=true):∃N,zB5 N b a=some [aS .entry<|zgM b a]:=by
 have f:=zQ.1 h;obtain⟨c,g⟩:=zuM a f;refine⟨0,?_⟩;unfold zB5 oN;conv=>zeta
 refine must (zbq f) (must (zgu<|qT g (by decide:1048577<=2147483648)) ?_);unfold zgM zo4 at *;show _=some [AV.one<|.s .entry<|cond (igt (ln<|ap (zcQ b a.Tag a.Page) [a]) 6) (dp (ap (zcQ b a.Tag a.Page) [a])<|wsub .i64 (ln<|ap (zcQ b a.Tag a.Page) [a]) 6)<|ap (zcQ b a.Tag a.Page) [a]];cases d:igt (ln<|ap (zcQ b a.Tag a.Page) [a]) 6;{rfl};{rw [d]at c;simp only[cT]at c;have d:=qD d;have e:wsub .i64 (ln<|ap (zcQ b a.Tag a.Page) [a]) 6=ln (ap (zcQ b a.Tag a.Page) [a])-6:=zq3 (by simp only[ln] at *;omega) (by simp only[ln] at *;omega);refine must rfl (must (qI ?_)<|must ?_ ?_);{show 0<=wsub .i64 (ln<|ap (zcQ b a.Tag a.Page) [a]) 6/\wsub .i64 (ln<|ap (zcQ b a.Tag a.Page) [a]) 6<=ln (ap (zcQ b a.Tag a.Page) [a])/\ln (ap (zcQ b a.Tag a.Page) [a])<=ln (ap (zcQ b a.Tag a.Page) [a]);rw[e];simp only[ln] at *;omega};{exact zoh c};{rw [zm2];rfl}}
theorem zut:vM 261 zjI:=kF2 zua zA zy zdG (zx []) zOv
def zBG (N:Nat)(c:lE)(a:Entry):OA:=
 let b:=ap (zhO c a.Tag a.Page) [a];let d:=imax 0<|wsub .i64 (ln b) 6; (oN (zfs c a.Tag a.Page)<|oN (few<|ln b)<|oN (inr d (ln b)<|ln b)<|some [aS .entry<|dp b d])
theorem zN9 (b:List Entry)(a:Entry)(h:zg5 b a=true):∃N,zBG N b a=some [aS .entry<|zgM b a]:=by
 have g:=zQ.1 h;obtain⟨_,f⟩:=zuM a g;refine⟨0,?_⟩;unfold zBG zgM zo4 oN;conv=>zeta
 simp only[zhO];generalize ap (zcQ b a.Tag a.Page) [a]=l at f ⊢;refine must (zbq g) (must (zgu<|qT f (by decide:1048577<=2147483648)) ?_);have e:wsub .i64 (ln l) 6=ln l-6:=zq3 (by simp only[ln] at *;omega) (by simp only[ln] at *;omega);rw[e];cases c:igt (ln l) 6;{have c:=jR c;have d:imax 0 (ln l-6)=0:=(by unfold imax;rw[if_neg (by omega)]);rw[d];exact must (qI (by simp only[ln];omega)) (by simp[dp])};{have c:=qD c;have d:imax 0 (ln l-6)=ln l-6:=(by unfold imax;rw[if_pos (by omega)]);rw[d];exact must (qI (by simp only[ln] at *;omega)) rfl}
theorem zHn:vM 378 zjI:=kF2 zua zA zy zdG (zx []) zN9
def zoM (l:List Slot)(p:Int):Option Nat:=l.findIdx? λs=>ieq s.Page p
def ziL (p:Int):List Mon->Nat->Int×Int
 |[],_=>(-1,-1)
 |m::l,i=>match zoM m.Outer p with|some k=>((i:Int),(k:Int))|none=>ziL p l (i+1)
def zbR (h:Host)(p:Int):Int×Int:=bif ilt p 0 then (-1,-1) else ziL p h.Mons 0
theorem zQa {a:Type}(p:Slot->Bool)(r:Nat->Option a)(K:Unit->Option a):∀(l:List Slot) (i:Nat),goL (λj x (_:Unit) k=>bif p x then r j else k ()) K l i ()=match l.findIdx? p with|some k=>r (i+k)|none=>K ()
 |[],_=>rfl
 |x::l,i=>by simp only[goL];rw[List.findIdx?_cons];cases h:p x;{simp only [cF,kE,if_false];rw[zQa p r K l<|i+1];cases l.findIdx? p with|none=>rfl|some k=>simp only[Option.map_some];congr 1;omega};{rfl}
theorem zMT {c:Type}(p:Int)(r:Int->Int->Option c):∀(l:List Mon) (i:Nat),goL (λi (x:Mon) (_:Unit) b=>goL (λj (y:Slot) (_:Unit) a=>bif ieq y.Page p then r (i:Int) (j:Int) else a ()) (λ_=>b ()) x.Outer 0 ()) (λ_=>r (-1) (-1)) l i ()=r (ziL p l i).1 (ziL p l i).2
 |[],_=>rfl
 |m::l,i=>by simp only[goL,ziL];rw[zQa (λs=>ieq s.Page p) λj=>r (i:Int) (j:Int)];unfold zoM;cases m.Outer.findIdx? (λs=>ieq s.Page p) with|none=>exact zMT p r l (i+1)|some k=>simp only[jX]
@[simp] abbrev zf6 (h:Host)(p:Int):Bool:=true
@[simp] abbrev zdJ (h:Host)(p:Int):Int:=(zbR h p).1
@[simp] abbrev zeA (h:Host)(p:Int):Int:=(zbR h p).2
def zjf:Run:=rF2 dH dI λb c=>(zf6 b c,[aI<|zdJ b c,aI<|zeA b c])
def zvg (N:Nat)(f:Host)(g:Int):OA:=
 (cond (ilt g 0) (some [aI<|-1,aI<|-1])<|iter (σ:=(Int×Int×Int×lN×Unit)) N (λi b=>let c:=b.2.2.1; (cond (ilt c b.2.1) (oN (inb c<|ln b.2.2.2.1)<|iter (σ:=(Int×Int×Int×Int×Int×Int×Int×lN×Unit)) N (λj a=>let e:=a.2.2.2.2.2.2.2.1;let h:=(ix e a.2.2.2.2.1 zh).Outer;let d:=a.2.2.2.2.2.2.1; (cond (ilt d a.2.2.2.2.2.1) (oN (inb d<|ln h)<|cond (ieq (ix h d zW).Page a.1) (some [aI a.2.1,aI d])<|j (a.1,a.2.1,a.2.2.1,a.2.2.2.1,a.2.2.2.2.1,a.2.2.2.2.2.1,zM .i64 d 1,e,()))<|i (a.1,a.2.2.1,zM .i64 a.2.2.2.1 1,e,()))) (b.1,c,b.2.1,c,c,ln (ix b.2.2.2.1 c zh).Outer,0,b.2.2.2.1,()))<|some [aI<|-1,aI<|-1])) (g,ln f.Mons,0,f.Mons,()))
def zFk:=zx [(383,0,{n:=36,tm:=[(1,ti),(13,.sl 0 []),(14,ti),(15,ti)],lo:=[],ro:=[(0,.mon,false)]}),(383,2,{n:=36,tm:=[(1,ti),(6,ti),(13,.sl 0 []),(14,ti),(15,ti),(21,.sl 0 [0]),(22,ti),(23,ti)],lo:=[],ro:=[(0,.mon,false)]})]
theorem zEZ (a:Host)(c:Int)(m:zbL big [aH a,aI c])(q:zf6 a c=true):∃N,zvg N a c=some [aI<|zdJ a c,aI<|zeA a c]:=by
 have k:CVB big (.s .mon a.Mons):=(zdq m).1 _ (by simp[AV.cvs,zbl]);have h:=k.len;refine zcA λN e=>?_;unfold zvg zdJ zeA zbR oN;conv=>zeta
 cases p:ilt c 0;{simp only [cF];refine(zbm a.Mons (λi (t:Unit)=>(c,ln a.Mons,(i:Int),a.Mons,())) _ (λi (x:Mon) (_:Unit) n=>goL (λj (y:Slot) (_:Unit) b=>bif ieq y.Page c then some [AV.one<|.i .i64 (i:Int),AV.one<|.i .i64 (j:Int)] else b ()) (λ_=>n ()) x.Outer 0 ()) (λ(t:Unit)=>some [.one<|.i .i64<|-1,.one<|.i .i64<|-1]) (λi d t rec=>?_) (λt rec=>?_) _ ()<|e h).trans ?_;{simp only [zbG d,zbi d,zbp d,zbh d h,cT];have l:a.Mons[i].Outer.length<=big:=(k.inv.2 _ (jK d) (.s .slot _) (by simp[Ty.cells])).len;refine(zbm a.Mons[i].Outer (λj (u:Unit)=>(c,(i:Int),ln a.Mons,(i:Int),(i:Int),ln a.Mons[i].Outer,(j:Int),a.Mons,())) _ (λj (y:Slot) (_:Unit) b=>bif ieq y.Page c then some [AV.one<|.i .i64 (i:Int),AV.one<|.i .i64 (j:Int)] else b ()) (λ(u:Unit)=>rec (c,ln a.Mons,((i+1:Nat):Int),a.Mons,())) (λj g u f=>?_) (λu f=>?_) _ ()<|e l).trans ?_;{simp only [zbG g,zbi g,zbp g,zbh g l,cT,zbi d,zbp d,zbh d h]};{simp only [zbt,cF,zbi d,zbp d,zbh d h]};rfl};{simp only [zbt,cF]};exact zMT c (λi j=>some [AV.one<|.i .i64 i,AV.one<|.i .i64 j]) a.Mons 0};{rfl}
theorem zBn:vM 383 zjf:=hF2 zua zA zy zdG zFk zEZ
theorem z18 {a c b:Type}(r:Option b):∀(l:List a) (i:Nat) (t:c),goL (λ_ _ _ _=>r) (λ_=>r) l i t=r
 |[],_,_=>rfl
 |_::_,_,_=>rfl
def zvr (N:Nat)(d:Host)(f:Int):OA:=
 (iter (σ:=(Int×Int×lM×lN×lE×lE×Unit)) N (λg b=>cond (ilt b.2.1<|ln b.2.2.2.1) (cond (ige b.1 0) (iter (σ:=(Int×Int×Int×lM×lN×lE×lE×Unit)) N (λh a=>let c:=a.2.2.2.2.1;let e:=(ix c a.2.1 zh).Outer; (oN (inb a.2.1<|ln c)<|cond (ilt a.2.2.1<|ln e) (oN (inb a.2.1<|ln c)<|oN (inb a.2.2.1<|ln e)<|cond (ieq (ix e a.2.2.1 zW).Page a.1) (some [aI a.2.1,aI a.2.2.1])<|h (a.1,a.2.1,zM .i64 a.2.2.1 1,a.2.2.2.1,c,a.2.2.2.2.2.1,a.2.2.2.2.2.2.1,()))<|g (a.1,zM .i64 a.2.1 1,a.2.2.2.1,c,a.2.2.2.2.2.1,a.2.2.2.2.2.2.1,()))) (b.1,b.2.1,0,b.2.2.1,b.2.2.2.1,b.2.2.2.2.1,b.2.2.2.2.2.1,()))<|some [aI<|-1,aI<|-1])<|some [aI<|-1,aI<|-1]) (f,0,d.Memory,d.Mons,d.Buffer,d.IoBuffer,()))
def zFl:=zx [(389,0,{n:=44,tm:=[(1,ti),(2,.lp 0 0),(6,ti)],lo:=[(0,[.sl 0 [],.sl 1 [],.sl 2 [],.sl 3 []])],ro:=[(0,.sl .int,false),(1,.mon,false),(2,.entry,false),(3,.entry,false)]}),(389,2,{n:=44,tm:=[(1,ti),(2,.lp 0 0),(6,ti),(7,ti)],lo:=[(0,[.sl 0 [],.sl 1 [],.sl 2 [],.sl 3 []])],ro:=[(0,.sl .int,false),(1,.mon,false),(2,.entry,false),(3,.entry,false)]})]
theorem zE9 (a:Host)(b:Int)(p:zbL big [aH a,aI b])(r:zf6 a b=true):∃N,zvr N a b=some [aI<|zdJ a b,aI<|zeA a b]:=by
 have m:CVB big (.s .mon a.Mons):=(zdq p).1 _ (by simp[AV.cvs,zbl]);have l:=m.len;refine zcA λN e=>?_;unfold zvr zdJ zeA zbR oN;conv=>zeta
 refine(zbm a.Mons (λi (t:Unit)=>(b,(i:Int),a.Memory,a.Mons,a.Buffer,a.IoBuffer,())) _ (λi (x:Mon) (_:Unit) q=>bif ige b 0 then goL (λj (y:Slot) (_:Unit) c=>bif ieq y.Page b then some [AV.one<|.i .i64 (i:Int),AV.one<|.i .i64 (j:Int)] else c ()) (λ_=>q ()) x.Outer 0 () else some [AV.one<|.i .i64<|-1,AV.one<|.i .i64<|-1]) (λ(t:Unit)=>some [.one<|.i .i64<|-1,.one<|.i .i64<|-1]) (λi d t rec=>?_) (λt rec=>?_) _ ()<|e l).trans ?_;{simp only [zbG d,zbi d,zbp d,zbh d l,cT];cases h:ige b 0;{rfl};have n:a.Mons[i].Outer.length<=big:=(m.inv.2 _ (jK d) (.s .slot _) (by simp[Ty.cells])).len;simp only[cT];refine(zbm a.Mons[i].Outer (λj (_:Unit)=>(b,(i:Int),(j:Int),a.Memory,a.Mons,a.Buffer,a.IoBuffer,())) _ (λj (y:Slot) (_:Unit) c=>bif ieq y.Page b then some [AV.one<|.i .i64 (i:Int),AV.one<|.i .i64 (j:Int)] else c ()) (λ_=>rec (b,((i+1:Nat):Int),a.Memory,a.Mons,a.Buffer,a.IoBuffer,())) (λj g u f=>?_) (λu f=>?_) _ ()<|e n).trans ?_;{simp only [zbG g,zbi g,zbp g,zbh g n,cT,zbi d,zbp d]};{simp only [zbt,cF,cT,zbi d,zbp d,zbh d l]};rfl};{simp only [zbt,cF]};cases h:ige b 0;{have k:ilt b 0=true:=(by have:=jR h;exact qI (by omega));rw[k];exact z18 _ _ _ _};{have k:ilt b 0=false:=(by have:=qD h;exact qK (by omega));rw[k];exact zMT b (λi j=>some [AV.one<|.i .i64 i,AV.one<|.i .i64 j]) a.Mons 0}
theorem zBx:vM 389 zjf:=hF2 zua zA zy zdG zFl zE9
def z7a:zbb:=[(261,zjI),(378,zjI),(389,zjf),(383,zjf)]++z6Z
theorem zue:zS z7a:=zi zut (zi zHn<|zi zBx<|zi zBn zua)
def zct (h:Host):List Int:=zwX (λi=>ilt (zbR h (i:Int)).1 0) h.Memory.length 0
@[simp] abbrev zf9 (h:Host):Bool:=pc (h.Memory.length<=1048576)
@[simp] abbrev zcZ (h:Host):List Int:=zct h
def zpg:Run:=rF1 dH λb=>(zf9 b,[aS .int<|zcZ b])
def zJd (N:Nat)(b:Host):OA:=
 (iter (σ:=(Int×(List Int)×lM×lN×lE×lE×Unit)) N (λc a=>let d:=(⟨a.2.2.1,a.2.2.2.1,a.2.2.2.2.1,a.2.2.2.2.2.1⟩:Host); (cond (ilt a.1<|ln a.2.2.1) (oN (zf6 d a.1)<|cond (ilt (zdJ d a.1) 0) (oN (few<|ln<|ap a.2.1 [a.1])<|c (zM .i64 a.1 1,ap a.2.1 [a.1],a.2.2.1,a.2.2.2.1,a.2.2.2.2.1,a.2.2.2.2.2.1,()))<|c (zM .i64 a.1 1,a.2.1,a.2.2.1,a.2.2.2.1,a.2.2.2.2.1,a.2.2.2.2.2.1,()))<|some [aS .int a.2.1])) (0,[],b.Memory,b.Mons,b.Buffer,b.IoBuffer,()))
def zVY:=zx [(388,0,{n:=28,tm:=[(1,.lp 0 0),(3,.sl 0 []),(4,ti)],lo:=[(0,[.sl 1 [],.sl 2 [],.sl 3 [],.sl 4 []])],ro:=[(0,.int,true),(1,.sl .int,false),(2,.mon,false),(3,.entry,false),(4,.entry,false)]})]
theorem zUd (a:Host)(f:zf9 a=true):∃N,zJd N a=some [aS .int<|zcZ a]:=by
 have g:=zQ.1 f;have e:=zdj g;refine zcA λN d=>?_;unfold zJd oN;conv=>zeta
 refine(zbm a.Memory (λi (t:(List Int))=>((i:Int),t,a.Memory,a.Mons,a.Buffer,a.IoBuffer,())) _ (λi (_:List Int) (t:List Int) b=>bif ilt (zbR a (i:Int)).1 0 then (cond (few<|ln<|ap t [(i:Int)]) (b<|ap t [(i:Int)]) none) else b t) (λ(t:(List Int))=>some [.one<|.s .int t]) (λi c t rec=>?_) (λt rec=>?_) _ ([])<|d e.1).trans ?_;{simp only [zbG c,zbi c,zbp c,zbh c e.1,cT]};{simp only [zbt,cF]};rw[zxJ λi (t:List Int) b=>bif ilt (zbR a (i:Int)).1 0 then (cond (few<|ln<|ap t [(i:Int)]) (b<|ap t [(i:Int)]) none) else b t];exact zzl (λi=>ilt (zbR a (i:Int)).1 0) _ _ 0 [] (by simpa using e.2)
theorem zNx:vM 388 zpg:=kF1 zue zA zy zdG zVY zUd
def zIS (N:Nat)(b:Host):OA:=
 (iter (σ:=(Int×Int×(List Int)×lM×lN×lE×lE×Unit)) N (λd a=>let c:=a.2.2.2.2.2.2.1;let e:=(⟨a.2.2.2.1,a.2.2.2.2.1,a.2.2.2.2.2.1,c⟩:Host); (cond (ilt a.2.1 a.1) (oN (zf6 e a.2.1)<|cond (ilt (zdJ e a.2.1) 0) (oN (few<|ln<|ap a.2.2.1 [a.2.1])<|d (a.1,zM .i64 a.2.1 1,ap a.2.2.1 [a.2.1],a.2.2.2.1,a.2.2.2.2.1,a.2.2.2.2.2.1,c,()))<|d (a.1,zM .i64 a.2.1 1,a.2.2.1,a.2.2.2.1,a.2.2.2.2.1,a.2.2.2.2.2.1,c,()))<|some [aS .int a.2.2.1])) (ln b.Memory,0,[],b.Memory,b.Mons,b.Buffer,b.IoBuffer,()))
def zVQ:=zx [(322,0,{n:=28,tm:=[(1,.lp 0 0),(3,.sl 0 []),(10,ti),(11,ti)],lo:=[(0,[.sl 1 [],.sl 2 [],.sl 3 [],.sl 4 []])],ro:=[(0,.int,true),(1,.sl .int,false),(2,.mon,false),(3,.entry,false),(4,.entry,false)]})]
theorem zTU (a:Host)(f:zf9 a=true):∃N,zIS N a=some [aS .int<|zcZ a]:=by
 have g:=zQ.1 f;have e:=zdj g;refine zcA λN d=>?_;unfold zIS oN;conv=>zeta
 refine(zbm a.Memory (λi (t:(List Int))=>(ln a.Memory,(i:Int),t,a.Memory,a.Mons,a.Buffer,a.IoBuffer,())) _ (λi (_:List Int) (t:List Int) b=>bif ilt (zbR a (i:Int)).1 0 then (cond (few<|ln<|ap t [(i:Int)]) (b<|ap t [(i:Int)]) none) else b t) (λ(t:(List Int))=>some [.one<|.s .int t]) (λi c t rec=>?_) (λt rec=>?_) _ ([])<|d e.1).trans ?_;{simp only [zbG c,zbi c,zbp c,zbh c e.1,cT]};{simp only [zbt,cF]};rw[zxJ λi (t:List Int) b=>bif ilt (zbR a (i:Int)).1 0 then (cond (few<|ln<|ap t [(i:Int)]) (b<|ap t [(i:Int)]) none) else b t];exact zzl (λi=>ilt (zbR a (i:Int)).1 0) _ _ 0 [] (by simpa using e.2)
theorem zM6:vM 322 zpg:=kF1 zue zA zy zdG zVQ zTU
def zjb (m:List (List Int))(p:Int)(c:List Int):List (List Int):=bif hasB p (ln m) then (cond (zcE c) (up m p c) m) else m
@[simp] abbrev zga (m:List (List Int))(p:Int)(c:List Int):Bool:=pc (SmM m/\c.length<=1048576)
@[simp] abbrev ze1 (m:List (List Int))(p:Int)(c:List Int):List (List Int):=zjb m p c
def zmx:Run:=rF3 (dS<|.sl .int) dI (dS .int) λb c d=>(zga b c d,[aS (.sl .int)<|ze1 b c d])
def zB9 (N:Nat)(a:lM)(b:Int)(c:List Int):OA:=
 (oN (zgP a)<|oN (zO b 0<|wsub .i64 (ln a) 1)<|cond (zk b 0<|wsub .i64 (ln a) 1) (oN (zdO c)<|cond (zc9 c) (oN (few<|ln<|ap [] c)<|oN (inb b<|ln<|zfc a)<|share (up (zfc a) b<|ap [] c) λd=>some [aS (.sl .int) d])<|some [aS (.sl .int)<|zfc a])<|some [aS (.sl .int)<|zfc a])
theorem zOz (b:List (List Int))(a:Int)(c:List Int)(g:zga b a c=true):∃N,zB9 N b a c=some [aS (.sl .int)<|ze1 b a c]:=by obtain⟨e,d⟩:=zQ.1 g;refine⟨0,?_⟩;unfold zB9 ze1 zjb oN;refine must (zbq<|(zqq _).2 e) (must rfl ?_);rw[show zk a 0 (wsub .i64 (ln b) 1)=hasB a (ln b) from zq2 e.1 a];cases f:hasB a (ln b);{rfl};{simp only [cT,zdO,zc9];cases h:zcE c;{rfl};{refine must rfl (must (zoh d)<|must (zC f) ?_);rw[zm2];rfl}}
theorem zHP:vM 390 zmx:=kF3 zue zA zy zdG (zx []) zOz
def zBI (N:Nat)(a:lM)(b:Int)(c:List Int):OA:=
 (oN (zgH a)<|oN (zbA b<|ln a)<|cond (zdo b<|ln a) (oN (zdO c)<|cond (zc9 c) (oN (zd4 c)<|oN (inb b<|ln<|zdZ a)<|share (up (zdZ a) b<|zd2 c) λd=>some [aS (.sl .int) d])<|some [aS (.sl .int)<|zdZ a])<|some [aS (.sl .int)<|zdZ a])
theorem zOb (a:List (List Int))(b:Int)(c:List Int)(f:zga a b c=true):∃N,zBI N a b c=some [aS (.sl .int)<|ze1 a b c]:=by obtain⟨g,d⟩:=zQ.1 f;refine⟨0,?_⟩;unfold zBI ze1 zjb oN;refine must (zbq g) (must rfl ?_);rw[show zdo b (ln a)=hasB b (ln a) from rfl];cases e:hasB b (ln a);{rfl};{simp only [cT,zdO,zc9];cases h:zcE c;{rfl};{refine must rfl (must (zbq<|qT d (by decide)) (must (zC e) rfl))}}
theorem zHr:vM 324 zmx:=kF3 zue zA zy zdG (zx []) zOb
def zra:zbb:=[(388,zpg),(322,zpg),(390,zmx),(324,zmx)]++z7a
theorem zh9:zS zra:=zi zNx (zi zM6<|zi zHP<|zi zHr zue)
end
end Go.Proofs.YtjapbkodhfpbbaaGreat.E
