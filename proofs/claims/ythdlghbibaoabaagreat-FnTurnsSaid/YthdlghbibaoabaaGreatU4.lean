/- What is proved here: a part of the proof that the statement of this claim holds (several texts of wip/, laid together). -/
import Derived.Test.YthdlghbibaoabaaGreatU3
namespace Go.Proofs.YthdlghbibaoabaaGreat.E
open Go
set_option linter.constructorNameAsVariable false
set_option linter.unusedVariables false
set_option maxRecDepth 100000
set_option linter.unusedSimpArgs false
set_option linter.unusedSectionVars false
noncomputable section
theorem must {d:Type}{c:Bool}{a b r:Option d}(h:c=true)(k:a=r):(cond c a b)=r:=by rw[h];exact k
theorem mu {d:Type}{c:Bool}{a b r:Option d}(k:a=r)(h:c=true:=by first|assumption|(simp_all<;>omega)):(cond c a b)=r:=must h k
theorem zdh {d:Type}{c:Bool}{a b r:Option d}(h:c=false)(k:b=r):(cond c a b)=r:=by rw[h];exact k
theorem br {f:Type}{c:Bool}{a b r:Option f}(d:c=true->a=r)(e:c=false->b=r):(cond c a b)=r:=by cases c;{exact e rfl};{exact d rfl}
theorem brN {f:Type}{c:Bool}{a b r:Option f}(d:c=false->a=r)(e:c=true->b=r):(cond (cond c false true) a b)=r:=by cases c;{exact d rfl};{exact e rfl}
theorem shr {a b:Type}{x:a}{f:a->Option b}{r:Option b}(h:f x=r):share x f=r:=h
theorem ziw {e:Type}{c p:Bool}{a b:Option e}(d:c=true):(cond c (cond (cond p false true) a b) none)=bif p then b else a:=by rw[d];cases p<;>rfl
attribute [simp] zN
@[simp] theorem zbdu {a:Type}(l:List a):(few (ln l)=true)↔l.length<=2147483648:=by unfold few ln;rw[decide_eq_true_iff];omega
@[simp] theorem zbgb {a:Type}(l m:List a):(ap l m).length=l.length+m.length:=by simp[ap]
attribute [simp] zmS zgX
@[simp] theorem zbb2 (n:Nat)(k:IntKind)(x:Int):CVB n (.i k x)↔True:=⟨fun _=>trivial,fun _=>.i k x⟩
@[simp] theorem zbgg (n:Nat)(x:Bool):CVB n (.b x)↔True:=⟨fun _=>trivial,fun _=>.b x⟩
theorem zl2 {n:Nat}{t:Ty}(l:List t.den):CVB n (.s t l)↔l.length<=n/\∀x∈l,∀c∈t.cells x,CVB n c:=⟨fun h=>h.inv,fun h=>.s t l h.1 h.2⟩
@[simp] theorem z2m (n:Nat)(l:List Int):CVB n (.s .int l)↔l.length<=n:=by rw[zl2];simp[Ty.cells]
@[simp] theorem zbeG (n:Nat)(l:List Int):CVB n (.s .u8 l)↔l.length<=n:=by rw[zl2];simp[Ty.cells]
@[simp] theorem z9B (n:Nat)(l:List Bool):CVB n (.s .bool l)↔l.length<=n:=by rw[zl2];simp[Ty.cells]
@[simp] theorem z9D (n:Nat)(l:List Slot):CVB n (.s .slot l)↔l.length<=n:=by rw[zl2];simp[Ty.cells]
@[simp] theorem zbdg (n:Nat)(l:List Ins):CVB n (.s .ins l)↔l.length<=n:=by rw[zl2];simp[Ty.cells]
@[simp] theorem z6J (n:Nat)(l:List Entry):CVB n (.s .entry l)↔l.length<=n:=by rw[zl2];simp[Ty.cells]
@[simp] theorem zbdf (n:Nat)(l:List GAct):CVB n (.s .act l)↔l.length<=n:=by rw[zl2];simp[Ty.cells]
@[simp] theorem z9E (n:Nat)(l:List Told):CVB n (.s .told l)↔l.length<=n:=by rw[zl2];simp[Ty.cells]
def SmM (m:List (List Int)):Prop:=m.length<=1048576/\∀x∈m,x.length<=1048576
def SmG (g:Guest):Prop:=g.Prog.length<=1048576/\g.Written.length<=1048576/\g.Live.length<=1048576/\g.Seen.length<=1048576
def zk3 (l:List Guest):Prop:=l.length<=1048576/\∀x∈l,SmG x
def SmB (b:Bare):Prop:=SmM b.Memory/\zk3 b.Guests/\b.Outs.length<=1048576
def z3t (l:List Bare):Prop:=l.length<=1048576/\∀x∈l,SmB x
theorem sm_v:sm=1048576:=rfl
@[simp] theorem z3U (l:List Int):CVB sm (.s .int l)↔l.length<=1048576:=z2m sm l
@[simp] theorem zbfO (l:List Int):CVB sm (.s .u8 l)↔l.length<=1048576:=zbeG sm l
@[simp] theorem z0B (l:List Bool):CVB sm (.s .bool l)↔l.length<=1048576:=z9B sm l
@[simp] theorem z0C (l:List Slot):CVB sm (.s .slot l)↔l.length<=1048576:=z9D sm l
@[simp] theorem zbfp (l:List Ins):CVB sm (.s .ins l)↔l.length<=1048576:=zbdg sm l
@[simp] theorem zW3 (l:List Entry):CVB sm (.s .entry l)↔l.length<=1048576:=z6J sm l
@[simp] theorem zbfo (l:List GAct):CVB sm (.s .act l)↔l.length<=1048576:=zbdf sm l
@[simp] theorem zbfh (l:List Told):CVB sm (.s .told l)↔l.length<=1048576:=z9E sm l
@[simp] theorem zqx (l:List (List Int)):CVB sm (.s (.sl .int) l)↔SmM l:=by rw[zl2];simp[Ty.cells,SmM,sm_v]
@[simp] theorem zbcU (g:Guest):(∀c∈Ty.cells .guest g,CVB sm c)↔SmG g:=by simp[Ty.cells,SmG,sm_v]
@[simp] theorem zwC (l:List Guest):CVB sm (.s .guest l)↔zk3 l:=by rw[zl2];simp only[zbcU];rfl
@[simp] theorem zbcT (b:Bare):(∀c∈Ty.cells .bare b,CVB sm c)↔SmB b:=by simp only[Ty.cells,qG,qN,or_false,vH,forall_eq,zqx,zwC,z2m,zbb2,and_true];rfl
@[simp] theorem zbfR (l:List Bare):CVB sm (.s .bare l)↔z3t l:=by rw[zl2];simp only[zbcT];rfl
@[simp] theorem zbge (a:List Ins)(b c:Int)(d e:List Slot)(f:Ctl)(g:Int)(h:GExit)(i:Bool)(j:List Int):SmG ⟨a,b,c,d,e,f,g,h,i,j⟩↔a.length<=1048576/\d.length<=1048576/\e.length<=1048576/\j.length<=1048576:=Iff.rfl
@[simp] theorem zbgd (m:List (List Int))(g:List Guest)(o:List Int)(p:Int):SmB ⟨m,g,o,p⟩↔SmM m/\zk3 g/\o.length<=1048576:=Iff.rfl
theorem zPz {m:List (List Int)}{i:Int}{x:List Int}(h:SmM m)(b:x.length<=1048576):SmM (up m i x):=by refine⟨by simpa using h.1,fun y a=>?_⟩;rcases qW a with a|rfl;{exact h.2 y a};{exact b}
theorem zHe {m:List Guest}{i:Int}{x:Guest}(h:zk3 m)(b:SmG x):zk3 (up m i x):=by refine⟨by simpa using h.1,fun y a=>?_⟩;rcases qW a with a|rfl;{exact h.2 y a};{exact b}
theorem zbd6 {m:List Bare}{i:Int}{x:Bare}(h:z3t m)(b:SmB x):z3t (up m i x):=by refine⟨by simpa using h.1,fun y a=>?_⟩;rcases qW a with a|rfl;{exact h.2 y a};{exact b}
theorem zZG {l:List Guest}{i:Int}(h:zk3 l)(a:hasB i (ln l)=true)(d:Guest):SmG (ix l i d):=h.2 _ (zbB a d)
theorem zbfb {l:List (List Int)}{i:Int}(h:SmM l)(a:hasB i (ln l)=true)(d:List Int):(ix l i d).length<=1048576:=h.2 _ (zbB a d)
@[simp] theorem zbfH:SmG zl:=⟨by decide,by decide,by decide,by decide⟩
def win (x a b:Int):Bool:=ige x a&&ile x b
@[simp] theorem zWg (x a b:Int):zU x a b=win x a b:=rfl
@[simp] theorem zbgh (x a b:Int):zcd x a b=win x a b:=rfl
@[simp] theorem zXz (i n:Int):inb i n=hasB i n:=rfl
attribute [simp] zcU
@[simp] theorem zri {a:Type}{l:List a}(h:l.length<=1048576)(i:Int):win i 0 (wsub .i64 (ln l) 1)=hasB i (ln l):=zwT (zc5 h).1 i
theorem zLY {a:Type}{l:List a}(h:l.length<=big)(i:Int):win i 0 (wsub .i64 (ln l) 1)=hasB i (ln l):=zwT h i
theorem ze4 {x a b:Int}:(win x a b=true)↔a<=x/\x<=b:=by unfold win ige ile;simp only[qE,decide_eq_true_iff]
theorem zbdC (a b:Int):ilt a b = !ige a b:=by unfold ilt ige;by_cases h:a<b;{rw [qJ h,qH (by omega)];rfl};{rw [qH h,qJ (by omega)];rfl}
attribute [simp] zbw zcQ zg5 zg2 zhK zhE zhL zea zjY zjL zn3 zqF zcA zdw
attribute [simp] zeL zdb zgl zdK
attribute [simp] zgi zdA zfS zdP
def zbe (a:Int):Int:=bif ilt a 0 then -1 else zSM .i64 a 4
def zcP (a:Int):Int:=bif ilt a 0 then -1 else zjn a 4
@[simp] abbrev zgz (a:Int):Bool:=true
@[simp] abbrev zcZ (a:Int):Int:=zbe a
def zz0:Run:=rF1 dI fun b=>(zgz b,[aI (zcZ b)])
def zD0 (N:Nat)(a:Int):OA:=
 (cond (ilt a 0) (some [(aI (-1))]) (oN (ine 4 0) (some [(aI (zSM .i64 a 4))])))
theorem zRE (a:Int)(b:zgz a=true):∃N,zD0 N a=some [aI (zcZ a)]:=by refine⟨0,?_⟩;unfold zD0 oN;refine br (fun _=>?_) (fun _=>must rfl ?_);all_goals first|rfl|(simp only [*,zcZ,zbe,cT,cF]<;>rfl)|simp_all[Ty.cells,zcZ,zbe]
theorem zKE:vL 255 zz0:=kF1 zdl zu zA zo (zx []) zRE
@[simp] abbrev zgr (a:Int):Bool:=true
@[simp] abbrev zed (a:Int):Int:=zbe a
def zzL:Run:=rF1 dI fun b=>(zgr b,[aI (zed b)])
def zDJ (N:Nat)(a:Int):OA:=
 (cond (ilt a 0) (some [(aI (-1))]) (oN (ine 4 0) (some [(aI (zSM .i64 a 4))])))
theorem zRn (a:Int)(b:zgr a=true):∃N,zDJ N a=some [aI (zed a)]:=by refine⟨0,?_⟩;unfold zDJ oN;refine br (fun _=>?_) (fun _=>must rfl ?_);all_goals first|rfl|(simp only [*,zed,zbe,cT,cF]<;>rfl)|simp_all[Ty.cells,zed,zbe]
theorem zKo:vL 102 zzL:=kF1 zdl zu zA zo (zx []) zRn
@[simp] abbrev zi7 (a:Int):Bool:=true
@[simp] abbrev zeB (a:Int):Int:=zcP a
def zzZ:Run:=rF1 dI fun b=>(zi7 b,[aI (zeB b)])
def zDZ (N:Nat)(a:Int):OA:=
 (cond (ilt a 0) (some [(aI (-1))]) (oN (ine 4 0) (some [(aI (zjn a 4))])))
theorem zRD (a:Int)(b:zi7 a=true):∃N,zDZ N a=some [aI (zeB a)]:=by refine⟨0,?_⟩;unfold zDZ oN;refine br (fun _=>?_) (fun _=>must rfl ?_);all_goals first|rfl|(simp only [*,zeB,zcP,cT,cF]<;>rfl)|simp_all[Ty.cells,zeB,zcP]
theorem zKD:vL 256 zzZ:=kF1 zdl zu zA zo (zx []) zRD
@[simp] abbrev zgq (a:Int):Bool:=true
@[simp] abbrev zgc (a:Int):Int:=zcP a
def zzK:Run:=rF1 dI fun b=>(zgq b,[aI (zgc b)])
def zDI (N:Nat)(a:Int):OA:=
 (cond (ilt a 0) (some [(aI (-1))]) (oN (ine 4 0) (some [(aI (zjn a 4))])))
theorem zRm (a:Int)(b:zgq a=true):∃N,zDI N a=some [aI (zgc a)]:=by refine⟨0,?_⟩;unfold zDI oN;refine br (fun _=>?_) (fun _=>must rfl ?_);all_goals first|rfl|(simp only [*,zgc,zcP,cT,cF]<;>rfl)|simp_all[Ty.cells,zgc,zcP]
theorem zKn:vL 107 zzK:=kF1 zdl zu zA zo (zx []) zRm
def zbZ (w:Bool):Int:=bif w then 2 else 1
@[simp] abbrev zue (w:Bool):Bool:=true
@[simp] abbrev zfE (w:Bool):Int:=zbZ w
def zFX:Run:=rF1 dB fun b=>(zue b,[aI (zfE b)])
def zMA (N:Nat)(a:Bool):OA:=
 (cond a (some [(aI 2)]) (some [(aI 1)]))
theorem zYj (a:Bool)(b:zue a=true):∃N,zMA N a=some [aI (zfE a)]:=by refine⟨0,?_⟩;unfold zMA;refine br (fun _=>?_) (fun _=>?_);all_goals first|rfl|(simp only [*,zfE,zbZ,cT,cF]<;>rfl)|simp_all[Ty.cells,zfE,zbZ]
theorem zQR:vL 291 zFX:=kF1 zdl zu zA zo (zx []) zYj
@[simp] abbrev zo2 (w:Bool):Bool:=true
@[simp] abbrev ze1 (w:Bool):Int:=zbZ w
def zFw:Run:=rF1 dB fun b=>(zo2 b,[aI (ze1 b)])
def zL9 (N:Nat)(a:Bool):OA:=
 (cond a (some [(aI 2)]) (some [(aI 1)]))
theorem zXQ (a:Bool)(b:zo2 a=true):∃N,zL9 N a=some [aI (ze1 a)]:=by refine⟨0,?_⟩;unfold zL9;refine br (fun _=>?_) (fun _=>?_);all_goals first|rfl|(simp only [*,ze1,zbZ,cT,cF]<;>rfl)|simp_all[Ty.cells,ze1,zbZ]
theorem zQq:vL 103 zFw:=kF1 zdl zu zA zo (zx []) zXQ
def zoh (p:Int)(w:Bool):GExit:=⟨1,p,w,0⟩
def zqr (n:Int):GExit:=⟨2,0,false,n⟩
def zuD (n:Int):GExit:=⟨3,0,false,n⟩
@[simp] abbrev zkh (p:Int)(w:Bool):Bool:=true
@[simp] abbrev zfk (p:Int)(w:Bool):GExit:=zoh p w
def zpm:Run:=rF2 dI dB fun b c=>(zkh b c,[.agg (zee (zfk b c))])
def zCj (N:Nat)(a:Int)(c:Bool):OA:=
 (some [(.agg [(.i .i64 1),(.i .i64 a),(.b c),(.i .i64 0)])])
theorem zOE (a:Int)(b:Bool)(c:zkh a b=true):∃N,zCj N a b=some [.agg (zee (zfk a b))]:=by refine⟨0,?_⟩;unfold zCj;first|rfl|(simp only [*,zfk,cT,cF]<;>rfl)|simp_all[Ty.cells,zfk]
theorem ztG:vL 293 zpm:=kF2 zdl zu zA zo (zx []) zOE
@[simp] abbrev zkc (p:Int)(w:Bool):Bool:=true
@[simp] abbrev ziA (p:Int)(w:Bool):GExit:=zoh p w
def zw7:Run:=rF2 dI dB fun b c=>(zkc b c,[.agg (zee (ziA b c))])
def zB9 (N:Nat)(a:Int)(c:Bool):OA:=
 (some [(.agg [(.i .i64 1),(.i .i64 a),(.b c),(.i .i64 0)])])
theorem zOt (a:Int)(b:Bool)(c:zkc a b=true):∃N,zB9 N a b=some [.agg (zee (ziA a b))]:=by refine⟨0,?_⟩;unfold zB9;first|rfl|(simp only [*,ziA,cT,cF]<;>rfl)|simp_all[Ty.cells,ziA]
theorem zHk:vL 105 zw7:=kF2 zdl zu zA zo (zx []) zOt
@[simp] abbrev zpA (n:Int):Bool:=true
@[simp] abbrev zfA (n:Int):GExit:=zqr n
def zqU:Run:=rF1 dI fun b=>(zpA b,[.agg (zee (zfA b))])
def zD3 (N:Nat)(a:Int):OA:=
 (some [(.agg [(.i .i64 2),(.i .i64 0),(.b false),(.i .i64 a)])])
theorem zRH (a:Int)(b:zpA a=true):∃N,zD3 N a=some [.agg (zee (zfA a))]:=by refine⟨0,?_⟩;unfold zD3;first|rfl|(simp only [*,zfA,cT,cF]<;>rfl)|simp_all[Ty.cells,zfA]
theorem zva:vL 318 zqU:=kF1 zdl zu zA zo (zx []) zRH
@[simp] abbrev zoX (n:Int):Bool:=true
@[simp] abbrev zjH (n:Int):GExit:=zqr n
def zzN:Run:=rF1 dI fun b=>(zoX b,[.agg (zee (zjH b))])
def zDM (N:Nat)(a:Int):OA:=
 (some [(.agg [(.i .i64 2),(.i .i64 0),(.b false),(.i .i64 a)])])
theorem zRq (a:Int)(b:zoX a=true):∃N,zDM N a=some [.agg (zee (zjH a))]:=by refine⟨0,?_⟩;unfold zDM;first|rfl|(simp only [*,zjH,cT,cF]<;>rfl)|simp_all[Ty.cells,zjH]
theorem zKq:vL 192 zzN:=kF1 zdl zu zA zo (zx []) zRq
@[simp] abbrev zrX (n:Int):Bool:=true
@[simp] abbrev zgB (n:Int):GExit:=zuD n
def ztn:Run:=rF1 dI fun b=>(zrX b,[.agg (zee (zgB b))])
def zIB (N:Nat)(a:Int):OA:=
 (some [(.agg [(.i .i64 3),(.i .i64 0),(.b false),(.i .i64 a)])])
theorem zVh (a:Int)(b:zrX a=true):∃N,zIB N a=some [.agg (zee (zgB a))]:=by refine⟨0,?_⟩;unfold zIB;first|rfl|(simp only [*,zgB,cT,cF]<;>rfl)|simp_all[Ty.cells,zgB]
theorem zwQ:vL 319 ztn:=kF1 zdl zu zA zo (zx []) zVh
@[simp] abbrev zyj (n:Int):Bool:=true
@[simp] abbrev zom (n:Int):GExit:=zuD n
def zCK:Run:=rF1 dI fun b=>(zyj b,[.agg (zee (zom b))])
def zIe (N:Nat)(a:Int):OA:=
 (some [(.agg [(.i .i64 3),(.i .i64 0),(.b false),(.i .i64 a)])])
theorem zUT (a:Int)(b:zyj a=true):∃N,zIe N a=some [.agg (zee (zom a))]:=by refine⟨0,?_⟩;unfold zIe;first|rfl|(simp only [*,zom,cT,cF]<;>rfl)|simp_all[Ty.cells,zom]
theorem zNy:vL 269 zCK:=kF1 zdl zu zA zo (zx []) zUT
def zde (t x:Int):Bool:=bif win t 0 3 then (cond (win x 1 2) (ine (wand .i64 t x) 0) false) else false
theorem zbcJ (x:Int):win x 1 2=(ieq x 1||ieq x 2):=by have h:(win x 1 2=true)↔(ieq x 1||ieq x 2)=true:=(by rw[ze4];simp only[ieq,j7,qL];omega);cases a:win x 1 2<;>cases b:(ieq x 1||ieq x 2)<;>simp_all
@[simp] abbrev ziE (t x:Int):Bool:=true
@[simp] abbrev zim (t x:Int):Bool:=zde t x
def zCV:Run:=rF2 dI dI fun b c=>(ziE b c,[aB (zim b c)])
def zIt (N:Nat)(a b:Int):OA:=
 (oN (zO a 0 3) (cond (zU a 0 3) (oN (zO b 1 2) (cond (zU b 1 2) (some [(aB (ine (wand .i64 a b) 0))]) oF)) oF))
theorem zU8 (a b:Int)(c:ziE a b=true):∃N,zIt N a b=some [aB (zim a b)]:=by refine⟨0,?_⟩;unfold zIt oN;refine must rfl (br (fun _=>must rfl (br (fun _=>?_) (fun _=>?_))) (fun _=>?_));all_goals first|rfl|(simp only [*,zim,zde,cT,cF]<;>rfl)|simp_all[Ty.cells,zim,zde]
theorem zNJ:vL 322 zCV:=kF2 zdl zu zA zo (zx []) zU8
@[simp] abbrev zkA (t x:Int):Bool:=true
@[simp] abbrev zjq (t x:Int):Bool:=zde t x
def zCJ:Run:=rF2 dI dI fun b c=>(zkA b c,[aB (zjq b c)])
def zId (N:Nat)(a b:Int):OA:=
 let c:=(aB (ine (wand .i64 a b) 0)); (oN (zbU a 0 3) (cond (zcd a 0 3) (cond (ieq b 1) (some [c]) (cond (ieq b 2) (some [c]) oF)) oF))
theorem zUS (a b:Int)(c:zkA a b=true):∃N,zId N a b=some [aB (zjq a b)]:=by
 refine⟨0,?_⟩;unfold zId oN;conv=>zeta
 refine must rfl (br (fun _=>br (fun _=>?_) (fun _=>br (fun _=>?_) (fun _=>?_))) (fun _=>?_));all_goals first|rfl|(simp only [*,zjq,zde,zbcJ,cT,cF]<;>rfl)|simp_all[Ty.cells,zjq,zde,zbcJ]
theorem zNx:vL 193 zCJ:=kF2 zdl zu zA zo (zx []) zUS
def zc3 (p:Int):Bool:=win p 0 255
@[simp] abbrev zfH (p:Int):Bool:=true
@[simp] abbrev zfG (p:Int):Bool:=zc3 p
def zF1:Run:=rF1 dI fun b=>(zfH b,[aB (zfG b)])
def zME (N:Nat)(a:Int):OA:=
 (oN (zO a 0 255) (some [(aB (zU a 0 255))]))
theorem zYo (a:Int)(b:zfH a=true):∃N,zME N a=some [aB (zfG a)]:=by refine⟨0,?_⟩;unfold zME oN;refine must rfl ?_;first|rfl|(simp only [*,zfG,zc3,cT,cF]<;>rfl)|simp_all[Ty.cells,zfG,zc3]
theorem zQV:vL 150 zF1:=kF1 zdl zu zA zo (zx []) zYo
@[simp] abbrev zjK (p:Int):Bool:=true
@[simp] abbrev zjJ (p:Int):Bool:=zc3 p
def zFB:Run:=rF1 dI fun b=>(zjK b,[aB (zjJ b)])
def zMd (N:Nat)(a:Int):OA:=
 (oN (zbU a 0 255) (some [(aB (zcd a 0 255))]))
theorem zXV (a:Int)(b:zjK a=true):∃N,zMd N a=some [aB (zjJ a)]:=by refine⟨0,?_⟩;unfold zMd oN;refine must rfl ?_;first|rfl|(simp only [*,zjJ,zc3,cT,cF]<;>rfl)|simp_all[Ty.cells,zjJ,zc3]
theorem zQv:vL 259 zFB:=kF1 zdl zu zA zo (zx []) zXV
def zbC (l:List Ins)(p:Int):Ins:=bif hasB p (ln l) then ix l p zB5 else ⟨7,0⟩
@[simp] abbrev zfd (l:List Ins)(p:Int):Bool:=true
@[simp] abbrev zfc (l:List Ins)(p:Int):Ins:=zbC l p
def zyv:Run:=rF2 (dS .ins) dI fun b c=>(zfd b c,[aT .ins (zfc b c)])
def zSZ (N:Nat)(a:lI)(b:Int):OA:=
 (oN (zO b 0 (wsub .i64 (ln a) 1)) (cond (nB (zU b 0 (wsub .i64 (ln a) 1))) (some [(.agg [(.i .i64 7),(.i .i64 0)])]) (oN (inb b (ln a)) (some [(.agg [(.i .i64 (ix a b zB5).Op),(.i .i64 (ix a b zB5).X)])]))))
theorem z07 (a:List Ins)(b:Int)(c:zcE big [aS .ins a,aI b])(e:zfd a b=true):∃N,zSZ N a b=some [aT .ins (zfc a b)]:=by have d:=((zdi c).1 _ (qF.2 rfl)).len;have f:=zLY d;refine⟨0,?_⟩;unfold zSZ oN nB;refine must rfl (brN (fun _=>?_) (fun _=>mu ?_));all_goals first|rfl|(simp only [*,zfc,zbC,cT,cF]<;>rfl)|simp_all[Ty.cells,zfc,zbC]
theorem zCu:vL 43 zyv:=hF2 zdl zu zA zo (zx []) z07
@[simp] abbrev zgs (l:List Ins)(p:Int):Bool:=true
@[simp] abbrev zgH (l:List Ins)(p:Int):Ins:=zbC l p
def zJd:Run:=rF2 (dS .ins) dI fun b c=>(zgs b c,[aT .ins (zgH b c)])
def zSO (N:Nat)(a:lI)(b:Int):OA:=
 (oN (zcc b (ln a)) (cond (nB (zcU b (ln a))) (some [(.agg [(.i .i64 7),(.i .i64 0)])]) (oN (inb b (ln a)) (some [(.agg [(.i .i64 (ix a b zB5).Op),(.i .i64 (ix a b zB5).X)])]))))
theorem z0V (a:List Ins)(b:Int)(c:zgs a b=true):∃N,zSO N a b=some [aT .ins (zgH a b)]:=by refine⟨0,?_⟩;unfold zSO oN nB;refine must rfl (brN (fun _=>?_) (fun _=>mu ?_));all_goals first|rfl|(simp only [*,zgH,zbC,cT,cF]<;>rfl)|simp_all[Ty.cells,zgH,zbC]
theorem zUo:vL 176 zJd:=kF2 zdl zu zA zo (zx []) z0V
def zff (w:Int):Int:=bif ieq w 5 then 1 else 2
@[simp] abbrev zpb (w:Int):Bool:=true
@[simp] abbrev zhH (w:Int):Int:=zff w
def zFM:Run:=rF1 dI fun b=>(zpb b,[aI (zhH b)])
def zMo (N:Nat)(a:Int):OA:=
 (cond (ieq a 5) (some [(aI 1)]) (some [(aI 2)]))
theorem zX6 (a:Int)(b:zpb a=true):∃N,zMo N a=some [aI (zhH a)]:=by refine⟨0,?_⟩;unfold zMo;refine br (fun _=>?_) (fun _=>?_);all_goals first|rfl|(simp only [*,zhH,zff,cT,cF]<;>rfl)|simp_all[Ty.cells,zhH,zff]
theorem zQG:vL 182 zFM:=kF1 zdl zu zA zo (zx []) zX6
def zdQ (s:Slot)(n:Int):Bool:=bif zc4 s noSlot then true else (cond (igt n 0) (cond (win s.Page 0 (wsub .i64 n 1)) (win s.Rights 1 3) false) false)
@[simp] abbrev zui (s:Slot)(n:Int):Bool:=true
@[simp] abbrev zq5 (s:Slot)(n:Int):Bool:=zdQ s n
def zF4:Run:=rF2 (dT .slot) dI fun b c=>(zui b c,[aB (zq5 b c)])
def zMH (N:Nat)(a:Slot)(b:Int):OA:=
 (oN zcA (cond (cond (ieq a.Page zbw.Page) (ieq a.Rights zbw.Rights) false) oT (oN (zO a.Page 0 (wsub .i64 b 1)) (cond (zU a.Page 0 (wsub .i64 b 1)) (cond (igt b 0) (oN (zO a.Rights 1 3) (some [(aB (zU a.Rights 1 3))])) oF) oF))))
theorem zYr (a:Slot)(b:Int)(c:zui a b=true):∃N,zMH N a b=some [aB (zq5 a b)]:=by refine⟨0,?_⟩;unfold zMH oN;refine must rfl (br (fun _=>?_) (fun _=>must rfl (br (fun _=>br (fun _=>must rfl ?_) (fun _=>?_)) (fun _=>?_))));all_goals first|rfl|(simp only [*,zq5,zdQ,zc4,cT,cF]<;>rfl)|simp_all[Ty.cells,zq5,zdQ,zc4]
theorem zQY:vL 223 zF4:=kF2 zdl zu zA zo (zx []) zYr
@[simp] abbrev zBh (s:Slot)(n:Int):Bool:=true
@[simp] abbrev zvm (s:Slot)(n:Int):Bool:=zdQ s n
def zFG:Run:=rF2 (dT .slot) dI fun b c=>(zBh b c,[aB (zvm b c)])
def zMi (N:Nat)(a:Slot)(b:Int):OA:=
 (oN zdw (cond (cond (ieq a.Page zcQ.Page) (ieq a.Rights zcQ.Rights) false) oT (cond (igt b 0) (oN (zbU a.Page 0 (wsub .i64 b 1)) (cond (zcd a.Page 0 (wsub .i64 b 1)) (oN (zbU a.Rights 1 3) (some [(aB (zcd a.Rights 1 3))])) oF)) oF)))
theorem zX0 (a:Slot)(b:Int)(c:zBh a b=true):∃N,zMi N a b=some [aB (zvm a b)]:=by refine⟨0,?_⟩;unfold zMi oN;refine must rfl (br (fun _=>?_) (fun _=>br (fun _=>must rfl (br (fun _=>must rfl ?_) (fun _=>?_))) (fun _=>?_)));all_goals first|rfl|(simp only [*,zvm,zdQ,zc4,cT,cF]<;>rfl)|simp_all[Ty.cells,zvm,zdQ,zc4]
theorem zQA:vL 310 zFG:=kF2 zdl zu zA zo (zx []) zX0
@[simp] abbrev zgQ (l:List Slot):Bool:=pc (l.length<=2147483648)
@[simp] abbrev zfj (l:List Slot):List Slot:=l
def zxe:Run:=rF1 (dS .slot) fun b=>(zgQ b,[aS .slot (zfj b)])
def zCg (N:Nat)(a:lS):OA:=
 (oN (few (ln (ap [] a))) (some [(aS .slot (ap [] a))]))
theorem zOA (a:List Slot)(b:zgQ a=true):∃N,zCg N a=some [aS .slot (zfj a)]:=by have c:=zN.1 b;refine⟨0,?_⟩;unfold zCg oN;refine mu ?_;first|rfl|(simp only [*,zfj,cT,cF]<;>rfl)|simp_all[Ty.cells,zfj]
theorem zHr:vL 200 zxe:=kF1 zdl zu zA zo (zx []) zOA
@[simp] abbrev zvn (l:List Ins):Bool:=pc (l.length<=2147483648)
@[simp] abbrev zpa (l:List Ins):List Ins:=l
def zzY:Run:=rF1 (dS .ins) fun b=>(zvn b,[aS .ins (zpa b)])
def zDX (N:Nat)(a:lI):OA:=
 (oN (few (ln (ap [] a))) (some [(aS .ins (ap [] a))]))
theorem zRC (a:List Ins)(b:zvn a=true):∃N,zDX N a=some [aS .ins (zpa a)]:=by have c:=zN.1 b;refine⟨0,?_⟩;unfold zDX oN;refine mu ?_;first|rfl|(simp only [*,zpa,cT,cF]<;>rfl)|simp_all[Ty.cells,zpa]
theorem zKC:vL 268 zzY:=kF1 zdl zu zA zo (zx []) zRC
def zfT (m:List (List Int))(p c:Int):Bool:=bif hasB p (ln m) then hasB c (ln (ix m p [])) else false
def cellAt (m:List (List Int))(p c:Int):Int:=bif zfT m p c then ix (ix m p []) c 0 else 0
def zbF (m:List (List Int))(p c v:Int):List (List Int):=bif zfT m p c then (cond (win v 0 99) (up m p (up (ix m p []) c v)) m) else m
theorem zBw (m:List (List Int))(p c:Int):(zfT m p c=true)↔hasB p (ln m)=true/\hasB c (ln (ix m p []))=true:=by unfold zfT;cases hasB p (ln m)<;>simp
theorem zbeF {n:Nat}{m:List (List Int)}(h:CVB n (.s (.sl .int) m)):m.length<=n/\∀p:Int,hasB p (ln m)=true->(ix m p []).length<=n :=
 ⟨h.len,fun p a=>(h.inv.2 _ (zbB a []) _ (qF.2 rfl)).len⟩
@[simp] abbrev zul (m:List (List Int))(p c:Int):Bool:=true
@[simp] abbrev zq8 (m:List (List Int))(p c:Int):Bool:=zfT m p c
def zF9:Run:=rF3 (dS (.sl .int)) dI dI fun b c d=>(zul b c d,[aB (zq8 b c d)])
def zMM (N:Nat)(a:lM)(b c:Int):OA:=
 let d:=(wsub .i64 (ln (ix a b [])) 1); (oN (zO b 0 (wsub .i64 (ln a) 1)) (cond (zU b 0 (wsub .i64 (ln a) 1)) (oN (inb b (ln a)) (oN (zO c 0 d) (some [(aB (zU c 0 d))]))) oF))
theorem zYw (a:List (List Int))(b c:Int)(e:zcE big [aS (.sl .int) a,aI b,aI c])(g:zul a b c=true):∃N,zMM N a b c=some [aB (zq8 a b c)]:=by
 have d:=zbeF ((zdi e).1 _ (qF.2 rfl));have j:=zLY d.1;have f:∀p i:Int,hasB p (ln a)=true->win i 0 (wsub .i64 (ln (ix a p [])) 1)=hasB i (ln (ix a p [])):=fun p i h=>zLY (d.2 p h) i;refine⟨0,?_⟩;unfold zMM oN;conv=>zeta
 refine must rfl (br (fun _=>mu (must rfl ?_)) (fun _=>?_));all_goals first|rfl|(simp only [*,zq8,zfT,cT,cF]<;>rfl)|simp_all[Ty.cells,zq8,zfT]
theorem zQ4:vL 303 zF9:=hF3 zdl zu zA zo (zx []) zYw
@[simp] abbrev zoY (m:List (List Int))(p c:Int):Bool:=true
@[simp] abbrev znQ (m:List (List Int))(p c:Int):Int:=cellAt m p c
def zFo:Run:=rF3 (dS (.sl .int)) dI dI fun b c d=>(zoY b c d,[aI (znQ b c d)])
def zL1 (N:Nat)(a:lM)(b c:Int):OA:=
 let d:=(ix a b []); (oN (zcc b (ln a)) (cond (nB (zcU b (ln a))) (some [(aI 0)]) (oN (inb b (ln a)) (oN (zcc c (ln d)) (cond (nB (zcU c (ln d))) (some [(aI 0)]) (oN (inb b (ln a)) (oN (inb c (ln d)) (some [(aI (ix d c 0))]))))))))
theorem zXI (a:List (List Int))(b c:Int)(d:zoY a b c=true):∃N,zL1 N a b c=some [aI (znQ a b c)]:=by
 refine⟨0,?_⟩;unfold zL1 oN nB;conv=>zeta
 refine must rfl (brN (fun _=>?_) (fun _=>mu (must rfl (brN (fun _=>?_) (fun _=>mu (mu ?_))))));all_goals first|rfl|(simp only [*,znQ,cellAt,zfT,cT,cF]<;>rfl)|simp_all[Ty.cells,znQ,cellAt,zfT]
theorem zQi:vL 110 zFo:=kF3 zdl zu zA zo (zx []) zXI
def z3K:zbb:=[(47,zpl),(174,zvD),(255,zz0),(102,zzL),(256,zzZ),(107,zzK),(291,zFX),(103,zFw),(293,zpm),(105,zw7),(318,zqU),(192,zzN),(319,ztn),(269,zCK),(322,zCV),(193,zCJ),(150,zF1),(259,zFB),(43,zyv),(176,zJd),(182,zFM),(223,zF4),(310,zFG),(200,zxe),(268,zzY),(303,zF9),(110,zFo)]++ctrU
theorem zfY:zM z3K:=zi zqC (zi zzj (zi zKE (zi zKo (zi zKD (zi zKn (zi zQR (zi zQq (zi ztG (zi zHk (zi zva (zi zKq (zi zwQ (zi zNy (zi zNJ (zi zNx (zi zQV (zi zQv (zi zCu (zi zUo (zi zQG (zi zQY (zi zQA (zi zHr (zi zKC (zi zQ4 (zi zQi zdl))))))))))))))))))))))))))
@[simp] abbrev zt9 (m:List (List Int))(p c:Int):Bool:=true
@[simp] abbrev zn4 (m:List (List Int))(p c:Int):Int:=cellAt m p c
def zFP:Run:=rF3 (dS (.sl .int)) dI dI fun b c d=>(zt9 b c d,[aI (zn4 b c d)])
def zMs (N:Nat)(a:lM)(b c:Int):OA:=
 (oN (zul a b c) (cond (nB (zq8 a b c)) (some [(aI 0)]) (oN (inb b (ln a)) (oN (inb c (ln (ix a b []))) (some [(aI (ix (ix a b []) c 0))])))))
theorem zYa (a:List (List Int))(b c:Int)(d:zt9 a b c=true):∃N,zMs N a b c=some [aI (zn4 a b c)]:=by have e:=(zBw a b c).1;refine⟨0,?_⟩;unfold zMs oN nB;refine must rfl (brN (fun _=>?_) (fun _=>mu (mu ?_)));all_goals first|rfl|(simp only [*,zn4,cellAt,cT,cF]<;>rfl)|simp_all[Ty.cells,zn4,cellAt]
theorem zQJ:vL 257 zFP:=kF3 zfY zu zA zo (zx []) zYa
def zc1 (t:List Slot)(n p:Int):Bool:=bif t.all (fun s=>zdQ s p) then ieq (ln t) n else false
@[simp] abbrev zni (t:List Slot)(n p:Int):Bool:=true
@[simp] abbrev zio (t:List Slot)(n p:Int):Bool:=zc1 t n p
def zC8:Run:=rF3 (dS .slot) dI dI fun b c d=>(zni b c d,[aB (zio b c d)])
def zIH (N:Nat)(d:lS)(e f:Int):OA:=
 (iter (σ:=(Int×(Int×(Int×(lS×Unit))))) N (fun g a=>let b:=a.2.2.2.1;let c:=(ix b a.2.2.1 zW); (cond (ilt a.2.2.1 (ln b)) (oN (inb a.2.2.1 (ln b)) (oN (zui c a.2.1) (cond (nB (zq5 c a.2.1)) oF (g (a.1,(a.2.1,((zL .i64 a.2.2.1 1),(b,())))))))) (some [(aB (ieq (ln b) a.1))]))) (e,(f,(0,(d,())))))
def zVR:FuncId->Nat->Option Tmpl:=zx [(148,0,{n:=25,tm:=[(0,.sl 0 []),(1,ti),(2,ti),(7,ti)],lo:=[],ro:=[(0,.slot,false)]})]
theorem zVo (a:List Slot)(d c:Int)(j:zcE big [aS .slot a,aI d,aI c])(l:zni a d c=true):∃N,zIH N a d c=some [aB (zio a d c)]:=by
 have h:(_:List _).length<=big:=((zdi j).1 _ (qF.2 rfl)).len;refine zcw fun N g=>?_;unfold zIH oN nB;conv=>zeta
 refine(zbj a (fun i (t:Unit)=>(d,c,(i:Int),a,())) _ (fun _ x (_:Unit) k=>bif (fun s=>zdQ s c) x then k () else oF) (fun (t:Unit)=>(some [(.one (.b (ieq (ln a) d)))])) (fun i e t rec=>?_) (fun t rec=>?_) _ () (g h)).trans ?_;{simp only [zbS e,zbl e,zbv e,zbh e h,cT];exact ziw rfl};{simp only [zbK,cF]};rw[zgG (fun s=>zdQ s c)];refine br (fun f=>?_) (fun f=>?_);{first|rfl|(simp only [f,zio,zc1,cT,cF]<;>rfl)|(simp_all [Ty.cells,zio,zc1];done)};{first|rfl|(simp only [f,zio,zc1,cT,cF]<;>rfl)|(simp_all [Ty.cells,zio,zc1];done)}
theorem zNW:vL 148 zC8:=hF3 zfY zu zA zo zVR zVo
@[simp] abbrev zmY (t:List Slot)(n p:Int):Bool:=true
@[simp] abbrev zif (t:List Slot)(n p:Int):Bool:=zc1 t n p
def zCO:Run:=rF3 (dS .slot) dI dI fun b c d=>(zmY b c d,[aB (zif b c d)])
def zIi (N:Nat)(c:lS)(e f:Int):OA:=
 (iter (σ:=(Int×(Int×(Int×(Int×(lS×Unit)))))) N (fun g a=>let b:=a.2.2.2.2.1;let d:=(ix b a.2.2.2.1 zW); (cond (ilt a.2.2.2.1 a.2.2.1) (oN (inb a.2.2.2.1 (ln b)) (oN (zBh d a.2.1) (cond (nB (zvm d a.2.1)) oF (g (a.1,(a.2.1,(a.2.2.1,((zL .i64 a.2.2.2.1 1),(b,()))))))))) (some [(aB (ieq (ln b) a.1))]))) (e,(f,((ln c),(0,(c,()))))))
def zVN:FuncId->Nat->Option Tmpl:=zx [(258,0,{n:=24,tm:=[(0,.sl 0 []),(1,ti),(2,ti),(9,.sl 0 []),(10,ti),(11,ti)],lo:=[],ro:=[(0,.slot,false)]})]
theorem zUX (a:List Slot)(d c:Int)(j:zcE big [aS .slot a,aI d,aI c])(l:zmY a d c=true):∃N,zIi N a d c=some [aB (zif a d c)]:=by
 have h:(_:List _).length<=big:=((zdi j).1 _ (qF.2 rfl)).len;refine zcw fun N g=>?_;unfold zIi oN nB;conv=>zeta
 refine(zbj a (fun i (t:Unit)=>(d,c,(ln a),(i:Int),a,())) _ (fun _ x (_:Unit) k=>bif (fun s=>zdQ s c) x then k () else oF) (fun (t:Unit)=>(some [(.one (.b (ieq (ln a) d)))])) (fun i e t rec=>?_) (fun t rec=>?_) _ () (g h)).trans ?_;{simp only [zbS e,zbl e,zbv e,zbh e h,cT];exact ziw rfl};{simp only [zbK,cF]};rw[zgG (fun s=>zdQ s c)];refine br (fun f=>?_) (fun f=>?_);{first|rfl|(simp only [f,zif,zc1,cT,cF]<;>rfl)|(simp_all [Ty.cells,zif,zc1];done)};{first|rfl|(simp only [f,zif,zc1,cT,cF]<;>rfl)|(simp_all [Ty.cells,zif,zc1];done)}
theorem zNC:vL 258 zCO:=hF3 zfY zu zA zo zVN zUX
def zco (c:List Int):Bool:=bif c.all (fun x=>win x 0 99) then ieq (ln c) 4 else false
@[simp] abbrev zgg (c:List Int):Bool:=true
@[simp] abbrev zfF (c:List Int):Bool:=zco c
def zF0:Run:=rF1 (dS .int) fun b=>(zgg b,[aB (zfF b)])
def zMD (N:Nat)(b:List Int):OA:=
 (iter (σ:=(Int×((List Int)×Unit))) N (fun c a=>(cond (ilt a.1 (ln a.2.1)) (oN (inb a.1 (ln a.2.1)) (oN (zO (ix a.2.1 a.1 0) 0 99) (cond (nB (zU (ix a.2.1 a.1 0) 0 99)) oF (c ((zL .i64 a.1 1),(a.2.1,())))))) (some [(aB (ieq (ln a.2.1) 4))]))) (0,(b,())))
def zZ9:FuncId->Nat->Option Tmpl:=zx [(147,0,{n:=19,tm:=[(0,.sl 0 []),(3,ti)],lo:=[],ro:=[(0,.int,false)]})]
theorem zYn (a:List Int)(g:zcE big [aS .int a])(j:zgg a=true):∃N,zMD N a=some [aB (zfF a)]:=by have f:(_:List _).length<=big:=((zdi g).1 _ (qF.2 rfl)).len;refine zcw fun N e=>?_;unfold zMD oN nB;refine(zbj a (fun i (t:Unit)=>((i:Int),a,())) _ (fun _ x (_:Unit) h=>bif (fun x=>win x 0 99) x then h () else oF) (fun (t:Unit)=>(some [(.one (.b (ieq (ln a) 4)))])) (fun i c t rec=>?_) (fun t rec=>?_) _ () (e f)).trans ?_;{simp only [zbS c,zbl c,zbv c,zbh c f,cT];exact ziw rfl};{simp only [zbK,cF]};rw[zgG (fun x=>win x 0 99)];refine br (fun d=>?_) (fun d=>?_);{first|rfl|(simp only [d,zfF,zco,cT,cF]<;>rfl)|(simp_all [Ty.cells,zfF,zco];done)};{first|rfl|(simp only [d,zfF,zco,cT,cF]<;>rfl)|(simp_all [Ty.cells,zfF,zco];done)}
theorem zQU:vL 147 zF0:=hF1 zfY zu zA zo zZ9 zYn
@[simp] abbrev zie (c:List Int):Bool:=true
@[simp] abbrev zgO (c:List Int):Bool:=zco c
def zFA:Run:=rF1 (dS .int) fun b=>(zie b,[aB (zgO b)])
def zMc (N:Nat)(b:List Int):OA:=
 (iter (σ:=(Int×(Int×((List Int)×Unit)))) N (fun c a=>(cond (ilt a.2.1 a.1) (oN (inb a.2.1 (ln a.2.2.1)) (oN (zbU (ix a.2.2.1 a.2.1 0) 0 99) (cond (nB (zcd (ix a.2.2.1 a.2.1 0) 0 99)) oF (c (a.1,((zL .i64 a.2.1 1),(a.2.2.1,()))))))) (some [(aB (ieq (ln a.2.2.1) 4))]))) ((ln b),(0,(b,()))))
def zZZ:FuncId->Nat->Option Tmpl:=zx [(203,0,{n:=18,tm:=[(0,.sl 0 []),(5,.sl 0 []),(6,ti),(7,ti)],lo:=[],ro:=[(0,.int,false)]})]
theorem zXU (a:List Int)(g:zcE big [aS .int a])(j:zie a=true):∃N,zMc N a=some [aB (zgO a)]:=by have f:(_:List _).length<=big:=((zdi g).1 _ (qF.2 rfl)).len;refine zcw fun N e=>?_;unfold zMc oN nB;refine(zbj a (fun i (t:Unit)=>((ln a),(i:Int),a,())) _ (fun _ x (_:Unit) h=>bif (fun x=>win x 0 99) x then h () else oF) (fun (t:Unit)=>(some [(.one (.b (ieq (ln a) 4)))])) (fun i c t rec=>?_) (fun t rec=>?_) _ () (e f)).trans ?_;{simp only [zbS c,zbl c,zbv c,zbh c f,cT];exact ziw rfl};{simp only [zbK,cF]};rw[zgG (fun x=>win x 0 99)];refine br (fun d=>?_) (fun d=>?_);{first|rfl|(simp only [d,zgO,zco,cT,cF]<;>rfl)|(simp_all [Ty.cells,zgO,zco];done)};{first|rfl|(simp only [d,zgO,zco,cT,cF]<;>rfl)|(simp_all [Ty.cells,zgO,zco];done)}
theorem zQu:vL 203 zFA:=hF1 zfY zu zA zo zZZ zXU
def zdL (i:Ins):Bool:=bif (ieq i.Op 1||ieq i.Op 2||ieq i.Op 5||ieq i.Op 6) then win i.X 0 99 else (cond (ieq i.Op 3||ieq i.Op 4) (win i.X 0 15) (cond (ieq i.Op 7) (ieq i.X 0) (cond (ieq i.Op 8) (win i.X 0 11) false)))
@[simp] abbrev zGk (i:Ins):Bool:=true
@[simp] abbrev zAj (i:Ins):Bool:=zdL i
def zJo:Run:=rF1 (dT .ins) fun b=>(zGk b,[aB (zAj b)])
def zS0 (N:Nat)(a:Ins):OA:=
 let b:=(ieq a.Op 4);let l:=(zO a.X 0 99);let k:=(aB (zU a.X 0 99));let j:=(ieq a.Op 8);let i:=(ieq a.Op 7);let h:=(ieq a.Op 3);let g:=(zO a.X 0 11);let f:=(zO a.X 0 15);let e:=(aB (ieq a.X 0));let d:=(aB (zU a.X 0 11));let c:=(aB (zU a.X 0 15)); (cond (ieq a.Op 1) (cond (ieq a.Op 1) (oN l (some [k])) (cond h (cond h (oN f (some [c])) (cond i (some [e]) (cond j (oN g (some [d])) oF))) (cond b (oN f (some [c])) (cond i (some [e]) (cond j (oN g (some [d])) oF))))) (cond (ieq a.Op 2) (cond (ieq a.Op 2) (oN l (some [k])) (cond h (cond h (oN f (some [c])) (cond i (some [e]) (cond j (oN g (some [d])) oF))) (cond b (oN f (some [c])) (cond i (some [e]) (cond j (oN g (some [d])) oF))))) (cond (ieq a.Op 5) (cond (ieq a.Op 5) (oN l (some [k])) (cond h (cond h (oN f (some [c])) (cond i (some [e]) (cond j (oN g (some [d])) oF))) (cond b (oN f (some [c])) (cond i (some [e]) (cond j (oN g (some [d])) oF))))) (cond (ieq a.Op 6) (oN l (some [k])) (cond h (cond h (oN f (some [c])) (cond i (some [e]) (cond j (oN g (some [d])) oF))) (cond b (oN f (some [c])) (cond i (some [e]) (cond j (oN g (some [d])) oF))))))))
theorem z08 (a:Ins)(b:zGk a=true):∃N,zS0 N a=some [aB (zAj a)]:=by
 refine⟨0,?_⟩;unfold zS0 oN;conv=>zeta
 refine br (fun _=>br (fun _=>must rfl ?_) (fun _=>br (fun _=>br (fun _=>must rfl ?_) (fun _=>br (fun _=>?_) (fun _=>br (fun _=>must rfl ?_) (fun _=>?_)))) (fun _=>br (fun _=>must rfl ?_) (fun _=>br (fun _=>?_) (fun _=>br (fun _=>must rfl ?_) (fun _=>?_)))))) (fun _=>br (fun _=>br (fun _=>must rfl ?_) (fun _=>br (fun _=>br (fun _=>must rfl ?_) (fun _=>br (fun _=>?_) (fun _=>br (fun _=>must rfl ?_) (fun _=>?_)))) (fun _=>br (fun _=>must rfl ?_) (fun _=>br (fun _=>?_) (fun _=>br (fun _=>must rfl ?_) (fun _=>?_)))))) (fun _=>br (fun _=>br (fun _=>must rfl ?_) (fun _=>br (fun _=>br (fun _=>must rfl ?_) (fun _=>br (fun _=>?_) (fun _=>br (fun _=>must rfl ?_) (fun _=>?_)))) (fun _=>br (fun _=>must rfl ?_) (fun _=>br (fun _=>?_) (fun _=>br (fun _=>must rfl ?_) (fun _=>?_)))))) (fun _=>br (fun _=>must rfl ?_) (fun _=>br (fun _=>br (fun _=>must rfl ?_) (fun _=>br (fun _=>?_) (fun _=>br (fun _=>must rfl ?_) (fun _=>?_)))) (fun _=>br (fun _=>must rfl ?_) (fun _=>br (fun _=>?_) (fun _=>br (fun _=>must rfl ?_) (fun _=>?_))))))));all_goals first|rfl|(simp only [*,zAj,zdL,cT,cF]<;>rfl)|simp_all[Ty.cells,zAj,zdL]
theorem zUA:vL 282 zJo:=kF1 zfY zu zA zo (zx []) z08
@[simp] abbrev zEU (i:Ins):Bool:=true
@[simp] abbrev zzp (i:Ins):Bool:=zdL i
def zJe:Run:=rF1 (dT .ins) fun b=>(zEU b,[aB (zzp b)])
def zSP (N:Nat)(a:Ins):OA:=
 let b:=(ieq a.Op 4);let l:=(zbU a.X 0 99);let k:=(aB (zcd a.X 0 99));let j:=(ieq a.Op 8);let i:=(ieq a.Op 7);let h:=(ieq a.Op 3);let g:=(zbU a.X 0 11);let f:=(zbU a.X 0 15);let e:=(aB (ieq a.X 0));let d:=(aB (zcd a.X 0 11));let c:=(aB (zcd a.X 0 15)); (cond (ieq a.Op 1) (cond (ieq a.Op 1) (oN l (some [k])) (cond h (cond h (oN f (some [c])) (cond i (some [e]) (cond j (oN g (some [d])) oF))) (cond b (oN f (some [c])) (cond i (some [e]) (cond j (oN g (some [d])) oF))))) (cond (ieq a.Op 2) (cond (ieq a.Op 2) (oN l (some [k])) (cond h (cond h (oN f (some [c])) (cond i (some [e]) (cond j (oN g (some [d])) oF))) (cond b (oN f (some [c])) (cond i (some [e]) (cond j (oN g (some [d])) oF))))) (cond (ieq a.Op 5) (cond (ieq a.Op 5) (oN l (some [k])) (cond h (cond h (oN f (some [c])) (cond i (some [e]) (cond j (oN g (some [d])) oF))) (cond b (oN f (some [c])) (cond i (some [e]) (cond j (oN g (some [d])) oF))))) (cond (ieq a.Op 6) (oN l (some [k])) (cond h (cond h (oN f (some [c])) (cond i (some [e]) (cond j (oN g (some [d])) oF))) (cond b (oN f (some [c])) (cond i (some [e]) (cond j (oN g (some [d])) oF))))))))
theorem z0W (a:Ins)(b:zEU a=true):∃N,zSP N a=some [aB (zzp a)]:=by
 refine⟨0,?_⟩;unfold zSP oN;conv=>zeta
 refine br (fun _=>br (fun _=>must rfl ?_) (fun _=>br (fun _=>br (fun _=>must rfl ?_) (fun _=>br (fun _=>?_) (fun _=>br (fun _=>must rfl ?_) (fun _=>?_)))) (fun _=>br (fun _=>must rfl ?_) (fun _=>br (fun _=>?_) (fun _=>br (fun _=>must rfl ?_) (fun _=>?_)))))) (fun _=>br (fun _=>br (fun _=>must rfl ?_) (fun _=>br (fun _=>br (fun _=>must rfl ?_) (fun _=>br (fun _=>?_) (fun _=>br (fun _=>must rfl ?_) (fun _=>?_)))) (fun _=>br (fun _=>must rfl ?_) (fun _=>br (fun _=>?_) (fun _=>br (fun _=>must rfl ?_) (fun _=>?_)))))) (fun _=>br (fun _=>br (fun _=>must rfl ?_) (fun _=>br (fun _=>br (fun _=>must rfl ?_) (fun _=>br (fun _=>?_) (fun _=>br (fun _=>must rfl ?_) (fun _=>?_)))) (fun _=>br (fun _=>must rfl ?_) (fun _=>br (fun _=>?_) (fun _=>br (fun _=>must rfl ?_) (fun _=>?_)))))) (fun _=>br (fun _=>must rfl ?_) (fun _=>br (fun _=>br (fun _=>must rfl ?_) (fun _=>br (fun _=>?_) (fun _=>br (fun _=>must rfl ?_) (fun _=>?_)))) (fun _=>br (fun _=>must rfl ?_) (fun _=>br (fun _=>?_) (fun _=>br (fun _=>must rfl ?_) (fun _=>?_))))))));all_goals first|rfl|(simp only [*,zzp,zdL,cT,cF]<;>rfl)|simp_all[Ty.cells,zzp,zdL]
theorem zUp:vL 325 zJe:=kF1 zfY zu zA zo (zx []) z0W
def zhC (e:GExit):Bool:=bif (ieq e.Kind 0||ieq e.Kind 4) then (ieq e.Page 0&&(!e.Write&&ieq e.N 0)) else (cond (ieq e.Kind 1) (win e.Page 0 3&&ieq e.N 0) (cond (ieq e.Kind 2||ieq e.Kind 3) (win e.N 0 99&&(ieq e.Page 0 && !e.Write)) false))
@[simp] theorem zbgc (x:Bool):zfv x false = !x:=by cases x<;>rfl
attribute [simp] zK8
@[simp] abbrev zBF (e:GExit):Bool:=true
@[simp] abbrev zvQ (e:GExit):Bool:=zhC e
def zFR:Run:=rF1 dE fun b=>(zBF b,[aB (zvQ b)])
def zMu (N:Nat)(a:GExit):OA:=
 let f:=(zU a.N 0 99);let e:=(zO a.N 0 99);let d:=(ieq a.Kind 2);let b:=(ieq a.Page 0);let c:=(aB (nB a.Write));let g:=(aB (cond (ieq a.Kind a.Kind) (cond b (cond (zfv a.Write false) (ieq a.N 0) false) false) false)); (cond (ieq a.Kind 0) (cond (ieq a.Kind 0) (some [g]) (cond (ieq a.Kind 1) (oN (zO a.Page 0 3) (cond (zU a.Page 0 3) (some [(aB (ieq a.N 0))]) oF)) (cond d (cond d (oN e (cond f (cond b (some [c]) oF) oF)) oF) (cond (ieq a.Kind 3) (oN e (cond f (cond b (some [c]) oF) oF)) oF)))) (cond (ieq a.Kind 4) (some [g]) (cond (ieq a.Kind 1) (oN (zO a.Page 0 3) (cond (zU a.Page 0 3) (some [(aB (ieq a.N 0))]) oF)) (cond d (cond d (oN e (cond f (cond b (some [c]) oF) oF)) oF) (cond (ieq a.Kind 3) (oN e (cond f (cond b (some [c]) oF) oF)) oF)))))
theorem zYc (a:GExit)(b:zBF a=true):∃N,zMu N a=some [aB (zvQ a)]:=by
 refine⟨0,?_⟩;unfold zMu oN nB;conv=>zeta
 refine br (fun _=>br (fun _=>?_) (fun _=>br (fun _=>must rfl (br (fun _=>?_) (fun _=>?_))) (fun _=>br (fun _=>br (fun _=>must rfl (br (fun _=>br (fun _=>?_) (fun _=>?_)) (fun _=>?_))) (fun _=>?_)) (fun _=>br (fun _=>must rfl (br (fun _=>br (fun _=>?_) (fun _=>?_)) (fun _=>?_))) (fun _=>?_))))) (fun _=>br (fun _=>?_) (fun _=>br (fun _=>must rfl (br (fun _=>?_) (fun _=>?_))) (fun _=>br (fun _=>br (fun _=>must rfl (br (fun _=>br (fun _=>?_) (fun _=>?_)) (fun _=>?_))) (fun _=>?_)) (fun _=>br (fun _=>must rfl (br (fun _=>br (fun _=>?_) (fun _=>?_)) (fun _=>?_))) (fun _=>?_)))));all_goals first|rfl|(simp only [*,zvQ,zhC,cT,cF]<;>rfl)|simp_all[Ty.cells,zvQ,zhC]
theorem zQL:vL 226 zFR:=kF1 zfY zu zA zo (zx []) zYc
@[simp] abbrev zA8 (e:GExit):Bool:=true
@[simp] abbrev zvg (e:GExit):Bool:=zhC e
def zFq:Run:=rF1 dE fun b=>(zA8 b,[aB (zvg b)])
def zL3 (N:Nat)(a:GExit):OA:=
 let g:=(zcd a.N 0 99);let f:=(zbU a.N 0 99);let e:=(ieq a.Kind 2);let d:=(aB (ieq a.N 0));let b:=(ieq a.Page 0);let c:=(aB (nB a.Write)); (cond (ieq a.Kind 0) (cond (ieq a.Kind 0) (cond b (cond (nB a.Write) (some [d]) oF) oF) (cond (ieq a.Kind 1) (oN (zbU a.Page 0 3) (cond (zcd a.Page 0 3) (some [d]) oF)) (cond e (cond e (oN f (cond g (cond b (some [c]) oF) oF)) oF) (cond (ieq a.Kind 3) (oN f (cond g (cond b (some [c]) oF) oF)) oF)))) (cond (ieq a.Kind 4) (cond b (cond (nB a.Write) (some [d]) oF) oF) (cond (ieq a.Kind 1) (oN (zbU a.Page 0 3) (cond (zcd a.Page 0 3) (some [d]) oF)) (cond e (cond e (oN f (cond g (cond b (some [c]) oF) oF)) oF) (cond (ieq a.Kind 3) (oN f (cond g (cond b (some [c]) oF) oF)) oF)))))
theorem zXK (a:GExit)(b:zA8 a=true):∃N,zL3 N a=some [aB (zvg a)]:=by
 refine⟨0,?_⟩;unfold zL3 oN nB;conv=>zeta
 refine br (fun _=>br (fun _=>br (fun _=>brN (fun _=>?_) (fun _=>?_)) (fun _=>?_)) (fun _=>br (fun _=>must rfl (br (fun _=>?_) (fun _=>?_))) (fun _=>br (fun _=>br (fun _=>must rfl (br (fun _=>br (fun _=>?_) (fun _=>?_)) (fun _=>?_))) (fun _=>?_)) (fun _=>br (fun _=>must rfl (br (fun _=>br (fun _=>?_) (fun _=>?_)) (fun _=>?_))) (fun _=>?_))))) (fun _=>br (fun _=>br (fun _=>brN (fun _=>?_) (fun _=>?_)) (fun _=>?_)) (fun _=>br (fun _=>must rfl (br (fun _=>?_) (fun _=>?_))) (fun _=>br (fun _=>br (fun _=>must rfl (br (fun _=>br (fun _=>?_) (fun _=>?_)) (fun _=>?_))) (fun _=>?_)) (fun _=>br (fun _=>must rfl (br (fun _=>br (fun _=>?_) (fun _=>?_)) (fun _=>?_))) (fun _=>?_)))));all_goals first|rfl|(simp only [*,zvg,zhC,cT,cF]<;>rfl)|simp_all[Ty.cells,zvg,zhC]
theorem zQk:vL 313 zFq:=kF1 zfY zu zA zo (zx []) zXK
def zk8 (c:Ctl):List Int:=(cond (win c.Traps 0 3) [] [1])++((cond (win c.Post 0 255) [] [2])++((cond (ine c.Post 0) (cond c.Open [] [3]) [])++(cond (ieq c.Traps 2) (cond (ine c.Post 0) [4] []) [])))
@[simp] theorem zbf9 {a:Type}(x:a)(l m:List a):ap (x::l) m=x::ap l m:=rfl
@[simp] abbrev ztt (c:Ctl):Bool:=true
@[simp] abbrev znd (c:Ctl):List Int:=zk8 c
def zxg:Run:=rF1 dC fun b=>(ztt b,[aS .int (znd b)])
def zCi (N:Nat)(b:Ctl):OA:=
 let e:=(aS .int []);let k:=(ap (ap [] [2]) [4]);let j:=(ap (ap [] [1]) [4]);let i:=(aS .int (ap [] [2]));let h:=(aS .int (ap [] [1]));let g:=(ap (ap [] [2]) [3]);let f:=(ap (ap [] [1]) [3]);let c:=(ieq b.Traps 2);let a:=(ine b.Post 0);let d:=(ap (ap [] [1]) [2]);let l:=(aS .int d); (oN (zO b.Traps 0 3) (cond (nB (zU b.Traps 0 3)) (oN (few (ln (ap [] [1]))) (oN (zO b.Post 0 255) (cond (nB (zU b.Post 0 255)) (oN (few (ln d)) (cond a (cond (nB b.Open) (oN (few (ln (ap d [3]))) (cond c (cond a (oN (few (ln (ap (ap d [3]) [4]))) (some [(aS .int (ap (ap d [3]) [4]))])) (some [(aS .int (ap d [3]))])) (some [(aS .int (ap d [3]))]))) (cond c (cond a (oN (few (ln (ap d [4]))) (some [(aS .int (ap d [4]))])) (some [l])) (some [l]))) (cond c (cond a (oN (few (ln (ap d [4]))) (some [(aS .int (ap d [4]))])) (some [l])) (some [l])))) (cond a (cond (nB b.Open) (oN (few (ln f)) (cond c (cond a (oN (few (ln (ap f [4]))) (some [(aS .int (ap f [4]))])) (some [(aS .int f)])) (some [(aS .int f)]))) (cond c (cond a (oN (few (ln j)) (some [(aS .int j)])) (some [h])) (some [h]))) (cond c (cond a (oN (few (ln j)) (some [(aS .int j)])) (some [h])) (some [h])))))) (oN (zO b.Post 0 255) (cond (nB (zU b.Post 0 255)) (oN (few (ln (ap [] [2]))) (cond a (cond (nB b.Open) (oN (few (ln g)) (cond c (cond a (oN (few (ln (ap g [4]))) (some [(aS .int (ap g [4]))])) (some [(aS .int g)])) (some [(aS .int g)]))) (cond c (cond a (oN (few (ln k)) (some [(aS .int k)])) (some [i])) (some [i]))) (cond c (cond a (oN (few (ln k)) (some [(aS .int k)])) (some [i])) (some [i])))) (cond a (cond (nB b.Open) (oN (few (ln (ap [] [3]))) (cond c (cond a (oN (few (ln (ap (ap [] [3]) [4]))) (some [(aS .int (ap (ap [] [3]) [4]))])) (some [(aS .int (ap [] [3]))])) (some [(aS .int (ap [] [3]))]))) (cond c (cond a (oN (few (ln (ap [] [4]))) (some [(aS .int (ap [] [4]))])) (some [e])) (some [e]))) (cond c (cond a (oN (few (ln (ap [] [4]))) (some [(aS .int (ap [] [4]))])) (some [e])) (some [e])))))))
theorem zOD (a:Ctl)(b:ztt a=true):∃N,zCi N a=some [aS .int (znd a)]:=by
 refine⟨0,?_⟩;unfold zCi oN nB;conv=>zeta
 refine must rfl (brN (fun _=>mu (must rfl (brN (fun _=>mu (br (fun _=>brN (fun _=>mu (br (fun _=>br (fun _=>mu ?_) (fun _=>?_)) (fun _=>?_))) (fun _=>br (fun _=>br (fun _=>mu ?_) (fun _=>?_)) (fun _=>?_))) (fun _=>br (fun _=>br (fun _=>mu ?_) (fun _=>?_)) (fun _=>?_)))) (fun _=>br (fun _=>brN (fun _=>mu (br (fun _=>br (fun _=>mu ?_) (fun _=>?_)) (fun _=>?_))) (fun _=>br (fun _=>br (fun _=>mu ?_) (fun _=>?_)) (fun _=>?_))) (fun _=>br (fun _=>br (fun _=>mu ?_) (fun _=>?_)) (fun _=>?_)))))) (fun _=>must rfl (brN (fun _=>mu (br (fun _=>brN (fun _=>mu (br (fun _=>br (fun _=>mu ?_) (fun _=>?_)) (fun _=>?_))) (fun _=>br (fun _=>br (fun _=>mu ?_) (fun _=>?_)) (fun _=>?_))) (fun _=>br (fun _=>br (fun _=>mu ?_) (fun _=>?_)) (fun _=>?_)))) (fun _=>br (fun _=>brN (fun _=>mu (br (fun _=>br (fun _=>mu ?_) (fun _=>?_)) (fun _=>?_))) (fun _=>br (fun _=>br (fun _=>mu ?_) (fun _=>?_)) (fun _=>?_))) (fun _=>br (fun _=>br (fun _=>mu ?_) (fun _=>?_)) (fun _=>?_))))));all_goals first|rfl|(simp only [*,znd,zk8,cT,cF]<;>rfl)|simp_all[Ty.cells,znd,zk8]
theorem zHt:vL 283 zxg:=kF1 zfY zu zA zo (zx []) zOD
@[simp] abbrev ztb (c:Ctl):Bool:=true
@[simp] abbrev zmT (c:Ctl):List Int:=zk8 c
def zw6:Run:=rF1 dC fun b=>(ztb b,[aS .int (zmT b)])
def zB8 (N:Nat)(b:Ctl):OA:=
 let e:=(aS .int []);let k:=(ap (ap [] [2]) [4]);let j:=(ap (ap [] [1]) [4]);let i:=(aS .int (ap [] [2]));let h:=(aS .int (ap [] [1]));let g:=(ap (ap [] [2]) [3]);let f:=(ap (ap [] [1]) [3]);let c:=(ieq b.Traps 2);let a:=(ine b.Post 0);let d:=(ap (ap [] [1]) [2]);let l:=(aS .int d); (oN (zbU b.Traps 0 3) (cond (nB (zcd b.Traps 0 3)) (oN (few (ln (ap [] [1]))) (oN (zbU b.Post 0 255) (cond (nB (zcd b.Post 0 255)) (oN (few (ln d)) (cond a (cond (nB b.Open) (oN (few (ln (ap d [3]))) (cond c (cond a (oN (few (ln (ap (ap d [3]) [4]))) (some [(aS .int (ap (ap d [3]) [4]))])) (some [(aS .int (ap d [3]))])) (some [(aS .int (ap d [3]))]))) (cond c (cond a (oN (few (ln (ap d [4]))) (some [(aS .int (ap d [4]))])) (some [l])) (some [l]))) (cond c (cond a (oN (few (ln (ap d [4]))) (some [(aS .int (ap d [4]))])) (some [l])) (some [l])))) (cond a (cond (nB b.Open) (oN (few (ln f)) (cond c (cond a (oN (few (ln (ap f [4]))) (some [(aS .int (ap f [4]))])) (some [(aS .int f)])) (some [(aS .int f)]))) (cond c (cond a (oN (few (ln j)) (some [(aS .int j)])) (some [h])) (some [h]))) (cond c (cond a (oN (few (ln j)) (some [(aS .int j)])) (some [h])) (some [h])))))) (oN (zbU b.Post 0 255) (cond (nB (zcd b.Post 0 255)) (oN (few (ln (ap [] [2]))) (cond a (cond (nB b.Open) (oN (few (ln g)) (cond c (cond a (oN (few (ln (ap g [4]))) (some [(aS .int (ap g [4]))])) (some [(aS .int g)])) (some [(aS .int g)]))) (cond c (cond a (oN (few (ln k)) (some [(aS .int k)])) (some [i])) (some [i]))) (cond c (cond a (oN (few (ln k)) (some [(aS .int k)])) (some [i])) (some [i])))) (cond a (cond (nB b.Open) (oN (few (ln (ap [] [3]))) (cond c (cond a (oN (few (ln (ap (ap [] [3]) [4]))) (some [(aS .int (ap (ap [] [3]) [4]))])) (some [(aS .int (ap [] [3]))])) (some [(aS .int (ap [] [3]))]))) (cond c (cond a (oN (few (ln (ap [] [4]))) (some [(aS .int (ap [] [4]))])) (some [e])) (some [e]))) (cond c (cond a (oN (few (ln (ap [] [4]))) (some [(aS .int (ap [] [4]))])) (some [e])) (some [e])))))))
theorem zOs (a:Ctl)(b:ztb a=true):∃N,zB8 N a=some [aS .int (zmT a)]:=by
 refine⟨0,?_⟩;unfold zB8 oN nB;conv=>zeta
 refine must rfl (brN (fun _=>mu (must rfl (brN (fun _=>mu (br (fun _=>brN (fun _=>mu (br (fun _=>br (fun _=>mu ?_) (fun _=>?_)) (fun _=>?_))) (fun _=>br (fun _=>br (fun _=>mu ?_) (fun _=>?_)) (fun _=>?_))) (fun _=>br (fun _=>br (fun _=>mu ?_) (fun _=>?_)) (fun _=>?_)))) (fun _=>br (fun _=>brN (fun _=>mu (br (fun _=>br (fun _=>mu ?_) (fun _=>?_)) (fun _=>?_))) (fun _=>br (fun _=>br (fun _=>mu ?_) (fun _=>?_)) (fun _=>?_))) (fun _=>br (fun _=>br (fun _=>mu ?_) (fun _=>?_)) (fun _=>?_)))))) (fun _=>must rfl (brN (fun _=>mu (br (fun _=>brN (fun _=>mu (br (fun _=>br (fun _=>mu ?_) (fun _=>?_)) (fun _=>?_))) (fun _=>br (fun _=>br (fun _=>mu ?_) (fun _=>?_)) (fun _=>?_))) (fun _=>br (fun _=>br (fun _=>mu ?_) (fun _=>?_)) (fun _=>?_)))) (fun _=>br (fun _=>brN (fun _=>mu (br (fun _=>br (fun _=>mu ?_) (fun _=>?_)) (fun _=>?_))) (fun _=>br (fun _=>br (fun _=>mu ?_) (fun _=>?_)) (fun _=>?_))) (fun _=>br (fun _=>br (fun _=>mu ?_) (fun _=>?_)) (fun _=>?_))))));all_goals first|rfl|(simp only [*,zmT,zk8,cT,cF]<;>rfl)|simp_all[Ty.cells,zmT,zk8]
theorem zHj:vL 326 zw6:=kF1 zfY zu zA zo (zx []) zOs
def len8tab:ByteArray:=⟨⟨[0,1,2,2,3,3,3,3,4,4,4,4,4,4,4,4,5,5,5,5,5,5,5,5,5,5,5,5,5,5,5,5,6,6,6,6,6,6,6,6,6,6,6,6,6,6,6,6,6,6,6,6,6,6,6,6,6,6,6,6,6,6,6,6,7,7,7,7,7,7,7,7,7,7,7,7,7,7,7,7,7,7,7,7,7,7,7,7,7,7,7,7,7,7,7,7,7,7,7,7,7,7,7,7,7,7,7,7,7,7,7,7,7,7,7,7,7,7,7,7,7,7,7,7,7,7,7,7,8,8,8,8,8,8,8,8,8,8,8,8,8,8,8,8,8,8,8,8,8,8,8,8,8,8,8,8,8,8,8,8,8,8,8,8,8,8,8,8,8,8,8,8,8,8,8,8,8,8,8,8,8,8,8,8,8,8,8,8,8,8,8,8,8,8,8,8,8,8,8,8,8,8,8,8,8,8,8,8,8,8,8,8,8,8,8,8,8,8,8,8,8,8,8,8,8,8,8,8,8,8,8,8,8,8,8,8,8,8,8,8,8,8,8,8,8,8,8,8,8,8,8,8,8,8,8,8]⟩⟩
def zg0 (p n:Int):Bool:=ieq (wand .i64 (zj8 .i64 p n) 1) 1
def scan (p:Int):Int:=bif zg0 p 7 then 7 else (cond (zg0 p 6) 6 (cond (zg0 p 5) 5 (cond (zg0 p 4) 4 (cond (zg0 p 3) 3 (cond (zg0 p 2) 2 (cond (zg0 p 1) 1 (cond (zg0 p 0) 0 (-1))))))))
theorem zbaw:∀n:Fin 256,zL .i64 0 (wcv .i64 (byteAt len8tab (wcv .u8 (n.val:Int))))=scan (n.val:Int)+1:=by decide +kernel
theorem zZA:∀n:Fin 256,-1<=scan (n.val:Int)/\scan (n.val:Int)<=7/\(0<=scan (n.val:Int)->wsub .i64 (n.val:Int) (zlQ .i64 1 (scan (n.val:Int)))=zB4 .i64 (n.val:Int) (zlQ .i64 1 (scan (n.val:Int)))):=by decide +kernel
theorem zFd {P:Int->Prop}(h:∀n:Fin 256,P (n.val:Int)){x:Int}(a:0<=x)(b:x<=255):P x:=by have:=h ⟨x.toNat,by omega⟩;have e:((x.toNat:Nat):Int)=x:=(by omega);simpa [e] using this
def zmP (x:Int):Bool:=pc (0<=x/\x<=255)
def ziv (x:Int):Int:=scan x+1
def zhU:List AV->Option (Bool×List AV)
 |[.one (.i .u64 b)]=>some ((zmP b),[aI (ziv b)])
 |_=>none
def zmJ (N:Nat)(a:Int):OA:=
 let d:=(zj8 .u64 a 16);let b:=(zj8 .u64 a 32);let c:=(zj8 .u64 b 16); (cond (ige a 4294967296) (oN (ile 0 32) (cond (ige b 65536) (oN (ile 0 16) (cond (ige c 256) (oN (ile 0 8) (oN (inb (wcv .u8 (zj8 .u64 c 8)) 256) (some [(aI (zL .i64 (zL .i64 (zL .i64 32 16) 8) (wcv .i64 (byteAt len8tab (wcv .u8 (zj8 .u64 c 8))))))]))) (oN (inb (wcv .u8 c) 256) (some [(aI (zL .i64 (zL .i64 32 16) (wcv .i64 (byteAt len8tab (wcv .u8 c)))))])))) (cond (ige b 256) (oN (ile 0 8) (oN (inb (wcv .u8 (zj8 .u64 b 8)) 256) (some [(aI (zL .i64 (zL .i64 32 8) (wcv .i64 (byteAt len8tab (wcv .u8 (zj8 .u64 b 8))))))]))) (oN (inb (wcv .u8 b) 256) (some [(aI (zL .i64 32 (wcv .i64 (byteAt len8tab (wcv .u8 b)))))]))))) (cond (ige a 65536) (oN (ile 0 16) (cond (ige d 256) (oN (ile 0 8) (oN (inb (wcv .u8 (zj8 .u64 d 8)) 256) (some [(aI (zL .i64 (zL .i64 (zL .i64 0 16) 8) (wcv .i64 (byteAt len8tab (wcv .u8 (zj8 .u64 d 8))))))]))) (oN (inb (wcv .u8 d) 256) (some [(aI (zL .i64 (zL .i64 0 16) (wcv .i64 (byteAt len8tab (wcv .u8 d)))))])))) (cond (ige a 256) (oN (ile 0 8) (oN (inb (wcv .u8 (zj8 .u64 a 8)) 256) (some [(aI (zL .i64 (zL .i64 0 8) (wcv .i64 (byteAt len8tab (wcv .u8 (zj8 .u64 a 8))))))]))) (oN (inb (wcv .u8 a) 256) (some [(aI (zL .i64 0 (wcv .i64 (byteAt len8tab (wcv .u8 a)))))])))))
theorem zFc (N:Nat)(a:Int):evalFn (cQ z3K zpd zLu zZS) (zx []) N 12 314 [.one (.i .u64 a)]=zmJ N a:=by kernel_rfl
theorem zDH (a:Int)(g:zcE big [.one (.i .u64 a)])(f:zmP a=true):∃N,zmJ N a=some [aI (ziv a)]:=by
 obtain⟨b,c⟩:=zN.1 f;refine⟨0,?_⟩;unfold zmJ oN;conv=>zeta
 refine zdh (qH (by omega)) ?_;refine zdh (qH (by omega)) ?_;refine zdh (qH (by omega)) ?_;have e:inb (wcv .u8 a) 256=true:=zFd (P:=fun x=>inb (wcv .u8 x) 256=true) (by decide +kernel) b c;refine must e ?_;have d:=zFd (P:=fun x=>zL .i64 0 (wcv .i64 (byteAt len8tab (wcv .u8 x)))=scan x+1) zbaw b c;rw[d];rfl
theorem zol:vL 314 zhU:=zXo zfY zu zA zo (ziQ (by kernel_rfl)) fun a d b h=>by unfold zhU at h;split at h;{obtain⟨c,rfl⟩:=zd7 h;exact(zDH _ b c).elim fun N e=>⟨zx [],N,(zFc N _).trans e⟩};{cases h}
def zbbL:zbb:=[(257,zFP),(148,zC8),(258,zCO),(147,zF0),(203,zFA),(282,zJo),(325,zJe),(226,zFR),(313,zFq),(283,zxg),(326,zw6),(314,zhU)]++z3K
theorem zfZ:zM zbbL:=zi zQJ (zi zNW (zi zNC (zi zQU (zi zQu (zi zUA (zi zUp (zi zQL (zi zQk (zi zHt (zi zHj (zi zol zfY)))))))))))
def zhT (m:List (List Int))(n:Int):Bool:=bif m.all zco then ieq (ln m) n else false
@[simp] abbrev zsJ (m:List (List Int))(n:Int):Bool:=true
@[simp] abbrev zmx (m:List (List Int))(n:Int):Bool:=zhT m n
def zJp:Run:=rF2 (dS (.sl .int)) dI fun b c=>(zsJ b c,[aB (zmx b c)])
def zS1 (N:Nat)(c:lM)(d:Int):OA:=
 (iter (σ:=(Int×(Int×(lM×Unit)))) N (fun e a=>let b:=a.2.2.1; (cond (ilt a.2.1 (ln b)) (oN (inb a.2.1 (ln b)) (oN (zgg (ix b a.2.1 [])) (cond (nB (zfF (ix b a.2.1 []))) oF (e (a.1,((zL .i64 a.2.1 1),(b,()))))))) (some [(aB (ieq (ln b) a.1))]))) (d,(0,(c,()))))
def z1Z:FuncId->Nat->Option Tmpl:=zx [(86,0,{n:=22,tm:=[(0,.sl 0 []),(1,ti),(5,ti)],lo:=[],ro:=[(0,(.sl .int),false)]})]
theorem z09 (a:List (List Int))(c:Int)(h:zcE big [aS (.sl .int) a,aI c])(k:zsJ a c=true):∃N,zS1 N a c=some [aB (zmx a c)]:=by
 have g:(_:List _).length<=big:=((zdi h).1 _ (qF.2 rfl)).len;refine zcw fun N f=>?_;unfold zS1 oN nB;conv=>zeta
 refine(zbj a (fun i (t:Unit)=>(c,(i:Int),a,())) _ (fun _ x (_:Unit) j=>bif (zco) x then j () else oF) (fun (t:Unit)=>(some [(.one (.b (ieq (ln a) c)))])) (fun i d t rec=>?_) (fun t rec=>?_) _ () (f g)).trans ?_;{simp only [zbS d,zbl d,zbv d,zbh d g,cT];exact ziw rfl};{simp only [zbK,cF]};rw[zgG (zco)];refine br (fun e=>?_) (fun e=>?_);{first|rfl|(simp only [e,zmx,zhT,cT,cF]<;>rfl)|(simp_all [Ty.cells,zmx,zhT];done)};{first|rfl|(simp only [e,zmx,zhT,cT,cF]<;>rfl)|(simp_all [Ty.cells,zmx,zhT];done)}
theorem zUB:vL 86 zJp:=hF2 zfZ zu zA zo z1Z z09
@[simp] abbrev zsx (m:List (List Int))(n:Int):Bool:=true
@[simp] abbrev zl8 (m:List (List Int))(n:Int):Bool:=zhT m n
def zJf:Run:=rF2 (dS (.sl .int)) dI fun b c=>(zsx b c,[aB (zl8 b c)])
def zSQ (N:Nat)(c:lM)(d:Int):OA:=
 (iter (σ:=(Int×(Int×(Int×(lM×Unit))))) N (fun e a=>let b:=a.2.2.2.1; (cond (ilt a.2.2.1 a.2.1) (oN (inb a.2.2.1 (ln b)) (oN (zie (ix b a.2.2.1 [])) (cond (nB (zgO (ix b a.2.2.1 []))) oF (e (a.1,(a.2.1,((zL .i64 a.2.2.1 1),(b,())))))))) (some [(aB (ieq (ln b) a.1))]))) (d,((ln c),(0,(c,())))))
def z1X:FuncId->Nat->Option Tmpl:=zx [(170,0,{n:=21,tm:=[(0,.sl 0 []),(1,ti),(7,.sl 0 []),(8,ti),(9,ti)],lo:=[],ro:=[(0,(.sl .int),false)]})]
theorem z0X (a:List (List Int))(c:Int)(h:zcE big [aS (.sl .int) a,aI c])(k:zsx a c=true):∃N,zSQ N a c=some [aB (zl8 a c)]:=by
 have g:(_:List _).length<=big:=((zdi h).1 _ (qF.2 rfl)).len;refine zcw fun N f=>?_;unfold zSQ oN nB;conv=>zeta
 refine(zbj a (fun i (t:Unit)=>(c,(ln a),(i:Int),a,())) _ (fun _ x (_:Unit) j=>bif (zco) x then j () else oF) (fun (t:Unit)=>(some [(.one (.b (ieq (ln a) c)))])) (fun i d t rec=>?_) (fun t rec=>?_) _ () (f g)).trans ?_;{simp only [zbS d,zbl d,zbv d,zbh d g,cT];exact ziw rfl};{simp only [zbK,cF]};rw[zgG (zco)];refine br (fun e=>?_) (fun e=>?_);{first|rfl|(simp only [e,zl8,zhT,cT,cF]<;>rfl)|(simp_all [Ty.cells,zl8,zhT];done)};{first|rfl|(simp only [e,zl8,zhT,cT,cF]<;>rfl)|(simp_all [Ty.cells,zl8,zhT];done)}
theorem zUq:vL 170 zJf:=hF2 zfZ zu zA zo z1X z0X
def zda (p:List Ins):Bool:=bif p.all zdL then win (ln p) 1 12 else false
@[simp] abbrev zBK (p:List Ins):Bool:=true
@[simp] abbrev zn6 (p:List Ins):Bool:=zda p
def zF2:Run:=rF1 (dS .ins) fun b=>(zBK b,[aB (zn6 b)])
def zMF (N:Nat)(c:lI):OA:=
 (iter (σ:=(Int×(lI×Unit))) N (fun d a=>let b:=(ix a.2.1 a.1 zB5); (cond (ilt a.1 (ln a.2.1)) (oN (inb a.1 (ln a.2.1)) (oN (zGk b) (cond (nB (zAj b)) oF (d ((zL .i64 a.1 1),(a.2.1,())))))) (oN (zO (ln a.2.1) 1 12) (some [(aB (zU (ln a.2.1) 1 12))])))) (0,(c,())))
def z0a:FuncId->Nat->Option Tmpl:=zx [(224,0,{n:=19,tm:=[(0,.sl 0 []),(3,ti)],lo:=[],ro:=[(0,.ins,false)]})]
theorem zYp (a:List Ins)(g:zcE big [aS .ins a])(j:zBK a=true):∃N,zMF N a=some [aB (zn6 a)]:=by
 have f:(_:List _).length<=big:=((zdi g).1 _ (qF.2 rfl)).len;refine zcw fun N e=>?_;unfold zMF oN nB;conv=>zeta
 refine(zbj a (fun i (t:Unit)=>((i:Int),a,())) _ (fun _ x (_:Unit) h=>bif (zdL) x then h () else oF) (fun (t:Unit)=>(cond (zO (ln a) 1 12) (some [(.one (.b (zU (ln a) 1 12)))]) none)) (fun i c t rec=>?_) (fun t rec=>?_) _ () (e f)).trans ?_;{simp only [zbS c,zbl c,zbv c,zbh c f,cT];exact ziw rfl};{simp only [zbK,cF]};rw[zgG (zdL)];refine br (fun d=>?_) (fun d=>?_);{refine must rfl ?_;first|rfl|(simp only [d,zn6,zda,cT,cF]<;>rfl)|(simp_all [Ty.cells,zn6,zda];done)};{first|rfl|(simp only [d,zn6,zda,cT,cF]<;>rfl)|(simp_all [Ty.cells,zn6,zda];done)}
theorem zQW:vL 224 zF2:=hF1 zfZ zu zA zo z0a zYp
@[simp] abbrev zBe (p:List Ins):Bool:=true
@[simp] abbrev znT (p:List Ins):Bool:=zda p
def zFC:Run:=rF1 (dS .ins) fun b=>(zBe b,[aB (znT b)])
def zMe (N:Nat)(b:lI):OA:=
 (iter (σ:=(Int×(Int×(lI×Unit)))) N (fun d a=>let c:=(ix a.2.2.1 a.2.1 zB5); (cond (ilt a.2.1 a.1) (oN (inb a.2.1 (ln a.2.2.1)) (oN (zEU c) (cond (nB (zzp c)) oF (d (a.1,((zL .i64 a.2.1 1),(a.2.2.1,()))))))) (oN (zbU (ln a.2.2.1) 1 12) (some [(aB (zcd (ln a.2.2.1) 1 12))])))) ((ln b),(0,(b,()))))
def zZ0:FuncId->Nat->Option Tmpl:=zx [(311,0,{n:=18,tm:=[(0,.sl 0 []),(5,.sl 0 []),(6,ti),(7,ti)],lo:=[],ro:=[(0,.ins,false)]})]
theorem zXW (a:List Ins)(g:zcE big [aS .ins a])(j:zBe a=true):∃N,zMe N a=some [aB (znT a)]:=by
 have f:(_:List _).length<=big:=((zdi g).1 _ (qF.2 rfl)).len;refine zcw fun N e=>?_;unfold zMe oN nB;conv=>zeta
 refine(zbj a (fun i (t:Unit)=>((ln a),(i:Int),a,())) _ (fun _ x (_:Unit) h=>bif (zdL) x then h () else oF) (fun (t:Unit)=>(cond (zbU (ln a) 1 12) (some [(.one (.b (zcd (ln a) 1 12)))]) none)) (fun i c t rec=>?_) (fun t rec=>?_) _ () (e f)).trans ?_;{simp only [zbS c,zbl c,zbv c,zbh c f,cT];exact ziw rfl};{simp only [zbK,cF]};rw[zgG (zdL)];refine br (fun d=>?_) (fun d=>?_);{refine must rfl ?_;first|rfl|(simp only [d,znT,zda,cT,cF]<;>rfl)|(simp_all [Ty.cells,znT,zda];done)};{first|rfl|(simp only [d,znT,zda,cT,cF]<;>rfl)|(simp_all [Ty.cells,znT,zda];done)}
theorem zQw:vL 311 zFC:=hF1 zfZ zu zA zo zZ0 zXW
def zhR (c:Ctl):Bool:=ieq (ln (zk8 c)) 0
@[simp] abbrev zsH (c:Ctl):Bool:=true
@[simp] abbrev zq1 (c:Ctl):Bool:=zhR c
def zJm:Run:=rF1 dC fun b=>(zsH b,[aB (zq1 b)])
def zSX (N:Nat)(a:Ctl):OA:=
 (oN (ztt a) (some [(aB (ieq (ln (znd a)) 0))]))
theorem z05 (a:Ctl)(b:zsH a=true):∃N,zSX N a=some [aB (zq1 a)]:=by refine⟨0,?_⟩;unfold zSX oN;refine must rfl ?_;first|rfl|(simp only [*,zq1,zhR,cT,cF]<;>rfl)|simp_all[Ty.cells,zq1,zhR]
theorem zUy:vL 225 zJm:=kF1 zfZ zu zA zo (zx []) z05
@[simp] abbrev zET (c:Ctl):Bool:=true
@[simp] abbrev zzo (c:Ctl):Bool:=zhR c
def zJc:Run:=rF1 dC fun b=>(zET b,[aB (zzo b)])
def zSN (N:Nat)(a:Ctl):OA:=
 (oN (ztb a) (some [(aB (ieq (ln (zmT a)) 0))]))
theorem z0U (a:Ctl)(b:zET a=true):∃N,zSN N a=some [aB (zzo a)]:=by refine⟨0,?_⟩;unfold zSN oN;refine must rfl ?_;first|rfl|(simp only [*,zzo,zhR,cT,cF]<;>rfl)|simp_all[Ty.cells,zzo,zhR]
theorem zUn:vL 312 zJc:=kF1 zfZ zu zA zo (zx []) z0U
def zc6 (p:Int):Int:=bif zc3 p then scan p else -1
theorem zSK {x:Int}(a:0<=x)(b:x<=255):wcv .u64 x=x:=zFd (P:=fun x=>wcv .u64 x=x) (by decide +kernel) a b
@[simp] abbrev zt0 (p:Int):Bool:=true
@[simp] abbrev znU (p:Int):Int:=zc6 p
def zFI:Run:=rF1 dI fun b=>(zt0 b,[aI (znU b)])
def zMk (N:Nat)(a:Int):OA:=
 (oN (zjK a) (cond (nB (zjJ a)) (some [(aI (-1))]) (oN (zmP (wcv .u64 a)) (some [(aI (wsub .i64 (ziv (wcv .u64 a)) 1))]))))
theorem zX2 (a:Int)(d:zt0 a=true):∃N,zMk N a=some [aI (znU a)]:=by refine⟨0,?_⟩;unfold zMk oN nB;refine must rfl ?_;cases h:zc3 a;{refine must (by simp[h]) ?_;simp[zc6,h]};{obtain⟨b,c⟩:=ze4.1 h;have r:=zFd (P:=fun x=>-1<=scan x/\scan x<=7/\(0<=scan x->wsub .i64 x (zlQ .i64 1 (scan x))=zB4 .i64 x (zlQ .i64 1 (scan x)))) zZA b c;refine zdh (by simp[h]) ?_;rw[zSK b c];refine must (zby ⟨b,c⟩) ?_;have e:wsub .i64 (ziv a) 1=scan a:=(by unfold ziv;rw[zrj (by omega) (by omega)];omega);rw[e];simp[zc6,h]}
theorem zQC:vL 261 zFI:=kF1 zfZ zu zA zo (zx []) zX2
@[simp] abbrev zuj (p:Int):Bool:=true
@[simp] abbrev zn7 (p:Int):Int:=zc6 p
def zF6:Run:=rF1 dI fun b=>(zuj b,[aI (zn7 b)])
def zMJ (N:Nat)(b:Int):OA:=
 (iter (σ:=(Int×(Int×Unit))) N (fun c a=>(cond (ige a.2.1 0) (oN (zfH a.1) (cond (zfG a.1) (oN (ile 0 (wcv .u64 a.2.1)) (cond (ieq (wand .i64 (zj8 .i64 a.1 (wcv .u64 a.2.1)) 1) 1) (some [(aI a.2.1)]) (c (a.1,((wsub .i64 a.2.1 1),()))))) (some [(aI (-1))]))) (some [(aI (-1))]))) (b,(7,())))
def z0b:FuncId->Nat->Option Tmpl:=zx [(114,0,{n:=19,tm:=[(0,ti),(3,ti)],lo:=[],ro:=[]})]
theorem zYt (a:Int)(C:zuj a=true):∃N,zMJ N a=some [aI (zn7 a)]:=by refine⟨10,?_⟩;unfold zMJ oN;cases h:zc3 a;{rw [zd6];refine must rfl ?_;refine must rfl ?_;refine zdh h ?_;simp[zc6,h]};{have c:zfG a=true:=h;rw[zd6];refine must rfl (must rfl (must c (must rfl (br (fun r=>?_) (fun r=>?_)))));{have A:zg0 a 7=true:=r;simp[zc6,h,scan,A]};have b:zg0 a 7=false:=r;show iter 9 _ (a,6,())=_;rw[zd6];refine must rfl (must rfl (must c (must rfl (br (fun q=>?_) (fun q=>?_)))));{have z:zg0 a 6=true:=q;simp[zc6,h,scan,z,b]};have d:zg0 a 6=false:=q;show iter 8 _ (a,5,())=_;rw[zd6];refine must rfl (must rfl (must c (must rfl (br (fun p=>?_) (fun p=>?_)))));{have y:zg0 a 5=true:=p;simp[zc6,h,scan,y,b,d]};have e:zg0 a 5=false:=p;show iter 7 _ (a,4,())=_;rw[zd6];refine must rfl (must rfl (must c (must rfl (br (fun n=>?_) (fun n=>?_)))));{have x:zg0 a 4=true:=n;simp[zc6,h,scan,x,b,d,e]};have f:zg0 a 4=false:=n;show iter 6 _ (a,3,())=_;rw[zd6];refine must rfl (must rfl (must c (must rfl (br (fun m=>?_) (fun m=>?_)))));{have w:zg0 a 3=true:=m;simp[zc6,h,scan,w,b,d,e,f]};have g:zg0 a 3=false:=m;show iter 5 _ (a,2,())=_;rw[zd6];refine must rfl (must rfl (must c (must rfl (br (fun l=>?_) (fun l=>?_)))));{have v:zg0 a 2=true:=l;simp[zc6,h,scan,v,b,d,e,f,g]};have i:zg0 a 2=false:=l;show iter 4 _ (a,1,())=_;rw[zd6];refine must rfl (must rfl (must c (must rfl (br (fun k=>?_) (fun k=>?_)))));{have u:zg0 a 1=true:=k;simp[zc6,h,scan,u,b,d,e,f,g,i]};have s:zg0 a 1=false:=k;show iter 3 _ (a,0,())=_;rw[zd6];refine must rfl (must rfl (must c (must rfl (br (fun j=>?_) (fun j=>?_)))));{have t:zg0 a 0=true:=j;simp[zc6,h,scan,t,b,d,e,f,g,i,s]};have B:zg0 a 0=false:=j;show iter 2 _ (a,-1,())=_;rw[zd6];refine zdh rfl ?_;simp[zc6,h,scan,b,d,e,f,g,i,s,B]}
theorem zQ0:vL 114 zF6:=kF1 zfZ zu zA zo z0b zYt
theorem zbL {c:Cur}{i k:Int}(h:zbc c)(a:0<=i):zbc ⟨c.b,i,k⟩:=⟨a,h.2⟩
theorem z2O {c:Cur}(h:zbc c){l:List Int}(a:l≠[]):zbk c l∈l:=(zAl (zeQ h a)).2.2 (kO.2 a)
theorem zfu {c:Cur}(h:zbc c){n:Int}(a:0<n):0<=zk c n/\zk c n<n:=(zhM (zbx h n)).2.2 a
theorem zOn {o x:Int}(h:(o=1\/o=2\/o=5\/o=6)/\0<=x/\x<=99\/(o=3\/o=4)/\0<=x/\x<=15\/o=8/\0<=x/\x<=11):zdL ⟨o,x⟩=true:=by have w:∀{a b:Int},a<=x->x<=b->win x a b=true:=fun c d=>(by simp only[win,ige,ile,qE,q0];exact⟨c,d⟩);rcases h with⟨h|h|h|h,c,d⟩|⟨h|h,c,d⟩|⟨h,c,d⟩<;>subst h<;>exact w c d
def zAy (N:Nat)(c:Cur)  : OA :=
 let d:=(zbk c [1,2,3,3,3,4,4,4,5,6,8]);let a:=({ (zZ c [1,2,3,3,3,4,4,4,5,6,8]) with b:=c.b}:Cur); (share (oN (zD a 16) (some [(.agg [(.s .u8 c.b),(.i .i64 (zf a 16).i),(.i .i64 (zf a 16).h)]),(.agg [(.i .i64 d),(.i .i64 (zk a 16))])])) (fun f=>(share (cond (ieq d 8) (oN (zD a 4) (some [(.agg [(.s .u8 c.b),(.i .i64 (zf a 4).i),(.i .i64 (zf a 4).h)]),(.agg [(.i .i64 d),(.i .i64 (zk a 4))])])) (oN (zD a 100) (some [(.agg [(.s .u8 c.b),(.i .i64 (zf a 100).i),(.i .i64 (zf a 100).h)]),(.agg [(.i .i64 d),(.i .i64 (zk a 100))])]))) (fun e=>(oN (zbq c [1,2,3,3,3,4,4,4,5,6,8]) (cond (ieq d 3) (cond (ieq d 3) f e) (cond (ieq d 4) f e)))))))
def zr7 (c:Cur)(s:Cur)(a:Ins):Prop:=(∃N,zAy N c=some (AV.agg (zb0 s)::[aT .ins a]))/\(s.b=c.b/\0<=s.i)/\(zdL a=true)
def zj3 (c:Cur)  : Bool:=wC (zr7 c)
def zgk (c:Cur)  : Cur:=wS (zr7 c)
def zf8 (c:Cur)  : Ins:=wV (zr7 c)
theorem zPj {c:Cur}(h:zj3 c=true):zr7 c (zgk c) (zf8 c):=wG h
theorem zBP (c:Cur)  : 0<=(zgk c).i:=wP fun h=>h.2.1.2
theorem z5j (c:Cur)(h:∃N,Ends (wE (fun a=>aT .ins a) c.b fun a=>zdL a=true) (zAy N c)):zj3 c=true:=wI (fun _ _ h=>h) h
def zCy:zdU:=rP0 fun c=>(zj3 c,zgk c,[aT .ins (zf8 c)])
theorem zQ6:zbP Tryz.prog 281 [false,true,true] zCy:=hP0 zfX zbg zYW zo (zx []) (fun _ h=>(zPj h).1)
theorem zV6 {c:Cur}(h:zbc c):zj3 c=true:=by
 refine z5j c ⟨0,?_⟩;have p:([1,2,3,3,3,4,4,4,5,6,8]:List Int)≠[]:=(by simp);have q:=z2O h p;have f:zbc {zZ c [1,2,3,3,3,4,4,4,5,6,8] with b:=c.b}:=zbL h (zb1 _ _);have t:=zfu f (n:=16) (by omega);have w:=zfu f (n:=4) (by omega);have m:=zfu f (n:=100) (by omega);unfold zAy oN;conv=>zeta
 generalize zbk c [1,2,3,3,3,4,4,4,5,6,8]=o at q;simp only[qG,qN,or_false]at q;have j:∀{n:Int},ieq o n=false->o≠n:=fun h e=>(by subst e;simp[ieq]at h);have k:∀{n:Int},ieq o n=true->o=n:=fun h=>by simpa [ieq] using h
 have L:∀(n:Int),0<n->(zdL ⟨o,zk {zZ c [1,2,3,3,3,4,4,4,5,6,8] with b:=c.b} n⟩=true)->Ends (fun a=>∃s r,a=(AV.agg (zb0 s)::[aT .ins r])/\(s.b=c.b/\0<=s.i)/\zdL r=true)
  (cond (zD {zZ c [1,2,3,3,3,4,4,4,5,6,8] with b:=c.b} n) (some (AV.agg [.s .u8 c.b,.i .i64 (zf {zZ c [1,2,3,3,3,4,4,4,5,6,8] with b:=c.b} n).i,.i .i64 (zf {zZ c [1,2,3,3,3,4,4,4,5,6,8] with b:=c.b} n).h]::[.agg [.i .i64 o,.i .i64 (zk {zZ c [1,2,3,3,3,4,4,4,5,6,8] with b:=c.b} n)]])) none):=
  fun n x u=>zq (zbx f n) (zbJ (aT .ins) (v:=⟨o,zk _ n⟩) (zJ _ _) u)
 refine zq (zeQ h p) (zbp (fun g=>zbp (fun _=>L 16 (by omega) (zOn ?_)) (fun d=>absurd (k g) (j d))) (fun g=>zbp (fun d=>L 16 (by omega) (zOn ?_)) (fun d=>zbp (fun l=>L 4 (by omega) (zOn ?_)) (fun l=>L 100 (by omega) (zOn ?_)))));{have:=k g;omega};{have:=k d;omega};{have:=k l;omega};{have:=j g;have:=j d;have:=j l;omega}
def zbcg:zcN:=[(281,([false,true,true],zCy))]++zbcf
theorem zYX:zb2 zbcg:=zcs zYW (by
 intro x a;simp only[qG,qN,or_false]at a;rcases a with rfl
 .exact zQ6)
theorem zhx {x y:Int}(a:0<=x)(b:x<=1000000)(c:0<=y)(d:y<=1000000):zL .i64 x y=x+y:=zrh (by omega) (by omega)
theorem zkb {a:Type}{l:List a}(h:ln l<=1000000):few (ln l)=true:=qJ ⟨by unfold ln;omega,by omega⟩
theorem zg3 {a:Type}(l:List a)(x:a):ln (ap l [x])=ln l+1:=by simp[ln,ap]
def zx2 (N:Nat)(c:Cur)  : OA :=
 (iter (σ:=(Int×(Int×(Int×(lI×((List Int)×Unit)))))) N (fun j d=>let e:=d.2.2.2.1;let f:=d.2.2.2.2.1;let g:=(⟨f,d.2.1,d.2.2.1⟩:Cur);let a:=({ (zf g 7) with b:=f}:Cur); (oN (zD g 7) (cond (ilt d.1 (zL .i64 2 (zk g 7))) (oN (zj3 a) (oN (few (ln (ap e [(zf8 a)]))) (j ((zL .i64 d.1 1),((zgk a).i,((zgk a).h,((ap e [(zf8 a)]),(f,())))))))) (oN (zcK a 3) (cond (zcT a 3) (oN (few (ln (ap e [(⟨7,0⟩:Ins)]))) (some [(.agg [(.s .u8 f),(.i .i64 (zQ a 3).i),(.i .i64 (zQ a 3).h)]),(aS .ins (ap e [(⟨7,0⟩:Ins)]))])) (oN (few (ln (ap e [(⟨8,0⟩:Ins)]))) (some [(.agg [(.s .u8 f),(.i .i64 (zQ a 3).i),(.i .i64 (zQ a 3).h)]),(aS .ins (ap e [(⟨8,0⟩:Ins)]))]))))))) (0,(c.i,(c.h,([],(c.b,()))))))
def zVU:FuncId->Nat->Option Tmpl:=zx [(273,0,{n:=29,tm:=[(0,.lp 0 0),(3,.sl 0 []),(4,ti)],lo:=[(0,[.sl 1 [],ti,ti])],ro:=[(0,.ins,true),(1,.u8,false)]})]
def zp3 (c:Cur)(s:Cur)(a:List Ins):Prop:=(∃N,zx2 N c=some (AV.agg (zb0 s)::[aS .ins a]))/\(s.b=c.b/\0<=s.i)/\(zda a=true)
def zhd (c:Cur)  : Bool:=wC (zp3 c)
def zX (c:Cur)  : Cur:=wS (zp3 c)
def zb5 (c:Cur)  : List Ins:=wV (zp3 c)
theorem zr8 {c:Cur}(h:zhd c=true):zp3 c (zX c) (zb5 c):=wG h
theorem ziJ (c:Cur)  : 0<=(zX c).i:=wP fun h=>h.2.1.2
theorem z1E (c:Cur)(h:∃N,Ends (wE (fun a=>aS .ins a) c.b fun a=>zda a=true) (zx2 N c)):zhd c=true:=wI (fun _ _ h=>h) h
def zzE:zdU:=rP0 fun c=>(zhd c,zX c,[aS .ins (zb5 c)])
theorem zN5:zbP Tryz.prog 273 [false,true,true] zzE:=hP0 zfX zbg zYX zo zVU (fun _ h=>(zr8 h).1)
theorem zFi {c:Cur}(h:zbc c):zhd c=true:=by
 refine z1E c ⟨9,?_⟩;unfold zx2 oN;conv=>zeta
 refine zka (fun n s=>s.1+(n:Int)=8/\0<=s.1/\0<=s.2.1/\(∀x∈s.2.2.2.1,zdL x=true)/\ln s.2.2.2.1=s.1/\s.2.2.2.2.1=c.b) ?_ 9 8 _ ⟨rfl,kD 0,h.1,by simp,rfl,rfl⟩ (by omega);rintro n ⟨t,i,k,l,b,u⟩ rec ⟨B,g,v,j,w,z⟩ f;dsimp only at B g v j w z ⊢;subst z;have a:zbc ⟨c.b,i,k⟩:=zbL h v;have d:=zfu a (n:=7) (by omega);have A:=zhx (x:=2) (by omega) (by omega) d.1 (by omega);have m:zbc {zf ⟨c.b,i,k⟩ 7 with b:=c.b}:=zbL h (zJ _ _);have e:∀(y:Ins),zdL y=true->2<=t->zda (ap l [y])=true:=(by intro y C D;unfold zda;rw[zg3,w];have:(ap l [y]).all zdL=true:=(by simp only[ap,List.all_append,kS,List.all_nil,vB,qE];exact⟨qM.2 j,C⟩);rw[this,cT];simp only[win,ige,ile,qE,q0];omega);refine zq (zbx a 7) (zbp (fun p=>?_) (fun p=>?_));{have r:t<zL .i64 2 (zk ⟨c.b,i,k⟩ 7):=qD p;rw[A]at r;refine zq (zV6 m) (zq (zkb (by rw[zg3];omega)) (f (n-1) _ (by omega) ⟨?_,?_,zBP _,?_,?_,rfl⟩));{show zL .i64 t 1+_=8;rw[zhx g (by omega) (by omega) (by omega)];omega};{show 0<=zL .i64 t 1;rw[zhx g (by omega) (by omega) (by omega)];omega};{intro x d;rcases jG.1 d with d|d;{exact j x d};{rw [qF.1 d];exact(zPj (zV6 m)).2.2}};{show ln (ap l [_])=zL .i64 t 1;rw[zg3,zhx g (by omega) (by omega) (by omega)];omega}};{have q:¬ t<zL .i64 2 (zk ⟨c.b,i,k⟩ 7):=jQ p;rw[A]at q;refine zq (zii m 3) (zbp (fun _=>zq (zkb (by rw[zg3];omega)) (zbJ (aS .ins) (zb6 _ _) (e _ rfl (by omega)))) (fun _=>zq (zkb (by rw[zg3];omega)) (zbJ (aS .ins) (zb6 _ _) (e _ rfl (by omega)))))}
def zbch:zcN:=[(273,([false,true,true],zzE))]++zbcg
theorem zYY:zb2 zbch:=zcs zYX (by
 intro x a;simp only[qG,qN,or_false]at a;rcases a with rfl
 .exact zN5)
theorem z0k {f:Type}{c:Cur}(h:zbc c){P:f->Prop}{fc:Cur->Bool}{fs:Cur->Cur}{fv:Cur->f}(C:∀{c:Cur},zbc c->fc c=true)(D:∀c,0<=(fs c).i)(hg:∀{c:Cur},zbc c->P (fv c)){G:Ans->Prop}{R:Cur->List f->Ans}(B:∀s l,s.b=c.b->0<=s.i->1<=l.length->l.length<=2->(∀x∈l,P x)->G (R s l)){F:(Int×Int×Int×List f×List Int×Unit->OA)->Int×Int×Int×List f×List Int×Unit->OA}(A:∀rec t i k l,F rec (t,i,k,l,c.b,())=bif zD ⟨c.b,i,k⟩ 2 then (bif ilt t (zL .i64 1 (zk ⟨c.b,i,k⟩ 2)) then (bif fc { zf ⟨c.b,i,k⟩ 2 with b:=c.b } then (bif few (ln (ap l [fv { zf ⟨c.b,i,k⟩ 2 with b:=c.b }])) then
        rec (zL .i64 t 1,(fs {zf ⟨c.b,i,k⟩ 2 with b:=c.b}).i,(fs {zf ⟨c.b,i,k⟩ 2 with b:=c.b}).h,ap l [fv {zf ⟨c.b,i,k⟩ 2 with b:=c.b}],c.b,()) else none) else none) else some (R ⟨c.b,(zf ⟨c.b,i,k⟩ 2).i,(zf ⟨c.b,i,k⟩ 2).h⟩ l)) else none) :
 Ends G (iter 3 F (0,c.i,c.h,[],c.b,())):=by
 refine zka (fun n s=>s.1+(n:Int)=2/\0<=s.1/\0<=s.2.1/\(∀x∈s.2.2.2.1,P x)/\ln s.2.2.2.1=s.1/\s.2.2.2.2.1=c.b) ?_ 3 2 _ ⟨rfl,kD 0,h.1,by simp,rfl,rfl⟩ (by omega)
 rintro n ⟨t,i,k,l,b,u⟩ rec ⟨z,m,p,g,q,r⟩ e
 dsimp only at z m p g q r
 subst r;rw[A];have a:zbc ⟨c.b,i,k⟩:=zbL h p;have d:=zfu a (n:=2) (by omega)
 have w:=zhx (x:=1) (by omega) (by omega) d.1 (by omega)
 have v:zbc {zf ⟨c.b,i,k⟩ 2 with b:=c.b}:=zbL h (zJ _ _);refine zq (zbx a 2) (zbp (fun j=>?_) (fun j=>?_))
 .have hlt:t<zL .i64 1 (zk ⟨c.b,i,k⟩ 2):=qD j;rw[w]at hlt;have E:=zhx (y:=1) m (by omega) (by omega) (by omega)
  refine zq (C v) (zq (zkb (by rw[zg3];omega)) (e (n-1) _ (by omega) ⟨?_,?_,D _,?_,?_,rfl⟩))
  .show zL .i64 t 1+_=2
   omega
  .show 0<=zL .i64 t 1
   omega
  .intro x d;rcases jG.1 d with d|d
   .exact g x d
   .rw [qF.1 d];exact hg v
  .show ln (ap l [_])=zL .i64 t 1
   rw[zg3];omega
 .have hge:¬ t<zL .i64 1 (zk ⟨c.b,i,k⟩ 2):=jQ j;rw[w]at hge;unfold ln at q;exact zhB (B _ l rfl (zJ _ _) (by omega) (by omega) g)
def zuS (N:Nat)(c:Cur)  : OA :=
 (iter (σ:=(Int×(Int×(Int×(lP×((List Int)×Unit)))))) N (fun g a=>let f:=a.2.2.2.2.1;let e:=(⟨f,a.2.1,a.2.2.1⟩:Cur);let d:=({ (zf e 2) with b:=f}:Cur); (oN (zD e 2) (cond (ilt a.1 (zL .i64 1 (zk e 2))) (oN (zhd d) (oN (few (ln (ap a.2.2.2.1 [(zb5 d)]))) (g ((zL .i64 a.1 1),((zX d).i,((zX d).h,((ap a.2.2.2.1 [(zb5 d)]),(f,())))))))) (some [(.agg [(.s .u8 f),(.i .i64 (zf e 2).i),(.i .i64 (zf e 2).h)]),(aS (.sl .ins) a.2.2.2.1)])))) (0,(c.i,(c.h,([],(c.b,()))))))
def zSD:FuncId->Nat->Option Tmpl:=zx [(198,0,{n:=19,tm:=[(0,.lp 0 0),(3,.sl 0 []),(4,ti)],lo:=[(0,[.sl 1 [],ti,ti])],ro:=[(0,(.sl .ins),true),(1,.u8,false)]})]
def znH (c:Cur)(s:Cur)(a:List (List Ins)):Prop:=(∃N,zuS N c=some (AV.agg (zb0 s)::[aS (.sl .ins) a]))/\(s.b=c.b/\0<=s.i)/\(1<=a.length/\a.length<=2/\∀x∈a,zda x=true)
def zjh (c:Cur)  : Bool:=wC (znH c)
def zji (c:Cur)  : Cur:=wS (znH c)
def zqc (c:Cur)  : List (List Ins):=wV (znH c)
theorem zGp {c:Cur}(h:zjh c=true):znH c (zji c) (zqc c):=wG h
theorem zZx (c:Cur)  : 0<=(zji c).i:=wP fun h=>h.2.1.2
theorem zZw (c:Cur)(h:∃N,Ends (wE (fun a=>aS (.sl .ins) a) c.b fun a=>1<=a.length/\a.length<=2/\∀x∈a,zda x=true) (zuS N c)):zjh c=true:=wI (fun _ _ h=>h) h
def zw4:zdU:=rP0 fun c=>(zjh c,zji c,[aS (.sl .ins) (zqc c)])
theorem zKY:zbP Tryz.prog 198 [false,true,true] zw4:=hP0 zfX zbg zYY zo zSD (fun _ h=>(zGp h).1)
theorem z2Q {c:Cur}(h:zbc c):zjh c=true:=by
 refine zZw c ⟨3,?_⟩;unfold zuS oN;conv=>zeta
 exact z0k h (P:=fun x=>zda x=true) (fc:=zhd) (fs:=zX) (fv:=zb5) (R:=fun s l=>AV.agg (zb0 s)::[aS (.sl .ins) l]) zFi ziJ (fun h=>(zr8 (zFi h)).2.2) (fun s l d e a b f=>⟨s,l,rfl,⟨d,e⟩,a,b,f⟩) (fun rec t i k l=>rfl)
def zbci:zcN:=[(198,([false,true,true],zw4))]++zbch
theorem zYZ:zb2 zbci:=zcs zYY (by
 intro x a;simp only[qG,qN,or_false]at a;rcases a with rfl
 .exact zKY)
def zAD (N:Nat)(c:Cur)  : OA :=
 (iter (σ:=(Int×(Int×(Int×(lQ×((List Int)×Unit)))))) N (fun g a=>let f:=a.2.2.2.2.1;let e:=(⟨f,a.2.1,a.2.2.1⟩:Cur);let d:=({ (zf e 2) with b:=f}:Cur); (oN (zD e 2) (cond (ilt a.1 (zL .i64 1 (zk e 2))) (oN (zjh d) (oN (few (ln (ap a.2.2.2.1 [(zqc d)]))) (g ((zL .i64 a.1 1),((zji d).i,((zji d).h,((ap a.2.2.2.1 [(zqc d)]),(f,())))))))) (some [(.agg [(.s .u8 f),(.i .i64 (zf e 2).i),(.i .i64 (zf e 2).h)]),(aS (.sl (.sl .ins)) a.2.2.2.1)])))) (0,(c.i,(c.h,([],(c.b,()))))))
def z0f:FuncId->Nat->Option Tmpl:=zx [(121,0,{n:=19,tm:=[(0,.lp 0 0),(3,.sl 0 []),(4,ti)],lo:=[(0,[.sl 1 [],ti,ti])],ro:=[(0,(.sl (.sl .ins)),true),(1,.u8,false)]})]
def zsd (c:Cur)(s:Cur)(a:List (List (List Ins))):Prop:=(∃N,zAD N c=some (AV.agg (zb0 s)::[aS (.sl (.sl .ins)) a]))/\(s.b=c.b/\0<=s.i)/\(1<=a.length/\a.length<=2/\∀p∈a,1<=p.length/\p.length<=2/\∀x∈p,zda x=true)
def zqd (c:Cur)  : Bool:=wC (zsd c)
def zmG (c:Cur)  : Cur:=wS (zsd c)
def zv4 (c:Cur)  : List (List (List Ins)):=wV (zsd c)
theorem zPl {c:Cur}(h:zqd c=true):zsd c (zmG c) (zv4 c):=wG h
theorem z5v (c:Cur)  : 0<=(zmG c).i:=wP fun h=>h.2.1.2
theorem z5u (c:Cur)(h:∃N,Ends (wE (fun a=>aS (.sl (.sl .ins)) a) c.b fun a=>1<=a.length/\a.length<=2/\∀p∈a,1<=p.length/\p.length<=2/\∀x∈p,zda x=true) (zAD N c)):zqd c=true:=wI (fun _ _ h=>h) h
def zCD:zdU:=rP0 fun c=>(zqd c,zmG c,[aS (.sl (.sl .ins)) (zv4 c)])
theorem zRb:zbP Tryz.prog 121 [false,true,true] zCD:=hP0 zfX zbg zYZ zo z0f (fun _ h=>(zPl h).1)
theorem zbaZ {c:Cur}(h:zbc c):zqd c=true:=by
 refine z5u c ⟨3,?_⟩;unfold zAD oN;conv=>zeta
 exact z0k h (P:=fun p=>1<=p.length/\p.length<=2/\∀x∈p,zda x=true) (fc:=zjh) (fs:=zji) (fv:=zqc) (R:=fun s l=>AV.agg (zb0 s)::[aS (.sl (.sl .ins)) l]) z2Q zZx (fun h=>(zGp (z2Q h)).2.2) (fun s l d e a b f=>⟨s,l,rfl,⟨d,e⟩,a,b,f⟩) (fun rec t i k l=>rfl)
def zbcj:zcN:=[(121,([false,true,true],zCD))]++zbci
theorem zY0:zb2 zbcj:=zcs zYZ (by
 intro x a;simp only[qG,qN,or_false]at a;rcases a with rfl
 .exact zRb)
theorem zGO {c:Type}{G:c->Prop}{x:Bool}{a b:Option c}(k:Ends G a)(h:x=true:=by first
 |exact zbx (by first|assumption|exact zbL (by assumption) (zJ _ _)|exact zbL (by assumption) (zb6 _ _)|exact zbL (by assumption) (zb1 _ _)) _
 |exact zii (by first|assumption|exact zbL (by assumption) (zJ _ _)|exact zbL (by assumption) (zb6 _ _)) _
 |exact zeQ (by first|assumption|exact zbL (by assumption) (zJ _ _)) (by simp)):Ends G (cond x a b):=zq h k
def zAA (N:Nat)(c:Cur)  : OA :=
 let f:=(zk c 4);let j:=({ (zf c 4) with b:=c.b}:Cur);let e:=(zcT j 4);let d:=(zQ j 4);let a:=({d with b:=c.b}:Cur);let g:=({ (zQ a 2) with b:=c.b}:Cur); (oN (zD c 4) (oN (zcK j 4) (cond (nB e) (cond (ine f 2) (oN (zcK a 2) (cond (zcT a 2) (oN (zD g 256) (some [(.agg [(.s .u8 c.b),(.i .i64 (zf g 256).i),(.i .i64 (zf g 256).h)]),(.agg [(.i .i64 f),(.i .i64 (zk g 256)),(.b (nB e))])])) (some [(.agg [(.s .u8 c.b),(.i .i64 (zQ a 2).i),(.i .i64 (zQ a 2).h)]),(.agg [(.i .i64 f),(.i .i64 0),(.b (nB e))])]))) (some [(.agg [(.s .u8 c.b),(.i .i64 d.i),(.i .i64 d.h)]),(.agg [(.i .i64 f),(.i .i64 0),(.b (nB e))])])) (some [(.agg [(.s .u8 c.b),(.i .i64 d.i),(.i .i64 d.h)]),(.agg [(.i .i64 f),(.i .i64 0),(.b (nB e))])]))))
def zsa (c:Cur)(s:Cur)(a:Ctl):Prop:=(∃N,zAA N c=some (AV.agg (zb0 s)::[.agg (zoM a)]))/\(s.b=c.b/\0<=s.i)/\(True)
def zj4 (c:Cur)  : Bool:=wC (zsa c)
def zch (c:Cur)  : Cur:=wS (zsa c)
def zcB (c:Cur)  : Ctl:=wV (zsa c)
theorem z5n {c:Cur}(h:zj4 c=true):zsa c (zch c) (zcB c):=wG h
theorem zBR (c:Cur)  : 0<=(zch c).i:=wP fun h=>h.2.1.2
theorem z5o (c:Cur)(h:∃N,Ends (wE (fun a=>.agg (zoM a)) c.b fun a=>True) (zAA N c)):zj4 c=true:=wI (fun _ _ h=>h) h
def zCA:zdU:=rP0 fun c=>(zj4 c,zch c,[.agg (zoM (zcB c))])
theorem zQ8:zbP Tryz.prog 169 [false,true,true] zCA:=hP0 zfX zbg zY0 zo (zx []) (fun _ h=>(z5n h).1)
theorem z3G {c:Cur}(h:zbc c):zj4 c=true:=by
 refine z5o c ⟨0,?_⟩;unfold zAA oN nB;conv=>zeta
 refine zGO (zGO (zbp (fun _=>zbp (fun _=>zGO (zbp (fun _=>zGO (?_)) (fun _=>?_))) (fun _=>?_)) (fun _=>?_)));all_goals exact zbJ (fun x=>AV.agg (zoM x)) (v:=⟨_,_,_⟩) (by first|exact zJ _ _|exact zb6 _ _) trivial
def zbck:zcN:=[(169,([false,true,true],zCA))]++zbcj
theorem zLw:zb2 zbck:=zcs zY0 (by
 intro x a;simp only[qG,qN,or_false]at a;rcases a with rfl
 .exact zQ8)
theorem zd4 {c:Type}{G:c->Prop}{x:Bool}{a b:Option c}(k:Ends G a)(h:x=true:=by first
 |exact zbx (by first|assumption|exact zbL (by assumption) (zJ _ _)|exact zbL (by assumption) (zb1 _ _)) _
 |exact zeQ (by first|assumption|exact zbL (by assumption) (zJ _ _)) (by simp)
 |exact z3G (zbL (by assumption) (zJ _ _))):Ends G (cond x a b):=zq h k
def zAG (N:Nat)(c:Cur)  : OA :=
 let m:=({ (zf c 2) with b:=c.b}:Cur);let g:=(zk c 2);let f:=(zk m 2);let u:=({ (zf m 2) with b:=c.b}:Cur);let e:=(zf u 24);let d:=(zk u 24);let a:=({e with b:=c.b}:Cur);let j:=(zf a 8);let l:=({ (zf a 4) with b:=c.b}:Cur);let k:=({j with b:=c.b}:Cur);let t:=({ (zf a 16) with b:=c.b}:Cur);let r:=({ (zZ a [16,17]) with b:=c.b}:Cur);let q:=({ (zZ a [13,13,14,15]) with b:=c.b}:Cur);let p:=({ (zf k 4) with b:=c.b}:Cur);let n:=({ (zf l 8) with b:=c.b}:Cur); (share (oN (zbq a [13,13,14,15]) (oN (zD q 8) (some [(.agg [(.s .u8 c.b),(.i .i64 (zf q 8).i),(.i .i64 (zf q 8).h)]),(.agg [(.i .i64 (zbk a [13,13,14,15])),(.i .i64 g),(.i .i64 f),(.i .i64 (zk q 8)),(.i .i64 0),(.i .i64 0)])]))) (fun A=>(share (cond (ieq d 16) (oN (zbq a [16,17]) (oN (zD r 4) (some [(.agg [(.s .u8 c.b),(.i .i64 (zf r 4).i),(.i .i64 (zf r 4).h)]),(.agg [(.i .i64 (zbk a [16,17])),(.i .i64 g),(.i .i64 f),(.i .i64 (zk r 4)),(.i .i64 0),(.i .i64 0)])]))) (some [(.agg [(.s .u8 c.b),(.i .i64 e.i),(.i .i64 e.h)]),(.agg [(.i .i64 1),(.i .i64 g),(.i .i64 f),(.i .i64 0),(.i .i64 0),(.i .i64 0)])])) (fun z=>(share (oN (zD a 4) (oN (zD l 8) (oN (zbq n [3,3,1,2]) (some [(.agg [(.s .u8 c.b),(.i .i64 (zZ n [3,3,1,2]).i),(.i .i64 (zZ n [3,3,1,2]).h)]),(.agg [(.i .i64 2),(.i .i64 g),(.i .i64 f),(.i .i64 (zk a 4)),(.i .i64 (zk l 8)),(.i .i64 (zbk n [3,3,1,2]))])])))) (fun y=>(share (oN (zD a 4) (some [(.agg [(.s .u8 c.b),(.i .i64 (zf a 4).i),(.i .i64 (zf a 4).h)]),(.agg [(.i .i64 3),(.i .i64 g),(.i .i64 f),(.i .i64 (zk a 4)),(.i .i64 0),(.i .i64 0)])])) (fun x=>(share (cond (ieq d 7) (oN (zD a 8) (some [(.agg [(.s .u8 c.b),(.i .i64 j.i),(.i .i64 j.h)]),(.agg [(.i .i64 6),(.i .i64 g),(.i .i64 f),(.i .i64 (zk a 8)),(.i .i64 0),(.i .i64 0)])])) (cond (ieq d 8) (oN (zj4 a) (cond ((zcB a).Open) (some [(.agg [(.s .u8 c.b),(.i .i64 (zch a).i),(.i .i64 (zch a).h)]),(.agg [(.i .i64 7),(.i .i64 g),(.i .i64 f),(.i .i64 (zcB a).Traps),(.i .i64 (zcB a).Post),(.i .i64 1)])]) (some [(.agg [(.s .u8 c.b),(.i .i64 (zch a).i),(.i .i64 (zch a).h)]),(.agg [(.i .i64 7),(.i .i64 g),(.i .i64 f),(.i .i64 (zcB a).Traps),(.i .i64 (zcB a).Post),(.i .i64 0)])]))) (cond (ieq d 9) (oN (zD a 8) (oN (zD k 4) (oN (zD p 100) (some [(.agg [(.s .u8 c.b),(.i .i64 (zf p 100).i),(.i .i64 (zf p 100).h)]),(.agg [(.i .i64 8),(.i .i64 g),(.i .i64 f),(.i .i64 (zk a 8)),(.i .i64 (zk k 4)),(.i .i64 (zk p 100))])])))) (cond (ieq d 10) (oN (zD a 8) (some [(.agg [(.s .u8 c.b),(.i .i64 j.i),(.i .i64 j.h)]),(.agg [(.i .i64 9),(.i .i64 g),(.i .i64 f),(.i .i64 (zk a 8)),(.i .i64 0),(.i .i64 0)])])) (cond (ieq d 11) (some [(.agg [(.s .u8 c.b),(.i .i64 e.i),(.i .i64 e.h)]),(.agg [(.i .i64 10),(.i .i64 g),(.i .i64 f),(.i .i64 0),(.i .i64 0),(.i .i64 0)])]) (cond (ieq d 12) (oN (zD a 16) (oN (zD t 100) (some [(.agg [(.s .u8 c.b),(.i .i64 (zf t 100).i),(.i .i64 (zf t 100).h)]),(.agg [(.i .i64 11),(.i .i64 g),(.i .i64 f),(.i .i64 (zk a 16)),(.i .i64 (zk t 100)),(.i .i64 0)])]))) (cond (ieq d 13) (oN (zD a 16) (some [(.agg [(.s .u8 c.b),(.i .i64 (zf a 16).i),(.i .i64 (zf a 16).h)]),(.agg [(.i .i64 12),(.i .i64 g),(.i .i64 f),(.i .i64 (zk a 16)),(.i .i64 0),(.i .i64 0)])])) (cond (ieq d 14) (cond (ieq d 14) A z) (cond (ieq d 15) A z))))))))) (fun v=>(share (cond (ieq d 4) (oN (zD a 100) (some [(.agg [(.s .u8 c.b),(.i .i64 (zf a 100).i),(.i .i64 (zf a 100).h)]),(.agg [(.i .i64 4),(.i .i64 g),(.i .i64 f),(.i .i64 (zk a 100)),(.i .i64 0),(.i .i64 0)])])) (cond (ieq d 5) (cond (ieq d 5) (some [(.agg [(.s .u8 c.b),(.i .i64 e.i),(.i .i64 e.h)]),(.agg [(.i .i64 5),(.i .i64 g),(.i .i64 f),(.i .i64 0),(.i .i64 0),(.i .i64 0)])]) v) (cond (ieq d 6) (some [(.agg [(.s .u8 c.b),(.i .i64 e.i),(.i .i64 e.h)]),(.agg [(.i .i64 5),(.i .i64 g),(.i .i64 f),(.i .i64 0),(.i .i64 0),(.i .i64 0)])]) v))) (fun w=>(share (cond (ieq d 2) (cond (ieq d 2) x w) (cond (ieq d 3) x w)) (fun B=>(oN (zD c 2) (oN (zD m 2) (oN (zD u 24) (cond (ieq d 0) (cond (ieq d 0) y B) (cond (ieq d 1) y B)))))))))))))))))))
def zsf (c:Cur)(s:Cur)(a:GAct):Prop:=(∃N,zAG N c=some (AV.agg (zb0 s)::[aT .act a]))/\(s.b=c.b/\0<=s.i)/\(True)
def zg7 (c:Cur)  : Bool:=wC (zsf c)
def zgm (c:Cur)  : Cur:=wS (zsf c)
def ziM (c:Cur)  : GAct:=wV (zsf c)
theorem z5x {c:Cur}(h:zg7 c=true):zsf c (zgm c) (ziM c):=wG h
theorem zPn (c:Cur)  : 0<=(zgm c).i:=wP fun h=>h.2.1.2
theorem z5y (c:Cur)(h:∃N,Ends (wE (fun a=>aT .act a) c.b fun a=>True) (zAG N c)):zg7 c=true:=wI (fun _ _ h=>h) h
def zCF:zdU:=rP0 fun c=>(zg7 c,zgm c,[aT .act (ziM c)])
theorem zRg:zbP Tryz.prog 93 [false,true,true] zCF:=hP0 zfX zbg zLw zo (zx []) (fun _ h=>(z5x h).1)
theorem zbaY {c:Cur}(h:zbc c):zg7 c=true:=by
 refine z5y c ⟨0,?_⟩;unfold zAG oN;conv=>zeta
 refine znL (zd4 (zd4 (?_))) (fun _ g=>znL (zbp (fun _=>zd4 (zd4 (?_))) (fun _=>?_)) (fun _ f=>znL (zd4 (zd4 (zd4 (?_)))) (fun _ e=>znL (zd4 (?_)) (fun _ d=>znL (zbp (fun _=>zd4 (?_)) (fun _=>zbp (fun _=>zd4 (zbp (fun _=>?_) (fun _=>?_))) (fun _=>zbp (fun _=>zd4 (zd4 (zd4 (?_)))) (fun _=>zbp (fun _=>zd4 (?_)) (fun _=>zbp (fun _=>?_) (fun _=>zbp (fun _=>zd4 (zd4 (?_))) (fun _=>zbp (fun _=>zd4 (?_)) (fun _=>zbp (fun _=>zbp (fun _=>g) (fun _=>f)) (fun _=>zbp (fun _=>g) (fun _=>f)))))))))) (fun _ a=>znL (zbp (fun _=>zd4 (?_)) (fun _=>zbp (fun _=>zbp (fun _=>?_) (fun _=>a)) (fun _=>zbp (fun _=>?_) (fun _=>a)))) (fun _ b=>znL (zbp (fun _=>zbp (fun _=>d) (fun _=>b)) (fun _=>zbp (fun _=>d) (fun _=>b))) (fun _ i=>zd4 (zd4 (zd4 (zbp (fun _=>zbp (fun _=>e) (fun _=>i)) (fun _=>zbp (fun _=>e) (fun _=>i))))))))))));all_goals exact zbJ (aT .act) (v:=⟨_,_,_,_,_,_⟩) (by first|exact zJ _ _|exact zb1 _ _|exact zBR _) trivial
def zk2 (N:Nat)  : OA :=
 (iter (σ:=(Int×(lA×Unit))) N (fun e c=>(cond (ilt c.1 2) (iter (σ:=(Int×(Int×(lA×Unit)))) N (fun f b=>(cond (ilt b.2.1 2) (iter (σ:=(Int×(Int×(Int×(lA×Unit))))) N (fun g a=>let d:=(ap a.2.2.2.1 [(⟨2,a.1,a.2.1,a.2.2.1,(zL .i64 a.2.2.1 (zkS .i64 3 a.2.1)),3⟩:GAct),(⟨3,a.1,a.2.1,a.2.2.1,0,0⟩:GAct)]); (cond (ilt a.2.2.1 3) (oN (few (ln d)) (g (a.1,(a.2.1,((zL .i64 a.2.2.1 1),(d,())))))) (f (a.1,((zL .i64 a.2.1 1),(a.2.2.2.1,())))))) (b.1,(b.2.1,(0,(b.2.2.1,()))))) (e ((zL .i64 b.1 1),(b.2.2.1,()))))) (c.1,(0,(c.2.1,())))) (some [(aS .act c.2.1)]))) (0,([],())))
def zSE:FuncId->Nat->Option Tmpl:=zx [(115,0,{n:=34,tm:=[(1,.sl 0 []),(2,ti)],lo:=[],ro:=[(0,.act,true)]}),(115,2,{n:=34,tm:=[(1,.sl 0 []),(2,ti),(3,ti)],lo:=[],ro:=[(0,.act,true)]}),(115,4,{n:=34,tm:=[(1,.sl 0 []),(2,ti),(3,ti),(4,ti)],lo:=[],ro:=[(0,.act,true)]})]
def zty  (a:List GAct):Prop:=(∃N,zk2 N=some [aS .act a])/\(a.length<=45)
def zjk  : Bool:=uC (T:=List GAct) (fun r=>zty r)
def zZz  : List GAct:=uV (fun r=>zty r)
def zuq  : List GAct:=(zZz)
theorem zGq  (h:zjk=true):zty zuq:=uG h
theorem zZy  (h:∃N,Ends (fun a=>∃b,a=[aS .act b]/\(b.length<=45)) (zk2 N)):zjk=true:=by obtain⟨N,a,e,b,rfl,h⟩:=h;exact zby ⟨b,⟨N,e⟩,h⟩
def zAe:Run:=rF0 (zjk,[aS .act zuq])
theorem zRY  (a:zjk=true):∃N,zk2 N  = some [aS .act zuq]:=by exact(zGq a).1
theorem zKZ:vL 115 zAe:=kF0 zfX zbg zLw zo zSE zRY
def z6e:List GAct:=match zk2 10 with
 |some [.one (.s .act l)]=>l
 |_=>[]
theorem z2h:zjk=true:=zZy ⟨10,_,(by kernel_rfl:zk2 10=some [aS .act z6e]),z6e,rfl,Nat.le_of_ble_eq_true (by kernel_rfl)⟩
def zbcl:zcN:=[(93,([false,true,true],zCF))]++zbck
theorem zY1:zb2 zbcl:=zcs zLw (by
 intro x a;simp only[qG,qN,or_false]at a;rcases a with rfl
 .exact zRg)
def zbeA:zbb:=[(115,zAe)]++z3H
theorem z6i:zM zbeA:=zi zKZ zfX
theorem zTH {c:Cur}(h:zbc c){m:Int}(e:0<=m)(J:m<=1000){G:Ans->Prop}{R:Cur->List GAct->Ans}(D:∀s l,s.b=c.b->0<=s.i->ln l<=45+m->G (R s l)){F:(Int×Int×Int×Int×List GAct×List Int×Unit->OA)->Int×Int×Int×Int×List GAct×List Int×Unit->OA}(C:∀rec t i k l,F rec (m,t,i,k,l,c.b,())=bif zD ⟨c.b,i,k⟩ (zL .i64 m 1) then (bif ilt t (zk ⟨c.b,i,k⟩ (zL .i64 m 1)) then (bif zg7 { zf ⟨c.b,i,k⟩ (zL .i64 m 1) with b:=c.b } then (bif few (ln (ap l [ziM { zf ⟨c.b,i,k⟩ (zL .i64 m 1) with b:=c.b }])) then
        rec (m,zL .i64 t 1,(zgm {zf ⟨c.b,i,k⟩ (zL .i64 m 1) with b:=c.b}).i,(zgm {zf ⟨c.b,i,k⟩ (zL .i64 m 1) with b:=c.b}).h,ap l [ziM {zf ⟨c.b,i,k⟩ (zL .i64 m 1) with b:=c.b}],c.b,()) else none) else none) else some (R ⟨c.b,(zf ⟨c.b,i,k⟩ (zL .i64 m 1)).i,(zf ⟨c.b,i,k⟩ (zL .i64 m 1)).h⟩ l)) else none){w I:Int}(f:0<=w){g:List GAct}(E:g.length<=45):Ends G (iter 1002 F (m,0,w,I,g,c.b,())):=by
 refine zka (fun n s=>s.1=m/\s.2.1+(n:Int)=1000/\0<=s.2.1/\0<=s.2.2.1/\(ln s.2.2.2.2.1<=45+s.2.1/\s.2.1<=m)/\s.2.2.2.2.2.1=c.b) ?_ 1002 1000 _ ⟨rfl,rfl,kD 0,f,⟨by unfold ln;show ((g.length:Nat):Int)<=45+0;omega,e⟩,rfl⟩ (by omega)
 rintro n ⟨q,t,i,k,l,b,u⟩ rec ⟨e,z,j,p,⟨A,H⟩,r⟩ d
 dsimp only at e z j p A r H
 subst r;subst e;rw[C];have a:zbc ⟨c.b,i,k⟩:=zbL h p;have L:=zhx (x:=q) (y:=1) (by omega) (by omega) (by omega) (by omega)
 have M:=zfu a (n:=zL .i64 q 1) (by omega)
 have B:zbc {zf ⟨c.b,i,k⟩ (zL .i64 q 1) with b:=c.b}:=zbL h (zJ _ _);refine zq (zbx a _) (zbp (fun v=>?_) (fun v=>?_))
 .have hlt:t<zk ⟨c.b,i,k⟩ (zL .i64 q 1):=qD v;have K:=zhx (y:=1) j (by omega) (by omega) (by omega)
  refine zq (zbaY B) (zq (zkb (by rw[zg3];omega)) (d (n-1) _ (by omega) ⟨rfl,?_,?_,zPn _,⟨?_,?_⟩,rfl⟩))
  .show zL .i64 t 1+_=1000
   omega
  .show 0<=zL .i64 t 1
   omega
  .show ln (ap l [_])<=45+zL .i64 t 1
   rw[zg3];omega
  .show zL .i64 t 1<=q
   omega
 .refine zhB (D _ l rfl (zJ _ _) ?_);omega
def zx9 (N:Nat)(c:Cur)(p:Int):OA:=
 (oN (zcK c 5) (cond (nB (zcT c 5)) (oN zjk (iter (σ:=(Int×(Int×(Int×(Int×(lA×((List Int)×Unit))))))) N (fun n a=>let l:=a.2.2.2.2.2.1;let f:=(zL .i64 a.1 1);let d:=(⟨l,a.2.2.1,a.2.2.2.1⟩:Cur);let j:=({ (zf d f) with b:=l}:Cur);let q:=(ap a.2.2.2.2.1 [(ziM j)]); (oN (zD d f) (cond (ilt a.2.1 (zk d f)) (oN (zg7 j) (oN (few (ln q)) (n (a.1,((zL .i64 a.2.1 1),((zgm j).i,((zgm j).h,(q,(l,()))))))))) (some [(.agg [(.s .u8 l),(.i .i64 (zf d f).i),(.i .i64 (zf d f).h)]),(aS .act a.2.2.2.2.1)])))) (p,(0,((zQ c 5).i,((zQ c 5).h,(zuq,(c.b,())))))))) (iter (σ:=(Int×(Int×(Int×(Int×(lA×((List Int)×Unit))))))) N (fun n a=>let m:=a.2.2.2.2.2.1;let g:=(zL .i64 a.1 1);let e:=(⟨m,a.2.2.1,a.2.2.2.1⟩:Cur);let k:=({ (zf e g) with b:=m}:Cur);let r:=(ap a.2.2.2.2.1 [(ziM k)]); (oN (zD e g) (cond (ilt a.2.1 (zk e g)) (oN (zg7 k) (oN (few (ln r)) (n (a.1,((zL .i64 a.2.1 1),((zgm k).i,((zgm k).h,(r,(m,()))))))))) (some [(.agg [(.s .u8 m),(.i .i64 (zf e g).i),(.i .i64 (zf e g).h)]),(aS .act a.2.2.2.2.1)])))) (p,(0,((zQ c 5).i,((zQ c 5).h,([],(c.b,())))))))))
def zVX:FuncId->Nat->Option Tmpl:=zx [(53,0,{n:=26,tm:=[(0,.lp 0 0),(1,ti),(5,.sl 0 []),(6,ti)],lo:=[(0,[.sl 1 [],ti,ti])],ro:=[(0,.act,true),(1,.u8,false)]})]
def zqf (c:Cur)(a:Int)(s:Cur)(d:List GAct):Prop:=(∃N,zx9 N c a=some (AV.agg (zb0 s)::[aS .act d]))/\(s.b=c.b/\0<=s.i)/\(ln d<=45+a)
def znp (c:Cur)(a:Int):Bool:=wC (zqf c a)
def znq (c:Cur)(a:Int):Cur:=wS (zqf c a)
def zsN (c:Cur)(a:Int):List GAct:=wV (zqf c a)
theorem zJD {c:Cur}{a:Int}(h:znp c a=true):zqf c a (znq c a) (zsN c a):=wG h
theorem z1N (c:Cur)(a:Int):0<=(znq c a).i:=wP fun h=>h.2.1.2
theorem z1M (c:Cur)(a:Int)(h:∃N,Ends (wE (fun d=>aS .act d) c.b fun d=>ln d<=45+a) (zx9 N c a)):znp c a=true:=wI (fun _ _ h=>h) h
def zzI:zdU:=rP1 dI fun c b=>(znp c b,znq c b,[aS .act (zsN c b)])
theorem zOi:zbP Tryz.prog 53 [false,true,true] zzI:=hP1 z6i zbg zY1 zo zVX (fun _ _ h=>(zJD h).1)
theorem z5V {c:Cur}(h:zbc c){m:Int}(e:0<=m)(f:m<=1000):znp c m=true:=by
 refine z1M c m ⟨1002,?_⟩;unfold zx9 oN nB;conv=>zeta
 have g:=zGq z2h;exact zq (zii h 5) (zbp (fun _=>zq z2h (zTH h e f (R:=fun s l=>AV.agg (zb0 s)::[aS .act l]) (fun s l a b d=>⟨s,l,rfl,⟨a,b⟩,d⟩) (fun rec t i k l=>rfl) (zb6 _ _) g.2)) (fun _=>zTH h e f (R:=fun s l=>AV.agg (zb0 s)::[aS .act l]) (fun s l a b d=>⟨s,l,rfl,⟨a,b⟩,d⟩) (fun rec t i k l=>rfl) (zb6 _ _) (jZ _)))
def zbcm:zcN:=[(53,([false,true,true],zzI))]++zbcl
theorem zY2:zb2 zbcm:=zcs zY1 (by
 intro x a;simp only[qG,qN,or_false]at a;rcases a with rfl
 .exact zOi)
@[simp] abbrev zge (l:List (List Int)):Bool:=pc (SmM l)
@[simp] abbrev zdH (l:List (List Int)):List (List Int):=l
def zCQ:Run:=rF1 (dS (.sl .int)) fun b=>(zge b,[aS (.sl .int) (zdH b)])
def zIk (N:Nat)(c:lM):OA:=
 (iter (σ:=(Int×(Int×(lM×(lM×Unit))))) N (fun d a=>let b:=(ix a.2.2.2.1 a.2.1 []); (cond (ilt a.2.1 a.1) (oN (inb a.2.1 (ln a.2.2.2.1)) (oN (zdP b) (oN (few (ln (ap a.2.2.1 [(zdK b)]))) (d (a.1,((zL .i64 a.2.1 1),((ap a.2.2.1 [(zdK b)]),(a.2.2.2.1,())))))))) (some [(aS (.sl .int) a.2.2.1)]))) ((ln c),(0,([],(c,())))))
def zVO:FuncId->Nat->Option Tmpl:=zx [(123,0,{n:=20,tm:=[(3,.sl 0 []),(7,.sl 1 []),(8,ti),(9,ti)],lo:=[],ro:=[(0,(.sl .int),true),(1,(.sl .int),false)]})]
theorem zUZ (a:List (List Int))(g:zge a=true):∃N,zIk N a=some [aS (.sl .int) (zdH a)]:=by
 have f:=zN.1 g;have e:=zc5 f.1;refine zcw fun N d=>?_;unfold zIk oN;conv=>zeta
 refine(zbj a (fun i (t:lM)=>((ln a),(i:Int),t,a,())) _ (fun _ x b j=>bif zdP x then (cond (few (ln (ap b [zdK x]))) (j (ap b [zdK x])) none) else none) (fun (t:lM)=>(some [(.one (.s (.sl .int) t))])) (fun i c t rec=>?_) (fun t rec=>?_) _ ([]) (d e.1)).trans ?_;{simp only [zbS c,zbl c,zbv c,zbh c e.1,cT]};{simp only [zbK,cF]};exact zjB zdP zdK _ a 0 [] (fun x h=>⟨by exact zby (qU (f.2 x h) (by decide)),rfl⟩) (by simpa using e.2)
theorem zNE:vL 123 zCQ:=kF1 zfZ zu zA zo zVO zUZ
@[simp] abbrev zdM (g:Guest):Bool:=pc (SmG g)
@[simp] abbrev zcJ (g:Guest):Guest:=g
def zxd:Run:=rF1 (dT .guest) fun b=>(zdM b,[aT .guest (zcJ b)])
def zCf (N:Nat)(a:Guest):OA:=
 (oN (zvn a.Prog) (oN (zgQ a.Written) (oN (zgQ a.Live) (oN (zdP a.Seen) (some [(aT .guest ({a with Prog:=(zpa a.Prog),Written:=(zfj a.Written),Live:=(zfj a.Live),Seen:=(zdK a.Seen)}:Guest))])))))
theorem zOz (a:Guest)(b:zdM a=true):∃N,zCf N a=some [aT .guest (zcJ a)]:=by have c:=zN.1 b;obtain⟨h,i,j,k⟩:=c;have d:a.Prog.length<=2147483648:=(by omega);have e:a.Written.length<=2147483648:=(by omega);have f:a.Live.length<=2147483648:=(by omega);have g:a.Seen.length<=2147483648:=(by omega);refine⟨0,?_⟩;unfold zCf oN;refine mu (mu (mu (mu ?_)));first|rfl|(simp only [*,zcJ,cT,cF]<;>rfl)|simp_all[Ty.cells,zcJ]
theorem zHq:vL 178 zxd:=kF1 zfZ zu zA zo (zx []) zOz
def zd2 (t:List Slot)(p n:Int):Bool:=bif ieq (zbu t p).Page (-1) then false else (cond (enough (zbu t p).Rights n) (win n 1 3) false)
def zcb (t:List Slot)(p n:Int):Int:=bif zd2 t p n then (zbu t p).Page else -1
theorem zban {r:Int}(h:zcS r=true):0<=r/\r<=3:=ze4.1 h
theorem z3Z {a n:Int}(h:enough a n=true):win n 1 3 = !ieq n 0:=by unfold enough at h;cases b:zcS a;{rw [b]at h;cases h};{cases c:zcS n;{rw [b,c]at h;cases h};{have:=zban c;have e:(win n 1 3=true)↔(!ieq n 0)=true:=(by rw[ze4];simp[ieq];omega);cases d:win n 1 3<;>cases f:(!ieq n 0)<;>simp_all}}
@[simp] abbrev zkf (t:List Slot)(p n:Int):Bool:=true
@[simp] abbrev zh1 (t:List Slot)(p n:Int):Int:=zcb t p n
@[simp] abbrev zgP (t:List Slot)(p n:Int):Bool:=zd2 t p n
def zxb:Run:=rF3 (dS .slot) dI dI fun b c d=>(zkf b c d,[aI (zh1 b c d),aB (zgP b c d)])
def zCd (N:Nat)(c:lS)(d a:Int):OA:=
 let b:=(zjL c d); (oN (zl9 c d) (cond (ieq b.Page (-1)) (some [(aI (-1)),(aB false)]) (oN (zdJ b.Rights a) (cond (nB (zea b.Rights a)) (some [(aI (-1)),(aB false)]) (oN (zbU a 1 3) (cond (nB (zcd a 1 3)) (some [(aI (-1)),(aB false)]) (some [(aI b.Page),(aB true)])))))))
theorem zOx (a:List Slot)(b c:Int)(d:zkf a b c=true):∃N,zCd N a b c=some [aI (zh1 a b c),aB (zgP a b c)]:=by
 refine⟨0,?_⟩;unfold zCd oN nB;conv=>zeta
 refine must rfl (br (fun _=>?_) (fun _=>must rfl (brN (fun _=>?_) (fun _=>must rfl (brN (fun _=>?_) (fun _=>?_))))));all_goals first|rfl|(simp only [*,zh1,zgP,zcb,zd2,cT,cF]<;>rfl)|simp_all[Ty.cells,zh1,zgP,zcb,zd2]
theorem zHo:vL 191 zxb:=kF3 zfZ zu zA zo (zx []) zOx
@[simp] abbrev ztx (t:List Slot)(p n:Int):Bool:=true
@[simp] abbrev zkk (t:List Slot)(p n:Int):Int:=zcb t p n
@[simp] abbrev zkl (t:List Slot)(p n:Int):Bool:=zd2 t p n
def zxm:Run:=rF3 (dS .slot) dI dI fun b c d=>(ztx b c d,[aI (zkk b c d),aB (zkl b c d)])
def zCp (N:Nat)(c:lS)(d b:Int):OA:=
 let a:=(zjY c d); (oN (zpP c d) (cond (ieq a.Page (-1)) (some [(aI (-1)),(aB false)]) (oN (zg4 a.Rights b) (cond (nB (zhL a.Rights b)) (some [(aI (-1)),(aB false)]) (cond (ieq b 0) (some [(aI (-1)),(aB false)]) (some [(aI a.Page),(aB true)]))))))
theorem zOK (a:List Slot)(b c:Int)(d:ztx a b c=true):∃N,zCp N a b c=some [aI (zkk a b c),aB (zkl a b c)]:=by
 have e:=@z3Z (zbu a b).Rights c;refine⟨0,?_⟩;unfold zCp oN nB;conv=>zeta
 refine must rfl (br (fun _=>?_) (fun _=>must rfl (brN (fun _=>?_) (fun _=>br (fun _=>?_) (fun _=>?_)))));all_goals first|rfl|(simp only [*,zkk,zkl,zcb,zd2,cT,cF]<;>rfl)|simp_all[Ty.cells,zkk,zkl,zcb,zd2]
theorem zHz:vL 306 zxm:=kF3 zfZ zu zA zo (zx []) zOK
def zbbM:zbb:=[(314,zhU),(123,zCQ),(178,zxd),(306,zxm),(191,zxb),(86,zJp),(170,zJf),(224,zF2),(311,zFC),(225,zJm),(312,zJc),(114,zF6),(261,zFI)]++zbbL
theorem zf0:zM zbbM:=zi zol (zi zNE (zi zHq (zi zHz (zi zHo (zi zUB (zi zUq (zi zQW (zi zQw (zi zUy (zi zUn (zi zQ0 (zi zQC zfZ))))))))))))
@[simp] abbrev zjd (m:List (List Int))(p c v:Int):Bool:=pc (SmM m)
@[simp] abbrev zj0 (m:List (List Int))(p c v:Int):List (List Int):=zbF m p c v
def zAb:Run:=rF4 (dS (.sl .int)) dI dI dI fun b c d e=>(zjd b c d e,[aS (.sl .int) (zj0 b c d e)])
def zEe (N:Nat)(c:lM)(a d e:Int):OA:=
 let b:=(zeL c); (oN (zgi c) (oN (zul c a d) (cond (zq8 c a d) (oN (zO e 0 99) (cond (zU e 0 99) (oN (inb a (ln b)) (oN (inb d (ln (ix b a []))) (share (up b a (up (ix b a []) d e)) (fun f=>(some [(aS (.sl .int) f)]))))) (some [(aS (.sl .int) b)]))) (some [(aS (.sl .int) b)]))))
theorem zRV (a:List (List Int))(b c d:Int)(e:zjd a b c d=true):∃N,zEe N a b c d=some [aS (.sl .int) (zj0 a b c d)]:=by
 have g:=zN.1 e;have f:=(zBw a b c).1;refine⟨0,?_⟩;unfold zEe oN;conv=>zeta
 refine mu (must rfl (br (fun _=>must rfl (br (fun _=>mu (mu (shr ?_))) (fun _=>?_))) (fun _=>?_)));all_goals first|rfl|(simp only [*,zj0,zbF,cT,cF]<;>rfl)|simp_all[Ty.cells,zj0,zbF]
theorem zKQ:vL 251 zAb:=kF4 zf0 zu zA zo (zx []) zRV
@[simp] abbrev zlj (m:List (List Int))(p c v:Int):Bool:=pc (SmM m)
@[simp] abbrev zmb (m:List (List Int))(p c v:Int):List (List Int):=zbF m p c v
def zzS:Run:=rF4 (dS (.sl .int)) dI dI dI fun b c d e=>(zlj b c d e,[aS (.sl .int) (zmb b c d e)])
def zDR (N:Nat)(a:lM)(b c d:Int):OA:=
 let e:=(aS (.sl .int) (zdH a)); (oN (zge a) (oN (zcc b (ln a)) (cond (zcU b (ln a)) (oN (inb b (ln a)) (oN (zcc c (ln (ix a b []))) (cond (zcU c (ln (ix a b []))) (oN (zbU d 0 99) (cond (zcd d 0 99) (oN (inb b (ln (zdH a))) (oN (inb c (ln (ix (zdH a) b []))) (share (up (zdH a) b (up (ix (zdH a) b []) c d)) (fun f=>(some [(aS (.sl .int) f)]))))) (some [e]))) (some [e])))) (some [e]))))
theorem zRw (a:List (List Int))(b c d:Int)(e:zlj a b c d=true):∃N,zDR N a b c d=some [aS (.sl .int) (zmb a b c d)]:=by
 have f:=zN.1 e;refine⟨0,?_⟩;unfold zDR oN;conv=>zeta
 refine mu (must rfl (br (fun _=>mu (must rfl (br (fun _=>must rfl (br (fun _=>mu (mu (shr ?_))) (fun _=>?_))) (fun _=>?_)))) (fun _=>?_)));all_goals first|rfl|(simp only [*,zmb,zbF,zfT,cT,cF]<;>rfl)|simp_all[Ty.cells,zmb,zbF,zfT]
theorem zKv:vL 106 zzS:=kF4 zf0 zu zA zo (zx []) zRw
def zdp (g:Guest):Bool:=bif canRun g then (cond g.Ctl.Open (ige (zc6 g.Pending) 0) false) else false
@[simp] abbrev zlE (g:Guest):Bool:=true
@[simp] abbrev zjZ (g:Guest):Bool:=zdp g
def zqY:Run:=rF1 (dT .guest) fun b=>(zlE b,[aB (zjZ b)])
def zEd (N:Nat)(a:Guest):OA:=
 (oN (zil a) (cond (zn3 a) (cond a.Ctl.Open (oN (zuj a.Pending) (some [(aB (ige (zn7 a.Pending) 0))])) oF) oF))
theorem zRU (a:Guest)(b:zlE a=true):∃N,zEd N a=some [aB (zjZ a)]:=by refine⟨0,?_⟩;unfold zEd oN;refine must rfl (br (fun _=>br (fun _=>must rfl ?_) (fun _=>?_)) (fun _=>?_));all_goals first|rfl|(simp only [*,zjZ,zdp,cT,cF]<;>rfl)|simp_all[Ty.cells,zjZ,zdp]
theorem zvd:vL 44 zqY:=kF1 zf0 zu zA zo (zx []) zRU
@[simp] abbrev zo8 (g:Guest):Bool:=true
@[simp] abbrev zma (g:Guest):Bool:=zdp g
def zzR:Run:=rF1 (dT .guest) fun b=>(zo8 b,[aB (zma b)])
def zDQ (N:Nat)(a:Guest):OA:=
 (oN (ztV a) (cond (zqF a) (cond a.Ctl.Open (oN (zt0 a.Pending) (some [(aB (ige (znU a.Pending) 0))])) oF) oF))
theorem zRv (a:Guest)(b:zo8 a=true):∃N,zDQ N a=some [aB (zma a)]:=by refine⟨0,?_⟩;unfold zDQ oN;refine must rfl (br (fun _=>br (fun _=>must rfl ?_) (fun _=>?_)) (fun _=>?_));all_goals first|rfl|(simp only [*,zma,zdp,cT,cF]<;>rfl)|simp_all[Ty.cells,zma,zdp]
theorem zKu:vL 175 zzR:=kF1 zf0 zu zA zo (zx []) zRv
def zf3 (p:Int):Int:=bif ilt (zc6 p) 0 then p else wsub .i64 p (zlQ .i64 1 (zc6 p))
def zm2 (p:Int):Int:=bif ilt (zc6 p) 0 then -1 else zc6 p
theorem zUe {p:Int}(h:ilt (zc6 p) 0=false):wcv .u64 (zc6 p)=zc6 p/\ile 0 (zc6 p)=true/\zB4 .i64 p (zlQ .i64 1 (zc6 p))=wsub .i64 p (zlQ .i64 1 (zc6 p)):=by unfold zc6 at *;cases a:zc3 p;{rw [a]at h;cases h};{simp only [a,cT]at h ⊢;obtain⟨c,d⟩:=ze4.1 a;have r:=zFd (P:=fun x=>-1<=scan x/\scan x<=7/\(0<=scan x->wsub .i64 x (zlQ .i64 1 (scan x))=zB4 .i64 x (zlQ .i64 1 (scan x)))) zZA c d;have b:0<=scan p:=(by unfold ilt at h;have:=jQ h;omega);exact⟨zSK b (by omega),qJ b,(r.2.2 b).symm⟩}
@[simp] abbrev zr1 (p:Int):Bool:=true
@[simp] abbrev zkM (p:Int):Int:=zf3 p
@[simp] abbrev zkN (p:Int):Int:=zm2 p
@[simp] abbrev znj (p:Int):Bool:=!ilt (zc6 p) 0
def zC9:Run:=rF1 dI fun b=>(zr1 b,[aI (zkM b),aI (zkN b),aB (znj b)])
def zII (N:Nat)(a:Int):OA:=
 (oN (zuj a) (cond (ilt (zn7 a) 0) (some [(aI a),(aI (-1)),(aB false)]) (oN (ile 0 (wcv .u64 (zn7 a))) (some [(aI (wsub .i64 a (zlQ .i64 1 (wcv .u64 (zn7 a))))),(aI (zn7 a)),(aB true)]))))
theorem zVp (a:Int)(b:zr1 a=true):∃N,zII N a=some [aI (zkM a),aI (zkN a),aB (znj a)]:=by have c:=@zUe a;refine⟨0,?_⟩;unfold zII oN;refine must rfl (br (fun _=>?_) (fun _=>mu ?_));all_goals first|rfl|(simp only [*,zkM,zkN,znj,zf3,zm2,cT,cF]<;>rfl)|simp_all[Ty.cells,zkM,zkN,znj,zf3,zm2]
theorem zNX:vL 287 zC9:=kF1 zf0 zu zA zo (zx []) zVp
@[simp] abbrev zym (p:Int):Bool:=true
@[simp] abbrev zmZ (p:Int):Int:=zf3 p
@[simp] abbrev zm0 (p:Int):Int:=zm2 p
@[simp] abbrev zrA (p:Int):Bool:=!ilt (zc6 p) 0
def zCP:Run:=rF1 dI fun b=>(zym b,[aI (zmZ b),aI (zm0 b),aB (zrA b)])
def zIj (N:Nat)(a:Int):OA:=
 (oN (zt0 a) (cond (ilt (znU a) 0) (some [(aI a),(aI (-1)),(aB false)]) (oN (ile 0 (znU a)) (some [(aI (zB4 .i64 a (zlQ .i64 1 (znU a)))),(aI (znU a)),(aB true)]))))
theorem zUY (a:Int)(b:zym a=true):∃N,zIj N a=some [aI (zmZ a),aI (zm0 a),aB (zrA a)]:=by have c:=@zUe a;refine⟨0,?_⟩;unfold zIj oN;refine must rfl (br (fun _=>?_) (fun _=>mu ?_));all_goals first|rfl|(simp only [*,zmZ,zm0,zrA,zf3,zm2,cT,cF]<;>rfl)|simp_all[Ty.cells,zmZ,zm0,zrA,zf3,zm2]
theorem zND:vL 270 zCP:=kF1 zf0 zu zA zo (zx []) zUY
def saw (g:Guest)(n:Int):Guest:=bif ilt (ln g.Seen) 40 then {g with Seen:=ap g.Seen [n]} else g
@[simp] theorem zHd {g:Guest}(n:Int)(h:SmG g):SmG (saw g n):=by unfold saw;cases a:ilt (ln g.Seen) 40;{exact h};{have:=qD a;refine⟨h.1,h.2.1,h.2.2.1,?_⟩;simp[ln] at *;omega}
@[simp] abbrev zHb (g:Guest)(n:Int):Bool:=pc (SmG g)
@[simp] abbrev zBL (g:Guest)(n:Int):Guest:=saw g n
def zT3:Run:=rF2 (dT .guest) dI fun b c=>(zHb b c,[aT .guest (zBL b c)])
def z2f (N:Nat)(a:Guest)(b:Int):OA:=
 (oN (zdA a) (cond (ilt (ln (zdb a).Seen) 40) (oN (few (ln (ap (zdb a).Seen [b]))) (some [(aT .guest ({ (zdb a) with Seen:=(ap (zdb a).Seen [b])}:Guest))])) (some [(aT .guest (zdb a))])))
theorem z7t (a:Guest)(b:Int)(c:zHb a b=true):∃N,z2f N a b=some [aT .guest (zBL a b)]:=by have d:=zN.1 c;have e:a.Seen.length<=1048576:=d.2.2.2;refine⟨0,?_⟩;unfold z2f oN;refine mu (br (fun _=>mu ?_) (fun _=>?_));all_goals first|rfl|(simp only [*,zBL,saw,cT,cF]<;>rfl)|simp_all[Ty.cells,zBL,saw]
theorem z0S:vL 288 zT3:=kF2 zf0 zu zA zo (zx []) z7t
@[simp] abbrev zG0 (g:Guest)(n:Int):Bool:=pc (SmG g)
@[simp] abbrev zBf (g:Guest)(n:Int):Guest:=saw g n
def zTZ:Run:=rF2 (dT .guest) dI fun b c=>(zG0 b c,[aT .guest (zBf b c)])
def z2a (N:Nat)(a:Guest)(b:Int):OA:=
 (oN (zdM a) (cond (ilt (ln a.Seen) 40) (oN (few (ln (ap (zcJ a).Seen [b]))) (some [(aT .guest ({ (zcJ a) with Seen:=(ap (zcJ a).Seen [b])}:Guest))])) (some [(aT .guest (zcJ a))])))
theorem z7p (a:Guest)(b:Int)(c:zG0 a b=true):∃N,z2a N a b=some [aT .guest (zBf a b)]:=by have d:=zN.1 c;have e:a.Seen.length<=1048576:=d.2.2.2;refine⟨0,?_⟩;unfold z2a oN;refine mu (br (fun _=>mu ?_) (fun _=>?_));all_goals first|rfl|(simp only [*,zBf,saw,cT,cF]<;>rfl)|simp_all[Ty.cells,zBf,saw]
theorem z0O:vL 180 zTZ:=kF2 zf0 zu zA zo (zx []) z7p
def stopped (g:Guest)(e:GExit):Guest:={g with Exit:=e}
@[simp] theorem zbfi {g:Guest}(e:GExit)(h:SmG g):SmG (stopped g e):=h
@[simp] abbrev zet (g:Guest)(e:GExit):Bool:=pc (SmG g)
@[simp] abbrev zdW (g:Guest)(e:GExit):Guest:=stopped g e
def zC7:Run:=rF2 (dT .guest) dE fun b c=>(zet b c,[aT .guest (zdW b c)])
def zIG (N:Nat)(a:Guest)(b:GExit):OA:=
 (oN (zdA a) (some [(aT .guest ({ (zdb a) with Exit:=b}:Guest))]))
theorem zVn (a:Guest)(b:GExit)(c:zet a b=true):∃N,zIG N a b=some [aT .guest (zdW a b)]:=by have d:=zN.1 c;refine⟨0,?_⟩;unfold zIG oN;refine mu ?_;first|rfl|(simp only [*,zdW,stopped,cT,cF]<;>rfl)|simp_all[Ty.cells,zdW,stopped]
theorem zNV:vL 292 zC7:=kF2 zf0 zu zA zo (zx []) zVn
@[simp] abbrev zgd (g:Guest)(e:GExit):Bool:=pc (SmG g)
@[simp] abbrev zgt (g:Guest)(e:GExit):Guest:=stopped g e
def zCN:Run:=rF2 (dT .guest) dE fun b c=>(zgd b c,[aT .guest (zgt b c)])
def zIh (N:Nat)(a:Guest)(b:GExit):OA:=
 (oN (zdM a) (some [(aT .guest ({ (zcJ a) with Exit:=b}:Guest))]))
theorem zUW (a:Guest)(b:GExit)(c:zgd a b=true):∃N,zIh N a b=some [aT .guest (zgt a b)]:=by have d:=zN.1 c;refine⟨0,?_⟩;unfold zIh oN;refine mu ?_;first|rfl|(simp only [*,zgt,stopped,cT,cF]<;>rfl)|simp_all[Ty.cells,zgt,stopped]
theorem zNB:vL 104 zCN:=kF2 zf0 zu zA zo (zx []) zUW
def zbG (g:Guest):Guest:=bif ige g.Pc 12 then {g with Pc:=12} else {g with Pc:=zL .i64 g.Pc 1}
@[simp] theorem zlO {g:Guest}(h:SmG g):SmG (zbG g):=by unfold zbG;cases ige g.Pc 12<;>exact h
@[simp] abbrev zep (g:Guest):Bool:=pc (SmG g)
@[simp] abbrev zgJ (g:Guest):Guest:=zbG g
def zJs:Run:=rF1 (dT .guest) fun b=>(zep b,[aT .guest (zgJ b)])
def zS4 (N:Nat)(a:Guest):OA:=
 (oN (zdA a) (cond (ige (zdb a).Pc 12) (some [(aT .guest ({ (zdb a) with Pc:=12}:Guest))]) (some [(aT .guest ({ (zdb a) with Pc:=(zL .i64 (zdb a).Pc 1)}:Guest))])))
theorem z1c (a:Guest)(b:zep a=true):∃N,zS4 N a=some [aT .guest (zgJ a)]:=by have c:=zN.1 b;refine⟨0,?_⟩;unfold zS4 oN;refine mu (br (fun _=>?_) (fun _=>?_));all_goals first|rfl|(simp only [*,zgJ,zbG,cT,cF]<;>rfl)|simp_all[Ty.cells,zgJ,zbG]
theorem zUE:vL 289 zJs:=kF1 zf0 zu zA zo (zx []) z1c
@[simp] abbrev zeK (g:Guest):Bool:=pc (SmG g)
@[simp] abbrev zew (g:Guest):Guest:=zbG g
def zJi:Run:=rF1 (dT .guest) fun b=>(zeK b,[aT .guest (zew b)])
def zST (N:Nat)(a:Guest):OA:=
 (oN (zdM a) (cond (ige a.Pc 12) (some [(aT .guest ({ (zcJ a) with Pc:=12}:Guest))]) (some [(aT .guest ({ (zcJ a) with Pc:=(zL .i64 a.Pc 1)}:Guest))])))
theorem z00 (a:Guest)(b:zeK a=true):∃N,zST N a=some [aT .guest (zew a)]:=by have c:=zN.1 b;refine⟨0,?_⟩;unfold zST oN;refine mu (br (fun _=>?_) (fun _=>?_));all_goals first|rfl|(simp only [*,zew,zbG,cT,cF]<;>rfl)|simp_all[Ty.cells,zew,zbG]
theorem zUt:vL 179 zJi:=kF1 zf0 zu zA zo (zx []) z00
def zbbN:zbb:=[(251,zAb),(106,zzS),(44,zqY),(175,zzR),(287,zC9),(270,zCP),(288,zT3),(180,zTZ),(292,zC7),(104,zCN),(289,zJs),(179,zJi)]++zbbM
theorem zeF:zM zbbN:=zi zKQ (zi zKv (zi zvd (zi zKu (zi zNX (zi zND (zi z0S (zi z0O (zi zNV (zi zNB (zi zUE (zi zUt zf0)))))))))))
def interrupted (g:Guest):Guest:=bif zdp g then saw {g with Pending:=zf3 g.Pending} (zL .i64 100 (zm2 g.Pending)) else g
@[simp] theorem z3a {g:Guest}(h:SmG g):SmG (interrupted g):=by unfold interrupted;cases zdp g;{exact h};{exact zHd (g:={g with Pending:=zf3 g.Pending}) _ h}
@[simp] abbrev zpK (g:Guest):Bool:=pc (SmG g)
@[simp] abbrev zkj (g:Guest):Guest:=interrupted g
def ztN:Run:=rF1 (dT .guest) fun b=>(zpK b,[aT .guest (zkj b)])
def zwr (N:Nat)(a:Guest):OA:=
 let c:=(zL .i64 100 (zkN a.Pending));let b:=({a with Pending:=(zkM a.Pending)}:Guest); (oN (zlE a) (cond (nB (zjZ a)) (oN (zdA a) (some [(aT .guest (zdb a))])) (oN (zr1 a.Pending) (oN (zHb b c) (some [(aT .guest (zBL b c))])))))
theorem zHY (a:Guest)(b:zpK a=true):∃N,zwr N a=some [aT .guest (zkj a)]:=by
 have c:=zN.1 b;have d:_/\_/\_/\_:=c;refine⟨0,?_⟩;unfold zwr oN nB;conv=>zeta
 refine must rfl (brN (fun _=>mu ?_) (fun _=>must rfl (mu ?_)));all_goals first|rfl|(simp only [*,zkj,interrupted,cT,cF]<;>rfl)|simp_all[Ty.cells,zkj,interrupted]
theorem zDE:vL 235 ztN:=kF1 zeF zu zA zo (zx []) zHY
@[simp] abbrev zo0 (g:Guest):Bool:=pc (SmG g)
@[simp] abbrev zh0 (g:Guest):Guest:=interrupted g
def ztK:Run:=rF1 (dT .guest) fun b=>(zo0 b,[aT .guest (zh0 b)])
def zwg (N:Nat)(a:Guest):OA:=
 let c:=(zL .i64 100 (zm0 a.Pending));let b:=({a with Pending:=(zmZ a.Pending)}:Guest); (oN (zo8 a) (cond (nB (zma a)) (oN (zdM a) (some [(aT .guest (zcJ a))])) (oN (zym a.Pending) (oN (zG0 b c) (some [(aT .guest (zBf b c))])))))
theorem zHN (a:Guest)(b:zo0 a=true):∃N,zwg N a=some [aT .guest (zh0 a)]:=by
 have c:=zN.1 b;have d:_/\_/\_/\_:=c;refine⟨0,?_⟩;unfold zwg oN nB;conv=>zeta
 refine must rfl (brN (fun _=>mu ?_) (fun _=>must rfl (mu ?_)));all_goals first|rfl|(simp only [*,zh0,interrupted,cT,cF]<;>rfl)|simp_all[Ty.cells,zh0,interrupted]
theorem zDu:vL 189 ztK:=kF1 zeF zu zA zo (zx []) zHN
def zlq (o:Int):Int:=bif ieq o 3 then 3 else (cond (ieq o 4) 4 (cond (ieq o 5) 5 (cond (ieq o 6) 6 (cond (ieq o 7) 7 2))))
def zC (g:Guest):Int:=bif canRun g then (cond (zdp g) 1 (zlq (zbC g.Prog g.Pc).Op)) else 0
@[simp] abbrev zeY (g:Guest):Bool:=true
@[simp] abbrev zn8 (g:Guest):Int:=zC g
def zF8:Run:=rF1 (dT .guest) fun b=>(zeY b,[aI (zn8 b)])
def zML (N:Nat)(a:Guest):OA:=
 let b:=(zfc a.Prog a.Pc).Op; (oN (zil a) (cond (nB (zn3 a)) (some [(aI 0)]) (oN (zlE a) (cond (zjZ a) (some [(aI 1)]) (oN (zfd a.Prog a.Pc) (cond (ieq b 3) (some [(aI 3)]) (cond (ieq b 4) (some [(aI 4)]) (cond (ieq b 5) (some [(aI 5)]) (cond (ieq b 6) (some [(aI 6)]) (cond (ieq b 7) (some [(aI 7)]) (some [(aI 2)])))))))))))
theorem zYv (a:Guest)(b:zeY a=true):∃N,zML N a=some [aI (zn8 a)]:=by
 refine⟨0,?_⟩;unfold zML oN nB;conv=>zeta
 refine must rfl (brN (fun _=>?_) (fun _=>must rfl (br (fun _=>?_) (fun _=>must rfl (br (fun _=>?_) (fun _=>br (fun _=>?_) (fun _=>br (fun _=>?_) (fun _=>br (fun _=>?_) (fun _=>br (fun _=>?_) (fun _=>?_))))))))));all_goals first|rfl|(simp only [*,zn8,zC,zlq,cT,cF]<;>rfl)|simp_all[Ty.cells,zn8,zC,zlq]
theorem zcm:vL 234 zF8:=kF1 zeF zu zA zo (zx []) zYv
@[simp] abbrev zjM (g:Guest):Bool:=true
@[simp] abbrev zhF (g:Guest):Int:=zC g
def zFK:Run:=rF1 (dT .guest) fun b=>(zjM b,[aI (zhF b)])
def zMm (N:Nat)(a:Guest):OA:=
 let b:=(zgH a.Prog a.Pc).Op; (oN (ztV a) (cond (nB (zqF a)) (some [(aI 0)]) (oN (zo8 a) (cond (zma a) (some [(aI 1)]) (oN (zgs a.Prog a.Pc) (cond (ieq b 3) (some [(aI 3)]) (cond (ieq b 4) (some [(aI 4)]) (cond (ieq b 5) (some [(aI 5)]) (cond (ieq b 6) (some [(aI 6)]) (cond (ieq b 7) (some [(aI 7)]) (some [(aI 2)])))))))))))
theorem zX4 (a:Guest)(b:zjM a=true):∃N,zMm N a=some [aI (zhF a)]:=by
 refine⟨0,?_⟩;unfold zMm oN nB;conv=>zeta
 refine must rfl (brN (fun _=>?_) (fun _=>must rfl (br (fun _=>?_) (fun _=>must rfl (br (fun _=>?_) (fun _=>br (fun _=>?_) (fun _=>br (fun _=>?_) (fun _=>br (fun _=>?_) (fun _=>br (fun _=>?_) (fun _=>?_))))))))));all_goals first|rfl|(simp only [*,zhF,zC,zlq,cT,cF]<;>rfl)|simp_all[Ty.cells,zhF,zC,zlq]
theorem zQE:vL 99 zFK:=kF1 zeF zu zA zo (zx []) zX4
def held (g:Guest):Guest:=zbG {g with Halted:=true}
@[simp] theorem zZF {g:Guest}(h:SmG g):SmG (held g):=zlO (g:={g with Halted:=true}) h
@[simp] abbrev zn5 (g:Guest):Bool:=pc (SmG g)
@[simp] abbrev zAi (g:Guest):Guest:=held g
def zPe:Run:=rF1 (dT .guest) fun b=>(zn5 b,[aT .guest (zAi b)])
def zWo (N:Nat)(b:Guest):OA:=
 let a:=({b with Halted:=true}:Guest); (oN (zep a) (some [(aT .guest (zgJ a))]))
theorem z4J (a:Guest)(b:zn5 a=true):∃N,zWo N a=some [aT .guest (zAi a)]:=by
 have c:=zN.1 b;have d:_/\_/\_/\_:=c;refine⟨0,?_⟩;unfold zWo oN;conv=>zeta
 refine mu ?_;first|rfl|(simp only [*,zAi,held,cT,cF]<;>rfl)|simp_all[Ty.cells,zAi,held]
theorem zXv:vL 301 zPe:=kF1 zeF zu zA zo (zx []) z4J
@[simp] abbrev znR (g:Guest):Bool:=pc (SmG g)
@[simp] abbrev zmX (g:Guest):Guest:=held g
def zPb:Run:=rF1 (dT .guest) fun b=>(znR b,[aT .guest (zmX b)])
def zWk (N:Nat)(b:Guest):OA:=
 let a:=({b with Halted:=true}:Guest); (oN (zeK a) (some [(aT .guest (zew a))]))
theorem z4E (a:Guest)(b:znR a=true):∃N,zWk N a=some [aT .guest (zmX a)]:=by
 have c:=zN.1 b;have d:_/\_/\_/\_:=c;refine⟨0,?_⟩;unfold zWk oN;conv=>zeta
 refine mu ?_;first|rfl|(simp only [*,zmX,held,cT,cF]<;>rfl)|simp_all[Ty.cells,zmX,held]
theorem zXq:vL 184 zPb:=kF1 zeF zu zA zo (zx []) z4E
@[simp] abbrev zBM (g:Guest):Bool:=pc (SmG g)
@[simp] abbrev zv0 (g:Guest):Guest:=zbG g
def zF5:Run:=rF1 (dT .guest) fun b=>(zBM b,[aT .guest (zv0 b)])
def zMI (N:Nat)(a:Guest):OA:=
 (oN (zep a) (some [(aT .guest (zgJ a))]))
theorem zYs (a:Guest)(b:zBM a=true):∃N,zMI N a=some [aT .guest (zv0 a)]:=by have c:=zN.1 b;refine⟨0,?_⟩;unfold zMI oN;refine mu ?_;first|rfl|(simp only [*,zv0,cT,cF]<;>rfl)|simp_all[Ty.cells,zv0]
theorem zQZ:vL 294 zF5:=kF1 zeF zu zA zo (zx []) zYs
@[simp] abbrev zo7 (g:Guest):Bool:=pc (SmG g)
@[simp] abbrev zlh (g:Guest):Guest:=zbG g
def zFH:Run:=rF1 (dT .guest) fun b=>(zo7 b,[aT .guest (zlh b)])
def zMj (N:Nat)(a:Guest):OA:=
 (oN (zeK a) (some [(aT .guest (zew a))]))
theorem zX1 (a:Guest)(b:zo7 a=true):∃N,zMj N a=some [aT .guest (zlh a)]:=by have c:=zN.1 b;refine⟨0,?_⟩;unfold zMj oN;refine mu ?_;first|rfl|(simp only [*,zlh,cT,cF]<;>rfl)|simp_all[Ty.cells,zlh]
theorem zQB:vL 108 zFH:=kF1 zeF zu zA zo (zx []) zX1
def loaded (g:Guest)(v:Int):Guest:=zbG (saw {g with A:=v} v)
@[simp] theorem zPx {g:Guest}(v:Int)(h:SmG g):SmG (loaded g v):=zlO (zHd (g:={g with A:=v}) v h)
@[simp] abbrev zBG (g:Guest)(v:Int):Bool:=pc (SmG g)
@[simp] abbrev zvX (g:Guest)(v:Int):Guest:=loaded g v
def zFV:Run:=rF2 (dT .guest) dI fun b c=>(zBG b c,[aT .guest (zvX b c)])
def zMy (N:Nat)(c:Guest)(a:Int):OA:=
 let b:=({c with A:=a}:Guest); (oN (zHb b a) (oN (zep (zBL b a)) (some [(aT .guest (zgJ (zBL b a)))])))
theorem zYg (b:Guest)(a:Int)(d:zBG b a=true):∃N,zMy N b a=some [aT .guest (zvX b a)]:=by
 have c:=zN.1 d;have f:_/\_/\_/\_:=c;have e:SmG (saw {b with A:=a} a):=zHd (g:={b with A:=a}) a c;refine⟨0,?_⟩;unfold zMy oN;conv=>zeta
 refine mu (mu ?_);first|rfl|(simp only [*,zvX,loaded,cT,cF]<;>rfl)|simp_all[Ty.cells,zvX,loaded]
theorem zQP:vL 295 zFV:=kF2 zeF zu zA zo (zx []) zYg
@[simp] abbrev zo1 (g:Guest)(v:Int):Bool:=pc (SmG g)
@[simp] abbrev zlf (g:Guest)(v:Int):Guest:=loaded g v
def zFu:Run:=rF2 (dT .guest) dI fun b c=>(zo1 b c,[aT .guest (zlf b c)])
def zL7 (N:Nat)(c:Guest)(a:Int):OA:=
 let b:=({c with A:=a}:Guest); (oN (zG0 b a) (oN (zeK (zBf b a)) (some [(aT .guest (zew (zBf b a)))])))
theorem zXO (b:Guest)(a:Int)(d:zo1 b a=true):∃N,zL7 N b a=some [aT .guest (zlf b a)]:=by
 have c:=zN.1 d;have f:_/\_/\_/\_:=c;have e:SmG (saw {b with A:=a} a):=zHd (g:={b with A:=a}) a c;refine⟨0,?_⟩;unfold zL7 oN;conv=>zeta
 refine mu (mu ?_);first|rfl|(simp only [*,zlf,loaded,cT,cF]<;>rfl)|simp_all[Ty.cells,zlf,loaded]
theorem zQo:vL 109 zFu:=kF2 zeF zu zA zo (zx []) zXO
def zrf (g:Guest)(w:Int):Guest:=bif ieq w 5 then stopped g (zuD (zbC g.Prog g.Pc).X) else stopped g ⟨4,0,false,0⟩
@[simp] theorem zbfj {g:Guest}(w:Int)(h:SmG g):SmG (zrf g w):=by unfold zrf;cases ieq w 5<;>exact h
@[simp] abbrev zm1 (g:Guest)(w:Int):Bool:=pc (SmG g)
@[simp] abbrev zjr (g:Guest)(w:Int):Guest:=zrf g w
def zCS:Run:=rF2 (dT .guest) dI fun b c=>(zm1 b c,[aT .guest (zjr b c)])
def zIm (N:Nat)(a:Guest)(c:Int):OA:=
 let b:=(zgH a.Prog a.Pc).X; (cond (ieq c 5) (oN (zgs a.Prog a.Pc) (oN (zyj b) (oN (zgd a (zom b)) (some [(aT .guest (zgt a (zom b)))])))) (oN (zgd a (⟨4,0,false,0⟩:GExit)) (some [(aT .guest (zgt a (⟨4,0,false,0⟩:GExit)))])))
theorem zU1 (a:Guest)(b:Int)(c:zm1 a b=true):∃N,zIm N a b=some [aT .guest (zjr a b)]:=by
 have d:=zN.1 c;refine⟨0,?_⟩;unfold zIm oN;conv=>zeta
 refine br (fun _=>must rfl (must rfl (mu ?_))) (fun _=>mu ?_);all_goals first|rfl|(simp only [*,zjr,zrf,cT,cF]<;>rfl)|simp_all[Ty.cells,zjr,zrf]
theorem zNG:vL 183 zCS:=kF2 zeF zu zA zo (zx []) zU1
def zdd (g:Guest):Bool:=zda g.Prog&&(win g.A 0 99&&(win g.Pc 0 12&&(zc1 g.Written 4 8&&(zc1 g.Live 4 8&&(zhR g.Ctl&&(zc3 g.Pending&&(zhC g.Exit&&ile (ln g.Seen) 40)))))))
@[simp] abbrev znf (g:Guest):Bool:=true
@[simp] abbrev zlA (g:Guest):Bool:=zdd g
def zCU:Run:=rF1 (dT .guest) fun b=>(znf b,[aB (zlA b)])
def zIs (N:Nat)(a:Guest):OA:=
 (oN (zBK a.Prog) (cond (zn6 a.Prog) (oN (zO a.A 0 99) (cond (zU a.A 0 99) (oN (zO a.Pc 0 12) (cond (zU a.Pc 0 12) (oN (zni a.Written 4 8) (cond (zio a.Written 4 8) (oN (zni a.Live 4 8) (cond (zio a.Live 4 8) (oN (zsH a.Ctl) (cond (zq1 a.Ctl) (oN (zfH a.Pending) (cond (zfG a.Pending) (oN (zBF a.Exit) (cond (zvQ a.Exit) (some [(aB (ile (ln a.Seen) 40))]) oF)) oF)) oF)) oF)) oF)) oF)) oF)) oF))
theorem zU7 (a:Guest)(b:znf a=true):∃N,zIs N a=some [aB (zlA a)]:=by refine⟨0,?_⟩;unfold zIs oN;refine must rfl (br (fun _=>must rfl (br (fun _=>must rfl (br (fun _=>must rfl (br (fun _=>must rfl (br (fun _=>must rfl (br (fun _=>must rfl (br (fun _=>must rfl (br (fun _=>?_) (fun _=>?_))) (fun _=>?_))) (fun _=>?_))) (fun _=>?_))) (fun _=>?_))) (fun _=>?_))) (fun _=>?_))) (fun _=>?_));all_goals first|rfl|(simp only [*,zlA,zdd,cT,cF]<;>rfl)|simp_all[Ty.cells,zlA,zdd]
theorem zNI:vL 149 zCU:=kF1 zeF zu zA zo (zx []) zU7
@[simp] abbrev zmW (g:Guest):Bool:=true
@[simp] abbrev zle (g:Guest):Bool:=zdd g
def zCI:Run:=rF1 (dT .guest) fun b=>(zmW b,[aB (zle b)])
def zIc (N:Nat)(a:Guest):OA:=
 (oN (zBe a.Prog) (cond (znT a.Prog) (oN (zbU a.A 0 99) (cond (zcd a.A 0 99) (oN (zbU a.Pc 0 12) (cond (zcd a.Pc 0 12) (oN (zmY a.Written 4 8) (cond (zif a.Written 4 8) (oN (zmY a.Live 4 8) (cond (zif a.Live 4 8) (oN (zET a.Ctl) (cond (zzo a.Ctl) (oN (zjK a.Pending) (cond (zjJ a.Pending) (oN (zA8 a.Exit) (cond (zvg a.Exit) (some [(aB (ile (ln a.Seen) 40))]) oF)) oF)) oF)) oF)) oF)) oF)) oF)) oF))
theorem zUR (a:Guest)(b:zmW a=true):∃N,zIc N a=some [aB (zle a)]:=by refine⟨0,?_⟩;unfold zIc oN;refine must rfl (br (fun _=>must rfl (br (fun _=>must rfl (br (fun _=>must rfl (br (fun _=>must rfl (br (fun _=>must rfl (br (fun _=>must rfl (br (fun _=>must rfl (br (fun _=>?_) (fun _=>?_))) (fun _=>?_))) (fun _=>?_))) (fun _=>?_))) (fun _=>?_))) (fun _=>?_))) (fun _=>?_))) (fun _=>?_));all_goals first|rfl|(simp only [*,zle,zdd,cT,cF]<;>rfl)|simp_all[Ty.cells,zle,zdd]
theorem zNw:vL 260 zCI:=kF1 zeF zu zA zo (zx []) zUR
@[simp] abbrev zi1 (l:List Guest):Bool:=pc (zk3 l)
@[simp] abbrev zi0 (l:List Guest):List Guest:=l
def zvF:Run:=rF1 (dS .guest) fun b=>(zi1 b,[aS .guest (zi0 b)])
def zyY (N:Nat)(c:lG):OA:=
 (iter (σ:=(Int×(Int×(lG×(lG×Unit))))) N (fun d a=>let b:=(ix a.2.2.2.1 a.2.1 zl); (cond (ilt a.2.1 a.1) (oN (inb a.2.1 (ln a.2.2.2.1)) (oN (zdM b) (oN (few (ln (ap a.2.2.1 [(zcJ b)]))) (d (a.1,((zL .i64 a.2.1 1),((ap a.2.2.1 [(zcJ b)]),(a.2.2.2.1,())))))))) (some [(aS .guest a.2.2.1)]))) ((ln c),(0,([],(c,())))))
def zLQ:FuncId->Nat->Option Tmpl:=zx [(201,0,{n:=20,tm:=[(3,.sl 0 []),(7,.sl 1 []),(8,ti),(9,ti)],lo:=[],ro:=[(0,.guest,true),(1,.guest,false)]})]
theorem zLb (a:List Guest)(g:zi1 a=true):∃N,zyY N a=some [aS .guest (zi0 a)]:=by
 have f:=zN.1 g;have e:=zc5 f.1;refine zcw fun N d=>?_;unfold zyY oN;conv=>zeta
 refine(zbj a (fun i (t:lG)=>((ln a),(i:Int),t,a,())) _ (fun _ x b j=>bif zdM x then (cond (few (ln (ap b [zcJ x]))) (j (ap b [zcJ x])) none) else none) (fun (t:lG)=>(some [(.one (.s .guest t))])) (fun i c t rec=>?_) (fun t rec=>?_) _ ([]) (d e.1)).trans ?_;{simp only [zbS c,zbl c,zbv c,zbh c e.1,cT]};{simp only [zbK,cF]};exact zjB zdM zcJ _ a 0 [] (fun x h=>⟨by exact zby (f.2 x h),rfl⟩) (by simpa using e.2)
theorem zEK:vL 201 zvF:=kF1 zeF zu zA zo zLQ zLb
def gAt (b:Bare)(i:Int):Guest:=bif hasB i (ln b.Guests) then ix b.Guests i zl else Ty.dflt .guest
@[simp] theorem zjm {b:Bare}(i:Int)(h:SmB b):SmG (gAt b i):=by unfold gAt;cases a:hasB i (ln b.Guests);{exact zbfH};{exact zZG h.2.1 a _}
@[simp] abbrev zyi (b:Bare)(i:Int):Bool:=pc (SmB b)
@[simp] abbrev zmU (b:Bare)(i:Int):Guest:=gAt b i
@[simp] abbrev zmV (b:Bare)(i:Int):Bool:=hasB i (ln b.Guests)
def zCH:Run:=rF2 (dT .bare) dI fun b c=>(zyi b c,[aT .guest (zmU b c),aB (zmV b c)])
def zIb (N:Nat)(a:Bare)(b:Int):OA:=
 let c:=(ix a.Guests b zl); (oN (zcc b (ln a.Guests)) (cond (nB (zcU b (ln a.Guests))) (some [(aT .guest (⟨[],0,0,[],[],⟨0,0,false⟩,0,⟨0,0,false,0⟩,false,[]⟩:Guest)),(aB false)]) (oN (inb b (ln a.Guests)) (oN (zdM c) (some [(aT .guest (zcJ c)),(aB true)])))))
theorem zUQ (a:Bare)(b:Int)(d:zyi a b=true):∃N,zIb N a b=some [aT .guest (zmU a b),aB (zmV a b)]:=by
 have c:=zN.1 d;have e:a.Guests.length<=1048576:=c.2.1.1;have f:hasB b (ln a.Guests)=true->SmG (ix a.Guests b zl):=fun h=>zZG c.2.1 h _;refine⟨0,?_⟩;unfold zIb oN nB;conv=>zeta
 refine must rfl (brN (fun _=>?_) (fun _=>mu (mu ?_)));all_goals first|rfl|(simp only [*,zmU,zmV,gAt,Ty.dflt,cT,cF]<;>rfl)|simp_all[Ty.cells,zmU,zmV,gAt,Ty.dflt]
theorem zNv:vL 185 zCH:=kF2 zeF zu zA zo (zx []) zUQ
def zbbO:zbb:=[(235,ztN),(189,ztK),(234,zF8),(99,zFK),(301,zPe),(184,zPb),(294,zF5),(108,zFH),(295,zFV),(109,zFu),(183,zCS),(149,zCU),(260,zCI),(201,zvF),(185,zCH)]++zbbN
theorem ziy:zM zbbO:=zi zDE (zi zDu (zi zcm (zi zQE (zi zXv (zi zXq (zi zQZ (zi zQB (zi zQP (zi zQo (zi zNG (zi zNI (zi zNw (zi zEK (zi zNv zeF))))))))))))))
def plainly (g:Guest):Guest:=bif ine (zC g) 2 then g else (cond (win g.A 0 99) (cond (win (zbC g.Prog g.Pc).X 0 99) (cond (ieq (zbC g.Prog g.Pc).Op 1) {zbG g with A:=(zbC g.Prog g.Pc).X} (cond (ieq (zbC g.Prog g.Pc).Op 2) {zbG g with A:=zjn (zL .i64 g.A (zbC g.Prog g.Pc).X) 100} (cond (ieq (zbC g.Prog g.Pc).Op 8) (cond (ieq g.A 0) {zbG g with Pc:=(zbC g.Prog g.Pc).X} (zbG g)) (zbG g)))) (zbG g)) (zbG g))
@[simp] theorem zbfz (g:Guest):(zbG g).Prog=g.Prog:=by unfold zbG;cases ige g.Pc 12<;>rfl
@[simp] theorem zbga (g:Guest):(zbG g).A=g.A:=by unfold zbG;cases ige g.Pc 12<;>rfl
@[simp] theorem zbef (g:Guest):(zbG g).Written=g.Written:=by unfold zbG;cases ige g.Pc 12<;>rfl
@[simp] theorem zbfy (g:Guest):(zbG g).Live=g.Live:=by unfold zbG;cases ige g.Pc 12<;>rfl
@[simp] theorem zbfP (g:Guest):(zbG g).Ctl=g.Ctl:=by unfold zbG;cases ige g.Pc 12<;>rfl
@[simp] theorem zbee (g:Guest):(zbG g).Pending=g.Pending:=by unfold zbG;cases ige g.Pc 12<;>rfl
@[simp] theorem zbfx (g:Guest):(zbG g).Exit=g.Exit:=by unfold zbG;cases ige g.Pc 12<;>rfl
@[simp] theorem zbeX (g:Guest):(zbG g).Halted=g.Halted:=by unfold zbG;cases ige g.Pc 12<;>rfl
@[simp] theorem zbfA (g:Guest):(zbG g).Seen=g.Seen:=by unfold zbG;cases ige g.Pc 12<;>rfl
@[simp] theorem zbfQ (g:Guest)(x:Int):(zbG {g with A:=x}).Pc=(zbG g).Pc:=by unfold zbG;cases ige g.Pc 12<;>rfl
@[simp] theorem zJH {g:Guest}(h:SmG g):SmG (plainly g):=by have a:=zlO h;unfold plainly;cases ine (zC g) 2;{cases win g.A 0 99;{exact a};{cases win (zbC g.Prog g.Pc).X 0 99;{exact a};{cases ieq (zbC g.Prog g.Pc).Op 1;{cases ieq (zbC g.Prog g.Pc).Op 2;{cases ieq (zbC g.Prog g.Pc).Op 8;{exact a};{cases ieq g.A 0<;>exact a}};{exact a}};{exact a}}}};{exact h}
@[simp] abbrev zyl (g:Guest):Bool:=pc (SmG g)
@[simp] abbrev zoo (g:Guest):Guest:=plainly g
def zCM:Run:=rF1 (dT .guest) fun b=>(zyl b,[aT .guest (zoo b)])
def zIg (N:Nat)(a:Guest):OA:=
 let c:=(aT .guest (zew a));let b:=(zgH a.Prog a.Pc); (oN (zjM a) (cond (ine (zhF a) 2) (oN (zdM a) (some [(aT .guest (zcJ a))])) (oN (zgs a.Prog a.Pc) (oN (zeK a) (oN (zbU a.A 0 99) (cond (nB (zcd a.A 0 99)) (some [c]) (oN (zbU b.X 0 99) (cond (nB (zcd b.X 0 99)) (some [c]) (cond (ieq b.Op 1) (some [(aT .guest ({ (zew a) with A:=b.X}:Guest))]) (cond (ieq b.Op 2) (oN (ine 100 0) (some [(aT .guest ({ (zew a) with A:=(zjn (zL .i64 a.A b.X) 100)}:Guest))])) (cond (ieq b.Op 8) (cond (ieq a.A 0) (some [(aT .guest ({ (zew a) with Pc:=b.X}:Guest))]) (some [c])) (some [c]))))))))))))
theorem zUV (a:Guest)(b:zyl a=true):∃N,zIg N a=some [aT .guest (zoo a)]:=by
 have c:=zN.1 b;refine⟨0,?_⟩;unfold zIg oN nB;conv=>zeta
 refine must rfl (br (fun _=>mu ?_) (fun _=>must rfl (mu (must rfl (brN (fun _=>?_) (fun _=>must rfl (brN (fun _=>?_) (fun _=>br (fun _=>?_) (fun _=>br (fun _=>must rfl ?_) (fun _=>br (fun _=>br (fun _=>?_) (fun _=>?_)) (fun _=>?_)))))))))));all_goals first|rfl|(simp only [*,zoo,plainly,cT,cF]<;>rfl)|simp_all[Ty.cells,zoo,plainly]
theorem zNA:vL 190 zCM:=kF1 ziy zu zA zo (zx []) zUV
@[simp] abbrev zyG (g:Guest):Bool:=pc (SmG g)
@[simp] abbrev zsL (g:Guest):Guest:=plainly g
def zC5:Run:=rF1 (dT .guest) fun b=>(zyG b,[aT .guest (zsL b)])
def zIE (N:Nat)(a:Guest):OA:=
 let i:=(ieq a.A 0);let c:=(zep a);let b:=(aT .guest (zgJ a));let d:=(zfc a.Prog a.Pc);let j:=({a with A:=d.X}:Guest);let h:=(ieq d.Op 8);let e:=(zU d.X 0 99);let g:=(aT .guest ({ (zdb a) with Pc:=d.X}:Guest));let f:=({a with A:=(zjn (zL .i64 a.A d.X) 100)}:Guest); (oN (zeY a) (cond (ine (zn8 a) 2) (oN (zdA a) (some [(aT .guest (zdb a))])) (oN (zfd a.Prog a.Pc) (oN (zO a.A 0 99) (cond (zU a.A 0 99) (oN (zO d.X 0 99) (cond e (cond (ieq d.Op 1) (oN (zep j) (some [(aT .guest (zgJ j))])) (cond e (cond (ieq d.Op 2) (oN (ine 100 0) (oN (zep f) (some [(aT .guest (zgJ f))]))) (cond e (cond h (cond i (oN (zdA a) (some [g])) (oN c (some [b]))) (oN c (some [b]))) (oN c (some [b])))) (cond e (cond h (cond i (oN (zdA a) (some [g])) (oN c (some [b]))) (oN c (some [b]))) (oN c (some [b]))))) (cond e (cond (ieq d.Op 2) (oN (ine 100 0) (oN (zep f) (some [(aT .guest (zgJ f))]))) (cond e (cond h (cond i (oN (zdA a) (some [g])) (oN c (some [b]))) (oN c (some [b]))) (oN c (some [b])))) (cond e (cond h (cond i (oN (zdA a) (some [g])) (oN c (some [b]))) (oN c (some [b]))) (oN c (some [b])))))) (oN c (some [b])))))))
theorem zVk (a:Guest)(b:zyG a=true):∃N,zIE N a=some [aT .guest (zsL a)]:=by
 have c:=zN.1 b;have d:_/\_/\_/\_:=c;refine⟨0,?_⟩;unfold zIE oN;conv=>zeta
 refine must rfl (br (fun _=>mu ?_) (fun _=>must rfl (must rfl (br (fun _=>must rfl (br (fun _=>br (fun _=>mu ?_) (fun _=>br (fun _=>br (fun _=>must rfl (mu ?_)) (fun _=>br (fun _=>br (fun _=>br (fun _=>mu ?_) (fun _=>mu ?_)) (fun _=>mu ?_)) (fun _=>mu ?_))) (fun _=>br (fun _=>br (fun _=>br (fun _=>mu ?_) (fun _=>mu ?_)) (fun _=>mu ?_)) (fun _=>mu ?_)))) (fun _=>br (fun _=>br (fun _=>must rfl (mu ?_)) (fun _=>br (fun _=>br (fun _=>br (fun _=>mu ?_) (fun _=>mu ?_)) (fun _=>mu ?_)) (fun _=>mu ?_))) (fun _=>br (fun _=>br (fun _=>br (fun _=>mu ?_) (fun _=>mu ?_)) (fun _=>mu ?_)) (fun _=>mu ?_))))) (fun _=>mu ?_)))));all_goals first|rfl|(simp only [*,zsL,plainly,cT,cF]<;>rfl)|simp_all[Ty.cells,zsL,plainly]
theorem zNT:vL 236 zC5:=kF1 ziy zu zA zo (zx []) zVk
def address (g:Guest):Int:=bif ine (zC g) 3 then (cond (ine (zC g) 4) (-1) ((zbC g.Prog g.Pc).X)) else (zbC g.Prog g.Pc).X
@[simp] abbrev zrI (g:Guest):Bool:=true
@[simp] abbrev zjt (g:Guest):Int:=address g
def zCT:Run:=rF1 (dT .guest) fun b=>(zrI b,[aI (zjt b)])
def zIn (N:Nat)(a:Guest):OA:=
 (oN (zeY a) (cond (ine (zn8 a) 3) (cond (ine (zn8 a) 4) (some [(aI (-1))]) (oN (zfd a.Prog a.Pc) (some [(aI (zfc a.Prog a.Pc).X)]))) (oN (zfd a.Prog a.Pc) (some [(aI (zfc a.Prog a.Pc).X)]))))
theorem zU2 (a:Guest)(b:zrI a=true):∃N,zIn N a=some [aI (zjt a)]:=by refine⟨0,?_⟩;unfold zIn oN;refine must rfl (br (fun _=>br (fun _=>?_) (fun _=>must rfl ?_)) (fun _=>must rfl ?_));all_goals first|rfl|(simp only [*,zjt,address,cT,cF]<;>rfl)|simp_all[Ty.cells,zjt,address]
theorem zNH:vL 290 zCT:=kF1 ziy zu zA zo (zx []) zU2
@[simp] abbrev zry (g:Guest):Bool:=true
@[simp] abbrev zld (g:Guest):Int:=address g
def zCG:Run:=rF1 (dT .guest) fun b=>(zry b,[aI (zld b)])
def zIa (N:Nat)(a:Guest):OA:=
 (oN (zjM a) (cond (ine (zhF a) 3) (cond (ine (zhF a) 4) (some [(aI (-1))]) (oN (zgs a.Prog a.Pc) (some [(aI (zgH a.Prog a.Pc).X)]))) (oN (zgs a.Prog a.Pc) (some [(aI (zgH a.Prog a.Pc).X)]))))
theorem zUP (a:Guest)(b:zry a=true):∃N,zIa N a=some [aI (zld a)]:=by refine⟨0,?_⟩;unfold zIa oN;refine must rfl (br (fun _=>br (fun _=>?_) (fun _=>must rfl ?_)) (fun _=>must rfl ?_));all_goals first|rfl|(simp only [*,zld,address,cT,cF]<;>rfl)|simp_all[Ty.cells,zld,address]
theorem zNu:vL 100 zCG:=kF1 ziy zu zA zo (zx []) zUP
def zeO (g:Guest)(t w:Int):Guest:=bif ieq w 6 then stopped g (zqr (zbC g.Prog g.Pc).X) else (cond (ieq w 5&&zde t 1) (stopped g (zuD (zbC g.Prog g.Pc).X)) (cond (ieq w 7&&zde t 2) (stopped g ⟨4,0,false,0⟩) (cond (ieq w 7) (held g) (zbG g))))
def zgn (t w:Int):Bool:=bif ieq w 6 then false else (cond (ieq w 5&&zde t 1) false (cond (ieq w 7&&zde t 2) false true))
@[simp] theorem zGt {g:Guest}(t w:Int)(h:SmG g):SmG (zeO g t w):=by unfold zeO;cases ieq w 6;{cases (ieq w 5&&zde t 1);{cases (ieq w 7&&zde t 2);{cases ieq w 7;{exact zlO h};{exact zZF h}};{exact h}};{exact h}};{exact h}
@[simp] abbrev zd5 (g:Guest)(t w:Int):Bool:=pc (SmG g)
@[simp] abbrev zck (g:Guest)(t w:Int):Guest:=zeO g t w
@[simp] abbrev zdB (g:Guest)(t w:Int):Bool:=zgn t w
def zDe:Run:=rF3 (dT .guest) dI dI fun b c d=>(zd5 b c d,[aT .guest (zck b c d),aB (zdB b c d)])
def zIN (N:Nat)(a:Guest)(c b:Int):OA:=
 let g:=(aT .guest (zgJ a));let f:=(aT .guest (zAi a));let e:=(⟨4,0,false,0⟩:GExit);let d:=(zfc a.Prog a.Pc).X; (oN (zfd a.Prog a.Pc) (cond (ieq b 6) (oN (zpA d) (oN (zet a (zfA d)) (some [(aT .guest (zdW a (zfA d))),(aB false)]))) (cond (ieq b 5) (oN (ziE c 1) (cond (zim c 1) (oN (zrX d) (oN (zet a (zgB d)) (some [(aT .guest (zdW a (zgB d))),(aB false)]))) (cond (ieq b 7) (oN (ziE c 2) (cond (zim c 2) (oN (zet a e) (some [(aT .guest (zdW a e)),(aB false)])) (cond (ieq b 7) (oN (zn5 a) (some [f,(aB true)])) (oN (zep a) (some [g,(aB true)]))))) (cond (ieq b 7) (oN (zn5 a) (some [f,(aB true)])) (oN (zep a) (some [g,(aB true)])))))) (cond (ieq b 7) (oN (ziE c 2) (cond (zim c 2) (oN (zet a e) (some [(aT .guest (zdW a e)),(aB false)])) (cond (ieq b 7) (oN (zn5 a) (some [f,(aB true)])) (oN (zep a) (some [g,(aB true)]))))) (cond (ieq b 7) (oN (zn5 a) (some [f,(aB true)])) (oN (zep a) (some [g,(aB true)])))))))
theorem zVu (a:Guest)(b c:Int)(d:zd5 a b c=true):∃N,zIN N a b c=some [aT .guest (zck a b c),aB (zdB a b c)]:=by
 have e:=zN.1 d;refine⟨0,?_⟩;unfold zIN oN;conv=>zeta
 refine must rfl (br (fun _=>must rfl (mu ?_)) (fun _=>br (fun _=>must rfl (br (fun _=>must rfl (mu ?_)) (fun _=>br (fun _=>must rfl (br (fun _=>mu ?_) (fun _=>br (fun _=>mu ?_) (fun _=>mu ?_)))) (fun _=>br (fun _=>mu ?_) (fun _=>mu ?_))))) (fun _=>br (fun _=>must rfl (br (fun _=>mu ?_) (fun _=>br (fun _=>mu ?_) (fun _=>mu ?_)))) (fun _=>br (fun _=>mu ?_) (fun _=>mu ?_)))));all_goals first|rfl|(simp only [*,zck,zdB,zeO,zgn,cT,cF]<;>rfl)|simp_all[Ty.cells,zck,zdB,zeO,zgn]
theorem zOa:vL 297 zDe:=kF3 ziy zu zA zo (zx []) zVu
def zbR (b:Bare):Bool:=bif b.Guests.all zdd then (zhT b.Memory 8&&(win (ln b.Guests) 1 2&&(ile (ln b.Outs) 40&&zc3 b.Pending))) else false
@[simp] abbrev zpw (b:Bare):Bool:=true
@[simp] abbrev ze2 (b:Bare):Bool:=zbR b
def zFO:Run:=rF1 (dT .bare) fun b=>(zpw b,[aB (ze2 b)])
def zMq (N:Nat)(c:Bare):OA:=
 (iter (σ:=(Int×(Int×(lM×(lG×((List Int)×Unit)))))) N (fun d a=>let b:=a.2.2.2.1; (cond (ilt a.1 (ln b)) (oN (inb a.1 (ln b)) (oN (znf (ix b a.1 zl)) (cond (nB (zlA (ix b a.1 zl))) oF (d ((zL .i64 a.1 1),(a.2.1,(a.2.2.1,(b,(a.2.2.2.2.1,()))))))))) (oN (zsJ a.2.2.1 8) (cond (zmx a.2.2.1 8) (oN (zO (ln b) 1 2) (cond (zU (ln b) 1 2) (cond (ile (ln a.2.2.2.2.1) 40) (oN (zfH a.2.1) (some [(aB (zfG a.2.1))])) oF) oF)) oF)))) (0,(c.Pending,(c.Memory,(c.Guests,(c.Outs,()))))))
def zZ4:FuncId->Nat->Option Tmpl:=zx [(304,0,{n:=38,tm:=[(1,.lp 0 0),(3,ti)],lo:=[(0,[.sl 0 [],.sl 1 [],.sl 2 [],ti])],ro:=[(0,(.sl .int),false),(1,.guest,false),(2,.int,false)]})]
theorem zX8 (a:Bare)(k:zcE big [aT .bare a])(m:zpw a=true):∃N,zMq N a=some [aB (ze2 a)]:=by
 have j:(_:List _).length<=big:=((zdi k).1 (.s .guest a.Guests) (by simp[AV.cvs,Ty.cells])).len;refine zcw fun N h=>?_;unfold zMq oN nB;conv=>zeta
 refine(zbj a.Guests (fun i (t:Unit)=>((i:Int),a.Pending,a.Memory,a.Guests,a.Outs,())) _ (fun _ x (_:Unit) l=>bif (zdd) x then l () else oF) (fun (t:Unit)=>(cond (zsJ a.Memory 8) (cond (zmx a.Memory 8) (cond (zO (ln a.Guests) 1 2) (cond (zU (ln a.Guests) 1 2) (cond (ile (ln a.Outs) 40) (cond (zfH a.Pending) (some [(.one (.b (zfG a.Pending)))]) none) oF) oF) none) oF) none)) (fun i f t rec=>?_) (fun t rec=>?_) _ () (h j)).trans ?_;{simp only [zbS f,zbl f,zbv f,zbh f j,cT];exact ziw rfl};{simp only [zbK,cF]};rw[zgG (zdd)];refine br (fun c=>?_) (fun c=>?_);{refine must rfl ?_;refine br (fun d=>?_) (fun d=>?_);{refine must rfl ?_;refine br (fun e=>?_) (fun e=>?_);{refine br (fun g=>?_) (fun g=>?_);{refine must rfl ?_;first|rfl|(simp only [c,d,e,g,ze2,zbR,cT,cF]<;>rfl)|(simp_all [Ty.cells,ze2,zbR];done)};{first|rfl|(simp only [c,d,e,g,ze2,zbR,cT,cF]<;>rfl)|(simp_all [Ty.cells,ze2,zbR];done)}};{first|rfl|(simp only [c,d,e,ze2,zbR,cT,cF]<;>rfl)|(simp_all [Ty.cells,ze2,zbR];done)}};{first|rfl|(simp only [c,d,ze2,zbR,cT,cF]<;>rfl)|(simp_all [Ty.cells,ze2,zbR];done)}};{first|rfl|(simp only [c,ze2,zbR,cT,cF]<;>rfl)|(simp_all [Ty.cells,ze2,zbR];done)}
theorem zQI:vL 304 zFO:=hF1 ziy zu zA zo zZ4 zX8
@[simp] abbrev zA7 (b:Bare):Bool:=true
@[simp] abbrev zf1 (b:Bare):Bool:=zbR b
def zFn:Run:=rF1 (dT .bare) fun b=>(zA7 b,[aB (zf1 b)])
def zLZ (N:Nat)(b:Bare):OA:=
 (iter (σ:=(Int×(Int×(Int×(lG×(lM×((List Int)×Unit))))))) N (fun e a=>let c:=a.2.2.2.1;let d:=(ix c a.2.1 zl); (cond (ilt a.2.1 a.1) (oN (inb a.2.1 (ln c)) (oN (zmW d) (cond (nB (zle d)) oF (e (a.1,((zL .i64 a.2.1 1),(a.2.2.1,(c,(a.2.2.2.2.1,(a.2.2.2.2.2.1,())))))))))) (oN (zsx a.2.2.2.2.1 8) (cond (zl8 a.2.2.2.2.1 8) (oN (zbU (ln c) 1 2) (cond (zcd (ln c) 1 2) (cond (ile (ln a.2.2.2.2.2.1) 40) (oN (zjK a.2.2.1) (some [(aB (zjJ a.2.2.1))])) oF) oF)) oF)))) ((ln b.Guests),(0,(b.Pending,(b.Guests,(b.Memory,(b.Outs,())))))))
def zZW:FuncId->Nat->Option Tmpl:=zx [(186,0,{n:=36,tm:=[(1,.lp 0 0),(6,.sl 0 []),(7,ti),(8,ti)],lo:=[(0,[.sl 1 [],.sl 0 [],.sl 2 [],ti])],ro:=[(0,.guest,false),(1,(.sl .int),false),(2,.int,false)]})]
theorem zXG (a:Bare)(k:zcE big [aT .bare a])(m:zA7 a=true):∃N,zLZ N a=some [aB (zf1 a)]:=by
 have j:(_:List _).length<=big:=((zdi k).1 (.s .guest a.Guests) (by simp[AV.cvs,Ty.cells])).len;refine zcw fun N h=>?_;unfold zLZ oN nB;conv=>zeta
 refine(zbj a.Guests (fun i (t:Unit)=>((ln a.Guests),(i:Int),a.Pending,a.Guests,a.Memory,a.Outs,())) _ (fun _ x (_:Unit) l=>bif (zdd) x then l () else oF) (fun (t:Unit)=>(cond (zsx a.Memory 8) (cond (zl8 a.Memory 8) (cond (zbU (ln a.Guests) 1 2) (cond (zcd (ln a.Guests) 1 2) (cond (ile (ln a.Outs) 40) (cond (zjK a.Pending) (some [(.one (.b (zjJ a.Pending)))]) none) oF) oF) none) oF) none)) (fun i f t rec=>?_) (fun t rec=>?_) _ () (h j)).trans ?_;{simp only [zbS f,zbl f,zbv f,zbh f j,cT];exact ziw rfl};{simp only [zbK,cF]};rw[zgG (zdd)];refine br (fun c=>?_) (fun c=>?_);{refine must rfl ?_;refine br (fun d=>?_) (fun d=>?_);{refine must rfl ?_;refine br (fun e=>?_) (fun e=>?_);{refine br (fun g=>?_) (fun g=>?_);{refine must rfl ?_;first|rfl|(simp only [c,d,e,g,zf1,zbR,cT,cF]<;>rfl)|(simp_all [Ty.cells,zf1,zbR];done)};{first|rfl|(simp only [c,d,e,g,zf1,zbR,cT,cF]<;>rfl)|(simp_all [Ty.cells,zf1,zbR];done)}};{first|rfl|(simp only [c,d,e,zf1,zbR,cT,cF]<;>rfl)|(simp_all [Ty.cells,zf1,zbR];done)}};{first|rfl|(simp only [c,d,zf1,zbR,cT,cF]<;>rfl)|(simp_all [Ty.cells,zf1,zbR];done)}};{first|rfl|(simp only [c,zf1,zbR,cT,cF]<;>rfl)|(simp_all [Ty.cells,zf1,zbR];done)}
theorem zQh:vL 186 zFn:=hF1 ziy zu zA zo zZW zXG
@[simp] abbrev zhG (b:Bare):Bool:=pc (SmB b)
@[simp] abbrev zex (b:Bare):Bare:=b
def zzU:Run:=rF1 (dT .bare) fun b=>(zhG b,[aT .bare (zex b)])
def zDT (N:Nat)(a:Bare):OA:=
 (oN (zge a.Memory) (oN (zi1 a.Guests) (oN (zdP a.Outs) (some [(aT .bare (⟨(zdH a.Memory),(zi0 a.Guests),(zdK a.Outs),a.Pending⟩:Bare))]))))
theorem zRy (a:Bare)(b:zhG a=true):∃N,zDT N a=some [aT .bare (zex a)]:=by have c:=zN.1 b;have d:_/\_/\_:=c;refine⟨0,?_⟩;unfold zDT oN;refine mu (mu (mu ?_));first|rfl|(simp only [*,zex,cT,cF]<;>rfl)|simp_all[Ty.cells,zex]
theorem zKx:vL 187 zzU:=kF1 ziy zu zA zo (zx []) zRy
@[simp] abbrev zfn (b:Bare):Bool:=pc (SmB b)
@[simp] abbrev zcx (b:Bare):Bare:=b
def zDd:Run:=rF1 (dT .bare) fun b=>(zfn b,[aT .bare (zcx b)])
def zIM (N:Nat)(a:Bare):OA:=
 (oN (zgi a.Memory) (oN (zfS a.Guests) (oN (few (ln (ap [] a.Outs))) (some [(aT .bare (⟨(zeL a.Memory),(zgl a.Guests),(ap [] a.Outs),a.Pending⟩:Bare))]))))
theorem zVt (a:Bare)(b:zfn a=true):∃N,zIM N a=some [aT .bare (zcx a)]:=by have c:=zN.1 b;have d:_/\_/\_:=c;refine⟨0,?_⟩;unfold zIM oN;refine mu (mu (mu ?_));first|rfl|(simp only [*,zcx,cT,cF]<;>rfl)|simp_all[Ty.cells,zcx]
theorem zN9:vL 298 zDd:=kF1 ziy zu zA zo (zx []) zVt
def zbbP:zbb:=[(236,zC5),(190,zCM),(290,zCT),(100,zCG),(297,zDe),(304,zFO),(186,zFn),(187,zzU),(298,zDd)]++zbbO
theorem zKc:zM zbbP:=zi zNT (zi zNA (zi zNH (zi zNu (zi zOa (zi zQI (zi zQh (zi zKx (zi zN9 ziy))))))))
def zdG (b:Bare)(i:Int)(x:Guest):Bare:={b with Guests:=up b.Guests i x}
def zsQ (b:Bare)(i:Int)(x:Guest):Bare:=bif hasB i (ln b.Guests) then zdG b i x else b
def zik (b:Bare)(n:Int):Bare:=bif ilt (ln b.Outs) 40 then {b with Outs:=ap b.Outs [n]} else b
@[simp] theorem zob {b:Bare}{i:Int}{x:Guest}(h:SmB b)(a:SmG x):SmB (zdG b i x):=⟨h.1,zHe h.2.1 a,h.2.2⟩
@[simp] theorem zPv {b:Bare}{n:Int}(h:SmB b):SmB (zik b n):=by unfold zik;cases a:ilt (ln b.Outs) 40;{exact h};{have:=qD a;refine⟨h.1,h.2.1,?_⟩;simp[ln] at *;omega}
@[simp] theorem zbf4 (b:Bare)(n:Int):(zik b n).Guests=b.Guests:=by unfold zik;cases ilt (ln b.Outs) 40<;>rfl
@[simp] theorem zB0 {m:List (List Int)}{p c v:Int}(h:SmM m):SmM (zbF m p c v):=by unfold zbF;cases a:zfT m p c;{exact h};{cases b:win v 0 99;{exact h};{exact zPz h (by simpa using zbfb h ((zBw m p c).1 a).1 [])}}
@[simp] abbrev zcH (b:Bare)(i:Int)(x:Guest):Bool:=pc (SmB b/\SmG x)
@[simp] abbrev zdS (b:Bare)(i:Int)(x:Guest):Bare:=zsQ b i x
def zxc:Run:=rF3 (dT .bare) dI (dT .guest) fun b c d=>(zcH b c d,[aT .bare (zdS b c d)])
def zCe (N:Nat)(a:Bare)(b:Int)(c:Guest):OA:=
 (oN (zhG a) (oN (zcc b (ln a.Guests)) (cond (zcU b (ln a.Guests)) (oN (zdM c) (oN (inb b (ln (zex a).Guests)) (share (up (zex a).Guests b (zcJ c)) (fun d=>(some [(aT .bare ({ (zex a) with Guests:=d}:Bare))]))))) (some [(aT .bare (zex a))]))))
theorem zOy (a:Bare)(b:Int)(c:Guest)(d:zcH a b c=true):∃N,zCe N a b c=some [aT .bare (zdS a b c)]:=by have e:=zN.1 d;refine⟨0,?_⟩;unfold zCe oN;refine mu (must rfl (br (fun _=>mu (mu (shr ?_))) (fun _=>?_)));all_goals first|rfl|(simp only [*,zdS,zsQ,zdG,cT,cF]<;>rfl)|simp_all[Ty.cells,zdS,zsQ,zdG]
theorem zHp:vL 188 zxc:=kF3 zKc zu zA zo (zx []) zOy
@[simp] abbrev ztZ (b:Bare)(n:Int):Bool:=pc (SmB b)
@[simp] abbrev zqH (b:Bare)(n:Int):Bare:=zik b n
def zFD:Run:=rF2 (dT .bare) dI fun b c=>(ztZ b c,[aT .bare (zqH b c)])
def zMf (N:Nat)(a:Bare)(b:Int):OA:=
 (oN (zhG a) (cond (ilt (ln a.Outs) 40) (oN (few (ln (ap (zex a).Outs [b]))) (some [(aT .bare ({ (zex a) with Outs:=(ap (zex a).Outs [b])}:Bare))])) (some [(aT .bare (zex a))])))
theorem zXX (a:Bare)(b:Int)(c:ztZ a b=true):∃N,zMf N a b=some [aT .bare (zqH a b)]:=by have d:=zN.1 c;have e:a.Outs.length<=1048576:=d.2.2;refine⟨0,?_⟩;unfold zMf oN;refine mu (br (fun _=>mu ?_) (fun _=>?_));all_goals first|rfl|(simp only [*,zqH,zik,cT,cF]<;>rfl)|simp_all[Ty.cells,zqH,zik]
theorem zQx:vL 194 zFD:=kF2 zKc zu zA zo (zx []) zXX
def z3L:zbb:=[(188,zxc),(194,zFD)]++zbbP
theorem zqv:zM z3L:=zi zHp (zi zQx zKc)
def zh5 (b:Bare)(g:Int)(x:Guest)(w:Bool):Bare :=
 bif zd2 x.Live (zbe (address x)) (zbZ w) then
  (bif w then zdG {b with Memory:=zbF b.Memory (zcb x.Live (zbe (address x)) (zbZ w)) (zcP (address x)) x.A} g (zbG x)
  else zdG b g (loaded x (cellAt b.Memory (zcb x.Live (zbe (address x)) (zbZ w)) (zcP (address x)))))
 else zdG b g (stopped x (zoh (zbe (address x)) w))
def zoz (b:Bare)(g:Int)(x:Guest)(w:Int):Bare :=
 zdG (cond (cond (zgn x.Ctl.Traps w) (ieq w 5) false) (zik b (zbC x.Prog x.Pc).X) b) g (zeO x x.Ctl.Traps w)
def stepped (b:Bare)(g:Int)(x:Guest)(w:Int):Bare :=
 bif ieq w 1 then zdG b g (interrupted x) else (cond (ieq w 2) (zdG b g (plainly x)) (cond (ieq w 3) (zh5 b g x false) (cond (ieq w 4) (zh5 b g x true) (zoz b g x w))))
theorem tr1 (x:Guest)(t w:Int):ieq w 6=true->zeO x t w=stopped x (zqr (zbC x.Prog x.Pc).X)/\zgn t w=false:=by intro h;simp[zeO,zgn,h]
theorem tr2 (x:Guest)(t w:Int):ieq w 6=false->(ieq w 5=false->ieq w 6=false->ieq w 7=true)->zde t (zff w)=true->zeO x t w=zrf x w/\zgn t w=false:=by intro b c h;unfold zeO zgn zrf zff at *;cases a:ieq w 5<;>simp_all
theorem tr3 (x:Guest)(t w:Int):ieq w 6=false->ieq w 7=false->zde t (zff w)=false->ieq w 5=true->zeO x t w=zbG x/\zgn t w=true:=by intro b c h a;unfold zeO zgn zff at *;simp_all
theorem tr4 (x:Guest)(t w:Int):ieq w 6=false->(ieq w 5=false->ieq w 6=false->ieq w 7=true)->zde t (zff w)=false->ieq w 5=false->zeO x t w=held x:=by intro b c h a;unfold zeO zff at *;simp_all
def zfW (b:Bare)(g:Int):Bool:=bif hasB g (ln b.Guests) then (cond (zbR b) (!ieq (zC (gAt b g)) 0) false) else false
def zd8 (b:Bare)(g:Int):Bare:=bif zfW b g then stepped b g (gAt b g) (zC (gAt b g)) else b
@[simp] theorem z2Z {b:Bare}{g:Int}{x:Guest}{w:Bool}(h:SmB b)(a:SmG x):SmB (zh5 b g x w):=by unfold zh5;cases zd2 x.Live (zbe (address x)) (zbZ w);{exact zob h a};{cases w;{exact zob h (zPx _ a)};{exact⟨zB0 h.1,zHe h.2.1 (zlO a),h.2.2⟩}}
@[simp] theorem zbd5 {b:Bare}{g:Int}{x:Guest}{w:Int}(h:SmB b)(a:SmG x):SmB (zoz b g x w):=by unfold zoz;cases (cond (zgn x.Ctl.Traps w) (ieq w 5) false);{exact zob h (zGt _ _ a)};{exact zob (zPv h) (zGt _ _ a)}
@[simp] theorem z1W {b:Bare}{g:Int}{x:Guest}{w:Int}(h:SmB b)(a:SmG x):SmB (stepped b g x w):=by unfold stepped;cases ieq w 1;{cases ieq w 2;{cases ieq w 3;{cases ieq w 4;{exact zbd5 h a};{exact z2Z h a}};{exact z2Z h a}};{exact zob h (zJH a)}};{exact zob h (z3a a)}
@[simp] theorem zbf6 {b:Bare}{g:Int}(h:SmB b):SmB (zd8 b g):=by unfold zd8;cases zfW b g;{exact h};{exact z1W h (zjm g h)}
theorem z5R (x:Guest):ieq (zC x) 0=false->ieq (zC x) 1=false->ieq (zC x) 2=false->ieq (zC x) 3=false->ieq (zC x) 4=false->ieq (zC x) 5=false->ieq (zC x) 6=false->ieq (zC x) 7=true:=by unfold zC zlq;cases canRun x;{intro h;cases h};{cases zdp x;{simp only [cT,cF];generalize (zbC x.Prog x.Pc).Op=o;cases ieq o 3<;>cases ieq o 4<;>cases ieq o 5<;>cases ieq o 6<;>cases ieq o 7<;>simp [ieq]};{intro _ h;cases h}}
theorem z2A {x:Int}{a b:Int}(h:ieq x a=true)(c:ieq a b=false):ieq x b=false:=by have:x=a:=(by simpa [ieq] using h);rw[this];exact c
@[simp] abbrev zvf (b:Bare)(g:Int):Bool:=pc (SmB b)
@[simp] abbrev ziY (b:Bare)(g:Int):Bare:=zd8 b g
@[simp] abbrev zoU (b:Bare)(g:Int):Bool:=zfW b g
def zqR:Run:=rF2 (dT .bare) dI fun b c=>(zvf b c,[aT .bare (ziY b c),aB (zoU b c)])
def zDK (N:Nat)(b:Bare)(c:Int):OA:=
 let g:=b.Memory;let l:=(aT .bare (zex b));let a:=(zmU b c);let k:=a.Ctl.Traps;let t:=(aT .bare (zdS b c (zmX a)));let d:=(zhF a);let r:=(aT .bare (zdS b c (zjr a d)));let i:=(zld a);let f:=(zgc i);let e:=(zed i);let h:=(ieq d 4);let w:=(ziA e h);let p:=(aT .bare (zdS b c (zgt a w)));let j:=(zgH a.Prog a.Pc).X;let u:=(zcH (zqH b j) c (zew a));let n:=(aT .bare (zdS (zqH b j) c (zew a)));let x:=(zgt a (zjH j));let m:=(zh1 a.Live e (ze1 h));let v:=(znQ g m f);let q:=(aT .bare (zdS b c (zlf a v)));let y:=({b with Memory:=(zmb g m f a.A)}:Bare);let s:=(aT .bare (zdS y c (zlh a))); (oN (zyi b c) (oN (zjM a) (oN (zA7 b) (cond (nB (zf1 b)) (oN (zhG b) (some [l,(aB false)])) (cond (nB (zmV b c)) (oN (zhG b) (some [l,(aB false)])) (cond (ieq d 0) (oN (zhG b) (some [l,(aB false)])) (oN (zry a) (oN (zgs a.Prog a.Pc) (cond (ieq d 1) (oN (zo0 a) (oN (zcH b c (zh0 a)) (some [(aT .bare (zdS b c (zh0 a))),(aB true)]))) (cond (ieq d 2) (oN (zyl a) (oN (zcH b c (zoo a)) (some [(aT .bare (zdS b c (zoo a))),(aB true)]))) (cond (ieq d 3) (cond (ieq d 3) (oN (zgr i) (oN (zo2 h) (oN (zkf a.Live e (ze1 h)) (cond (nB (zgP a.Live e (ze1 h))) (oN (zgr i) (oN (zkc e h) (oN (zgd a w) (oN (zcH b c (zgt a w)) (some [p,(aB true)]))))) (cond h (oN (zgq i) (oN (zlj g m f a.A) (oN (zo7 a) (oN (zcH y c (zlh a)) (some [s,(aB true)]))))) (oN (zgq i) (oN (zoY g m f) (oN (zo1 a v) (oN (zcH b c (zlf a v)) (some [q,(aB true)])))))))))) (cond (ieq d 6) (oN (zoX j) (oN (zgd a (zjH j)) (oN (zcH b c x) (some [(aT .bare (zdS b c x)),(aB true)])))) (oN (zpb d) (oN (zkA k (zhH d)) (cond (zjq k (zhH d)) (oN (zm1 a d) (oN (zcH b c (zjr a d)) (some [r,(aB true)]))) (cond (ieq d 5) (oN (ztZ b j) (oN (zeK a) (oN u (some [n,(aB true)])))) (oN (znR a) (oN (zcH b c (zmX a)) (some [t,(aB true)]))))))))) (cond h (oN (zgr i) (oN (zo2 h) (oN (zkf a.Live e (ze1 h)) (cond (nB (zgP a.Live e (ze1 h))) (oN (zgr i) (oN (zkc e h) (oN (zgd a w) (oN (zcH b c (zgt a w)) (some [p,(aB true)]))))) (cond h (oN (zgq i) (oN (zlj g m f a.A) (oN (zo7 a) (oN (zcH y c (zlh a)) (some [s,(aB true)]))))) (oN (zgq i) (oN (zoY g m f) (oN (zo1 a v) (oN (zcH b c (zlf a v)) (some [q,(aB true)])))))))))) (cond (ieq d 6) (oN (zoX j) (oN (zgd a (zjH j)) (oN (zcH b c x) (some [(aT .bare (zdS b c x)),(aB true)])))) (oN (zpb d) (oN (zkA k (zhH d)) (cond (zjq k (zhH d)) (oN (zm1 a d) (oN (zcH b c (zjr a d)) (some [r,(aB true)]))) (cond (ieq d 5) (oN (ztZ b j) (oN (zeK a) (oN u (some [n,(aB true)])))) (oN (znR a) (oN (zcH b c (zmX a)) (some [t,(aB true)]))))))))))))))))))))
theorem zRo (a:Bare)(b:Int)(f:zvf a b=true):∃N,zDK N a b=some [aT .bare (ziY a b),aB (zoU a b)]:=by
 have c:=zN.1 f;have j:=zjm b c;have k:_/\_/\_:=c;have hg:a.Guests.length<=1048576:=c.2.1.1;have g:=z5R (gAt a b);have d:ieq (zC (gAt a b)) 3=true->ieq (zC (gAt a b)) 4=false:=fun h=>z2A h rfl;have e:ieq (zC (gAt a b)) 5=true->ieq (zC (gAt a b)) 7=false:=fun h=>z2A h rfl;have l:=tr1 (gAt a b) (gAt a b).Ctl.Traps (zC (gAt a b));have m:=tr2 (gAt a b) (gAt a b).Ctl.Traps (zC (gAt a b));have p:=tr3 (gAt a b) (gAt a b).Ctl.Traps (zC (gAt a b));have q:=tr4 (gAt a b) (gAt a b).Ctl.Traps (zC (gAt a b));have i:∀n,SmB (zik a n):=fun n=>zPv c;refine⟨0,?_⟩;unfold zDK oN nB;conv=>zeta
 refine mu (must rfl (must rfl (brN (fun _=>mu ?_) (fun _=>brN (fun _=>mu ?_) (fun _=>br (fun _=>mu ?_) (fun _=>must rfl (must rfl (br (fun _=>mu (mu ?_)) (fun _=>br (fun _=>mu (mu ?_)) (fun _=>br (fun _=>br (fun _=>must rfl (must rfl (must rfl (brN (fun _=>must rfl (must rfl (mu (mu ?_)))) (fun _=>br (fun _=>must rfl (mu (mu (mu ?_)))) (fun _=>must rfl (must rfl (mu (mu ?_))))))))) (fun _=>br (fun _=>must rfl (mu (mu ?_))) (fun _=>must rfl (must rfl (br (fun _=>mu (mu ?_)) (fun _=>br (fun _=>mu (mu (mu ?_))) (fun _=>mu (mu ?_)))))))) (fun _=>br (fun _=>must rfl (must rfl (must rfl (brN (fun _=>must rfl (must rfl (mu (mu ?_)))) (fun _=>br (fun _=>must rfl (mu (mu (mu ?_)))) (fun _=>must rfl (must rfl (mu (mu ?_))))))))) (fun _=>br (fun _=>must rfl (mu (mu ?_))) (fun _=>must rfl (must rfl (br (fun _=>mu (mu ?_)) (fun _=>br (fun _=>mu (mu (mu ?_))) (fun _=>mu (mu ?_))))))))))))))))));all_goals first|rfl|(simp only [*,ziY,zoU,zd8,zfW,stepped,zh5,zoz,zsQ,zbZ,cT,cF]<;>rfl)|simp_all[Ty.cells,ziY,zoU,zd8,zfW,stepped,zh5,zoz,zsQ,zbZ]
theorem zu7:vL 112 zqR:=kF2 zqv zu zA zo (zx []) zRo
def SmK (k:Kept):Prop:=k.Known.length<=1048576/\k.Slots.length<=1048576
def zEl (l:List Kept):Prop:=l.length<=1048576/\∀x∈l,SmK x
def zft (m:Mon):Prop:=m.Outer.length<=1048576/\SmM m.Out/\m.Dirty.length<=1048576/\zk3 m.Guests/\m.Outs.length<=1048576/\zEl m.Tables
def zsi (l:List Mon):Prop:=l.length<=1048576/\∀x∈l,zft x
def SmH (h:Host):Prop:=SmM h.Memory/\zsi h.Mons/\h.Buffer.length<=1048576/\h.IoBuffer.length<=1048576
@[simp] theorem zy8 (k:Kept):(∀c∈Ty.cells .kept k,CVB sm c)↔SmK k:=by simp[Ty.cells,SmK,sm_v]
@[simp] theorem z9C (l:List Kept):CVB sm (.s .kept l)↔zEl l:=by rw[zl2];simp only[zy8];rfl
@[simp] theorem z2j (m:Mon):(∀c∈Ty.cells .mon m,CVB sm c)↔zft m:=by simp only[Ty.cells,qG,qN,or_false,vH,forall_eq,zqx,zwC,z9C,z3U,z0C,z0B,zbb2,and_true,true_and];rfl
@[simp] theorem zbdh (l:List Mon):CVB sm (.s .mon l)↔zsi l:=by rw[zl2];simp only[z2j];rfl
@[simp] theorem zS (h:Host):zct h↔SmH h:=by unfold zct;simp only[zbi,qG,qN,or_false,vH,forall_eq,zqx,zbdh,zW3];rfl
theorem zbn {p:Prop}(h:p):pc p=true:=zby h
theorem zAp {l:List Kept}{i:Int}{x:Kept}(h:zEl l)(b:SmK x):zEl (up l i x):=by refine⟨by simpa using h.1,fun y a=>?_⟩;rcases qW a with a|rfl;{exact h.2 y a};{exact b}
theorem zjy {l:List Mon}{i:Int}{x:Mon}(h:zsi l)(b:zft x):zsi (up l i x):=by refine⟨by simpa using h.1,fun y a=>?_⟩;rcases qW a with a|rfl;{exact h.2 y a};{exact b}
theorem zoi {a:Type}{l:List a}(h:l.length<=1048576):few (ln (ap [] l))=true:=by rw[zmS,zbdu];omega
@[simp] abbrev zbV (h:Host):Bool:=pc (zct h)
@[simp] abbrev zB (h:Host):Host:=h
def zDf:Run:=rF1 dH fun b=>(zbV b,[aH (zB b)])
def zIO (N:Nat)(b:Host):OA:=
 (oN (zgi b.Memory) (oN (few (ln (ap [] b.Buffer))) (oN (few (ln (ap [] b.IoBuffer))) (iter (σ:=(Int×(lM×(lN×(lE×(lE×(lM×(lN×(lE×(lE×(lM×(lN×(lE×(lE×Unit)))))))))))))) N (fun f a=>let e:=a.2.2.2.2.2.2.2.2.2.2.2.2.1;let d:=(ix a.2.2.1 a.1 zh);let c:=(ap a.2.2.2.2.2.2.2.2.2.2.1 [(zn9 d)]); (cond (ilt a.1 (ln a.2.2.1)) (oN (inb a.1 (ln a.2.2.1)) (oN (zj5 d) (oN (few (ln c)) (f ((zL .i64 a.1 1),(a.2.1,(a.2.2.1,(a.2.2.2.1,(a.2.2.2.2.1,(a.2.2.2.2.2.1,(a.2.2.2.2.2.2.1,(a.2.2.2.2.2.2.2.1,(a.2.2.2.2.2.2.2.2.1,(a.2.2.2.2.2.2.2.2.2.1,(c,(a.2.2.2.2.2.2.2.2.2.2.2.1,(e,()))))))))))))))))) (some [(aH (⟨a.2.2.2.2.2.2.2.2.2.1,a.2.2.2.2.2.2.2.2.2.2.1,a.2.2.2.2.2.2.2.2.2.2.2.1,e⟩:Host))]))) (0,(b.Memory,(b.Mons,(b.Buffer,(b.IoBuffer,([],([],([],([],((zeL b.Memory),([],((ap [] b.Buffer),((ap [] b.IoBuffer),())))))))))))))))))
def zVV:FuncId->Nat->Option Tmpl:=zx [(73,0,{n:=36,tm:=[(1,.lp 0 0),(2,.lp 1 0),(3,.lp 2 0),(4,ti)],lo:=[(0,[.sl 0 [],.sl 1 [],.sl 2 [],.sl 3 []]),(1,[.sl 4 [],.sl 5 [],.sl 6 [],.sl 7 []]),(2,[.sl 8 [],.sl 9 [],.sl 10 [],.sl 11 []])],ro:=[(0,(.sl .int),false),(1,.mon,false),(2,.entry,false),(3,.entry,false),(4,(.sl .int),true),(5,.mon,true),(6,.entry,true),(7,.entry,true),(8,(.sl .int),true),(9,.mon,true),(10,.entry,true),(11,.entry,true)]})]
theorem zVv (a:Host)(k:zbV a=true):∃N,zIO N a=some [aH (zB a)]:=by
 obtain⟨g,f,h,j⟩:=(zS a).1 (zN.1 k);have e:=zc5 f.1;refine zcw fun N d=>?_;unfold zIO oN;conv=>zeta
 refine must (zbn ((zqx _).2 g)) (must (zoi h) (must (zoi j) ?_));refine(zbj a.Mons (fun i (t:lN)=>((i:Int),a.Memory,a.Mons,a.Buffer,a.IoBuffer,[],[],[],[],(zeL a.Memory),t,(ap [] a.Buffer),(ap [] a.IoBuffer),())) _ (fun _ x b m=>bif zj5 x then (cond (few (ln (ap b [zn9 x]))) (m (ap b [zn9 x])) none) else none) (fun (t:lN)=>(some [(.agg (zbi (⟨(zeL a.Memory),t,(ap [] a.Buffer),(ap [] a.IoBuffer)⟩:Host)))])) (fun i c t rec=>?_) (fun t rec=>?_) _ ([]) (d e.1)).trans ?_;{simp only [zbS c,zbl c,zbv c,zbh c e.1,cT]};{simp only [zbK,cF]};exact zjB zj5 zn9 _ a.Mons 0 [] (fun x l=>⟨zbn ((z2j x).2 (f.2 x l)),rfl⟩) (by simpa using e.2)
theorem zOb:vL 73 zDf:=kF1 zqv zu zA zo zVV zVv
@[simp] abbrev zgu (k:Kept):Bool:=pc (SmK k)
@[simp] abbrev zdx (k:Kept):Kept:=k
def zzX:Run:=rF1 (dT .kept) fun b=>(zgu b,[aT .kept (zdx b)])
def zDW (N:Nat)(a:Kept):OA:=
 (oN (few (ln (ap [] a.Known))) (oN (zgQ a.Slots) (some [(aT .kept (⟨(ap [] a.Known),(zfj a.Slots)⟩:Kept))])))
theorem zRB (a:Kept)(b:zgu a=true):∃N,zDW N a=some [aT .kept (zdx a)]:=by have c:=zN.1 b;obtain⟨f,g⟩:=c;have d:a.Known.length<=2147483648:=(by omega);have e:a.Slots.length<=2147483648:=(by omega);refine⟨0,?_⟩;unfold zDW oN;refine mu (mu ?_);first|rfl|(simp only [*,zdx,cT,cF]<;>rfl)|simp_all[Ty.cells,zdx]
theorem zKB:vL 202 zzX:=kF1 zqv zu zA zo (zx []) zRB
def zbbD:zbb:=[(73,zDf),(202,zzX)]++z3L
theorem zWW:zM zbbD:=zi zOb (zi zKB zqv)
@[simp] abbrev zkB (m:Mon):Bool:=pc (zft m)
@[simp] abbrev zll (m:Mon):Mon:=m
def zCR:Run:=rF1 (dT .mon) fun b=>(zkB b,[aT .mon (zll b)])
def zIl (N:Nat)(b:Mon):OA:=
 (oN (zgQ b.Outer) (oN (zge b.Out) (oN (few (ln (ap [] b.Dirty))) (oN (zi1 b.Guests) (oN (zdP b.Outs) (iter (σ:=(Int×(Int×(Int×(Int×(Int×(Int×(Int×(Int×(lK×(lK×(lS×(lM×(lB×(lG×((List Int)×(lS×(lM×(lB×(lG×((List Int)×(lK×Unit)))))))))))))))))))))) N (fun i a=>let h:=a.2.2.2.2.2.2.2.2.2.2.2.2.1;let g:=a.2.2.2.2.2.2.2.2.2.2.2.2.2.1;let f:=a.2.2.2.2.2.2.2.2.2.2.2.2.2.2.1;let e:=a.2.2.2.2.2.2.2.2.1;let d:=a.2.2.2.2.2.2.2.2.2.1;let c:=(ix d a.2.1 zeU); (cond (ilt a.2.1 a.1) (oN (inb a.2.1 (ln d)) (oN (zgu c) (oN (few (ln (ap e [(zdx c)]))) (i (a.1,((zL .i64 a.2.1 1),(a.2.2.1,(a.2.2.2.1,(a.2.2.2.2.1,(a.2.2.2.2.2.1,(a.2.2.2.2.2.2.1,(a.2.2.2.2.2.2.2.1,((ap e [(zdx c)]),(d,(a.2.2.2.2.2.2.2.2.2.2.1,(a.2.2.2.2.2.2.2.2.2.2.2.1,(h,(g,(f,(a.2.2.2.2.2.2.2.2.2.2.2.2.2.2.2.1,(a.2.2.2.2.2.2.2.2.2.2.2.2.2.2.2.2.1,(a.2.2.2.2.2.2.2.2.2.2.2.2.2.2.2.2.2.1,(a.2.2.2.2.2.2.2.2.2.2.2.2.2.2.2.2.2.2.1,(a.2.2.2.2.2.2.2.2.2.2.2.2.2.2.2.2.2.2.2.1,(a.2.2.2.2.2.2.2.2.2.2.2.2.2.2.2.2.2.2.2.2.1,()))))))))))))))))))))))))) (some [(aT .mon (⟨a.2.2.2.2.2.2.2.2.2.2.1,a.2.2.2.2.2.2.2.2.2.2.2.1,h,g,f,a.2.2.1,a.2.2.2.1,e,a.2.2.2.2.1⟩:Mon))]))) ((ln b.Tables),(0,(b.Pending,(b.Traps,(b.Own,(0,(0,(0,([],(b.Tables,((zfj b.Outer),((zdH b.Out),((ap [] b.Dirty),((zi0 b.Guests),((zdK b.Outs),([],([],([],([],([],([],())))))))))))))))))))))))))))
def zVP:FuncId->Nat->Option Tmpl:=zx [(124,0,{n:=44,tm:=[(1,.lp 0 0),(2,.lp 1 0),(3,.sl 0 []),(29,.sl 1 []),(30,ti),(31,ti)],lo:=[(0,[.sl 2 [],.sl 3 [],.sl 4 [],.sl 5 [],.sl 6 [],ti,ti,.sl 1 [],ti]),(1,[.sl 7 [],.sl 8 [],.sl 9 [],.sl 10 [],.sl 11 [],ti,ti,.sl 12 [],ti])],ro:=[(0,.kept,true),(1,.kept,false),(2,.slot,true),(3,(.sl .int),true),(4,.bool,true),(5,.guest,true),(6,.int,true),(7,.slot,true),(8,(.sl .int),true),(9,.bool,true),(10,.guest,true),(11,.int,true),(12,.kept,true)]})]
theorem zU0 (a:Mon)(p:zkB a=true):∃N,zIl N a=some [aT .mon (zll a)]:=by
 obtain⟨s,l,m,n,u,f⟩:=zN.1 p;have e:=zc5 f.1;refine zcw fun N d=>?_;unfold zIl oN;conv=>zeta
 have g:zgQ a.Outer=true:=(by simp;omega);have h:zge a.Out=true:=(by simp;exact l);have j:zi1 a.Guests=true:=(by simp;exact n);have k:zdP a.Outs=true:=(by simp;omega);refine must g (must h (must (zoi m) (must j (must k ?_))));refine(zbj a.Tables (fun i (t:lK)=>((ln a.Tables),(i:Int),a.Pending,a.Traps,a.Own,0,0,0,t,a.Tables,(zfj a.Outer),(zdH a.Out),(ap [] a.Dirty),(zi0 a.Guests),(zdK a.Outs),[],[],[],[],[],[],())) _ (fun _ x b r=>bif zgu x then (cond (few (ln (ap b [zdx x]))) (r (ap b [zdx x])) none) else none) (fun (t:lK)=>(some [(.agg (Ty.cells .mon (⟨(zfj a.Outer),(zdH a.Out),(ap [] a.Dirty),(zi0 a.Guests),(zdK a.Outs),a.Pending,a.Traps,t,a.Own⟩:Mon)))])) (fun i c t rec=>?_) (fun t rec=>?_) _ ([]) (d e.1)).trans ?_;{simp only [zbS c,zbl c,zbv c,zbh c e.1,cT]};{simp only [zbK,cF]};exact zjB zgu zdx _ a.Tables 0 [] (fun x q=>⟨zbn (f.2 x q),rfl⟩) (by simpa using e.2)
theorem zNF:vL 124 zCR:=kF1 zWW zu zA zo zVP zU0
def zbbE:zbb:=[(124,zCR)]++zbbD
theorem zAP:zM zbbE:=zi zNF zWW
@[simp] abbrev zo9 (h:Host):Bool:=pc (zct h)
@[simp] abbrev zb3 (h:Host):Host:=h
def zzV:Run:=rF1 dH fun b=>(zo9 b,[aH (zb3 b)])
def zDU (N:Nat)(b:Host):OA:=
 (oN (zge b.Memory) (oN (few (ln (ap [] b.Buffer))) (oN (few (ln (ap [] b.IoBuffer))) (iter (σ:=(Int×(Int×(lN×(lM×(lN×(lE×(lE×(lM×(lN×(lE×(lE×Unit)))))))))))) N (fun e a=>let d:=(ix a.2.2.1 a.2.1 zh);let c:=(ap a.2.2.2.2.2.2.2.2.1 [(zll d)]); (cond (ilt a.2.1 a.1) (oN (inb a.2.1 (ln a.2.2.1)) (oN (zkB d) (oN (few (ln c)) (e (a.1,((zL .i64 a.2.1 1),(a.2.2.1,(a.2.2.2.1,(a.2.2.2.2.1,(a.2.2.2.2.2.1,(a.2.2.2.2.2.2.1,(a.2.2.2.2.2.2.2.1,(c,(a.2.2.2.2.2.2.2.2.2.1,(a.2.2.2.2.2.2.2.2.2.2.1,()))))))))))))))) (some [(aH (⟨a.2.2.2.2.2.2.2.1,a.2.2.2.2.2.2.2.2.1,a.2.2.2.2.2.2.2.2.2.1,a.2.2.2.2.2.2.2.2.2.2.1⟩:Host))]))) ((ln b.Mons),(0,(b.Mons,([],([],([],([],((zdH b.Memory),([],((ap [] b.Buffer),((ap [] b.IoBuffer),())))))))))))))))
def zSu:FuncId->Nat->Option Tmpl:=zx [(68,0,{n:=34,tm:=[(2,.lp 0 0),(3,.lp 1 0),(19,.sl 0 []),(20,ti),(21,ti)],lo:=[(0,[.sl 1 [],.sl 2 [],.sl 3 [],.sl 4 []]),(1,[.sl 5 [],.sl 6 [],.sl 7 [],.sl 8 []])],ro:=[(0,.mon,false),(1,(.sl .int),true),(2,.mon,true),(3,.entry,true),(4,.entry,true),(5,(.sl .int),true),(6,.mon,true),(7,.entry,true),(8,.entry,true)]})]
theorem zRz (a:Host)(l:zo9 a=true):∃N,zDU N a=some [aH (zb3 a)]:=by
 obtain⟨h,f,j,k⟩:=(zS a).1 (zN.1 l);have e:=zc5 f.1;refine zcw fun N d=>?_;unfold zDU oN;conv=>zeta
 have g:zge a.Memory=true:=(by simp;exact h);refine must g (must (zoi j) (must (zoi k) ?_));refine(zbj a.Mons (fun i (t:lN)=>((ln a.Mons),(i:Int),a.Mons,[],[],[],[],(zdH a.Memory),t,(ap [] a.Buffer),(ap [] a.IoBuffer),())) _ (fun _ x b n=>bif zkB x then (cond (few (ln (ap b [zll x]))) (n (ap b [zll x])) none) else none) (fun (t:lN)=>(some [(.agg (zbi (⟨(zdH a.Memory),t,(ap [] a.Buffer),(ap [] a.IoBuffer)⟩:Host)))])) (fun i c t rec=>?_) (fun t rec=>?_) _ ([]) (d e.1)).trans ?_;{simp only [zbS c,zbl c,zbv c,zbh c e.1,cT]};{simp only [zbK,cF]};exact zjB zkB zll _ a.Mons 0 [] (fun x m=>⟨zbn (f.2 x m),rfl⟩) (by simpa using e.2)
theorem zKz:vL 68 zzV:=kF1 zAP zu zA zo zSu zRz
def allI {a:Type}(p:Nat->a->Bool):List a->Nat->Bool
 |[],_=>true
 |x::l,i=>p i x&&allI p l (i+1)
theorem zKj {a b:Type}(p:Nat->a->Bool)(r:Option b)(K:Unit->Option b):∀(l:List a) (i:Nat),goL (fun i x (_:Unit) k=>bif p i x then k () else r) K l i ()=bif allI p l i then K () else r
 |[],_=>rfl
 |x::l,i=>by simp only[goL,allI];cases p i x;{rfl};{simp only [cT,uX];exact zKj p r K l (i+1)}
theorem zTb {a:Type}(q:a->Bool)(l:List a)(d:a):∀(n i:Nat),i+n<=l.length->zoG (fun j=>q (ix l (j:Int) d)) n i=((l.drop i).take n).all q
 | 0,i,_=>by simp[zoG]
 |n+1,i,h=>by have b:i<l.length:=(by omega);rw[kU b,List.take_succ_cons,kS,<- zTb q l d n (i+1) (by omega)];simp only[zoG,zbv b]
def sameKey (a b:Entry):Bool:=bif ieq a.Tag b.Tag then ieq a.Page b.Page else false
def alone (l:List Entry)(i:Nat)(x:Entry):Bool:=(l.take i).all fun y=>!sameKey x y
def zfg (l:List Entry):Bool:=bif allI (alone l) l 0 then ile (ln l) 6 else false
theorem z9Q {a:Type}{l:List a}{i:Nat}(h:i<=l.length):inr 0 (i:Int) (ln l)=true:=qJ (by simp only[ln];omega)
@[simp] abbrev zoW (l:List Entry):Bool:=true
@[simp] abbrev zoV (l:List Entry):Bool:=zfg l
def zzM:Run:=rF1 (dS .entry) fun b=>(zoW b,[aB (zoV b)])
def zDL (N:Nat)(g:lE):OA:=
 (iter (σ:=(Int×(Int×(lE×Unit)))) N (fun i b=>let c:=b.2.2.1;let e:=(ix c b.2.1 zfO); (cond (ilt b.2.1 b.1) (oN (inb b.2.1 (ln c)) (oN (inr 0 b.2.1 (ln c)) (iter (σ:=(Int×(Int×(Int×(Int×(Int×(Int×(Int×(Int×(lE×(lE×Unit))))))))))) N (fun j a=>let d:=a.2.2.2.1;let f:=a.2.2.2.2.2.2.2.2.2.1;let h:=(j (a.1,(a.2.1,(a.2.2.1,((zL .i64 d 1),(a.2.2.2.2.1,(a.2.2.2.2.2.1,(a.2.2.2.2.2.2.1,(a.2.2.2.2.2.2.2.1,(a.2.2.2.2.2.2.2.2.1,(f,()))))))))))); (cond (ilt d a.2.2.1) (oN (inb d (ln f)) (cond (ieq a.2.2.2.2.1 (ix f d zfO).Tag) (cond (ieq a.2.2.2.2.2.1 (ix f d zfO).Page) oF h) h)) (i (a.1,((zL .i64 a.2.1 1),(a.2.2.2.2.2.2.2.2.1,())))))) (b.1,(b.2.1,((ln (tk c b.2.1)),(0,(e.Tag,(e.Page,(e.Host,(e.Rights,(c,((tk c b.2.1),()))))))))))))) (some [(aB (ile (ln c) 6))]))) ((ln g),(0,(g,()))))
def zSt:FuncId->Nat->Option Tmpl:=zx [(172,0,{n:=39,tm:=[(0,.sl 0 []),(7,.sl 0 []),(8,ti),(9,ti)],lo:=[],ro:=[(0,.entry,false)]}),(172,2,{n:=39,tm:=[(0,.sl 0 []),(4,.lp 0 0),(7,.sl 0 []),(8,ti),(9,ti),(16,.sl 1 []),(17,ti),(18,ti)],lo:=[(0,[ti,ti,ti,ti])],ro:=[(0,.entry,false),(1,.entry,false)]})]
theorem zRp (a:List Entry)(l:zcE big [aS .entry a])(m:zoW a=true):∃N,zDL N a=some [aB (zoV a)]:=by
 have e:=(len0 l);refine zcw fun N d=>?_;unfold zDL oN;conv=>zeta
 refine(zbj a (fun i (t:Unit)=>((ln a),(i:Int),a,())) _ (fun i (x:Entry) (_:Unit) h=>bif alone a i x then h () else oF) (fun (t:Unit)=>(some [(.one (.b (ile (ln a) 6)))])) (fun i c t rec=>?_) (fun t rec=>?_) _ () (d e)).trans ?_;{simp only [zbS c,zbl c,zbv c,zbh c e,cT];rw[z9Q (Nat.le_of_lt c),cT];have k:(tk a (i:Int)).length<=big:=qU (by simp[tk];omega) e;refine(zbj (tk a (i:Int)) (fun j (u:Unit)=>((ln a),(i:Int),(ln (tk a (i:Int))),(j:Int),a[i].Tag,a[i].Page,a[i].Host,a[i].Rights,a,(tk a (i:Int)),())) _ (fun _ (y:Entry) (_:Unit) h=>bif !sameKey a[i] y then h () else oF) (fun (u:Unit)=>(rec ((ln a),((((i+1:Nat)):Int),(a,()))))) (fun j g u f=>?_) (fun u f=>?_) _ () (d k)).trans ?_;{simp only [zbS g,zbl g,zbv g,zbh g k,cT,zbh c e];unfold sameKey;cases ieq a[i].Tag (tk a (i:Int))[j].Tag<;>cases ieq a[i].Page (tk a (i:Int))[j].Page<;>rfl};{simp only [zbK,cF,zbh c e]};rw[zgG (fun y=>!sameKey a[i] y)];rfl};{simp only [zbK,cF]};rw[zKj (alone a)];unfold zoV zfg;cases allI (alone a) a 0<;>rfl
theorem zKp:vL 172 zzM:=hF1 zAP zu zA zo zSt zRp
@[simp] abbrev zpz (l:List Entry):Bool:=true
@[simp] abbrev zpy (l:List Entry):Bool:=zfg l
def zz1:Run:=rF1 (dS .entry) fun b=>(zpz b,[aB (zpy b)])
def zD2 (N:Nat)(f:lE):OA:=
 (iter (σ:=(Int×(lE×Unit))) N (fun g c=>(cond (ilt c.1 (ln c.2.1)) (iter (σ:=(Int×(Int×(lE×Unit)))) N (fun h a=>let b:=a.2.2.1;let e:=(ix b a.2.1 zfO);let d:=(h (a.1,((zL .i64 a.2.1 1),(b,())))); (cond (ilt a.2.1 a.1) (oN (inb a.1 (ln b)) (oN (inb a.2.1 (ln b)) (cond (ieq (ix b a.1 zfO).Tag e.Tag) (oN (inb a.1 (ln b)) (oN (inb a.2.1 (ln b)) (cond (ieq (ix b a.1 zfO).Page e.Page) oF d))) d))) (g ((zL .i64 a.1 1),(b,()))))) (c.1,(0,(c.2.1,())))) (some [(aB (ile (ln c.2.1) 6))]))) (0,(f,())))
def zSw:FuncId->Nat->Option Tmpl:=zx [(88,0,{n:=43,tm:=[(0,.sl 0 []),(3,ti)],lo:=[],ro:=[(0,.entry,false)]}),(88,2,{n:=43,tm:=[(0,.sl 0 []),(3,ti),(4,ti)],lo:=[],ro:=[(0,.entry,false)]})]
theorem zRG (a:List Entry)(k:zcE big [aS .entry a])(l:zpz a=true):∃N,zD2 N a=some [aB (zpy a)]:=by
 have g:=(len0 k);refine zcw fun N d=>?_;unfold zD2 oN;conv=>zeta
 refine(zbj a (fun i (t:Unit)=>((i:Int),a,())) _ (fun i (x:Entry) (_:Unit) h=>bif alone a i x then h () else oF) (fun (t:Unit)=>(some [(.one (.b (ile (ln a) 6)))])) (fun i c t rec=>?_) (fun t rec=>?_) _ () (d g)).trans ?_;{simp only [zbS c,zbl c,zbv c,zbh c g,cT];refine(zBp i (fun (j:Nat) (_:Unit)=>((i:Int),((j:Int),(a,())))) _ (fun j (_:Unit) h=>bif !sameKey a[i] (ix a (j:Int) zfO) then h () else oF) (fun _=>rec (((i+1:Nat):Int),(a,()))) (fun j m u f=>?_) (fun u f=>?_) _ () (d (by omega))).trans ?_;{have e:j<a.length:=(by omega);simp only[show ilt (j:Int) (i:Int)=true from qJ (by omega),zbl c,zbl e,zbv c,zbh e g,cT];unfold sameKey;cases ieq a[i].Tag (ix a (j:Int) zfO).Tag<;>cases ieq a[i].Page (ix a (j:Int) zfO).Page<;>rfl};{simp only [show ilt (i:Int) (i:Int)=false from qH (by omega),zbh c g,cF]};rw[zGX (fun j=>!sameKey a[i] (ix a (j:Int) zfO)),zTb (fun y=>!sameKey a[i] y) a _ i 0 (by omega)];rfl};{simp only [zbK,cF]};rw[zKj (alone a)];unfold zpy zfg;cases allI (alone a) a 0<;>rfl
theorem zKF:vL 88 zz1:=hF1 zAP zu zA zo zSw zRG
def zbbF:zbb:=[(68,zzV),(88,zz1),(172,zzM)]++zbbE
theorem zJ7:zM zbbF:=zi zKz (zi zKF (zi zKp zAP))
theorem zRh (a b:Int):igt a b = !ile a b:=by unfold igt ile;by_cases h:a<=b;{rw [qJ h,qH (by omega)];rfl};{rw [qH h,qJ (by omega)];rfl}
theorem stB {c M:Bool}{E:OA}(h:c=true->E=some [AV.one (.b M)]):(cond (cond c false true) (some [AV.one (.b false)]) E)=some [AV.one (.b (cond c M false))]:=by cases c;{rfl};{exact h rfl}
theorem stI {a b:Int}{M:Bool}{E:OA}(h:ieq a b=true->E=some [AV.one (.b M)]):(cond (ine a b) (some [AV.one (.b false)]) E)=some [AV.one (.b (cond (ieq a b) M false))]:=by rw[zmd];cases c:ieq a b;{rfl};{exact h c}
theorem stG {a b:Int}{M:Bool}{E:OA}(h:ile a b=true->E=some [AV.one (.b M)]):(cond (igt a b) (some [AV.one (.b false)]) E)=some [AV.one (.b (cond (ile a b) M false))]:=by rw[zRh];cases c:ile a b;{rfl};{exact h c}
def zmh (s:Slot)(p:List Int):Bool:=bif zc4 s noSlot then zco p else (cond (enough s.Rights 1) (ile (ln p) 0) false)
def fits (m:Mon)(j:Nat):Bool:=zmh (ix m.Outer (j:Int) zW) (ix m.Out (j:Int) [])
def zef (m:Mon):Bool:=bif win (ln m.Guests) 1 2 then (cond (ieq (ln m.Tables) (ln m.Guests)) (cond (zc1 m.Outer 8 12) (cond (ieq (ln m.Out) 8) (cond (ieq (ln m.Dirty) 8) (cond (ile (ln m.Outs) 40) (cond (zc3 m.Pending) (cond (win m.Traps 0 3) (cond (win m.Own 0 1000000000) (cond (m.Guests.all zdd) (zoG (fits m) 8 0) false) false) false) false) false) false) false) false) false) else false
theorem zsP {t:List Slot}{n p:Int}(h:zc1 t n p=true):ln t=n:=by unfold zc1 at h;cases a:t.all (fun s=>zdQ s p);{rw [a]at h;cases h};{rw [a]at h;exact qD h}
@[simp] abbrev zsz (m:Mon):Bool:=true
@[simp] abbrev zux (m:Mon):Bool:=zef m
def zJh:Run:=rF1 (dT .mon) fun b=>(zsz b,[aB (zux b)])
def zSS (N:Nat)(a:Mon):OA:=
 let h:=(ln a.Guests); (oN (zbU h 1 2) (cond (nB (zcd h 1 2)) oF (cond (ine (ln a.Tables) h) oF (oN (zmY a.Outer 8 12) (cond (nB (zif a.Outer 8 12)) oF (cond (ine (ln a.Out) 8) oF (cond (ine (ln a.Dirty) 8) oF (cond (igt (ln a.Outs) 40) oF (oN (zjK a.Pending) (cond (nB (zjJ a.Pending)) oF (oN (zbU a.Traps 0 3) (cond (nB (zcd a.Traps 0 3)) oF (oN (zbU a.Own 0 1000000000) (cond (nB (zcd a.Own 0 1000000000)) oF (iter (σ:=(Int×(Int×(Int×(Int×(Int×(lG×(lS×(lM×(lB×((List Int)×(lK×Unit)))))))))))) N (fun l b=>let i:=b.2.2.2.2.2.2.1;let g:=b.2.2.2.2.2.1;let k:=(ix g b.2.1 zl); (cond (ilt b.2.1 b.1) (oN (inb b.2.1 (ln g)) (oN (zmW k) (cond (nB (zle k)) oF (l (b.1,((zL .i64 b.2.1 1),(b.2.2.1,(b.2.2.2.1,(b.2.2.2.2.1,(g,(i,(b.2.2.2.2.2.2.2.1,(b.2.2.2.2.2.2.2.2.1,(b.2.2.2.2.2.2.2.2.2.1,(b.2.2.2.2.2.2.2.2.2.2.1,()))))))))))))))) (iter (σ:=(Int×(Int×(Int×(Int×(Int×(lS×(lM×(lB×(lG×((List Int)×(lK×Unit)))))))))))) N (fun m c=>let d:=c.2.1;let e:=c.2.2.2.2.2.2.1;let f:=(ix c.2.2.2.2.2.1 d zW);let j:=(m (c.1,((zL .i64 d 1),(c.2.2.1,(c.2.2.2.1,(c.2.2.2.2.1,(c.2.2.2.2.2.1,(e,(c.2.2.2.2.2.2.2.1,(c.2.2.2.2.2.2.2.2.1,(c.2.2.2.2.2.2.2.2.2.1,(c.2.2.2.2.2.2.2.2.2.2.1,())))))))))))); (cond (ilt d c.1) (oN (inb d (ln c.2.2.2.2.2.1)) (oN zdw (cond (cond (ieq f.Page zcQ.Page) (ieq f.Rights zcQ.Rights) false) (oN (inb d (ln e)) (oN (zie (ix e d [])) (cond (nB (zgO (ix e d []))) oF j))) (oN (zdJ f.Rights 1) (cond (nB (zea f.Rights 1)) oF (oN (inb d (ln e)) (cond (igt (ln (ix e d [])) 0) oF j))))))) oT)) ((ln i),(0,(b.2.2.1,(b.2.2.2.1,(b.2.2.2.2.1,(i,(b.2.2.2.2.2.2.2.1,(b.2.2.2.2.2.2.2.2.1,(g,(b.2.2.2.2.2.2.2.2.2.1,(b.2.2.2.2.2.2.2.2.2.2.1,())))))))))))))) (h,(0,(a.Pending,(a.Traps,(a.Own,(a.Guests,(a.Outer,(a.Out,(a.Dirty,(a.Outs,(a.Tables,()))))))))))))))))))))))))))
def z1Y:FuncId->Nat->Option Tmpl:=zx [(173,0,{n:=106,tm:=[(1,.lp 0 0),(64,.sl 0 []),(65,ti),(66,ti)],lo:=[(0,[.sl 1 [],.sl 2 [],.sl 3 [],.sl 0 [],.sl 4 [],ti,ti,.sl 5 [],ti])],ro:=[(0,.guest,false),(1,.slot,false),(2,(.sl .int),false),(3,.bool,false),(4,.int,false),(5,.kept,false)]}),(173,2,{n:=106,tm:=[(1,.lp 0 0),(75,.sl 0 []),(76,ti),(77,ti)],lo:=[(0,[.sl 0 [],.sl 1 [],.sl 2 [],.sl 3 [],.sl 4 [],ti,ti,.sl 5 [],ti])],ro:=[(0,.slot,false),(1,(.sl .int),false),(2,.bool,false),(3,.guest,false),(4,.int,false),(5,.kept,false)]})]
theorem z0Z (a:Mon)(l:zcE big [aT .mon a])(E:zsz a=true):∃N,zSS N a=some [aB (zux a)]:=by
 have hg:a.Guests.length<=big:=((zdi l).1 (.s .guest a.Guests) (by simp[AV.cvs,Ty.cells])).len;have m:a.Outer.length<=big:=((zdi l).1 (.s .slot a.Outer) (by simp[AV.cvs,Ty.cells])).len;refine zcw fun N d=>?_;unfold zSS zux zef oN nB;conv=>zeta
 refine must rfl (stB fun w=>stI fun y=>must rfl (stB fun r=>stI fun v=>stI fun z=>stG fun A=>must rfl (stB fun B=>must rfl (stB fun C=>must rfl (stB fun D=>?_)))));have p:=zsP r;have q:ln a.Out=8:=qD v;simp only[ln] at p q;refine(zbj a.Guests (fun i (t:Unit)=>((ln a.Guests),(i:Int),a.Pending,a.Traps,a.Own,a.Guests,a.Outer,a.Out,a.Dirty,a.Outs,a.Tables,())) _ (fun _ (x:Guest) (_:Unit) g=>bif zdd x then g () else oF) (fun (t:Unit)=>(iter (σ:=(Int×(Int×(Int×(Int×(Int×(lS×(lM×(lB×(lG×((List Int)×(lK×Unit)))))))))))) N (fun n c=>(cond (ilt c.2.1 c.1) (cond (inb c.2.1 (ln c.2.2.2.2.2.1)) (cond zdw (cond (cond (ieq (ix c.2.2.2.2.2.1 c.2.1 zW).Page zcQ.Page) (ieq (ix c.2.2.2.2.2.1 c.2.1 zW).Rights zcQ.Rights) false) (cond (inb c.2.1 (ln c.2.2.2.2.2.2.1)) (cond (zie (ix c.2.2.2.2.2.2.1 c.2.1 [])) (cond (cond (zgO (ix c.2.2.2.2.2.2.1 c.2.1 [])) false true) oF (n (c.1,((zL .i64 c.2.1 1),(c.2.2.1,(c.2.2.2.1,(c.2.2.2.2.1,(c.2.2.2.2.2.1,(c.2.2.2.2.2.2.1,(c.2.2.2.2.2.2.2.1,(c.2.2.2.2.2.2.2.2.1,(c.2.2.2.2.2.2.2.2.2.1,(c.2.2.2.2.2.2.2.2.2.2.1,()))))))))))))) none) none) (cond (zdJ (ix c.2.2.2.2.2.1 c.2.1 zW).Rights 1) (cond (cond (zea (ix c.2.2.2.2.2.1 c.2.1 zW).Rights 1) false true) oF (cond (inb c.2.1 (ln c.2.2.2.2.2.2.1)) (cond (igt (ln (ix c.2.2.2.2.2.2.1 c.2.1 [])) 0) oF (n (c.1,((zL .i64 c.2.1 1),(c.2.2.1,(c.2.2.2.1,(c.2.2.2.2.1,(c.2.2.2.2.2.1,(c.2.2.2.2.2.2.1,(c.2.2.2.2.2.2.2.1,(c.2.2.2.2.2.2.2.2.1,(c.2.2.2.2.2.2.2.2.2.1,(c.2.2.2.2.2.2.2.2.2.2.1,()))))))))))))) none)) none)) none) none) (some [(.one (.b true))]))) ((ln a.Outer),(0,(a.Pending,(a.Traps,(a.Own,(a.Outer,(a.Out,(a.Dirty,(a.Guests,(a.Outs,(a.Tables,()))))))))))))) (fun i h t rec=>?_) (fun t rec=>?_) _ () (d hg)).trans ?_;{simp only [zbS h,zbl h,zbv h,zbh h hg,cT];simp only[zmW,zle,cT];cases zdd a.Guests[i]<;>rfl};{simp only [zbK,cF]};rw[zgG zdd];cases a.Guests.all zdd;{rfl};simp only[cT];refine(zbj a.Outer (fun j (u:Unit)=>((ln a.Outer),(j:Int),a.Pending,a.Traps,a.Own,a.Outer,a.Out,a.Dirty,a.Guests,a.Outs,a.Tables,())) _ (fun j (_:Slot) (_:Unit) g=>bif fits a j then g () else oF) (fun (u:Unit)=>(some [(.one (.b true))])) (fun j e u f=>?_) (fun u f=>?_) _ () (d m)).trans ?_;{simp only [zbS e,zbl e,zbv e,zbh e m,cT];have k:j<a.Out.length:=(by omega);simp only[zdw,zcQ,zie,zgO,zdJ,zea,zbl k,zRh,cT];unfold fits zmh;simp only[zbv e,zc4];cases ieq a.Outer[j].Page noSlot.Page<;>cases ieq a.Outer[j].Rights noSlot.Rights<;>cases enough a.Outer[j].Rights 1<;>cases ile (ln (ix a.Out (j:Int) [])) 0<;>cases zco (ix a.Out (j:Int) [])<;>rfl};{simp only [zbK,cF]};rw[zzg (fun j (_:Unit) g=>bif fits a j then g () else oF),zGX (fits a),show a.Outer.length=8 by omega];cases zoG (fits a) 8 0<;>rfl
theorem zUs:vL 173 zJh:=hF1 zJ7 zu zA zo z1Y z0Z
@[simp] abbrev zsK (m:Mon):Bool:=true
@[simp] abbrev zuF (m:Mon):Bool:=zef m
def zJr:Run:=rF1 (dT .mon) fun b=>(zsK b,[aB (zuF b)])
def zS3 (N:Nat)(c:Mon):OA:=
 (oN (zO (ln c.Guests) 1 2) (cond (nB (zU (ln c.Guests) 1 2)) oF (cond (ine (ln c.Tables) (ln c.Guests)) oF (oN (zni c.Outer 8 12) (cond (nB (zio c.Outer 8 12)) oF (cond (ine (ln c.Out) 8) oF (cond (ine (ln c.Dirty) 8) oF (iter (σ:=(Int×(Int×(Int×(Int×(lS×(lM×(lB×(lG×((List Int)×(lK×Unit))))))))))) N (fun l b=>let d:=b.2.2.2.2.2.2.2.1; (cond (ilt b.1 (ln d)) (oN (inb b.1 (ln d)) (oN (znf (ix d b.1 zl)) (cond (nB (zlA (ix d b.1 zl))) oF (l ((zL .i64 b.1 1),(b.2.1,(b.2.2.1,(b.2.2.2.1,(b.2.2.2.2.1,(b.2.2.2.2.2.1,(b.2.2.2.2.2.2.1,(d,(b.2.2.2.2.2.2.2.2.1,(b.2.2.2.2.2.2.2.2.2.1,())))))))))))))) (iter (σ:=(Int×(Int×(Int×(Int×(lS×(lM×(lB×(lG×((List Int)×(lK×Unit))))))))))) N (fun m a=>let h:=a.2.2.2.2.1;let i:=(inb a.1 (ln a.2.2.2.2.2.1));let e:=(ix a.2.2.2.2.2.1 a.1 []);let g:=(ix h a.1 zW);let k:=(ieq g.Rights zbw.Rights);let j:=(ieq g.Page zbw.Page);let f:=(m ((zL .i64 a.1 1),(a.2.1,(a.2.2.1,(a.2.2.2.1,(h,(a.2.2.2.2.2.1,(a.2.2.2.2.2.2.1,(a.2.2.2.2.2.2.2.1,(a.2.2.2.2.2.2.2.2.1,(a.2.2.2.2.2.2.2.2.2.1,()))))))))))); (cond (ilt a.1 8) (oN (inb a.1 (ln h)) (oN zcA (cond (nB (cond j k false)) (oN i (cond (igt (ln e) 0) oF (oN (inb a.1 (ln h)) (oN (zg4 g.Rights 1) (cond (nB (zhL g.Rights 1)) oF (cond (nB (nB (cond j k false))) (oN i (oN (zgg e) (cond (nB (zfF e)) oF f))) f)))))) (cond (nB (nB (cond j k false))) (oN i (oN (zgg e) (cond (nB (zfF e)) oF f))) f)))) (cond (ile (ln a.2.2.2.2.2.2.2.2.1) 40) (oN (zfH a.2.1) (cond (zfG a.2.1) (oN (zO a.2.2.1 0 3) (cond (zU a.2.2.1 0 3) (oN (zO a.2.2.2.1 0 1000000000) (some [(aB (zU a.2.2.2.1 0 1000000000))])) oF)) oF)) oF))) (0,(b.2.1,(b.2.2.1,(b.2.2.2.1,(b.2.2.2.2.1,(b.2.2.2.2.2.1,(b.2.2.2.2.2.2.1,(d,(b.2.2.2.2.2.2.2.2.1,(b.2.2.2.2.2.2.2.2.2.1,()))))))))))))) (0,(c.Pending,(c.Traps,(c.Own,(c.Outer,(c.Out,(c.Dirty,(c.Guests,(c.Outs,(c.Tables,()))))))))))))))))))
def z14:FuncId->Nat->Option Tmpl:=zx [(89,0,{n:=115,tm:=[(1,.lp 0 0),(3,ti)],lo:=[(0,[.sl 0 [],.sl 1 [],.sl 2 [],.sl 3 [],.sl 4 [],ti,ti,.sl 5 [],ti])],ro:=[(0,.slot,false),(1,(.sl .int),false),(2,.bool,false),(3,.guest,false),(4,.int,false),(5,.kept,false)]}),(89,2,{n:=115,tm:=[(1,.lp 0 0),(4,ti)],lo:=[(0,[.sl 0 [],.sl 1 [],.sl 2 [],.sl 3 [],.sl 4 [],ti,ti,.sl 5 [],ti])],ro:=[(0,.slot,false),(1,(.sl .int),false),(2,.bool,false),(3,.guest,false),(4,.int,false),(5,.kept,false)]})]
theorem z1b (c:Mon)(r:zcE big [aT .mon c])(A:zsK c=true):∃N,zS3 N c=some [aB (zuF c)]:=by
 have hg:c.Guests.length<=big:=((zdi r).1 (.s .guest c.Guests) (by simp[AV.cvs,Ty.cells])).len;refine zcw fun N d=>?_;unfold zS3 zuF zef oN nB;conv=>zeta
 refine must rfl (stB fun w=>stI fun y=>must rfl (stB fun p=>stI fun q=>stI fun z=>?_));have m:=zsP p;have n:ln c.Out=8:=qD q;simp only[ln] at m n;refine(zbj c.Guests (fun i (t:Unit)=>((i:Int),c.Pending,c.Traps,c.Own,c.Outer,c.Out,c.Dirty,c.Guests,c.Outs,c.Tables,())) _ (fun _ (x:Guest) (_:Unit) l=>bif zdd x then l () else oF) (fun (t:Unit)=>(iter (σ:=(Int×(Int×(Int×(Int×(lS×(lM×(lB×(lG×((List Int)×(lK×Unit))))))))))) N (fun h a=>(cond (ilt a.1 8) (cond (inb a.1 (ln a.2.2.2.2.1)) (cond zcA (cond (cond (cond (ieq (ix a.2.2.2.2.1 a.1 zW).Page zbw.Page) (ieq (ix a.2.2.2.2.1 a.1 zW).Rights zbw.Rights) false) false true) (cond (inb a.1 (ln a.2.2.2.2.2.1)) (cond (igt (ln (ix a.2.2.2.2.2.1 a.1 [])) 0) oF (cond (inb a.1 (ln a.2.2.2.2.1)) (cond (zg4 (ix a.2.2.2.2.1 a.1 zW).Rights 1) (cond (cond (zhL (ix a.2.2.2.2.1 a.1 zW).Rights 1) false true) oF (cond (cond (cond (cond (ieq (ix a.2.2.2.2.1 a.1 zW).Page zbw.Page) (ieq (ix a.2.2.2.2.1 a.1 zW).Rights zbw.Rights) false) false true) false true) (cond (inb a.1 (ln a.2.2.2.2.2.1)) (cond (zgg (ix a.2.2.2.2.2.1 a.1 [])) (cond (cond (zfF (ix a.2.2.2.2.2.1 a.1 [])) false true) oF (h ((zL .i64 a.1 1),(a.2.1,(a.2.2.1,(a.2.2.2.1,(a.2.2.2.2.1,(a.2.2.2.2.2.1,(a.2.2.2.2.2.2.1,(a.2.2.2.2.2.2.2.1,(a.2.2.2.2.2.2.2.2.1,(a.2.2.2.2.2.2.2.2.2.1,())))))))))))) none) none) (h ((zL .i64 a.1 1),(a.2.1,(a.2.2.1,(a.2.2.2.1,(a.2.2.2.2.1,(a.2.2.2.2.2.1,(a.2.2.2.2.2.2.1,(a.2.2.2.2.2.2.2.1,(a.2.2.2.2.2.2.2.2.1,(a.2.2.2.2.2.2.2.2.2.1,()))))))))))))) none) none)) none) (cond (cond (cond (cond (ieq (ix a.2.2.2.2.1 a.1 zW).Page zbw.Page) (ieq (ix a.2.2.2.2.1 a.1 zW).Rights zbw.Rights) false) false true) false true) (cond (inb a.1 (ln a.2.2.2.2.2.1)) (cond (zgg (ix a.2.2.2.2.2.1 a.1 [])) (cond (cond (zfF (ix a.2.2.2.2.2.1 a.1 [])) false true) oF (h ((zL .i64 a.1 1),(a.2.1,(a.2.2.1,(a.2.2.2.1,(a.2.2.2.2.1,(a.2.2.2.2.2.1,(a.2.2.2.2.2.2.1,(a.2.2.2.2.2.2.2.1,(a.2.2.2.2.2.2.2.2.1,(a.2.2.2.2.2.2.2.2.2.1,())))))))))))) none) none) (h ((zL .i64 a.1 1),(a.2.1,(a.2.2.1,(a.2.2.2.1,(a.2.2.2.2.1,(a.2.2.2.2.2.1,(a.2.2.2.2.2.2.1,(a.2.2.2.2.2.2.2.1,(a.2.2.2.2.2.2.2.2.1,(a.2.2.2.2.2.2.2.2.2.1,()))))))))))))) none) none) (cond (ile (ln a.2.2.2.2.2.2.2.2.1) 40) (cond (zfH a.2.1) (cond (zfG a.2.1) (cond (zO a.2.2.1 0 3) (cond (zU a.2.2.1 0 3) (cond (zO a.2.2.2.1 0 1000000000) (some [(.one (.b (zU a.2.2.2.1 0 1000000000)))]) none) oF) none) oF) none) oF))) (0,(c.Pending,(c.Traps,(c.Own,(c.Outer,(c.Out,(c.Dirty,(c.Guests,(c.Outs,(c.Tables,())))))))))))) (fun i g t rec=>?_) (fun t rec=>?_) _ () (d hg)).trans ?_;{simp only [zbS g,zbl g,zbv g,zbh g hg,cT];simp only[znf,zlA,cT];cases zdd c.Guests[i]<;>rfl};{simp only [zbK,cF]};rw[zgG zdd];cases B:c.Guests.all zdd;{simp only [cF];cases ile (ln c.Outs) 40<;>cases zc3 c.Pending<;>cases win c.Traps 0 3<;>cases win c.Own 0 1000000000<;>rfl};simp only[cT];refine(zBp 8 (fun j (u:Unit)=>((j:Int),c.Pending,c.Traps,c.Own,c.Outer,c.Out,c.Dirty,c.Guests,c.Outs,c.Tables,())) _ (fun j (_:Unit) l=>bif fits c j then l () else oF) (fun (u:Unit)=>(cond (ile (ln c.Outs) 40) (cond (zfH c.Pending) (cond (zfG c.Pending) (cond (zO c.Traps 0 3) (cond (zU c.Traps 0 3) (cond (zO c.Own 0 1000000000) (some [(.one (.b (zU c.Own 0 1000000000)))]) none) oF) none) oF) none) oF)) (fun j v u f=>?_) (fun u f=>?_) _ () (d (by decide))).trans ?_;{simp only [show ilt (j:Int) 8=true from qJ (by omega),zbh v (show 8<=big by decide),cT];have e:j<c.Outer.length:=(by omega);have k:j<c.Out.length:=(by omega);simp only[zcA,zbw,zgg,zfF,zg4,zhL,zbl e,zbl k,zRh,cT];unfold fits zmh;simp only[zbv e,zc4];cases ieq c.Outer[j].Page noSlot.Page<;>cases ieq c.Outer[j].Rights noSlot.Rights<;>cases enough c.Outer[j].Rights 1<;>cases ile (ln (ix c.Out (j:Int) [])) 0<;>cases zco (ix c.Out (j:Int) [])<;>rfl};{simp only [show ilt (((8:Nat)):Int) 8=false from qH (by omega),cF];rfl};rw[zGX (fits c)];simp only[zfH,zfG,zO,zWg,cT];cases zoG (fits c) 8 0<;>cases ile (ln c.Outs) 40<;>cases zc3 c.Pending<;>cases win c.Traps 0 3<;>cases win c.Own 0 1000000000<;>rfl
theorem zUD:vL 89 zJr:=hF1 zJ7 zu zA zo z14 z1b
def zbbG:zbb:=[(89,zJr),(173,zJh)]++zbbF
theorem zJ8:zM zbbG:=zi zUD (zi zUs zJ7)
def zgY:List Slot->List Bool->Option (List Bool)
 |[],u=>some u
 |s::l,u=>bif ilt s.Page 0 then zgY l u else (cond (ix u s.Page false) none (zgY l (up u s.Page true)))
def ziX:List Mon->List Bool->Bool
 |[],_=>true
 |m::l,u=>bif zef m then (match zgY m.Outer u with|some a=>ziX l a|none=>false) else false
def zce (h:Host):Bool:=bif zhT h.Memory 12 then (cond (win (ln h.Mons) 1 3) (cond (zfg h.Buffer) (cond (zfg h.IoBuffer) (ziX h.Mons (rp 12 false)) false) false) false) else false
theorem zqj:∀(l:List Slot) (u a:List Bool),zgY l u=some a->a.length=u.length
 |[],u,a,h=>by cases h;rfl
 |s::l,u,a,h=>by simp only[zgY]at h;cases b:ilt s.Page 0;{rw [b]at h;cases c:ix u s.Page false;{rw [c]at h;simpa using zqj l _ a h};{rw [c]at h;cases h}};{rw [b]at h;exact zqj l u a h}
theorem zHc {t:List Slot}{n:Int}(h:zc1 t n 12=true):∀s∈t,s.Page<12:=by intro s d;unfold zc1 at h;cases b:t.all (fun s=>zdQ s 12);{rw [b]at h;cases h};{have:=qM.1 b s d;unfold zdQ at this;cases a:zc4 s noSlot;{rw [a] at this;simp only[cF,show igt 12 0=true from rfl,cT] at this;cases c:win s.Page 0 (wsub .i64 12 1);{rw [c] at this;cases this};{have:=(ze4.1 c).2;rw[show wsub .i64 12 1=11 from rfl] at this;omega}};{unfold zc4 at a;rw[qE]at a;have a:s.Page = -1:=qD a.1;omega}}
theorem z0m {s:Slot}{u:List Bool}(h:s.Page<12)(b:u.length=12)(a:ilt s.Page 0=false):inb s.Page (ln u)=true:=by have:=jQ a;exact qJ (by simp only[ln];omega)
def zuV {a:Type}(r:Option a)(y:Slot)(u:List Bool)(b:List Bool->Option a):Option a:=bif ilt y.Page 0 then b u else (cond (inb y.Page (ln u)) (cond (ix u y.Page false) r (cond (inb y.Page (ln u)) (share (up u y.Page true) (fun c=>b c)) none)) none)
theorem zAZ {c:Type}(r:Option c)(K:List Bool->Option c):∀(l:List Slot) (i:Nat) (u:List Bool),(∀s∈l,s.Page<12)->u.length=12->
 goL (fun _ y u g=>zuV r y u g) K l i u=match zgY l u with|some f=>K f|none=>r
 |[],_,_,_,_=>rfl
 |s::l,i,u,h,b=>by simp only[goL,zgY,zuV];cases d:ilt s.Page 0;{have e:=z0m (h s (by simp)) b d;rw[e];cases ix u s.Page false;{simp only [cF,cT,share];exact zAZ r K l (i+1) _ (fun s a=>h s (by simp[a])) (by simpa using b)};{rfl}};{simp only [cT];exact zAZ r K l (i+1) u (fun s a=>h s (by simp[a])) b}
def z3z {b:Type}(r:Option b)(m:Mon)(u:List Bool)(a:List Bool->Option b):Option b:=bif zef m then goL (fun _ y u a=>zuV r y u a) a m.Outer 0 u else r
theorem zdj {c x:Bool}:((cond c x false)=true)↔c=true/\x=true:=by cases c<;>simp
theorem zm8 {m:Mon}(h:zef m=true):zc1 m.Outer 8 12=true:=by unfold zef at h;simp only[zdj]at h;exact h.2.2.1
theorem zXi {K:Bool->OA}(k:List Bool->OA)(a:∀u,k u=K true):∀(l:List Mon) (i:Nat) (u:List Bool),u.length=12->
 goL (fun _ m u g=>z3z (K false) m u g) k l i u=K (ziX l u)
 |[],_,u,_=>a u
 |m::l,i,u,b=>by simp only[goL,ziX,z3z];cases c:zef m;{rfl};{simp only [cT];have e:=zm8 c;rw[zAZ _ _ _ _ _ (zHc e) b];cases d:zgY m.Outer u with|none=>rfl|some f=>exact zXi k a l (i+1) f ((zqj _ _ _ d).trans b)}
@[simp] abbrev ztW (h:Host):Bool:=true
@[simp] abbrev zvj (h:Host):Bool:=zce h
def zFt:Run:=rF1 dH fun b=>(ztW b,[aB (zvj b)])
def zL6 (N:Nat)(c:Host):OA:=
 (oN (zsx c.Memory 12) (cond (nB (zl8 c.Memory 12)) oF (oN (zbU (ln c.Mons) 1 3) (cond (nB (zcd (ln c.Mons) 1 3)) oF (oN (zoW c.Buffer) (cond (nB (zoV c.Buffer)) oF (oN (zoW c.IoBuffer) (cond (nB (zoV c.IoBuffer)) oF (oN (cond (few 12) (ieq 12 12) false) (iter (σ:=(Int×(Int×(lB×(lN×Unit))))) N (fun k b=>let h:=(ix b.2.2.2.1 b.2.1 zh); (cond (ilt b.2.1 b.1) (oN (inb b.2.1 (ln b.2.2.2.1)) (oN (zsz h) (cond (nB (zux h)) oF (iter (σ:=(Int×(Int×(Int×(Int×(Int×(lB×(lN×Unit)))))))) N (fun i a=>let f:=a.2.2.2.2.1;let g:=a.2.2.2.2.2.2.1;let j:=(ix g a.2.2.1 zh).Outer;let d:=a.2.2.2.2.2.1;let e:=(ix j f zW).Page; (cond (ilt f a.2.2.2.1) (oN (inb f (ln j)) (cond (ilt e 0) (i (a.1,(a.2.1,(a.2.2.1,(a.2.2.2.1,((zL .i64 f 1),(d,(g,())))))))) (oN (inb e (ln d)) (cond (ix d e false) oF (oN (inb e (ln d)) (share (up d e true) (fun l=>(i (a.1,(a.2.1,(a.2.2.1,(a.2.2.2.1,((zL .i64 f 1),(l,(g,()))))))))))))))) (k (a.1,((zL .i64 a.2.1 1),(d,(g,()))))))) (b.1,(b.2.1,(b.2.1,((ln h.Outer),(0,(b.2.2.1,(b.2.2.2.1,()))))))))))) oT)) ((ln c.Mons),(0,((rp 12 false),(c.Mons,()))))))))))))))
def zZY:FuncId->Nat->Option Tmpl:=zx [(98,0,{n:=63,tm:=[(3,.sl 0 []),(33,.sl 1 []),(34,ti),(35,ti)],lo:=[],ro:=[(0,.bool,true),(1,.mon,false)]}),(98,2,{n:=63,tm:=[(3,.sl 0 []),(33,.sl 1 []),(34,ti),(35,ti),(43,.sl 1 [0]),(44,ti),(45,ti)],lo:=[],ro:=[(0,.bool,true),(1,.mon,false)]})]
theorem zXN (a:Host)(n:zcE big [aH a])(w:ztW a=true):∃N,zL6 N a=some [aB (zvj a)]:=by
 have l:CVB big (.s .mon a.Mons):=(zdi n).1 _ (by simp[AV.cvs,zbi]);have g:=l.len;refine zcw fun N d=>?_;unfold zL6 zvj zce oN nB;conv=>zeta
 refine must rfl (stB fun p=>must rfl (stB fun q=>must rfl (stB fun r=>must rfl (stB fun v=>must rfl ?_))));refine(zbj a.Mons (fun i (t:lB)=>((ln a.Mons),(i:Int),t,a.Mons,())) _ (fun _ (x:Mon) (u:List Bool) h=>z3z (oF) x u h) (fun (t:lB)=>(some [(.one (.b true))])) (fun i c t rec=>?_) (fun t rec=>?_) _ ((rp 12 false)) (d g)).trans ?_;{simp only [zbS c,zbl c,zbv c,zbh c g,cT];unfold z3z;cases k:zef a.Mons[i];{simp only [zsz,zux,k,cT,cF]};simp only[zsz,zux,k,cT,cF];have m:a.Mons[i].Outer.length<=big:=(l.inv.2 _ (jK c) (.s .slot _) (by simp[Ty.cells])).len;refine(zbj a.Mons[i].Outer (fun j (u:lB)=>((ln a.Mons),(i:Int),(i:Int),(ln a.Mons[i].Outer),(j:Int),u,a.Mons,())) _ (fun _ (y:Slot) (u:List Bool) h=>zuV (oF) y u h) (fun (u:lB)=>(rec ((ln a.Mons),((((i+1:Nat)):Int),(u,(a.Mons,())))))) (fun j f u e=>?_) (fun u e=>?_) _ (t) (d m)).trans ?_;{simp only [zbS f,zbl f,zbv f,zbh f m,cT,zbl c,zbv c,zbh c g];rfl};{simp only [zbK,cF,zbl c,zbv c,zbh c g]};rfl};{simp only [zbK,cF]};exact zXi (K:=fun b=>some [AV.one (.b b)]) _ (fun _=>rfl) _ _ _ rfl
theorem zQn:vL 98 zFt:=hF1 zJ8 zu zA zo zZY zXN
@[simp] abbrev zfD (h:Host):Bool:=true
@[simp] abbrev zfC (h:Host):Bool:=zce h
theorem zKl {e:Type}(r:Option e)(k:List Bool->Option e)(m:Mon):∀(n i:Nat) (u:List Bool),(∀s∈m.Outer,s.Page<12)->u.length=12->i+n=m.Outer.length->
 goN (fun j u d=>bif inb (j:Int) (ln m.Outer) then zuV r (ix m.Outer (j:Int) zW) u d else none) k n i u=goL (fun _ y u d=>zuV r y u d) k (m.Outer.drop i) i u
 | 0,i,u,_,_,h=>by have:i=m.Outer.length:=(by omega);subst this;simp[goN,goL]
 |n+1,i,u,b,c,h=>by have a:i<m.Outer.length:=(by omega);rw[kU a];simp only[goN,goL,zbl a,zbv a,cT,zuV];cases f:ilt m.Outer[i].Page 0;{rw [z0m (b _ (jK a)) c f];cases ix u m.Outer[i].Page false;{simp only [cF,cT,share];exact zKl r k m n (i+1) _ b (by simpa using c) (by omega)};{rfl}};{simp only [cT];exact zKl r k m n (i+1) u b c (by omega)}
def zFU:Run:=rF1 dH fun b=>(zfD b,[aB (zfC b)])
def zMx (N:Nat)(b:Host):OA:=
 (oN (zsJ b.Memory 12) (cond (nB (zmx b.Memory 12)) oF (oN (zO (ln b.Mons) 1 3) (cond (nB (zU (ln b.Mons) 1 3)) oF (oN (zpz b.Buffer) (cond (nB (zpy b.Buffer)) oF (oN (zpz b.IoBuffer) (cond (nB (zpy b.IoBuffer)) oF (oN (cond (few 12) (ieq 12 12) false) (iter (σ:=(Int×(lB×(lM×(lN×(lE×(lE×Unit))))))) N (fun q c=>let n:=(ix c.2.2.2.1 c.1 zh); (cond (ilt c.1 (ln c.2.2.2.1)) (oN (inb c.1 (ln c.2.2.2.1)) (oN (zsK n) (cond (nB (zuF n)) oF (iter (σ:=(Int×(Int×(lB×(lM×(lN×(lE×(lE×Unit)))))))) N (fun i a=>let k:=(zL .i64 a.2.1 1);let h:=a.2.2.2.2.2.1;let g:=a.2.2.2.2.2.2.1;let f:=a.2.2.1;let e:=a.2.2.2.2.1;let p:=(ix e a.1 zh).Outer;let m:=(i (a.1,(k,(f,(a.2.2.2.1,(e,(h,(g,()))))))));let d:=(ix p a.2.1 zW).Page;let l:=(inb d (ln f)); (cond (ilt a.2.1 8) (oN (inb a.1 (ln e)) (oN (inb a.2.1 (ln p)) (cond (ige d 0) (oN l (cond (ix f d false) oF (cond (ige d 0) (oN l (share (up f d true) (fun j=>(i (a.1,(k,(j,(a.2.2.2.1,(e,(h,(g,()))))))))))) m))) (cond (ige d 0) (oN l (share (up f d true) (fun j=>(i (a.1,(k,(j,(a.2.2.2.1,(e,(h,(g,()))))))))))) m)))) (q ((zL .i64 a.1 1),(f,(a.2.2.2.1,(e,(h,(g,()))))))))) (c.1,(0,(c.2.1,(c.2.2.1,(c.2.2.2.1,(c.2.2.2.2.1,(c.2.2.2.2.2.1,()))))))))))) oT)) (0,((rp 12 false),(b.Memory,(b.Mons,(b.Buffer,(b.IoBuffer,()))))))))))))))))
def zZ6:FuncId->Nat->Option Tmpl:=zx [(38,0,{n:=72,tm:=[(1,.lp 0 0),(3,.sl 0 []),(4,ti)],lo:=[(0,[.sl 1 [],.sl 2 [],.sl 3 [],.sl 4 []])],ro:=[(0,.bool,true),(1,(.sl .int),false),(2,.mon,false),(3,.entry,false),(4,.entry,false)]}),(38,2,{n:=72,tm:=[(1,.lp 0 0),(3,.sl 0 []),(4,ti),(5,ti)],lo:=[(0,[.sl 1 [],.sl 2 [],.sl 3 [],.sl 4 []])],ro:=[(0,.bool,true),(1,(.sl .int),false),(2,.mon,false),(3,.entry,false),(4,.entry,false)]})]
theorem zYf (a:Host)(y:zcE big [aH a])(F:zfD a=true):∃N,zMx N a=some [aB (zfC a)]:=by
 have A:CVB big (.s .mon a.Mons):=(zdi y).1 _ (by simp[AV.cvs,zbi]);have h:=A.len;refine zcw fun N f=>?_;unfold zMx zfC zce oN nB;conv=>zeta
 refine must rfl (stB fun D=>must rfl (stB fun q=>must rfl (stB fun r=>must rfl (stB fun E=>must rfl ?_))));refine(zbj a.Mons (fun i (t:lB)=>((i:Int),t,a.Memory,a.Mons,a.Buffer,a.IoBuffer,())) _ (fun _ (x:Mon) (u:List Bool) d=>bif zef x then goN (fun j u d=>bif inb (j:Int) (ln x.Outer) then zuV (oF) (ix x.Outer (j:Int) zW) u d else none) d 8 0 u else oF) (fun (t:lB)=>(some [(.one (.b true))])) (fun i c t rec=>?_) (fun t rec=>?_) _ ((rp 12 false)) (f h)).trans ?_;{simp only [zbS c,zbl c,zbv c,zbh c h,cT];cases v:zef a.Mons[i];{simp only [zsK,zuF,v,cT,cF]};simp only[zsK,zuF,v,cT,cF];refine(zBp 8 (fun j (u:lB)=>((i:Int),(j:Int),u,a.Memory,a.Mons,a.Buffer,a.IoBuffer,())) _ (fun j (u:List Bool) d=>bif inb (j:Int) (ln a.Mons[i].Outer) then zuV (oF) (ix a.Mons[i].Outer (j:Int) zW) u d else none) (fun (u:lB)=>(rec ((((i+1:Nat)):Int),(u,(a.Memory,(a.Mons,(a.Buffer,(a.IoBuffer,())))))))) (fun j z u g=>?_) (fun u g=>?_) _ (t) (f (by decide))).trans ?_;{simp only [show ilt (j:Int) 8=true from qJ (by omega),zbh z (show 8<=big by decide),cT,zbl c,zbv c,zbh c h];unfold zuV;have e:ige (ix a.Mons[i].Outer (j:Int) zW).Page 0 = !ilt (ix a.Mons[i].Outer (j:Int) zW).Page 0:=(by rw[zbdC,Bool.not_not]);simp only[e];cases ilt (ix a.Mons[i].Outer (j:Int) zW).Page 0<;>cases inb (j:Int) (ln a.Mons[i].Outer)<;>cases inb (ix a.Mons[i].Outer (j:Int) zW).Page (ln u)<;>cases ix u (ix a.Mons[i].Outer (j:Int) zW).Page false<;>rfl};{simp only [show ilt (((8:Nat)):Int) 8=false from qH (by omega),cF,zbl c,zbv c,zbh c h]};rfl};{simp only [zbK,cF]};have p:∀(l:List Mon) (i:Nat) (u:List Bool),u.length=12->goL (fun _ (x:Mon) (u:List Bool) d=>bif zef x then goN (fun j u d=>bif inb (j:Int) (ln x.Outer) then zuV (oF) (ix x.Outer (j:Int) zW) u d else none) d 8 0 u else oF) (fun _=>oT) l i u=some [AV.one (.b (ziX l u))]:=(by intro l;induction l with|nil=>intro i u _;rfl|cons m l B=>intro i u n;simp only[goL,ziX];cases q:zef m;{rfl};{have k:=zm8 q;have w:0+8=m.Outer.length:=(by have:=zsP k;simp only[ln] at this;omega);simp only[cT];rw[zKl _ _ m 8 0 u (zHc k) n w,List.drop_zero,zAZ _ _ _ _ _ (zHc k) n];cases r:zgY m.Outer u with|none=>rfl|some C=>exact B (i+1) C ((zqj _ _ _ r).trans n)});exact p _ _ _ rfl
theorem zQO:vL 38 zFU:=hF1 zJ8 zu zA zo zZ6 zYf
def zbbH:zbb:=[(38,zFU),(98,zFt)]++zbbG
theorem zJ9:zM zbbH:=zi zQO (zi zQn zJ8)
theorem z4r {h:Host}(a:zce h=true):(h.Mons.length:Int)<=3:=by unfold zce at a;simp only[zdj]at a;exact(ze4.1 a.2.1).2
def zcR (h:Host)(m:Int):Bool:=bif zce h then hasB m (ln h.Mons) else false
def zcC (h:Host)(m p:Int):Bool:=bif zce h then (cond (hasB m (ln h.Mons)) (hasB p 8) false) else false
theorem zSL {h:Host}(a:zce h=true)(m:Int):win m 0 (wsub .i64 (ln h.Mons) 1)=hasB m (ln h.Mons):=zri (by have:=z4r a;omega) m
theorem win7 (p:Int):win p 0 7=hasB p 8:=by unfold win ige ile hasB;by_cases a:0<=p<;>by_cases b:p<8;{rw [qJ (p:=p≥0) (by omega),qJ (p:=p<=7) (by omega),qJ (p:=0<=p/\p<8) ⟨a,b⟩];rfl};{rw [qH (p:=p<=7) (by omega),qH (p:=0<=p/\p<8) (by omega)];simp};{rw [qH (p:=p≥0) (by omega),qH (p:=0<=p/\p<8) (by omega)];simp};{rw [qH (p:=p≥0) (by omega),qH (p:=0<=p/\p<8) (by omega)];simp}
@[simp] abbrev zfK (h:Host)(m:Int):Bool:=true
@[simp] abbrev zfJ (h:Host)(m:Int):Bool:=zcR h m
def zGc:Run:=rF2 dH dI fun b c=>(zfK b c,[aB (zfJ b c)])
def zMP (N:Nat)(a:Host)(b:Int):OA:=
 (oN (zfD a) (cond (zfC a) (oN (zO b 0 (wsub .i64 (ln a.Mons) 1)) (some [(aB (zU b 0 (wsub .i64 (ln a.Mons) 1)))])) oF))
theorem zYA (a:Host)(b:Int)(d:zfK a b=true):∃N,zMP N a b=some [aB (zfJ a b)]:=by refine⟨0,?_⟩;unfold zMP zfJ zcR oN;cases c:zce a;{simp only [zfD,zfC,c,cT,cF]};{simp only [zfD,zfC,c,cT,zO,zWg,zSL c]}
theorem zRf:vL 239 zGc:=kF2 zJ9 zu zA zo (zx []) zYA
@[simp] abbrev zow (h:Host)(m p:Int):Bool:=true
@[simp] abbrev zh4 (h:Host)(m p:Int):Bool:=zcC h m p
def zJx:Run:=rF3 dH dI dI fun b c d=>(zow b c d,[aB (zh4 b c d)])
def zS9 (N:Nat)(a:Host)(b c:Int):OA:=
 (oN (zfD a) (cond (zfC a) (oN (zO b 0 (wsub .i64 (ln a.Mons) 1)) (cond (zU b 0 (wsub .i64 (ln a.Mons) 1)) (oN (zO c 0 7) (some [(aB (zU c 0 7))])) oF)) oF))
theorem z1i (a:Host)(b c:Int)(e:zow a b c=true):∃N,zS9 N a b c=some [aB (zh4 a b c)]:=by refine⟨0,?_⟩;unfold zS9 zh4 zcC oN;cases d:zce a;{simp only [zfD,zfC,d,cT,cF]};{simp only [zfD,zfC,d,cT,zO,zWg,zSL d,win7];cases hasB b (ln a.Mons)<;>rfl}
theorem zUL:vL 74 zJx:=kF3 zJ9 zu zA zo (zx []) z1i
def zbbI:zbb:=[(239,zGc),(74,zJx)]++zbbH
theorem zWX:zM zbbI:=zi zRf (zi zUL zJ9)
def zdr (k:Kept)(p:Int):Bool:=bif hasB p (ln k.Known) then hasB p (ln k.Slots) else false
def zbY (k:Kept)(p:Int):Kept:=bif zdr k p then ⟨up k.Known p false,up k.Slots p noSlot⟩ else k
@[simp] theorem zqi {k:Kept}{p:Int}(h:SmK k):SmK (zbY k p):=by unfold zbY;cases zdr k p;{exact h};{exact⟨by simpa using h.1,by simpa using h.2⟩}
theorem has_lt {p:Int}{n m:Int}(h:hasB p n=true):ilt p m=hasB p m:=by have h:=qD h;unfold ilt hasB;by_cases a:p<m;{rw [qJ a,qJ ⟨h.1,a⟩]};{rw [qH a,qH (by omega)]}
@[simp] abbrev zp1 (k:Kept)(p:Int):Bool:=pc (SmK k)
@[simp] abbrev ziI (k:Kept)(p:Int):Bool:=zdr k p
def zGa:Run:=rF2 (dT .kept) dI fun b c=>(zp1 b c,[aB (ziI b c)])
def zMN (N:Nat)(a:Kept)(b:Int):OA:=
 (oN (zO b 0 (wsub .i64 (ln a.Known) 1)) (cond (zU b 0 (wsub .i64 (ln a.Known) 1)) (some [(aB (ilt b (ln a.Slots)))]) oF))
theorem zYx (a:Kept)(b:Int)(c:zp1 a b=true):∃N,zMN N a b=some [aB (ziI a b)]:=by have e:=zN.1 c;refine⟨0,?_⟩;unfold zMN ziI zdr oN;simp only[zO,zWg,zri e.1,cT];cases d:hasB b (ln a.Known);{rfl};{simp only [cT,has_lt d]}
theorem zQ5:vL 274 zGa:=kF2 zWX zu zA zo (zx []) zYx
def zbbJ:zbb:=[(274,zGa)]++zbbI
theorem zKa:zM zbbJ:=zi zQ5 zWX
@[simp] abbrev zmp (k:Kept)(p:Int):Bool:=pc (SmK k)
@[simp] abbrev zlz (k:Kept)(p:Int):Kept:=zbY k p
def zFS:Run:=rF2 (dT .kept) dI fun b c=>(zmp b c,[aT .kept (zlz b c)])
def zMv (N:Nat)(c:Kept)(b:Int):OA:=
 let a:=(zdI c); (oN (zgj c) (oN (zp1 a b) (cond (ziI a b) (oN (inb b (ln a.Known)) (share (up a.Known b false) (fun d=>(oN zcA (oN (inb b (ln a.Slots)) (share (up a.Slots b zbw) (fun e=>(some [(aT .kept (⟨d,e⟩:Kept))])))))))) (some [(aT .kept a)]))))
theorem zYd (a:Kept)(b:Int)(g:zmp a b=true):∃N,zMv N a b=some [aT .kept (zlz a b)]:=by
 have d:=zN.1 g;refine⟨0,?_⟩;unfold zMv zlz oN;conv=>zeta
 refine must (zbn ((zy8 _).2 d)) (must (zbn d) ?_);unfold zbY;cases c:zdr a b;{simp only [ziI,zdI,c,cF]};{simp only [ziI,zdI,c,cT];unfold zdr at c;obtain⟨e,f⟩:=zdj.1 c;simp only[zXz,e,f,cT,share,zcA]}
theorem zQM:vL 208 zFS:=kF2 zKa zu zA zo (zx []) zYd
@[simp] abbrev zA9 (k:Kept)(p:Int):Bool:=pc (SmK k)
@[simp] abbrev zvh (k:Kept)(p:Int):Kept:=zbY k p
def zFr:Run:=rF2 (dT .kept) dI fun b c=>(zA9 b c,[aT .kept (zvh b c)])
def zL4 (N:Nat)(b:Kept)(a:Int):OA:=
 let c:=(zdx b); (oN (zgu b) (oN (zcc a (ln b.Known)) (cond (zcU a (ln b.Known)) (oN (zcc a (ln b.Slots)) (cond (zcU a (ln b.Slots)) (oN (inb a (ln c.Known)) (share (up c.Known a false) (fun d=>(oN zdw (oN (inb a (ln c.Slots)) (share (up c.Slots a zcQ) (fun e=>(some [(aT .kept (⟨d,e⟩:Kept))])))))))) (some [(aT .kept c)]))) (some [(aT .kept c)]))))
theorem zXL (a:Kept)(b:Int)(c:zA9 a b=true):∃N,zL4 N a b=some [aT .kept (zvh a b)]:=by
 have d:=zN.1 c;refine⟨0,?_⟩;unfold zL4 zvh oN;conv=>zeta
 refine must (zbn d) (must rfl ?_);unfold zbY zdr;simp only[zcU,zcc,zdx,zXz,share,zdw,cT];cases hasB b (ln a.Known);{rfl};{cases hasB b (ln a.Slots)<;>rfl}
theorem zQl:vL 205 zFr:=kF2 zKa zu zA zo (zx []) zXL
def zbbK:zbb:=[(208,zFS),(205,zFr)]++zbbJ
theorem zuW:zM zbbK:=zi zQM (zi zQl zKa)
def zeI (k:Kept)(l:List Int):Kept:=l.foldl zbY k
theorem z3d:∀(l:List Int) {k:Kept},SmK k->SmK (zeI k l)
 |[],_,h=>h
 |p::l,k,h=>z3d l (zqi (p:=p) h)
theorem zAY {b:Type}(K:List Bool×List Slot->Option b):∀(l:List Int) (i:Nat) (k:Kept),SmK k->
 goL (fun _ x (t:List Bool×List Slot) a=>bif pc (SmK ⟨t.1,t.2⟩) then a ((zbY ⟨t.1,t.2⟩ x).Known,(zbY ⟨t.1,t.2⟩ x).Slots) else none) K l i (k.Known,k.Slots)=K ((zeI k l).Known,(zeI k l).Slots)
 |[],_,_,_=>rfl
 |x::l,i,k,h=>by have e:pc (SmK ⟨k.Known,k.Slots⟩)=true:=zbn h;simp only[goL,e,cT];exact zAY K l (i+1) (zbY k x) (zqi h)
def zGE (l:List Slot)(p:Int):List Int:=idxs (fun (s:Slot)=>ieq s.Page p) l 0
def zic (k:Kept)(l:List Slot)(p:Int):Kept:=zeI k (zGE l p)
theorem zbaH {k:Kept}(l:List Slot)(p:Int)(h:SmK k):SmK (zic k l p):=z3d _ h
@[simp] abbrev zmo (k:Kept)(l:List Slot)(p:Int):Bool:=pc (SmK k/\l.length<=1048576)
@[simp] abbrev zvR (k:Kept)(l:List Slot)(p:Int):Kept:=zic k l p
def zvI:Run:=rF3 (dT .kept) (dS .slot) dI fun b c d=>(zmo b c d,[aT .kept (zvR b c d)])
def zy3 (N:Nat)(c:Kept)(e:lS)(f:Int):OA:=
 (oN (zgj c) (oN (zBN e f) (iter (σ:=(Int×((List Int)×(lB×(lS×(lB×(lS×Unit))))))) N (fun g a=>let d:=(ix a.2.1 a.1 0);let b:=(⟨a.2.2.1,a.2.2.2.1⟩:Kept); (cond (ilt a.1 (ln a.2.1)) (oN (inb a.1 (ln a.2.1)) (oN (zmp b d) (g ((zL .i64 a.1 1),(a.2.1,((zlz b d).Known,((zlz b d).Slots,(a.2.2.2.2.1,(a.2.2.2.2.2.1,()))))))))) (some [(aT .kept b)]))) (0,((zq6 e f),((zdI c).Known,((zdI c).Slots,([],([],())))))))))
def zLT:FuncId->Nat->Option Tmpl:=zx [(134,0,{n:=27,tm:=[(3,.lp 0 0),(6,.lp 1 0),(7,.sl 0 []),(8,ti)],lo:=[(0,[.sl 1 [],.sl 2 []]),(1,[.sl 3 [],.sl 4 []])],ro:=[(0,.int,true),(1,.bool,true),(2,.slot,true),(3,.bool,true),(4,.slot,true)]})]
theorem zLi (b:Kept)(a:List Slot)(c:Int)(j:zmo b a c=true):∃N,zy3 N b a c=some [aT .kept (zvR b a c)]:=by
 obtain⟨h,f⟩:=zN.1 j;have g:(zq6 a c).length<=big:=qU (zBn _ a 0) (zc5 f).1;refine zcw fun N e=>?_;unfold zy3 oN;conv=>zeta
 refine must (zbn ((zy8 _).2 h)) (must (zbn (by omega)) ?_);refine(zbj (zq6 a c) (fun i (t:lB×lS)=>((i:Int),(zq6 a c),t.1,t.2,[],[],())) _ (fun _ (x:Int) (t:List Bool×List Slot) k=>bif pc (SmK ⟨t.1,t.2⟩) then k ((zbY ⟨t.1,t.2⟩ x).Known,(zbY ⟨t.1,t.2⟩ x).Slots) else none) (fun (t:lB×lS)=>(some [(.agg (Ty.cells .kept (⟨t.1,t.2⟩:Kept)))])) (fun i d t rec=>?_) (fun t rec=>?_) _ ((zdI b).Known,(zdI b).Slots) (e g)).trans ?_;{simp only [zbS d,zbl d,zbv d,zbh d g,cT]};{simp only [zbK,cF]};exact zAY _ _ 0 b h
theorem zEO:vL 134 zvI:=kF3 zuW zu zA zo zLT zLi
@[simp] abbrev zqG (k:Kept)(l:List Slot)(p:Int):Bool:=pc (SmK k/\l.length<=1048576)
@[simp] abbrev zvi (k:Kept)(l:List Slot)(p:Int):Kept:=zic k l p
def zvE:Run:=rF3 (dT .kept) (dS .slot) dI fun b c d=>(zqG b c d,[aT .kept (zvi b c d)])
def zyX (N:Nat)(c:Kept)(d:lS)(e:Int):OA:=
 (oN (zgu c) (oN (zBi d e) (iter (σ:=(Int×(Int×((List Int)×(lB×(lS×(lB×(lS×Unit)))))))) N (fun g a=>let f:=(ix a.2.2.1 a.2.1 0);let b:=(⟨a.2.2.2.2.2.1,a.2.2.2.2.2.2.1⟩:Kept); (cond (ilt a.2.1 a.1) (oN (inb a.2.1 (ln a.2.2.1)) (oN (zA9 b f) (g (a.1,((zL .i64 a.2.1 1),(a.2.2.1,(a.2.2.2.1,(a.2.2.2.2.1,((zvh b f).Known,((zvh b f).Slots,())))))))))) (some [(aT .kept b)]))) ((ln (zli d e)),(0,((zli d e),([],([],((zdx c).Known,((zdx c).Slots,()))))))))))
def zLP:FuncId->Nat->Option Tmpl:=zx [(129,0,{n:=25,tm:=[(6,.lp 0 0),(7,.lp 1 0),(14,.sl 0 []),(15,ti),(16,ti)],lo:=[(0,[.sl 1 [],.sl 2 []]),(1,[.sl 3 [],.sl 4 []])],ro:=[(0,.int,true),(1,.bool,true),(2,.slot,true),(3,.bool,true),(4,.slot,true)]})]
theorem zLa (c:Kept)(a:List Slot)(b:Int)(j:zqG c a b=true):∃N,zyX N c a b=some [aT .kept (zvi c a b)]:=by
 obtain⟨h,f⟩:=zN.1 j;have g:(zli a b).length<=big:=qU (zBn _ a 0) (zc5 f).1;refine zcw fun N e=>?_;unfold zyX oN;conv=>zeta
 refine must (zbn h) (must (zbn (by omega)) ?_);refine(zbj (zli a b) (fun i (t:lB×lS)=>((ln (zli a b)),(i:Int),(zli a b),[],[],t.1,t.2,())) _ (fun _ (x:Int) (t:List Bool×List Slot) k=>bif pc (SmK ⟨t.1,t.2⟩) then k ((zbY ⟨t.1,t.2⟩ x).Known,(zbY ⟨t.1,t.2⟩ x).Slots) else none) (fun (t:lB×lS)=>(some [(.agg (Ty.cells .kept (⟨t.1,t.2⟩:Kept)))])) (fun i d t rec=>?_) (fun t rec=>?_) _ ((zdx c).Known,(zdx c).Slots) (e g)).trans ?_;{simp only [zbS d,zbl d,zbv d,zbh d g,cT]};{simp only [zbK,cF]};exact zAY _ _ 0 c h
theorem zEJ:vL 129 zvE:=kF3 zuW zu zA zo zLP zLa
def flushed (l:List Entry)(p:Int):List Entry:=l.filter fun e=>!ieq e.Host p
theorem zIX (l:List Entry)(p:Int):(flushed l p).length<=l.length:=k7 _ _
theorem zl4 {b e:Type}(p:b->Bool)(K:List b->Option e):∀(l:List b) (i:Nat) (a:List b),a.length+l.length<=2147483648->
 goL (fun _ x a d=>bif p x then (cond (few (ln (ap a [x]))) (d (ap a [x])) none) else d a) K l i a=K (a++l.filter p)
 |[],i,a,_=>by simp[goL]
 |x::l,i,a,h=>by simp only[qZ]at h;simp only[goL];cases c:p x;{rw [cF,zl4 p K l (i+1) a (by omega),List.filter_cons_of_neg (by simp[c])]};{rw [cT,zgV (by simp[ap];omega),cT,zl4 p K l (i+1) _ (by simp[ap];omega),List.filter_cons_of_pos c];simp[ap]}
@[simp] abbrev zh3 (l:List Entry)(p:Int):Bool:=pc (l.length<=1048576)
@[simp] abbrev zrN (l:List Entry)(p:Int):List Entry:=flushed l p
def zxi:Run:=rF2 (dS .entry) dI fun b c=>(zh3 b c,[aS .entry (zrN b c)])
def zCl (N:Nat)(e:lE)(f:Int):OA:=
 (iter (σ:=(Int×(Int×(lE×(lE×Unit))))) N (fun d a=>let b:=a.2.2.1;let c:=(ix b a.2.1 zfO); (cond (ilt a.2.1 (ln b)) (oN (inb a.2.1 (ln b)) (cond (ine c.Host a.1) (oN (inb a.2.1 (ln b)) (oN (few (ln (ap a.2.2.2.1 [c]))) (d (a.1,((zL .i64 a.2.1 1),(b,((ap a.2.2.2.1 [c]),()))))))) (d (a.1,((zL .i64 a.2.1 1),(b,(a.2.2.2.1,()))))))) (some [(aS .entry a.2.2.2.1)]))) (f,(0,(e,([],())))))
def zPN:FuncId->Nat->Option Tmpl:=zx [(135,0,{n:=29,tm:=[(0,.sl 0 []),(1,ti),(5,.sl 1 []),(6,ti)],lo:=[],ro:=[(0,.entry,false),(1,.entry,true)]})]
theorem zOG (a:List Entry)(b:Int)(h:zh3 a b=true):∃N,zCl N a b=some [aS .entry (zrN a b)]:=by
 have j:=zN.1 h;have f:=zc5 j;refine zcw fun N d=>?_;unfold zCl oN;conv=>zeta
 refine(zbj a (fun i (t:lE)=>(b,(i:Int),a,t,())) _ (fun _ (x:Entry) (t:List Entry) g=>bif !ieq x.Host b then (cond (few (ln (ap t [x]))) (g (ap t [x])) none) else g t) (fun (t:lE)=>(some [(.one (.s .entry t))])) (fun i c t rec=>?_) (fun t rec=>?_) _ ([]) (d f.1)).trans ?_;{simp only [zbS c,zbl c,zbv c,zbh c f.1,cT];rfl};{simp only [zbK,cF]};exact zl4 (fun e=>!ieq e.Host b) _ a 0 [] (by simpa using f.2)
theorem zHv:vL 135 zxi:=kF2 zuW zu zA zo zPN zOG
@[simp] abbrev zhZ (l:List Entry)(p:Int):Bool:=pc (l.length<=1048576)
@[simp] abbrev zkz (l:List Entry)(p:Int):List Entry:=flushed l p
def zw9:Run:=rF2 (dS .entry) dI fun b c=>(zhZ b c,[aS .entry (zkz b c)])
def zCb (N:Nat)(d:lE)(f:Int):OA:=
 (iter (σ:=(Int×(Int×(Int×(lE×(lE×Unit)))))) N (fun e a=>let b:=a.2.2.2.2.1;let c:=(ix b a.2.1 zfO); (cond (ilt a.2.1 a.1) (oN (inb a.2.1 (ln b)) (cond (nB (ieq c.Host a.2.2.1)) (oN (few (ln (ap a.2.2.2.1 [c]))) (e (a.1,((zL .i64 a.2.1 1),(a.2.2.1,((ap a.2.2.2.1 [c]),(b,()))))))) (e (a.1,((zL .i64 a.2.1 1),(a.2.2.1,(a.2.2.2.1,(b,())))))))) (some [(aS .entry a.2.2.2.1)]))) ((ln d),(0,(f,([],(d,()))))))
def zPK:FuncId->Nat->Option Tmpl:=zx [(206,0,{n:=25,tm:=[(1,.fn 207 [0]),(5,.sl 0 []),(9,.sl 1 []),(10,ti),(11,ti)],lo:=[(0,[ti])],ro:=[(0,.entry,true),(1,.entry,false)]})]
theorem zOv (a:List Entry)(b:Int)(h:zhZ a b=true):∃N,zCb N a b=some [aS .entry (zkz a b)]:=by
 have j:=zN.1 h;have f:=zc5 j;refine zcw fun N d=>?_;unfold zCb oN nB;conv=>zeta
 refine(zbj a (fun i (t:lE)=>((ln a),(i:Int),b,t,a,())) _ (fun _ (x:Entry) (t:List Entry) g=>bif !ieq x.Host b then (cond (few (ln (ap t [x]))) (g (ap t [x])) none) else g t) (fun (t:lE)=>(some [(.one (.s .entry t))])) (fun i c t rec=>?_) (fun t rec=>?_) _ ([]) (d f.1)).trans ?_;{simp only [zbS c,zbl c,zbv c,zbh c f.1,cT];cases ieq a[i].Host b<;>rfl};{simp only [zbK,cF]};exact zl4 (fun e=>!ieq e.Host b) _ a 0 [] (by simpa using f.2)
theorem zHm:vL 130 zw9:=kF2 zuW zu zA zo zPK zOv
def z3J:zbb:=[(134,zvI),(129,zvE),(135,zxi),(130,zw9)]++zbbK
theorem zKb:zM z3J:=zi zEO (zi zEJ (zi zHv (zi zHm zuW)))
def zlP (b:List Guest)(p:Int):Nat->List Kept->List Kept
 | 0,a=>a
 |n+1,a=>up (zlP b p n a) (n:Int) (zic (ix (zlP b p n a) (n:Int) zeU) (ix b (n:Int) zl).Live p)
theorem zrd (b:List Guest)(p:Int):∀(n:Nat) (a:List Kept),(zlP b p n a).length=a.length
 | 0,_=>rfl
 |n+1,a=>by simp only[zlP,zgX];exact zrd b p n a
theorem zxU (b:List Guest)(p:Int):∀(n:Nat) (a:List Kept),n<=a.length->zEl a->zEl (zlP b p n a)
 | 0,_,_,h=>h
 |n+1,a,e,h=>by have d:=zxU b p n a (by omega) h;have c:n<(zlP b p n a).length:=(by rw[zrd];omega);exact zAp d (zbaH _ _ (by rw[zbv c];exact d.2 _ (jK c)))
def zkR (x:Mon)(p:Int)(n:Nat):Mon:={x with Tables:=zlP x.Guests p n x.Tables}
theorem z8y {x:Mon}{p:Int}{n:Nat}(a:n<=x.Tables.length)(h:zft x):zft (zkR x p n):=⟨h.1,h.2.1,h.2.2.1,h.2.2.2.1,h.2.2.2.2.1,zxU _ _ _ _ a h.2.2.2.2.2⟩
def zcp (h:Host)(m p:Int)(s:Slot):Host :=
 bif ine (ix (ix h.Mons m zh).Outer p zW).Page (-1)
 then ⟨h.Memory,up h.Mons m {zkR (ix h.Mons m zh) p (ix h.Mons m zh).Tables.length with Outer:=up (ix h.Mons m zh).Outer p s},flushed h.Buffer (ix (ix h.Mons m zh).Outer p zW).Page,flushed h.IoBuffer (ix (ix h.Mons m zh).Outer p zW).Page⟩
 else ⟨h.Memory,up h.Mons m {zkR (ix h.Mons m zh) p (ix h.Mons m zh).Tables.length with Outer:=up (ix h.Mons m zh).Outer p s},h.Buffer,h.IoBuffer⟩
def zbeh (h:Host)(m p:Int):Prop:=hasB m (ln h.Mons)=true/\hasB p (ln (ix h.Mons m zh).Outer)=true/\(ix h.Mons m zh).Tables.length<=(ix h.Mons m zh).Guests.length
@[simp] abbrev zfp (h:Host)(m p:Int)(s:Slot):Bool:=pc (zct h/\zbeh h m p)
@[simp] abbrev zhf (h:Host)(m p:Int)(s:Slot):Host:=zcp h m p s
def ztp:List AV->Option (Bool×List AV)
 |[.agg [.s (.sl .int) b,.s .mon c,.s .entry d,.s .entry e],.one (.i .i64 f),.one (.i .i64 g),.agg [.i .i64 h,.i .i64 j]]=>some ((zfp (⟨b,c,d,e⟩:Host) f g (⟨h,j⟩:Slot)),[aH (zhf (⟨b,c,d,e⟩:Host) f g (⟨h,j⟩:Slot))])
 |_=>none
def zx7 (N:Nat)(p:Host)(g z:Int)(B:Slot):OA:=
 let v:=(ix p.Mons g zh); (oN (inb g (ln p.Mons)) (oN (inb z (ln v.Outer)) (iter (σ:=(Int×(Int×(Int×(Int×(Int×(Int×(Int×(Int×(Int×(Int×(Int×(Int×(Int×(Int×(Int×(lM×(lN×(lE×(lE×(lM×(lN×(lE×(lE×Unit)))))))))))))))))))))))) N (fun D a=>let d:=a.2.2.1;let m:=a.2.2.2.2.2.2.2.2.2.2.2.1;let l:=a.2.2.2.2.2.2.2.2.2.2.2.2.1;let k:=a.2.2.2.2.2.2.2.2.2.2.2.2.2.2.1;let j:=a.2.2.2.2.2.2.2.2.2.2.2.2.2.2.2.1;let f:=a.2.2.2.2.2.2.2.1;let e:=a.2.2.2.2.2.2.2.2.1;let c:=a.2.2.2.1;let w:=a.2.2.2.2.2.2.2.2.2.2.1;let y:=a.2.2.2.2.2.2.2.2.2.2.2.2.2.2.2.2.2.1;let x:=a.2.2.2.2.2.2.2.2.2.2.2.2.2.2.2.2.2.2.1;let n:=a.2.2.2.2.2.2.1;let r:=a.2.2.2.2.2.2.2.2.2.1;let i:=a.2.2.2.2.2.2.2.2.2.2.2.2.2.1;let q:=a.2.2.2.2.2.2.2.2.2.2.2.2.2.2.2.2.1;let u:=(ix q r zh).Guests;let t:=(ix u c zl).Live;let h:=(ix q n zh);let s:=(ix q i zh).Tables;let C:=(up q n ({h with Outer:=(up h.Outer a.2.1 (⟨a.2.2.2.2.1,a.2.2.2.2.2.1⟩:Slot))}:Mon)); (cond (ilt c (ln s)) (oN (inb c (ln s)) (oN (inb c (ln u)) (oN (zmo (ix s c zeU) t a.2.1) (oN (inb c (ln s)) (share (up q i ({ (ix q i zh) with Tables:=(up s c (zvR (ix s c zeU) t a.2.1))}:Mon)) (fun b=>(D (a.1,(a.2.1,(d,((zL .i64 c 1),(a.2.2.2.2.1,(a.2.2.2.2.2.1,(n,(f,(e,(r,(w,(m,(l,(i,(k,(j,(b,(y,(x,(a.2.2.2.2.2.2.2.2.2.2.2.2.2.2.2.2.2.2.2.1,(a.2.2.2.2.2.2.2.2.2.2.2.2.2.2.2.2.2.2.2.2.1,(a.2.2.2.2.2.2.2.2.2.2.2.2.2.2.2.2.2.2.2.2.2.1,(a.2.2.2.2.2.2.2.2.2.2.2.2.2.2.2.2.2.2.2.2.2.2.1,())))))))))))))))))))))))))))))) (cond (ine d (-1)) (oN (zh3 y d) (oN (zh3 x d) (oN (inb a.2.1 (ln h.Outer)) (share C (fun b=>(oN (inb a.1 (ln b)) (oN (cond (cond (cond (cond (cond (cond (ieq i a.1) true false) (cond (ieq w a.1) true false) false) (cond (ieq r a.1) true false) false) (cond (ieq e a.1) true false) false) (cond (ieq f a.1) true false) false) (cond (ieq n a.1) true false) false) (share (up b a.1 ({ (ix b n zh) with Out:=(ix b f zh).Out,Dirty:=(ix b e zh).Dirty,Guests:=(ix b r zh).Guests,Outs:=(ix b w zh).Outs,Pending:=m,Traps:=l,Tables:=(ix b i zh).Tables,Own:=k}:Mon)) (fun A=>(some [(aH (⟨j,A,(zrN y d),(zrN x d)⟩:Host))])))))))))) (oN (inb a.2.1 (ln h.Outer)) (share C (fun b=>(oN (inb a.1 (ln b)) (oN (cond (cond (cond (cond (cond (cond (ieq i a.1) true false) (cond (ieq w a.1) true false) false) (cond (ieq r a.1) true false) false) (cond (ieq e a.1) true false) false) (cond (ieq f a.1) true false) false) (cond (ieq n a.1) true false) false) (share (up b a.1 ({ (ix b n zh) with Out:=(ix b f zh).Out,Dirty:=(ix b e zh).Dirty,Guests:=(ix b r zh).Guests,Outs:=(ix b w zh).Outs,Pending:=m,Traps:=l,Tables:=(ix b i zh).Tables,Own:=k}:Mon)) (fun A=>(some [(aH (⟨j,A,y,x⟩:Host))]))))))))))) (g,(z,((ix v.Outer z zW).Page,(0,(B.Page,(B.Rights,(g,(g,(g,(g,(g,(v.Pending,(v.Traps,(g,(v.Own,(p.Memory,(p.Mons,(p.Buffer,(p.IoBuffer,([],([],([],([],()))))))))))))))))))))))))))
def zVW:FuncId->Nat->Option Tmpl:=zx [(78,0,{n:=70,tm:=[(1,ti),(2,ti),(4,.lp 0 0),(7,.lp 1 0),(8,.lp 2 0),(9,.lp 3 0),(10,ti),(11,ti)],lo:=[(0,[.sl 0 [],.sl 1 [],.sl 2 [],.sl 3 []]),(1,[ti,ti]),(2,[.sl 4 [],.sl 5 [],.sl 6 [],.sl 7 []]),(3,[.sl 1 [0],.sl 1 [1],.sl 1 [2],.sl 1 [3],.sl 1 [4],ti,ti,.sl 1 [7],ti])],ro:=[(0,(.sl .int),true),(1,.mon,true),(2,.entry,true),(3,.entry,true),(4,(.sl .int),true),(5,.mon,true),(6,.entry,true),(7,.entry,true)]})]
theorem zYP (N:Nat)(a:Host)(b c:Int)(d:Slot):zGR (cQ z3J zpd zLu zZS) zVW N 12 78 [true,true,true,true,false,false,false,false] 1 1 [[0],[1],[2],[4],[7]] .mon [aH a,aI b,aI c,aT .slot d]=zx7 N a b c d:=by kernel_rfl
theorem zVx (a:Host)(f b:Int)(d:Slot)(D:zcE big [aH a,aI f,aI b,aT .slot d])(y:zfp a f b d=true):∃N,zx7 N a f b d=some [aH (zhf a f b d)]:=by
 obtain⟨B,g,s,C⟩:=zN.1 y;have l:=(zS a).1 B;have r:zft (ix a.Mons f zh):=l.2.1.2 _ (zbB g _);obtain⟨k,rfl,q⟩:=zdX (n:=a.Mons.length) g;have x:=(zc5 r.2.2.2.2.2.1).1;refine zcw fun N p=>?_;unfold zx7 oN;conv=>zeta
 refine must g (must s ?_);refine zG1 (ix a.Mons (k:Int) zh).Tables.length (fun i (t:List Mon)=>((k:Int),b,(ix (ix a.Mons (k:Int) zh).Outer b zW).Page,(i:Int),d.Page,d.Rights,(k:Int),(k:Int),(k:Int),(k:Int),(k:Int),(ix a.Mons (k:Int) zh).Pending,(ix a.Mons (k:Int) zh).Traps,(k:Int),(ix a.Mons (k:Int) zh).Own,a.Memory,t,a.Buffer,a.IoBuffer,[],[],[],[],())) _
  (fun i t=>t=up a.Mons (k:Int) (zkR (ix a.Mons (k:Int) zh) b i)) (fun _ _=>some [AV.agg (zbi (zcp a (k:Int) b d))]) (fun i t rec u m A=>?_) (fun t rec m=>?_) _ 0 a.Mons ?_ (jZ _) ?_
 .subst m;have c:i<(zlP (ix a.Mons (k:Int) zh).Guests b i (ix a.Mons (k:Int) zh).Tables).length:=(by rw[zrd];exact u);have e:i<(ix a.Mons (k:Int) zh).Guests.length:=by omega
  have z:zmo (ix (zlP (ix a.Mons (k:Int) zh).Guests b i (ix a.Mons (k:Int) zh).Tables) (i:Int) zeU) (ix (ix a.Mons (k:Int) zh).Guests (i:Int) zl).Live b=true :=
   zbn ⟨by rw[zbv c];exact(zxU _ _ _ _ (by omega) r.2.2.2.2.2).2 _ (jK c),by rw[zbv e];exact(r.2.2.2.1.2 _ (jK e)).2.2.1⟩
  simp only[zd3 q,zxW,zkR,zbS c,zbl c,zbl e,z,cT,share,zbh u x];exact A _ rfl
 {subst m;simp only[zd3 q,zxW,zgX,zkR,ln,zrd,zK8,show ilt (((ix a.Mons (k:Int) zh).Tables.length:Nat):Int) (((ix a.Mons (k:Int) zh).Tables.length:Nat):Int)=false from qH (by omega),cT,cF,share];have h:inb (k:Int) ((a.Mons.length:Nat):Int)=true:=g;have j:inb b (((ix a.Mons (k:Int) zh).Outer.length:Nat):Int)=true:=s;have v:zh3 a.Buffer (ix (ix a.Mons (k:Int) zh).Outer b zW).Page=true:=zbn l.2.2.1;have w:zh3 a.IoBuffer (ix (ix a.Mons (k:Int) zh).Outer b zW).Page=true:=zbn l.2.2.2;simp only[h,j,v,w,cT];unfold zcp;cases ine (ix (ix a.Mons (k:Int) zh).Outer b zW).Page (-1)<;>rfl};{exact(zSG q _).symm};{exact p (by omega)}
theorem zOe:zeh Tryz.prog 78 [true,true,true,true,false,false,false,false] (some (1,1,[[0],[1],[2],[4],[7]])) ztp:=by refine zl6 (kt:=.mon) (zgF zKb zu zA zo) (ziQ (by kernel_rfl)) (by kernel_rfl) ?_;intro a g f e h;have c:=ziT e;unfold ztp at h;split at h;{obtain⟨d,rfl⟩:=zd7 h;obtain⟨N,b⟩:=zVx _ _ _ _ (by exact c) d;exact⟨⟨_,rfl⟩,rfl,_,N,12,(zYP N _ _ _ _ ).trans b⟩};{cases h}
def zZT:zfh:=[(78,([true,true,true,true,false,false,false,false],(some (1,1,[[0],[1],[2],[4],[7]])),ztp))]++zZS
theorem zds:zec zZT:=zre zo (by
 intro x a;simp only[qG,qN,or_false]at a;rcases a with rfl
 .exact zOe)
def z0l (x:Mon)(p:Int):Mon:={x with Dirty:=up x.Dirty p false}
def zrg (h:Host)(m p:Int):Host:={h with Mons:=up h.Mons m (z0l (ix h.Mons m zh) p)}
def zu6 (h:Host)(m p:Int):Host:=bif zcC h m p then (cond (zc4 (ix (ix h.Mons m zh).Outer p zW) noSlot) (zrg h m p) (zcp (zrg h m p) m p ⟨(ix (ix h.Mons m zh).Outer p zW).Page,1⟩)) else h
theorem zA4:∀(l:List Mon) (u:List Bool),ziX l u=true->∀x∈l,zef x=true
 |[],_,_,x,a=>by cases a
 |m::l,u,h,x,a=>by
  simp only[ziX]at h;cases b:zef m;{rw [b]at h;cases h}
  .rw [b]at h;simp only[cT]at h;cases c:zgY m.Outer u with
   |none=>rw[c]at h;cases h
   |some d =>rw[c]at h;rcases qG.1 a with rfl|a;{exact b};{exact zA4 l d h x a}
structure PageAt (h:Host) (m p:Int):Prop where
 hm:hasB m (ln h.Mons)=true
 hp:hasB p 8=true
 ok:zef (ix h.Mons m zh)=true
 ho:(ix h.Mons m zh).Outer.length=8
 hd:(ix h.Mons m zh).Dirty.length=8
 ht:(ix h.Mons m zh).Tables.length=(ix h.Mons m zh).Guests.length
 hs:zc4 (ix (ix h.Mons m zh).Outer p zW) noSlot=ieq (ix (ix h.Mons m zh).Outer p zW).Page (-1)
theorem zUb {s:Slot}{n:Int}(h:zdQ s n=true):zc4 s noSlot=ieq s.Page (-1):=by unfold zdQ at h;cases a:zc4 s noSlot;{rw [a]at h;cases d:ieq s.Page (-1);{rfl};{have e:s.Page = -1:=qD d;cases b:igt n 0;{rw [b]at h;cases h};{cases c:win s.Page 0 (wsub .i64 n 1);{rw [b,c]at h;cases h};{have:=(ze4.1 c).1;omega}}}};{unfold zc4 at a;rw[qE]at a;exact a.1.symm}
theorem zOZ {h:Host}{m p:Int}(d:zcC h m p=true):PageAt h m p:=by unfold zcC at d;simp only[zdj]at d;obtain⟨c,f,g⟩:=d;unfold zce at c;simp only[zdj]at c;have b:=zA4 _ _ c.2.2.2.2 _ (zbB f zh);have a:=b;unfold zef at a;simp only[zdj]at a;have i:(ix h.Mons m zh).Outer.length=8:=(by have:=zsP a.2.2.1;simp only[ln] at this;omega);refine⟨f,g,b,i,?_,?_,?_⟩;{have:ln (ix h.Mons m zh).Dirty=8:=qD a.2.2.2.2.1;simp only[ln] at this;omega};{have:ln (ix h.Mons m zh).Tables=ln (ix h.Mons m zh).Guests:=qD a.2.1;simp only[ln] at this;omega};{have e:=a.2.2.1;unfold zc1 at e;simp only[zdj]at e;have j:hasB p (ln (ix h.Mons m zh).Outer)=true:=(by rw[ln,i];exact g);exact zUb (qM.1 e.1 _ (zbB j _))}
theorem zZJ {x:Mon}{p:Int}(h:zft x):zft (z0l x p):=⟨h.1,h.2.1,by simpa [z0l] using h.2.2.1,h.2.2.2⟩
theorem zBZ {h:Host}{m p:Int}(b:hasB m (ln h.Mons)=true)(a:SmH h):SmH (zrg h m p):=⟨a.1,zjy a.2.1 (zZJ (a.2.1.2 _ (zbB b _))),a.2.2⟩
theorem zJI {h:Host}{m p:Int}{s:Slot}(d:hasB m (ln h.Mons)=true)(a:SmH h):SmH (zcp h m p s):=by have c:=a.2.1.2 _ (zbB d zh);have e:=z8y (p:=p) (qY _) c;have b:zsi (up h.Mons m {zkR (ix h.Mons m zh) p (ix h.Mons m zh).Tables.length with Outer:=up (ix h.Mons m zh).Outer p s}):=zjy a.2.1 ⟨by simpa using c.1,e.2⟩;unfold zcp;cases ine (ix (ix h.Mons m zh).Outer p zW).Page (-1);{exact⟨a.1,b,a.2.2⟩};{exact⟨a.1,b,qU (zIX _ _) a.2.2.1,qU (zIX _ _) a.2.2.2⟩}
theorem zB2 {h:Host}{m p:Int}(a:hasB m (ln h.Mons)=true):hasB m (ln (zrg h m p).Mons)=true:=by unfold zrg;simpa [ln] using a
theorem z8u {h:Host}{m p:Int}(a:SmH h):SmH (zu6 h m p):=by unfold zu6;cases b:zcC h m p;{exact a};{have P:=zOZ b;cases zc4 (ix (ix h.Mons m zh).Outer p zW) noSlot;{exact zJI (zB2 P.hm) (zBZ P.hm a)};{exact zBZ P.hm a}}
@[simp] abbrev zGg (h:Host)(m p:Int):Bool:=pc (zct h)
@[simp] abbrev zxo (h:Host)(m p:Int):Host:=zu6 h m p
@[simp] abbrev zxp (h:Host)(m p:Int):Bool:=zcC h m p
def zJn:Run:=rF3 dH dI dI fun b c d=>(zGg b c d,[aH (zxo b c d),aB (zxp b c d)])
def zSY (N:Nat)(h:Host)(a b:Int):OA:=
 let c:=(zB h);let g:=(ix c.Mons a zh); (oN (zbV h) (oN (zow c a b) (cond (nB (zh4 c a b)) (some [(aH c),(aB false)]) (oN (inb a (ln c.Mons)) (oN (inb b (ln g.Dirty)) (share (up c.Mons a ({g with Dirty:=(up g.Dirty b false)}:Mon)) (fun d=>let i:=(ix d a zh).Outer;let f:=({c with Mons:=d}:Host);let e:=(ix i b zW);let j:=({e with Rights:=1}:Slot); (oN (inb a (ln d)) (oN (inb b (ln i)) (oN zcA (cond (cond (ieq e.Page zbw.Page) (ieq e.Rights zbw.Rights) false) (some [(aH f),(aB true)]) (oN (zfp f a b j) (some [(aH (zhf f a b j)),(aB true)])))))))))))))
theorem z06 (a:Host)(c b:Int)(j:zGg a c b=true):∃N,zSY N a c b=some [aH (zxo a c b),aB (zxp a c b)]:=by
 have g:=zN.1 j;have i:=(zS a).1 g;refine⟨0,?_⟩;unfold zSY zxo zxp zu6 oN nB;conv=>zeta
 refine must (zbn g) (must rfl ?_);cases f:zcC a c b;{simp only [zh4,zB,f,cF,cT]};{have P:=zOZ f;obtain⟨k,rfl,d⟩:=zdX (n:=a.Mons.length) P.hm;simp only[zh4,zB,f,cT,cF];have l:inb b (ln (ix a.Mons (k:Int) zh).Dirty)=true:=(by rw[ln,P.hd];exact P.hp);have h:inb b (ln (ix a.Mons (k:Int) zh).Outer)=true:=(by rw[ln,P.ho];exact P.hp);refine must P.hm (must l ?_);simp only[share,zd3 d,h,cT,zcA,zbw];refine must (zB2 (p:=b) P.hm) ?_;have e:∀s:Slot,zc4 s noSlot=bif ieq s.Page noSlot.Page then ieq s.Rights noSlot.Rights else false:=fun s=>(by unfold zc4;cases ieq s.Page noSlot.Page<;>rfl);rw[<- e];cases zc4 (ix (ix a.Mons (k:Int) zh).Outer b zW) noSlot;{refine zdh rfl (must (zbn ⟨(zS _).2 (zBZ P.hm i),zB2 (p:=b) P.hm,?_,?_⟩) rfl);{simp only [zd3 d];exact h};{simp only [zd3 d];exact kV P.ht}};{rfl}}
theorem zUz:vL 31 zJn:=kF3 zKb zu zA zds (zx []) z06
def z6F:zbb:=[(31,zJn)]++z3J
theorem z6G:zM z6F:=zi zUz zKb
def z6H:zbb:=z6F
theorem ze6:zM z6H:=z6G
end
end Go.Proofs.YthdlghbibaoabaaGreat.E
