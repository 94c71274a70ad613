/- What is proved here: a part of the proof that the statement of this claim holds (several texts of wip/, laid together). -/
import Derived.Test.YtldknngdnednbaaGreatW3
namespace Go.Proofs.YtldknngdnednbaaGreat.E
open Go
set_option linter.unusedVariables false
set_option maxRecDepth 100000
set_option linter.unusedSimpArgs false
set_option linter.unusedSectionVars false
noncomputable section
theorem must {ρ:Type}{c:Bool}{a b r:Option ρ}(h:c=true)(k:a=r):(cond c a b)=r:=by rw [h];exact k
theorem zxT {ρ:Type}{c:Bool}{a b r:Option ρ}(h:c=false)(k:b=r):(cond c a b)=r:=by rw [h];exact k
theorem br {ρ:Type}{c:Bool}{a b r:Option ρ}(h1:c=true->a=r)(h2:c=false->b=r):(cond c a b)=r:=by
 cases c
 ·exact h2 rfl
 ·exact h1 rfl
theorem brN {ρ:Type}{c:Bool}{a b r:Option ρ}(h1:c=false->a=r)(h2:c=true->b=r):(cond (cond c false true) a b)=r:=by
 cases c
 ·exact h1 rfl
 ·exact h2 rfl
theorem shr {α ρ:Type}{x:α}{f:α->Option ρ}{r:Option ρ}(h:f x=r):share x f=r:=h
theorem ze0 {ρ:Type}{c p:Bool}{a b:Option ρ}(hc:c=true):(cond c (cond (cond p false true) a b) none)=bif p then b else a:=by
 rw [hc];cases p<;>rfl
attribute [simp] zI
@[simp] theorem zTL {α:Type}(l:List α):(few (ln l)=true)↔l.length<=2147483648:=by
 unfold few ln;rw [decide_eq_true_iff];omega
@[simp] theorem zOC {α:Type}(l m:List α):(ap l m).length=l.length+m.length:=by simp [ap]
attribute [simp] zAm zrB
@[simp] theorem zTj (n:Nat)(k:IntKind)(x:Int):CVB n (.i k x)↔True:=⟨fun _=>trivial,fun _=>.i k x⟩
@[simp] theorem zTT (n:Nat)(x:Bool):CVB n (.b x)↔True:=⟨fun _=>trivial,fun _=>.b x⟩
theorem zhl {n:Nat}{t:Ty}(l:List t.den):CVB n (.s t l)↔l.length<=n/\∀x∈l,∀c∈t.cells x,CVB n c:=⟨fun h=>h.inv,fun h=>.s t l h.1 h.2⟩
@[simp] theorem zMV (n:Nat)(l:List Int):CVB n (.s .int l)↔l.length<=n:=by rw [zhl];simp [Ty.cells]
@[simp] theorem zSN (n:Nat)(l:List Int):CVB n (.s .u8 l)↔l.length<=n:=by rw [zhl];simp [Ty.cells]
@[simp] theorem zQb (n:Nat)(l:List Bool):CVB n (.s .bool l)↔l.length<=n:=by rw [zhl];simp [Ty.cells]
@[simp] theorem zQc (n:Nat)(l:List Slot):CVB n (.s .slot l)↔l.length<=n:=by rw [zhl];simp [Ty.cells]
@[simp] theorem zRT (n:Nat)(l:List Ins):CVB n (.s .ins l)↔l.length<=n:=by rw [zhl];simp [Ty.cells]
@[simp] theorem zOI (n:Nat)(l:List Entry):CVB n (.s .entry l)↔l.length<=n:=by rw [zhl];simp [Ty.cells]
@[simp] theorem zRS (n:Nat)(l:List GAct):CVB n (.s .act l)↔l.length<=n:=by rw [zhl];simp [Ty.cells]
@[simp] theorem zQd (n:Nat)(l:List Told):CVB n (.s .told l)↔l.length<=n:=by rw [zhl];simp [Ty.cells]
def SmM (m:List (List Int)):Prop:=m.length<=1048576/\∀x∈m,x.length<=1048576
def SmG (g:Guest):Prop:=g.Prog.length<=1048576/\g.Written.length<=1048576/\g.Live.length<=1048576/\g.Seen.length<=1048576
def zpU (l:List Guest):Prop:=l.length<=1048576/\∀x∈l,SmG x
def SmB (b:Bare):Prop:=SmM b.Memory/\zpU b.Guests/\b.Outs.length<=1048576
def zgz (l:List Bare):Prop:=l.length<=1048576/\∀x∈l,SmB x
theorem zS5:sm=1048576:=rfl
@[simp] theorem zTk (l:List Int):CVB sm (.s .int l)↔l.length<=1048576:=zMV sm l
@[simp] theorem zTC (l:List Int):CVB sm (.s .u8 l)↔l.length<=1048576:=zSN sm l
@[simp] theorem zTb (l:List Bool):CVB sm (.s .bool l)↔l.length<=1048576:=zQb sm l
@[simp] theorem zTc (l:List Slot):CVB sm (.s .slot l)↔l.length<=1048576:=zQc sm l
@[simp] theorem zNx (l:List Ins):CVB sm (.s .ins l)↔l.length<=1048576:=zRT sm l
@[simp] theorem zSL (l:List Entry):CVB sm (.s .entry l)↔l.length<=1048576:=zOI sm l
@[simp] theorem zTi (l:List GAct):CVB sm (.s .act l)↔l.length<=1048576:=zRS sm l
@[simp] theorem zTd (l:List Told):CVB sm (.s .told l)↔l.length<=1048576:=zQd sm l
@[simp] theorem zRU (l:List (List Int)):CVB sm (.s (.sl .int) l)↔SmM l:=by rw [zhl];simp [Ty.cells,SmM,zS5]
@[simp] theorem zRJ (g:Guest):(∀c∈Ty.cells .guest g,CVB sm c)↔SmG g:=by simp [Ty.cells,SmG,zS5]
@[simp] theorem zOJ (l:List Guest):CVB sm (.s .guest l)↔zpU l:=by rw [zhl];simp only [zRJ];rfl
@[simp] theorem zRI (b:Bare):(∀c∈Ty.cells .bare b,CVB sm c)↔SmB b:=by
 simp only [Ty.cells,List.mem_cons,List.not_mem_nil,or_false,forall_eq_or_imp,forall_eq,zRU,zOJ,zMV,zTj,and_true];rfl
@[simp] theorem zTF (l:List Bare):CVB sm (.s .bare l)↔zgz l:=by rw [zhl];simp only [zRI];rfl
@[simp] theorem zTQ (a:List Ins)(b c:Int)(d e:List Slot)(f:Ctl)(g:Int)(h:GExit)(i:Bool)(j:List Int):SmG ⟨a,b,c,d,e,f,g,h,i,j⟩↔a.length<=1048576/\d.length<=1048576/\e.length<=1048576/\j.length<=1048576:=Iff.rfl
@[simp] theorem zTP (m:List (List Int))(g:List Guest)(o:List Int)(p:Int):SmB ⟨m,g,o,p⟩↔SmM m/\zpU g/\o.length<=1048576:=Iff.rfl
theorem zS4 {m:List (List Int)}{i:Int}{x:List Int}(h:SmM m)(hx:x.length<=1048576):SmM (up m i x):=by
 refine ⟨by simpa using h.1,fun y hy=>?_⟩
 rcases List.mem_or_eq_of_mem_set hy with hy|rfl
 ·exact h.2 y hy
 ·exact hx
theorem zE5 {m:List Guest}{i:Int}{x:Guest}(h:zpU m)(hx:SmG x):zpU (up m i x):=by
 refine ⟨by simpa using h.1,fun y hy=>?_⟩
 rcases List.mem_or_eq_of_mem_set hy with hy|rfl
 ·exact h.2 y hy
 ·exact hx
theorem zNb {m:List Bare}{i:Int}{x:Bare}(h:zgz m)(hx:SmB x):zgz (up m i x):=by
 refine ⟨by simpa using h.1,fun y hy=>?_⟩
 rcases List.mem_or_eq_of_mem_set hy with hy|rfl
 ·exact h.2 y hy
 ·exact hx
theorem zCE {l:List Guest}{i:Int}(h:zpU l)(hh:hasB i (ln l)=true)(d:Guest):SmG (ix l i d):=h.2 _ (zBE hh d)
theorem zCB {l:List Bare}{i:Int}(h:zgz l)(hh:hasB i (ln l)=true)(d:Bare):SmB (ix l i d):=h.2 _ (zBE hh d)
theorem zS3 {l:List (List Int)}{i:Int}(h:SmM l)(hh:hasB i (ln l)=true)(d:List Int):(ix l i d).length<=1048576:=h.2 _ (zBE hh d)
@[simp] theorem zTy:SmG zo:=⟨by decide,by decide,by decide,by decide⟩
def win (x a b:Int):Bool:=ige x a&&ile x b
@[simp] theorem zTV (x a b:Int):zT x a b=win x a b:=rfl
@[simp] theorem zTU (x a b:Int):zX x a b=win x a b:=rfl
@[simp] theorem zTH (i n:Int):inb i n=hasB i n:=rfl
attribute [simp] zda
@[simp] theorem zTN {α:Type}{l:List α}(h:l.length<=1048576)(i:Int):win i 0 (wsub .i64 (ln l) 1)=hasB i (ln l):=zFz (zcP h).1 i
theorem zAe {α:Type}{l:List α}(h:l.length<=big)(i:Int):win i 0 (wsub .i64 (ln l) 1)=hasB i (ln l):=zFz h i
theorem zf0 {x a b:Int}:(win x a b=true)↔a<=x/\x<=b:=by
 unfold win ige ile;simp only [Bool.and_eq_true,decide_eq_true_iff]
attribute [simp] zfY ziW zhL zhn zrr zqc zfb zet zl0 zld zhJ zjZ
attribute [simp] zel zbQ zmC zdH
attribute [simp] ziz zcn ziS zdO
def zc6 (a:Int):Int:=bif ilt a 0 then -1 else zK7 .i64 a 4
def zdr (a:Int):Int:=bif ilt a 0 then -1 else zdD a 4
@[simp,reducible] def zeA (a:Int):Bool:=true
@[simp,reducible] def zbG (a:Int):Int:=zc6 a
def zlK:List AV->Option (Bool×List AV)
 | [.one (.i .i64 b)]=>some ((zeA b),[.one (.i .i64 (zbG b))])
 | _=>none
def zpH (N:Nat)(a0:Int):Option Ans :=
 (cond (ilt a0 0) (some [(.one (.i .i64 (-1)))]) (cond (ine 4 0) (some [(.one (.i .i64 (zK7 .i64 a0 4)))]) none))
theorem zHw (N:Nat)(a0:Int):evalFn (cQ zdw zL zF zG) (zB []) N 12 86 [.one (.i .i64 a0)]=zpH N a0:=by kernel_rfl
theorem zEo (a0:Int)(hb:zD big [.one (.i .i64 a0)])(hc:(zeA a0)=true):∃N,zpH N a0=some [.one (.i .i64 (zbG a0))]:=by
 refine ⟨0,?_⟩;unfold zpH;refine br (fun _=>?_) (fun _=>must rfl ?_)
 all_goals first|rfl|(simp only [*,zbG,zc6,cT,cF]<;>rfl)|simp_all [Ty.cells,zbG,zc6]
theorem zzt:Holds Tryz.prog 86 zlK:=zn zcf zA zq zu (zC (by kernel_rfl)) fun avs rs hb h=>by
 unfold zlK at h;split at h
 ·obtain ⟨hc,rfl⟩:=zi h;exact (fin1 zEo zHw hc hb :)
 ·cases h
@[simp,reducible] def zer (a:Int):Bool:=true
@[simp,reducible] def zbs (a:Int):Int:=zc6 a
def zlo:List AV->Option (Bool×List AV)
 | [.one (.i .i64 b)]=>some ((zer b),[.one (.i .i64 (zbs b))])
 | _=>none
def zpi (N:Nat)(a0:Int):Option Ans :=
 (cond (ilt a0 0) (some [(.one (.i .i64 (-1)))]) (cond (ine 4 0) (some [(.one (.i .i64 (zK7 .i64 a0 4)))]) none))
theorem zG6 (N:Nat)(a0:Int):evalFn (cQ zdw zL zF zG) (zB []) N 12 161 [.one (.i .i64 a0)]=zpi N a0:=by kernel_rfl
theorem zDY (a0:Int)(hb:zD big [.one (.i .i64 a0)])(hc:(zer a0)=true):∃N,zpi N a0=some [.one (.i .i64 (zbs a0))]:=by
 refine ⟨0,?_⟩;unfold zpi;refine br (fun _=>?_) (fun _=>must rfl ?_)
 all_goals first|rfl|(simp only [*,zbs,zc6,cT,cF]<;>rfl)|simp_all [Ty.cells,zbs,zc6]
theorem zy4:Holds Tryz.prog 161 zlo:=zn zcf zA zq zu (zC (by kernel_rfl)) fun avs rs hb h=>by
 unfold zlo at h;split at h
 ·obtain ⟨hc,rfl⟩:=zi h;exact (fin1 zDY zG6 hc hb :)
 ·cases h
@[simp,reducible] def zdW (a:Int):Bool:=true
@[simp,reducible] def zcd (a:Int):Int:=zdr a
def zlJ:List AV->Option (Bool×List AV)
 | [.one (.i .i64 b)]=>some ((zdW b),[.one (.i .i64 (zcd b))])
 | _=>none
def zpG (N:Nat)(a0:Int):Option Ans :=
 (cond (ilt a0 0) (some [(.one (.i .i64 (-1)))]) (cond (ine 4 0) (some [(.one (.i .i64 (zdD a0 4)))]) none))
theorem zHv (N:Nat)(a0:Int):evalFn (cQ zdw zL zF zG) (zB []) N 12 91 [.one (.i .i64 a0)]=zpG N a0:=by kernel_rfl
theorem zEn (a0:Int)(hb:zD big [.one (.i .i64 a0)])(hc:(zdW a0)=true):∃N,zpG N a0=some [.one (.i .i64 (zcd a0))]:=by
 refine ⟨0,?_⟩;unfold zpG;refine br (fun _=>?_) (fun _=>must rfl ?_)
 all_goals first|rfl|(simp only [*,zcd,zdr,cT,cF]<;>rfl)|simp_all [Ty.cells,zcd,zdr]
theorem zzs:Holds Tryz.prog 91 zlJ:=zn zcf zA zq zu (zC (by kernel_rfl)) fun avs rs hb h=>by
 unfold zlJ at h;split at h
 ·obtain ⟨hc,rfl⟩:=zi h;exact (fin1 zEn zHv hc hb :)
 ·cases h
@[simp,reducible] def zeq (a:Int):Bool:=true
@[simp,reducible] def zb9 (a:Int):Int:=zdr a
def zln:List AV->Option (Bool×List AV)
 | [.one (.i .i64 b)]=>some ((zeq b),[.one (.i .i64 (zb9 b))])
 | _=>none
def zph (N:Nat)(a0:Int):Option Ans :=
 (cond (ilt a0 0) (some [(.one (.i .i64 (-1)))]) (cond (ine 4 0) (some [(.one (.i .i64 (zdD a0 4)))]) none))
theorem zG5 (N:Nat)(a0:Int):evalFn (cQ zdw zL zF zG) (zB []) N 12 166 [.one (.i .i64 a0)]=zph N a0:=by kernel_rfl
theorem zDX (a0:Int)(hb:zD big [.one (.i .i64 a0)])(hc:(zeq a0)=true):∃N,zph N a0=some [.one (.i .i64 (zb9 a0))]:=by
 refine ⟨0,?_⟩;unfold zph;refine br (fun _=>?_) (fun _=>must rfl ?_)
 all_goals first|rfl|(simp only [*,zb9,zdr,cT,cF]<;>rfl)|simp_all [Ty.cells,zb9,zdr]
theorem zy3:Holds Tryz.prog 166 zln:=zn zcf zA zq zu (zC (by kernel_rfl)) fun avs rs hb h=>by
 unfold zln at h;split at h
 ·obtain ⟨hc,rfl⟩:=zi h;exact (fin1 zDX zG5 hc hb :)
 ·cases h
def zd7 (w:Bool):Int:=bif w then 2 else 1
@[simp,reducible] def zoW (w:Bool):Bool:=true
@[simp,reducible] def zcI (w:Bool):Int:=zd7 w
def zq8:List AV->Option (Bool×List AV)
 | [.one (.b c)]=>some ((zoW c),[.one (.i .i64 (zcI c))])
 | _=>none
def zvh (N:Nat)(a0:Bool):Option Ans :=
 (cond a0 (some [(.one (.i .i64 2))]) (some [(.one (.i .i64 1))]))
theorem zMm (N:Nat)(a0:Bool):evalFn (cQ zdw zL zF zG) (zB []) N 12 87 [.one (.b a0)]=zvh N a0:=by kernel_rfl
theorem zJs (a0:Bool)(hb:zD big [.one (.b a0)])(hc:(zoW a0)=true):∃N,zvh N a0=some [.one (.i .i64 (zcI a0))]:=by
 refine ⟨0,?_⟩;unfold zvh;refine br (fun _=>?_) (fun _=>?_)
 all_goals first|rfl|(simp only [*,zcI,zd7,cT,cF]<;>rfl)|simp_all [Ty.cells,zcI,zd7]
theorem zDH:Holds Tryz.prog 87 zq8:=zn zcf zA zq zu (zC (by kernel_rfl)) fun avs rs hb h=>by
 unfold zq8 at h;split at h
 ·obtain ⟨hc,rfl⟩:=zi h;exact (fin1 zJs zMm hc hb :)
 ·cases h
@[simp,reducible] def zow (w:Bool):Bool:=true
@[simp,reducible] def zco (w:Bool):Int:=zd7 w
def zqE:List AV->Option (Bool×List AV)
 | [.one (.b c)]=>some ((zow c),[.one (.i .i64 (zco c))])
 | _=>none
def zuN (N:Nat)(a0:Bool):Option Ans :=
 (cond a0 (some [(.one (.i .i64 2))]) (some [(.one (.i .i64 1))]))
theorem zLR (N:Nat)(a0:Bool):evalFn (cQ zdw zL zF zG) (zB []) N 12 162 [.one (.b a0)]=zuN N a0:=by kernel_rfl
theorem zIX (a0:Bool)(hb:zD big [.one (.b a0)])(hc:(zow a0)=true):∃N,zuN N a0=some [.one (.i .i64 (zco a0))]:=by
 refine ⟨0,?_⟩;unfold zuN;refine br (fun _=>?_) (fun _=>?_)
 all_goals first|rfl|(simp only [*,zco,zd7,cT,cF]<;>rfl)|simp_all [Ty.cells,zco,zd7]
theorem zDd:Holds Tryz.prog 162 zqE:=zn zcf zA zq zu (zC (by kernel_rfl)) fun avs rs hb h=>by
 unfold zqE at h;split at h
 ·obtain ⟨hc,rfl⟩:=zi h;exact (fin1 zIX zLR hc hb :)
 ·cases h
def zwW (p:Int)(w:Bool):GExit:=⟨1,p,w,0⟩
def zvv (n:Int):GExit:=⟨2,0,false,n⟩
def zxW (n:Int):GExit:=⟨3,0,false,n⟩
@[simp,reducible] def ziR (p:Int)(w:Bool):Bool:=true
@[simp,reducible] def zej (p:Int)(w:Bool):GExit:=zwW p w
def zkC:List AV->Option (Bool×List AV)
 | [.one (.i .i64 c),.one (.b d)]=>some ((ziR c d),[.agg (zcY (zej c d))])
 | _=>none
def znj (N:Nat)(a0:Int)(a1:Bool):Option Ans :=
 (some [(.agg [(.i .i64 1),(.i .i64 a0),(.b a1),(.i .i64 0)])])
theorem zE0 (N:Nat)(a0:Int)(a1:Bool):evalFn (cQ zdw zL zF zG) (zB []) N 12 89 [.one (.i .i64 a0),.one (.b a1)]=znj N a0 a1:=by kernel_rfl
theorem zB0 (a0:Int)(a1:Bool)(hb:zD big [.one (.i .i64 a0),.one (.b a1)])(hc:(ziR a0 a1)=true):∃N,znj N a0 a1=some [.agg (zcY (zej a0 a1))]:=by
 refine ⟨0,?_⟩;unfold znj
 first|rfl|(simp only [*,zej,cT,cF]<;>rfl)|simp_all [Ty.cells,zej]
theorem zyk:Holds Tryz.prog 89 zkC:=zn zcf zA zq zu (zC (by kernel_rfl)) fun avs rs hb h=>by
 unfold zkC at h;split at h
 ·obtain ⟨hc,rfl⟩:=zi h;exact (fin2 zB0 zE0 hc hb :)
 ·cases h
@[simp,reducible] def ziD (p:Int)(w:Bool):Bool:=true
@[simp,reducible] def zdb (p:Int)(w:Bool):GExit:=zwW p w
def zko:List AV->Option (Bool×List AV)
 | [.one (.i .i64 c),.one (.b d)]=>some ((ziD c d),[.agg (zcY (zdb c d))])
 | _=>none
def zm2 (N:Nat)(a0:Int)(a1:Bool):Option Ans :=
 (some [(.agg [(.i .i64 1),(.i .i64 a0),(.b a1),(.i .i64 0)])])
theorem zEJ (N:Nat)(a0:Int)(a1:Bool):evalFn (cQ zdw zL zF zG) (zB []) N 12 164 [.one (.i .i64 a0),.one (.b a1)]=zm2 N a0 a1:=by kernel_rfl
theorem zBJ (a0:Int)(a1:Bool)(hb:zD big [.one (.i .i64 a0),.one (.b a1)])(hc:(ziD a0 a1)=true):∃N,zm2 N a0 a1=some [.agg (zcY (zdb a0 a1))]:=by
 refine ⟨0,?_⟩;unfold zm2
 first|rfl|(simp only [*,zdb,cT,cF]<;>rfl)|simp_all [Ty.cells,zdb]
theorem zx4:Holds Tryz.prog 164 zko:=zn zcf zA zq zu (zC (by kernel_rfl)) fun avs rs hb h=>by
 unfold zko at h;split at h
 ·obtain ⟨hc,rfl⟩:=zi h;exact (fin2 zBJ zEJ hc hb :)
 ·cases h
@[simp,reducible] def zrq (n:Int):Bool:=true
@[simp,reducible] def zhH (n:Int):GExit:=zvv n
def zlP:List AV->Option (Bool×List AV)
 | [.one (.i .i64 b)]=>some ((zrq b),[.agg (zcY (zhH b))])
 | _=>none
def zpN (N:Nat)(a0:Int):Option Ans :=
 (some [(.agg [(.i .i64 2),(.i .i64 0),(.b false),(.i .i64 a0)])])
theorem zHC (N:Nat)(a0:Int):evalFn (cQ zdw zL zF zG) (zB []) N 12 144 [.one (.i .i64 a0)]=zpN N a0:=by kernel_rfl
theorem zEu (a0:Int)(hb:zD big [.one (.i .i64 a0)])(hc:(zrq a0)=true):∃N,zpN N a0=some [.agg (zcY (zhH a0))]:=by
 refine ⟨0,?_⟩;unfold zpN
 first|rfl|(simp only [*,zhH,cT,cF]<;>rfl)|simp_all [Ty.cells,zhH]
theorem zzy:Holds Tryz.prog 144 zlP:=zn zcf zA zq zu (zC (by kernel_rfl)) fun avs rs hb h=>by
 unfold zlP at h;split at h
 ·obtain ⟨hc,rfl⟩:=zi h;exact (fin1 zEu zHC hc hb :)
 ·cases h
@[simp,reducible] def zjV (n:Int):Bool:=true
@[simp,reducible] def zdE (n:Int):GExit:=zvv n
def zls:List AV->Option (Bool×List AV)
 | [.one (.i .i64 b)]=>some ((zjV b),[.agg (zcY (zdE b))])
 | _=>none
def zpo (N:Nat)(a0:Int):Option Ans :=
 (some [(.agg [(.i .i64 2),(.i .i64 0),(.b false),(.i .i64 a0)])])
theorem zHc (N:Nat)(a0:Int):evalFn (cQ zdw zL zF zG) (zB []) N 12 170 [.one (.i .i64 a0)]=zpo N a0:=by kernel_rfl
theorem zD4 (a0:Int)(hb:zD big [.one (.i .i64 a0)])(hc:(zjV a0)=true):∃N,zpo N a0=some [.agg (zcY (zdE a0))]:=by
 refine ⟨0,?_⟩;unfold zpo
 first|rfl|(simp only [*,zdE,cT,cF]<;>rfl)|simp_all [Ty.cells,zdE]
theorem zy8:Holds Tryz.prog 170 zls:=zn zcf zA zq zu (zC (by kernel_rfl)) fun avs rs hb h=>by
 unfold zls at h;split at h
 ·obtain ⟨hc,rfl⟩:=zi h;exact (fin1 zD4 zHc hc hb :)
 ·cases h
@[simp,reducible] def ztW (n:Int):Bool:=true
@[simp,reducible] def zjB (n:Int):GExit:=zxW n
def zn7:List AV->Option (Bool×List AV)
 | [.one (.i .i64 b)]=>some ((ztW b),[.agg (zcY (zjB b))])
 | _=>none
def zsU (N:Nat)(a0:Int):Option Ans :=
 (some [(.agg [(.i .i64 3),(.i .i64 0),(.b false),(.i .i64 a0)])])
theorem zKm (N:Nat)(a0:Int):evalFn (cQ zdw zL zF zG) (zB []) N 12 146 [.one (.i .i64 a0)]=zsU N a0:=by kernel_rfl
theorem zGT (a0:Int)(hb:zD big [.one (.i .i64 a0)])(hc:(ztW a0)=true):∃N,zsU N a0=some [.agg (zcY (zjB a0))]:=by
 refine ⟨0,?_⟩;unfold zsU
 first|rfl|(simp only [*,zjB,cT,cF]<;>rfl)|simp_all [Ty.cells,zjB]
theorem zBu:Holds Tryz.prog 146 zn7:=zn zcf zA zq zu (zC (by kernel_rfl)) fun avs rs hb h=>by
 unfold zn7 at h;split at h
 ·obtain ⟨hc,rfl⟩:=zi h;exact (fin1 zGT zKm hc hb :)
 ·cases h
@[simp,reducible] def ztm (n:Int):Bool:=true
@[simp,reducible] def zju (n:Int):GExit:=zxW n
def znF:List AV->Option (Bool×List AV)
 | [.one (.i .i64 b)]=>some ((ztm b),[.agg (zcY (zju b))])
 | _=>none
def zsq (N:Nat)(a0:Int):Option Ans :=
 (some [(.agg [(.i .i64 3),(.i .i64 0),(.b false),(.i .i64 a0)])])
theorem zJT (N:Nat)(a0:Int):evalFn (cQ zdw zL zF zG) (zB []) N 12 210 [.one (.i .i64 a0)]=zsq N a0:=by kernel_rfl
theorem zGq (a0:Int)(hb:zD big [.one (.i .i64 a0)])(hc:(ztm a0)=true):∃N,zsq N a0=some [.agg (zcY (zju a0))]:=by
 refine ⟨0,?_⟩;unfold zsq
 first|rfl|(simp only [*,zju,cT,cF]<;>rfl)|simp_all [Ty.cells,zju]
theorem zA2:Holds Tryz.prog 210 znF:=zn zcf zA zq zu (zC (by kernel_rfl)) fun avs rs hb h=>by
 unfold znF at h;split at h
 ·obtain ⟨hc,rfl⟩:=zi h;exact (fin1 zGq zJT hc hb :)
 ·cases h
def zc8 (t x:Int):Bool:=bif win t 0 3 then (cond (win x 1 2) (ine (wand .i64 t x) 0) false) else false
theorem zRv (x:Int):win x 1 2=(ieq x 1||ieq x 2):=by
 have h:(win x 1 2=true)↔(ieq x 1||ieq x 2)=true:=by
  rw [zf0];simp only [ieq,Bool.or_eq_true,beq_iff_eq];omega
 cases h1:win x 1 2<;>cases h2:(ieq x 1||ieq x 2)<;>simp_all
@[simp,reducible] def ziw (t x:Int):Bool:=true
@[simp,reducible] def zhe (t x:Int):Bool:=zc8 t x
def zn5:List AV->Option (Bool×List AV)
 | [.one (.i .i64 c),.one (.i .i64 d)]=>some ((ziw c d),[.one (.b (zhe c d))])
 | _=>none
def zsR (N:Nat)(a0 a1:Int):Option Ans :=
 (cond (zN a0 0 3) (cond (zT a0 0 3) (cond (zN a1 1 2) (cond (zT a1 1 2) (some [(.one (.b (ine (wand .i64 a0 a1) 0)))]) (some [(.one (.b false))])) none) (some [(.one (.b false))])) none)
theorem zKk (N:Nat)(a0 a1:Int):evalFn (cQ zdw zL zF zG) (zB []) N 12 145 [.one (.i .i64 a0),.one (.i .i64 a1)]=zsR N a0 a1:=by kernel_rfl
theorem zGR (a0 a1:Int)(hb:zD big [.one (.i .i64 a0),.one (.i .i64 a1)])(hc:(ziw a0 a1)=true):∃N,zsR N a0 a1=some [.one (.b (zhe a0 a1))]:=by
 refine ⟨0,?_⟩;unfold zsR;refine must rfl (br (fun _=>must rfl (br (fun _=>?_) (fun _=>?_))) (fun _=>?_))
 all_goals first|rfl|(simp only [*,zhe,zc8,cT,cF]<;>rfl)|simp_all [Ty.cells,zhe,zc8]
theorem zBs:Holds Tryz.prog 145 zn5:=zn zcf zA zq zu (zC (by kernel_rfl)) fun avs rs hb h=>by
 unfold zn5 at h;split at h
 ·obtain ⟨hc,rfl⟩:=zi h;exact (fin2 zGR zKk hc hb :)
 ·cases h
@[simp,reducible] def zmf (t x:Int):Bool:=true
@[simp,reducible] def zjr (t x:Int):Bool:=zc8 t x
def znD:List AV->Option (Bool×List AV)
 | [.one (.i .i64 c),.one (.i .i64 d)]=>some ((zmf c d),[.one (.b (zjr c d))])
 | _=>none
def zso (N:Nat)(a0 a1:Int):Option Ans :=
 (cond (zQ a0 0 3) (cond (zX a0 0 3) (cond (ieq a1 1) (some [(.one (.b (ine (wand .i64 a0 a1) 0)))]) (cond (ieq a1 2) (some [(.one (.b (ine (wand .i64 a0 a1) 0)))]) (some [(.one (.b false))]))) (some [(.one (.b false))])) none)
theorem zJR (N:Nat)(a0 a1:Int):evalFn (cQ zdw zL zF zG) (zB []) N 12 171 [.one (.i .i64 a0),.one (.i .i64 a1)]=zso N a0 a1:=by kernel_rfl
theorem zGo (a0 a1:Int)(hb:zD big [.one (.i .i64 a0),.one (.i .i64 a1)])(hc:(zmf a0 a1)=true):∃N,zso N a0 a1=some [.one (.b (zjr a0 a1))]:=by
 refine ⟨0,?_⟩;unfold zso;refine must rfl (br (fun _=>br (fun _=>?_) (fun _=>br (fun _=>?_) (fun _=>?_))) (fun _=>?_))
 all_goals first|rfl|(simp only [*,zjr,zc8,zRv,cT,cF]<;>rfl)|simp_all [Ty.cells,zjr,zc8,zRv]
theorem zA0:Holds Tryz.prog 171 znD:=zn zcf zA zq zu (zC (by kernel_rfl)) fun avs rs hb h=>by
 unfold znD at h;split at h
 ·obtain ⟨hc,rfl⟩:=zi h;exact (fin2 zGo zJR hc hb :)
 ·cases h
def zfx (p:Int):Bool:=win p 0 255
@[simp,reducible] def zfZ (p:Int):Bool:=true
@[simp,reducible] def ze9 (p:Int):Bool:=zfx p
def zrb:List AV->Option (Bool×List AV)
 | [.one (.i .i64 c)]=>some ((zfZ c),[.one (.b (ze9 c))])
 | _=>none
def zvj (N:Nat)(a0:Int):Option Ans :=
 (cond (zN a0 0 255) (some [(.one (.b (zT a0 0 255)))]) none)
theorem zMp (N:Nat)(a0:Int):evalFn (cQ zdw zL zF zG) (zB []) N 12 140 [.one (.i .i64 a0)]=zvj N a0:=by kernel_rfl
theorem zJv (a0:Int)(hb:zD big [.one (.i .i64 a0)])(hc:(zfZ a0)=true):∃N,zvj N a0=some [.one (.b (ze9 a0))]:=by
 refine ⟨0,?_⟩;unfold zvj;refine must rfl ?_
 first|rfl|(simp only [*,ze9,zfx,cT,cF]<;>rfl)|simp_all [Ty.cells,ze9,zfx]
theorem zDK:Holds Tryz.prog 140 zrb:=zn zcf zA zq zu (zC (by kernel_rfl)) fun avs rs hb h=>by
 unfold zrb at h;split at h
 ·obtain ⟨hc,rfl⟩:=zi h;exact (fin1 zJv zMp hc hb :)
 ·cases h
@[simp,reducible] def zfR (p:Int):Bool:=true
@[simp,reducible] def zfQ (p:Int):Bool:=zfx p
def zqH:List AV->Option (Bool×List AV)
 | [.one (.i .i64 c)]=>some ((zfR c),[.one (.b (zfQ c))])
 | _=>none
def zuP (N:Nat)(a0:Int):Option Ans :=
 (cond (zQ a0 0 255) (some [(.one (.b (zX a0 0 255)))]) none)
theorem zLU (N:Nat)(a0:Int):evalFn (cQ zdw zL zF zG) (zB []) N 12 207 [.one (.i .i64 a0)]=zuP N a0:=by kernel_rfl
theorem zI0 (a0:Int)(hb:zD big [.one (.i .i64 a0)])(hc:(zfR a0)=true):∃N,zuP N a0=some [.one (.b (zfQ a0))]:=by
 refine ⟨0,?_⟩;unfold zuP;refine must rfl ?_
 first|rfl|(simp only [*,zfQ,zfx,cT,cF]<;>rfl)|simp_all [Ty.cells,zfQ,zfx]
theorem zDg:Holds Tryz.prog 207 zqH:=zn zcf zA zq zu (zC (by kernel_rfl)) fun avs rs hb h=>by
 unfold zqH at h;split at h
 ·obtain ⟨hc,rfl⟩:=zi h;exact (fin1 zI0 zLU hc hb :)
 ·cases h
def zcA (l:List Ins)(p:Int):Ins:=bif hasB p (ln l) then ix l p zdK else ⟨7,0⟩
@[simp,reducible] def zeU (l:List Ins)(p:Int):Bool:=true
@[simp,reducible] def zbm (l:List Ins)(p:Int):Ins:=zcA l p
def ztH:List AV->Option (Bool×List AV)
 | [.one (.s .ins b),.one (.i .i64 c)]=>some ((zeU b c),[.agg (Ty.cells .ins (zbm b c))])
 | _=>none
def zwA (N:Nat)(a0:List Ins)(a1:Int):Option Ans :=
 (cond (zN a1 0 (wsub .i64 (ln a0) 1)) (cond (cond (zT a1 0 (wsub .i64 (ln a0) 1)) false true) (some [(.agg [(.i .i64 7),(.i .i64 0)])]) (cond (inb a1 (ln a0)) (some [(.agg [(.i .i64 (ix a0 a1 zdK).Op),(.i .i64 (ix a0 a1 zdK).X)])]) none)) none)
theorem zN8 (N:Nat)(a0:List Ins)(a1:Int):evalFn (cQ zdw zL zF zG) (zB []) N 12 97 [.one (.s .ins a0),.one (.i .i64 a1)]=zwA N a0 a1:=by kernel_rfl
theorem zLB (a0:List Ins)(a1:Int)(hb:zD big [.one (.s .ins a0),.one (.i .i64 a1)])(hc:(zeU a0 a1)=true):∃N,zwA N a0 a1=some [.agg (Ty.cells .ins (zbm a0 a1))]:=by
 have hl:=((zbw hb).1 _ (List.mem_singleton.2 rfl)).len;have hw:=zAe hl
 refine ⟨0,?_⟩;unfold zwA;refine must rfl (brN (fun _=>?_) (fun _=>must (by first|assumption|(simp_all<;>omega)) ?_))
 all_goals first|rfl|(simp only [*,zbm,zcA,cT,cF]<;>rfl)|simp_all [Ty.cells,zbm,zcA]
theorem zF6:Holds Tryz.prog 97 ztH:=zn zcf zA zq zu (zC (by kernel_rfl)) fun avs rs hb h=>by
 unfold ztH at h;split at h
 ·obtain ⟨hc,rfl⟩:=zi h;exact (fin2 zLB zN8 hc hb :)
 ·cases h
@[simp,reducible] def zfG (l:List Ins)(p:Int):Bool:=true
@[simp,reducible] def zbK (l:List Ins)(p:Int):Ins:=zcA l p
def ztt:List AV->Option (Bool×List AV)
 | [.one (.s .ins b),.one (.i .i64 c)]=>some ((zfG b c),[.agg (Ty.cells .ins (zbK b c))])
 | _=>none
def zwm (N:Nat)(a0:List Ins)(a1:Int):Option Ans :=
 (cond (zcF a1 (ln a0)) (cond (cond (zda a1 (ln a0)) false true) (some [(.agg [(.i .i64 7),(.i .i64 0)])]) (cond (inb a1 (ln a0)) (some [(.agg [(.i .i64 (ix a0 a1 zdK).Op),(.i .i64 (ix a0 a1 zdK).X)])]) none)) none)
theorem zNU (N:Nat)(a0:List Ins)(a1:Int):evalFn (cQ zdw zL zF zG) (zB []) N 12 156 [.one (.s .ins a0),.one (.i .i64 a1)]=zwm N a0 a1:=by kernel_rfl
theorem zLn (a0:List Ins)(a1:Int)(hb:zD big [.one (.s .ins a0),.one (.i .i64 a1)])(hc:(zfG a0 a1)=true):∃N,zwm N a0 a1=some [.agg (Ty.cells .ins (zbK a0 a1))]:=by
 refine ⟨0,?_⟩;unfold zwm;refine must rfl (brN (fun _=>?_) (fun _=>must (by first|assumption|(simp_all<;>omega)) ?_))
 all_goals first|rfl|(simp only [*,zbK,zcA,cT,cF]<;>rfl)|simp_all [Ty.cells,zbK,zcA]
theorem zFS:Holds Tryz.prog 156 ztt:=zn zcf zA zq zu (zC (by kernel_rfl)) fun avs rs hb h=>by
 unfold ztt at h;split at h
 ·obtain ⟨hc,rfl⟩:=zi h;exact (fin2 zLn zNU hc hb :)
 ·cases h
def zkS (w:Int):Int:=bif ieq w 5 then 1 else 2
@[simp,reducible] def zoC (w:Int):Bool:=true
@[simp,reducible] def zg0 (w:Int):Int:=zkS w
def zqP:List AV->Option (Bool×List AV)
 | [.one (.i .i64 b)]=>some ((zoC b),[.one (.i .i64 (zg0 b))])
 | _=>none
def zuX (N:Nat)(a0:Int):Option Ans :=
 (cond (ieq a0 5) (some [(.one (.i .i64 1))]) (some [(.one (.i .i64 2))]))
theorem zL2 (N:Nat)(a0:Int):evalFn (cQ zdw zL zF zG) (zB []) N 12 172 [.one (.i .i64 a0)]=zuX N a0:=by kernel_rfl
theorem zI8 (a0:Int)(hb:zD big [.one (.i .i64 a0)])(hc:(zoC a0)=true):∃N,zuX N a0=some [.one (.i .i64 (zg0 a0))]:=by
 refine ⟨0,?_⟩;unfold zuX;refine br (fun _=>?_) (fun _=>?_)
 all_goals first|rfl|(simp only [*,zg0,zkS,cT,cF]<;>rfl)|simp_all [Ty.cells,zg0,zkS]
theorem zDo:Holds Tryz.prog 172 zqP:=zn zcf zA zq zu (zC (by kernel_rfl)) fun avs rs hb h=>by
 unfold zqP at h;split at h
 ·obtain ⟨hc,rfl⟩:=zi h;exact (fin1 zI8 zL2 hc hb :)
 ·cases h
def zgk (s:Slot)(n:Int):Bool:=bif zxy s noSlot then true else (cond (igt n 0) (cond (win s.Page 0 (wsub .i64 n 1)) (win s.Rights 1 3) false) false)
@[simp,reducible] def zoZ (s:Slot)(n:Int):Bool:=true
@[simp,reducible] def zl4 (s:Slot)(n:Int):Bool:=zgk s n
def zrg:List AV->Option (Bool×List AV)
 | [.agg [.i .i64 c,.i .i64 d],.one (.i .i64 e)]=>some ((zoZ (⟨c,d⟩:Slot) e),[.one (.b (zl4 (⟨c,d⟩:Slot) e))])
 | _=>none
def zvn (N:Nat)(a0:Slot)(a1:Int):Option Ans :=
 (cond zhJ (cond (cond (ieq a0.Page zfY.Page) (ieq a0.Rights zfY.Rights) false) (some [(.one (.b true))]) (cond (zN a0.Page 0 (wsub .i64 a1 1)) (cond (zT a0.Page 0 (wsub .i64 a1 1)) (cond (igt a1 0) (cond (zN a0.Rights 1 3) (some [(.one (.b (zT a0.Rights 1 3)))]) none) (some [(.one (.b false))])) (some [(.one (.b false))])) none)) none)
theorem zMt (N:Nat)(a0:Slot)(a1:Int):evalFn (cQ zdw zL zF zG) (zB []) N 12 99 [.agg (Ty.cells .slot a0),.one (.i .i64 a1)]=zvn N a0 a1:=by kernel_rfl
theorem zJz (a0:Slot)(a1:Int)(hb:zD big [.agg (Ty.cells .slot a0),.one (.i .i64 a1)])(hc:(zoZ a0 a1)=true):∃N,zvn N a0 a1=some [.one (.b (zl4 a0 a1))]:=by
 refine ⟨0,?_⟩;unfold zvn;refine must rfl (br (fun _=>?_) (fun _=>must rfl (br (fun _=>br (fun _=>must rfl ?_) (fun _=>?_)) (fun _=>?_))))
 all_goals first|rfl|(simp only [*,zl4,zgk,zxy,cT,cF]<;>rfl)|simp_all [Ty.cells,zl4,zgk,zxy]
theorem zDO:Holds Tryz.prog 99 zrg:=zn zcf zA zq zu (zC (by kernel_rfl)) fun avs rs hb h=>by
 unfold zrg at h;split at h
 ·obtain ⟨hc,rfl⟩:=zi h;exact (fin2 zJz zMt hc hb :)
 ·cases h
@[simp,reducible] def zoz (s:Slot)(n:Int):Bool:=true
@[simp,reducible] def zlh (s:Slot)(n:Int):Bool:=zgk s n
def zqL:List AV->Option (Bool×List AV)
 | [.agg [.i .i64 c,.i .i64 d],.one (.i .i64 e)]=>some ((zoz (⟨c,d⟩:Slot) e),[.one (.b (zlh (⟨c,d⟩:Slot) e))])
 | _=>none
def zuT (N:Nat)(a0:Slot)(a1:Int):Option Ans :=
 (cond zjZ (cond (cond (ieq a0.Page ziW.Page) (ieq a0.Rights ziW.Rights) false) (some [(.one (.b true))]) (cond (igt a1 0) (cond (zQ a0.Page 0 (wsub .i64 a1 1)) (cond (zX a0.Page 0 (wsub .i64 a1 1)) (cond (zQ a0.Rights 1 3) (some [(.one (.b (zX a0.Rights 1 3)))]) none) (some [(.one (.b false))])) none) (some [(.one (.b false))]))) none)
theorem zLY (N:Nat)(a0:Slot)(a1:Int):evalFn (cQ zdw zL zF zG) (zB []) N 12 178 [.agg (Ty.cells .slot a0),.one (.i .i64 a1)]=zuT N a0 a1:=by kernel_rfl
theorem zI4 (a0:Slot)(a1:Int)(hb:zD big [.agg (Ty.cells .slot a0),.one (.i .i64 a1)])(hc:(zoz a0 a1)=true):∃N,zuT N a0 a1=some [.one (.b (zlh a0 a1))]:=by
 refine ⟨0,?_⟩;unfold zuT;refine must rfl (br (fun _=>?_) (fun _=>br (fun _=>must rfl (br (fun _=>must rfl ?_) (fun _=>?_))) (fun _=>?_)))
 all_goals first|rfl|(simp only [*,zlh,zgk,zxy,cT,cF]<;>rfl)|simp_all [Ty.cells,zlh,zgk,zxy]
theorem zDk:Holds Tryz.prog 178 zqL:=zn zcf zA zq zu (zC (by kernel_rfl)) fun avs rs hb h=>by
 unfold zqL at h;split at h
 ·obtain ⟨hc,rfl⟩:=zi h;exact (fin2 zI4 zLY hc hb :)
 ·cases h
@[simp,reducible] def zf8 (l:List Slot):Bool:=pc (l.length<=2147483648)
@[simp,reducible] def zdI (l:List Slot):List Slot:=l
def zks:List AV->Option (Bool×List AV)
 | [.one (.s .slot b)]=>some ((zf8 b),[.one (.s .slot (zdI b))])
 | _=>none
def zm7 (N:Nat)(a0:List Slot):Option Ans :=
 (cond (few (ln (ap [] a0))) (some [(.one (.s .slot (ap [] a0)))]) none)
theorem zEO (N:Nat)(a0:List Slot):evalFn (cQ zdw zL zF zG) (zB []) N 12 211 [.one (.s .slot a0)]=zm7 N a0:=by kernel_rfl
theorem zBO (a0:List Slot)(hb:zD big [.one (.s .slot a0)])(hc:(zf8 a0)=true):∃N,zm7 N a0=some [.one (.s .slot (zdI a0))]:=by
 have hs:=zI.1 hc;refine ⟨0,?_⟩;unfold zm7;refine must (by first|assumption|(simp_all<;>omega)) ?_
 first|rfl|(simp only [*,zdI,cT,cF]<;>rfl)|simp_all [Ty.cells,zdI]
theorem zx8:Holds Tryz.prog 211 zks:=zn zcf zA zq zu (zC (by kernel_rfl)) fun avs rs hb h=>by
 unfold zks at h;split at h
 ·obtain ⟨hc,rfl⟩:=zi h;exact (fin1 zBO zEO hc hb :)
 ·cases h
@[simp,reducible] def zj6 (l:List Ins):Bool:=pc (l.length<=2147483648)
@[simp,reducible] def zhp (l:List Ins):List Ins:=l
def zlC:List AV->Option (Bool×List AV)
 | [.one (.s .ins b)]=>some ((zj6 b),[.one (.s .ins (zhp b))])
 | _=>none
def zpw (N:Nat)(a0:List Ins):Option Ans :=
 (cond (few (ln (ap [] a0))) (some [(.one (.s .ins (ap [] a0)))]) none)
theorem zHl (N:Nat)(a0:List Ins):evalFn (cQ zdw zL zF zG) (zB []) N 12 111 [.one (.s .ins a0)]=zpw N a0:=by kernel_rfl
theorem zEd (a0:List Ins)(hb:zD big [.one (.s .ins a0)])(hc:(zj6 a0)=true):∃N,zpw N a0=some [.one (.s .ins (zhp a0))]:=by
 have hs:=zI.1 hc;refine ⟨0,?_⟩;unfold zpw;refine must (by first|assumption|(simp_all<;>omega)) ?_
 first|rfl|(simp only [*,zhp,cT,cF]<;>rfl)|simp_all [Ty.cells,zhp]
theorem zzi:Holds Tryz.prog 111 zlC:=zn zcf zA zq zu (zC (by kernel_rfl)) fun avs rs hb h=>by
 unfold zlC at h;split at h
 ·obtain ⟨hc,rfl⟩:=zi h;exact (fin1 zEd zHl hc hb :)
 ·cases h
def zfv (m:List (List Int))(p c:Int):Bool:=bif hasB p (ln m) then hasB c (ln (ix m p [])) else false
def cellAt (m:List (List Int))(p c:Int):Int:=bif zfv m p c then ix (ix m p []) c 0 else 0
def zdC (m:List (List Int))(p c v:Int):List (List Int):=bif zfv m p c then (cond (win v 0 99) (up m p (up (ix m p []) c v)) m) else m
theorem zoO (m:List (List Int))(p c:Int):(zfv m p c=true)↔hasB p (ln m)=true/\hasB c (ln (ix m p []))=true:=by
 unfold zfv;cases hasB p (ln m)<;>simp
theorem zSM {n:Nat}{m:List (List Int)}(h:CVB n (.s (.sl .int) m)):m.length<=n/\∀p:Int,hasB p (ln m)=true->(ix m p []).length<=n :=
 ⟨h.len,fun p hp=>(h.inv.2 _ (zBE hp []) _ (List.mem_singleton.2 rfl)).len⟩
@[simp,reducible] def zo3 (m:List (List Int))(p c:Int):Bool:=true
@[simp,reducible] def zl6 (m:List (List Int))(p c:Int):Bool:=zfv m p c
def zrk:List AV->Option (Bool×List AV)
 | [.one (.s (.sl .int) c),.one (.i .i64 d),.one (.i .i64 e)]=>some ((zo3 c d e),[.one (.b (zl6 c d e))])
 | _=>none
def zvr (N:Nat)(a0:List (List Int))(a1 a2:Int):Option Ans :=
 (cond (zN a1 0 (wsub .i64 (ln a0) 1)) (cond (zT a1 0 (wsub .i64 (ln a0) 1)) (cond (inb a1 (ln a0)) (cond (zN a2 0 (wsub .i64 (ln (ix a0 a1 [])) 1)) (some [(.one (.b (zT a2 0 (wsub .i64 (ln (ix a0 a1 [])) 1))))]) none) none) (some [(.one (.b false))])) none)
theorem zMx (N:Nat)(a0:List (List Int))(a1 a2:Int):evalFn (cQ zdw zL zF zG) (zB []) N 12 143 [.one (.s (.sl .int) a0),.one (.i .i64 a1),.one (.i .i64 a2)]=zvr N a0 a1 a2:=by kernel_rfl
theorem zJD (a0:List (List Int))(a1 a2:Int)(hb:zD big [.one (.s (.sl .int) a0),.one (.i .i64 a1),.one (.i .i64 a2)])(hc:(zo3 a0 a1 a2)=true):∃N,zvr N a0 a1 a2=some [.one (.b (zl6 a0 a1 a2))]:=by
 have hl:=zSM ((zbw hb).1 _ (List.mem_singleton.2 rfl));have hw:=zAe hl.1;have hw2:∀p i:Int,hasB p (ln a0)=true->win i 0 (wsub .i64 (ln (ix a0 p [])) 1)=hasB i (ln (ix a0 p [])):=fun p i h=>zAe (hl.2 p h) i
 refine ⟨0,?_⟩;unfold zvr;refine must rfl (br (fun _=>must (by first|assumption|(simp_all<;>omega)) (must rfl ?_)) (fun _=>?_))
 all_goals first|rfl|(simp only [*,zl6,zfv,cT,cF]<;>rfl)|simp_all [Ty.cells,zl6,zfv]
theorem zDS:Holds Tryz.prog 143 zrk:=zn zcf zA zq zu (zC (by kernel_rfl)) fun avs rs hb h=>by
 unfold zrk at h;split at h
 ·obtain ⟨hc,rfl⟩:=zi h;exact (zd1 zJD zMx hc hb :)
 ·cases h
@[simp,reducible] def zjW (m:List (List Int))(p c:Int):Bool:=true
@[simp,reducible] def zes (m:List (List Int))(p c:Int):Int:=cellAt m p c
def zqy:List AV->Option (Bool×List AV)
 | [.one (.s (.sl .int) b),.one (.i .i64 c),.one (.i .i64 d)]=>some ((zjW b c d),[.one (.i .i64 (zes b c d))])
 | _=>none
def zuI (N:Nat)(a0:List (List Int))(a1 a2:Int):Option Ans :=
 (cond (zcF a1 (ln a0)) (cond (cond (zda a1 (ln a0)) false true) (some [(.one (.i .i64 0))]) (cond (inb a1 (ln a0)) (cond (zcF a2 (ln (ix a0 a1 []))) (cond (cond (zda a2 (ln (ix a0 a1 []))) false true) (some [(.one (.i .i64 0))]) (cond (inb a1 (ln a0)) (cond (inb a2 (ln (ix a0 a1 []))) (some [(.one (.i .i64 (ix (ix a0 a1 []) a2 0)))]) none) none)) none) none)) none)
theorem zLL (N:Nat)(a0:List (List Int))(a1 a2:Int):evalFn (cQ zdw zL zF zG) (zB []) N 12 169 [.one (.s (.sl .int) a0),.one (.i .i64 a1),.one (.i .i64 a2)]=zuI N a0 a1 a2:=by kernel_rfl
theorem zIR (a0:List (List Int))(a1 a2:Int)(hb:zD big [.one (.s (.sl .int) a0),.one (.i .i64 a1),.one (.i .i64 a2)])(hc:(zjW a0 a1 a2)=true):∃N,zuI N a0 a1 a2=some [.one (.i .i64 (zes a0 a1 a2))]:=by
 refine ⟨0,?_⟩;unfold zuI;refine must rfl (brN (fun _=>?_) (fun _=>must (by first|assumption|(simp_all<;>omega)) (must rfl (brN (fun _=>?_) (fun _=>must (by first|assumption|(simp_all<;>omega)) (must (by first|assumption|(simp_all<;>omega)) ?_))))))
 all_goals first|rfl|(simp only [*,zes,cellAt,zfv,cT,cF]<;>rfl)|simp_all [Ty.cells,zes,cellAt,zfv]
theorem zC7:Holds Tryz.prog 169 zqy:=zn zcf zA zq zu (zC (by kernel_rfl)) fun avs rs hb h=>by
 unfold zqy at h;split at h
 ·obtain ⟨hc,rfl⟩:=zi h;exact (zd1 zIR zLL hc hb :)
 ·cases h
def zgD:zbu:=[(136,zq2),(203,zqx),(86,zlK),(161,zlo),(91,zlJ),(166,zln),(87,zq8),(162,zqE),(89,zkC),(164,zko),(144,zlP),(170,zls),(146,zn7),(210,znF),(145,zn5),(171,znD),(140,zrb),(207,zqH),(97,ztH),(156,ztt),(172,zqP),(99,zrg),(178,zqL),(211,zks),(111,zlC),(143,zrk),(169,zqy)]++zdw
theorem zds:zbE zgD:=zl zDB (zl zC6 (zl zzt (zl zy4 (zl zzs (zl zy3 (zl zDH (zl zDd (zl zyk (zl zx4 (zl zzy (zl zy8 (zl zBu (zl zA2 (zl zBs (zl zA0 (zl zDK (zl zDg (zl zF6 (zl zFS (zl zDo (zl zDO (zl zDk (zl zx8 (zl zzi (zl zDS (zl zC7 zcf))))))))))))))))))))))))))
@[simp,reducible] def zkI (m:List (List Int))(p c:Int):Bool:=true
@[simp,reducible] def zfX (m:List (List Int))(p c:Int):Int:=cellAt m p c
def zq3:List AV->Option (Bool×List AV)
 | [.one (.s (.sl .int) b),.one (.i .i64 c),.one (.i .i64 d)]=>some ((zkI b c d),[.one (.i .i64 (zfX b c d))])
 | _=>none
def zvd (N:Nat)(a0:List (List Int))(a1 a2:Int):Option Ans :=
 (cond (zo3 a0 a1 a2) (cond (cond (zl6 a0 a1 a2) false true) (some [(.one (.i .i64 0))]) (cond (inb a1 (ln a0)) (cond (inb a2 (ln (ix a0 a1 []))) (some [(.one (.i .i64 (ix (ix a0 a1 []) a2 0)))]) none) none)) none)
theorem zMh (N:Nat)(a0:List (List Int))(a1 a2:Int):evalFn (cQ zgD zL zF zG) (zB []) N 12 94 [.one (.s (.sl .int) a0),.one (.i .i64 a1),.one (.i .i64 a2)]=zvd N a0 a1 a2:=by kernel_rfl
theorem zJn (a0:List (List Int))(a1 a2:Int)(hb:zD big [.one (.s (.sl .int) a0),.one (.i .i64 a1),.one (.i .i64 a2)])(hc:(zkI a0 a1 a2)=true):∃N,zvd N a0 a1 a2=some [.one (.i .i64 (zfX a0 a1 a2))]:=by
 have hm:=(zoO a0 a1 a2).1;refine ⟨0,?_⟩;unfold zvd;refine must rfl (brN (fun _=>?_) (fun _=>must (by first|assumption|(simp_all<;>omega)) (must (by first|assumption|(simp_all<;>omega)) ?_)))
 all_goals first|rfl|(simp only [*,zfX,cellAt,cT,cF]<;>rfl)|simp_all [Ty.cells,zfX,cellAt]
theorem zDC:Holds Tryz.prog 94 zq3:=zn zds zA zq zu (zC (by kernel_rfl)) fun avs rs hb h=>by
 unfold zq3 at h;split at h
 ·obtain ⟨hc,rfl⟩:=zi h;exact (zd1 zJn zMh hc hb :)
 ·cases h
def zeN (t:List Slot)(n p:Int):Bool:=bif t.all (fun s=>zgk s p) then ieq (ln t) n else false
@[simp,reducible] def zmA (t:List Slot)(n p:Int):Bool:=true
@[simp,reducible] def zfN (t:List Slot)(n p:Int):Bool:=zeN t n p
def zob:List AV->Option (Bool×List AV)
 | [.one (.s .slot c),.one (.i .i64 d),.one (.i .i64 e)]=>some ((zmA c d e),[.one (.b (zfN c d e))])
 | _=>none
def zsY (N:Nat)(a0:List Slot)(a1 a2:Int):Option Ans :=
 (iter (σ:=(Int×(Int×(Int×((List Slot)×Unit))))) N (fun r4 s5=>(cond (ilt s5.2.2.1 (ln s5.2.2.2.1)) (cond (inb s5.2.2.1 (ln s5.2.2.2.1)) (cond (zoZ (ix s5.2.2.2.1 s5.2.2.1 zdl) s5.2.1) (cond (cond (zl4 (ix s5.2.2.2.1 s5.2.2.1 zdl) s5.2.1) false true) (some [(.one (.b false))]) (r4 (s5.1,(s5.2.1,((zy .i64 s5.2.2.1 1),(s5.2.2.2.1,())))))) none) none) (some [(.one (.b (ieq (ln s5.2.2.2.1) s5.1)))]))) (a1,(a2,(0,(a0,())))))
def zHX:FuncId->Nat->Option Tmpl:=zB [(198,0,{ n:=25,tm:=[(0,.sl 0 []),(1,.i .i64),(2,.i .i64),(7,.i .i64)],lo:=[],ro:=[(0,.slot,false)] })]
theorem zKq (N:Nat)(a0:List Slot)(a1 a2:Int):evalFn (cQ zgD zL zF zG) zHX N 12 198 [.one (.s .slot a0),.one (.i .i64 a1),.one (.i .i64 a2)]=zsY N a0 a1 a2:=by kernel_rfl
theorem zGX (a0:List Slot)(a1 a2:Int)(hb:zD big [.one (.s .slot a0),.one (.i .i64 a1),.one (.i .i64 a2)])(hc:(zmA a0 a1 a2)=true):∃N,zsY N a0 a1 a2=some [.one (.b (zfN a0 a1 a2))]:=by
 have hl:(_:List _).length<=big:=((zbw hb).1 _ (List.mem_singleton.2 rfl)).len;refine ⟨NN,?_⟩;have hNN:∀{n:Nat},n<=big->n<NN:=fun h=>zb7 h;generalize NN=N at hNN ⊢;unfold zsY;refine (zbI a0 (fun i (t:Unit)=>(a1,a2,(i:Int),a0,())) _ (fun _ x (_:Unit) κ=>bif (fun s=>zgk s a2) x then κ () else some [AV.one (.b false)]) (fun (t:Unit)=>(some [(.one (.b (ieq (ln a0) a1)))])) (fun i hi t rec=>?_) (fun t rec=>?_) _ () (hNN hl)).trans ?_
 ·simp only [zbr hi,zbn hi,zbx hi,zbt hi hl,cT];exact ze0 rfl
 ·simp only [zbe,cF]
 rw [zfj (fun s=>zgk s a2)];refine br (fun h0=>?_) (fun h0=>?_)
 ·first|rfl|(simp only [h0,zfN,zeN,cT,cF]<;>rfl)|(simp_all [Ty.cells,zfN,zeN];done)
 ·first|rfl|(simp only [h0,zfN,zeN,cT,cF]<;>rfl)|(simp_all [Ty.cells,zfN,zeN];done)
theorem zBy:Holds Tryz.prog 198 zob:=zn zds zA zq zu (zC (by kernel_rfl)) fun avs rs hb h=>by
 unfold zob at h;split at h
 ·obtain ⟨hc,rfl⟩:=zi h;exact (zd1 zGX zKq hc hb :)
 ·cases h
@[simp,reducible] def zmh (t:List Slot)(n p:Int):Bool:=true
@[simp,reducible] def zfH (t:List Slot)(n p:Int):Bool:=zeN t n p
def znJ:List AV->Option (Bool×List AV)
 | [.one (.s .slot c),.one (.i .i64 d),.one (.i .i64 e)]=>some ((zmh c d e),[.one (.b (zfH c d e))])
 | _=>none
def zsu (N:Nat)(a0:List Slot)(a1 a2:Int):Option Ans :=
 (iter (σ:=(Int×(Int×(Int×(Int×((List Slot)×Unit)))))) N (fun r4 s5=>(cond (ilt s5.2.2.2.1 s5.2.2.1) (cond (inb s5.2.2.2.1 (ln s5.2.2.2.2.1)) (cond (zoz (ix s5.2.2.2.2.1 s5.2.2.2.1 zdl) s5.2.1) (cond (cond (zlh (ix s5.2.2.2.2.1 s5.2.2.2.1 zdl) s5.2.1) false true) (some [(.one (.b false))]) (r4 (s5.1,(s5.2.1,(s5.2.2.1,((zy .i64 s5.2.2.2.1 1),(s5.2.2.2.2.1,()))))))) none) none) (some [(.one (.b (ieq (ln s5.2.2.2.2.1) s5.1)))]))) (a1,(a2,((ln a0),(0,(a0,()))))))
def zHN:FuncId->Nat->Option Tmpl:=zB [(220,0,{ n:=24,tm:=[(0,.sl 0 []),(1,.i .i64),(2,.i .i64),(9,.sl 0 []),(10,.i .i64),(11,.i .i64)],lo:=[],ro:=[(0,.slot,false)] })]
theorem zJX (N:Nat)(a0:List Slot)(a1 a2:Int):evalFn (cQ zgD zL zF zG) zHN N 12 220 [.one (.s .slot a0),.one (.i .i64 a1),.one (.i .i64 a2)]=zsu N a0 a1 a2:=by kernel_rfl
theorem zGu (a0:List Slot)(a1 a2:Int)(hb:zD big [.one (.s .slot a0),.one (.i .i64 a1),.one (.i .i64 a2)])(hc:(zmh a0 a1 a2)=true):∃N,zsu N a0 a1 a2=some [.one (.b (zfH a0 a1 a2))]:=by
 have hl:(_:List _).length<=big:=((zbw hb).1 _ (List.mem_singleton.2 rfl)).len;refine ⟨NN,?_⟩;have hNN:∀{n:Nat},n<=big->n<NN:=fun h=>zb7 h;generalize NN=N at hNN ⊢;unfold zsu;refine (zbI a0 (fun i (t:Unit)=>(a1,a2,(ln a0),(i:Int),a0,())) _ (fun _ x (_:Unit) κ=>bif (fun s=>zgk s a2) x then κ () else some [AV.one (.b false)]) (fun (t:Unit)=>(some [(.one (.b (ieq (ln a0) a1)))])) (fun i hi t rec=>?_) (fun t rec=>?_) _ () (hNN hl)).trans ?_
 ·simp only [zbr hi,zbn hi,zbx hi,zbt hi hl,cT];exact ze0 rfl
 ·simp only [zbe,cF]
 rw [zfj (fun s=>zgk s a2)];refine br (fun h0=>?_) (fun h0=>?_)
 ·first|rfl|(simp only [h0,zfH,zeN,cT,cF]<;>rfl)|(simp_all [Ty.cells,zfH,zeN];done)
 ·first|rfl|(simp only [h0,zfH,zeN,cT,cF]<;>rfl)|(simp_all [Ty.cells,zfH,zeN];done)
theorem zA6:Holds Tryz.prog 220 znJ:=zn zds zA zq zu (zC (by kernel_rfl)) fun avs rs hb h=>by
 unfold znJ at h;split at h
 ·obtain ⟨hc,rfl⟩:=zi h;exact (zd1 zGu zJX hc hb :)
 ·cases h
def zew (c:List Int):Bool:=bif c.all (fun x=>win x 0 99) then ieq (ln c) 4 else false
@[simp,reducible] def zv2 (c:List Int):Bool:=true
@[simp,reducible] def zji (c:List Int):Bool:=zew c
def zra:List AV->Option (Bool×List AV)
 | [.one (.s .int c)]=>some ((zv2 c),[.one (.b (zji c))])
 | _=>none
def zvi (N:Nat)(a0:List Int):Option Ans :=
 (iter (σ:=(Int×((List Int)×Unit))) N (fun r2 s3=>(cond (ilt s3.1 (ln s3.2.1)) (cond (inb s3.1 (ln s3.2.1)) (cond (zN (ix s3.2.1 s3.1 0) 0 99) (cond (cond (zT (ix s3.2.1 s3.1 0) 0 99) false true) (some [(.one (.b false))]) (r2 ((zy .i64 s3.1 1),(s3.2.1,())))) none) none) (some [(.one (.b (ieq (ln s3.2.1) 4)))]))) (0,(a0,())))
def zKZ:FuncId->Nat->Option Tmpl:=zB [(200,0,{ n:=19,tm:=[(0,.sl 0 []),(3,.i .i64)],lo:=[],ro:=[(0,.int,false)] })]
theorem zMo (N:Nat)(a0:List Int):evalFn (cQ zgD zL zF zG) zKZ N 12 200 [.one (.s .int a0)]=zvi N a0:=by kernel_rfl
theorem zJu (a0:List Int)(hb:zD big [.one (.s .int a0)])(hc:(zv2 a0)=true):∃N,zvi N a0=some [.one (.b (zji a0))]:=by
 have hl:(_:List _).length<=big:=((zbw hb).1 _ (List.mem_singleton.2 rfl)).len;refine ⟨NN,?_⟩;have hNN:∀{n:Nat},n<=big->n<NN:=fun h=>zb7 h;generalize NN=N at hNN ⊢;unfold zvi;refine (zbI a0 (fun i (t:Unit)=>((i:Int),a0,())) _ (fun _ x (_:Unit) κ=>bif (fun x=>win x 0 99) x then κ () else some [AV.one (.b false)]) (fun (t:Unit)=>(some [(.one (.b (ieq (ln a0) 4)))])) (fun i hi t rec=>?_) (fun t rec=>?_) _ () (hNN hl)).trans ?_
 ·simp only [zbr hi,zbn hi,zbx hi,zbt hi hl,cT];exact ze0 rfl
 ·simp only [zbe,cF]
 rw [zfj (fun x=>win x 0 99)];refine br (fun h0=>?_) (fun h0=>?_)
 ·first|rfl|(simp only [h0,zji,zew,cT,cF]<;>rfl)|(simp_all [Ty.cells,zji,zew];done)
 ·first|rfl|(simp only [h0,zji,zew,cT,cF]<;>rfl)|(simp_all [Ty.cells,zji,zew];done)
theorem zDJ:Holds Tryz.prog 200 zra:=zn zds zA zq zu (zC (by kernel_rfl)) fun avs rs hb h=>by
 unfold zra at h;split at h
 ·obtain ⟨hc,rfl⟩:=zi h;exact (fin1 zJu zMo hc hb :)
 ·cases h
@[simp,reducible] def zvP (c:List Int):Bool:=true
@[simp,reducible] def ziX (c:List Int):Bool:=zew c
def zqG:List AV->Option (Bool×List AV)
 | [.one (.s .int c)]=>some ((zvP c),[.one (.b (ziX c))])
 | _=>none
def zuO (N:Nat)(a0:List Int):Option Ans :=
 (iter (σ:=(Int×(Int×((List Int)×Unit)))) N (fun r2 s3=>(cond (ilt s3.2.1 s3.1) (cond (inb s3.2.1 (ln s3.2.2.1)) (cond (zQ (ix s3.2.2.1 s3.2.1 0) 0 99) (cond (cond (zX (ix s3.2.2.1 s3.2.1 0) 0 99) false true) (some [(.one (.b false))]) (r2 (s3.1,((zy .i64 s3.2.1 1),(s3.2.2.1,()))))) none) none) (some [(.one (.b (ieq (ln s3.2.2.1) 4)))]))) ((ln a0),(0,(a0,()))))
def zKQ:FuncId->Nat->Option Tmpl:=zB [(222,0,{ n:=18,tm:=[(0,.sl 0 []),(5,.sl 0 []),(6,.i .i64),(7,.i .i64)],lo:=[],ro:=[(0,.int,false)] })]
theorem zLT (N:Nat)(a0:List Int):evalFn (cQ zgD zL zF zG) zKQ N 12 222 [.one (.s .int a0)]=zuO N a0:=by kernel_rfl
theorem zIZ (a0:List Int)(hb:zD big [.one (.s .int a0)])(hc:(zvP a0)=true):∃N,zuO N a0=some [.one (.b (ziX a0))]:=by
 have hl:(_:List _).length<=big:=((zbw hb).1 _ (List.mem_singleton.2 rfl)).len;refine ⟨NN,?_⟩;have hNN:∀{n:Nat},n<=big->n<NN:=fun h=>zb7 h;generalize NN=N at hNN ⊢;unfold zuO;refine (zbI a0 (fun i (t:Unit)=>((ln a0),(i:Int),a0,())) _ (fun _ x (_:Unit) κ=>bif (fun x=>win x 0 99) x then κ () else some [AV.one (.b false)]) (fun (t:Unit)=>(some [(.one (.b (ieq (ln a0) 4)))])) (fun i hi t rec=>?_) (fun t rec=>?_) _ () (hNN hl)).trans ?_
 ·simp only [zbr hi,zbn hi,zbx hi,zbt hi hl,cT];exact ze0 rfl
 ·simp only [zbe,cF]
 rw [zfj (fun x=>win x 0 99)];refine br (fun h0=>?_) (fun h0=>?_)
 ·first|rfl|(simp only [h0,ziX,zew,cT,cF]<;>rfl)|(simp_all [Ty.cells,ziX,zew];done)
 ·first|rfl|(simp only [h0,ziX,zew,cT,cF]<;>rfl)|(simp_all [Ty.cells,ziX,zew];done)
theorem zDf:Holds Tryz.prog 222 zqG:=zn zds zA zq zu (zC (by kernel_rfl)) fun avs rs hb h=>by
 unfold zqG at h;split at h
 ·obtain ⟨hc,rfl⟩:=zi h;exact (fin1 zIZ zLT hc hb :)
 ·cases h
def zj7 (i:Ins):Bool:=bif (ieq i.Op 1||ieq i.Op 2||ieq i.Op 5||ieq i.Op 6) then win i.X 0 99 else (cond (ieq i.Op 3||ieq i.Op 4) (win i.X 0 15) (cond (ieq i.Op 7) (ieq i.X 0) (cond (ieq i.Op 8) (win i.X 0 11) false)))
@[simp,reducible] def zxv (i:Ins):Bool:=true
@[simp,reducible] def zuz (i:Ins):Bool:=zj7 i
def ztI:List AV->Option (Bool×List AV)
 | [.agg [.i .i64 c,.i .i64 d]]=>some ((zxv (⟨c,d⟩:Ins)),[.one (.b (zuz (⟨c,d⟩:Ins)))])
 | _=>none
def zwB (N:Nat)(a0:Ins):Option Ans :=
 (cond (ieq a0.Op 1) (cond (ieq a0.Op 1) (cond (zN a0.X 0 99) (some [(.one (.b (zT a0.X 0 99)))]) none) (cond (ieq a0.Op 3) (cond (ieq a0.Op 3) (cond (zN a0.X 0 15) (some [(.one (.b (zT a0.X 0 15)))]) none) (cond (ieq a0.Op 7) (some [(.one (.b (ieq a0.X 0)))]) (cond (ieq a0.Op 8) (cond (zN a0.X 0 11) (some [(.one (.b (zT a0.X 0 11)))]) none) (some [(.one (.b false))])))) (cond (ieq a0.Op 4) (cond (zN a0.X 0 15) (some [(.one (.b (zT a0.X 0 15)))]) none) (cond (ieq a0.Op 7) (some [(.one (.b (ieq a0.X 0)))]) (cond (ieq a0.Op 8) (cond (zN a0.X 0 11) (some [(.one (.b (zT a0.X 0 11)))]) none) (some [(.one (.b false))])))))) (cond (ieq a0.Op 2) (cond (ieq a0.Op 2) (cond (zN a0.X 0 99) (some [(.one (.b (zT a0.X 0 99)))]) none) (cond (ieq a0.Op 3) (cond (ieq a0.Op 3) (cond (zN a0.X 0 15) (some [(.one (.b (zT a0.X 0 15)))]) none) (cond (ieq a0.Op 7) (some [(.one (.b (ieq a0.X 0)))]) (cond (ieq a0.Op 8) (cond (zN a0.X 0 11) (some [(.one (.b (zT a0.X 0 11)))]) none) (some [(.one (.b false))])))) (cond (ieq a0.Op 4) (cond (zN a0.X 0 15) (some [(.one (.b (zT a0.X 0 15)))]) none) (cond (ieq a0.Op 7) (some [(.one (.b (ieq a0.X 0)))]) (cond (ieq a0.Op 8) (cond (zN a0.X 0 11) (some [(.one (.b (zT a0.X 0 11)))]) none) (some [(.one (.b false))])))))) (cond (ieq a0.Op 5) (cond (ieq a0.Op 5) (cond (zN a0.X 0 99) (some [(.one (.b (zT a0.X 0 99)))]) none) (cond (ieq a0.Op 3) (cond (ieq a0.Op 3) (cond (zN a0.X 0 15) (some [(.one (.b (zT a0.X 0 15)))]) none) (cond (ieq a0.Op 7) (some [(.one (.b (ieq a0.X 0)))]) (cond (ieq a0.Op 8) (cond (zN a0.X 0 11) (some [(.one (.b (zT a0.X 0 11)))]) none) (some [(.one (.b false))])))) (cond (ieq a0.Op 4) (cond (zN a0.X 0 15) (some [(.one (.b (zT a0.X 0 15)))]) none) (cond (ieq a0.Op 7) (some [(.one (.b (ieq a0.X 0)))]) (cond (ieq a0.Op 8) (cond (zN a0.X 0 11) (some [(.one (.b (zT a0.X 0 11)))]) none) (some [(.one (.b false))])))))) (cond (ieq a0.Op 6) (cond (zN a0.X 0 99) (some [(.one (.b (zT a0.X 0 99)))]) none) (cond (ieq a0.Op 3) (cond (ieq a0.Op 3) (cond (zN a0.X 0 15) (some [(.one (.b (zT a0.X 0 15)))]) none) (cond (ieq a0.Op 7) (some [(.one (.b (ieq a0.X 0)))]) (cond (ieq a0.Op 8) (cond (zN a0.X 0 11) (some [(.one (.b (zT a0.X 0 11)))]) none) (some [(.one (.b false))])))) (cond (ieq a0.Op 4) (cond (zN a0.X 0 15) (some [(.one (.b (zT a0.X 0 15)))]) none) (cond (ieq a0.Op 7) (some [(.one (.b (ieq a0.X 0)))]) (cond (ieq a0.Op 8) (cond (zN a0.X 0 11) (some [(.one (.b (zT a0.X 0 11)))]) none) (some [(.one (.b false))])))))))))
theorem zN9 (N:Nat)(a0:Ins):evalFn (cQ zgD zL zF zG) (zB []) N 12 216 [.agg (Ty.cells .ins a0)]=zwB N a0:=by kernel_rfl
theorem zLC (a0:Ins)(hb:zD big [.agg (Ty.cells .ins a0)])(hc:(zxv a0)=true):∃N,zwB N a0=some [.one (.b (zuz a0))]:=by
 refine ⟨0,?_⟩;unfold zwB;refine br (fun _=>br (fun _=>must rfl ?_) (fun _=>br (fun _=>br (fun _=>must rfl ?_) (fun _=>br (fun _=>?_) (fun _=>br (fun _=>must rfl ?_) (fun _=>?_)))) (fun _=>br (fun _=>must rfl ?_) (fun _=>br (fun _=>?_) (fun _=>br (fun _=>must rfl ?_) (fun _=>?_)))))) (fun _=>br (fun _=>br (fun _=>must rfl ?_) (fun _=>br (fun _=>br (fun _=>must rfl ?_) (fun _=>br (fun _=>?_) (fun _=>br (fun _=>must rfl ?_) (fun _=>?_)))) (fun _=>br (fun _=>must rfl ?_) (fun _=>br (fun _=>?_) (fun _=>br (fun _=>must rfl ?_) (fun _=>?_)))))) (fun _=>br (fun _=>br (fun _=>must rfl ?_) (fun _=>br (fun _=>br (fun _=>must rfl ?_) (fun _=>br (fun _=>?_) (fun _=>br (fun _=>must rfl ?_) (fun _=>?_)))) (fun _=>br (fun _=>must rfl ?_) (fun _=>br (fun _=>?_) (fun _=>br (fun _=>must rfl ?_) (fun _=>?_)))))) (fun _=>br (fun _=>must rfl ?_) (fun _=>br (fun _=>br (fun _=>must rfl ?_) (fun _=>br (fun _=>?_) (fun _=>br (fun _=>must rfl ?_) (fun _=>?_)))) (fun _=>br (fun _=>must rfl ?_) (fun _=>br (fun _=>?_) (fun _=>br (fun _=>must rfl ?_) (fun _=>?_))))))))
 all_goals first|rfl|(simp only [*,zuz,zj7,cT,cF]<;>rfl)|simp_all [Ty.cells,zuz,zj7]
theorem zF7:Holds Tryz.prog 216 ztI:=zn zds zA zq zu (zC (by kernel_rfl)) fun avs rs hb h=>by
 unfold ztI at h;split at h
 ·obtain ⟨hc,rfl⟩:=zi h;exact (fin1 zLC zN9 hc hb :)
 ·cases h
@[simp,reducible] def zxb (i:Ins):Bool:=true
@[simp,reducible] def zui (i:Ins):Bool:=zj7 i
def ztu:List AV->Option (Bool×List AV)
 | [.agg [.i .i64 c,.i .i64 d]]=>some ((zxb (⟨c,d⟩:Ins)),[.one (.b (zui (⟨c,d⟩:Ins)))])
 | _=>none
def zwn (N:Nat)(a0:Ins):Option Ans :=
 (cond (ieq a0.Op 1) (cond (ieq a0.Op 1) (cond (zQ a0.X 0 99) (some [(.one (.b (zX a0.X 0 99)))]) none) (cond (ieq a0.Op 3) (cond (ieq a0.Op 3) (cond (zQ a0.X 0 15) (some [(.one (.b (zX a0.X 0 15)))]) none) (cond (ieq a0.Op 7) (some [(.one (.b (ieq a0.X 0)))]) (cond (ieq a0.Op 8) (cond (zQ a0.X 0 11) (some [(.one (.b (zX a0.X 0 11)))]) none) (some [(.one (.b false))])))) (cond (ieq a0.Op 4) (cond (zQ a0.X 0 15) (some [(.one (.b (zX a0.X 0 15)))]) none) (cond (ieq a0.Op 7) (some [(.one (.b (ieq a0.X 0)))]) (cond (ieq a0.Op 8) (cond (zQ a0.X 0 11) (some [(.one (.b (zX a0.X 0 11)))]) none) (some [(.one (.b false))])))))) (cond (ieq a0.Op 2) (cond (ieq a0.Op 2) (cond (zQ a0.X 0 99) (some [(.one (.b (zX a0.X 0 99)))]) none) (cond (ieq a0.Op 3) (cond (ieq a0.Op 3) (cond (zQ a0.X 0 15) (some [(.one (.b (zX a0.X 0 15)))]) none) (cond (ieq a0.Op 7) (some [(.one (.b (ieq a0.X 0)))]) (cond (ieq a0.Op 8) (cond (zQ a0.X 0 11) (some [(.one (.b (zX a0.X 0 11)))]) none) (some [(.one (.b false))])))) (cond (ieq a0.Op 4) (cond (zQ a0.X 0 15) (some [(.one (.b (zX a0.X 0 15)))]) none) (cond (ieq a0.Op 7) (some [(.one (.b (ieq a0.X 0)))]) (cond (ieq a0.Op 8) (cond (zQ a0.X 0 11) (some [(.one (.b (zX a0.X 0 11)))]) none) (some [(.one (.b false))])))))) (cond (ieq a0.Op 5) (cond (ieq a0.Op 5) (cond (zQ a0.X 0 99) (some [(.one (.b (zX a0.X 0 99)))]) none) (cond (ieq a0.Op 3) (cond (ieq a0.Op 3) (cond (zQ a0.X 0 15) (some [(.one (.b (zX a0.X 0 15)))]) none) (cond (ieq a0.Op 7) (some [(.one (.b (ieq a0.X 0)))]) (cond (ieq a0.Op 8) (cond (zQ a0.X 0 11) (some [(.one (.b (zX a0.X 0 11)))]) none) (some [(.one (.b false))])))) (cond (ieq a0.Op 4) (cond (zQ a0.X 0 15) (some [(.one (.b (zX a0.X 0 15)))]) none) (cond (ieq a0.Op 7) (some [(.one (.b (ieq a0.X 0)))]) (cond (ieq a0.Op 8) (cond (zQ a0.X 0 11) (some [(.one (.b (zX a0.X 0 11)))]) none) (some [(.one (.b false))])))))) (cond (ieq a0.Op 6) (cond (zQ a0.X 0 99) (some [(.one (.b (zX a0.X 0 99)))]) none) (cond (ieq a0.Op 3) (cond (ieq a0.Op 3) (cond (zQ a0.X 0 15) (some [(.one (.b (zX a0.X 0 15)))]) none) (cond (ieq a0.Op 7) (some [(.one (.b (ieq a0.X 0)))]) (cond (ieq a0.Op 8) (cond (zQ a0.X 0 11) (some [(.one (.b (zX a0.X 0 11)))]) none) (some [(.one (.b false))])))) (cond (ieq a0.Op 4) (cond (zQ a0.X 0 15) (some [(.one (.b (zX a0.X 0 15)))]) none) (cond (ieq a0.Op 7) (some [(.one (.b (ieq a0.X 0)))]) (cond (ieq a0.Op 8) (cond (zQ a0.X 0 11) (some [(.one (.b (zX a0.X 0 11)))]) none) (some [(.one (.b false))])))))))))
theorem zNV (N:Nat)(a0:Ins):evalFn (cQ zgD zL zF zG) (zB []) N 12 225 [.agg (Ty.cells .ins a0)]=zwn N a0:=by kernel_rfl
theorem zLo (a0:Ins)(hb:zD big [.agg (Ty.cells .ins a0)])(hc:(zxb a0)=true):∃N,zwn N a0=some [.one (.b (zui a0))]:=by
 refine ⟨0,?_⟩;unfold zwn;refine br (fun _=>br (fun _=>must rfl ?_) (fun _=>br (fun _=>br (fun _=>must rfl ?_) (fun _=>br (fun _=>?_) (fun _=>br (fun _=>must rfl ?_) (fun _=>?_)))) (fun _=>br (fun _=>must rfl ?_) (fun _=>br (fun _=>?_) (fun _=>br (fun _=>must rfl ?_) (fun _=>?_)))))) (fun _=>br (fun _=>br (fun _=>must rfl ?_) (fun _=>br (fun _=>br (fun _=>must rfl ?_) (fun _=>br (fun _=>?_) (fun _=>br (fun _=>must rfl ?_) (fun _=>?_)))) (fun _=>br (fun _=>must rfl ?_) (fun _=>br (fun _=>?_) (fun _=>br (fun _=>must rfl ?_) (fun _=>?_)))))) (fun _=>br (fun _=>br (fun _=>must rfl ?_) (fun _=>br (fun _=>br (fun _=>must rfl ?_) (fun _=>br (fun _=>?_) (fun _=>br (fun _=>must rfl ?_) (fun _=>?_)))) (fun _=>br (fun _=>must rfl ?_) (fun _=>br (fun _=>?_) (fun _=>br (fun _=>must rfl ?_) (fun _=>?_)))))) (fun _=>br (fun _=>must rfl ?_) (fun _=>br (fun _=>br (fun _=>must rfl ?_) (fun _=>br (fun _=>?_) (fun _=>br (fun _=>must rfl ?_) (fun _=>?_)))) (fun _=>br (fun _=>must rfl ?_) (fun _=>br (fun _=>?_) (fun _=>br (fun _=>must rfl ?_) (fun _=>?_))))))))
 all_goals first|rfl|(simp only [*,zui,zj7,cT,cF]<;>rfl)|simp_all [Ty.cells,zui,zj7]
theorem zFT:Holds Tryz.prog 225 ztu:=zn zds zA zq zu (zC (by kernel_rfl)) fun avs rs hb h=>by
 unfold ztu at h;split at h
 ·obtain ⟨hc,rfl⟩:=zi h;exact (fin1 zLo zNV hc hb :)
 ·cases h
def zp0 (e:GExit):Bool:=bif (ieq e.Kind 0||ieq e.Kind 4) then (ieq e.Page 0&&(!e.Write&&ieq e.N 0)) else (cond (ieq e.Kind 1) (win e.Page 0 3&&ieq e.N 0) (cond (ieq e.Kind 2||ieq e.Kind 3) (win e.N 0 99&&(ieq e.Page 0 && !e.Write)) false))
@[simp] theorem zTO (x:Bool):zeo x false = !x:=by cases x<;>rfl
attribute [simp] zqh
@[simp,reducible] def zv0 (e:GExit):Bool:=true
@[simp,reducible] def zrt (e:GExit):Bool:=zp0 e
def zq5:List AV->Option (Bool×List AV)
 | [.agg [.i .i64 c,.i .i64 d,.b e,.i .i64 f]]=>some ((zv0 (⟨c,d,e,f⟩:GExit)),[.one (.b (zrt (⟨c,d,e,f⟩:GExit)))])
 | _=>none
def zvf (N:Nat)(a0:GExit):Option Ans :=
 (cond (ieq a0.Kind 0) (cond (ieq a0.Kind 0) (some [(.one (.b (cond (ieq a0.Kind a0.Kind) (cond (ieq a0.Page 0) (cond (zeo a0.Write false) (ieq a0.N 0) false) false) false)))]) (cond (ieq a0.Kind 1) (cond (zN a0.Page 0 3) (cond (zT a0.Page 0 3) (some [(.one (.b (ieq a0.N 0)))]) (some [(.one (.b false))])) none) (cond (ieq a0.Kind 2) (cond (ieq a0.Kind 2) (cond (zN a0.N 0 99) (cond (zT a0.N 0 99) (cond (ieq a0.Page 0) (some [(.one (.b (cond a0.Write false true)))]) (some [(.one (.b false))])) (some [(.one (.b false))])) none) (some [(.one (.b false))])) (cond (ieq a0.Kind 3) (cond (zN a0.N 0 99) (cond (zT a0.N 0 99) (cond (ieq a0.Page 0) (some [(.one (.b (cond a0.Write false true)))]) (some [(.one (.b false))])) (some [(.one (.b false))])) none) (some [(.one (.b false))]))))) (cond (ieq a0.Kind 4) (some [(.one (.b (cond (ieq a0.Kind a0.Kind) (cond (ieq a0.Page 0) (cond (zeo a0.Write false) (ieq a0.N 0) false) false) false)))]) (cond (ieq a0.Kind 1) (cond (zN a0.Page 0 3) (cond (zT a0.Page 0 3) (some [(.one (.b (ieq a0.N 0)))]) (some [(.one (.b false))])) none) (cond (ieq a0.Kind 2) (cond (ieq a0.Kind 2) (cond (zN a0.N 0 99) (cond (zT a0.N 0 99) (cond (ieq a0.Page 0) (some [(.one (.b (cond a0.Write false true)))]) (some [(.one (.b false))])) (some [(.one (.b false))])) none) (some [(.one (.b false))])) (cond (ieq a0.Kind 3) (cond (zN a0.N 0 99) (cond (zT a0.N 0 99) (cond (ieq a0.Page 0) (some [(.one (.b (cond a0.Write false true)))]) (some [(.one (.b false))])) (some [(.one (.b false))])) none) (some [(.one (.b false))]))))))
theorem zMj (N:Nat)(a0:GExit):evalFn (cQ zgD zL zF zG) (zB []) N 12 199 [.agg (zcY a0)]=zvf N a0:=by kernel_rfl
theorem zJp (a0:GExit)(hb:zD big [.agg (zcY a0)])(hc:(zv0 a0)=true):∃N,zvf N a0=some [.one (.b (zrt a0))]:=by
 refine ⟨0,?_⟩;unfold zvf;refine br (fun _=>br (fun _=>?_) (fun _=>br (fun _=>must rfl (br (fun _=>?_) (fun _=>?_))) (fun _=>br (fun _=>br (fun _=>must rfl (br (fun _=>br (fun _=>?_) (fun _=>?_)) (fun _=>?_))) (fun _=>?_)) (fun _=>br (fun _=>must rfl (br (fun _=>br (fun _=>?_) (fun _=>?_)) (fun _=>?_))) (fun _=>?_))))) (fun _=>br (fun _=>?_) (fun _=>br (fun _=>must rfl (br (fun _=>?_) (fun _=>?_))) (fun _=>br (fun _=>br (fun _=>must rfl (br (fun _=>br (fun _=>?_) (fun _=>?_)) (fun _=>?_))) (fun _=>?_)) (fun _=>br (fun _=>must rfl (br (fun _=>br (fun _=>?_) (fun _=>?_)) (fun _=>?_))) (fun _=>?_)))))
 all_goals first|rfl|(simp only [*,zrt,zp0,cT,cF]<;>rfl)|simp_all [Ty.cells,zrt,zp0]
theorem zDE:Holds Tryz.prog 199 zq5:=zn zds zA zq zu (zC (by kernel_rfl)) fun avs rs hb h=>by
 unfold zq5 at h;split at h
 ·obtain ⟨hc,rfl⟩:=zi h;exact (fin1 zJp zMj hc hb :)
 ·cases h
@[simp,reducible] def zvN (e:GExit):Bool:=true
@[simp,reducible] def zqd (e:GExit):Bool:=zp0 e
def zqB:List AV->Option (Bool×List AV)
 | [.agg [.i .i64 c,.i .i64 d,.b e,.i .i64 f]]=>some ((zvN (⟨c,d,e,f⟩:GExit)),[.one (.b (zqd (⟨c,d,e,f⟩:GExit)))])
 | _=>none
def zuL (N:Nat)(a0:GExit):Option Ans :=
 (cond (ieq a0.Kind 0) (cond (ieq a0.Kind 0) (cond (ieq a0.Page 0) (cond (cond a0.Write false true) (some [(.one (.b (ieq a0.N 0)))]) (some [(.one (.b false))])) (some [(.one (.b false))])) (cond (ieq a0.Kind 1) (cond (zQ a0.Page 0 3) (cond (zX a0.Page 0 3) (some [(.one (.b (ieq a0.N 0)))]) (some [(.one (.b false))])) none) (cond (ieq a0.Kind 2) (cond (ieq a0.Kind 2) (cond (zQ a0.N 0 99) (cond (zX a0.N 0 99) (cond (ieq a0.Page 0) (some [(.one (.b (cond a0.Write false true)))]) (some [(.one (.b false))])) (some [(.one (.b false))])) none) (some [(.one (.b false))])) (cond (ieq a0.Kind 3) (cond (zQ a0.N 0 99) (cond (zX a0.N 0 99) (cond (ieq a0.Page 0) (some [(.one (.b (cond a0.Write false true)))]) (some [(.one (.b false))])) (some [(.one (.b false))])) none) (some [(.one (.b false))]))))) (cond (ieq a0.Kind 4) (cond (ieq a0.Page 0) (cond (cond a0.Write false true) (some [(.one (.b (ieq a0.N 0)))]) (some [(.one (.b false))])) (some [(.one (.b false))])) (cond (ieq a0.Kind 1) (cond (zQ a0.Page 0 3) (cond (zX a0.Page 0 3) (some [(.one (.b (ieq a0.N 0)))]) (some [(.one (.b false))])) none) (cond (ieq a0.Kind 2) (cond (ieq a0.Kind 2) (cond (zQ a0.N 0 99) (cond (zX a0.N 0 99) (cond (ieq a0.Page 0) (some [(.one (.b (cond a0.Write false true)))]) (some [(.one (.b false))])) (some [(.one (.b false))])) none) (some [(.one (.b false))])) (cond (ieq a0.Kind 3) (cond (zQ a0.N 0 99) (cond (zX a0.N 0 99) (cond (ieq a0.Page 0) (some [(.one (.b (cond a0.Write false true)))]) (some [(.one (.b false))])) (some [(.one (.b false))])) none) (some [(.one (.b false))]))))))
theorem zLO (N:Nat)(a0:GExit):evalFn (cQ zgD zL zF zG) (zB []) N 12 221 [.agg (zcY a0)]=zuL N a0:=by kernel_rfl
theorem zIU (a0:GExit)(hb:zD big [.agg (zcY a0)])(hc:(zvN a0)=true):∃N,zuL N a0=some [.one (.b (zqd a0))]:=by
 refine ⟨0,?_⟩;unfold zuL;refine br (fun _=>br (fun _=>br (fun _=>brN (fun _=>?_) (fun _=>?_)) (fun _=>?_)) (fun _=>br (fun _=>must rfl (br (fun _=>?_) (fun _=>?_))) (fun _=>br (fun _=>br (fun _=>must rfl (br (fun _=>br (fun _=>?_) (fun _=>?_)) (fun _=>?_))) (fun _=>?_)) (fun _=>br (fun _=>must rfl (br (fun _=>br (fun _=>?_) (fun _=>?_)) (fun _=>?_))) (fun _=>?_))))) (fun _=>br (fun _=>br (fun _=>brN (fun _=>?_) (fun _=>?_)) (fun _=>?_)) (fun _=>br (fun _=>must rfl (br (fun _=>?_) (fun _=>?_))) (fun _=>br (fun _=>br (fun _=>must rfl (br (fun _=>br (fun _=>?_) (fun _=>?_)) (fun _=>?_))) (fun _=>?_)) (fun _=>br (fun _=>must rfl (br (fun _=>br (fun _=>?_) (fun _=>?_)) (fun _=>?_))) (fun _=>?_)))))
 all_goals first|rfl|(simp only [*,zqd,zp0,cT,cF]<;>rfl)|simp_all [Ty.cells,zqd,zp0]
theorem zDa:Holds Tryz.prog 221 zqB:=zn zds zA zq zu (zC (by kernel_rfl)) fun avs rs hb h=>by
 unfold zqB at h;split at h
 ·obtain ⟨hc,rfl⟩:=zi h;exact (fin1 zIU zLO hc hb :)
 ·cases h
def zgM (c:Ctl):List Int:=(cond (win c.Traps 0 3) [] [1])++((cond (win c.Post 0 255) [] [2])++((cond (ine c.Post 0) (cond c.Open [] [3]) [])++(cond (ieq c.Traps 2) (cond (ine c.Post 0) [4] []) [])))
@[simp] theorem zTK {α:Type}(x:α)(l m:List α):ap (x :: l) m=x :: ap l m:=rfl
@[simp,reducible] def zoi (c:Ctl):Bool:=true
@[simp,reducible] def ziu (c:Ctl):List Int:=zgM c
def zkB:List AV->Option (Bool×List AV)
 | [.agg [.i .i64 c,.i .i64 d,.b e]]=>some ((zoi (⟨c,d,e⟩:Ctl)),[.one (.s .int (ziu (⟨c,d,e⟩:Ctl)))])
 | _=>none
def zni (N:Nat)(a0:Ctl):Option Ans :=
 (cond (zN a0.Traps 0 3) (cond (cond (zT a0.Traps 0 3) false true) (cond (few (ln (ap [] [1]))) (cond (zN a0.Post 0 255) (cond (cond (zT a0.Post 0 255) false true) (cond (few (ln (ap (ap [] [1]) [2]))) (cond (ine a0.Post 0) (cond (cond a0.Open false true) (cond (few (ln (ap (ap (ap [] [1]) [2]) [3]))) (cond (ieq a0.Traps 2) (cond (ine a0.Post 0) (cond (few (ln (ap (ap (ap (ap [] [1]) [2]) [3]) [4]))) (some [(.one (.s .int (ap (ap (ap (ap [] [1]) [2]) [3]) [4])))]) none) (some [(.one (.s .int (ap (ap (ap [] [1]) [2]) [3])))])) (some [(.one (.s .int (ap (ap (ap [] [1]) [2]) [3])))])) none) (cond (ieq a0.Traps 2) (cond (ine a0.Post 0) (cond (few (ln (ap (ap (ap [] [1]) [2]) [4]))) (some [(.one (.s .int (ap (ap (ap [] [1]) [2]) [4])))]) none) (some [(.one (.s .int (ap (ap [] [1]) [2])))])) (some [(.one (.s .int (ap (ap [] [1]) [2])))]))) (cond (ieq a0.Traps 2) (cond (ine a0.Post 0) (cond (few (ln (ap (ap (ap [] [1]) [2]) [4]))) (some [(.one (.s .int (ap (ap (ap [] [1]) [2]) [4])))]) none) (some [(.one (.s .int (ap (ap [] [1]) [2])))])) (some [(.one (.s .int (ap (ap [] [1]) [2])))]))) none) (cond (ine a0.Post 0) (cond (cond a0.Open false true) (cond (few (ln (ap (ap [] [1]) [3]))) (cond (ieq a0.Traps 2) (cond (ine a0.Post 0) (cond (few (ln (ap (ap (ap [] [1]) [3]) [4]))) (some [(.one (.s .int (ap (ap (ap [] [1]) [3]) [4])))]) none) (some [(.one (.s .int (ap (ap [] [1]) [3])))])) (some [(.one (.s .int (ap (ap [] [1]) [3])))])) none) (cond (ieq a0.Traps 2) (cond (ine a0.Post 0) (cond (few (ln (ap (ap [] [1]) [4]))) (some [(.one (.s .int (ap (ap [] [1]) [4])))]) none) (some [(.one (.s .int (ap [] [1])))])) (some [(.one (.s .int (ap [] [1])))]))) (cond (ieq a0.Traps 2) (cond (ine a0.Post 0) (cond (few (ln (ap (ap [] [1]) [4]))) (some [(.one (.s .int (ap (ap [] [1]) [4])))]) none) (some [(.one (.s .int (ap [] [1])))])) (some [(.one (.s .int (ap [] [1])))])))) none) none) (cond (zN a0.Post 0 255) (cond (cond (zT a0.Post 0 255) false true) (cond (few (ln (ap [] [2]))) (cond (ine a0.Post 0) (cond (cond a0.Open false true) (cond (few (ln (ap (ap [] [2]) [3]))) (cond (ieq a0.Traps 2) (cond (ine a0.Post 0) (cond (few (ln (ap (ap (ap [] [2]) [3]) [4]))) (some [(.one (.s .int (ap (ap (ap [] [2]) [3]) [4])))]) none) (some [(.one (.s .int (ap (ap [] [2]) [3])))])) (some [(.one (.s .int (ap (ap [] [2]) [3])))])) none) (cond (ieq a0.Traps 2) (cond (ine a0.Post 0) (cond (few (ln (ap (ap [] [2]) [4]))) (some [(.one (.s .int (ap (ap [] [2]) [4])))]) none) (some [(.one (.s .int (ap [] [2])))])) (some [(.one (.s .int (ap [] [2])))]))) (cond (ieq a0.Traps 2) (cond (ine a0.Post 0) (cond (few (ln (ap (ap [] [2]) [4]))) (some [(.one (.s .int (ap (ap [] [2]) [4])))]) none) (some [(.one (.s .int (ap [] [2])))])) (some [(.one (.s .int (ap [] [2])))]))) none) (cond (ine a0.Post 0) (cond (cond a0.Open false true) (cond (few (ln (ap [] [3]))) (cond (ieq a0.Traps 2) (cond (ine a0.Post 0) (cond (few (ln (ap (ap [] [3]) [4]))) (some [(.one (.s .int (ap (ap [] [3]) [4])))]) none) (some [(.one (.s .int (ap [] [3])))])) (some [(.one (.s .int (ap [] [3])))])) none) (cond (ieq a0.Traps 2) (cond (ine a0.Post 0) (cond (few (ln (ap [] [4]))) (some [(.one (.s .int (ap [] [4])))]) none) (some [(.one (.s .int []))])) (some [(.one (.s .int []))]))) (cond (ieq a0.Traps 2) (cond (ine a0.Post 0) (cond (few (ln (ap [] [4]))) (some [(.one (.s .int (ap [] [4])))]) none) (some [(.one (.s .int []))])) (some [(.one (.s .int []))])))) none)) none)
theorem zEZ (N:Nat)(a0:Ctl):evalFn (cQ zgD zL zF zG) (zB []) N 12 147 [.agg (zeb a0)]=zni N a0:=by kernel_rfl
theorem zBZ (a0:Ctl)(hb:zD big [.agg (zeb a0)])(hc:(zoi a0)=true):∃N,zni N a0=some [.one (.s .int (ziu a0))]:=by
 refine ⟨0,?_⟩;unfold zni;refine must rfl (brN (fun _=>must (by first|assumption|(simp_all<;>omega)) (must rfl (brN (fun _=>must (by first|assumption|(simp_all<;>omega)) (br (fun _=>brN (fun _=>must (by first|assumption|(simp_all<;>omega)) (br (fun _=>br (fun _=>must (by first|assumption|(simp_all<;>omega)) ?_) (fun _=>?_)) (fun _=>?_))) (fun _=>br (fun _=>br (fun _=>must (by first|assumption|(simp_all<;>omega)) ?_) (fun _=>?_)) (fun _=>?_))) (fun _=>br (fun _=>br (fun _=>must (by first|assumption|(simp_all<;>omega)) ?_) (fun _=>?_)) (fun _=>?_)))) (fun _=>br (fun _=>brN (fun _=>must (by first|assumption|(simp_all<;>omega)) (br (fun _=>br (fun _=>must (by first|assumption|(simp_all<;>omega)) ?_) (fun _=>?_)) (fun _=>?_))) (fun _=>br (fun _=>br (fun _=>must (by first|assumption|(simp_all<;>omega)) ?_) (fun _=>?_)) (fun _=>?_))) (fun _=>br (fun _=>br (fun _=>must (by first|assumption|(simp_all<;>omega)) ?_) (fun _=>?_)) (fun _=>?_)))))) (fun _=>must rfl (brN (fun _=>must (by first|assumption|(simp_all<;>omega)) (br (fun _=>brN (fun _=>must (by first|assumption|(simp_all<;>omega)) (br (fun _=>br (fun _=>must (by first|assumption|(simp_all<;>omega)) ?_) (fun _=>?_)) (fun _=>?_))) (fun _=>br (fun _=>br (fun _=>must (by first|assumption|(simp_all<;>omega)) ?_) (fun _=>?_)) (fun _=>?_))) (fun _=>br (fun _=>br (fun _=>must (by first|assumption|(simp_all<;>omega)) ?_) (fun _=>?_)) (fun _=>?_)))) (fun _=>br (fun _=>brN (fun _=>must (by first|assumption|(simp_all<;>omega)) (br (fun _=>br (fun _=>must (by first|assumption|(simp_all<;>omega)) ?_) (fun _=>?_)) (fun _=>?_))) (fun _=>br (fun _=>br (fun _=>must (by first|assumption|(simp_all<;>omega)) ?_) (fun _=>?_)) (fun _=>?_))) (fun _=>br (fun _=>br (fun _=>must (by first|assumption|(simp_all<;>omega)) ?_) (fun _=>?_)) (fun _=>?_))))))
 all_goals first|rfl|(simp only [*,ziu,zgM,cT,cF]<;>rfl)|simp_all [Ty.cells,ziu,zgM]
theorem zyj:Holds Tryz.prog 147 zkB:=zn zds zA zq zu (zC (by kernel_rfl)) fun avs rs hb h=>by
 unfold zkB at h;split at h
 ·obtain ⟨hc,rfl⟩:=zi h;exact (fin1 zBZ zEZ hc hb :)
 ·cases h
@[simp,reducible] def znp (c:Ctl):Bool:=true
@[simp,reducible] def zid (c:Ctl):List Int:=zgM c
def zkn:List AV->Option (Bool×List AV)
 | [.agg [.i .i64 c,.i .i64 d,.b e]]=>some ((znp (⟨c,d,e⟩:Ctl)),[.one (.s .int (zid (⟨c,d,e⟩:Ctl)))])
 | _=>none
def zm1 (N:Nat)(a0:Ctl):Option Ans :=
 (cond (zQ a0.Traps 0 3) (cond (cond (zX a0.Traps 0 3) false true) (cond (few (ln (ap [] [1]))) (cond (zQ a0.Post 0 255) (cond (cond (zX a0.Post 0 255) false true) (cond (few (ln (ap (ap [] [1]) [2]))) (cond (ine a0.Post 0) (cond (cond a0.Open false true) (cond (few (ln (ap (ap (ap [] [1]) [2]) [3]))) (cond (ieq a0.Traps 2) (cond (ine a0.Post 0) (cond (few (ln (ap (ap (ap (ap [] [1]) [2]) [3]) [4]))) (some [(.one (.s .int (ap (ap (ap (ap [] [1]) [2]) [3]) [4])))]) none) (some [(.one (.s .int (ap (ap (ap [] [1]) [2]) [3])))])) (some [(.one (.s .int (ap (ap (ap [] [1]) [2]) [3])))])) none) (cond (ieq a0.Traps 2) (cond (ine a0.Post 0) (cond (few (ln (ap (ap (ap [] [1]) [2]) [4]))) (some [(.one (.s .int (ap (ap (ap [] [1]) [2]) [4])))]) none) (some [(.one (.s .int (ap (ap [] [1]) [2])))])) (some [(.one (.s .int (ap (ap [] [1]) [2])))]))) (cond (ieq a0.Traps 2) (cond (ine a0.Post 0) (cond (few (ln (ap (ap (ap [] [1]) [2]) [4]))) (some [(.one (.s .int (ap (ap (ap [] [1]) [2]) [4])))]) none) (some [(.one (.s .int (ap (ap [] [1]) [2])))])) (some [(.one (.s .int (ap (ap [] [1]) [2])))]))) none) (cond (ine a0.Post 0) (cond (cond a0.Open false true) (cond (few (ln (ap (ap [] [1]) [3]))) (cond (ieq a0.Traps 2) (cond (ine a0.Post 0) (cond (few (ln (ap (ap (ap [] [1]) [3]) [4]))) (some [(.one (.s .int (ap (ap (ap [] [1]) [3]) [4])))]) none) (some [(.one (.s .int (ap (ap [] [1]) [3])))])) (some [(.one (.s .int (ap (ap [] [1]) [3])))])) none) (cond (ieq a0.Traps 2) (cond (ine a0.Post 0) (cond (few (ln (ap (ap [] [1]) [4]))) (some [(.one (.s .int (ap (ap [] [1]) [4])))]) none) (some [(.one (.s .int (ap [] [1])))])) (some [(.one (.s .int (ap [] [1])))]))) (cond (ieq a0.Traps 2) (cond (ine a0.Post 0) (cond (few (ln (ap (ap [] [1]) [4]))) (some [(.one (.s .int (ap (ap [] [1]) [4])))]) none) (some [(.one (.s .int (ap [] [1])))])) (some [(.one (.s .int (ap [] [1])))])))) none) none) (cond (zQ a0.Post 0 255) (cond (cond (zX a0.Post 0 255) false true) (cond (few (ln (ap [] [2]))) (cond (ine a0.Post 0) (cond (cond a0.Open false true) (cond (few (ln (ap (ap [] [2]) [3]))) (cond (ieq a0.Traps 2) (cond (ine a0.Post 0) (cond (few (ln (ap (ap (ap [] [2]) [3]) [4]))) (some [(.one (.s .int (ap (ap (ap [] [2]) [3]) [4])))]) none) (some [(.one (.s .int (ap (ap [] [2]) [3])))])) (some [(.one (.s .int (ap (ap [] [2]) [3])))])) none) (cond (ieq a0.Traps 2) (cond (ine a0.Post 0) (cond (few (ln (ap (ap [] [2]) [4]))) (some [(.one (.s .int (ap (ap [] [2]) [4])))]) none) (some [(.one (.s .int (ap [] [2])))])) (some [(.one (.s .int (ap [] [2])))]))) (cond (ieq a0.Traps 2) (cond (ine a0.Post 0) (cond (few (ln (ap (ap [] [2]) [4]))) (some [(.one (.s .int (ap (ap [] [2]) [4])))]) none) (some [(.one (.s .int (ap [] [2])))])) (some [(.one (.s .int (ap [] [2])))]))) none) (cond (ine a0.Post 0) (cond (cond a0.Open false true) (cond (few (ln (ap [] [3]))) (cond (ieq a0.Traps 2) (cond (ine a0.Post 0) (cond (few (ln (ap (ap [] [3]) [4]))) (some [(.one (.s .int (ap (ap [] [3]) [4])))]) none) (some [(.one (.s .int (ap [] [3])))])) (some [(.one (.s .int (ap [] [3])))])) none) (cond (ieq a0.Traps 2) (cond (ine a0.Post 0) (cond (few (ln (ap [] [4]))) (some [(.one (.s .int (ap [] [4])))]) none) (some [(.one (.s .int []))])) (some [(.one (.s .int []))]))) (cond (ieq a0.Traps 2) (cond (ine a0.Post 0) (cond (few (ln (ap [] [4]))) (some [(.one (.s .int (ap [] [4])))]) none) (some [(.one (.s .int []))])) (some [(.one (.s .int []))])))) none)) none)
theorem zEI (N:Nat)(a0:Ctl):evalFn (cQ zgD zL zF zG) (zB []) N 12 212 [.agg (zeb a0)]=zm1 N a0:=by kernel_rfl
theorem zBI (a0:Ctl)(hb:zD big [.agg (zeb a0)])(hc:(znp a0)=true):∃N,zm1 N a0=some [.one (.s .int (zid a0))]:=by
 refine ⟨0,?_⟩;unfold zm1;refine must rfl (brN (fun _=>must (by first|assumption|(simp_all<;>omega)) (must rfl (brN (fun _=>must (by first|assumption|(simp_all<;>omega)) (br (fun _=>brN (fun _=>must (by first|assumption|(simp_all<;>omega)) (br (fun _=>br (fun _=>must (by first|assumption|(simp_all<;>omega)) ?_) (fun _=>?_)) (fun _=>?_))) (fun _=>br (fun _=>br (fun _=>must (by first|assumption|(simp_all<;>omega)) ?_) (fun _=>?_)) (fun _=>?_))) (fun _=>br (fun _=>br (fun _=>must (by first|assumption|(simp_all<;>omega)) ?_) (fun _=>?_)) (fun _=>?_)))) (fun _=>br (fun _=>brN (fun _=>must (by first|assumption|(simp_all<;>omega)) (br (fun _=>br (fun _=>must (by first|assumption|(simp_all<;>omega)) ?_) (fun _=>?_)) (fun _=>?_))) (fun _=>br (fun _=>br (fun _=>must (by first|assumption|(simp_all<;>omega)) ?_) (fun _=>?_)) (fun _=>?_))) (fun _=>br (fun _=>br (fun _=>must (by first|assumption|(simp_all<;>omega)) ?_) (fun _=>?_)) (fun _=>?_)))))) (fun _=>must rfl (brN (fun _=>must (by first|assumption|(simp_all<;>omega)) (br (fun _=>brN (fun _=>must (by first|assumption|(simp_all<;>omega)) (br (fun _=>br (fun _=>must (by first|assumption|(simp_all<;>omega)) ?_) (fun _=>?_)) (fun _=>?_))) (fun _=>br (fun _=>br (fun _=>must (by first|assumption|(simp_all<;>omega)) ?_) (fun _=>?_)) (fun _=>?_))) (fun _=>br (fun _=>br (fun _=>must (by first|assumption|(simp_all<;>omega)) ?_) (fun _=>?_)) (fun _=>?_)))) (fun _=>br (fun _=>brN (fun _=>must (by first|assumption|(simp_all<;>omega)) (br (fun _=>br (fun _=>must (by first|assumption|(simp_all<;>omega)) ?_) (fun _=>?_)) (fun _=>?_))) (fun _=>br (fun _=>br (fun _=>must (by first|assumption|(simp_all<;>omega)) ?_) (fun _=>?_)) (fun _=>?_))) (fun _=>br (fun _=>br (fun _=>must (by first|assumption|(simp_all<;>omega)) ?_) (fun _=>?_)) (fun _=>?_))))))
 all_goals first|rfl|(simp only [*,zid,zgM,cT,cF]<;>rfl)|simp_all [Ty.cells,zid,zgM]
theorem zx3:Holds Tryz.prog 212 zkn:=zn zds zA zq zu (zC (by kernel_rfl)) fun avs rs hb h=>by
 unfold zkn at h;split at h
 ·obtain ⟨hc,rfl⟩:=zi h;exact (fin1 zBI zEI hc hb :)
 ·cases h
def len8tab:ByteArray:=⟨⟨[0,1,2,2,3,3,3,3,4,4,4,4,4,4,4,4,5,5,5,5,5,5,5,5,5,5,5,5,5,5,5,5,6,6,6,6,6,6,6,6,6,6,6,6,6,6,6,6,6,6,6,6,6,6,6,6,6,6,6,6,6,6,6,6,7,7,7,7,7,7,7,7,7,7,7,7,7,7,7,7,7,7,7,7,7,7,7,7,7,7,7,7,7,7,7,7,7,7,7,7,7,7,7,7,7,7,7,7,7,7,7,7,7,7,7,7,7,7,7,7,7,7,7,7,7,7,7,7,8,8,8,8,8,8,8,8,8,8,8,8,8,8,8,8,8,8,8,8,8,8,8,8,8,8,8,8,8,8,8,8,8,8,8,8,8,8,8,8,8,8,8,8,8,8,8,8,8,8,8,8,8,8,8,8,8,8,8,8,8,8,8,8,8,8,8,8,8,8,8,8,8,8,8,8,8,8,8,8,8,8,8,8,8,8,8,8,8,8,8,8,8,8,8,8,8,8,8,8,8,8,8,8,8,8,8,8,8,8,8,8,8,8,8,8,8,8,8,8,8,8,8,8,8,8,8,8]⟩⟩
def zd9 (p n:Int):Bool:=ieq (wand .i64 (zcK .i64 p n) 1) 1
def scan (p:Int):Int:=bif zd9 p 7 then 7 else (cond (zd9 p 6) 6 (cond (zd9 p 5) 5 (cond (zd9 p 4) 4 (cond (zd9 p 3) 3 (cond (zd9 p 2) 2 (cond (zd9 p 1) 1 (cond (zd9 p 0) 0 (-1))))))))
theorem zQB:∀n:Fin 256,zy .i64 0 (wcv .i64 (byteAt len8tab (wcv .u8 (n.val:Int))))=scan (n.val:Int)+1:=by decide +kernel
theorem zKE:∀n:Fin 256,-1<=scan (n.val:Int)/\scan (n.val:Int)<=7/\(0<=scan (n.val:Int)->wsub .i64 (n.val:Int) (zhY .i64 1 (scan (n.val:Int)))=zv8 .i64 (n.val:Int) (zhY .i64 1 (scan (n.val:Int)))):=by decide +kernel
theorem zxo {P:Int->Prop}(h:∀n:Fin 256,P (n.val:Int)){x:Int}(h0:0<=x)(h1:x<=255):P x:=by
 have:=h ⟨x.toNat,by omega⟩
 have e:((x.toNat:Nat):Int)=x:=by omega
 simpa [e] using this
def zhZ (x:Int):Bool:=pc (0<=x/\x<=255)
def zeZ (x:Int):Int:=scan x+1
def zeD:List AV->Option (Bool×List AV)
 | [.one (.i .u64 b)]=>some ((zhZ b),[.one (.i .i64 (zeZ b))])
 | _=>none
def zhP (N:Nat)(a0:Int):Option Ans :=
 (cond (ige a0 4294967296) (cond (ile 0 32) (cond (ige (zcK .u64 a0 32) 65536) (cond (ile 0 16) (cond (ige (zcK .u64 (zcK .u64 a0 32) 16) 256) (cond (ile 0 8) (cond (inb (wcv .u8 (zcK .u64 (zcK .u64 (zcK .u64 a0 32) 16) 8)) 256) (some [(.one (.i .i64 (zy .i64 (zy .i64 (zy .i64 32 16) 8) (wcv .i64 (byteAt len8tab (wcv .u8 (zcK .u64 (zcK .u64 (zcK .u64 a0 32) 16) 8)))))))]) none) none) (cond (inb (wcv .u8 (zcK .u64 (zcK .u64 a0 32) 16)) 256) (some [(.one (.i .i64 (zy .i64 (zy .i64 32 16) (wcv .i64 (byteAt len8tab (wcv .u8 (zcK .u64 (zcK .u64 a0 32) 16)))))))]) none)) none) (cond (ige (zcK .u64 a0 32) 256) (cond (ile 0 8) (cond (inb (wcv .u8 (zcK .u64 (zcK .u64 a0 32) 8)) 256) (some [(.one (.i .i64 (zy .i64 (zy .i64 32 8) (wcv .i64 (byteAt len8tab (wcv .u8 (zcK .u64 (zcK .u64 a0 32) 8)))))))]) none) none) (cond (inb (wcv .u8 (zcK .u64 a0 32)) 256) (some [(.one (.i .i64 (zy .i64 32 (wcv .i64 (byteAt len8tab (wcv .u8 (zcK .u64 a0 32)))))))]) none))) none) (cond (ige a0 65536) (cond (ile 0 16) (cond (ige (zcK .u64 a0 16) 256) (cond (ile 0 8) (cond (inb (wcv .u8 (zcK .u64 (zcK .u64 a0 16) 8)) 256) (some [(.one (.i .i64 (zy .i64 (zy .i64 (zy .i64 0 16) 8) (wcv .i64 (byteAt len8tab (wcv .u8 (zcK .u64 (zcK .u64 a0 16) 8)))))))]) none) none) (cond (inb (wcv .u8 (zcK .u64 a0 16)) 256) (some [(.one (.i .i64 (zy .i64 (zy .i64 0 16) (wcv .i64 (byteAt len8tab (wcv .u8 (zcK .u64 a0 16)))))))]) none)) none) (cond (ige a0 256) (cond (ile 0 8) (cond (inb (wcv .u8 (zcK .u64 a0 8)) 256) (some [(.one (.i .i64 (zy .i64 (zy .i64 0 8) (wcv .i64 (byteAt len8tab (wcv .u8 (zcK .u64 a0 8)))))))]) none) none) (cond (inb (wcv .u8 a0) 256) (some [(.one (.i .i64 (zy .i64 0 (wcv .i64 (byteAt len8tab (wcv .u8 a0))))))]) none))))
theorem zxn (N:Nat)(a0:Int):evalFn (cQ zgD zL zF zG) (zB []) N 12 224 [.one (.i .u64 a0)]=zhP N a0:=by kernel_rfl
theorem zwi (a0:Int)(hb:zD big [.one (.i .u64 a0)])(hc:(zhZ a0)=true):∃N,zhP N a0=some [.one (.i .i64 (zeZ a0))]:=by
 obtain ⟨h0,h1⟩:=zI.1 hc;refine ⟨0,?_⟩;unfold zhP;refine zxT (decide_eq_false (by omega)) ?_
 refine zxT (decide_eq_false (by omega)) ?_
 refine zxT (decide_eq_false (by omega)) ?_
 have e:inb (wcv .u8 a0) 256=true:=zxo (P:=fun x=>inb (wcv .u8 x) 256=true) (by decide +kernel) h0 h1
 refine must e ?_;have e2:=zxo (P:=fun x=>zy .i64 0 (wcv .i64 (byteAt len8tab (wcv .u8 x)))=scan x+1) zQB h0 h1;rw [e2];rfl
theorem zjq:Holds Tryz.prog 224 zeD:=zn zds zA zq zu (zC (by kernel_rfl)) fun avs rs hb h=>by
 unfold zeD at h;split at h
 ·obtain ⟨hc,rfl⟩:=zi h;exact (fin1 zwi zxn hc hb :)
 ·cases h
def zgE:zbu:=[(94,zq3),(198,zob),(220,znJ),(200,zra),(222,zqG),(216,ztI),(225,ztu),(199,zq5),(221,zqB),(147,zkB),(212,zkn),(224,zeD)]++zgD
theorem zdu:zbE zgE:=zl zDC (zl zBy (zl zA6 (zl zDJ (zl zDf (zl zF7 (zl zFT (zl zDE (zl zDa (zl zyj (zl zx3 (zl zjq zds)))))))))))
def zkf (m:List (List Int))(n:Int):Bool:=bif m.all zew then ieq (ln m) n else false
@[simp,reducible] def zr7 (m:List (List Int))(n:Int):Bool:=true
@[simp,reducible] def zjA (m:List (List Int))(n:Int):Bool:=zkf m n
def ztJ:List AV->Option (Bool×List AV)
 | [.one (.s (.sl .int) c),.one (.i .i64 d)]=>some ((zr7 c d),[.one (.b (zjA c d))])
 | _=>none
def zwC (N:Nat)(a0:List (List Int))(a1:Int):Option Ans :=
 (iter (σ:=(Int×(Int×((List (List Int))×Unit)))) N (fun r3 s4=>(cond (ilt s4.2.1 (ln s4.2.2.1)) (cond (inb s4.2.1 (ln s4.2.2.1)) (cond (zv2 (ix s4.2.2.1 s4.2.1 [])) (cond (cond (zji (ix s4.2.2.1 s4.2.1 [])) false true) (some [(.one (.b false))]) (r3 (s4.1,((zy .i64 s4.2.1 1),(s4.2.2.1,()))))) none) none) (some [(.one (.b (ieq (ln s4.2.2.1) s4.1)))]))) (a1,(0,(a0,()))))
def zMK:FuncId->Nat->Option Tmpl:=zB [(139,0,{ n:=22,tm:=[(0,.sl 0 []),(1,.i .i64),(5,.i .i64)],lo:=[],ro:=[(0,(.sl .int),false)] })]
theorem zOa (N:Nat)(a0:List (List Int))(a1:Int):evalFn (cQ zgE zL zF zG) zMK N 12 139 [.one (.s (.sl .int) a0),.one (.i .i64 a1)]=zwC N a0 a1:=by kernel_rfl
theorem zLD (a0:List (List Int))(a1:Int)(hb:zD big [.one (.s (.sl .int) a0),.one (.i .i64 a1)])(hc:(zr7 a0 a1)=true):∃N,zwC N a0 a1=some [.one (.b (zjA a0 a1))]:=by
 have hl:(_:List _).length<=big:=((zbw hb).1 _ (List.mem_singleton.2 rfl)).len;refine ⟨NN,?_⟩;have hNN:∀{n:Nat},n<=big->n<NN:=fun h=>zb7 h;generalize NN=N at hNN ⊢;unfold zwC;refine (zbI a0 (fun i (t:Unit)=>(a1,(i:Int),a0,())) _ (fun _ x (_:Unit) κ=>bif (zew) x then κ () else some [AV.one (.b false)]) (fun (t:Unit)=>(some [(.one (.b (ieq (ln a0) a1)))])) (fun i hi t rec=>?_) (fun t rec=>?_) _ () (hNN hl)).trans ?_
 ·simp only [zbr hi,zbn hi,zbx hi,zbt hi hl,cT];exact ze0 rfl
 ·simp only [zbe,cF]
 rw [zfj (zew)];refine br (fun h0=>?_) (fun h0=>?_)
 ·first|rfl|(simp only [h0,zjA,zkf,cT,cF]<;>rfl)|(simp_all [Ty.cells,zjA,zkf];done)
 ·first|rfl|(simp only [h0,zjA,zkf,cT,cF]<;>rfl)|(simp_all [Ty.cells,zjA,zkf];done)
theorem zF8:Holds Tryz.prog 139 ztJ:=zn zdu zA zq zu (zC (by kernel_rfl)) fun avs rs hb h=>by
 unfold ztJ at h;split at h
 ·obtain ⟨hc,rfl⟩:=zi h;exact (fin2 zLD zOa hc hb :)
 ·cases h
@[simp,reducible] def zrU (m:List (List Int))(n:Int):Bool:=true
@[simp,reducible] def zjt (m:List (List Int))(n:Int):Bool:=zkf m n
def ztv:List AV->Option (Bool×List AV)
 | [.one (.s (.sl .int) c),.one (.i .i64 d)]=>some ((zrU c d),[.one (.b (zjt c d))])
 | _=>none
def zwo (N:Nat)(a0:List (List Int))(a1:Int):Option Ans :=
 (iter (σ:=(Int×(Int×(Int×((List (List Int))×Unit))))) N (fun r3 s4=>(cond (ilt s4.2.2.1 s4.2.1) (cond (inb s4.2.2.1 (ln s4.2.2.2.1)) (cond (zvP (ix s4.2.2.2.1 s4.2.2.1 [])) (cond (cond (ziX (ix s4.2.2.2.1 s4.2.2.1 [])) false true) (some [(.one (.b false))]) (r3 (s4.1,(s4.2.1,((zy .i64 s4.2.2.1 1),(s4.2.2.2.1,())))))) none) none) (some [(.one (.b (ieq (ln s4.2.2.2.1) s4.1)))]))) (a1,((ln a0),(0,(a0,())))))
def zMJ:FuncId->Nat->Option Tmpl:=zB [(206,0,{ n:=21,tm:=[(0,.sl 0 []),(1,.i .i64),(7,.sl 0 []),(8,.i .i64),(9,.i .i64)],lo:=[],ro:=[(0,(.sl .int),false)] })]
theorem zNW (N:Nat)(a0:List (List Int))(a1:Int):evalFn (cQ zgE zL zF zG) zMJ N 12 206 [.one (.s (.sl .int) a0),.one (.i .i64 a1)]=zwo N a0 a1:=by kernel_rfl
theorem zLp (a0:List (List Int))(a1:Int)(hb:zD big [.one (.s (.sl .int) a0),.one (.i .i64 a1)])(hc:(zrU a0 a1)=true):∃N,zwo N a0 a1=some [.one (.b (zjt a0 a1))]:=by
 have hl:(_:List _).length<=big:=((zbw hb).1 _ (List.mem_singleton.2 rfl)).len;refine ⟨NN,?_⟩;have hNN:∀{n:Nat},n<=big->n<NN:=fun h=>zb7 h;generalize NN=N at hNN ⊢;unfold zwo;refine (zbI a0 (fun i (t:Unit)=>(a1,(ln a0),(i:Int),a0,())) _ (fun _ x (_:Unit) κ=>bif (zew) x then κ () else some [AV.one (.b false)]) (fun (t:Unit)=>(some [(.one (.b (ieq (ln a0) a1)))])) (fun i hi t rec=>?_) (fun t rec=>?_) _ () (hNN hl)).trans ?_
 ·simp only [zbr hi,zbn hi,zbx hi,zbt hi hl,cT];exact ze0 rfl
 ·simp only [zbe,cF]
 rw [zfj (zew)];refine br (fun h0=>?_) (fun h0=>?_)
 ·first|rfl|(simp only [h0,zjt,zkf,cT,cF]<;>rfl)|(simp_all [Ty.cells,zjt,zkf];done)
 ·first|rfl|(simp only [h0,zjt,zkf,cT,cF]<;>rfl)|(simp_all [Ty.cells,zjt,zkf];done)
theorem zFU:Holds Tryz.prog 206 ztv:=zn zdu zA zq zu (zC (by kernel_rfl)) fun avs rs hb h=>by
 unfold ztv at h;split at h
 ·obtain ⟨hc,rfl⟩:=zi h;exact (fin2 zLp zNW hc hb :)
 ·cases h
def zg7 (p:List Ins):Bool:=bif p.all zj7 then win (ln p) 1 12 else false
@[simp,reducible] def zv3 (p:List Ins):Bool:=true
@[simp,reducible] def zjj (p:List Ins):Bool:=zg7 p
def zrd:List AV->Option (Bool×List AV)
 | [.one (.s .ins c)]=>some ((zv3 c),[.one (.b (zjj c))])
 | _=>none
def zvk (N:Nat)(a0:List Ins):Option Ans :=
 (iter (σ:=(Int×((List Ins)×Unit))) N (fun r2 s3=>(cond (ilt s3.1 (ln s3.2.1)) (cond (inb s3.1 (ln s3.2.1)) (cond (zxv (ix s3.2.1 s3.1 zdK)) (cond (cond (zuz (ix s3.2.1 s3.1 zdK)) false true) (some [(.one (.b false))]) (r2 ((zy .i64 s3.1 1),(s3.2.1,())))) none) none) (cond (zN (ln s3.2.1) 1 12) (some [(.one (.b (zT (ln s3.2.1) 1 12)))]) none))) (0,(a0,())))
def zK1:FuncId->Nat->Option Tmpl:=zB [(197,0,{ n:=19,tm:=[(0,.sl 0 []),(3,.i .i64)],lo:=[],ro:=[(0,.ins,false)] })]
theorem zMq (N:Nat)(a0:List Ins):evalFn (cQ zgE zL zF zG) zK1 N 12 197 [.one (.s .ins a0)]=zvk N a0:=by kernel_rfl
theorem zJw (a0:List Ins)(hb:zD big [.one (.s .ins a0)])(hc:(zv3 a0)=true):∃N,zvk N a0=some [.one (.b (zjj a0))]:=by
 have hl:(_:List _).length<=big:=((zbw hb).1 _ (List.mem_singleton.2 rfl)).len;refine ⟨NN,?_⟩;have hNN:∀{n:Nat},n<=big->n<NN:=fun h=>zb7 h;generalize NN=N at hNN ⊢;unfold zvk;refine (zbI a0 (fun i (t:Unit)=>((i:Int),a0,())) _ (fun _ x (_:Unit) κ=>bif (zj7) x then κ () else some [AV.one (.b false)]) (fun (t:Unit)=>(cond (zN (ln a0) 1 12) (some [(.one (.b (zT (ln a0) 1 12)))]) none)) (fun i hi t rec=>?_) (fun t rec=>?_) _ () (hNN hl)).trans ?_
 ·simp only [zbr hi,zbn hi,zbx hi,zbt hi hl,cT];exact ze0 rfl
 ·simp only [zbe,cF]
 rw [zfj (zj7)];refine br (fun h0=>?_) (fun h0=>?_)
 ·refine must rfl ?_
  first|rfl|(simp only [h0,zjj,zg7,cT,cF]<;>rfl)|(simp_all [Ty.cells,zjj,zg7];done)
 ·first|rfl|(simp only [h0,zjj,zg7,cT,cF]<;>rfl)|(simp_all [Ty.cells,zjj,zg7];done)
theorem zDL:Holds Tryz.prog 197 zrd:=zn zdu zA zq zu (zC (by kernel_rfl)) fun avs rs hb h=>by
 unfold zrd at h;split at h
 ·obtain ⟨hc,rfl⟩:=zi h;exact (fin1 zJw zMq hc hb :)
 ·cases h
@[simp,reducible] def zvQ (p:List Ins):Bool:=true
@[simp,reducible] def ziY (p:List Ins):Bool:=zg7 p
def zqI:List AV->Option (Bool×List AV)
 | [.one (.s .ins c)]=>some ((zvQ c),[.one (.b (ziY c))])
 | _=>none
def zuQ (N:Nat)(a0:List Ins):Option Ans :=
 (iter (σ:=(Int×(Int×((List Ins)×Unit)))) N (fun r2 s3=>(cond (ilt s3.2.1 s3.1) (cond (inb s3.2.1 (ln s3.2.2.1)) (cond (zxb (ix s3.2.2.1 s3.2.1 zdK)) (cond (cond (zui (ix s3.2.2.1 s3.2.1 zdK)) false true) (some [(.one (.b false))]) (r2 (s3.1,((zy .i64 s3.2.1 1),(s3.2.2.1,()))))) none) none) (cond (zQ (ln s3.2.2.1) 1 12) (some [(.one (.b (zX (ln s3.2.2.1) 1 12)))]) none))) ((ln a0),(0,(a0,()))))
def zKR:FuncId->Nat->Option Tmpl:=zB [(219,0,{ n:=18,tm:=[(0,.sl 0 []),(5,.sl 0 []),(6,.i .i64),(7,.i .i64)],lo:=[],ro:=[(0,.ins,false)] })]
theorem zLV (N:Nat)(a0:List Ins):evalFn (cQ zgE zL zF zG) zKR N 12 219 [.one (.s .ins a0)]=zuQ N a0:=by kernel_rfl
theorem zI1 (a0:List Ins)(hb:zD big [.one (.s .ins a0)])(hc:(zvQ a0)=true):∃N,zuQ N a0=some [.one (.b (ziY a0))]:=by
 have hl:(_:List _).length<=big:=((zbw hb).1 _ (List.mem_singleton.2 rfl)).len;refine ⟨NN,?_⟩;have hNN:∀{n:Nat},n<=big->n<NN:=fun h=>zb7 h;generalize NN=N at hNN ⊢;unfold zuQ;refine (zbI a0 (fun i (t:Unit)=>((ln a0),(i:Int),a0,())) _ (fun _ x (_:Unit) κ=>bif (zj7) x then κ () else some [AV.one (.b false)]) (fun (t:Unit)=>(cond (zQ (ln a0) 1 12) (some [(.one (.b (zX (ln a0) 1 12)))]) none)) (fun i hi t rec=>?_) (fun t rec=>?_) _ () (hNN hl)).trans ?_
 ·simp only [zbr hi,zbn hi,zbx hi,zbt hi hl,cT];exact ze0 rfl
 ·simp only [zbe,cF]
 rw [zfj (zj7)];refine br (fun h0=>?_) (fun h0=>?_)
 ·refine must rfl ?_
  first|rfl|(simp only [h0,ziY,zg7,cT,cF]<;>rfl)|(simp_all [Ty.cells,ziY,zg7];done)
 ·first|rfl|(simp only [h0,ziY,zg7,cT,cF]<;>rfl)|(simp_all [Ty.cells,ziY,zg7];done)
theorem zDh:Holds Tryz.prog 219 zqI:=zn zdu zA zq zu (zC (by kernel_rfl)) fun avs rs hb h=>by
 unfold zqI at h;split at h
 ·obtain ⟨hc,rfl⟩:=zi h;exact (fin1 zI1 zLV hc hb :)
 ·cases h
def zgC (c:Ctl):Bool:=ieq (ln (zgM c)) 0
@[simp,reducible] def zmW (c:Ctl):Bool:=true
@[simp,reducible] def zl2 (c:Ctl):Bool:=zgC c
def ztG:List AV->Option (Bool×List AV)
 | [.agg [.i .i64 c,.i .i64 d,.b e]]=>some ((zmW (⟨c,d,e⟩:Ctl)),[.one (.b (zl2 (⟨c,d,e⟩:Ctl)))])
 | _=>none
def zwz (N:Nat)(a0:Ctl):Option Ans :=
 (cond (zoi a0) (some [(.one (.b (ieq (ln (ziu a0)) 0)))]) none)
theorem zN7 (N:Nat)(a0:Ctl):evalFn (cQ zgE zL zF zG) (zB []) N 12 105 [.agg (zeb a0)]=zwz N a0:=by kernel_rfl
theorem zLA (a0:Ctl)(hb:zD big [.agg (zeb a0)])(hc:(zmW a0)=true):∃N,zwz N a0=some [.one (.b (zl2 a0))]:=by
 refine ⟨0,?_⟩;unfold zwz;refine must rfl ?_
 first|rfl|(simp only [*,zl2,zgC,cT,cF]<;>rfl)|simp_all [Ty.cells,zl2,zgC]
theorem zF5:Holds Tryz.prog 105 ztG:=zn zdu zA zq zu (zC (by kernel_rfl)) fun avs rs hb h=>by
 unfold ztG at h;split at h
 ·obtain ⟨hc,rfl⟩:=zi h;exact (fin1 zLA zN7 hc hb :)
 ·cases h
@[simp,reducible] def zmN (c:Ctl):Bool:=true
@[simp,reducible] def zlf (c:Ctl):Bool:=zgC c
def zts:List AV->Option (Bool×List AV)
 | [.agg [.i .i64 c,.i .i64 d,.b e]]=>some ((zmN (⟨c,d,e⟩:Ctl)),[.one (.b (zlf (⟨c,d,e⟩:Ctl)))])
 | _=>none
def zwl (N:Nat)(a0:Ctl):Option Ans :=
 (cond (znp a0) (some [(.one (.b (ieq (ln (zid a0)) 0)))]) none)
theorem zNT (N:Nat)(a0:Ctl):evalFn (cQ zgE zL zF zG) (zB []) N 12 188 [.agg (zeb a0)]=zwl N a0:=by kernel_rfl
theorem zLm (a0:Ctl)(hb:zD big [.agg (zeb a0)])(hc:(zmN a0)=true):∃N,zwl N a0=some [.one (.b (zlf a0))]:=by
 refine ⟨0,?_⟩;unfold zwl;refine must rfl ?_
 first|rfl|(simp only [*,zlf,zgC,cT,cF]<;>rfl)|simp_all [Ty.cells,zlf,zgC]
theorem zFR:Holds Tryz.prog 188 zts:=zn zdu zA zq zu (zC (by kernel_rfl)) fun avs rs hb h=>by
 unfold zts at h;split at h
 ·obtain ⟨hc,rfl⟩:=zi h;exact (fin1 zLm zNT hc hb :)
 ·cases h
def zcq (p:Int):Int:=bif zfx p then scan p else -1
theorem zFn {x:Int}(h0:0<=x)(h1:x<=255):wcv .u64 x=x:=zxo (P:=fun x=>wcv .u64 x=x) (by decide +kernel) h0 h1
@[simp,reducible] def zoB (p:Int):Bool:=true
@[simp,reducible] def ziZ (p:Int):Int:=zcq p
def zqN:List AV->Option (Bool×List AV)
 | [.one (.i .i64 b)]=>some ((zoB b),[.one (.i .i64 (ziZ b))])
 | _=>none
def zuV (N:Nat)(a0:Int):Option Ans :=
 (cond (zfR a0) (cond (cond (zfQ a0) false true) (some [(.one (.i .i64 (-1)))]) (cond (zhZ (wcv .u64 a0)) (some [(.one (.i .i64 (wsub .i64 (zeZ (wcv .u64 a0)) 1)))]) none)) none)
theorem zL0 (N:Nat)(a0:Int):evalFn (cQ zgE zL zF zG) (zB []) N 12 214 [.one (.i .i64 a0)]=zuV N a0:=by kernel_rfl
theorem zI6 (a0:Int)(hb:zD big [.one (.i .i64 a0)])(hc:(zoB a0)=true):∃N,zuV N a0=some [.one (.i .i64 (ziZ a0))]:=by
 refine ⟨0,?_⟩;unfold zuV;refine must rfl ?_;cases h:zfx a0
 ·refine must (by simp [h]) ?_
  simp [zcq,h]
 ·obtain ⟨h0,h1⟩:=zf0.1 h;have r:=zxo (P:=fun x=>-1<=scan x/\scan x<=7/\(0<=scan x->wsub .i64 x (zhY .i64 1 (scan x))=zv8 .i64 x (zhY .i64 1 (scan x)))) zKE h0 h1;refine zxT (by simp [h]) ?_
  rw [zFn h0 h1];refine must (zbb ⟨h0,h1⟩) ?_;have e:wsub .i64 (zeZ a0) 1=scan a0:=by
   unfold zeZ;rw [zx1 (by omega) (by omega)];omega
  rw [e];simp [zcq,h]
theorem zDm:Holds Tryz.prog 214 zqN:=zn zdu zA zq zu (zC (by kernel_rfl)) fun avs rs hb h=>by
 unfold zqN at h;split at h
 ·obtain ⟨hc,rfl⟩:=zi h;exact (fin1 zI6 zL0 hc hb :)
 ·cases h
@[simp,reducible] def zo2 (p:Int):Bool:=true
@[simp,reducible] def zjk (p:Int):Int:=zcq p
def zri:List AV->Option (Bool×List AV)
 | [.one (.i .i64 b)]=>some ((zo2 b),[.one (.i .i64 (zjk b))])
 | _=>none
def zvp (N:Nat)(a0:Int):Option Ans :=
 (iter (σ:=(Int×(Int×Unit))) N (fun r2 s3=>(cond (ige s3.2.1 0) (cond (zfZ s3.1) (cond (ze9 s3.1) (cond (ile 0 (wcv .u64 s3.2.1)) (cond (ieq (wand .i64 (zcK .i64 s3.1 (wcv .u64 s3.2.1)) 1) 1) (some [(.one (.i .i64 s3.2.1))]) (r2 (s3.1,((wsub .i64 s3.2.1 1),())))) none) (some [(.one (.i .i64 (-1)))])) none) (some [(.one (.i .i64 (-1)))]))) (a0,(7,())))
def zK2:FuncId->Nat->Option Tmpl:=zB [(149,0,{ n:=19,tm:=[(0,.i .i64),(3,.i .i64)],lo:=[],ro:=[] })]
theorem zMv (N:Nat)(a0:Int):evalFn (cQ zgE zL zF zG) zK2 N 12 149 [.one (.i .i64 a0)]=zvp N a0:=by kernel_rfl
theorem zJB (a0:Int)(hb:zD big [.one (.i .i64 a0)])(hc:(zo2 a0)=true):∃N,zvp N a0=some [.one (.i .i64 (zjk a0))]:=by
 refine ⟨10,?_⟩;unfold zvp;cases h:zfx a0
 ·rw [zch];refine must rfl ?_;refine must rfl ?_;refine zxT h ?_;simp [zcq,h]
 ·have hs:ze9 a0=true:=h;rw [zch];refine must rfl (must rfl (must hs (must rfl (br (fun h7=>?_) (fun h7=>?_)))))
  ·have e7:zd9 a0 7=true:=h7;simp [zcq,h,scan,e7]
  have f7:zd9 a0 7=false:=h7
  show iter 9 _ (a0,6,())=_
  rw [zch];refine must rfl (must rfl (must hs (must rfl (br (fun h6=>?_) (fun h6=>?_)))))
  ·have e6:zd9 a0 6=true:=h6;simp [zcq,h,scan,e6,f7]
  have f6:zd9 a0 6=false:=h6
  show iter 8 _ (a0,5,())=_
  rw [zch];refine must rfl (must rfl (must hs (must rfl (br (fun h5=>?_) (fun h5=>?_)))))
  ·have e5:zd9 a0 5=true:=h5;simp [zcq,h,scan,e5,f7,f6]
  have f5:zd9 a0 5=false:=h5
  show iter 7 _ (a0,4,())=_
  rw [zch];refine must rfl (must rfl (must hs (must rfl (br (fun h4=>?_) (fun h4=>?_)))))
  ·have e4:zd9 a0 4=true:=h4;simp [zcq,h,scan,e4,f7,f6,f5]
  have f4:zd9 a0 4=false:=h4
  show iter 6 _ (a0,3,())=_
  rw [zch];refine must rfl (must rfl (must hs (must rfl (br (fun h3=>?_) (fun h3=>?_)))))
  ·have e3:zd9 a0 3=true:=h3;simp [zcq,h,scan,e3,f7,f6,f5,f4]
  have f3:zd9 a0 3=false:=h3
  show iter 5 _ (a0,2,())=_
  rw [zch];refine must rfl (must rfl (must hs (must rfl (br (fun h2=>?_) (fun h2=>?_)))))
  ·have e2:zd9 a0 2=true:=h2;simp [zcq,h,scan,e2,f7,f6,f5,f4,f3]
  have f2:zd9 a0 2=false:=h2
  show iter 4 _ (a0,1,())=_
  rw [zch];refine must rfl (must rfl (must hs (must rfl (br (fun h1=>?_) (fun h1=>?_)))))
  ·have e1:zd9 a0 1=true:=h1;simp [zcq,h,scan,e1,f7,f6,f5,f4,f3,f2]
  have f1:zd9 a0 1=false:=h1
  show iter 3 _ (a0,0,())=_
  rw [zch];refine must rfl (must rfl (must hs (must rfl (br (fun h0=>?_) (fun h0=>?_)))))
  ·have e0:zd9 a0 0=true:=h0;simp [zcq,h,scan,e0,f7,f6,f5,f4,f3,f2,f1]
  have f0:zd9 a0 0=false:=h0
  show iter 2 _ (a0,-1,())=_
  rw [zch];refine zxT rfl ?_;simp [zcq,h,scan,f7,f6,f5,f4,f3,f2,f1,f0]
theorem zDQ:Holds Tryz.prog 149 zri:=zn zdu zA zq zu (zC (by kernel_rfl)) fun avs rs hb h=>by
 unfold zri at h;split at h
 ·obtain ⟨hc,rfl⟩:=zi h;exact (fin1 zJB zMv hc hb :)
 ·cases h
@[simp,reducible] def zmk (l:List (List Int)):Bool:=pc (SmM l)
@[simp,reducible] def zee (l:List (List Int)):List (List Int):=l
def znM:List AV->Option (Bool×List AV)
 | [.one (.s (.sl .int) b)]=>some ((zmk b),[.one (.s (.sl .int) (zee b))])
 | _=>none
def zsx (N:Nat)(a0:List (List Int)):Option Ans :=
 (iter (σ:=(Int×(Int×((List (List Int))×((List (List Int))×Unit))))) N (fun r2 s3=>(cond (ilt s3.2.1 s3.1) (cond (inb s3.2.1 (ln s3.2.2.2.1)) (cond (zdO (ix s3.2.2.2.1 s3.2.1 [])) (cond (few (ln (ap s3.2.2.1 [(zdH (ix s3.2.2.2.1 s3.2.1 []))]))) (r2 (s3.1,((zy .i64 s3.2.1 1),((ap s3.2.2.1 [(zdH (ix s3.2.2.2.1 s3.2.1 []))]),(s3.2.2.2.1,()))))) none) none) none) (some [(.one (.s (.sl .int) s3.2.2.1))]))) ((ln a0),(0,([],(a0,())))))
def zHO:FuncId->Nat->Option Tmpl:=zB [(127,0,{ n:=20,tm:=[(3,.sl 0 []),(7,.sl 1 []),(8,.i .i64),(9,.i .i64)],lo:=[],ro:=[(0,(.sl .int),true),(1,(.sl .int),false)] })]
theorem zJ0 (N:Nat)(a0:List (List Int)):evalFn (cQ zgE zL zF zG) zHO N 12 127 [.one (.s (.sl .int) a0)]=zsx N a0:=by kernel_rfl
theorem zGx (a0:List (List Int))(hb:zD big [.one (.s (.sl .int) a0)])(hc:(zmk a0)=true):∃N,zsx N a0=some [.one (.s (.sl .int) (zee a0))]:=by
 have hs:=zI.1 hc;have hl:=zcP hs.1;refine ⟨NN,?_⟩;have hNN:∀{n:Nat},n<=big->n<NN:=fun h=>zb7 h;generalize NN=N at hNN ⊢;unfold zsx;refine (zbI a0 (fun i (t:(List (List Int)))=>((ln a0),(i:Int),t,a0,())) _ (fun _ x acc κ=>bif zdO x then (cond (few (ln (ap acc [zdH x]))) (κ (ap acc [zdH x])) none) else none) (fun (t:(List (List Int)))=>(some [(.one (.s (.sl .int) t))])) (fun i hi t rec=>?_) (fun t rec=>?_) _ ([]) (hNN hl.1)).trans ?_
 ·simp only [zbr hi,zbn hi,zbx hi,zbt hi hl.1,cT]
 ·simp only [zbe,cF]
 exact ziU zdO zdH _ a0 0 [] (fun x hx=>⟨by exact zbb (Nat.le_trans (hs.2 x hx) (by decide)),rfl⟩) (by simpa using hl.2)
theorem zA9:Holds Tryz.prog 127 znM:=zn zdu zA zq zu (zC (by kernel_rfl)) fun avs rs hb h=>by
 unfold znM at h;split at h
 ·obtain ⟨hc,rfl⟩:=zi h;exact (fin1 zGx zJ0 hc hb :)
 ·cases h
@[simp,reducible] def zcw (g:Guest):Bool:=pc (SmG g)
@[simp,reducible] def zbU (g:Guest):Guest:=g
def zkr:List AV->Option (Bool×List AV)
 | [.agg [.s .ins c,.i .i64 d,.i .i64 e,.s .slot f,.s .slot g,.i .i64 h,.i .i64 j,.b k,.i .i64 l,.i .i64 m,.i .i64 n,.b o,.i .i64 p,.b q,.s .int r]]=>some ((zcw (⟨c,d,e,f,g,⟨h,j,k⟩,l,⟨m,n,o,p⟩,q,r⟩:Guest)),[.agg (Ty.cells .guest (zbU (⟨c,d,e,f,g,⟨h,j,k⟩,l,⟨m,n,o,p⟩,q,r⟩:Guest)))])
 | _=>none
def zm6 (N:Nat)(a0:Guest):Option Ans :=
 (cond (zj6 a0.Prog) (cond (zf8 a0.Written) (cond (zf8 a0.Live) (cond (zdO a0.Seen) (some [(.agg (Ty.cells .guest ({ a0 with Prog:=(zhp a0.Prog),Written:=(zdI a0.Written),Live:=(zdI a0.Live),Seen:=(zdH a0.Seen) }:Guest)))]) none) none) none) none)
theorem zEN (N:Nat)(a0:Guest):evalFn (cQ zgE zL zF zG) (zB []) N 12 193 [.agg (Ty.cells .guest a0)]=zm6 N a0:=by kernel_rfl
theorem zBN (a0:Guest)(hb:zD big [.agg (Ty.cells .guest a0)])(hc:(zcw a0)=true):∃N,zm6 N a0=some [.agg (Ty.cells .guest (zbU a0))]:=by
 have hs:=zI.1 hc;obtain ⟨h1,h2,h3,h4⟩:=hs;have hs1:a0.Prog.length<=2147483648:=(by omega);have hs2:a0.Written.length<=2147483648:=(by omega);have hs3:a0.Live.length<=2147483648:=(by omega);have hs4:a0.Seen.length<=2147483648:=(by omega)
 refine ⟨0,?_⟩;unfold zm6;refine must (by first|assumption|(simp_all<;>omega)) (must (by first|assumption|(simp_all<;>omega)) (must (by first|assumption|(simp_all<;>omega)) (must (by first|assumption|(simp_all<;>omega)) ?_)))
 first|rfl|(simp only [*,zbU,cT,cF]<;>rfl)|simp_all [Ty.cells,zbU]
theorem zx7:Holds Tryz.prog 193 zkr:=zn zdu zA zq zu (zC (by kernel_rfl)) fun avs rs hb h=>by
 unfold zkr at h;split at h
 ·obtain ⟨hc,rfl⟩:=zi h;exact (fin1 zBN zEN hc hb :)
 ·cases h
def zhh (t:List Slot)(p n:Int):Bool:=bif ieq (ziA t p).Page (-1) then false else (cond (enough (ziA t p).Rights n) (win n 1 3) false)
def zgl (t:List Slot)(p n:Int):Int:=bif zhh t p n then (ziA t p).Page else -1
theorem zQy {r:Int}(h:zez r=true):0<=r/\r<=3:=zf0.1 h
theorem zNB {a n:Int}(h:enough a n=true):win n 1 3 = !ieq n 0:=by
 unfold enough at h;cases h1:zez a
 ·rw [h1] at h;cases h
 ·cases h2:zez n
  ·rw [h1,h2] at h;cases h
  ·have:=zQy h2;have e:(win n 1 3=true)↔(!ieq n 0)=true:=by
    rw [zf0];simp [ieq];omega
   cases h3:win n 1 3<;>cases h4:(!ieq n 0)<;>simp_all
@[simp,reducible] def zf7 (t:List Slot)(p n:Int):Bool:=true
@[simp,reducible] def zbJ (t:List Slot)(p n:Int):Int:=zgl t p n
@[simp,reducible] def zd3 (t:List Slot)(p n:Int):Bool:=zhh t p n
def zkp:List AV->Option (Bool×List AV)
 | [.one (.s .slot c),.one (.i .i64 d),.one (.i .i64 e)]=>some ((zf7 c d e),[.one (.i .i64 (zbJ c d e)),.one (.b (zd3 c d e))])
 | _=>none
def zm3 (N:Nat)(a0:List Slot)(a1 a2:Int):Option Ans :=
 (cond (zoy a0 a1) (cond (ieq (zet a0 a1).Page (-1)) (some [(.one (.i .i64 (-1))),(.one (.b false))]) (cond (zvM (zet a0 a1).Rights a2) (cond (cond (zqc (zet a0 a1).Rights a2) false true) (some [(.one (.i .i64 (-1))),(.one (.b false))]) (cond (zQ a2 1 3) (cond (cond (zX a2 1 3) false true) (some [(.one (.i .i64 (-1))),(.one (.b false))]) (some [(.one (.i .i64 (zet a0 a1).Page)),(.one (.b true))])) none)) none)) none)
theorem zEK (N:Nat)(a0:List Slot)(a1 a2:Int):evalFn (cQ zgE zL zF zG) (zB []) N 12 160 [.one (.s .slot a0),.one (.i .i64 a1),.one (.i .i64 a2)]=zm3 N a0 a1 a2:=by kernel_rfl
theorem zBK (a0:List Slot)(a1 a2:Int)(hb:zD big [.one (.s .slot a0),.one (.i .i64 a1),.one (.i .i64 a2)])(hc:(zf7 a0 a1 a2)=true):∃N,zm3 N a0 a1 a2=some [.one (.i .i64 (zbJ a0 a1 a2)),.one (.b (zd3 a0 a1 a2))]:=by
 refine ⟨0,?_⟩;unfold zm3;refine must rfl (br (fun _=>?_) (fun _=>must rfl (brN (fun _=>?_) (fun _=>must rfl (brN (fun _=>?_) (fun _=>?_))))))
 all_goals first|rfl|(simp only [*,zbJ,zd3,zgl,zhh,cT,cF]<;>rfl)|simp_all [Ty.cells,zbJ,zd3,zgl,zhh]
theorem zx5:Holds Tryz.prog 160 zkp:=zn zdu zA zq zu (zC (by kernel_rfl)) fun avs rs hb h=>by
 unfold zkp at h;split at h
 ·obtain ⟨hc,rfl⟩:=zi h;exact (zd1 zBK zEK hc hb :)
 ·cases h
@[simp,reducible] def zgj (t:List Slot)(p n:Int):Bool:=true
@[simp,reducible] def zb4 (t:List Slot)(p n:Int):Int:=zgl t p n
@[simp,reducible] def zd5 (t:List Slot)(p n:Int):Bool:=zhh t p n
def zkD:List AV->Option (Bool×List AV)
 | [.one (.s .slot c),.one (.i .i64 d),.one (.i .i64 e)]=>some ((zgj c d e),[.one (.i .i64 (zb4 c d e)),.one (.b (zd5 c d e))])
 | _=>none
def znk (N:Nat)(a0:List Slot)(a1 a2:Int):Option Ans :=
 (cond (zoY a0 a1) (cond (ieq (zfb a0 a1).Page (-1)) (some [(.one (.i .i64 (-1))),(.one (.b false))]) (cond (zvZ (zfb a0 a1).Rights a2) (cond (cond (zrr (zfb a0 a1).Rights a2) false true) (some [(.one (.i .i64 (-1))),(.one (.b false))]) (cond (ieq a2 0) (some [(.one (.i .i64 (-1))),(.one (.b false))]) (some [(.one (.i .i64 (zfb a0 a1).Page)),(.one (.b true))]))) none)) none)
theorem zE1 (N:Nat)(a0:List Slot)(a1 a2:Int):evalFn (cQ zgE zL zF zG) (zB []) N 12 85 [.one (.s .slot a0),.one (.i .i64 a1),.one (.i .i64 a2)]=znk N a0 a1 a2:=by kernel_rfl
theorem zB1 (a0:List Slot)(a1 a2:Int)(hb:zD big [.one (.s .slot a0),.one (.i .i64 a1),.one (.i .i64 a2)])(hc:(zgj a0 a1 a2)=true):∃N,znk N a0 a1 a2=some [.one (.i .i64 (zb4 a0 a1 a2)),.one (.b (zd5 a0 a1 a2))]:=by
 have he:=@zNB (ziA a0 a1).Rights a2;refine ⟨0,?_⟩;unfold znk;refine must rfl (br (fun _=>?_) (fun _=>must rfl (brN (fun _=>?_) (fun _=>br (fun _=>?_) (fun _=>?_)))))
 all_goals first|rfl|(simp only [*,zb4,zd5,zgl,zhh,cT,cF]<;>rfl)|simp_all [Ty.cells,zb4,zd5,zgl,zhh]
theorem zyl:Holds Tryz.prog 85 zkD:=zn zdu zA zq zu (zC (by kernel_rfl)) fun avs rs hb h=>by
 unfold zkD at h;split at h
 ·obtain ⟨hc,rfl⟩:=zi h;exact (zd1 zB1 zE1 hc hb :)
 ·cases h
def zgF:zbu:=[(224,zeD),(127,znM),(193,zkr),(85,zkD),(160,zkp),(139,ztJ),(206,ztv),(197,zrd),(219,zqI),(105,ztG),(188,zts),(149,zri),(214,zqN)]++zgE
theorem zdv:zbE zgF:=zl zjq (zl zA9 (zl zx7 (zl zyl (zl zx5 (zl zF8 (zl zFU (zl zDL (zl zDh (zl zF5 (zl zFR (zl zDQ (zl zDm zdu))))))))))))
@[simp,reducible] def zfE (m:List (List Int))(p c v:Int):Bool:=pc (SmM m)
@[simp,reducible] def zeV (m:List (List Int))(p c v:Int):List (List Int):=zdC m p c v
def zlV:List AV->Option (Bool×List AV)
 | [.one (.s (.sl .int) b),.one (.i .i64 c),.one (.i .i64 d),.one (.i .i64 e)]=>some ((zfE b c d e),[.one (.s (.sl .int) (zeV b c d e))])
 | _=>none
def zpR (N:Nat)(a0:List (List Int))(a1 a2 a3:Int):Option Ans :=
 (cond (ziz a0) (cond (zo3 a0 a1 a2) (cond (zl6 a0 a1 a2) (cond (zN a3 0 99) (cond (zT a3 0 99) (cond (inb a1 (ln (zel a0))) (cond (inb a2 (ln (ix (zel a0) a1 []))) (share (up (zel a0) a1 (up (ix (zel a0) a1 []) a2 a3)) (fun x5=>(some [(.one (.s (.sl .int) x5))]))) none) none) (some [(.one (.s (.sl .int) (zel a0)))])) none) (some [(.one (.s (.sl .int) (zel a0)))])) none) none)
theorem zHI (N:Nat)(a0:List (List Int))(a1 a2 a3:Int):evalFn (cQ zgF zL zF zG) (zB []) N 12 90 [.one (.s (.sl .int) a0),.one (.i .i64 a1),.one (.i .i64 a2),.one (.i .i64 a3)]=zpR N a0 a1 a2 a3:=by kernel_rfl
theorem zEA (a0:List (List Int))(a1 a2 a3:Int)(hb:zD big [.one (.s (.sl .int) a0),.one (.i .i64 a1),.one (.i .i64 a2),.one (.i .i64 a3)])(hc:(zfE a0 a1 a2 a3)=true):∃N,zpR N a0 a1 a2 a3=some [.one (.s (.sl .int) (zeV a0 a1 a2 a3))]:=by
 have hs:=zI.1 hc;have hm:=(zoO a0 a1 a2).1
 refine ⟨0,?_⟩;unfold zpR;refine must (by first|assumption|(simp_all<;>omega)) (must rfl (br (fun _=>must rfl (br (fun _=>must (by first|assumption|(simp_all<;>omega)) (must (by first|assumption|(simp_all<;>omega)) (shr ?_))) (fun _=>?_))) (fun _=>?_)))
 all_goals first|rfl|(simp only [*,zeV,zdC,cT,cF]<;>rfl)|simp_all [Ty.cells,zeV,zdC]
theorem zzF:Holds Tryz.prog 90 zlV:=zn zdv zA zq zu (zC (by kernel_rfl)) fun avs rs hb h=>by
 unfold zlV at h;split at h
 ·obtain ⟨hc,rfl⟩:=zi h;exact (ztd zEA zHI hc hb :)
 ·cases h
@[simp,reducible] def zfr (m:List (List Int))(p c v:Int):Bool:=pc (SmM m)
@[simp,reducible] def zdG (m:List (List Int))(p c v:Int):List (List Int):=zdC m p c v
def zly:List AV->Option (Bool×List AV)
 | [.one (.s (.sl .int) b),.one (.i .i64 c),.one (.i .i64 d),.one (.i .i64 e)]=>some ((zfr b c d e),[.one (.s (.sl .int) (zdG b c d e))])
 | _=>none
def zps (N:Nat)(a0:List (List Int))(a1 a2 a3:Int):Option Ans :=
 (cond (zmk a0) (cond (zcF a1 (ln a0)) (cond (zda a1 (ln a0)) (cond (inb a1 (ln a0)) (cond (zcF a2 (ln (ix a0 a1 []))) (cond (zda a2 (ln (ix a0 a1 []))) (cond (zQ a3 0 99) (cond (zX a3 0 99) (cond (inb a1 (ln (zee a0))) (cond (inb a2 (ln (ix (zee a0) a1 []))) (share (up (zee a0) a1 (up (ix (zee a0) a1 []) a2 a3)) (fun x5=>(some [(.one (.s (.sl .int) x5))]))) none) none) (some [(.one (.s (.sl .int) (zee a0)))])) none) (some [(.one (.s (.sl .int) (zee a0)))])) none) none) (some [(.one (.s (.sl .int) (zee a0)))])) none) none)
theorem zHh (N:Nat)(a0:List (List Int))(a1 a2 a3:Int):evalFn (cQ zgF zL zF zG) (zB []) N 12 165 [.one (.s (.sl .int) a0),.one (.i .i64 a1),.one (.i .i64 a2),.one (.i .i64 a3)]=zps N a0 a1 a2 a3:=by kernel_rfl
theorem zD9 (a0:List (List Int))(a1 a2 a3:Int)(hb:zD big [.one (.s (.sl .int) a0),.one (.i .i64 a1),.one (.i .i64 a2),.one (.i .i64 a3)])(hc:(zfr a0 a1 a2 a3)=true):∃N,zps N a0 a1 a2 a3=some [.one (.s (.sl .int) (zdG a0 a1 a2 a3))]:=by
 have hs:=zI.1 hc;refine ⟨0,?_⟩;unfold zps;refine must (by first|assumption|(simp_all<;>omega)) (must rfl (br (fun _=>must (by first|assumption|(simp_all<;>omega)) (must rfl (br (fun _=>must rfl (br (fun _=>must (by first|assumption|(simp_all<;>omega)) (must (by first|assumption|(simp_all<;>omega)) (shr ?_))) (fun _=>?_))) (fun _=>?_)))) (fun _=>?_)))
 all_goals first|rfl|(simp only [*,zdG,zdC,zfv,cT,cF]<;>rfl)|simp_all [Ty.cells,zdG,zdC,zfv]
theorem zze:Holds Tryz.prog 165 zly:=zn zdv zA zq zu (zC (by kernel_rfl)) fun avs rs hb h=>by
 unfold zly at h;split at h
 ·obtain ⟨hc,rfl⟩:=zi h;exact (ztd zD9 zHh hc hb :)
 ·cases h
def zeB (g:Guest):Bool:=bif canRun g then (cond g.Ctl.Open (ige (zcq g.Pending) 0) false) else false
@[simp,reducible] def zkO (g:Guest):Bool:=true
@[simp,reducible] def zhM (g:Guest):Bool:=zeB g
def zlU:List AV->Option (Bool×List AV)
 | [.agg [.s .ins c,.i .i64 d,.i .i64 e,.s .slot f,.s .slot g,.i .i64 h,.i .i64 j,.b k,.i .i64 l,.i .i64 m,.i .i64 n,.b o,.i .i64 p,.b q,.s .int r]]=>some ((zkO (⟨c,d,e,f,g,⟨h,j,k⟩,l,⟨m,n,o,p⟩,q,r⟩:Guest)),[.one (.b (zhM (⟨c,d,e,f,g,⟨h,j,k⟩,l,⟨m,n,o,p⟩,q,r⟩:Guest)))])
 | _=>none
def zpQ (N:Nat)(a0:Guest):Option Ans :=
 (cond (zoU a0) (cond (zl0 a0) (cond a0.Ctl.Open (cond (zo2 a0.Pending) (some [(.one (.b (ige (zjk a0.Pending) 0)))]) none) (some [(.one (.b false))])) (some [(.one (.b false))])) none)
theorem zHH (N:Nat)(a0:Guest):evalFn (cQ zgF zL zF zG) (zB []) N 12 137 [.agg (Ty.cells .guest a0)]=zpQ N a0:=by kernel_rfl
theorem zEz (a0:Guest)(hb:zD big [.agg (Ty.cells .guest a0)])(hc:(zkO a0)=true):∃N,zpQ N a0=some [.one (.b (zhM a0))]:=by
 refine ⟨0,?_⟩;unfold zpQ;refine must rfl (br (fun _=>br (fun _=>must rfl ?_) (fun _=>?_)) (fun _=>?_))
 all_goals first|rfl|(simp only [*,zhM,zeB,cT,cF]<;>rfl)|simp_all [Ty.cells,zhM,zeB]
theorem zzE:Holds Tryz.prog 137 zlU:=zn zdv zA zq zu (zC (by kernel_rfl)) fun avs rs hb h=>by
 unfold zlU at h;split at h
 ·obtain ⟨hc,rfl⟩:=zi h;exact (fin1 zEz zHH hc hb :)
 ·cases h
@[simp,reducible] def zj3 (g:Guest):Bool:=true
@[simp,reducible] def zho (g:Guest):Bool:=zeB g
def zlx:List AV->Option (Bool×List AV)
 | [.agg [.s .ins c,.i .i64 d,.i .i64 e,.s .slot f,.s .slot g,.i .i64 h,.i .i64 j,.b k,.i .i64 l,.i .i64 m,.i .i64 n,.b o,.i .i64 p,.b q,.s .int r]]=>some ((zj3 (⟨c,d,e,f,g,⟨h,j,k⟩,l,⟨m,n,o,p⟩,q,r⟩:Guest)),[.one (.b (zho (⟨c,d,e,f,g,⟨h,j,k⟩,l,⟨m,n,o,p⟩,q,r⟩:Guest)))])
 | _=>none
def zpr (N:Nat)(a0:Guest):Option Ans :=
 (cond (zot a0) (cond (zld a0) (cond a0.Ctl.Open (cond (zoB a0.Pending) (some [(.one (.b (ige (ziZ a0.Pending) 0)))]) none) (some [(.one (.b false))])) (some [(.one (.b false))])) none)
theorem zHg (N:Nat)(a0:Guest):evalFn (cQ zgF zL zF zG) (zB []) N 12 204 [.agg (Ty.cells .guest a0)]=zpr N a0:=by kernel_rfl
theorem zD8 (a0:Guest)(hb:zD big [.agg (Ty.cells .guest a0)])(hc:(zj3 a0)=true):∃N,zpr N a0=some [.one (.b (zho a0))]:=by
 refine ⟨0,?_⟩;unfold zpr;refine must rfl (br (fun _=>br (fun _=>must rfl ?_) (fun _=>?_)) (fun _=>?_))
 all_goals first|rfl|(simp only [*,zho,zeB,cT,cF]<;>rfl)|simp_all [Ty.cells,zho,zeB]
theorem zzd:Holds Tryz.prog 204 zlx:=zn zdv zA zq zu (zC (by kernel_rfl)) fun avs rs hb h=>by
 unfold zlx at h;split at h
 ·obtain ⟨hc,rfl⟩:=zi h;exact (fin1 zD8 zHg hc hb :)
 ·cases h
def zdZ (p:Int):Int:=bif ilt (zcq p) 0 then p else wsub .i64 p (zhY .i64 1 (zcq p))
def zf9 (p:Int):Int:=bif ilt (zcq p) 0 then -1 else zcq p
theorem zFM {p:Int}(h:ilt (zcq p) 0=false):wcv .u64 (zcq p)=zcq p/\ile 0 (zcq p)=true/\zv8 .i64 p (zhY .i64 1 (zcq p))=wsub .i64 p (zhY .i64 1 (zcq p)):=by
 unfold zcq at *;cases h1:zfx p
 ·rw [h1] at h;cases h
 ·simp only [h1,cT] at h ⊢;obtain ⟨h0,h2⟩:=zf0.1 h1;have r:=zxo (P:=fun x=>-1<=scan x/\scan x<=7/\(0<=scan x->wsub .i64 x (zhY .i64 1 (scan x))=zv8 .i64 x (zhY .i64 1 (scan x)))) zKE h0 h2;have h3:0<=scan p:=by
   unfold ilt at h;have:=of_decide_eq_false h;omega
  exact ⟨zFn h3 (by omega),decide_eq_true h3,(r.2.2 h3).symm⟩
@[simp,reducible] def zmB (p:Int):Bool:=true
@[simp,reducible] def zfc (p:Int):Int:=zdZ p
@[simp,reducible] def zfd (p:Int):Int:=zf9 p
@[simp,reducible] def ziy (p:Int):Bool:=!ilt (zcq p) 0
def zoc:List AV->Option (Bool×List AV)
 | [.one (.i .i64 c)]=>some ((zmB c),[.one (.i .i64 (zfc c)),.one (.i .i64 (zfd c)),.one (.b (ziy c))])
 | _=>none
def zsZ (N:Nat)(a0:Int):Option Ans :=
 (cond (zo2 a0) (cond (ilt (zjk a0) 0) (some [(.one (.i .i64 a0)),(.one (.i .i64 (-1))),(.one (.b false))]) (cond (ile 0 (wcv .u64 (zjk a0))) (some [(.one (.i .i64 (wsub .i64 a0 (zhY .i64 1 (wcv .u64 (zjk a0)))))),(.one (.i .i64 (zjk a0))),(.one (.b true))]) none)) none)
theorem zKr (N:Nat)(a0:Int):evalFn (cQ zgF zL zF zG) (zB []) N 12 107 [.one (.i .i64 a0)]=zsZ N a0:=by kernel_rfl
theorem zGY (a0:Int)(hb:zD big [.one (.i .i64 a0)])(hc:(zmB a0)=true):∃N,zsZ N a0=some [.one (.i .i64 (zfc a0)),.one (.i .i64 (zfd a0)),.one (.b (ziy a0))]:=by
 have ht:=@zFM a0;refine ⟨0,?_⟩;unfold zsZ;refine must rfl (br (fun _=>?_) (fun _=>must (by first|assumption|(simp_all<;>omega)) ?_))
 all_goals first|rfl|(simp only [*,zfc,zfd,ziy,zdZ,zf9,cT,cF]<;>rfl)|simp_all [Ty.cells,zfc,zfd,ziy,zdZ,zf9]
theorem zBz:Holds Tryz.prog 107 zoc:=zn zdv zA zq zu (zC (by kernel_rfl)) fun avs rs hb h=>by
 unfold zoc at h;split at h
 ·obtain ⟨hc,rfl⟩:=zi h;exact (fin1 zGY zKr hc hb :)
 ·cases h
@[simp,reducible] def zmi (p:Int):Bool:=true
@[simp,reducible] def ze4 (p:Int):Int:=zdZ p
@[simp,reducible] def ze5 (p:Int):Int:=zf9 p
@[simp,reducible] def zif (p:Int):Bool:=!ilt (zcq p) 0
def znK:List AV->Option (Bool×List AV)
 | [.one (.i .i64 c)]=>some ((zmi c),[.one (.i .i64 (ze4 c)),.one (.i .i64 (ze5 c)),.one (.b (zif c))])
 | _=>none
def zsv (N:Nat)(a0:Int):Option Ans :=
 (cond (zoB a0) (cond (ilt (ziZ a0) 0) (some [(.one (.i .i64 a0)),(.one (.i .i64 (-1))),(.one (.b false))]) (cond (ile 0 (ziZ a0)) (some [(.one (.i .i64 (zv8 .i64 a0 (zhY .i64 1 (ziZ a0))))),(.one (.i .i64 (ziZ a0))),(.one (.b true))]) none)) none)
theorem zJY (N:Nat)(a0:Int):evalFn (cQ zgF zL zF zG) (zB []) N 12 191 [.one (.i .i64 a0)]=zsv N a0:=by kernel_rfl
theorem zGv (a0:Int)(hb:zD big [.one (.i .i64 a0)])(hc:(zmi a0)=true):∃N,zsv N a0=some [.one (.i .i64 (ze4 a0)),.one (.i .i64 (ze5 a0)),.one (.b (zif a0))]:=by
 have ht:=@zFM a0;refine ⟨0,?_⟩;unfold zsv;refine must rfl (br (fun _=>?_) (fun _=>must (by first|assumption|(simp_all<;>omega)) ?_))
 all_goals first|rfl|(simp only [*,ze4,ze5,zif,zdZ,zf9,cT,cF]<;>rfl)|simp_all [Ty.cells,ze4,ze5,zif,zdZ,zf9]
theorem zA7:Holds Tryz.prog 191 znK:=zn zdv zA zq zu (zC (by kernel_rfl)) fun avs rs hb h=>by
 unfold znK at h;split at h
 ·obtain ⟨hc,rfl⟩:=zi h;exact (fin1 zGv zJY hc hb :)
 ·cases h
def saw (g:Guest)(n:Int):Guest:=bif ilt (ln g.Seen) 40 then { g with Seen:=ap g.Seen [n] } else g
@[simp] theorem zxZ {g:Guest}(n:Int)(h:SmG g):SmG (saw g n):=by
 unfold saw;cases h1:ilt (ln g.Seen) 40
 ·exact h
 ·have:=of_decide_eq_true h1;refine ⟨h.1,h.2.1,h.2.2.1,?_⟩;simp [ln] at *;omega
@[simp,reducible] def zxX (g:Guest)(n:Int):Bool:=pc (SmG g)
@[simp,reducible] def zv4 (g:Guest)(n:Int):Guest:=saw g n
def zxs:List AV->Option (Bool×List AV)
 | [.agg [.s .ins c,.i .i64 d,.i .i64 e,.s .slot f,.s .slot g,.i .i64 h,.i .i64 j,.b k,.i .i64 l,.i .i64 m,.i .i64 n,.b o,.i .i64 p,.b q,.s .int r],.one (.i .i64 t)]=>some ((zxX (⟨c,d,e,f,g,⟨h,j,k⟩,l,⟨m,n,o,p⟩,q,r⟩:Guest) t),[.agg (Ty.cells .guest (zv4 (⟨c,d,e,f,g,⟨h,j,k⟩,l,⟨m,n,o,p⟩,q,r⟩:Guest) t))])
 | _=>none
def zCV (N:Nat)(a0:Guest)(a1:Int):Option Ans :=
 (cond (zcn a0) (cond (ilt (ln (zbQ a0).Seen) 40) (cond (few (ln (ap (zbQ a0).Seen [a1]))) (some [(.agg (Ty.cells .guest ({ (zbQ a0) with Seen:=(ap (zbQ a0).Seen [a1]) }:Guest)))]) none) (some [(.agg (Ty.cells .guest (zbQ a0)))])) none)
theorem zQt (N:Nat)(a0:Guest)(a1:Int):evalFn (cQ zgF zL zF zG) (zB []) N 12 141 [.agg (Ty.cells .guest a0),.one (.i .i64 a1)]=zCV N a0 a1:=by kernel_rfl
theorem zO1 (a0:Guest)(a1:Int)(hb:zD big [.agg (Ty.cells .guest a0),.one (.i .i64 a1)])(hc:(zxX a0 a1)=true):∃N,zCV N a0 a1=some [.agg (Ty.cells .guest (zv4 a0 a1))]:=by
 have hs:=zI.1 hc;have hz:a0.Seen.length<=1048576:=hs.2.2.2
 refine ⟨0,?_⟩;unfold zCV;refine must (by first|assumption|(simp_all<;>omega)) (br (fun _=>must (by first|assumption|(simp_all<;>omega)) ?_) (fun _=>?_))
 all_goals first|rfl|(simp only [*,zv4,saw,cT,cF]<;>rfl)|simp_all [Ty.cells,zv4,saw]
theorem zLi:Holds Tryz.prog 141 zxs:=zn zdv zA zq zu (zC (by kernel_rfl)) fun avs rs hb h=>by
 unfold zxs at h;split at h
 ·obtain ⟨hc,rfl⟩:=zi h;exact (fin2 zO1 zQt hc hb :)
 ·cases h
@[simp,reducible] def zxN (g:Guest)(n:Int):Bool:=pc (SmG g)
@[simp,reducible] def zvR (g:Guest)(n:Int):Guest:=saw g n
def zxq:List AV->Option (Bool×List AV)
 | [.agg [.s .ins c,.i .i64 d,.i .i64 e,.s .slot f,.s .slot g,.i .i64 h,.i .i64 j,.b k,.i .i64 l,.i .i64 m,.i .i64 n,.b o,.i .i64 p,.b q,.s .int r],.one (.i .i64 t)]=>some ((zxN (⟨c,d,e,f,g,⟨h,j,k⟩,l,⟨m,n,o,p⟩,q,r⟩:Guest) t),[.agg (Ty.cells .guest (zvR (⟨c,d,e,f,g,⟨h,j,k⟩,l,⟨m,n,o,p⟩,q,r⟩:Guest) t))])
 | _=>none
def zCT (N:Nat)(a0:Guest)(a1:Int):Option Ans :=
 (cond (zcw a0) (cond (ilt (ln a0.Seen) 40) (cond (few (ln (ap (zbU a0).Seen [a1]))) (some [(.agg (Ty.cells .guest ({ (zbU a0) with Seen:=(ap (zbU a0).Seen [a1]) }:Guest)))]) none) (some [(.agg (Ty.cells .guest (zbU a0)))])) none)
theorem zQr (N:Nat)(a0:Guest)(a1:Int):evalFn (cQ zgF zL zF zG) (zB []) N 12 208 [.agg (Ty.cells .guest a0),.one (.i .i64 a1)]=zCT N a0 a1:=by kernel_rfl
theorem zOZ (a0:Guest)(a1:Int)(hb:zD big [.agg (Ty.cells .guest a0),.one (.i .i64 a1)])(hc:(zxN a0 a1)=true):∃N,zCT N a0 a1=some [.agg (Ty.cells .guest (zvR a0 a1))]:=by
 have hs:=zI.1 hc;have hz:a0.Seen.length<=1048576:=hs.2.2.2
 refine ⟨0,?_⟩;unfold zCT;refine must (by first|assumption|(simp_all<;>omega)) (br (fun _=>must (by first|assumption|(simp_all<;>omega)) ?_) (fun _=>?_))
 all_goals first|rfl|(simp only [*,zvR,saw,cT,cF]<;>rfl)|simp_all [Ty.cells,zvR,saw]
theorem zLg:Holds Tryz.prog 208 zxq:=zn zdv zA zq zu (zC (by kernel_rfl)) fun avs rs hb h=>by
 unfold zxq at h;split at h
 ·obtain ⟨hc,rfl⟩:=zi h;exact (fin2 zOZ zQr hc hb :)
 ·cases h
def stopped (g:Guest)(e:GExit):Guest:={ g with Exit:=e }
@[simp] theorem zMI {g:Guest}(e:GExit)(h:SmG g):SmG (stopped g e):=h
@[simp,reducible] def zcR (g:Guest)(e:GExit):Bool:=pc (SmG g)
@[simp,reducible] def zcB (g:Guest)(e:GExit):Guest:=stopped g e
def zoa:List AV->Option (Bool×List AV)
 | [.agg [.s .ins c,.i .i64 d,.i .i64 e,.s .slot f,.s .slot g,.i .i64 h,.i .i64 j,.b k,.i .i64 l,.i .i64 m,.i .i64 n,.b o,.i .i64 p,.b q,.s .int r],.agg [.i .i64 t,.i .i64 u,.b v,.i .i64 w]]=>some ((zcR (⟨c,d,e,f,g,⟨h,j,k⟩,l,⟨m,n,o,p⟩,q,r⟩:Guest) (⟨t,u,v,w⟩:GExit)),[.agg (Ty.cells .guest (zcB (⟨c,d,e,f,g,⟨h,j,k⟩,l,⟨m,n,o,p⟩,q,r⟩:Guest) (⟨t,u,v,w⟩:GExit)))])
 | _=>none
def zsX (N:Nat)(a0:Guest)(a1:GExit):Option Ans :=
 (cond (zcn a0) (some [(.agg (Ty.cells .guest ({ (zbQ a0) with Exit:=a1 }:Guest)))]) none)
theorem zKp (N:Nat)(a0:Guest)(a1:GExit):evalFn (cQ zgF zL zF zG) (zB []) N 12 88 [.agg (Ty.cells .guest a0),.agg (zcY a1)]=zsX N a0 a1:=by kernel_rfl
theorem zGW (a0:Guest)(a1:GExit)(hb:zD big [.agg (Ty.cells .guest a0),.agg (zcY a1)])(hc:(zcR a0 a1)=true):∃N,zsX N a0 a1=some [.agg (Ty.cells .guest (zcB a0 a1))]:=by
 have hs:=zI.1 hc;refine ⟨0,?_⟩;unfold zsX;refine must (by first|assumption|(simp_all<;>omega)) ?_
 first|rfl|(simp only [*,zcB,stopped,cT,cF]<;>rfl)|simp_all [Ty.cells,zcB,stopped]
theorem zBx:Holds Tryz.prog 88 zoa:=zn zdv zA zq zu (zC (by kernel_rfl)) fun avs rs hb h=>by
 unfold zoa at h;split at h
 ·obtain ⟨hc,rfl⟩:=zi h;exact (fin2 zGW zKp hc hb :)
 ·cases h
@[simp,reducible] def zcQ (g:Guest)(e:GExit):Bool:=pc (SmG g)
@[simp,reducible] def zbM (g:Guest)(e:GExit):Guest:=stopped g e
def znI:List AV->Option (Bool×List AV)
 | [.agg [.s .ins c,.i .i64 d,.i .i64 e,.s .slot f,.s .slot g,.i .i64 h,.i .i64 j,.b k,.i .i64 l,.i .i64 m,.i .i64 n,.b o,.i .i64 p,.b q,.s .int r],.agg [.i .i64 t,.i .i64 u,.b v,.i .i64 w]]=>some ((zcQ (⟨c,d,e,f,g,⟨h,j,k⟩,l,⟨m,n,o,p⟩,q,r⟩:Guest) (⟨t,u,v,w⟩:GExit)),[.agg (Ty.cells .guest (zbM (⟨c,d,e,f,g,⟨h,j,k⟩,l,⟨m,n,o,p⟩,q,r⟩:Guest) (⟨t,u,v,w⟩:GExit)))])
 | _=>none
def zst (N:Nat)(a0:Guest)(a1:GExit):Option Ans :=
 (cond (zcw a0) (some [(.agg (Ty.cells .guest ({ (zbU a0) with Exit:=a1 }:Guest)))]) none)
theorem zJW (N:Nat)(a0:Guest)(a1:GExit):evalFn (cQ zgF zL zF zG) (zB []) N 12 163 [.agg (Ty.cells .guest a0),.agg (zcY a1)]=zst N a0 a1:=by kernel_rfl
theorem zGt (a0:Guest)(a1:GExit)(hb:zD big [.agg (Ty.cells .guest a0),.agg (zcY a1)])(hc:(zcQ a0 a1)=true):∃N,zst N a0 a1=some [.agg (Ty.cells .guest (zbM a0 a1))]:=by
 have hs:=zI.1 hc;refine ⟨0,?_⟩;unfold zst;refine must (by first|assumption|(simp_all<;>omega)) ?_
 first|rfl|(simp only [*,zbM,stopped,cT,cF]<;>rfl)|simp_all [Ty.cells,zbM,stopped]
theorem zA5:Holds Tryz.prog 163 znI:=zn zdv zA zq zu (zC (by kernel_rfl)) fun avs rs hb h=>by
 unfold znI at h;split at h
 ·obtain ⟨hc,rfl⟩:=zi h;exact (fin2 zGt zJW hc hb :)
 ·cases h
def zbB (g:Guest):Guest:=bif ige g.Pc 12 then { g with Pc:=12 } else { g with Pc:=zy .i64 g.Pc 1 }
@[simp] theorem zhg {g:Guest}(h:SmG g):SmG (zbB g):=by
 unfold zbB;cases ige g.Pc 12<;>exact h
@[simp,reducible] def zbL (g:Guest):Bool:=pc (SmG g)
@[simp,reducible] def zb1 (g:Guest):Guest:=zbB g
def ztK:List AV->Option (Bool×List AV)
 | [.agg [.s .ins c,.i .i64 d,.i .i64 e,.s .slot f,.s .slot g,.i .i64 h,.i .i64 j,.b k,.i .i64 l,.i .i64 m,.i .i64 n,.b o,.i .i64 p,.b q,.s .int r]]=>some ((zbL (⟨c,d,e,f,g,⟨h,j,k⟩,l,⟨m,n,o,p⟩,q,r⟩:Guest)),[.agg (Ty.cells .guest (zb1 (⟨c,d,e,f,g,⟨h,j,k⟩,l,⟨m,n,o,p⟩,q,r⟩:Guest)))])
 | _=>none
def zwD (N:Nat)(a0:Guest):Option Ans :=
 (cond (zcn a0) (cond (ige (zbQ a0).Pc 12) (some [(.agg (Ty.cells .guest ({ (zbQ a0) with Pc:=12 }:Guest)))]) (some [(.agg (Ty.cells .guest ({ (zbQ a0) with Pc:=(zy .i64 (zbQ a0).Pc 1) }:Guest)))])) none)
theorem zOb (N:Nat)(a0:Guest):evalFn (cQ zgF zL zF zG) (zB []) N 12 102 [.agg (Ty.cells .guest a0)]=zwD N a0:=by kernel_rfl
theorem zLE (a0:Guest)(hb:zD big [.agg (Ty.cells .guest a0)])(hc:(zbL a0)=true):∃N,zwD N a0=some [.agg (Ty.cells .guest (zb1 a0))]:=by
 have hs:=zI.1 hc;refine ⟨0,?_⟩;unfold zwD;refine must (by first|assumption|(simp_all<;>omega)) (br (fun _=>?_) (fun _=>?_))
 all_goals first|rfl|(simp only [*,zb1,zbB,cT,cF]<;>rfl)|simp_all [Ty.cells,zb1,zbB]
theorem zF9:Holds Tryz.prog 102 ztK:=zn zdv zA zq zu (zC (by kernel_rfl)) fun avs rs hb h=>by
 unfold ztK at h;split at h
 ·obtain ⟨hc,rfl⟩:=zi h;exact (fin1 zLE zOb hc hb :)
 ·cases h
@[simp,reducible] def zdo (g:Guest):Bool:=pc (SmG g)
@[simp,reducible] def zcg (g:Guest):Guest:=zbB g
def ztw:List AV->Option (Bool×List AV)
 | [.agg [.s .ins c,.i .i64 d,.i .i64 e,.s .slot f,.s .slot g,.i .i64 h,.i .i64 j,.b k,.i .i64 l,.i .i64 m,.i .i64 n,.b o,.i .i64 p,.b q,.s .int r]]=>some ((zdo (⟨c,d,e,f,g,⟨h,j,k⟩,l,⟨m,n,o,p⟩,q,r⟩:Guest)),[.agg (Ty.cells .guest (zcg (⟨c,d,e,f,g,⟨h,j,k⟩,l,⟨m,n,o,p⟩,q,r⟩:Guest)))])
 | _=>none
def zwp (N:Nat)(a0:Guest):Option Ans :=
 (cond (zcw a0) (cond (ige a0.Pc 12) (some [(.agg (Ty.cells .guest ({ (zbU a0) with Pc:=12 }:Guest)))]) (some [(.agg (Ty.cells .guest ({ (zbU a0) with Pc:=(zy .i64 a0.Pc 1) }:Guest)))])) none)
theorem zNX (N:Nat)(a0:Guest):evalFn (cQ zgF zL zF zG) (zB []) N 12 175 [.agg (Ty.cells .guest a0)]=zwp N a0:=by kernel_rfl
theorem zLq (a0:Guest)(hb:zD big [.agg (Ty.cells .guest a0)])(hc:(zdo a0)=true):∃N,zwp N a0=some [.agg (Ty.cells .guest (zcg a0))]:=by
 have hs:=zI.1 hc;refine ⟨0,?_⟩;unfold zwp;refine must (by first|assumption|(simp_all<;>omega)) (br (fun _=>?_) (fun _=>?_))
 all_goals first|rfl|(simp only [*,zcg,zbB,cT,cF]<;>rfl)|simp_all [Ty.cells,zcg,zbB]
theorem zFV:Holds Tryz.prog 175 ztw:=zn zdv zA zq zu (zC (by kernel_rfl)) fun avs rs hb h=>by
 unfold ztw at h;split at h
 ·obtain ⟨hc,rfl⟩:=zi h;exact (fin1 zLq zNX hc hb :)
 ·cases h
def zeC:zbu:=[(90,zlV),(165,zly),(137,zlU),(204,zlx),(107,zoc),(191,znK),(141,zxs),(208,zxq),(88,zoa),(163,znI),(102,ztK),(175,ztw)]++zgF
theorem zcN:zbE zeC:=zl zzF (zl zze (zl zzE (zl zzd (zl zBz (zl zA7 (zl zLi (zl zLg (zl zBx (zl zA5 (zl zF9 (zl zFV zdv)))))))))))
def interrupted (g:Guest):Guest:=bif zeB g then saw { g with Pending:=zdZ g.Pending } (zy .i64 100 (zf9 g.Pending)) else g
@[simp] theorem zSm {g:Guest}(h:SmG g):SmG (interrupted g):=by
 unfold interrupted;cases zeB g
 ·exact h
 ·exact zxZ (g:={ g with Pending:=zdZ g.Pending }) _ h
@[simp,reducible] def zkL (g:Guest):Bool:=pc (SmG g)
@[simp,reducible] def zgi (g:Guest):Guest:=interrupted g
def zhX:List AV->Option (Bool×List AV)
 | [.agg [.s .ins c,.i .i64 d,.i .i64 e,.s .slot f,.s .slot g,.i .i64 h,.i .i64 j,.b k,.i .i64 l,.i .i64 m,.i .i64 n,.b o,.i .i64 p,.b q,.s .int r]]=>some ((zkL (⟨c,d,e,f,g,⟨h,j,k⟩,l,⟨m,n,o,p⟩,q,r⟩:Guest)),[.agg (Ty.cells .guest (zgi (⟨c,d,e,f,g,⟨h,j,k⟩,l,⟨m,n,o,p⟩,q,r⟩:Guest)))])
 | _=>none
def zjG (N:Nat)(a0:Guest):Option Ans :=
 (cond (zkO a0) (cond (cond (zhM a0) false true) (cond (zcn a0) (some [(.agg (Ty.cells .guest (zbQ a0)))]) none) (cond (zmB a0.Pending) (cond (zxX ({ a0 with Pending:=(zfc a0.Pending) }:Guest) (zy .i64 100 (zfd a0.Pending))) (some [(.agg (Ty.cells .guest (zv4 ({ a0 with Pending:=(zfc a0.Pending) }:Guest) (zy .i64 100 (zfd a0.Pending)))))]) none) none)) none)
theorem zz4 (N:Nat)(a0:Guest):evalFn (cQ zeC zL zF zG) (zB []) N 12 82 [.agg (Ty.cells .guest a0)]=zjG N a0:=by kernel_rfl
theorem zyo (a0:Guest)(hb:zD big [.agg (Ty.cells .guest a0)])(hc:(zkL a0)=true):∃N,zjG N a0=some [.agg (Ty.cells .guest (zgi a0))]:=by
 have hs:=zI.1 hc;have hz:_/\_/\_/\_:=hs
 refine ⟨0,?_⟩;unfold zjG;refine must rfl (brN (fun _=>must (by first|assumption|(simp_all<;>omega)) ?_) (fun _=>must rfl (must (by first|assumption|(simp_all<;>omega)) ?_)))
 all_goals first|rfl|(simp only [*,zgi,interrupted,cT,cF]<;>rfl)|simp_all [Ty.cells,zgi,interrupted]
theorem zwh:Holds Tryz.prog 82 zhX:=zn zcN zA zq zu (zC (by kernel_rfl)) fun avs rs hb h=>by
 unfold zhX at h;split at h
 ·obtain ⟨hc,rfl⟩:=zi h;exact (fin1 zyo zz4 hc hb :)
 ·cases h
@[simp,reducible] def zjY (g:Guest):Bool:=pc (SmG g)
@[simp,reducible] def zeJ (g:Guest):Guest:=interrupted g
def zhW:List AV->Option (Bool×List AV)
 | [.agg [.s .ins c,.i .i64 d,.i .i64 e,.s .slot f,.s .slot g,.i .i64 h,.i .i64 j,.b k,.i .i64 l,.i .i64 m,.i .i64 n,.b o,.i .i64 p,.b q,.s .int r]]=>some ((zjY (⟨c,d,e,f,g,⟨h,j,k⟩,l,⟨m,n,o,p⟩,q,r⟩:Guest)),[.agg (Ty.cells .guest (zeJ (⟨c,d,e,f,g,⟨h,j,k⟩,l,⟨m,n,o,p⟩,q,r⟩:Guest)))])
 | _=>none
def zjF (N:Nat)(a0:Guest):Option Ans :=
 (cond (zj3 a0) (cond (cond (zho a0) false true) (cond (zcw a0) (some [(.agg (Ty.cells .guest (zbU a0)))]) none) (cond (zmi a0.Pending) (cond (zxN ({ a0 with Pending:=(ze4 a0.Pending) }:Guest) (zy .i64 100 (ze5 a0.Pending))) (some [(.agg (Ty.cells .guest (zvR ({ a0 with Pending:=(ze4 a0.Pending) }:Guest) (zy .i64 100 (ze5 a0.Pending)))))]) none) none)) none)
theorem zz3 (N:Nat)(a0:Guest):evalFn (cQ zeC zL zF zG) (zB []) N 12 158 [.agg (Ty.cells .guest a0)]=zjF N a0:=by kernel_rfl
theorem zyn (a0:Guest)(hb:zD big [.agg (Ty.cells .guest a0)])(hc:(zjY a0)=true):∃N,zjF N a0=some [.agg (Ty.cells .guest (zeJ a0))]:=by
 have hs:=zI.1 hc;have hz:_/\_/\_/\_:=hs
 refine ⟨0,?_⟩;unfold zjF;refine must rfl (brN (fun _=>must (by first|assumption|(simp_all<;>omega)) ?_) (fun _=>must rfl (must (by first|assumption|(simp_all<;>omega)) ?_)))
 all_goals first|rfl|(simp only [*,zeJ,interrupted,cT,cF]<;>rfl)|simp_all [Ty.cells,zeJ,interrupted]
theorem zwg:Holds Tryz.prog 158 zhW:=zn zcN zA zq zu (zC (by kernel_rfl)) fun avs rs hb h=>by
 unfold zhW at h;split at h
 ·obtain ⟨hc,rfl⟩:=zi h;exact (fin1 zyn zz3 hc hb :)
 ·cases h
def zuu (o:Int):Int:=bif ieq o 3 then 3 else (cond (ieq o 4) 4 (cond (ieq o 5) 5 (cond (ieq o 6) 6 (cond (ieq o 7) 7 2))))
def zbS (g:Guest):Int:=bif canRun g then (cond (zeB g) 1 (zuu (zcA g.Prog g.Pc).Op)) else 0
@[simp,reducible] def zkP (g:Guest):Bool:=true
@[simp,reducible] def zbd (g:Guest):Int:=zbS g
def zrj:List AV->Option (Bool×List AV)
 | [.agg [.s .ins c,.i .i64 d,.i .i64 e,.s .slot f,.s .slot g,.i .i64 h,.i .i64 j,.b k,.i .i64 l,.i .i64 m,.i .i64 n,.b o,.i .i64 p,.b q,.s .int r]]=>some ((zkP (⟨c,d,e,f,g,⟨h,j,k⟩,l,⟨m,n,o,p⟩,q,r⟩:Guest)),[.one (.i .i64 (zbd (⟨c,d,e,f,g,⟨h,j,k⟩,l,⟨m,n,o,p⟩,q,r⟩:Guest)))])
 | _=>none
def zvq (N:Nat)(a0:Guest):Option Ans :=
 (cond (zoU a0) (cond (cond (zl0 a0) false true) (some [(.one (.i .i64 0))]) (cond (zkO a0) (cond (zhM a0) (some [(.one (.i .i64 1))]) (cond (zeU a0.Prog a0.Pc) (cond (ieq (zbm a0.Prog a0.Pc).Op 3) (some [(.one (.i .i64 3))]) (cond (ieq (zbm a0.Prog a0.Pc).Op 4) (some [(.one (.i .i64 4))]) (cond (ieq (zbm a0.Prog a0.Pc).Op 5) (some [(.one (.i .i64 5))]) (cond (ieq (zbm a0.Prog a0.Pc).Op 6) (some [(.one (.i .i64 6))]) (cond (ieq (zbm a0.Prog a0.Pc).Op 7) (some [(.one (.i .i64 7))]) (some [(.one (.i .i64 2))])))))) none)) none)) none)
theorem zMw (N:Nat)(a0:Guest):evalFn (cQ zeC zL zF zG) (zB []) N 12 80 [.agg (Ty.cells .guest a0)]=zvq N a0:=by kernel_rfl
theorem zJC (a0:Guest)(hb:zD big [.agg (Ty.cells .guest a0)])(hc:(zkP a0)=true):∃N,zvq N a0=some [.one (.i .i64 (zbd a0))]:=by
 refine ⟨0,?_⟩;unfold zvq;refine must rfl (brN (fun _=>?_) (fun _=>must rfl (br (fun _=>?_) (fun _=>must rfl (br (fun _=>?_) (fun _=>br (fun _=>?_) (fun _=>br (fun _=>?_) (fun _=>br (fun _=>?_) (fun _=>br (fun _=>?_) (fun _=>?_))))))))))
 all_goals first|rfl|(simp only [*,zbd,zbS,zuu,cT,cF]<;>rfl)|simp_all [Ty.cells,zbd,zbS,zuu]
theorem zDR:Holds Tryz.prog 80 zrj:=zn zcN zA zq zu (zC (by kernel_rfl)) fun avs rs hb h=>by
 unfold zrj at h;split at h
 ·obtain ⟨hc,rfl⟩:=zi h;exact (fin1 zJC zMw hc hb :)
 ·cases h
@[simp,reducible] def zj4 (g:Guest):Bool:=true
@[simp,reducible] def zW (g:Guest):Int:=zbS g
def zqO:List AV->Option (Bool×List AV)
 | [.agg [.s .ins c,.i .i64 d,.i .i64 e,.s .slot f,.s .slot g,.i .i64 h,.i .i64 j,.b k,.i .i64 l,.i .i64 m,.i .i64 n,.b o,.i .i64 p,.b q,.s .int r]]=>some ((zj4 (⟨c,d,e,f,g,⟨h,j,k⟩,l,⟨m,n,o,p⟩,q,r⟩:Guest)),[.one (.i .i64 (zW (⟨c,d,e,f,g,⟨h,j,k⟩,l,⟨m,n,o,p⟩,q,r⟩:Guest)))])
 | _=>none
def zuW (N:Nat)(a0:Guest):Option Ans :=
 (cond (zot a0) (cond (cond (zld a0) false true) (some [(.one (.i .i64 0))]) (cond (zj3 a0) (cond (zho a0) (some [(.one (.i .i64 1))]) (cond (zfG a0.Prog a0.Pc) (cond (ieq (zbK a0.Prog a0.Pc).Op 3) (some [(.one (.i .i64 3))]) (cond (ieq (zbK a0.Prog a0.Pc).Op 4) (some [(.one (.i .i64 4))]) (cond (ieq (zbK a0.Prog a0.Pc).Op 5) (some [(.one (.i .i64 5))]) (cond (ieq (zbK a0.Prog a0.Pc).Op 6) (some [(.one (.i .i64 6))]) (cond (ieq (zbK a0.Prog a0.Pc).Op 7) (some [(.one (.i .i64 7))]) (some [(.one (.i .i64 2))])))))) none)) none)) none)
theorem zL1 (N:Nat)(a0:Guest):evalFn (cQ zeC zL zF zG) (zB []) N 12 153 [.agg (Ty.cells .guest a0)]=zuW N a0:=by kernel_rfl
theorem zI7 (a0:Guest)(hb:zD big [.agg (Ty.cells .guest a0)])(hc:(zj4 a0)=true):∃N,zuW N a0=some [.one (.i .i64 (zW a0))]:=by
 refine ⟨0,?_⟩;unfold zuW;refine must rfl (brN (fun _=>?_) (fun _=>must rfl (br (fun _=>?_) (fun _=>must rfl (br (fun _=>?_) (fun _=>br (fun _=>?_) (fun _=>br (fun _=>?_) (fun _=>br (fun _=>?_) (fun _=>br (fun _=>?_) (fun _=>?_))))))))))
 all_goals first|rfl|(simp only [*,zW,zbS,zuu,cT,cF]<;>rfl)|simp_all [Ty.cells,zW,zbS,zuu]
theorem zDn:Holds Tryz.prog 153 zqO:=zn zcN zA zq zu (zC (by kernel_rfl)) fun avs rs hb h=>by
 unfold zqO at h;split at h
 ·obtain ⟨hc,rfl⟩:=zi h;exact (fin1 zI7 zL1 hc hb :)
 ·cases h
def held (g:Guest):Guest:=zbB { g with Halted:=true }
@[simp] theorem zKG {g:Guest}(h:SmG g):SmG (held g):=zhg (g:={ g with Halted:=true }) h
@[simp,reducible] def zjh (g:Guest):Bool:=pc (SmG g)
@[simp,reducible] def zkK (g:Guest):Guest:=held g
def zvX:List AV->Option (Bool×List AV)
 | [.agg [.s .ins c,.i .i64 d,.i .i64 e,.s .slot f,.s .slot g,.i .i64 h,.i .i64 j,.b k,.i .i64 l,.i .i64 m,.i .i64 n,.b o,.i .i64 p,.b q,.s .int r]]=>some ((zjh (⟨c,d,e,f,g,⟨h,j,k⟩,l,⟨m,n,o,p⟩,q,r⟩:Guest)),[.agg (Ty.cells .guest (zkK (⟨c,d,e,f,g,⟨h,j,k⟩,l,⟨m,n,o,p⟩,q,r⟩:Guest)))])
 | _=>none
def zyN (N:Nat)(a0:Guest):Option Ans :=
 (cond (zbL ({ a0 with Halted:=true }:Guest)) (some [(.agg (Ty.cells .guest (zb1 ({ a0 with Halted:=true }:Guest))))]) none)
theorem zPa (N:Nat)(a0:Guest):evalFn (cQ zeC zL zF zG) (zB []) N 12 103 [.agg (Ty.cells .guest a0)]=zyN N a0:=by kernel_rfl
theorem zNN (a0:Guest)(hb:zD big [.agg (Ty.cells .guest a0)])(hc:(zjh a0)=true):∃N,zyN N a0=some [.agg (Ty.cells .guest (zkK a0))]:=by
 have hs:=zI.1 hc;have hz:_/\_/\_/\_:=hs
 refine ⟨0,?_⟩;unfold zyN;refine must (by first|assumption|(simp_all<;>omega)) ?_
 first|rfl|(simp only [*,zkK,held,cT,cF]<;>rfl)|simp_all [Ty.cells,zkK,held]
theorem zIL:Holds Tryz.prog 103 zvX:=zn zcN zA zq zu (zC (by kernel_rfl)) fun avs rs hb h=>by
 unfold zvX at h;split at h
 ·obtain ⟨hc,rfl⟩:=zi h;exact (fin1 zNN zPa hc hb :)
 ·cases h
@[simp,reducible] def zlg (g:Guest):Bool:=pc (SmG g)
@[simp,reducible] def zf6 (g:Guest):Guest:=held g
def zvW:List AV->Option (Bool×List AV)
 | [.agg [.s .ins c,.i .i64 d,.i .i64 e,.s .slot f,.s .slot g,.i .i64 h,.i .i64 j,.b k,.i .i64 l,.i .i64 m,.i .i64 n,.b o,.i .i64 p,.b q,.s .int r]]=>some ((zlg (⟨c,d,e,f,g,⟨h,j,k⟩,l,⟨m,n,o,p⟩,q,r⟩:Guest)),[.agg (Ty.cells .guest (zf6 (⟨c,d,e,f,g,⟨h,j,k⟩,l,⟨m,n,o,p⟩,q,r⟩:Guest)))])
 | _=>none
def zyM (N:Nat)(a0:Guest):Option Ans :=
 (cond (zdo ({ a0 with Halted:=true }:Guest)) (some [(.agg (Ty.cells .guest (zcg ({ a0 with Halted:=true }:Guest))))]) none)
theorem zO9 (N:Nat)(a0:Guest):evalFn (cQ zeC zL zF zG) (zB []) N 12 176 [.agg (Ty.cells .guest a0)]=zyM N a0:=by kernel_rfl
theorem zNM (a0:Guest)(hb:zD big [.agg (Ty.cells .guest a0)])(hc:(zlg a0)=true):∃N,zyM N a0=some [.agg (Ty.cells .guest (zf6 a0))]:=by
 have hs:=zI.1 hc;have hz:_/\_/\_/\_:=hs
 refine ⟨0,?_⟩;unfold zyM;refine must (by first|assumption|(simp_all<;>omega)) ?_
 first|rfl|(simp only [*,zf6,held,cT,cF]<;>rfl)|simp_all [Ty.cells,zf6,held]
theorem zIK:Holds Tryz.prog 176 zvW:=zn zcN zA zq zu (zC (by kernel_rfl)) fun avs rs hb h=>by
 unfold zvW at h;split at h
 ·obtain ⟨hc,rfl⟩:=zi h;exact (fin1 zNM zO9 hc hb :)
 ·cases h
@[simp,reducible] def zo0 (g:Guest):Bool:=pc (SmG g)
@[simp,reducible] def zl5 (g:Guest):Guest:=zbB g
def zrh:List AV->Option (Bool×List AV)
 | [.agg [.s .ins c,.i .i64 d,.i .i64 e,.s .slot f,.s .slot g,.i .i64 h,.i .i64 j,.b k,.i .i64 l,.i .i64 m,.i .i64 n,.b o,.i .i64 p,.b q,.s .int r]]=>some ((zo0 (⟨c,d,e,f,g,⟨h,j,k⟩,l,⟨m,n,o,p⟩,q,r⟩:Guest)),[.agg (Ty.cells .guest (zl5 (⟨c,d,e,f,g,⟨h,j,k⟩,l,⟨m,n,o,p⟩,q,r⟩:Guest)))])
 | _=>none
def zvo (N:Nat)(a0:Guest):Option Ans :=
 (cond (zbL a0) (some [(.agg (Ty.cells .guest (zb1 a0)))]) none)
theorem zMu (N:Nat)(a0:Guest):evalFn (cQ zeC zL zF zG) (zB []) N 12 92 [.agg (Ty.cells .guest a0)]=zvo N a0:=by kernel_rfl
theorem zJA (a0:Guest)(hb:zD big [.agg (Ty.cells .guest a0)])(hc:(zo0 a0)=true):∃N,zvo N a0=some [.agg (Ty.cells .guest (zl5 a0))]:=by
 have hs:=zI.1 hc;refine ⟨0,?_⟩;unfold zvo;refine must (by first|assumption|(simp_all<;>omega)) ?_
 first|rfl|(simp only [*,zl5,cT,cF]<;>rfl)|simp_all [Ty.cells,zl5]
theorem zDP:Holds Tryz.prog 92 zrh:=zn zcN zA zq zu (zC (by kernel_rfl)) fun avs rs hb h=>by
 unfold zrh at h;split at h
 ·obtain ⟨hc,rfl⟩:=zi h;exact (fin1 zJA zMu hc hb :)
 ·cases h
@[simp,reducible] def zoA (g:Guest):Bool:=pc (SmG g)
@[simp,reducible] def zgZ (g:Guest):Guest:=zbB g
def zqM:List AV->Option (Bool×List AV)
 | [.agg [.s .ins c,.i .i64 d,.i .i64 e,.s .slot f,.s .slot g,.i .i64 h,.i .i64 j,.b k,.i .i64 l,.i .i64 m,.i .i64 n,.b o,.i .i64 p,.b q,.s .int r]]=>some ((zoA (⟨c,d,e,f,g,⟨h,j,k⟩,l,⟨m,n,o,p⟩,q,r⟩:Guest)),[.agg (Ty.cells .guest (zgZ (⟨c,d,e,f,g,⟨h,j,k⟩,l,⟨m,n,o,p⟩,q,r⟩:Guest)))])
 | _=>none
def zuU (N:Nat)(a0:Guest):Option Ans :=
 (cond (zdo a0) (some [(.agg (Ty.cells .guest (zcg a0)))]) none)
theorem zLZ (N:Nat)(a0:Guest):evalFn (cQ zeC zL zF zG) (zB []) N 12 167 [.agg (Ty.cells .guest a0)]=zuU N a0:=by kernel_rfl
theorem zI5 (a0:Guest)(hb:zD big [.agg (Ty.cells .guest a0)])(hc:(zoA a0)=true):∃N,zuU N a0=some [.agg (Ty.cells .guest (zgZ a0))]:=by
 have hs:=zI.1 hc;refine ⟨0,?_⟩;unfold zuU;refine must (by first|assumption|(simp_all<;>omega)) ?_
 first|rfl|(simp only [*,zgZ,cT,cF]<;>rfl)|simp_all [Ty.cells,zgZ]
theorem zDl:Holds Tryz.prog 167 zqM:=zn zcN zA zq zu (zC (by kernel_rfl)) fun avs rs hb h=>by
 unfold zqM at h;split at h
 ·obtain ⟨hc,rfl⟩:=zi h;exact (fin1 zI5 zLZ hc hb :)
 ·cases h
def loaded (g:Guest)(v:Int):Guest:=zbB (saw { g with A:=v } v)
@[simp] theorem zOp {g:Guest}(v:Int)(h:SmG g):SmG (loaded g v):=zhg (zxZ (g:={ g with A:=v }) v h)
@[simp,reducible] def zoV (g:Guest)(v:Int):Bool:=pc (SmG g)
@[simp,reducible] def zl3 (g:Guest)(v:Int):Guest:=loaded g v
def zq6:List AV->Option (Bool×List AV)
 | [.agg [.s .ins c,.i .i64 d,.i .i64 e,.s .slot f,.s .slot g,.i .i64 h,.i .i64 j,.b k,.i .i64 l,.i .i64 m,.i .i64 n,.b o,.i .i64 p,.b q,.s .int r],.one (.i .i64 t)]=>some ((zoV (⟨c,d,e,f,g,⟨h,j,k⟩,l,⟨m,n,o,p⟩,q,r⟩:Guest) t),[.agg (Ty.cells .guest (zl3 (⟨c,d,e,f,g,⟨h,j,k⟩,l,⟨m,n,o,p⟩,q,r⟩:Guest) t))])
 | _=>none
def zvg (N:Nat)(a0:Guest)(a1:Int):Option Ans :=
 (cond (zxX ({ a0 with A:=a1 }:Guest) a1) (cond (zbL (zv4 ({ a0 with A:=a1 }:Guest) a1)) (some [(.agg (Ty.cells .guest (zb1 (zv4 ({ a0 with A:=a1 }:Guest) a1))))]) none) none)
theorem zMk (N:Nat)(a0:Guest)(a1:Int):evalFn (cQ zeC zL zF zG) (zB []) N 12 93 [.agg (Ty.cells .guest a0),.one (.i .i64 a1)]=zvg N a0 a1:=by kernel_rfl
theorem zJq (a0:Guest)(a1:Int)(hb:zD big [.agg (Ty.cells .guest a0),.one (.i .i64 a1)])(hc:(zoV a0 a1)=true):∃N,zvg N a0 a1=some [.agg (Ty.cells .guest (zl3 a0 a1))]:=by
 have hs:=zI.1 hc;have hz:_/\_/\_/\_:=hs;have hk:SmG (saw { a0 with A:=a1 } a1):=zxZ (g:={ a0 with A:=a1 }) a1 hs
 refine ⟨0,?_⟩;unfold zvg;refine must (by first|assumption|(simp_all<;>omega)) (must (by first|assumption|(simp_all<;>omega)) ?_)
 first|rfl|(simp only [*,zl3,loaded,cT,cF]<;>rfl)|simp_all [Ty.cells,zl3,loaded]
theorem zDF:Holds Tryz.prog 93 zq6:=zn zcN zA zq zu (zC (by kernel_rfl)) fun avs rs hb h=>by
 unfold zq6 at h;split at h
 ·obtain ⟨hc,rfl⟩:=zi h;exact (fin2 zJq zMk hc hb :)
 ·cases h
@[simp,reducible] def zov (g:Guest)(v:Int):Bool:=pc (SmG g)
@[simp,reducible] def zgX (g:Guest)(v:Int):Guest:=loaded g v
def zqC:List AV->Option (Bool×List AV)
 | [.agg [.s .ins c,.i .i64 d,.i .i64 e,.s .slot f,.s .slot g,.i .i64 h,.i .i64 j,.b k,.i .i64 l,.i .i64 m,.i .i64 n,.b o,.i .i64 p,.b q,.s .int r],.one (.i .i64 t)]=>some ((zov (⟨c,d,e,f,g,⟨h,j,k⟩,l,⟨m,n,o,p⟩,q,r⟩:Guest) t),[.agg (Ty.cells .guest (zgX (⟨c,d,e,f,g,⟨h,j,k⟩,l,⟨m,n,o,p⟩,q,r⟩:Guest) t))])
 | _=>none
def zuM (N:Nat)(a0:Guest)(a1:Int):Option Ans :=
 (cond (zxN ({ a0 with A:=a1 }:Guest) a1) (cond (zdo (zvR ({ a0 with A:=a1 }:Guest) a1)) (some [(.agg (Ty.cells .guest (zcg (zvR ({ a0 with A:=a1 }:Guest) a1))))]) none) none)
theorem zLP (N:Nat)(a0:Guest)(a1:Int):evalFn (cQ zeC zL zF zG) (zB []) N 12 168 [.agg (Ty.cells .guest a0),.one (.i .i64 a1)]=zuM N a0 a1:=by kernel_rfl
theorem zIV (a0:Guest)(a1:Int)(hb:zD big [.agg (Ty.cells .guest a0),.one (.i .i64 a1)])(hc:(zov a0 a1)=true):∃N,zuM N a0 a1=some [.agg (Ty.cells .guest (zgX a0 a1))]:=by
 have hs:=zI.1 hc;have hz:_/\_/\_/\_:=hs;have hk:SmG (saw { a0 with A:=a1 } a1):=zxZ (g:={ a0 with A:=a1 }) a1 hs
 refine ⟨0,?_⟩;unfold zuM;refine must (by first|assumption|(simp_all<;>omega)) (must (by first|assumption|(simp_all<;>omega)) ?_)
 first|rfl|(simp only [*,zgX,loaded,cT,cF]<;>rfl)|simp_all [Ty.cells,zgX,loaded]
theorem zDb:Holds Tryz.prog 168 zqC:=zn zcN zA zq zu (zC (by kernel_rfl)) fun avs rs hb h=>by
 unfold zqC at h;split at h
 ·obtain ⟨hc,rfl⟩:=zi h;exact (fin2 zIV zLP hc hb :)
 ·cases h
def zl7 (g:Guest)(w:Int):Guest:=bif ieq w 5 then stopped g (zxW (zcA g.Prog g.Pc).X) else stopped g ⟨4,0,false,0⟩
@[simp] theorem zTe {g:Guest}(w:Int)(h:SmG g):SmG (zl7 g w):=by
 unfold zl7;cases ieq w 5<;>exact h
@[simp,reducible] def zml (g:Guest)(w:Int):Bool:=pc (SmG g)
@[simp,reducible] def zfK (g:Guest)(w:Int):Guest:=zl7 g w
def znN:List AV->Option (Bool×List AV)
 | [.agg [.s .ins c,.i .i64 d,.i .i64 e,.s .slot f,.s .slot g,.i .i64 h,.i .i64 j,.b k,.i .i64 l,.i .i64 m,.i .i64 n,.b o,.i .i64 p,.b q,.s .int r],.one (.i .i64 t)]=>some ((zml (⟨c,d,e,f,g,⟨h,j,k⟩,l,⟨m,n,o,p⟩,q,r⟩:Guest) t),[.agg (Ty.cells .guest (zfK (⟨c,d,e,f,g,⟨h,j,k⟩,l,⟨m,n,o,p⟩,q,r⟩:Guest) t))])
 | _=>none
def zsy (N:Nat)(a0:Guest)(a1:Int):Option Ans :=
 (cond (ieq a1 5) (cond (zfG a0.Prog a0.Pc) (cond (ztm (zbK a0.Prog a0.Pc).X) (cond (zcQ a0 (zju (zbK a0.Prog a0.Pc).X)) (some [(.agg (Ty.cells .guest (zbM a0 (zju (zbK a0.Prog a0.Pc).X))))]) none) none) none) (cond (zcQ a0 (⟨4,0,false,0⟩:GExit)) (some [(.agg (Ty.cells .guest (zbM a0 (⟨4,0,false,0⟩:GExit))))]) none))
theorem zJ1 (N:Nat)(a0:Guest)(a1:Int):evalFn (cQ zeC zL zF zG) (zB []) N 12 173 [.agg (Ty.cells .guest a0),.one (.i .i64 a1)]=zsy N a0 a1:=by kernel_rfl
theorem zGy (a0:Guest)(a1:Int)(hb:zD big [.agg (Ty.cells .guest a0),.one (.i .i64 a1)])(hc:(zml a0 a1)=true):∃N,zsy N a0 a1=some [.agg (Ty.cells .guest (zfK a0 a1))]:=by
 have hs:=zI.1 hc;refine ⟨0,?_⟩;unfold zsy;refine br (fun _=>must rfl (must rfl (must (by first|assumption|(simp_all<;>omega)) ?_))) (fun _=>must (by first|assumption|(simp_all<;>omega)) ?_)
 all_goals first|rfl|(simp only [*,zfK,zl7,cT,cF]<;>rfl)|simp_all [Ty.cells,zfK,zl7]
theorem zBa:Holds Tryz.prog 173 znN:=zn zcN zA zq zu (zC (by kernel_rfl)) fun avs rs hb h=>by
 unfold znN at h;split at h
 ·obtain ⟨hc,rfl⟩:=zi h;exact (fin2 zGy zJ1 hc hb :)
 ·cases h
def zfk (g:Guest):Bool:=zg7 g.Prog&&(win g.A 0 99&&(win g.Pc 0 12&&(zeN g.Written 4 8&&(zeN g.Live 4 8&&(zgC g.Ctl&&(zfx g.Pending&&(zp0 g.Exit&&ile (ln g.Seen) 40)))))))
@[simp,reducible] def ztU (g:Guest):Bool:=true
@[simp,reducible] def zmX (g:Guest):Bool:=zfk g
def zn4:List AV->Option (Bool×List AV)
 | [.agg [.s .ins c,.i .i64 d,.i .i64 e,.s .slot f,.s .slot g,.i .i64 h,.i .i64 j,.b k,.i .i64 l,.i .i64 m,.i .i64 n,.b o,.i .i64 p,.b q,.s .int r]]=>some ((ztU (⟨c,d,e,f,g,⟨h,j,k⟩,l,⟨m,n,o,p⟩,q,r⟩:Guest)),[.one (.b (zmX (⟨c,d,e,f,g,⟨h,j,k⟩,l,⟨m,n,o,p⟩,q,r⟩:Guest)))])
 | _=>none
def zsQ (N:Nat)(a0:Guest):Option Ans :=
 (cond (zv3 a0.Prog) (cond (zjj a0.Prog) (cond (zN a0.A 0 99) (cond (zT a0.A 0 99) (cond (zN a0.Pc 0 12) (cond (zT a0.Pc 0 12) (cond (zmA a0.Written 4 8) (cond (zfN a0.Written 4 8) (cond (zmA a0.Live 4 8) (cond (zfN a0.Live 4 8) (cond (zmW a0.Ctl) (cond (zl2 a0.Ctl) (cond (zfZ a0.Pending) (cond (ze9 a0.Pending) (cond (zv0 a0.Exit) (cond (zrt a0.Exit) (some [(.one (.b (ile (ln a0.Seen) 40)))]) (some [(.one (.b false))])) none) (some [(.one (.b false))])) none) (some [(.one (.b false))])) none) (some [(.one (.b false))])) none) (some [(.one (.b false))])) none) (some [(.one (.b false))])) none) (some [(.one (.b false))])) none) (some [(.one (.b false))])) none)
theorem zKj (N:Nat)(a0:Guest):evalFn (cQ zeC zL zF zG) (zB []) N 12 138 [.agg (Ty.cells .guest a0)]=zsQ N a0:=by kernel_rfl
theorem zGQ (a0:Guest)(hb:zD big [.agg (Ty.cells .guest a0)])(hc:(ztU a0)=true):∃N,zsQ N a0=some [.one (.b (zmX a0))]:=by
 refine ⟨0,?_⟩;unfold zsQ;refine must rfl (br (fun _=>must rfl (br (fun _=>must rfl (br (fun _=>must rfl (br (fun _=>must rfl (br (fun _=>must rfl (br (fun _=>must rfl (br (fun _=>must rfl (br (fun _=>?_) (fun _=>?_))) (fun _=>?_))) (fun _=>?_))) (fun _=>?_))) (fun _=>?_))) (fun _=>?_))) (fun _=>?_))) (fun _=>?_))
 all_goals first|rfl|(simp only [*,zmX,zfk,cT,cF]<;>rfl)|simp_all [Ty.cells,zmX,zfk]
theorem zBr:Holds Tryz.prog 138 zn4:=zn zcN zA zq zu (zC (by kernel_rfl)) fun avs rs hb h=>by
 unfold zn4 at h;split at h
 ·obtain ⟨hc,rfl⟩:=zi h;exact (fin1 zGQ zKj hc hb :)
 ·cases h
@[simp,reducible] def ztl (g:Guest):Bool:=true
@[simp,reducible] def zmO (g:Guest):Bool:=zfk g
def znC:List AV->Option (Bool×List AV)
 | [.agg [.s .ins c,.i .i64 d,.i .i64 e,.s .slot f,.s .slot g,.i .i64 h,.i .i64 j,.b k,.i .i64 l,.i .i64 m,.i .i64 n,.b o,.i .i64 p,.b q,.s .int r]]=>some ((ztl (⟨c,d,e,f,g,⟨h,j,k⟩,l,⟨m,n,o,p⟩,q,r⟩:Guest)),[.one (.b (zmO (⟨c,d,e,f,g,⟨h,j,k⟩,l,⟨m,n,o,p⟩,q,r⟩:Guest)))])
 | _=>none
def zsn (N:Nat)(a0:Guest):Option Ans :=
 (cond (zvQ a0.Prog) (cond (ziY a0.Prog) (cond (zQ a0.A 0 99) (cond (zX a0.A 0 99) (cond (zQ a0.Pc 0 12) (cond (zX a0.Pc 0 12) (cond (zmh a0.Written 4 8) (cond (zfH a0.Written 4 8) (cond (zmh a0.Live 4 8) (cond (zfH a0.Live 4 8) (cond (zmN a0.Ctl) (cond (zlf a0.Ctl) (cond (zfR a0.Pending) (cond (zfQ a0.Pending) (cond (zvN a0.Exit) (cond (zqd a0.Exit) (some [(.one (.b (ile (ln a0.Seen) 40)))]) (some [(.one (.b false))])) none) (some [(.one (.b false))])) none) (some [(.one (.b false))])) none) (some [(.one (.b false))])) none) (some [(.one (.b false))])) none) (some [(.one (.b false))])) none) (some [(.one (.b false))])) none) (some [(.one (.b false))])) none)
theorem zJQ (N:Nat)(a0:Guest):evalFn (cQ zeC zL zF zG) (zB []) N 12 205 [.agg (Ty.cells .guest a0)]=zsn N a0:=by kernel_rfl
theorem zGn (a0:Guest)(hb:zD big [.agg (Ty.cells .guest a0)])(hc:(ztl a0)=true):∃N,zsn N a0=some [.one (.b (zmO a0))]:=by
 refine ⟨0,?_⟩;unfold zsn;refine must rfl (br (fun _=>must rfl (br (fun _=>must rfl (br (fun _=>must rfl (br (fun _=>must rfl (br (fun _=>must rfl (br (fun _=>must rfl (br (fun _=>must rfl (br (fun _=>?_) (fun _=>?_))) (fun _=>?_))) (fun _=>?_))) (fun _=>?_))) (fun _=>?_))) (fun _=>?_))) (fun _=>?_))) (fun _=>?_))
 all_goals first|rfl|(simp only [*,zmO,zfk,cT,cF]<;>rfl)|simp_all [Ty.cells,zmO,zfk]
theorem zAZ:Holds Tryz.prog 205 znC:=zn zcN zA zq zu (zC (by kernel_rfl)) fun avs rs hb h=>by
 unfold znC at h;split at h
 ·obtain ⟨hc,rfl⟩:=zi h;exact (fin1 zGn zJQ hc hb :)
 ·cases h
@[simp,reducible] def zli (l:List Guest):Bool:=pc (zpU l)
@[simp,reducible] def zqg (l:List Guest):List Guest:=l
def zjc:List AV->Option (Bool×List AV)
 | [.one (.s .guest b)]=>some ((zli b),[.one (.s .guest (zqg b))])
 | _=>none
def zkY (N:Nat)(a0:List Guest):Option Ans :=
 (iter (σ:=(Int×(Int×((List Guest)×((List Guest)×Unit))))) N (fun r2 s3=>(cond (ilt s3.2.1 s3.1) (cond (inb s3.2.1 (ln s3.2.2.2.1)) (cond (zcw (ix s3.2.2.2.1 s3.2.1 zo)) (cond (few (ln (ap s3.2.2.1 [(zbU (ix s3.2.2.2.1 s3.2.1 zo))]))) (r2 (s3.1,((zy .i64 s3.2.1 1),((ap s3.2.2.1 [(zbU (ix s3.2.2.2.1 s3.2.1 zo))]),(s3.2.2.2.1,()))))) none) none) none) (some [(.one (.s .guest s3.2.2.1))]))) ((ln a0),(0,([],(a0,())))))
def zAc:FuncId->Nat->Option Tmpl:=zB [(128,0,{ n:=20,tm:=[(3,.sl 0 []),(7,.sl 1 []),(8,.i .i64),(9,.i .i64)],lo:=[],ro:=[(0,.guest,true),(1,.guest,false)] })]
theorem zCf (N:Nat)(a0:List Guest):evalFn (cQ zeC zL zF zG) zAc N 12 128 [.one (.s .guest a0)]=zkY N a0:=by kernel_rfl
theorem zzO (a0:List Guest)(hb:zD big [.one (.s .guest a0)])(hc:(zli a0)=true):∃N,zkY N a0=some [.one (.s .guest (zqg a0))]:=by
 have hs:=zI.1 hc;have hl:=zcP hs.1;refine ⟨NN,?_⟩;have hNN:∀{n:Nat},n<=big->n<NN:=fun h=>zb7 h;generalize NN=N at hNN ⊢;unfold zkY;refine (zbI a0 (fun i (t:(List Guest))=>((ln a0),(i:Int),t,a0,())) _ (fun _ x acc κ=>bif zcw x then (cond (few (ln (ap acc [zbU x]))) (κ (ap acc [zbU x])) none) else none) (fun (t:(List Guest))=>(some [(.one (.s .guest t))])) (fun i hi t rec=>?_) (fun t rec=>?_) _ ([]) (hNN hl.1)).trans ?_
 ·simp only [zbr hi,zbn hi,zbx hi,zbt hi hl.1,cT]
 ·simp only [zbe,cF]
 exact ziU zcw zbU _ a0 0 [] (fun x hx=>⟨by exact zbb (hs.2 x hx),rfl⟩) (by simpa using hl.2)
theorem zw3:Holds Tryz.prog 128 zjc:=zn zcN zA zq zu (zC (by kernel_rfl)) fun avs rs hb h=>by
 unfold zjc at h;split at h
 ·obtain ⟨hc,rfl⟩:=zi h;exact (fin1 zzO zCf hc hb :)
 ·cases h
def gAt (b:Bare)(i:Int):Guest:=bif hasB i (ln b.Guests) then ix b.Guests i zo else Ty.dflt .guest
@[simp] theorem zeX {b:Bare}(i:Int)(h:SmB b):SmG (gAt b i):=by
 unfold gAt;cases hh:hasB i (ln b.Guests)
 ·exact zTy
 ·exact zCE h.2.1 hh _
@[simp,reducible] def ztT (b:Bare)(i:Int):Bool:=pc (SmB b)
@[simp,reducible] def zk (b:Bare)(i:Int):Guest:=gAt b i
@[simp,reducible] def ziv (b:Bare)(i:Int):Bool:=hasB i (ln b.Guests)
def zn3:List AV->Option (Bool×List AV)
 | [.agg [.s (.sl .int) c,.s .guest d,.s .int e,.i .i64 f],.one (.i .i64 g)]=>some ((ztT (⟨c,d,e,f⟩:Bare) g),[.agg (Ty.cells .guest (zk (⟨c,d,e,f⟩:Bare) g)),.one (.b (ziv (⟨c,d,e,f⟩:Bare) g))])
 | _=>none
def zsP (N:Nat)(a0:Bare)(a1:Int):Option Ans :=
 (cond (zN a1 0 (wsub .i64 (ln a0.Guests) 1)) (cond (cond (zT a1 0 (wsub .i64 (ln a0.Guests) 1)) false true) (some [(.agg (Ty.cells .guest (⟨[],0,0,[],[],⟨0,0,false⟩,0,⟨0,0,false,0⟩,false,[]⟩:Guest))),(.one (.b false))]) (cond (inb a1 (ln a0.Guests)) (cond (zcn (ix a0.Guests a1 zo)) (some [(.agg (Ty.cells .guest (zbQ (ix a0.Guests a1 zo)))),(.one (.b true))]) none) none)) none)
theorem zKi (N:Nat)(a0:Bare)(a1:Int):evalFn (cQ zeC zL zF zG) (zB []) N 12 79 [.agg (Ty.cells .bare a0),.one (.i .i64 a1)]=zsP N a0 a1:=by kernel_rfl
theorem zGP (a0:Bare)(a1:Int)(hb:zD big [.agg (Ty.cells .bare a0),.one (.i .i64 a1)])(hc:(ztT a0 a1)=true):∃N,zsP N a0 a1=some [.agg (Ty.cells .guest (zk a0 a1)),.one (.b (ziv a0 a1))]:=by
 have hs:=zI.1 hc;have hl:a0.Guests.length<=1048576:=hs.2.1.1;have hx:hasB a1 (ln a0.Guests)=true->SmG (ix a0.Guests a1 zo):=fun h=>zCE hs.2.1 h _
 refine ⟨0,?_⟩;unfold zsP;refine must rfl (brN (fun _=>?_) (fun _=>must (by first|assumption|(simp_all<;>omega)) (must (by first|assumption|(simp_all<;>omega)) ?_)))
 all_goals first|rfl|(simp only [*,zk,ziv,gAt,Ty.dflt,cT,cF]<;>rfl)|simp_all [Ty.cells,zk,ziv,gAt,Ty.dflt]
theorem zBq:Holds Tryz.prog 79 zn3:=zn zcN zA zq zu (zC (by kernel_rfl)) fun avs rs hb h=>by
 unfold zn3 at h;split at h
 ·obtain ⟨hc,rfl⟩:=zi h;exact (fin2 zGP zKi hc hb :)
 ·cases h
@[simp,reducible] def zcm (b:Bare)(i:Int):Bool:=pc (SmB b)
@[simp,reducible] def zh (b:Bare)(i:Int):Guest:=gAt b i
@[simp,reducible] def zcl (b:Bare)(i:Int):Bool:=hasB i (ln b.Guests)
def znB:List AV->Option (Bool×List AV)
 | [.agg [.s (.sl .int) c,.s .guest d,.s .int e,.i .i64 f],.one (.i .i64 g)]=>some ((zcm (⟨c,d,e,f⟩:Bare) g),[.agg (Ty.cells .guest (zh (⟨c,d,e,f⟩:Bare) g)),.one (.b (zcl (⟨c,d,e,f⟩:Bare) g))])
 | _=>none
def zsm (N:Nat)(a0:Bare)(a1:Int):Option Ans :=
 (cond (zcF a1 (ln a0.Guests)) (cond (cond (zda a1 (ln a0.Guests)) false true) (some [(.agg (Ty.cells .guest (⟨[],0,0,[],[],⟨0,0,false⟩,0,⟨0,0,false,0⟩,false,[]⟩:Guest))),(.one (.b false))]) (cond (inb a1 (ln a0.Guests)) (cond (zcw (ix a0.Guests a1 zo)) (some [(.agg (Ty.cells .guest (zbU (ix a0.Guests a1 zo)))),(.one (.b true))]) none) none)) none)
theorem zJP (N:Nat)(a0:Bare)(a1:Int):evalFn (cQ zeC zL zF zG) (zB []) N 12 152 [.agg (Ty.cells .bare a0),.one (.i .i64 a1)]=zsm N a0 a1:=by kernel_rfl
theorem zGm (a0:Bare)(a1:Int)(hb:zD big [.agg (Ty.cells .bare a0),.one (.i .i64 a1)])(hc:(zcm a0 a1)=true):∃N,zsm N a0 a1=some [.agg (Ty.cells .guest (zh a0 a1)),.one (.b (zcl a0 a1))]:=by
 have hs:=zI.1 hc;have hl:a0.Guests.length<=1048576:=hs.2.1.1;have hx:hasB a1 (ln a0.Guests)=true->SmG (ix a0.Guests a1 zo):=fun h=>zCE hs.2.1 h _
 refine ⟨0,?_⟩;unfold zsm;refine must rfl (brN (fun _=>?_) (fun _=>must (by first|assumption|(simp_all<;>omega)) (must (by first|assumption|(simp_all<;>omega)) ?_)))
 all_goals first|rfl|(simp only [*,zh,zcl,gAt,Ty.dflt,cT,cF]<;>rfl)|simp_all [Ty.cells,zh,zcl,gAt,Ty.dflt]
theorem zAY:Holds Tryz.prog 152 znB:=zn zcN zA zq zu (zC (by kernel_rfl)) fun avs rs hb h=>by
 unfold znB at h;split at h
 ·obtain ⟨hc,rfl⟩:=zi h;exact (fin2 zGm zJP hc hb :)
 ·cases h
def zjJ:zbu:=[(82,zhX),(158,zhW),(80,zrj),(153,zqO),(103,zvX),(176,zvW),(92,zrh),(167,zqM),(93,zq6),(168,zqC),(173,znN),(138,zn4),(205,znC),(128,zjc),(79,zn3),(152,znB)]++zeC
theorem ze1:zbE zjJ:=zl zwh (zl zwg (zl zDR (zl zDn (zl zIL (zl zIK (zl zDP (zl zDl (zl zDF (zl zDb (zl zBa (zl zBr (zl zAZ (zl zw3 (zl zBq (zl zAY zcN)))))))))))))))
def plainly (g:Guest):Guest:=bif ine (zbS g) 2 then g else (cond (win g.A 0 99) (cond (win (zcA g.Prog g.Pc).X 0 99) (cond (ieq (zcA g.Prog g.Pc).Op 1) { zbB g with A:=(zcA g.Prog g.Pc).X } (cond (ieq (zcA g.Prog g.Pc).Op 2) { zbB g with A:=zdD (zy .i64 g.A (zcA g.Prog g.Pc).X) 100 } (cond (ieq (zcA g.Prog g.Pc).Op 8) (cond (ieq g.A 0) { zbB g with Pc:=(zcA g.Prog g.Pc).X } (zbB g)) (zbB g)))) (zbB g)) (zbB g))
@[simp] theorem zTr (g:Guest):(zbB g).Prog=g.Prog:=by
 unfold zbB;cases ige g.Pc 12<;>rfl
@[simp] theorem zTM (g:Guest):(zbB g).A=g.A:=by
 unfold zbB;cases ige g.Pc 12<;>rfl
@[simp] theorem zSs (g:Guest):(zbB g).Written=g.Written:=by
 unfold zbB;cases ige g.Pc 12<;>rfl
@[simp] theorem zTq (g:Guest):(zbB g).Live=g.Live:=by
 unfold zbB;cases ige g.Pc 12<;>rfl
@[simp] theorem zTD (g:Guest):(zbB g).Ctl=g.Ctl:=by
 unfold zbB;cases ige g.Pc 12<;>rfl
@[simp] theorem zSr (g:Guest):(zbB g).Pending=g.Pending:=by
 unfold zbB;cases ige g.Pc 12<;>rfl
@[simp] theorem zTp (g:Guest):(zbB g).Exit=g.Exit:=by
 unfold zbB;cases ige g.Pc 12<;>rfl
@[simp] theorem zSW (g:Guest):(zbB g).Halted=g.Halted:=by
 unfold zbB;cases ige g.Pc 12<;>rfl
@[simp] theorem zTs (g:Guest):(zbB g).Seen=g.Seen:=by
 unfold zbB;cases ige g.Pc 12<;>rfl
@[simp] theorem zTE (g:Guest)(x:Int):(zbB { g with A:=x }).Pc=(zbB g).Pc:=by
 unfold zbB;cases ige g.Pc 12<;>rfl
@[simp] theorem zMH {g:Guest}(h:SmG g):SmG (plainly g):=by
 have hm:=zhg h;unfold plainly;cases ine (zbS g) 2
 ·cases win g.A 0 99
  ·exact hm
  ·cases win (zcA g.Prog g.Pc).X 0 99
   ·exact hm
   ·cases ieq (zcA g.Prog g.Pc).Op 1
    ·cases ieq (zcA g.Prog g.Pc).Op 2
     ·cases ieq (zcA g.Prog g.Pc).Op 8
      ·exact hm
      ·cases ieq g.A 0<;>exact hm
     ·exact hm
    ·exact hm
 ·exact h
@[simp,reducible] def ztn (g:Guest):Bool:=pc (SmG g)
@[simp,reducible] def zjv (g:Guest):Guest:=plainly g
def znG:List AV->Option (Bool×List AV)
 | [.agg [.s .ins c,.i .i64 d,.i .i64 e,.s .slot f,.s .slot g,.i .i64 h,.i .i64 j,.b k,.i .i64 l,.i .i64 m,.i .i64 n,.b o,.i .i64 p,.b q,.s .int r]]=>some ((ztn (⟨c,d,e,f,g,⟨h,j,k⟩,l,⟨m,n,o,p⟩,q,r⟩:Guest)),[.agg (Ty.cells .guest (zjv (⟨c,d,e,f,g,⟨h,j,k⟩,l,⟨m,n,o,p⟩,q,r⟩:Guest)))])
 | _=>none
def zsr (N:Nat)(a0:Guest):Option Ans :=
 (cond (zj4 a0) (cond (ine (zW a0) 2) (cond (zcw a0) (some [(.agg (Ty.cells .guest (zbU a0)))]) none) (cond (zfG a0.Prog a0.Pc) (cond (zdo a0) (cond (zQ a0.A 0 99) (cond (cond (zX a0.A 0 99) false true) (some [(.agg (Ty.cells .guest (zcg a0)))]) (cond (zQ (zbK a0.Prog a0.Pc).X 0 99) (cond (cond (zX (zbK a0.Prog a0.Pc).X 0 99) false true) (some [(.agg (Ty.cells .guest (zcg a0)))]) (cond (ieq (zbK a0.Prog a0.Pc).Op 1) (some [(.agg (Ty.cells .guest ({ (zcg a0) with A:=(zbK a0.Prog a0.Pc).X }:Guest)))]) (cond (ieq (zbK a0.Prog a0.Pc).Op 2) (cond (ine 100 0) (some [(.agg (Ty.cells .guest ({ (zcg a0) with A:=(zdD (zy .i64 a0.A (zbK a0.Prog a0.Pc).X) 100) }:Guest)))]) none) (cond (ieq (zbK a0.Prog a0.Pc).Op 8) (cond (ieq a0.A 0) (some [(.agg (Ty.cells .guest ({ (zcg a0) with Pc:=(zbK a0.Prog a0.Pc).X }:Guest)))]) (some [(.agg (Ty.cells .guest (zcg a0)))])) (some [(.agg (Ty.cells .guest (zcg a0)))]))))) none)) none) none) none)) none)
theorem zJU (N:Nat)(a0:Guest):evalFn (cQ zjJ zL zF zG) (zB []) N 12 159 [.agg (Ty.cells .guest a0)]=zsr N a0:=by kernel_rfl
theorem zGr (a0:Guest)(hb:zD big [.agg (Ty.cells .guest a0)])(hc:(ztn a0)=true):∃N,zsr N a0=some [.agg (Ty.cells .guest (zjv a0))]:=by
 have hs:=zI.1 hc;refine ⟨0,?_⟩;unfold zsr;refine must rfl (br (fun _=>must (by first|assumption|(simp_all<;>omega)) ?_) (fun _=>must rfl (must (by first|assumption|(simp_all<;>omega)) (must rfl (brN (fun _=>?_) (fun _=>must rfl (brN (fun _=>?_) (fun _=>br (fun _=>?_) (fun _=>br (fun _=>must rfl ?_) (fun _=>br (fun _=>br (fun _=>?_) (fun _=>?_)) (fun _=>?_)))))))))))
 all_goals first|rfl|(simp only [*,zjv,plainly,cT,cF]<;>rfl)|simp_all [Ty.cells,zjv,plainly]
theorem zA3:Holds Tryz.prog 159 znG:=zn ze1 zA zq zu (zC (by kernel_rfl)) fun avs rs hb h=>by
 unfold znG at h;split at h
 ·obtain ⟨hc,rfl⟩:=zi h;exact (fin1 zGr zJU hc hb :)
 ·cases h
@[simp,reducible] def ztX (g:Guest):Bool:=pc (SmG g)
@[simp,reducible] def zmZ (g:Guest):Guest:=plainly g
def zn8:List AV->Option (Bool×List AV)
 | [.agg [.s .ins c,.i .i64 d,.i .i64 e,.s .slot f,.s .slot g,.i .i64 h,.i .i64 j,.b k,.i .i64 l,.i .i64 m,.i .i64 n,.b o,.i .i64 p,.b q,.s .int r]]=>some ((ztX (⟨c,d,e,f,g,⟨h,j,k⟩,l,⟨m,n,o,p⟩,q,r⟩:Guest)),[.agg (Ty.cells .guest (zmZ (⟨c,d,e,f,g,⟨h,j,k⟩,l,⟨m,n,o,p⟩,q,r⟩:Guest)))])
 | _=>none
def zsV (N:Nat)(a0:Guest):Option Ans :=
 (cond (zkP a0) (cond (ine (zbd a0) 2) (cond (zcn a0) (some [(.agg (Ty.cells .guest (zbQ a0)))]) none) (cond (zeU a0.Prog a0.Pc) (cond (zN a0.A 0 99) (cond (zT a0.A 0 99) (cond (zN (zbm a0.Prog a0.Pc).X 0 99) (cond (zT (zbm a0.Prog a0.Pc).X 0 99) (cond (ieq (zbm a0.Prog a0.Pc).Op 1) (cond (zbL ({ a0 with A:=(zbm a0.Prog a0.Pc).X }:Guest)) (some [(.agg (Ty.cells .guest (zb1 ({ a0 with A:=(zbm a0.Prog a0.Pc).X }:Guest))))]) none) (cond (zT (zbm a0.Prog a0.Pc).X 0 99) (cond (ieq (zbm a0.Prog a0.Pc).Op 2) (cond (ine 100 0) (cond (zbL ({ a0 with A:=(zdD (zy .i64 a0.A (zbm a0.Prog a0.Pc).X) 100) }:Guest)) (some [(.agg (Ty.cells .guest (zb1 ({ a0 with A:=(zdD (zy .i64 a0.A (zbm a0.Prog a0.Pc).X) 100) }:Guest))))]) none) none) (cond (zT (zbm a0.Prog a0.Pc).X 0 99) (cond (ieq (zbm a0.Prog a0.Pc).Op 8) (cond (ieq a0.A 0) (cond (zcn a0) (some [(.agg (Ty.cells .guest ({ (zbQ a0) with Pc:=(zbm a0.Prog a0.Pc).X }:Guest)))]) none) (cond (zbL a0) (some [(.agg (Ty.cells .guest (zb1 a0)))]) none)) (cond (zbL a0) (some [(.agg (Ty.cells .guest (zb1 a0)))]) none)) (cond (zbL a0) (some [(.agg (Ty.cells .guest (zb1 a0)))]) none))) (cond (zT (zbm a0.Prog a0.Pc).X 0 99) (cond (ieq (zbm a0.Prog a0.Pc).Op 8) (cond (ieq a0.A 0) (cond (zcn a0) (some [(.agg (Ty.cells .guest ({ (zbQ a0) with Pc:=(zbm a0.Prog a0.Pc).X }:Guest)))]) none) (cond (zbL a0) (some [(.agg (Ty.cells .guest (zb1 a0)))]) none)) (cond (zbL a0) (some [(.agg (Ty.cells .guest (zb1 a0)))]) none)) (cond (zbL a0) (some [(.agg (Ty.cells .guest (zb1 a0)))]) none)))) (cond (zT (zbm a0.Prog a0.Pc).X 0 99) (cond (ieq (zbm a0.Prog a0.Pc).Op 2) (cond (ine 100 0) (cond (zbL ({ a0 with A:=(zdD (zy .i64 a0.A (zbm a0.Prog a0.Pc).X) 100) }:Guest)) (some [(.agg (Ty.cells .guest (zb1 ({ a0 with A:=(zdD (zy .i64 a0.A (zbm a0.Prog a0.Pc).X) 100) }:Guest))))]) none) none) (cond (zT (zbm a0.Prog a0.Pc).X 0 99) (cond (ieq (zbm a0.Prog a0.Pc).Op 8) (cond (ieq a0.A 0) (cond (zcn a0) (some [(.agg (Ty.cells .guest ({ (zbQ a0) with Pc:=(zbm a0.Prog a0.Pc).X }:Guest)))]) none) (cond (zbL a0) (some [(.agg (Ty.cells .guest (zb1 a0)))]) none)) (cond (zbL a0) (some [(.agg (Ty.cells .guest (zb1 a0)))]) none)) (cond (zbL a0) (some [(.agg (Ty.cells .guest (zb1 a0)))]) none))) (cond (zT (zbm a0.Prog a0.Pc).X 0 99) (cond (ieq (zbm a0.Prog a0.Pc).Op 8) (cond (ieq a0.A 0) (cond (zcn a0) (some [(.agg (Ty.cells .guest ({ (zbQ a0) with Pc:=(zbm a0.Prog a0.Pc).X }:Guest)))]) none) (cond (zbL a0) (some [(.agg (Ty.cells .guest (zb1 a0)))]) none)) (cond (zbL a0) (some [(.agg (Ty.cells .guest (zb1 a0)))]) none)) (cond (zbL a0) (some [(.agg (Ty.cells .guest (zb1 a0)))]) none)))) none) (cond (zbL a0) (some [(.agg (Ty.cells .guest (zb1 a0)))]) none)) none) none)) none)
theorem zKn (N:Nat)(a0:Guest):evalFn (cQ zjJ zL zF zG) (zB []) N 12 83 [.agg (Ty.cells .guest a0)]=zsV N a0:=by kernel_rfl
theorem zGU (a0:Guest)(hb:zD big [.agg (Ty.cells .guest a0)])(hc:(ztX a0)=true):∃N,zsV N a0=some [.agg (Ty.cells .guest (zmZ a0))]:=by
 have hs:=zI.1 hc;have hz:_/\_/\_/\_:=hs
 refine ⟨0,?_⟩;unfold zsV;refine must rfl (br (fun _=>must (by first|assumption|(simp_all<;>omega)) ?_) (fun _=>must rfl (must rfl (br (fun _=>must rfl (br (fun _=>br (fun _=>must (by first|assumption|(simp_all<;>omega)) ?_) (fun _=>br (fun _=>br (fun _=>must rfl (must (by first|assumption|(simp_all<;>omega)) ?_)) (fun _=>br (fun _=>br (fun _=>br (fun _=>must (by first|assumption|(simp_all<;>omega)) ?_) (fun _=>must (by first|assumption|(simp_all<;>omega)) ?_)) (fun _=>must (by first|assumption|(simp_all<;>omega)) ?_)) (fun _=>must (by first|assumption|(simp_all<;>omega)) ?_))) (fun _=>br (fun _=>br (fun _=>br (fun _=>must (by first|assumption|(simp_all<;>omega)) ?_) (fun _=>must (by first|assumption|(simp_all<;>omega)) ?_)) (fun _=>must (by first|assumption|(simp_all<;>omega)) ?_)) (fun _=>must (by first|assumption|(simp_all<;>omega)) ?_)))) (fun _=>br (fun _=>br (fun _=>must rfl (must (by first|assumption|(simp_all<;>omega)) ?_)) (fun _=>br (fun _=>br (fun _=>br (fun _=>must (by first|assumption|(simp_all<;>omega)) ?_) (fun _=>must (by first|assumption|(simp_all<;>omega)) ?_)) (fun _=>must (by first|assumption|(simp_all<;>omega)) ?_)) (fun _=>must (by first|assumption|(simp_all<;>omega)) ?_))) (fun _=>br (fun _=>br (fun _=>br (fun _=>must (by first|assumption|(simp_all<;>omega)) ?_) (fun _=>must (by first|assumption|(simp_all<;>omega)) ?_)) (fun _=>must (by first|assumption|(simp_all<;>omega)) ?_)) (fun _=>must (by first|assumption|(simp_all<;>omega)) ?_))))) (fun _=>must (by first|assumption|(simp_all<;>omega)) ?_)))))
 all_goals first|rfl|(simp only [*,zmZ,plainly,cT,cF]<;>rfl)|simp_all [Ty.cells,zmZ,plainly]
theorem zBv:Holds Tryz.prog 83 zn8:=zn ze1 zA zq zu (zC (by kernel_rfl)) fun avs rs hb h=>by
 unfold zn8 at h;split at h
 ·obtain ⟨hc,rfl⟩:=zi h;exact (fin1 zGU zKn hc hb :)
 ·cases h
def address (g:Guest):Int:=bif ine (zbS g) 3 then (cond (ine (zbS g) 4) (-1) ((zcA g.Prog g.Pc).X)) else (zcA g.Prog g.Pc).X
@[simp,reducible] def zmx (g:Guest):Bool:=true
@[simp,reducible] def zbi (g:Guest):Int:=address g
def znW:List AV->Option (Bool×List AV)
 | [.agg [.s .ins c,.i .i64 d,.i .i64 e,.s .slot f,.s .slot g,.i .i64 h,.i .i64 j,.b k,.i .i64 l,.i .i64 m,.i .i64 n,.b o,.i .i64 p,.b q,.s .int r]]=>some ((zmx (⟨c,d,e,f,g,⟨h,j,k⟩,l,⟨m,n,o,p⟩,q,r⟩:Guest)),[.one (.i .i64 (zbi (⟨c,d,e,f,g,⟨h,j,k⟩,l,⟨m,n,o,p⟩,q,r⟩:Guest)))])
 | _=>none
def zsH (N:Nat)(a0:Guest):Option Ans :=
 (cond (zkP a0) (cond (ine (zbd a0) 3) (cond (ine (zbd a0) 4) (some [(.one (.i .i64 (-1)))]) (cond (zeU a0.Prog a0.Pc) (some [(.one (.i .i64 (zbm a0.Prog a0.Pc).X))]) none)) (cond (zeU a0.Prog a0.Pc) (some [(.one (.i .i64 (zbm a0.Prog a0.Pc).X))]) none)) none)
theorem zKa (N:Nat)(a0:Guest):evalFn (cQ zjJ zL zF zG) (zB []) N 12 84 [.agg (Ty.cells .guest a0)]=zsH N a0:=by kernel_rfl
theorem zGH (a0:Guest)(hb:zD big [.agg (Ty.cells .guest a0)])(hc:(zmx a0)=true):∃N,zsH N a0=some [.one (.i .i64 (zbi a0))]:=by
 refine ⟨0,?_⟩;unfold zsH;refine must rfl (br (fun _=>br (fun _=>?_) (fun _=>must rfl ?_)) (fun _=>must rfl ?_))
 all_goals first|rfl|(simp only [*,zbi,address,cT,cF]<;>rfl)|simp_all [Ty.cells,zbi,address]
theorem zBj:Holds Tryz.prog 84 znW:=zn ze1 zA zq zu (zC (by kernel_rfl)) fun avs rs hb h=>by
 unfold znW at h;split at h
 ·obtain ⟨hc,rfl⟩:=zi h;exact (fin1 zGH zKa hc hb :)
 ·cases h
@[simp,reducible] def zte (g:Guest):Bool:=true
@[simp,reducible] def zY (g:Guest):Int:=address g
def znu:List AV->Option (Bool×List AV)
 | [.agg [.s .ins c,.i .i64 d,.i .i64 e,.s .slot f,.s .slot g,.i .i64 h,.i .i64 j,.b k,.i .i64 l,.i .i64 m,.i .i64 n,.b o,.i .i64 p,.b q,.s .int r]]=>some ((zte (⟨c,d,e,f,g,⟨h,j,k⟩,l,⟨m,n,o,p⟩,q,r⟩:Guest)),[.one (.i .i64 (zY (⟨c,d,e,f,g,⟨h,j,k⟩,l,⟨m,n,o,p⟩,q,r⟩:Guest)))])
 | _=>none
def zsf (N:Nat)(a0:Guest):Option Ans :=
 (cond (zj4 a0) (cond (ine (zW a0) 3) (cond (ine (zW a0) 4) (some [(.one (.i .i64 (-1)))]) (cond (zfG a0.Prog a0.Pc) (some [(.one (.i .i64 (zbK a0.Prog a0.Pc).X))]) none)) (cond (zfG a0.Prog a0.Pc) (some [(.one (.i .i64 (zbK a0.Prog a0.Pc).X))]) none)) none)
theorem zJI (N:Nat)(a0:Guest):evalFn (cQ zjJ zL zF zG) (zB []) N 12 155 [.agg (Ty.cells .guest a0)]=zsf N a0:=by kernel_rfl
theorem zGf (a0:Guest)(hb:zD big [.agg (Ty.cells .guest a0)])(hc:(zte a0)=true):∃N,zsf N a0=some [.one (.i .i64 (zY a0))]:=by
 refine ⟨0,?_⟩;unfold zsf;refine must rfl (br (fun _=>br (fun _=>?_) (fun _=>must rfl ?_)) (fun _=>must rfl ?_))
 all_goals first|rfl|(simp only [*,zY,address,cT,cF]<;>rfl)|simp_all [Ty.cells,zY,address]
theorem zAR:Holds Tryz.prog 155 znu:=zn ze1 zA zq zu (zC (by kernel_rfl)) fun avs rs hb h=>by
 unfold znu at h;split at h
 ·obtain ⟨hc,rfl⟩:=zi h;exact (fin1 zGf zJI hc hb :)
 ·cases h
def zff (g:Guest)(t w:Int):Guest:=bif ieq w 6 then stopped g (zvv (zcA g.Prog g.Pc).X) else (cond (ieq w 5&&zc8 t 1) (stopped g (zxW (zcA g.Prog g.Pc).X)) (cond (ieq w 7&&zc8 t 2) (stopped g ⟨4,0,false,0⟩) (cond (ieq w 7) (held g) (zbB g))))
def ziT (t w:Int):Bool:=bif ieq w 6 then false else (cond (ieq w 5&&zc8 t 1) false (cond (ieq w 7&&zc8 t 2) false true))
@[simp] theorem zFL {g:Guest}(t w:Int)(h:SmG g):SmG (zff g t w):=by
 unfold zff;cases ieq w 6
 ·cases (ieq w 5&&zc8 t 1)
  ·cases (ieq w 7&&zc8 t 2)
   ·cases ieq w 7
    ·exact zhg h
    ·exact zKG h
   ·exact h
  ·exact h
 ·exact h
@[simp,reducible] def zmD (g:Guest)(t w:Int):Bool:=pc (SmG g)
@[simp,reducible] def zde (g:Guest)(t w:Int):Guest:=zff g t w
@[simp,reducible] def zgv (g:Guest)(t w:Int):Bool:=ziT t w
def zog:List AV->Option (Bool×List AV)
 | [.agg [.s .ins c,.i .i64 d,.i .i64 e,.s .slot f,.s .slot g,.i .i64 h,.i .i64 j,.b k,.i .i64 l,.i .i64 m,.i .i64 n,.b o,.i .i64 p,.b q,.s .int r],.one (.i .i64 t),.one (.i .i64 u)]=>some ((zmD (⟨c,d,e,f,g,⟨h,j,k⟩,l,⟨m,n,o,p⟩,q,r⟩:Guest) t u),[.agg (Ty.cells .guest (zde (⟨c,d,e,f,g,⟨h,j,k⟩,l,⟨m,n,o,p⟩,q,r⟩:Guest) t u)),.one (.b (zgv (⟨c,d,e,f,g,⟨h,j,k⟩,l,⟨m,n,o,p⟩,q,r⟩:Guest) t u))])
 | _=>none
def zs6 (N:Nat)(a0:Guest)(a1 a2:Int):Option Ans :=
 (cond (zeU a0.Prog a0.Pc) (cond (ieq a2 6) (cond (zrq (zbm a0.Prog a0.Pc).X) (cond (zcR a0 (zhH (zbm a0.Prog a0.Pc).X)) (some [(.agg (Ty.cells .guest (zcB a0 (zhH (zbm a0.Prog a0.Pc).X)))),(.one (.b false))]) none) none) (cond (ieq a2 5) (cond (ziw a1 1) (cond (zhe a1 1) (cond (ztW (zbm a0.Prog a0.Pc).X) (cond (zcR a0 (zjB (zbm a0.Prog a0.Pc).X)) (some [(.agg (Ty.cells .guest (zcB a0 (zjB (zbm a0.Prog a0.Pc).X)))),(.one (.b false))]) none) none) (cond (ieq a2 7) (cond (ziw a1 2) (cond (zhe a1 2) (cond (zcR a0 (⟨4,0,false,0⟩:GExit)) (some [(.agg (Ty.cells .guest (zcB a0 (⟨4,0,false,0⟩:GExit)))),(.one (.b false))]) none) (cond (ieq a2 7) (cond (zjh a0) (some [(.agg (Ty.cells .guest (zkK a0))),(.one (.b true))]) none) (cond (zbL a0) (some [(.agg (Ty.cells .guest (zb1 a0))),(.one (.b true))]) none))) none) (cond (ieq a2 7) (cond (zjh a0) (some [(.agg (Ty.cells .guest (zkK a0))),(.one (.b true))]) none) (cond (zbL a0) (some [(.agg (Ty.cells .guest (zb1 a0))),(.one (.b true))]) none)))) none) (cond (ieq a2 7) (cond (ziw a1 2) (cond (zhe a1 2) (cond (zcR a0 (⟨4,0,false,0⟩:GExit)) (some [(.agg (Ty.cells .guest (zcB a0 (⟨4,0,false,0⟩:GExit)))),(.one (.b false))]) none) (cond (ieq a2 7) (cond (zjh a0) (some [(.agg (Ty.cells .guest (zkK a0))),(.one (.b true))]) none) (cond (zbL a0) (some [(.agg (Ty.cells .guest (zb1 a0))),(.one (.b true))]) none))) none) (cond (ieq a2 7) (cond (zjh a0) (some [(.agg (Ty.cells .guest (zkK a0))),(.one (.b true))]) none) (cond (zbL a0) (some [(.agg (Ty.cells .guest (zb1 a0))),(.one (.b true))]) none))))) none)
theorem zKv (N:Nat)(a0:Guest)(a1 a2:Int):evalFn (cQ zjJ zL zF zG) (zB []) N 12 95 [.agg (Ty.cells .guest a0),.one (.i .i64 a1),.one (.i .i64 a2)]=zs6 N a0 a1 a2:=by kernel_rfl
theorem zG2 (a0:Guest)(a1 a2:Int)(hb:zD big [.agg (Ty.cells .guest a0),.one (.i .i64 a1),.one (.i .i64 a2)])(hc:(zmD a0 a1 a2)=true):∃N,zs6 N a0 a1 a2=some [.agg (Ty.cells .guest (zde a0 a1 a2)),.one (.b (zgv a0 a1 a2))]:=by
 have hs:=zI.1 hc;refine ⟨0,?_⟩;unfold zs6;refine must rfl (br (fun _=>must rfl (must (by first|assumption|(simp_all<;>omega)) ?_)) (fun _=>br (fun _=>must rfl (br (fun _=>must rfl (must (by first|assumption|(simp_all<;>omega)) ?_)) (fun _=>br (fun _=>must rfl (br (fun _=>must (by first|assumption|(simp_all<;>omega)) ?_) (fun _=>br (fun _=>must (by first|assumption|(simp_all<;>omega)) ?_) (fun _=>must (by first|assumption|(simp_all<;>omega)) ?_)))) (fun _=>br (fun _=>must (by first|assumption|(simp_all<;>omega)) ?_) (fun _=>must (by first|assumption|(simp_all<;>omega)) ?_))))) (fun _=>br (fun _=>must rfl (br (fun _=>must (by first|assumption|(simp_all<;>omega)) ?_) (fun _=>br (fun _=>must (by first|assumption|(simp_all<;>omega)) ?_) (fun _=>must (by first|assumption|(simp_all<;>omega)) ?_)))) (fun _=>br (fun _=>must (by first|assumption|(simp_all<;>omega)) ?_) (fun _=>must (by first|assumption|(simp_all<;>omega)) ?_)))))
 all_goals first|rfl|(simp only [*,zde,zgv,zff,ziT,cT,cF]<;>rfl)|simp_all [Ty.cells,zde,zgv,zff,ziT]
theorem zBD:Holds Tryz.prog 95 zog:=zn ze1 zA zq zu (zC (by kernel_rfl)) fun avs rs hb h=>by
 unfold zog at h;split at h
 ·obtain ⟨hc,rfl⟩:=zi h;exact (zd1 zG2 zKv hc hb :)
 ·cases h
def zbO (b:Bare):Bool:=bif b.Guests.all zfk then (zkf b.Memory 8&&(win (ln b.Guests) 1 2&&(ile (ln b.Outs) 40&&zfx b.Pending))) else false
@[simp,reducible] def zfW (b:Bare):Bool:=true
@[simp,reducible] def zcO (b:Bare):Bool:=zbO b
def zq1:List AV->Option (Bool×List AV)
 | [.agg [.s (.sl .int) c,.s .guest d,.s .int e,.i .i64 f]]=>some ((zfW (⟨c,d,e,f⟩:Bare)),[.one (.b (zcO (⟨c,d,e,f⟩:Bare)))])
 | _=>none
def zvb (N:Nat)(a0:Bare):Option Ans :=
 (iter (σ:=(Int×(Int×((List (List Int))×((List Guest)×((List Int)×Unit)))))) N (fun r2 s3=>(cond (ilt s3.1 (ln s3.2.2.2.1)) (cond (inb s3.1 (ln s3.2.2.2.1)) (cond (ztU (ix s3.2.2.2.1 s3.1 zo)) (cond (cond (zmX (ix s3.2.2.2.1 s3.1 zo)) false true) (some [(.one (.b false))]) (r2 ((zy .i64 s3.1 1),(s3.2.1,(s3.2.2.1,(s3.2.2.2.1,(s3.2.2.2.2.1,()))))))) none) none) (cond (zr7 s3.2.2.1 8) (cond (zjA s3.2.2.1 8) (cond (zN (ln s3.2.2.2.1) 1 2) (cond (zT (ln s3.2.2.2.1) 1 2) (cond (ile (ln s3.2.2.2.2.1) 40) (cond (zfZ s3.2.1) (some [(.one (.b (ze9 s3.2.1)))]) none) (some [(.one (.b false))])) (some [(.one (.b false))])) none) (some [(.one (.b false))])) none))) (0,(a0.Pending,(a0.Memory,(a0.Guests,(a0.Outs,()))))))
def zKX:FuncId->Nat->Option Tmpl:=zB [(81,0,{ n:=38,tm:=[(1,.lp 0 0),(3,.i .i64)],lo:=[(0,[.sl 0 [],.sl 1 [],.sl 2 [],.i .i64])],ro:=[(0,(.sl .int),false),(1,.guest,false),(2,.int,false)] })]
theorem zMf (N:Nat)(a0:Bare):evalFn (cQ zjJ zL zF zG) zKX N 12 81 [.agg (Ty.cells .bare a0)]=zvb N a0:=by kernel_rfl
theorem zJl (a0:Bare)(hb:zD big [.agg (Ty.cells .bare a0)])(hc:(zfW a0)=true):∃N,zvb N a0=some [.one (.b (zcO a0))]:=by
 have hl:(_:List _).length<=big:=((zbw hb).1 (.s .guest a0.Guests) (by simp [AV.cvs,Ty.cells])).len
 refine ⟨NN,?_⟩;have hNN:∀{n:Nat},n<=big->n<NN:=fun h=>zb7 h;generalize NN=N at hNN ⊢;unfold zvb;refine (zbI a0.Guests (fun i (t:Unit)=>((i:Int),a0.Pending,a0.Memory,a0.Guests,a0.Outs,())) _ (fun _ x (_:Unit) κ=>bif (zfk) x then κ () else some [AV.one (.b false)]) (fun (t:Unit)=>(cond (zr7 a0.Memory 8) (cond (zjA a0.Memory 8) (cond (zN (ln a0.Guests) 1 2) (cond (zT (ln a0.Guests) 1 2) (cond (ile (ln a0.Outs) 40) (cond (zfZ a0.Pending) (some [(.one (.b (ze9 a0.Pending)))]) none) (some [(.one (.b false))])) (some [(.one (.b false))])) none) (some [(.one (.b false))])) none)) (fun i hi t rec=>?_) (fun t rec=>?_) _ () (hNN hl)).trans ?_
 ·simp only [zbr hi,zbn hi,zbx hi,zbt hi hl,cT];exact ze0 rfl
 ·simp only [zbe,cF]
 rw [zfj (zfk)];refine br (fun h0=>?_) (fun h0=>?_)
 ·refine must rfl ?_;refine br (fun h1=>?_) (fun h1=>?_)
  ·refine must rfl ?_;refine br (fun h2=>?_) (fun h2=>?_)
   ·refine br (fun h3=>?_) (fun h3=>?_)
    ·refine must rfl ?_
     first|rfl|(simp only [h0,h1,h2,h3,zcO,zbO,cT,cF]<;>rfl)|(simp_all [Ty.cells,zcO,zbO];done)
    ·first|rfl|(simp only [h0,h1,h2,h3,zcO,zbO,cT,cF]<;>rfl)|(simp_all [Ty.cells,zcO,zbO];done)
   ·first|rfl|(simp only [h0,h1,h2,zcO,zbO,cT,cF]<;>rfl)|(simp_all [Ty.cells,zcO,zbO];done)
  ·first|rfl|(simp only [h0,h1,zcO,zbO,cT,cF]<;>rfl)|(simp_all [Ty.cells,zcO,zbO];done)
 ·first|rfl|(simp only [h0,zcO,zbO,cT,cF]<;>rfl)|(simp_all [Ty.cells,zcO,zbO];done)
theorem zDA:Holds Tryz.prog 81 zq1:=zn ze1 zA zq zu (zC (by kernel_rfl)) fun avs rs hb h=>by
 unfold zq1 at h;split at h
 ·obtain ⟨hc,rfl⟩:=zi h;exact (fin1 zJl zMf hc hb :)
 ·cases h
@[simp,reducible] def zcp (b:Bare):Bool:=true
@[simp,reducible] def zbW (b:Bare):Bool:=zbO b
def zqw:List AV->Option (Bool×List AV)
 | [.agg [.s (.sl .int) c,.s .guest d,.s .int e,.i .i64 f]]=>some ((zcp (⟨c,d,e,f⟩:Bare)),[.one (.b (zbW (⟨c,d,e,f⟩:Bare)))])
 | _=>none
def zuG (N:Nat)(a0:Bare):Option Ans :=
 (iter (σ:=(Int×(Int×(Int×((List Guest)×((List (List Int))×((List Int)×Unit))))))) N (fun r2 s3=>(cond (ilt s3.2.1 s3.1) (cond (inb s3.2.1 (ln s3.2.2.2.1)) (cond (ztl (ix s3.2.2.2.1 s3.2.1 zo)) (cond (cond (zmO (ix s3.2.2.2.1 s3.2.1 zo)) false true) (some [(.one (.b false))]) (r2 (s3.1,((zy .i64 s3.2.1 1),(s3.2.2.1,(s3.2.2.2.1,(s3.2.2.2.2.1,(s3.2.2.2.2.2.1,())))))))) none) none) (cond (zrU s3.2.2.2.2.1 8) (cond (zjt s3.2.2.2.2.1 8) (cond (zQ (ln s3.2.2.2.1) 1 2) (cond (zX (ln s3.2.2.2.1) 1 2) (cond (ile (ln s3.2.2.2.2.2.1) 40) (cond (zfR s3.2.2.1) (some [(.one (.b (zfQ s3.2.2.1)))]) none) (some [(.one (.b false))])) (some [(.one (.b false))])) none) (some [(.one (.b false))])) none))) ((ln a0.Guests),(0,(a0.Pending,(a0.Guests,(a0.Memory,(a0.Outs,())))))))
def zKO:FuncId->Nat->Option Tmpl:=zB [(154,0,{ n:=36,tm:=[(1,.lp 0 0),(6,.sl 0 []),(7,.i .i64),(8,.i .i64)],lo:=[(0,[.sl 1 [],.sl 0 [],.sl 2 [],.i .i64])],ro:=[(0,.guest,false),(1,(.sl .int),false),(2,.int,false)] })]
theorem zLJ (N:Nat)(a0:Bare):evalFn (cQ zjJ zL zF zG) zKO N 12 154 [.agg (Ty.cells .bare a0)]=zuG N a0:=by kernel_rfl
theorem zIP (a0:Bare)(hb:zD big [.agg (Ty.cells .bare a0)])(hc:(zcp a0)=true):∃N,zuG N a0=some [.one (.b (zbW a0))]:=by
 have hl:(_:List _).length<=big:=((zbw hb).1 (.s .guest a0.Guests) (by simp [AV.cvs,Ty.cells])).len
 refine ⟨NN,?_⟩;have hNN:∀{n:Nat},n<=big->n<NN:=fun h=>zb7 h;generalize NN=N at hNN ⊢;unfold zuG;refine (zbI a0.Guests (fun i (t:Unit)=>((ln a0.Guests),(i:Int),a0.Pending,a0.Guests,a0.Memory,a0.Outs,())) _ (fun _ x (_:Unit) κ=>bif (zfk) x then κ () else some [AV.one (.b false)]) (fun (t:Unit)=>(cond (zrU a0.Memory 8) (cond (zjt a0.Memory 8) (cond (zQ (ln a0.Guests) 1 2) (cond (zX (ln a0.Guests) 1 2) (cond (ile (ln a0.Outs) 40) (cond (zfR a0.Pending) (some [(.one (.b (zfQ a0.Pending)))]) none) (some [(.one (.b false))])) (some [(.one (.b false))])) none) (some [(.one (.b false))])) none)) (fun i hi t rec=>?_) (fun t rec=>?_) _ () (hNN hl)).trans ?_
 ·simp only [zbr hi,zbn hi,zbx hi,zbt hi hl,cT];exact ze0 rfl
 ·simp only [zbe,cF]
 rw [zfj (zfk)];refine br (fun h0=>?_) (fun h0=>?_)
 ·refine must rfl ?_;refine br (fun h1=>?_) (fun h1=>?_)
  ·refine must rfl ?_;refine br (fun h2=>?_) (fun h2=>?_)
   ·refine br (fun h3=>?_) (fun h3=>?_)
    ·refine must rfl ?_
     first|rfl|(simp only [h0,h1,h2,h3,zbW,zbO,cT,cF]<;>rfl)|(simp_all [Ty.cells,zbW,zbO];done)
    ·first|rfl|(simp only [h0,h1,h2,h3,zbW,zbO,cT,cF]<;>rfl)|(simp_all [Ty.cells,zbW,zbO];done)
   ·first|rfl|(simp only [h0,h1,h2,zbW,zbO,cT,cF]<;>rfl)|(simp_all [Ty.cells,zbW,zbO];done)
  ·first|rfl|(simp only [h0,h1,zbW,zbO,cT,cF]<;>rfl)|(simp_all [Ty.cells,zbW,zbO];done)
 ·first|rfl|(simp only [h0,zbW,zbO,cT,cF]<;>rfl)|(simp_all [Ty.cells,zbW,zbO];done)
theorem zC5:Holds Tryz.prog 154 zqw:=zn ze1 zA zq zu (zC (by kernel_rfl)) fun avs rs hb h=>by
 unfold zqw at h;split at h
 ·obtain ⟨hc,rfl⟩:=zi h;exact (fin1 zIP zLJ hc hb :)
 ·cases h
@[simp,reducible] def zS (b:Bare):Bool:=pc (SmB b)
@[simp,reducible] def zH (b:Bare):Bare:=b
def zlA:List AV->Option (Bool×List AV)
 | [.agg [.s (.sl .int) b,.s .guest c,.s .int d,.i .i64 e]]=>some ((zS (⟨b,c,d,e⟩:Bare)),[.agg (Ty.cells .bare (zH (⟨b,c,d,e⟩:Bare)))])
 | _=>none
def zpu (N:Nat)(a0:Bare):Option Ans :=
 (cond (zmk a0.Memory) (cond (zli a0.Guests) (cond (zdO a0.Outs) (some [(.agg (Ty.cells .bare (⟨(zee a0.Memory),(zqg a0.Guests),(zdH a0.Outs),a0.Pending⟩:Bare)))]) none) none) none)
theorem zHj (N:Nat)(a0:Bare):evalFn (cQ zjJ zL zF zG) (zB []) N 12 67 [.agg (Ty.cells .bare a0)]=zpu N a0:=by kernel_rfl
theorem zEb (a0:Bare)(hb:zD big [.agg (Ty.cells .bare a0)])(hc:(zS a0)=true):∃N,zpu N a0=some [.agg (Ty.cells .bare (zH a0))]:=by
 have hs:=zI.1 hc;have hz:_/\_/\_:=hs
 refine ⟨0,?_⟩;unfold zpu;refine must (by first|assumption|(simp_all<;>omega)) (must (by first|assumption|(simp_all<;>omega)) (must (by first|assumption|(simp_all<;>omega)) ?_))
 first|rfl|(simp only [*,zH,cT,cF]<;>rfl)|simp_all [Ty.cells,zH]
theorem zzg:Holds Tryz.prog 67 zlA:=zn ze1 zA zq zu (zC (by kernel_rfl)) fun avs rs hb h=>by
 unfold zlA at h;split at h
 ·obtain ⟨hc,rfl⟩:=zi h;exact (fin1 zEb zHj hc hb :)
 ·cases h
@[simp,reducible] def zcb (b:Bare):Bool:=pc (SmB b)
@[simp,reducible] def zf (b:Bare):Bare:=b
def zof:List AV->Option (Bool×List AV)
 | [.agg [.s (.sl .int) b,.s .guest c,.s .int d,.i .i64 e]]=>some ((zcb (⟨b,c,d,e⟩:Bare)),[.agg (Ty.cells .bare (zf (⟨b,c,d,e⟩:Bare)))])
 | _=>none
def zs5 (N:Nat)(a0:Bare):Option Ans :=
 (cond (ziz a0.Memory) (cond (ziS a0.Guests) (cond (few (ln (ap [] a0.Outs))) (some [(.agg (Ty.cells .bare (⟨(zel a0.Memory),(zmC a0.Guests),(ap [] a0.Outs),a0.Pending⟩:Bare)))]) none) none) none)
theorem zKu (N:Nat)(a0:Bare):evalFn (cQ zjJ zL zF zG) (zB []) N 12 78 [.agg (Ty.cells .bare a0)]=zs5 N a0:=by kernel_rfl
theorem zG1 (a0:Bare)(hb:zD big [.agg (Ty.cells .bare a0)])(hc:(zcb a0)=true):∃N,zs5 N a0=some [.agg (Ty.cells .bare (zf a0))]:=by
 have hs:=zI.1 hc;have hz:_/\_/\_:=hs
 refine ⟨0,?_⟩;unfold zs5;refine must (by first|assumption|(simp_all<;>omega)) (must (by first|assumption|(simp_all<;>omega)) (must (by first|assumption|(simp_all<;>omega)) ?_))
 first|rfl|(simp only [*,zf,cT,cF]<;>rfl)|simp_all [Ty.cells,zf]
theorem zBC:Holds Tryz.prog 78 zof:=zn ze1 zA zq zu (zC (by kernel_rfl)) fun avs rs hb h=>by
 unfold zof at h;split at h
 ·obtain ⟨hc,rfl⟩:=zi h;exact (fin1 zG1 zKu hc hb :)
 ·cases h
def zAw:zbu:=[(83,zn8),(159,znG),(84,znW),(155,znu),(95,zog),(81,zq1),(154,zqw),(67,zlA),(78,zof)]++zjJ
theorem zvB:zbE zAw:=zl zBv (zl zA3 (zl zBj (zl zAR (zl zBD (zl zDA (zl zC5 (zl zzg (zl zBC ze1))))))))
def zc7 (b:Bare)(i:Int)(x:Guest):Bare:={ b with Guests:=up b.Guests i x }
def zcr (b:Bare)(i:Int)(x:Guest):Bare:=bif hasB i (ln b.Guests) then zc7 b i x else b
def zd8 (b:Bare)(n:Int):Bare:=bif ilt (ln b.Outs) 40 then { b with Outs:=ap b.Outs [n] } else b
@[simp] theorem zjm {b:Bare}{i:Int}{x:Guest}(h:SmB b)(hx:SmG x):SmB (zc7 b i x):=⟨h.1,zE5 h.2.1 hx,h.2.2⟩
@[simp] theorem zCC {b:Bare}{n:Int}(h:SmB b):SmB (zd8 b n):=by
 unfold zd8;cases h1:ilt (ln b.Outs) 40
 ·exact h
 ·have:=of_decide_eq_true h1;refine ⟨h.1,h.2.1,?_⟩;simp [ln] at *;omega
@[simp] theorem zTI (b:Bare)(n:Int):(zd8 b n).Guests=b.Guests:=by
 unfold zd8;cases ilt (ln b.Outs) 40<;>rfl
@[simp] theorem zAa {m:List (List Int)}{p c v:Int}(h:SmM m):SmM (zdC m p c v):=by
 unfold zdC;cases h1:zfv m p c
 ·exact h
 ·cases h2:win v 0 99
  ·exact h
  ·exact zS4 h (by simpa using zS3 h ((zoO m p c).1 h1).1 [])
@[simp,reducible] def zbc (b:Bare)(i:Int)(x:Guest):Bool:=pc (SmB b/\SmG x)
@[simp,reducible] def zbk (b:Bare)(i:Int)(x:Guest):Bare:=zcr b i x
def zkq:List AV->Option (Bool×List AV)
 | [.agg [.s (.sl .int) c,.s .guest d,.s .int e,.i .i64 f],.one (.i .i64 g),.agg [.s .ins h,.i .i64 j,.i .i64 k,.s .slot l,.s .slot m,.i .i64 n,.i .i64 o,.b p,.i .i64 q,.i .i64 r,.i .i64 t,.b u,.i .i64 v,.b w,.s .int x]]=>some ((zbc (⟨c,d,e,f⟩:Bare) g (⟨h,j,k,l,m,⟨n,o,p⟩,q,⟨r,t,u,v⟩,w,x⟩:Guest)),[.agg (Ty.cells .bare (zbk (⟨c,d,e,f⟩:Bare) g (⟨h,j,k,l,m,⟨n,o,p⟩,q,⟨r,t,u,v⟩,w,x⟩:Guest)))])
 | _=>none
def zm4 (N:Nat)(a0:Bare)(a1:Int)(a2:Guest):Option Ans :=
 (cond (zS a0) (cond (zcF a1 (ln a0.Guests)) (cond (zda a1 (ln a0.Guests)) (cond (zcw a2) (cond (inb a1 (ln (zH a0).Guests)) (share (up (zH a0).Guests a1 (zbU a2)) (fun x4=>(some [(.agg (Ty.cells .bare ({ (zH a0) with Guests:=x4 }:Bare)))]))) none) none) (some [(.agg (Ty.cells .bare (zH a0)))])) none) none)
theorem zEL (N:Nat)(a0:Bare)(a1:Int)(a2:Guest):evalFn (cQ zAw zL zF zG) (zB []) N 12 157 [.agg (Ty.cells .bare a0),.one (.i .i64 a1),.agg (Ty.cells .guest a2)]=zm4 N a0 a1 a2:=by kernel_rfl
theorem zBL (a0:Bare)(a1:Int)(a2:Guest)(hb:zD big [.agg (Ty.cells .bare a0),.one (.i .i64 a1),.agg (Ty.cells .guest a2)])(hc:(zbc a0 a1 a2)=true):∃N,zm4 N a0 a1 a2=some [.agg (Ty.cells .bare (zbk a0 a1 a2))]:=by
 have hs:=zI.1 hc;refine ⟨0,?_⟩;unfold zm4;refine must (by first|assumption|(simp_all<;>omega)) (must rfl (br (fun _=>must (by first|assumption|(simp_all<;>omega)) (must (by first|assumption|(simp_all<;>omega)) (shr ?_))) (fun _=>?_)))
 all_goals first|rfl|(simp only [*,zbk,zcr,zc7,cT,cF]<;>rfl)|simp_all [Ty.cells,zbk,zcr,zc7]
theorem zx6:Holds Tryz.prog 157 zkq:=zn zvB zA zq zu (zC (by kernel_rfl)) fun avs rs hb h=>by
 unfold zkq at h;split at h
 ·obtain ⟨hc,rfl⟩:=zi h;exact (zd1 zBL zEL hc hb :)
 ·cases h
@[simp,reducible] def zoX (b:Bare)(n:Int):Bool:=pc (SmB b)
@[simp,reducible] def zfa (b:Bare)(n:Int):Bare:=zd8 b n
def zre:List AV->Option (Bool×List AV)
 | [.agg [.s (.sl .int) b,.s .guest c,.s .int d,.i .i64 e],.one (.i .i64 f)]=>some ((zoX (⟨b,c,d,e⟩:Bare) f),[.agg (Ty.cells .bare (zfa (⟨b,c,d,e⟩:Bare) f))])
 | _=>none
def zvl (N:Nat)(a0:Bare)(a1:Int):Option Ans :=
 (cond (zcb a0) (cond (ilt (ln (zf a0).Outs) 40) (cond (few (ln (ap (zf a0).Outs [a1]))) (some [(.agg (Ty.cells .bare ({ (zf a0) with Outs:=(ap (zf a0).Outs [a1]) }:Bare)))]) none) (some [(.agg (Ty.cells .bare (zf a0)))])) none)
theorem zMr (N:Nat)(a0:Bare)(a1:Int):evalFn (cQ zAw zL zF zG) (zB []) N 12 96 [.agg (Ty.cells .bare a0),.one (.i .i64 a1)]=zvl N a0 a1:=by kernel_rfl
theorem zJx (a0:Bare)(a1:Int)(hb:zD big [.agg (Ty.cells .bare a0),.one (.i .i64 a1)])(hc:(zoX a0 a1)=true):∃N,zvl N a0 a1=some [.agg (Ty.cells .bare (zfa a0 a1))]:=by
 have hs:=zI.1 hc;have hz:a0.Outs.length<=1048576:=hs.2.2
 refine ⟨0,?_⟩;unfold zvl;refine must (by first|assumption|(simp_all<;>omega)) (br (fun _=>must (by first|assumption|(simp_all<;>omega)) ?_) (fun _=>?_))
 all_goals first|rfl|(simp only [*,zfa,zd8,cT,cF]<;>rfl)|simp_all [Ty.cells,zfa,zd8]
theorem zDM:Holds Tryz.prog 96 zre:=zn zvB zA zq zu (zC (by kernel_rfl)) fun avs rs hb h=>by
 unfold zre at h;split at h
 ·obtain ⟨hc,rfl⟩:=zi h;exact (fin2 zJx zMr hc hb :)
 ·cases h
@[simp,reducible] def zox (b:Bare)(n:Int):Bool:=pc (SmB b)
@[simp,reducible] def zgY (b:Bare)(n:Int):Bare:=zd8 b n
def zqJ:List AV->Option (Bool×List AV)
 | [.agg [.s (.sl .int) b,.s .guest c,.s .int d,.i .i64 e],.one (.i .i64 f)]=>some ((zox (⟨b,c,d,e⟩:Bare) f),[.agg (Ty.cells .bare (zgY (⟨b,c,d,e⟩:Bare) f))])
 | _=>none
def zuR (N:Nat)(a0:Bare)(a1:Int):Option Ans :=
 (cond (zS a0) (cond (ilt (ln a0.Outs) 40) (cond (few (ln (ap (zH a0).Outs [a1]))) (some [(.agg (Ty.cells .bare ({ (zH a0) with Outs:=(ap (zH a0).Outs [a1]) }:Bare)))]) none) (some [(.agg (Ty.cells .bare (zH a0)))])) none)
theorem zLW (N:Nat)(a0:Bare)(a1:Int):evalFn (cQ zAw zL zF zG) (zB []) N 12 174 [.agg (Ty.cells .bare a0),.one (.i .i64 a1)]=zuR N a0 a1:=by kernel_rfl
theorem zI2 (a0:Bare)(a1:Int)(hb:zD big [.agg (Ty.cells .bare a0),.one (.i .i64 a1)])(hc:(zox a0 a1)=true):∃N,zuR N a0 a1=some [.agg (Ty.cells .bare (zgY a0 a1))]:=by
 have hs:=zI.1 hc;have hz:a0.Outs.length<=1048576:=hs.2.2
 refine ⟨0,?_⟩;unfold zuR;refine must (by first|assumption|(simp_all<;>omega)) (br (fun _=>must (by first|assumption|(simp_all<;>omega)) ?_) (fun _=>?_))
 all_goals first|rfl|(simp only [*,zgY,zd8,cT,cF]<;>rfl)|simp_all [Ty.cells,zgY,zd8]
theorem zDi:Holds Tryz.prog 174 zqJ:=zn zvB zA zq zu (zC (by kernel_rfl)) fun avs rs hb h=>by
 unfold zqJ at h;split at h
 ·obtain ⟨hc,rfl⟩:=zi h;exact (fin2 zI2 zLW hc hb :)
 ·cases h
def zor:zbu:=[(157,zkq),(96,zre),(174,zqJ)]++zAw
theorem zgN:zbE zor:=zl zx6 (zl zDM (zl zDi zvB))
def zgw (b:Bare)(g:Int)(x:Guest)(w:Bool):Bare :=
 bif zhh x.Live (zc6 (address x)) (zd7 w) then
  (bif w then zc7 { b with Memory:=zdC b.Memory (zgl x.Live (zc6 (address x)) (zd7 w)) (zdr (address x)) x.A } g (zbB x)
  else zc7 b g (loaded x (cellAt b.Memory (zgl x.Live (zc6 (address x)) (zd7 w)) (zdr (address x)))))
 else zc7 b g (stopped x (zwW (zc6 (address x)) w))
def zjD (b:Bare)(g:Int)(x:Guest)(w:Int):Bare :=
 zc7 (cond (cond (ziT x.Ctl.Traps w) (ieq w 5) false) (zd8 b (zcA x.Prog x.Pc).X) b) g (zff x x.Ctl.Traps w)
def stepped (b:Bare)(g:Int)(x:Guest)(w:Int):Bare :=
 bif ieq w 1 then zc7 b g (interrupted x) else (cond (ieq w 2) (zc7 b g (plainly x)) (cond (ieq w 3) (zgw b g x false) (cond (ieq w 4) (zgw b g x true) (zjD b g x w))))
theorem tr1 (x:Guest)(t w:Int):ieq w 6=true->zff x t w=stopped x (zvv (zcA x.Prog x.Pc).X)/\ziT t w=false:=by
 intro h;simp [zff,ziT,h]
theorem tr2 (x:Guest)(t w:Int):ieq w 6=false->(ieq w 5=false->ieq w 6=false->ieq w 7=true)->zc8 t (zkS w)=true->zff x t w=zl7 x w/\ziT t w=false:=by
 intro h6 h7 h;unfold zff ziT zl7 zkS at *;cases h5:ieq w 5<;>simp_all
theorem tr3 (x:Guest)(t w:Int):ieq w 6=false->ieq w 7=false->zc8 t (zkS w)=false->ieq w 5=true->zff x t w=zbB x/\ziT t w=true:=by
 intro h6 h7 h h5;unfold zff ziT zkS at *
 simp_all
theorem tr4 (x:Guest)(t w:Int):ieq w 6=false->(ieq w 5=false->ieq w 6=false->ieq w 7=true)->zc8 t (zkS w)=false->ieq w 5=false->zff x t w=held x:=by
 intro h6 h7 h h5;unfold zff zkS at *
 simp_all
def zfg (b:Bare)(g:Int):Bool:=bif hasB g (ln b.Guests) then (cond (zbO b) (!ieq (zbS (gAt b g)) 0) false) else false
def zen (b:Bare)(g:Int):Bare:=bif zfg b g then stepped b g (gAt b g) (zbS (gAt b g)) else b
@[simp] theorem zNa {b:Bare}{g:Int}{x:Guest}{w:Bool}(h:SmB b)(hx:SmG x):SmB (zgw b g x w):=by
 unfold zgw;cases zhh x.Live (zc6 (address x)) (zd7 w)
 ·exact zjm h hx
 ·cases w
  ·exact zjm h (zOp _ hx)
  ·exact ⟨zAa h.1,zE5 h.2.1 (zhg hx),h.2.2⟩
@[simp] theorem zSl {b:Bare}{g:Int}{x:Guest}{w:Int}(h:SmB b)(hx:SmG x):SmB (zjD b g x w):=by
 unfold zjD;cases (cond (ziT x.Ctl.Traps w) (ieq w 5) false)
 ·exact zjm h (zFL _ _ hx)
 ·exact zjm (zCC h) (zFL _ _ hx)
@[simp] theorem zMG {b:Bare}{g:Int}{x:Guest}{w:Int}(h:SmB b)(hx:SmG x):SmB (stepped b g x w):=by
 unfold stepped;cases ieq w 1
 ·cases ieq w 2
  ·cases ieq w 3
   ·cases ieq w 4
    ·exact zSl h hx
    ·exact zNa h hx
   ·exact zNa h hx
  ·exact zjm h (zMH hx)
 ·exact zjm h (zSm hx)
@[simp] theorem zQE {b:Bare}{g:Int}(h:SmB b):SmB (zen b g):=by
 unfold zen;cases zfg b g
 ·exact h
 ·exact zMG h (zeX g h)
theorem zRu (x:Guest):ieq (zbS x) 0=false->ieq (zbS x) 1=false->ieq (zbS x) 2=false->ieq (zbS x) 3=false->ieq (zbS x) 4=false->ieq (zbS x) 5=false->ieq (zbS x) 6=false->ieq (zbS x) 7=true:=by
 unfold zbS zuu;cases canRun x
 ·intro h;cases h
 ·cases zeB x
  ·simp only [cT,cF];generalize (zcA x.Prog x.Pc).Op=o;cases ieq o 3<;>cases ieq o 4<;>cases ieq o 5<;>cases ieq o 6<;>cases ieq o 7<;>simp [ieq]
  ·intro _ h;cases h
theorem zxO {x:Int}{a b:Int}(h:ieq x a=true)(hab:ieq a b=false):ieq x b=false:=by
 have:x=a:=by simpa [ieq] using h
 rw [this];exact hab
@[simp,reducible] def zqb (b:Bare)(g:Int):Bool:=pc (SmB b)
@[simp,reducible] def zgV (b:Bare)(g:Int):Bare:=zen b g
@[simp,reducible] def zgW (b:Bare)(g:Int):Bool:=zfg b g
def zhE:List AV->Option (Bool×List AV)
 | [.agg [.s (.sl .int) c,.s .guest d,.s .int e,.i .i64 f],.one (.i .i64 g)]=>some ((zqb (⟨c,d,e,f⟩:Bare) g),[.agg (Ty.cells .bare (zgV (⟨c,d,e,f⟩:Bare) g)),.one (.b (zgW (⟨c,d,e,f⟩:Bare) g))])
 | _=>none
def zpn (N:Nat)(a0:Bare)(a1:Int):Option Ans :=
 (cond (zcm a0 a1) (cond (zj4 (zh a0 a1)) (cond (zcp a0) (cond (cond (zbW a0) false true) (cond (zS a0) (some [(.agg (Ty.cells .bare (zH a0))),(.one (.b false))]) none) (cond (cond (zcl a0 a1) false true) (cond (zS a0) (some [(.agg (Ty.cells .bare (zH a0))),(.one (.b false))]) none) (cond (ieq (zW (zh a0 a1)) 0) (cond (zS a0) (some [(.agg (Ty.cells .bare (zH a0))),(.one (.b false))]) none) (cond (zte (zh a0 a1)) (cond (zfG (zh a0 a1).Prog (zh a0 a1).Pc) (cond (ieq (zW (zh a0 a1)) 1) (cond (zjY (zh a0 a1)) (cond (zbc a0 a1 (zeJ (zh a0 a1))) (some [(.agg (Ty.cells .bare (zbk a0 a1 (zeJ (zh a0 a1))))),(.one (.b true))]) none) none) (cond (ieq (zW (zh a0 a1)) 2) (cond (ztn (zh a0 a1)) (cond (zbc a0 a1 (zjv (zh a0 a1))) (some [(.agg (Ty.cells .bare (zbk a0 a1 (zjv (zh a0 a1))))),(.one (.b true))]) none) none) (cond (ieq (zW (zh a0 a1)) 3) (cond (ieq (zW (zh a0 a1)) 3) (cond (zer (zY (zh a0 a1))) (cond (zow (ieq (zW (zh a0 a1)) 4)) (cond (zf7 (zh a0 a1).Live (zbs (zY (zh a0 a1))) (zco (ieq (zW (zh a0 a1)) 4))) (cond (cond (zd3 (zh a0 a1).Live (zbs (zY (zh a0 a1))) (zco (ieq (zW (zh a0 a1)) 4))) false true) (cond (zer (zY (zh a0 a1))) (cond (ziD (zbs (zY (zh a0 a1))) (ieq (zW (zh a0 a1)) 4)) (cond (zcQ (zh a0 a1) (zdb (zbs (zY (zh a0 a1))) (ieq (zW (zh a0 a1)) 4))) (cond (zbc a0 a1 (zbM (zh a0 a1) (zdb (zbs (zY (zh a0 a1))) (ieq (zW (zh a0 a1)) 4)))) (some [(.agg (Ty.cells .bare (zbk a0 a1 (zbM (zh a0 a1) (zdb (zbs (zY (zh a0 a1))) (ieq (zW (zh a0 a1)) 4)))))),(.one (.b true))]) none) none) none) none) (cond (ieq (zW (zh a0 a1)) 4) (cond (zeq (zY (zh a0 a1))) (cond (zfr a0.Memory (zbJ (zh a0 a1).Live (zbs (zY (zh a0 a1))) (zco (ieq (zW (zh a0 a1)) 4))) (zb9 (zY (zh a0 a1))) (zh a0 a1).A) (cond (zoA (zh a0 a1)) (cond (zbc ({ a0 with Memory:=(zdG a0.Memory (zbJ (zh a0 a1).Live (zbs (zY (zh a0 a1))) (zco (ieq (zW (zh a0 a1)) 4))) (zb9 (zY (zh a0 a1))) (zh a0 a1).A) }:Bare) a1 (zgZ (zh a0 a1))) (some [(.agg (Ty.cells .bare (zbk ({ a0 with Memory:=(zdG a0.Memory (zbJ (zh a0 a1).Live (zbs (zY (zh a0 a1))) (zco (ieq (zW (zh a0 a1)) 4))) (zb9 (zY (zh a0 a1))) (zh a0 a1).A) }:Bare) a1 (zgZ (zh a0 a1))))),(.one (.b true))]) none) none) none) none) (cond (zeq (zY (zh a0 a1))) (cond (zjW a0.Memory (zbJ (zh a0 a1).Live (zbs (zY (zh a0 a1))) (zco (ieq (zW (zh a0 a1)) 4))) (zb9 (zY (zh a0 a1)))) (cond (zov (zh a0 a1) (zes a0.Memory (zbJ (zh a0 a1).Live (zbs (zY (zh a0 a1))) (zco (ieq (zW (zh a0 a1)) 4))) (zb9 (zY (zh a0 a1))))) (cond (zbc a0 a1 (zgX (zh a0 a1) (zes a0.Memory (zbJ (zh a0 a1).Live (zbs (zY (zh a0 a1))) (zco (ieq (zW (zh a0 a1)) 4))) (zb9 (zY (zh a0 a1)))))) (some [(.agg (Ty.cells .bare (zbk a0 a1 (zgX (zh a0 a1) (zes a0.Memory (zbJ (zh a0 a1).Live (zbs (zY (zh a0 a1))) (zco (ieq (zW (zh a0 a1)) 4))) (zb9 (zY (zh a0 a1)))))))),(.one (.b true))]) none) none) none) none))) none) none) none) (cond (ieq (zW (zh a0 a1)) 6) (cond (zjV (zbK (zh a0 a1).Prog (zh a0 a1).Pc).X) (cond (zcQ (zh a0 a1) (zdE (zbK (zh a0 a1).Prog (zh a0 a1).Pc).X)) (cond (zbc a0 a1 (zbM (zh a0 a1) (zdE (zbK (zh a0 a1).Prog (zh a0 a1).Pc).X))) (some [(.agg (Ty.cells .bare (zbk a0 a1 (zbM (zh a0 a1) (zdE (zbK (zh a0 a1).Prog (zh a0 a1).Pc).X))))),(.one (.b true))]) none) none) none) (cond (zoC (zW (zh a0 a1))) (cond (zmf (zh a0 a1).Ctl.Traps (zg0 (zW (zh a0 a1)))) (cond (zjr (zh a0 a1).Ctl.Traps (zg0 (zW (zh a0 a1)))) (cond (zml (zh a0 a1) (zW (zh a0 a1))) (cond (zbc a0 a1 (zfK (zh a0 a1) (zW (zh a0 a1)))) (some [(.agg (Ty.cells .bare (zbk a0 a1 (zfK (zh a0 a1) (zW (zh a0 a1)))))),(.one (.b true))]) none) none) (cond (ieq (zW (zh a0 a1)) 5) (cond (zox a0 (zbK (zh a0 a1).Prog (zh a0 a1).Pc).X) (cond (zdo (zh a0 a1)) (cond (zbc (zgY a0 (zbK (zh a0 a1).Prog (zh a0 a1).Pc).X) a1 (zcg (zh a0 a1))) (some [(.agg (Ty.cells .bare (zbk (zgY a0 (zbK (zh a0 a1).Prog (zh a0 a1).Pc).X) a1 (zcg (zh a0 a1))))),(.one (.b true))]) none) none) none) (cond (zlg (zh a0 a1)) (cond (zbc a0 a1 (zf6 (zh a0 a1))) (some [(.agg (Ty.cells .bare (zbk a0 a1 (zf6 (zh a0 a1))))),(.one (.b true))]) none) none))) none) none))) (cond (ieq (zW (zh a0 a1)) 4) (cond (zer (zY (zh a0 a1))) (cond (zow (ieq (zW (zh a0 a1)) 4)) (cond (zf7 (zh a0 a1).Live (zbs (zY (zh a0 a1))) (zco (ieq (zW (zh a0 a1)) 4))) (cond (cond (zd3 (zh a0 a1).Live (zbs (zY (zh a0 a1))) (zco (ieq (zW (zh a0 a1)) 4))) false true) (cond (zer (zY (zh a0 a1))) (cond (ziD (zbs (zY (zh a0 a1))) (ieq (zW (zh a0 a1)) 4)) (cond (zcQ (zh a0 a1) (zdb (zbs (zY (zh a0 a1))) (ieq (zW (zh a0 a1)) 4))) (cond (zbc a0 a1 (zbM (zh a0 a1) (zdb (zbs (zY (zh a0 a1))) (ieq (zW (zh a0 a1)) 4)))) (some [(.agg (Ty.cells .bare (zbk a0 a1 (zbM (zh a0 a1) (zdb (zbs (zY (zh a0 a1))) (ieq (zW (zh a0 a1)) 4)))))),(.one (.b true))]) none) none) none) none) (cond (ieq (zW (zh a0 a1)) 4) (cond (zeq (zY (zh a0 a1))) (cond (zfr a0.Memory (zbJ (zh a0 a1).Live (zbs (zY (zh a0 a1))) (zco (ieq (zW (zh a0 a1)) 4))) (zb9 (zY (zh a0 a1))) (zh a0 a1).A) (cond (zoA (zh a0 a1)) (cond (zbc ({ a0 with Memory:=(zdG a0.Memory (zbJ (zh a0 a1).Live (zbs (zY (zh a0 a1))) (zco (ieq (zW (zh a0 a1)) 4))) (zb9 (zY (zh a0 a1))) (zh a0 a1).A) }:Bare) a1 (zgZ (zh a0 a1))) (some [(.agg (Ty.cells .bare (zbk ({ a0 with Memory:=(zdG a0.Memory (zbJ (zh a0 a1).Live (zbs (zY (zh a0 a1))) (zco (ieq (zW (zh a0 a1)) 4))) (zb9 (zY (zh a0 a1))) (zh a0 a1).A) }:Bare) a1 (zgZ (zh a0 a1))))),(.one (.b true))]) none) none) none) none) (cond (zeq (zY (zh a0 a1))) (cond (zjW a0.Memory (zbJ (zh a0 a1).Live (zbs (zY (zh a0 a1))) (zco (ieq (zW (zh a0 a1)) 4))) (zb9 (zY (zh a0 a1)))) (cond (zov (zh a0 a1) (zes a0.Memory (zbJ (zh a0 a1).Live (zbs (zY (zh a0 a1))) (zco (ieq (zW (zh a0 a1)) 4))) (zb9 (zY (zh a0 a1))))) (cond (zbc a0 a1 (zgX (zh a0 a1) (zes a0.Memory (zbJ (zh a0 a1).Live (zbs (zY (zh a0 a1))) (zco (ieq (zW (zh a0 a1)) 4))) (zb9 (zY (zh a0 a1)))))) (some [(.agg (Ty.cells .bare (zbk a0 a1 (zgX (zh a0 a1) (zes a0.Memory (zbJ (zh a0 a1).Live (zbs (zY (zh a0 a1))) (zco (ieq (zW (zh a0 a1)) 4))) (zb9 (zY (zh a0 a1)))))))),(.one (.b true))]) none) none) none) none))) none) none) none) (cond (ieq (zW (zh a0 a1)) 6) (cond (zjV (zbK (zh a0 a1).Prog (zh a0 a1).Pc).X) (cond (zcQ (zh a0 a1) (zdE (zbK (zh a0 a1).Prog (zh a0 a1).Pc).X)) (cond (zbc a0 a1 (zbM (zh a0 a1) (zdE (zbK (zh a0 a1).Prog (zh a0 a1).Pc).X))) (some [(.agg (Ty.cells .bare (zbk a0 a1 (zbM (zh a0 a1) (zdE (zbK (zh a0 a1).Prog (zh a0 a1).Pc).X))))),(.one (.b true))]) none) none) none) (cond (zoC (zW (zh a0 a1))) (cond (zmf (zh a0 a1).Ctl.Traps (zg0 (zW (zh a0 a1)))) (cond (zjr (zh a0 a1).Ctl.Traps (zg0 (zW (zh a0 a1)))) (cond (zml (zh a0 a1) (zW (zh a0 a1))) (cond (zbc a0 a1 (zfK (zh a0 a1) (zW (zh a0 a1)))) (some [(.agg (Ty.cells .bare (zbk a0 a1 (zfK (zh a0 a1) (zW (zh a0 a1)))))),(.one (.b true))]) none) none) (cond (ieq (zW (zh a0 a1)) 5) (cond (zox a0 (zbK (zh a0 a1).Prog (zh a0 a1).Pc).X) (cond (zdo (zh a0 a1)) (cond (zbc (zgY a0 (zbK (zh a0 a1).Prog (zh a0 a1).Pc).X) a1 (zcg (zh a0 a1))) (some [(.agg (Ty.cells .bare (zbk (zgY a0 (zbK (zh a0 a1).Prog (zh a0 a1).Pc).X) a1 (zcg (zh a0 a1))))),(.one (.b true))]) none) none) none) (cond (zlg (zh a0 a1)) (cond (zbc a0 a1 (zf6 (zh a0 a1))) (some [(.agg (Ty.cells .bare (zbk a0 a1 (zf6 (zh a0 a1))))),(.one (.b true))]) none) none))) none) none)))))) none) none)))) none) none) none)
theorem zHb (N:Nat)(a0:Bare)(a1:Int):evalFn (cQ zor zL zF zG) (zB []) N 12 114 [.agg (Ty.cells .bare a0),.one (.i .i64 a1)]=zpn N a0 a1:=by kernel_rfl
theorem zD3 (a0:Bare)(a1:Int)(hb:zD big [.agg (Ty.cells .bare a0),.one (.i .i64 a1)])(hc:(zqb a0 a1)=true):∃N,zpn N a0 a1=some [.agg (Ty.cells .bare (zgV a0 a1)),.one (.b (zgW a0 a1))]:=by
 have hs:=zI.1 hc;have hx:=zeX a1 hs;have hz:_/\_/\_:=hs;have hg:a0.Guests.length<=1048576:=hs.2.1.1;have hw7:=zRu (gAt a0 a1);have h34:ieq (zbS (gAt a0 a1)) 3=true->ieq (zbS (gAt a0 a1)) 4=false:=fun h=>zxO h rfl;have h57:ieq (zbS (gAt a0 a1)) 5=true->ieq (zbS (gAt a0 a1)) 7=false:=fun h=>zxO h rfl;have t1:=tr1 (gAt a0 a1) (gAt a0 a1).Ctl.Traps (zbS (gAt a0 a1));have t2:=tr2 (gAt a0 a1) (gAt a0 a1).Ctl.Traps (zbS (gAt a0 a1));have t3:=tr3 (gAt a0 a1) (gAt a0 a1).Ctl.Traps (zbS (gAt a0 a1));have t4:=tr4 (gAt a0 a1) (gAt a0 a1).Ctl.Traps (zbS (gAt a0 a1));have hp:∀n,SmB (zd8 a0 n):=fun n=>zCC hs
 refine ⟨0,?_⟩;unfold zpn;refine must (by first|assumption|(simp_all<;>omega)) (must rfl (must rfl (brN (fun _=>must (by first|assumption|(simp_all<;>omega)) ?_) (fun _=>brN (fun _=>must (by first|assumption|(simp_all<;>omega)) ?_) (fun _=>br (fun _=>must (by first|assumption|(simp_all<;>omega)) ?_) (fun _=>must rfl (must rfl (br (fun _=>must (by first|assumption|(simp_all<;>omega)) (must (by first|assumption|(simp_all<;>omega)) ?_)) (fun _=>br (fun _=>must (by first|assumption|(simp_all<;>omega)) (must (by first|assumption|(simp_all<;>omega)) ?_)) (fun _=>br (fun _=>br (fun _=>must rfl (must rfl (must rfl (brN (fun _=>must rfl (must rfl (must (by first|assumption|(simp_all<;>omega)) (must (by first|assumption|(simp_all<;>omega)) ?_)))) (fun _=>br (fun _=>must rfl (must (by first|assumption|(simp_all<;>omega)) (must (by first|assumption|(simp_all<;>omega)) (must (by first|assumption|(simp_all<;>omega)) ?_)))) (fun _=>must rfl (must rfl (must (by first|assumption|(simp_all<;>omega)) (must (by first|assumption|(simp_all<;>omega)) ?_))))))))) (fun _=>br (fun _=>must rfl (must (by first|assumption|(simp_all<;>omega)) (must (by first|assumption|(simp_all<;>omega)) ?_))) (fun _=>must rfl (must rfl (br (fun _=>must (by first|assumption|(simp_all<;>omega)) (must (by first|assumption|(simp_all<;>omega)) ?_)) (fun _=>br (fun _=>must (by first|assumption|(simp_all<;>omega)) (must (by first|assumption|(simp_all<;>omega)) (must (by first|assumption|(simp_all<;>omega)) ?_))) (fun _=>must (by first|assumption|(simp_all<;>omega)) (must (by first|assumption|(simp_all<;>omega)) ?_)))))))) (fun _=>br (fun _=>must rfl (must rfl (must rfl (brN (fun _=>must rfl (must rfl (must (by first|assumption|(simp_all<;>omega)) (must (by first|assumption|(simp_all<;>omega)) ?_)))) (fun _=>br (fun _=>must rfl (must (by first|assumption|(simp_all<;>omega)) (must (by first|assumption|(simp_all<;>omega)) (must (by first|assumption|(simp_all<;>omega)) ?_)))) (fun _=>must rfl (must rfl (must (by first|assumption|(simp_all<;>omega)) (must (by first|assumption|(simp_all<;>omega)) ?_))))))))) (fun _=>br (fun _=>must rfl (must (by first|assumption|(simp_all<;>omega)) (must (by first|assumption|(simp_all<;>omega)) ?_))) (fun _=>must rfl (must rfl (br (fun _=>must (by first|assumption|(simp_all<;>omega)) (must (by first|assumption|(simp_all<;>omega)) ?_)) (fun _=>br (fun _=>must (by first|assumption|(simp_all<;>omega)) (must (by first|assumption|(simp_all<;>omega)) (must (by first|assumption|(simp_all<;>omega)) ?_))) (fun _=>must (by first|assumption|(simp_all<;>omega)) (must (by first|assumption|(simp_all<;>omega)) ?_))))))))))))))))))
 all_goals first|rfl|(simp only [*,zgV,zgW,zen,zfg,stepped,zgw,zjD,zcr,zd7,cT,cF]<;>rfl)|simp_all [Ty.cells,zgV,zgW,zen,zfg,stepped,zgw,zjD,zcr,zd7]
theorem zp6:Holds Tryz.prog 114 zhE:=zn zgN zA zq zu (zC (by kernel_rfl)) fun avs rs hb h=>by
 unfold zhE at h;split at h
 ·obtain ⟨hc,rfl⟩:=zi h;exact (fin2 zD3 zHb hc hb :)
 ·cases h
@[simp,reducible] def zrp (b:Bare)(g:Int):Bool:=pc (SmB b)
@[simp,reducible] def zhc (b:Bare)(g:Int):Bare:=zen b g
@[simp,reducible] def zhd (b:Bare)(g:Int):Bool:=zfg b g
def zhF:List AV->Option (Bool×List AV)
 | [.agg [.s (.sl .int) c,.s .guest d,.s .int e,.i .i64 f],.one (.i .i64 g)]=>some ((zrp (⟨c,d,e,f⟩:Bare) g),[.agg (Ty.cells .bare (zhc (⟨c,d,e,f⟩:Bare) g)),.one (.b (zhd (⟨c,d,e,f⟩:Bare) g))])
 | _=>none
def zpM (N:Nat)(a0:Bare)(a1:Int):Option Ans :=
 (cond (zcb a0) (cond (ztT (zf a0) a1) (cond (zkP (zk (zf a0) a1)) (cond (cond (ziv (zf a0) a1) false true) (some [(.agg (Ty.cells .bare (zf a0))),(.one (.b false))]) (cond (zfW (zf a0)) (cond (cond (zcO (zf a0)) false true) (some [(.agg (Ty.cells .bare (zf a0))),(.one (.b false))]) (cond (ieq (zbd (zk (zf a0) a1)) 0) (some [(.agg (Ty.cells .bare (zf a0))),(.one (.b false))]) (cond (ieq (zbd (zk (zf a0) a1)) 1) (cond (zkL (zk (zf a0) a1)) (cond (inb a1 (ln (zf a0).Guests)) (share (up (zf a0).Guests a1 (zgi (zk (zf a0) a1))) (fun x3=>(some [(.agg (Ty.cells .bare ({ (zf a0) with Guests:=x3 }:Bare))),(.one (.b true))]))) none) none) (cond (ieq (zbd (zk (zf a0) a1)) 2) (cond (ztX (zk (zf a0) a1)) (cond (inb a1 (ln (zf a0).Guests)) (share (up (zf a0).Guests a1 (zmZ (zk (zf a0) a1))) (fun x3=>(some [(.agg (Ty.cells .bare ({ (zf a0) with Guests:=x3 }:Bare))),(.one (.b true))]))) none) none) (cond (ieq (zbd (zk (zf a0) a1)) 3) (cond (ieq (zbd (zk (zf a0) a1)) 3) (cond (zmx (zk (zf a0) a1)) (cond (zeA (zbi (zk (zf a0) a1))) (cond (zoW (ieq (zbd (zk (zf a0) a1)) 4)) (cond (zgj (zk (zf a0) a1).Live (zbG (zbi (zk (zf a0) a1))) (zcI (ieq (zbd (zk (zf a0) a1)) 4))) (cond (cond (zd5 (zk (zf a0) a1).Live (zbG (zbi (zk (zf a0) a1))) (zcI (ieq (zbd (zk (zf a0) a1)) 4))) false true) (cond (zeA (zbi (zk (zf a0) a1))) (cond (ziR (zbG (zbi (zk (zf a0) a1))) (ieq (zbd (zk (zf a0) a1)) 4)) (cond (zcR (zk (zf a0) a1) (zej (zbG (zbi (zk (zf a0) a1))) (ieq (zbd (zk (zf a0) a1)) 4))) (cond (inb a1 (ln (zf a0).Guests)) (share (up (zf a0).Guests a1 (zcB (zk (zf a0) a1) (zej (zbG (zbi (zk (zf a0) a1))) (ieq (zbd (zk (zf a0) a1)) 4)))) (fun x3=>(some [(.agg (Ty.cells .bare ({ (zf a0) with Guests:=x3 }:Bare))),(.one (.b true))]))) none) none) none) none) (cond (ieq (zbd (zk (zf a0) a1)) 4) (cond (zdW (zbi (zk (zf a0) a1))) (cond (zfE (zf a0).Memory (zb4 (zk (zf a0) a1).Live (zbG (zbi (zk (zf a0) a1))) (zcI (ieq (zbd (zk (zf a0) a1)) 4))) (zcd (zbi (zk (zf a0) a1))) (zk (zf a0) a1).A) (cond (zo0 (zk (zf a0) a1)) (cond (inb a1 (ln (zf a0).Guests)) (share (up (zf a0).Guests a1 (zl5 (zk (zf a0) a1))) (fun x3=>(some [(.agg (Ty.cells .bare ({ (zf a0) with Memory:=(zeV (zf a0).Memory (zb4 (zk (zf a0) a1).Live (zbG (zbi (zk (zf a0) a1))) (zcI (ieq (zbd (zk (zf a0) a1)) 4))) (zcd (zbi (zk (zf a0) a1))) (zk (zf a0) a1).A),Guests:=x3 }:Bare))),(.one (.b true))]))) none) none) none) none) (cond (zdW (zbi (zk (zf a0) a1))) (cond (zkI (zf a0).Memory (zb4 (zk (zf a0) a1).Live (zbG (zbi (zk (zf a0) a1))) (zcI (ieq (zbd (zk (zf a0) a1)) 4))) (zcd (zbi (zk (zf a0) a1)))) (cond (zoV (zk (zf a0) a1) (zfX (zf a0).Memory (zb4 (zk (zf a0) a1).Live (zbG (zbi (zk (zf a0) a1))) (zcI (ieq (zbd (zk (zf a0) a1)) 4))) (zcd (zbi (zk (zf a0) a1))))) (cond (inb a1 (ln (zf a0).Guests)) (share (up (zf a0).Guests a1 (zl3 (zk (zf a0) a1) (zfX (zf a0).Memory (zb4 (zk (zf a0) a1).Live (zbG (zbi (zk (zf a0) a1))) (zcI (ieq (zbd (zk (zf a0) a1)) 4))) (zcd (zbi (zk (zf a0) a1)))))) (fun x3=>(some [(.agg (Ty.cells .bare ({ (zf a0) with Guests:=x3 }:Bare))),(.one (.b true))]))) none) none) none) none))) none) none) none) none) (cond (zmD (zk (zf a0) a1) (zk (zf a0) a1).Ctl.Traps (zbd (zk (zf a0) a1))) (cond (zgv (zk (zf a0) a1) (zk (zf a0) a1).Ctl.Traps (zbd (zk (zf a0) a1))) (cond (ieq (zbd (zk (zf a0) a1)) 5) (cond (zeU (zk (zf a0) a1).Prog (zk (zf a0) a1).Pc) (cond (zoX (zf a0) (zbm (zk (zf a0) a1).Prog (zk (zf a0) a1).Pc).X) (cond (inb a1 (ln (zfa (zf a0) (zbm (zk (zf a0) a1).Prog (zk (zf a0) a1).Pc).X).Guests)) (share (up (zfa (zf a0) (zbm (zk (zf a0) a1).Prog (zk (zf a0) a1).Pc).X).Guests a1 (zde (zk (zf a0) a1) (zk (zf a0) a1).Ctl.Traps (zbd (zk (zf a0) a1)))) (fun x3=>(some [(.agg (Ty.cells .bare ({ (zfa (zf a0) (zbm (zk (zf a0) a1).Prog (zk (zf a0) a1).Pc).X) with Guests:=x3 }:Bare))),(.one (.b true))]))) none) none) none) (cond (inb a1 (ln (zf a0).Guests)) (share (up (zf a0).Guests a1 (zde (zk (zf a0) a1) (zk (zf a0) a1).Ctl.Traps (zbd (zk (zf a0) a1)))) (fun x3=>(some [(.agg (Ty.cells .bare ({ (zf a0) with Guests:=x3 }:Bare))),(.one (.b true))]))) none)) (cond (inb a1 (ln (zf a0).Guests)) (share (up (zf a0).Guests a1 (zde (zk (zf a0) a1) (zk (zf a0) a1).Ctl.Traps (zbd (zk (zf a0) a1)))) (fun x3=>(some [(.agg (Ty.cells .bare ({ (zf a0) with Guests:=x3 }:Bare))),(.one (.b true))]))) none)) none)) (cond (ieq (zbd (zk (zf a0) a1)) 4) (cond (zmx (zk (zf a0) a1)) (cond (zeA (zbi (zk (zf a0) a1))) (cond (zoW (ieq (zbd (zk (zf a0) a1)) 4)) (cond (zgj (zk (zf a0) a1).Live (zbG (zbi (zk (zf a0) a1))) (zcI (ieq (zbd (zk (zf a0) a1)) 4))) (cond (cond (zd5 (zk (zf a0) a1).Live (zbG (zbi (zk (zf a0) a1))) (zcI (ieq (zbd (zk (zf a0) a1)) 4))) false true) (cond (zeA (zbi (zk (zf a0) a1))) (cond (ziR (zbG (zbi (zk (zf a0) a1))) (ieq (zbd (zk (zf a0) a1)) 4)) (cond (zcR (zk (zf a0) a1) (zej (zbG (zbi (zk (zf a0) a1))) (ieq (zbd (zk (zf a0) a1)) 4))) (cond (inb a1 (ln (zf a0).Guests)) (share (up (zf a0).Guests a1 (zcB (zk (zf a0) a1) (zej (zbG (zbi (zk (zf a0) a1))) (ieq (zbd (zk (zf a0) a1)) 4)))) (fun x3=>(some [(.agg (Ty.cells .bare ({ (zf a0) with Guests:=x3 }:Bare))),(.one (.b true))]))) none) none) none) none) (cond (ieq (zbd (zk (zf a0) a1)) 4) (cond (zdW (zbi (zk (zf a0) a1))) (cond (zfE (zf a0).Memory (zb4 (zk (zf a0) a1).Live (zbG (zbi (zk (zf a0) a1))) (zcI (ieq (zbd (zk (zf a0) a1)) 4))) (zcd (zbi (zk (zf a0) a1))) (zk (zf a0) a1).A) (cond (zo0 (zk (zf a0) a1)) (cond (inb a1 (ln (zf a0).Guests)) (share (up (zf a0).Guests a1 (zl5 (zk (zf a0) a1))) (fun x3=>(some [(.agg (Ty.cells .bare ({ (zf a0) with Memory:=(zeV (zf a0).Memory (zb4 (zk (zf a0) a1).Live (zbG (zbi (zk (zf a0) a1))) (zcI (ieq (zbd (zk (zf a0) a1)) 4))) (zcd (zbi (zk (zf a0) a1))) (zk (zf a0) a1).A),Guests:=x3 }:Bare))),(.one (.b true))]))) none) none) none) none) (cond (zdW (zbi (zk (zf a0) a1))) (cond (zkI (zf a0).Memory (zb4 (zk (zf a0) a1).Live (zbG (zbi (zk (zf a0) a1))) (zcI (ieq (zbd (zk (zf a0) a1)) 4))) (zcd (zbi (zk (zf a0) a1)))) (cond (zoV (zk (zf a0) a1) (zfX (zf a0).Memory (zb4 (zk (zf a0) a1).Live (zbG (zbi (zk (zf a0) a1))) (zcI (ieq (zbd (zk (zf a0) a1)) 4))) (zcd (zbi (zk (zf a0) a1))))) (cond (inb a1 (ln (zf a0).Guests)) (share (up (zf a0).Guests a1 (zl3 (zk (zf a0) a1) (zfX (zf a0).Memory (zb4 (zk (zf a0) a1).Live (zbG (zbi (zk (zf a0) a1))) (zcI (ieq (zbd (zk (zf a0) a1)) 4))) (zcd (zbi (zk (zf a0) a1)))))) (fun x3=>(some [(.agg (Ty.cells .bare ({ (zf a0) with Guests:=x3 }:Bare))),(.one (.b true))]))) none) none) none) none))) none) none) none) none) (cond (zmD (zk (zf a0) a1) (zk (zf a0) a1).Ctl.Traps (zbd (zk (zf a0) a1))) (cond (zgv (zk (zf a0) a1) (zk (zf a0) a1).Ctl.Traps (zbd (zk (zf a0) a1))) (cond (ieq (zbd (zk (zf a0) a1)) 5) (cond (zeU (zk (zf a0) a1).Prog (zk (zf a0) a1).Pc) (cond (zoX (zf a0) (zbm (zk (zf a0) a1).Prog (zk (zf a0) a1).Pc).X) (cond (inb a1 (ln (zfa (zf a0) (zbm (zk (zf a0) a1).Prog (zk (zf a0) a1).Pc).X).Guests)) (share (up (zfa (zf a0) (zbm (zk (zf a0) a1).Prog (zk (zf a0) a1).Pc).X).Guests a1 (zde (zk (zf a0) a1) (zk (zf a0) a1).Ctl.Traps (zbd (zk (zf a0) a1)))) (fun x3=>(some [(.agg (Ty.cells .bare ({ (zfa (zf a0) (zbm (zk (zf a0) a1).Prog (zk (zf a0) a1).Pc).X) with Guests:=x3 }:Bare))),(.one (.b true))]))) none) none) none) (cond (inb a1 (ln (zf a0).Guests)) (share (up (zf a0).Guests a1 (zde (zk (zf a0) a1) (zk (zf a0) a1).Ctl.Traps (zbd (zk (zf a0) a1)))) (fun x3=>(some [(.agg (Ty.cells .bare ({ (zf a0) with Guests:=x3 }:Bare))),(.one (.b true))]))) none)) (cond (inb a1 (ln (zf a0).Guests)) (share (up (zf a0).Guests a1 (zde (zk (zf a0) a1) (zk (zf a0) a1).Ctl.Traps (zbd (zk (zf a0) a1)))) (fun x3=>(some [(.agg (Ty.cells .bare ({ (zf a0) with Guests:=x3 }:Bare))),(.one (.b true))]))) none)) none))))))) none)) none) none) none)
theorem zHB (N:Nat)(a0:Bare)(a1:Int):evalFn (cQ zor zL zF zG) (zB []) N 12 46 [.agg (Ty.cells .bare a0),.one (.i .i64 a1)]=zpM N a0 a1:=by kernel_rfl
theorem zEt (a0:Bare)(a1:Int)(hb:zD big [.agg (Ty.cells .bare a0),.one (.i .i64 a1)])(hc:(zrp a0 a1)=true):∃N,zpM N a0 a1=some [.agg (Ty.cells .bare (zhc a0 a1)),.one (.b (zhd a0 a1))]:=by
 have hs:=zI.1 hc;have hx:=zeX a1 hs;have hz:_/\_/\_:=hs;have hg:a0.Guests.length<=1048576:=hs.2.1.1;have hw7:=zRu (gAt a0 a1);have h34:ieq (zbS (gAt a0 a1)) 3=true->ieq (zbS (gAt a0 a1)) 4=false:=fun h=>zxO h rfl
 refine ⟨0,?_⟩;unfold zpM;refine must (by first|assumption|(simp_all<;>omega)) (must (by first|assumption|(simp_all<;>omega)) (must rfl (brN (fun _=>?_) (fun _=>must rfl (brN (fun _=>?_) (fun _=>br (fun _=>?_) (fun _=>br (fun _=>must (by first|assumption|(simp_all<;>omega)) (must (by first|assumption|(simp_all<;>omega)) (shr ?_))) (fun _=>br (fun _=>must (by first|assumption|(simp_all<;>omega)) (must (by first|assumption|(simp_all<;>omega)) (shr ?_))) (fun _=>br (fun _=>br (fun _=>must rfl (must rfl (must rfl (must rfl (brN (fun _=>must rfl (must rfl (must (by first|assumption|(simp_all<;>omega)) (must (by first|assumption|(simp_all<;>omega)) (shr ?_))))) (fun _=>br (fun _=>must rfl (must (by first|assumption|(simp_all<;>omega)) (must (by first|assumption|(simp_all<;>omega)) (must (by first|assumption|(simp_all<;>omega)) (shr ?_))))) (fun _=>must rfl (must rfl (must (by first|assumption|(simp_all<;>omega)) (must (by first|assumption|(simp_all<;>omega)) (shr ?_))))))))))) (fun _=>must (by first|assumption|(simp_all<;>omega)) (br (fun _=>br (fun _=>must rfl (must (by first|assumption|(simp_all<;>omega)) (must (by first|assumption|(simp_all<;>omega)) (shr ?_)))) (fun _=>must (by first|assumption|(simp_all<;>omega)) (shr ?_))) (fun _=>must (by first|assumption|(simp_all<;>omega)) (shr ?_))))) (fun _=>br (fun _=>must rfl (must rfl (must rfl (must rfl (brN (fun _=>must rfl (must rfl (must (by first|assumption|(simp_all<;>omega)) (must (by first|assumption|(simp_all<;>omega)) (shr ?_))))) (fun _=>br (fun _=>must rfl (must (by first|assumption|(simp_all<;>omega)) (must (by first|assumption|(simp_all<;>omega)) (must (by first|assumption|(simp_all<;>omega)) (shr ?_))))) (fun _=>must rfl (must rfl (must (by first|assumption|(simp_all<;>omega)) (must (by first|assumption|(simp_all<;>omega)) (shr ?_))))))))))) (fun _=>must (by first|assumption|(simp_all<;>omega)) (br (fun _=>br (fun _=>must rfl (must (by first|assumption|(simp_all<;>omega)) (must (by first|assumption|(simp_all<;>omega)) (shr ?_)))) (fun _=>must (by first|assumption|(simp_all<;>omega)) (shr ?_))) (fun _=>must (by first|assumption|(simp_all<;>omega)) (shr ?_))))))))))))))
 all_goals first|rfl|(simp only [*,zhc,zhd,zen,zfg,stepped,zgw,zjD,zcr,zd7,zc7,cT,cF]<;>rfl)|simp_all [Ty.cells,zhc,zhd,zen,zfg,stepped,zgw,zjD,zcr,zd7,zc7]
theorem zp7:Holds Tryz.prog 46 zhF:=zn zgN zA zq zu (zC (by kernel_rfl)) fun avs rs hb h=>by
 unfold zhF at h;split at h
 ·obtain ⟨hc,rfl⟩:=zi h;exact (fin2 zEt zHB hc hb :)
 ·cases h
def brought (n a b:Int):Int:=bif ilt n a then a else (cond (ilt b a) a (zct n b))
@[simp,reducible] def ztk (_ _ _:Int):Bool:=true
@[simp,reducible] def zmM (n a b:Int):Int:=brought n a b
def ziP:List AV->Option (Bool×List AV)
 | [.one (.i .i64 b),.one (.i .i64 c),.one (.i .i64 d)]=>some ((ztk b c d),[.one (.i .i64 (zmM b c d))])
 | _=>none
def zsl (N:Nat)(a0 a1 a2:Int):Option Ans :=
 (cond (ilt a0 a1) (some [(.one (.i .i64 a1))]) (cond (ilt a2 a1) (some [(.one (.i .i64 a1))]) (some [(.one (.i .i64 (zct a0 a2)))])))
theorem zJO (N:Nat)(a0 a1 a2:Int):evalFn (cQ zor zL zF zG) (zB []) N 12 110 [.one (.i .i64 a0),.one (.i .i64 a1),.one (.i .i64 a2)]=zsl N a0 a1 a2:=by kernel_rfl
theorem zGl (a0 a1 a2:Int)(hb:zD big [.one (.i .i64 a0),.one (.i .i64 a1),.one (.i .i64 a2)])(hc:(ztk a0 a1 a2)=true):∃N,zsl N a0 a1 a2=some [.one (.i .i64 (zmM a0 a1 a2))]:=by
 refine ⟨0,?_⟩;unfold zsl;refine br (fun _=>?_) (fun _=>br (fun _=>?_) (fun _=>?_))
 all_goals first|rfl|(simp only [*,zmM,brought,cT,cF]<;>rfl)|simp_all [Ty.cells,zmM,brought]
theorem zrQ:Holds Tryz.prog 110 ziP:=zn zgN zA zq zu (zC (by kernel_rfl)) fun avs rs hb h=>by
 unfold ziP at h;split at h
 ·obtain ⟨hc,rfl⟩:=zi h;exact (zd1 zGl zJO hc hb :)
 ·cases h
@[simp,reducible] def zmz (_ _ _:Int):Bool:=true
@[simp,reducible] def zmV (n a b:Int):Int:=brought n a b
def ziQ:List AV->Option (Bool×List AV)
 | [.one (.i .i64 b),.one (.i .i64 c),.one (.i .i64 d)]=>some ((zmz b c d),[.one (.i .i64 (zmV b c d))])
 | _=>none
def zsO (N:Nat)(a0 a1 a2:Int):Option Ans :=
 (cond (ilt a2 a1) (some [(.one (.i .i64 a1))]) (cond (ilt a0 a1) (some [(.one (.i .i64 a1))]) (cond (igt a0 a2) (some [(.one (.i .i64 a2))]) (some [(.one (.i .i64 a0))]))))
theorem zKh (N:Nat)(a0 a1 a2:Int):evalFn (cQ zor zL zF zG) (zB []) N 12 76 [.one (.i .i64 a0),.one (.i .i64 a1),.one (.i .i64 a2)]=zsO N a0 a1 a2:=by kernel_rfl
theorem zGO (a0 a1 a2:Int)(hb:zD big [.one (.i .i64 a0),.one (.i .i64 a1),.one (.i .i64 a2)])(hc:(zmz a0 a1 a2)=true):∃N,zsO N a0 a1 a2=some [.one (.i .i64 (zmV a0 a1 a2))]:=by
 refine ⟨0,?_⟩;unfold zsO;unfold zmV brought zct;cases h1:ilt a2 a1<;>cases h2:ilt a0 a1<;>cases h3:igt a0 a2<;>simp [igt] at * <;> omega
theorem zrR:Holds Tryz.prog 76 ziQ:=zn zgN zA zq zu (zC (by kernel_rfl)) fun avs rs hb h=>by
 unfold ziQ at h;split at h
 ·obtain ⟨hc,rfl⟩:=zi h;exact (zd1 zGO zKh hc hb :)
 ·cases h
@[simp,reducible] def ziE (l:List Bare):Bool:=pc (zgz l)
@[simp,reducible] def zbT (l:List Bare):List Bare:=l
def zgI:List AV->Option (Bool×List AV)
 | [.one (.s .bare b)]=>some ((ziE b),[.one (.s .bare (zbT b))])
 | _=>none
def zm5 (N:Nat)(a0:List Bare):Option Ans :=
 (iter (σ:=(Int×(Int×((List Bare)×((List Bare)×Unit))))) N (fun r2 s3=>(cond (ilt s3.2.1 s3.1) (cond (inb s3.2.1 (ln s3.2.2.2.1)) (cond (zS (ix s3.2.2.2.1 s3.2.1 zJ)) (cond (few (ln (ap s3.2.2.1 [(zH (ix s3.2.2.2.1 s3.2.1 zJ))]))) (r2 (s3.1,((zy .i64 s3.2.1 1),((ap s3.2.2.1 [(zH (ix s3.2.2.2.1 s3.2.1 zJ))]),(s3.2.2.2.1,()))))) none) none) none) (some [(.one (.s .bare s3.2.2.1))]))) ((ln a0),(0,([],(a0,())))))
def zCM:FuncId->Nat->Option Tmpl:=zB [(62,0,{ n:=20,tm:=[(3,.sl 0 []),(7,.sl 1 []),(8,.i .i64),(9,.i .i64)],lo:=[],ro:=[(0,.bare,true),(1,.bare,false)] })]
theorem zEM (N:Nat)(a0:List Bare):evalFn (cQ zor zL zF zG) zCM N 12 62 [.one (.s .bare a0)]=zm5 N a0:=by kernel_rfl
theorem zBM (a0:List Bare)(hb:zD big [.one (.s .bare a0)])(hc:(ziE a0)=true):∃N,zm5 N a0=some [.one (.s .bare (zbT a0))]:=by
 have hs:=zI.1 hc;have hl:=zcP hs.1;refine ⟨NN,?_⟩;have hNN:∀{n:Nat},n<=big->n<NN:=fun h=>zb7 h;generalize NN=N at hNN ⊢;unfold zm5;refine (zbI a0 (fun i (t:(List Bare))=>((ln a0),(i:Int),t,a0,())) _ (fun _ x acc κ=>bif zS x then (cond (few (ln (ap acc [zH x]))) (κ (ap acc [zH x])) none) else none) (fun (t:(List Bare))=>(some [(.one (.s .bare t))])) (fun i hi t rec=>?_) (fun t rec=>?_) _ ([]) (hNN hl.1)).trans ?_
 ·simp only [zbr hi,zbn hi,zbx hi,zbt hi hl.1,cT]
 ·simp only [zbe,cF]
 exact ziU zS zH _ a0 0 [] (fun x hx=>⟨zbb (hs.2 x hx),rfl⟩) (by simpa using hl.2)
theorem zol:Holds Tryz.prog 62 zgI:=zn zgN zA zq zu (zC (by kernel_rfl)) fun avs rs hb h=>by
 unfold zgI at h;split at h
 ·obtain ⟨hc,rfl⟩:=zi h;exact (fin1 zBM zEM hc hb :)
 ·cases h
@[simp,reducible] def zrx (l:List Bare):Bool:=pc (zgz l)
@[simp,reducible] def zK (l:List Bare):List Bare:=l
def zhG:List AV->Option (Bool×List AV)
 | [.one (.s .bare b)]=>some ((zrx b),[.one (.s .bare (zK b))])
 | _=>none
def zpT (N:Nat)(a0:List Bare):Option Ans :=
 (iter (σ:=(Int×((List Bare)×((List Bare)×Unit)))) N (fun r2 s3=>(cond (ilt s3.1 (ln s3.2.1)) (cond (inb s3.1 (ln s3.2.1)) (cond (zcb (ix s3.2.1 s3.1 zJ)) (cond (few (ln (ap s3.2.2.1 [(zf (ix s3.2.1 s3.1 zJ))]))) (r2 ((zy .i64 s3.1 1),(s3.2.1,((ap s3.2.2.1 [(zf (ix s3.2.1 s3.1 zJ))]),())))) none) none) none) (some [(.one (.s .bare s3.2.2.1))]))) (0,(a0,([],()))))
def zFl:FuncId->Nat->Option Tmpl:=zB [(42,0,{ n:=21,tm:=[(0,.sl 0 []),(3,.sl 1 []),(4,.i .i64)],lo:=[],ro:=[(0,.bare,false),(1,.bare,true)] })]
theorem zHK (N:Nat)(a0:List Bare):evalFn (cQ zor zL zF zG) zFl N 12 42 [.one (.s .bare a0)]=zpT N a0:=by kernel_rfl
theorem zEC (a0:List Bare)(hb:zD big [.one (.s .bare a0)])(hc:(zrx a0)=true):∃N,zpT N a0=some [.one (.s .bare (zK a0))]:=by
 have hs:=zI.1 hc;have hl:=zcP hs.1;refine ⟨NN,?_⟩;have hNN:∀{n:Nat},n<=big->n<NN:=fun h=>zb7 h;generalize NN=N at hNN ⊢;unfold zpT;refine (zbI a0 (fun i (t:(List Bare))=>((i:Int),a0,t,())) _ (fun _ x acc κ=>bif zcb x then (cond (few (ln (ap acc [zf x]))) (κ (ap acc [zf x])) none) else none) (fun (t:(List Bare))=>(some [(.one (.s .bare t))])) (fun i hi t rec=>?_) (fun t rec=>?_) _ ([]) (hNN hl.1)).trans ?_
 ·simp only [zbr hi,zbn hi,zbx hi,zbt hi hl.1,cT]
 ·simp only [zbe,cF]
 exact ziU zcb zf _ a0 0 [] (fun x hx=>⟨zbb (hs.2 x hx),rfl⟩) (by simpa using hl.2)
theorem zp8:Holds Tryz.prog 42 zhG:=zn zgN zA zq zu (zC (by kernel_rfl)) fun avs rs hb h=>by
 unfold zhG at h;split at h
 ·obtain ⟨hc,rfl⟩:=zi h;exact (fin1 zEC zHK hc hb :)
 ·cases h
def zRh:zbu:=[(114,zhE),(46,zhF),(62,zgI),(42,zhG),(110,ziP),(76,ziQ)]++zor
theorem zP8:zbE zRh:=zl zp6 (zl zp7 (zl zol (zl zp8 (zl zrQ (zl zrR zgN)))))
structure RI (a:List Bare) (i:Nat) (l:List Bare):Prop where
 len:l.length=a.length
 sm:zgz l
 eq:∀k,i<=k->l[k]?=a[k]?
theorem RI.up {a l:List Bare}{i:Nat}(h:RI a i l)(x:Bare)(hx:SmB x):RI a (i+1) (up l (i:Int) x) :=
 ⟨by rw [zrB];exact h.len,zNb h.sm hx,fun k hk=>by rw [zSR (by omega)];exact h.eq k (by omega)⟩
structure RJ (l:List Bare) (i:Nat) (l':List Bare):Prop where
 len:l'.length=l.length
 sm:SmB (ix l' (i:Int) (Ty.dflt .bare))
 up:∀x,E.up l' (i:Int) x=E.up l (i:Int) x
theorem RJ.next {l l':List Bare}{i:Nat}(h:RJ l i l')(hi:i<l.length)(x:Bare)(hx:SmB x):RJ l i (E.up l' (i:Int) x) :=
 ⟨by rw [zrB];exact h.len,by rw [zTm (by rw [h.len];exact hi)];exact hx,fun y=>by rw [zTz];exact h.up y⟩
def zRi:zbu:=zRh
theorem zP9:∀f run,zx zRi f=some run->Holds Tryz.prog f run:=zP8
def zNt:zbu:=zRi
theorem zIz:∀f run,zx zNt f=some run->Holds Tryz.prog f run:=zP9
end
end Go.Proofs.YtldknngdnednbaaGreat.E
